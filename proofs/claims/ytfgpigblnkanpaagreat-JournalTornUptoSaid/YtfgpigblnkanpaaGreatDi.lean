/- A disk in memory, over this translation: its cells, its two tables, its files, what waits for a flush; all blocks apart. No conditions. -/
import Derived.Test.YtfgpigblnkanpaaGreatDm
import Derived.Test.YtfgpigblnkanpaaGreatDkB
namespace Go.Proofs.YtfgpigblnkanpaaGreat
open Go.RowKit Go.Maps

/-- Where a disk's parts lie: its tables, its files, what waits (a row of values, over boxed variables X), its fate. -/
structure Lay where
  bn : Nat
  bs : Nat
  F : List Nat
  X : List Nat
  vs : List Value
  vp : Value
  vf : Value
def Lay.foot (L : Lay) (g : Nat) : List Nat := g :: L.bn :: L.bs :: (L.F ++ (L.X ++ (L.vp.ownBlock.toList ++ L.vf.ownBlock.toList)))
/-- What waits for a flush, as the program holds it: a function value over boxed variables. -/
def PnAt (w : World) (F X : List Nat) : Pn → Value → Prop
  | .cr n f, v => ∃ b c, v = .func (.func 30) #[] #[.pointer (some ⟨b, 0, none⟩), .pointer (some ⟨c, 0, none⟩)] ∧ b ∈ X ∧ c ∈ X ∧ Blk w b [.pointer (some ⟨fb F f, 0, none⟩)] 63 ∧ Blk w c [strV n] 9
  | .rn o n, v => ∃ b c, v = .func (.func 75) #[] #[.pointer (some ⟨b, 0, none⟩), .pointer (some ⟨c, 0, none⟩)] ∧ b ∈ X ∧ c ∈ X ∧ Blk w b [strV o] 9 ∧ Blk w c [strV n] 9
  | .rm n, v => ∃ c, v = .func (.func 54) #[] #[.pointer (some ⟨c, 0, none⟩)] ∧ c ∈ X ∧ Blk w c [strV n] 9
/-- All that waits. -/
def PnsAt (w : World) (F X : List Nat) : List Pn → List Value → Prop
  | [], [] => True
  | p :: l, v :: vs => PnAt w F X p v ∧ PnsAt w F X l vs
  | _, _ => False
def dkCells (L : Lay) (d : Dk) : List Value := [.bool d.off, .int .i64 d.room, .map (some L.bn), .map (some L.bs), L.vp, .int .i64 d.armed, L.vf]
def flCells (f : Fl) : List Value := [strV f.data, .int .i64 f.safe]
/-- All blocks are apart. -/
structure Apt (L : Lay) (g : Nat) : Prop where
  gbn : g ≠ L.bn
  gbs : g ≠ L.bs
  gF : g ∉ L.F
  gX : g ∉ L.X
  gvp : ∀ k, L.vp.ownBlock = some k → g ≠ k
  gvf : ∀ k, L.vf.ownBlock = some k → g ≠ k
  nbs : L.bn ≠ L.bs
  nF : L.bn ∉ L.F
  nX : L.bn ∉ L.X
  nvp : ∀ k, L.vp.ownBlock = some k → L.bn ≠ k
  nvf : ∀ k, L.vf.ownBlock = some k → L.bn ≠ k
  sF : L.bs ∉ L.F
  sX : L.bs ∉ L.X
  svp : ∀ k, L.vp.ownBlock = some k → L.bs ≠ k
  svf : ∀ k, L.vf.ownBlock = some k → L.bs ≠ k
  FF : L.F.Nodup
  FX : ∀ k ∈ L.X, k ∉ L.F
  Fvp : ∀ k, L.vp.ownBlock = some k → k ∉ L.F
  Fvf : ∀ k, L.vf.ownBlock = some k → k ∉ L.F
  Xvp : ∀ k, L.vp.ownBlock = some k → k ∉ L.X
  pf : ∀ k, L.vp.ownBlock = some k → L.vf.ownBlock ≠ some k
structure DiskIn (w : World) (g : Nat) (L : Lay) (d : Dk) (N : Nat) : Prop where
  blk : Blk w g (dkCells L d) 47
  now : MapIs w L.bn d.now L.F N
  safe : MapIs w L.bs d.safe L.F (N - d.pend.length)
  len : L.F.length = d.files.length
  files : ∀ i, i < d.files.length → Blk w (fb L.F i) (flCells (fat d.files i)) 62
  row : w.ownsRow 0 67 1 L.vp L.vs.length L.vs
  pend : PnsAt w L.F L.X d.pend L.vs
  boxes : ∀ x ∈ L.X, x < w.heap.size
  fate : w.ownsRow 0 3 1 L.vf d.fate.length (d.fate.map (Value.int .i64))
  apart : Apt L g

theorem Blk.same {w w' : World} {b : Nat} {xs : List Value} {t : TypeId} (h : Blk w b xs t) (he : w'.heap[b]? = w.heap[b]?) : Blk w' b xs t := he.trans h
theorem ownsRow_same {w w' : World} {base : Nat} {e : TypeId} {size : Nat} {v : Value} {n : Nat} {xs : List Value} (h : w.ownsRow base e size v n xs) (he : ∀ k, v.ownBlock = some k → w'.heap[k]? = w.heap[k]?) : w'.ownsRow base e size v n xs := by
  refine ⟨h.1, ?_⟩
  rcases h.2 with hn | ⟨g, cap, cur, rfl, hb, hg, rest⟩
  · exact Or.inl hn
  · exact Or.inr ⟨g, cap, cur, rfl, hb, (he g rfl).trans hg, rest⟩
theorem getD_mem {F : List Nat} {i : Nat} (h : i < F.length) : fb F i ∈ F := by
  unfold fb
  rw [List.getD_eq_getElem?_getD, List.getElem?_eq_getElem h]
  exact List.getElem_mem h
theorem getD_inj {F : List Nat} (hn : F.Nodup) {i j : Nat} (hi : i < F.length) (hj : j < F.length) (h : fb F i = fb F j) : i = j := by
  unfold fb at h
  rw [List.getD_eq_getElem?_getD, List.getD_eq_getElem?_getD, List.getElem?_eq_getElem hi, List.getElem?_eq_getElem hj] at h
  exact (List.getElem_inj hn).1 h

section
variable {w w' : World} {g : Nat} {L : Lay} {d : Dk} {N : Nat}
theorem foot_g : g ∈ L.foot g := List.mem_cons_self
theorem foot_bn : L.bn ∈ L.foot g := List.mem_cons_of_mem _ List.mem_cons_self
theorem foot_bs : L.bs ∈ L.foot g := List.mem_cons_of_mem _ (List.mem_cons_of_mem _ List.mem_cons_self)
theorem foot_F {k : Nat} (h : k ∈ L.F) : k ∈ L.foot g := List.mem_cons_of_mem _ (List.mem_cons_of_mem _ (List.mem_cons_of_mem _ (List.mem_append_left _ h)))
theorem foot_vp {k : Nat} (h : L.vp.ownBlock = some k) : k ∈ L.foot g := List.mem_cons_of_mem _ (List.mem_cons_of_mem _ (List.mem_cons_of_mem _ (List.mem_append_right _ (List.mem_append_right _ (List.mem_append_left _ (by rw [h]; simp))))))
theorem foot_X {k : Nat} (h : k ∈ L.X) : k ∈ L.foot g := List.mem_cons_of_mem _ (List.mem_cons_of_mem _ (List.mem_cons_of_mem _ (List.mem_append_right _ (List.mem_append_left _ h))))
theorem foot_vf {k : Nat} (h : L.vf.ownBlock = some k) : k ∈ L.foot g := List.mem_cons_of_mem _ (List.mem_cons_of_mem _ (List.mem_cons_of_mem _ (List.mem_append_right _ (List.mem_append_right _ (List.mem_append_right _ (by rw [h]; simp))))))
theorem foot_cases {k : Nat} (h : k ∈ L.foot g) : k = g ∨ k = L.bn ∨ k = L.bs ∨ k ∈ L.F ∨ k ∈ L.X ∨ L.vp.ownBlock = some k ∨ L.vf.ownBlock = some k := by
  unfold Lay.foot at h
  simp only [List.mem_cons, List.mem_append, Option.mem_toList] at h
  exact h
theorem PnAt.same {F X : List Nat} {p : Pn} {v : Value} (h : PnAt w F X p v) (hs : ∀ k ∈ X, w'.heap[k]? = w.heap[k]?) : PnAt w' F X p v := by
  cases p with
  | cr n f =>
    obtain ⟨b, c, e, hb, hc, h1, h2⟩ := h
    exact ⟨b, c, e, hb, hc, h1.same (hs b hb), h2.same (hs c hc)⟩
  | rn o n =>
    obtain ⟨b, c, e, hb, hc, h1, h2⟩ := h
    exact ⟨b, c, e, hb, hc, h1.same (hs b hb), h2.same (hs c hc)⟩
  | rm n =>
    obtain ⟨c, e, hc, h2⟩ := h
    exact ⟨c, e, hc, h2.same (hs c hc)⟩
theorem PnsAt.same {F X : List Nat} : ∀ {l : List Pn} {vs : List Value}, PnsAt w F X l vs → (∀ k ∈ X, w'.heap[k]? = w.heap[k]?) → PnsAt w' F X l vs
  | [], [], _, _ => trivial
  | _ :: _, _ :: _, h, hs => ⟨h.1.same hs, PnsAt.same h.2 hs⟩
  | [], _ :: _, h, _ => h.elim
  | _ :: _, [], h, _ => h.elim
theorem PnsAt.len {F X : List Nat} : ∀ {l : List Pn} {vs : List Value}, PnsAt w F X l vs → vs.length = l.length
  | [], [], _ => rfl
  | _ :: _, _ :: _, h => by rw [List.length_cons, List.length_cons, PnsAt.len h.2]
  | [], _ :: _, h => h.elim
  | _ :: _, [], h => h.elim
theorem PnsAt.at {F X : List Nat} : ∀ {l : List Pn} {vs : List Value}, PnsAt w F X l vs → ∀ (k : Nat) (p : Pn), l[k]? = some p → ∃ v, vs[k]? = some v ∧ PnAt w F X p v
  | [], [], _, k, p, hp => by simp at hp
  | q :: l, v :: vs, h, 0, p, hp => by
    have e : q = p := by simpa using hp
    exact ⟨v, rfl, e ▸ h.1⟩
  | q :: l, v :: vs, h, k + 1, p, hp => by
    obtain ⟨u, hu, hP⟩ := PnsAt.at h.2 k p (by simpa using hp)
    exact ⟨u, by simpa using hu, hP⟩
  | [], _ :: _, h, _, _, _ => h.elim
  | _ :: _, [], h, _, _, _ => h.elim
theorem PnAt.more {F X : List Nat} {p : Pn} {v : Value} (h : PnAt w F X p v) (hp : ∀ n f, p = .cr n f → f < F.length) (F' X' : List Nat) : PnAt w (F ++ F') (X ++ X') p v := by
  cases p with
  | cr n f =>
    obtain ⟨b, c, e, hb, hc, h1, h2⟩ := h
    refine ⟨b, c, e, List.mem_append_left _ hb, List.mem_append_left _ hc, ?_, h2⟩
    unfold fb at *
    rw [List.getD_eq_getElem?_getD, List.getElem?_append_left (hp n f rfl), ← List.getD_eq_getElem?_getD]
    exact h1
  | rn o n =>
    obtain ⟨b, c, e, hb, hc, h1, h2⟩ := h
    exact ⟨b, c, e, List.mem_append_left _ hb, List.mem_append_left _ hc, h1, h2⟩
  | rm n =>
    obtain ⟨c, e, hc, h2⟩ := h
    exact ⟨c, e, List.mem_append_left _ hc, h2⟩
theorem PnsAt.more {F X : List Nat} : ∀ {l : List Pn} {vs : List Value}, PnsAt w F X l vs → (∀ n f, Pn.cr n f ∈ l → f < F.length) → ∀ (F' X' : List Nat), PnsAt w (F ++ F') (X ++ X') l vs
  | [], [], _, _, _, _ => trivial
  | _ :: _, _ :: _, h, hp, F', X' => ⟨h.1.more (fun n f e => hp n f (by rw [e]; exact List.mem_cons_self)) F' X', PnsAt.more h.2 (fun n f e => hp n f (List.mem_cons_of_mem _ e)) F' X'⟩
  | [], _ :: _, h, _, _, _ => h.elim
  | _ :: _, [], h, _, _, _ => h.elim
theorem PnAt.wider {F X : List Nat} {p : Pn} {v : Value} (h : PnAt w F X p v) (X' : List Nat) : PnAt w F (X ++ X') p v := by
  cases p with
  | cr n f =>
    obtain ⟨b, c, e, hb, hc, h1, h2⟩ := h
    exact ⟨b, c, e, List.mem_append_left _ hb, List.mem_append_left _ hc, h1, h2⟩
  | rn o n =>
    obtain ⟨b, c, e, hb, hc, h1, h2⟩ := h
    exact ⟨b, c, e, List.mem_append_left _ hb, List.mem_append_left _ hc, h1, h2⟩
  | rm n =>
    obtain ⟨c, e, hc, h2⟩ := h
    exact ⟨c, e, List.mem_append_left _ hc, h2⟩
theorem PnsAt.wider {F X : List Nat} : ∀ {l : List Pn} {vs : List Value}, PnsAt w F X l vs → ∀ (X' : List Nat), PnsAt w F (X ++ X') l vs
  | [], [], _, _ => trivial
  | _ :: _, _ :: _, h, X' => ⟨h.1.wider X', PnsAt.wider h.2 X'⟩
  | [], _ :: _, h, _ => h.elim
  | _ :: _, [], h, _ => h.elim
theorem PnsAt.snoc {F X : List Nat} {p : Pn} {v : Value} (hv : PnAt w F X p v) : ∀ {l : List Pn} {vs : List Value}, PnsAt w F X l vs → PnsAt w F X (l ++ [p]) (vs ++ [v])
  | [], [], _ => ⟨hv, trivial⟩
  | _ :: _, _ :: _, h => ⟨h.1, PnsAt.snoc hv h.2⟩
  | [], _ :: _, h => h.elim
  | _ :: _, [], h => h.elim

theorem DiskIn.kept (h : DiskIn w g L d N) (hz : w.heap.size ≤ w'.heap.size) (hs : ∀ k ∈ L.foot g, w'.heap[k]? = w.heap[k]?) : DiskIn w' g L d N :=
  ⟨h.blk.same (hs _ foot_g), h.now.same (hs _ foot_bn), h.safe.same (hs _ foot_bs), h.len, fun i hi => (h.files i hi).same (hs _ (foot_F (getD_mem (by rw [h.len]; exact hi)))), ownsRow_same h.row fun k hk => hs _ (foot_vp hk), h.pend.same fun k hk => hs _ (foot_X hk), fun x hx => Nat.lt_of_lt_of_le (h.boxes x hx) hz, ownsRow_same h.fate fun k hk => hs _ (foot_vf hk), h.apart⟩
theorem DiskIn.lt (h : DiskIn w g L d N) : ∀ k ∈ L.foot g, k < w.heap.size := by
  intro k hk
  rcases foot_cases hk with rfl | rfl | rfl | hk | hk | hk | hk
  · exact h.blk.lt
  · exact h.now.lt
  · exact h.safe.lt
  · obtain ⟨i, hi, rfl⟩ := List.getElem_of_mem hk
    have := (h.files i (by rw [← h.len]; exact hi)).lt
    unfold fb at this
    rw [List.getD_eq_getElem?_getD, List.getElem?_eq_getElem hi] at this
    exact this
  · exact h.boxes k hk
  · exact (h.row.lt k hk).2
  · exact (h.fate.lt k hk).2
theorem DiskIn.below (h : DiskIn w g L d N) (hb : Below w.heap.size w w') : DiskIn w' g L d N := h.kept hb.size fun k hk => hb.block k (h.lt k hk)
theorem DiskIn.alloc (h : DiskIn w g L d N) (o : Obj) : DiskIn (w.alloc o) g L d N := h.below ((Below.refl _ _).alloc (Nat.le_refl _) o)
theorem DiskIn.drew (h : DiskIn w g L d N) : DiskIn w.drew g L d N := h.kept (Nat.le_refl _) fun _ _ => rfl
theorem DiskIn.drewN (h : DiskIn w g L d N) (n : Nat) : DiskIn (w.drewN n) g L d N := h.kept (Nat.le_refl _) fun _ _ => rfl
theorem DiskIn.setO (h : DiskIn w g L d N) (a : Addr) (ha : a.block ∉ L.foot g) (v : Value) : DiskIn (w.setCell a v) g L d N := h.kept (by simp [World.setCell]) fun k hk => Below.heap_setCell _ _ _ _ (fun e => ha (e ▸ hk))
theorem DiskIn.mono (h : DiskIn w g L d N) {M : Nat} (hm : N ≤ M) : DiskIn w g L d M := ⟨h.blk, h.now.mono hm, h.safe.mono (by omega), h.len, h.files, h.row, h.pend, h.boxes, h.fate, h.apart⟩
/-- Another disk's turn leaves it. -/
theorem DiskIn.other (h : DiskIn w g L d N) {A B : List Nat} (hs : Stp A B w w') (hA : ∀ k ∈ L.foot g, k ∉ A) : DiskIn w' g L d N := h.kept hs.size fun k hk => hs.block k (h.lt k hk) (hA k hk)
/-- A file is written. -/
theorem DiskIn.setFile (h : DiskIn w g L d N) {i : Nat} {f : Fl} (hi : i < d.files.length) (hb : Blk w' (fb L.F i) (flCells f) 62) (hz : w.heap.size ≤ w'.heap.size) (hs : ∀ k ∈ L.foot g, k ≠ fb L.F i → w'.heap[k]? = w.heap[k]?) : DiskIn w' g L { d with files := d.files.set i f } N := by
  have ap := h.apart
  have hiF : i < L.F.length := by rw [h.len]; exact hi
  have hm := getD_mem hiF
  refine ⟨h.blk.same (hs _ foot_g fun e => ap.gF (e ▸ hm)), h.now.same (hs _ foot_bn fun e => ap.nF (e ▸ hm)), h.safe.same (hs _ foot_bs fun e => ap.sF (e ▸ hm)), by rw [h.len]; exact List.length_set.symm, ?_, ownsRow_same h.row fun k hk => hs _ (foot_vp hk) fun e => ap.Fvp k hk (e ▸ hm), h.pend.same fun k hk => hs _ (foot_X hk) fun e => ap.FX k hk (e ▸ hm), fun x hx => Nat.lt_of_lt_of_le (h.boxes x hx) hz, ownsRow_same h.fate fun k hk => hs _ (foot_vf hk) fun e => ap.Fvf k hk (e ▸ hm), h.apart⟩
  intro j hj
  have hj' : j < d.files.length := by rw [← List.length_set (i := i) (a := f)]; exact hj
  show Blk w' (fb L.F j) (flCells (fat (d.files.set i f) j)) _
  rw [fat_set _ _ _ _ hi]
  by_cases e : i = j
  · rw [if_pos e, ← e]; exact hb
  · rw [if_neg e]
    exact (h.files j hj').same (hs _ (foot_F (getD_mem (by rw [h.len]; exact hj'))) fun e2 => e (getD_inj ap.FF hiF (by rw [h.len]; exact hj') e2.symm))
/-- The disk's own cells are written: off, armed. -/
theorem DiskIn.setHead (h : DiskIn w g L d N) {d' : Dk} (h1 : d'.now = d.now) (h2 : d'.safe = d.safe) (h3 : d'.files = d.files) (h4 : d'.pend = d.pend) (h5 : d'.fate = d.fate) (hb : Blk w' g (dkCells L d') 47) (hz : w.heap.size ≤ w'.heap.size) (hs : ∀ k ∈ L.foot g, k ≠ g → w'.heap[k]? = w.heap[k]?) : DiskIn w' g L d' N := by
  have ap := h.apart
  exact ⟨hb, by rw [h1]; exact h.now.same (hs _ foot_bn fun e => ap.gbn e.symm), by rw [h2, h4]; exact h.safe.same (hs _ foot_bs fun e => ap.gbs e.symm), by rw [h3]; exact h.len, by rw [h3]; exact fun i hi => (h.files i hi).same (hs _ (foot_F (getD_mem (by rw [h.len]; exact hi))) fun e => ap.gF (e ▸ getD_mem (by rw [h.len]; exact hi))), ownsRow_same h.row fun k hk => hs _ (foot_vp hk) fun e => ap.gvp k hk e.symm, by rw [h4]; exact h.pend.same fun k hk => hs _ (foot_X hk) fun e => ap.gX (e ▸ hk), fun x hx => Nat.lt_of_lt_of_le (h.boxes x hx) hz, by rw [h5]; exact ownsRow_same h.fate fun k hk => hs _ (foot_vf hk) fun e => ap.gvf k hk e.symm, h.apart⟩
/-- The table of now is written. -/
theorem DiskIn.setNow (h : DiskIn w g L d N) {t : Tb} {M : Nat} (hM : N ≤ M) (hb : MapIs w' L.bn t L.F M) (hz : w.heap.size ≤ w'.heap.size) (hs : ∀ k ∈ L.foot g, k ≠ L.bn → w'.heap[k]? = w.heap[k]?) : DiskIn w' g L { d with now := t } M := by
  have ap := h.apart
  exact ⟨h.blk.same (hs _ foot_g ap.gbn), hb, (h.safe.same (hs _ foot_bs fun e => ap.nbs e.symm)).mono (by show N - d.pend.length ≤ M - d.pend.length; omega), h.len, fun i hi => (h.files i hi).same (hs _ (foot_F (getD_mem (by rw [h.len]; exact hi))) fun e => ap.nF (e ▸ getD_mem (by rw [h.len]; exact hi))), ownsRow_same h.row fun k hk => hs _ (foot_vp hk) fun e => ap.nvp k hk e.symm, h.pend.same fun k hk => hs _ (foot_X hk) fun e => ap.nX (e ▸ hk), fun x hx => Nat.lt_of_lt_of_le (h.boxes x hx) hz, ownsRow_same h.fate fun k hk => hs _ (foot_vf hk) fun e => ap.nvf k hk e.symm, h.apart⟩
end
end Go.Proofs.YtfgpigblnkanpaaGreat
