/- What a journal's play keeps between its calls. -/
import Derived.Test.YtfgpigblnkanpaaGreatDoorCi
import Derived.Test.YtfgpigblnkanpaaGreatDoorJr
namespace Go.Proofs.YtfgpigblnkanpaaGreatDoor
open Go.RowKit Go.Maps Go.Shelf
set_option linter.unusedVariables false
set_option linter.unusedSimpArgs false

section
variable {w0 w w' : World} {K A : List Nat} {jb g : Nat} {d : Dk} {N : Nat} {nm : Nm} {n : Nat} {c : Bool}
theorem Jl.lessK (h : Jl w0 w K A jb g d N nm n c) {M : List Nat} (hM : ∀ k ∈ M, k ∈ K) : Jl w0 w M A jb g d N nm n c := ⟨h.m.less (fun k hk => by
  rcases List.mem_cons.1 hk with rfl | hk
  · exact List.mem_cons_self
  · exact List.mem_cons_of_mem _ (hM k hk)), h.j, h.base, fun hm => h.out (hM _ hm), h.len⟩
theorem Jl.moreK (h : Jl w0 w K A jb g d N nm n c) (hb : Below w.heap.size w w') {ab : Nat} (h1 : w.heap.size ≤ ab) (h2 : ab < w'.heap.size) : Jl w0 w' (ab :: K) A jb g d N nm n c :=
  ⟨(h.m.add hb [ab] (fun k hk => by simp at hk; subst hk; exact ⟨h1, h2⟩)).less (fun k hk => by
      rcases List.mem_cons.1 hk with rfl | hk
      · simp
      · rcases List.mem_cons.1 hk with rfl | hk
        · simp
        · simp [hk]), h.j.below hb h.j.lt, h.base, fun hm => by
      rcases List.mem_cons.1 hm with e | hm
      · have := h.j.lt; omega
      · exact h.out hm, h.len⟩
theorem Jl.setK (h : Jl w0 w K A jb g d N nm n c) {a : Addr} (ha : a.block ∈ K) (hb : w0.heap.size ≤ a.block) (v : Value) : Jl w0 (w.setCell a v) K A jb g d N nm n c :=
  ⟨h.m.set a (List.mem_cons_of_mem _ ha) hb v, h.j.same (heap_setCell_other _ _ _ _ (fun e => h.out (e ▸ ha))), h.base, h.out, h.len⟩
theorem Jl.bookM {V M : List Nat} {bb : Nat} (h : Jl w0 w K A jb g d N nm n c) {B : List Nat} (hs : Stp B (bb :: V) w w') (hB : ∀ k ∈ B, k ∈ K ∧ w0.heap.size ≤ k) (hM : ∀ k ∈ M, k ∈ K) (hV : ∀ k ∈ V, k < w'.heap.size) : Jl w0 w' (V ++ M) A jb g d N nm n c := by
  have hjB : jb ∉ B := fun hm => h.out (hB jb hm).1
  have hVn : ∀ k ∈ V, k ∈ K ∨ w.heap.size ≤ k := fun k hk => (hs.inn k (List.mem_cons_of_mem _ hk)).imp (fun h2 => (hB k h2).1) id
  have hfar : ∀ k, k ∈ K ∨ w.heap.size ≤ k → k ∉ A ∧ k ≠ jb := fun k hk => by
    rcases hk with hk | hk
    · exact ⟨(h.m.far k (List.mem_cons_of_mem _ hk)).2, fun e => h.out (e ▸ hk)⟩
    · exact ⟨fun hm => by have := h.m.hd.lt k hm; omega, fun e => by have := h.j.lt; omega⟩
  refine ⟨⟨h.m.hd.other hs (fun k hk hm => (h.m.far k (List.mem_cons_of_mem _ (hB k hm).1)).2 hk), h.m.base, h.m.bel.trans (hs.below (fun k hk => (hB k hk).2) h.m.bel.size), fun k hk => ?_⟩, h.j.same (hs.block jb h.j.lt hjB), h.base, fun hm => ?_, h.len⟩
  · rcases List.mem_cons.1 hk with rfl | hk
    · exact ⟨Nat.lt_of_lt_of_le h.j.lt hs.size, (h.m.far _ List.mem_cons_self).2⟩
    · rcases List.mem_append.1 hk with hk | hk
      · exact ⟨hV k hk, (hfar k (hVn k hk)).1⟩
      · have := h.m.far k (List.mem_cons_of_mem _ (hM k hk))
        exact ⟨Nat.lt_of_lt_of_le this.1 hs.size, this.2⟩
  · rcases List.mem_append.1 hm with hk | hk
    · exact (hfar jb (hVn jb hk)).2 rfl
    · exact h.out (hM _ hk)
end
/-- In a round: a journal, a book, the call that is read, each in blocks of its own. -/
structure KA (w0 w : World) (bb g jb ab : Nat) (d : Dk) (N n : Nat) (c : Bool) (va : Value) (R : List Nm) (more : Bool) (rec : Nm) (no : Bool) (xs : List Value) (A : List Nat) : Prop where
  j : Jl w0 w (ab :: (va.ownBlock.toList ++ [bb])) A jb g d N [106] n c
  box : Blk w bb [va, .bool more, strV rec, .bool no] 76
  row : w.ownsRow w0.heap.size 9 1 va R.length (R.map strV)
  base : w0.heap.size ≤ bb
  ne : ∀ k, va.ownBlock = some k → k ≠ bb
  act : Blk w ab xs 81
  far : ab ≠ bb ∧ (∀ k, va.ownBlock = some k → k ≠ ab) ∧ w0.heap.size ≤ ab
section
variable {w0 w w' : World} {bb g jb ab : Nat} {d d' : Dk} {N N' n n' : Nat} {c c' : Bool} {va : Value} {R : List Nm} {more : Bool} {rec : Nm} {no : Bool} {xs : List Value} {A : List Nat}
theorem KJ.act (h : KJ w0 w bb g jb d N [106] n va R A) (hb : Below w.heap.size w w') (hx : Blk w' ab xs 81) (h1 : w.heap.size ≤ ab) : KA w0 w' bb g jb ab d N n false va R false [] false xs A := by
  have hr := h.row.lt
  have hbl := h.box.lt
  exact ⟨h.j.moreK hb h1 hx.lt, h.box.below hb hbl, row_below h.row hb, h.base, h.ne, hx, ⟨fun e => by omega, fun k hk e => by have := (hr k hk).2; omega, Nat.le_trans h.j.m.bel.size h1⟩⟩
theorem KA.to (h : KA w0 w bb g jb ab d N n c va R more rec no xs A) (ht : JlTo w0 (ab :: (va.ownBlock.toList ++ [bb])) w jb g d' N' [106] n' c' w') : ∃ A', KA w0 w' bb g jb ab d' N' n' c' va R more rec no xs A' := by
  obtain ⟨⟨A', h1⟩, hk⟩ := ht
  exact ⟨A', h1, h.box.same (hk bb (by simp)), ownsRow_same h.row (fun k hk2 => hk k (by simp [hk2])), h.base, h.ne, h.act.same (hk ab (by simp)), h.far⟩
theorem KA.below (h : KA w0 w bb g jb ab d N n c va R more rec no xs A) (hb : Below w.heap.size w w') : KA w0 w' bb g jb ab d N n c va R more rec no xs A :=
  ⟨h.j.below hb, h.box.below hb h.box.lt, row_below h.row hb, h.base, h.ne, h.act.below hb h.act.lt, h.far⟩
theorem KA.mono (h : KA w0 w bb g jb ab d N n c va R more rec no xs A) (hm : N ≤ N') : KA w0 w bb g jb ab d N' n c va R more rec no xs A := ⟨h.j.mono hm, h.box, h.row, h.base, h.ne, h.act, h.far⟩
theorem KA.put (h : KA w0 w bb g jb ab d N n c va R more rec no xs A) (i : Nat) (v : Value) : KA w0 (w.setCell ⟨ab, i, none⟩ v) bb g jb ab d N n c va R more rec no (xs.set i v) A :=
  ⟨h.j.setK (a := ⟨ab, i, none⟩) (by simp) h.far.2.2 v, h.box.same (heap_setCell_other _ _ _ _ (Ne.symm h.far.1)), ownsRow_same h.row (fun k hk => heap_setCell_other _ _ _ _ (h.far.2.1 k hk)), h.base, h.ne, h.act.set i v, h.far⟩
theorem KA.called {R' : List Nm} {m' : Bool} {r' : Nm} {o' : Bool} {e : Ending} (h : KA w0 w bb g jb ab d N n c va R more rec no xs A) (hp : CalledPost w bb w0.heap.size va R' m' r' o' e w') : e = .returned (.tuple #[]) ∧ ∃ vb, KA w0 w' bb g jb ab d N n c vb R' m' r' o' xs A := by
  obtain ⟨rfl, vb, hx, ho, hne, hs⟩ := hp
  have hr := h.row.lt
  have hal := h.act.lt
  have hab : ab ∉ bb :: va.ownBlock.toList := fun hm => by
    rcases List.mem_cons.1 hm with e | hm
    · exact h.far.1 e
    · exact h.far.2.1 ab (by simpa using hm) rfl
  have hJ := h.j.bookM (M := [ab, bb]) hs (fun k hk => by
    rcases List.mem_cons.1 hk with rfl | hk
    · exact ⟨by simp, h.base⟩
    · exact ⟨by simp at hk ⊢; simp [hk], (hr k (by simpa using hk)).1⟩) (fun k hk => by simp at hk; rcases hk with rfl | rfl <;> simp) (fun k hk => (ho.lt k (by simpa using hk)).2)
  refine ⟨rfl, vb, hJ.lessK (fun k hk => ?_), hx, ho, h.base, hne, h.act.same (hs.block ab hal hab), ⟨h.far.1, fun k hk e => ?_, h.far.2.2⟩⟩
  · rcases List.mem_cons.1 hk with rfl | hk
    · simp
    · rcases List.mem_append.1 hk with hk | hk
      · exact List.mem_append_left _ hk
      · simp at hk; simp [hk]
  · subst e
    rcases hs.inn k (List.mem_cons_of_mem _ (by simp [hk])) with h1 | h1
    · exact hab h1
    · omega
theorem KA.kin (h : KA w0 w bb g jb ab d N n c va R more rec no xs A) : KIn w0 w bb g d N va R more rec no A := ⟨h.j.disk.less (fun k hk => List.mem_cons_of_mem _ hk), h.box, h.row, h.base, h.ne⟩
end
/-- The power is on behind a call, or it is off. -/
def KMid (w0 w : World) (bb g jb ab N : Nat) : Prop := ∃ d n c va R more rec no kd tx an kv A, KA w0 w bb g jb ab d N n c va R more rec no [.int .i64 kd, strV tx, .int .i64 an, kv] A ∧ R.length ≤ 4294967295 ∧
  ((d.off = true ∧ KReady d [106] R more rec no) ∨ (d.off = false ∧ n = R.length ∧ c = false ∧ Stand d [106] (jframes R) ∧ (∀ r ∈ R, r.length ≤ 16777216) ∧ more = false ∧ rec = [] ∧ no = false))
theorem KMid.mono {w0 w : World} {bb g jb ab N N' : Nat} (h : KMid w0 w bb g jb ab N) (hm : N ≤ N') : KMid w0 w bb g jb ab N' := by
  obtain ⟨d, n, c, va, R, more, rec, no, kd, tx, an, kv, A, h1, h2⟩ := h
  exact ⟨d, n, c, va, R, more, rec, no, kd, tx, an, kv, A, h1.mono hm, h2⟩
/-- Ahead of a call: the power is on. -/
structure KS (w0 w : World) (bb g jb ab : Nat) (d : Dk) (N : Nat) (va : Value) (R : List Nm) (kd : Int) (tx : Nm) (an : Int) (kv : Value) (A : List Nat) : Prop where
  a : KA w0 w bb g jb ab d N R.length false va R false [] false [.int .i64 kd, strV tx, .int .i64 an, kv] A
  st : Stand d [106] (jframes R)
  small : ∀ r ∈ R, r.length ≤ 16777216
section
variable {w0 w w' : World} {bb g jb ab : Nat} {d : Dk} {N : Nat} {va vb : Value} {R : List Nm} {kd an : Int} {tx : Nm} {kv : Value} {A A' : List Nat}
theorem KS.few (h : KS w0 w bb g jb ab d N va R kd tx an kv A) : R.length ≤ 268435456 := h.st.few h.a.j.m.hd.bd
theorem KS.mid (h : KS w0 w bb g jb ab d N va R kd tx an kv A) : KMid w0 w bb g jb ab N := ⟨d, _, _, va, R, _, _, _, kd, tx, an, kv, A, h.a, by have := h.few; omega, Or.inr ⟨h.st.on, rfl, rfl, h.st, h.small, rfl, rfl, rfl⟩⟩
theorem KS.below (h : KS w0 w bb g jb ab d N va R kd tx an kv A) (hb : Below w.heap.size w w') : KS w0 w' bb g jb ab d N va R kd tx an kv A := ⟨h.a.below hb, h.st, h.small⟩
theorem KS.armed (h : KS w0 w bb g jb ab d N va R kd tx an kv A) (n : Int) (keep : List Int) (ht : HdTo g (darm d n keep) N A w w') : KMid w0 w' bb g jb ab N := by
  obtain ⟨A', h1⟩ := h.a.to (h.a.j.op (h.a.j.m.to ht))
  exact KS.mid (d := darm d n keep) ⟨h1, h.st.armed _ _, h.small⟩
theorem KS.crashed (h : KS w0 w bb g jb ab d N va R kd tx an kv A) (keep : List Int) (ht : HdTo g (dcrash d keep) N A w w') : KMid w0 w' bb g jb ab N := by
  obtain ⟨A', h1⟩ := h.a.to (h.a.j.op (h.a.j.m.to ht))
  have e : dcrash d keep = dfail d keep := by unfold dcrash; rw [if_neg (by rw [h.st.on]; simp)]
  rw [e] at h1
  have hf := h.st.fall keep
  exact ⟨_, _, _, _, R, _, _, _, _, _, _, _, A', h1, by have := h.few; omega, Or.inl ⟨hf.off, Or.inr (Or.inl ⟨_, hf, by rw [jbegin_all h.small]; exact Or.inl rfl⟩)⟩⟩
theorem jreset_noted {d : Dk} {nm : Nm} {n : Nat} (he : (jreset d nm n false).e = 0) : (jreset d nm n false).n = 0 := by
  unfold jreset at he ⊢
  rw [if_neg (by simp)] at he ⊢
  split at he
  · rename_i h; exact absurd he h
  · rename_i h1
    rw [if_neg h1]
    split at he
    · rename_i h; exact absurd he h
    · rename_i h2
      rw [if_neg h2]
      split at he
      · rename_i h; exact absurd he h
      · rename_i h3
        rw [if_neg h3]
theorem KS.reset (h : KS w0 w bb g jb ab d N va R kd tx an kv A) {J : Jr} (hJ : jreset d [106] R.length false = J) {xs : List Value} (hx : xs = [.int .i64 kd, strV tx, .int .i64 an, kv]) (hk : KA w0 w' bb g jb ab J.d (N + 3) J.n J.c vb (if J.e = 0 then [] else R) false [] (J.e == 20) xs A') : KMid w0 w' bb g jb ab (N + 3) := by
  subst hx
  rcases jreset_stand h.st (by simp) R.length with ⟨e, ec, es⟩ | ⟨e, y, hy, hyy⟩
  · have en := jreset_noted e
    rw [hJ] at e ec es en
    rw [e, ec, en, if_pos rfl] at hk
    exact KS.mid (R := []) ⟨hk, es, fun r hr => (by cases hr)⟩
  · rw [hJ] at e hy
    rw [e, if_neg (by simp)] at hk
    refine ⟨_, _, _, _, R, _, _, _, _, _, _, _, A', hk, by have := h.few; omega, Or.inl ⟨hy.off, Or.inr (Or.inl ⟨y, hy, ?_⟩)⟩⟩
    rcases hyy with rfl | rfl
    · rw [jbegin_all h.small]; exact Or.inl rfl
    · by_cases hR : R = []
      · subst hR; exact Or.inl (jbegin_nil ▸ rfl)
      · exact Or.inr (Or.inr ⟨by rw [jbegin_nil]; exact Ne.symm hR, rfl, rfl, by rw [jbegin_nil]⟩)
theorem jappend_noted {d : Dk} {nm : Nm} {n : Nat} {r : Nm} : (jappend d nm n false r).n = if (jappend d nm n false r).e = 0 then n + 1 else n := by
  unfold jappend
  rw [if_neg (by simp)]
  split
  · rfl
  · split
    · rfl
    · split
      · first | rfl | (rename_i h; rw [if_neg h])
      · split
        · first | rfl | (rename_i h; rw [if_neg h])
        · rfl
theorem KS.app (h : KS w0 w bb g jb ab d N va R kd tx an kv A) {J : Jr} (hJ : jappend d [106] R.length false tx = J) {kd' : Int} {xs : List Value} (hx : xs = [.int .i64 kd', strV tx, .int .i64 an, kv]) (hk : KA w0 w' bb g jb ab J.d (N + 2) J.n J.c vb (if J.e = 0 then R ++ [tx] else R) (J.e == 20) (if J.e = 20 then tx else []) false xs A') : KMid w0 w' bb g jb ab (N + 2) := by
  subst hx
  have en := jappend_noted (d := d) (nm := [106]) (n := R.length) (r := tx)
  have hs := jappend_stand h.st h.small R.length tx
  rw [hJ] at en hs
  rcases hs with ⟨e0, e20, ec, es⟩ | ⟨e, ec, hr, es⟩ | ⟨e, hr, y, hy, hyy⟩
  · have eq : (J.e == 20) = false := by simpa using e20
    rw [en, ec, if_neg e0, if_neg e0, if_neg e20, eq] at hk
    exact KS.mid (R := R) ⟨hk, es, h.small⟩
  · rw [en, e, ec, if_pos rfl, if_pos rfl, if_neg (by simp)] at hk
    exact KS.mid (R := R ++ [tx]) ⟨by rw [List.length_append]; exact hk, es, fun r hr2 => by
      rcases List.mem_append.1 hr2 with h2 | h2
      · exact h.small r h2
      · simp at h2; subst h2; exact hr⟩
  · rw [e, if_neg (by simp), if_pos rfl] at hk
    refine ⟨_, _, _, _, R, _, _, _, _, _, _, _, A', hk, by have := h.few; omega, Or.inl ⟨hy.off, Or.inr (Or.inl ⟨y, hy, ?_⟩)⟩⟩
    rcases hyy with e1 | e1
    · exact Or.inl e1
    · exact Or.inr (Or.inl ⟨by rw [e1]; intro h2; have := congrArg List.length h2; simp at this, rfl, e1⟩)
end
theorem jreset_code (d : Dk) {x : List UInt8} (h : Stand d [106] x) (n : Nat) : (jreset d [106] n false).e = 0 ∨ (jreset d [106] n false).e = 20 := by
  rcases jreset_stand h (by simp) n with ⟨e, -⟩ | ⟨e, -⟩
  · exact Or.inl e
  · exact Or.inr e
theorem ddo_codeK (d : Dk) (o : Od) : (ddo d o).2 ≤ 25 := by
  by_cases hoff : d.off = true
  · unfold ddo; rw [if_pos hoff]; simp
  · rcases Nat.eq_zero_or_pos (drefused d o) with hr | hr
    · rcases ddo_any (by simpa using hoff) hr with ⟨_, h⟩ | ⟨_, h⟩
      · rw [h]; simp
      · rw [h]; simp
    · unfold ddo
      rw [if_neg hoff, if_pos (by omega)]
      have : drefused d o ≤ 21 := by
        cases o <;> simp only [drefused] <;> (repeat' split) <;> omega
      simp only
      omega
theorem jappend_code (d : Dk) (nm : Nm) (n : Nat) (r : Nm) : (jappend d nm n false r).e ≤ 25 := by
  have h1 := ddo_codeK d (.write nm (jframe r))
  have h2 := ddo_codeK (ddo d (.write nm (jframe r))).1 (.sync nm)
  unfold jappend
  rw [if_neg (by simp)]
  split
  · simp
  · split
    · simp
    · split
      · exact h1
      · split
        · exact h2
        · simp
end Go.Proofs.YtfgpigblnkanpaaGreatDoor
