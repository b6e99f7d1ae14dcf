/- A failure behind a failure changes nothing; no name is there that was not; what is whole and flushed stays. Plain data. -/
import Derived.Test.YtfgpigblnkanpaaGreatDkLaw
namespace Go.Proofs.YtfgpigblnkanpaaGreat

/-! ### names -/
def tnames (t : Tb) : List Nm := t.map (·.1)
def ptarget : Pn → Option Nm
  | .cr n _ => some n
  | .rn _ n => some n
  | .rm _ => none
theorem tdone_names {t : Tb} {p : Pn} {x : Nm × Nat} (h : x ∈ tdone t p) : x.1 ∈ tnames t ∨ ptarget p = some x.1 := by
  cases p with
  | cr n f =>
    rcases tins_mem h with h | h
    · exact Or.inl (List.mem_map_of_mem h)
    · exact Or.inr (by rw [h]; rfl)
  | rm n => exact Or.inl (List.mem_map_of_mem (tout_mem h).1)
  | rn o n =>
    replace h : x ∈ (match tget t o with | none => t | some f => tins (tout t o) n f) := h
    cases hg : tget t o with
    | none => rw [hg] at h; exact Or.inl (List.mem_map_of_mem h)
    | some f =>
      rw [hg] at h
      rcases tins_mem h with h | h
      · exact Or.inl (List.mem_map_of_mem (tout_mem h).1)
      · exact Or.inr (by rw [h]; rfl)
theorem dpend_names (keep : List Int) (N : List Nm) : ∀ (l : List Pn) (k : Nat) (t : Tb), (∀ n ∈ tnames t, n ∈ N) → (∀ p ∈ l, ∀ n, ptarget p = some n → n ∈ N) → ∀ n ∈ tnames (dpend keep l k t), n ∈ N
  | [], _, _, h, _ => h
  | p :: r, k, t, h, hp => by
    rw [dpend]
    refine dpend_names keep N r (k + 1) _ ?_ (fun q hq => hp q (List.mem_cons_of_mem _ hq))
    split
    · intro n hn
      obtain ⟨x, hx, rfl⟩ := List.mem_map.1 hn
      rcases tdone_names hx with h1 | h1
      · exact h _ h1
      · exact hp p List.mem_cons_self _ h1
    · exact h
/-- Every name that may be there behind a failure is told. -/
def Told (d : Dk) (N : List Nm) : Prop := (∀ n ∈ tnames d.safe, n ∈ N) ∧ ∀ p ∈ d.pend, ∀ n, ptarget p = some n → n ∈ N
theorem Told.fail {d : Dk} {N : List Nm} (h : Told d N) (keep : List Int) : ∀ n ∈ tnames (dfail d keep).now, n ∈ N := dpend_names keep N _ _ _ h.1 h.2
theorem Told.mono {d : Dk} {N M : List Nm} (h : Told d N) : Told d (N ++ M) := ⟨fun n hn => List.mem_append_left _ (h.1 n hn), fun p hp n hn => List.mem_append_left _ (h.2 p hp n hn)⟩
theorem tins_has (t : Tb) (n : Nm) (f : Nat) : n ∈ tnames (tins t n f) := List.mem_map.2 ⟨(n, f), by unfold tins; simp, rfl⟩
/-- An operation of a calm disk. -/
theorem Told.do {d : Dk} {N : List Nm} (h : Told d N) (hc : Calm d) (o : Od) : (ddo d o).2 ≠ 0 ∧ (ddo d o).1 = d ∨ (ddo d o).2 = 0 ∧ Told (ddo d o).1 (N ++ tnames (ddo d o).1.now) := by
  obtain ⟨h1, h2⟩ := hc
  by_cases hr : drefused d o = 0
  · right
    have e : ddo d o = (dact { d with armed := d.armed - 1 } false o, 0) := by
      unfold ddo
      rw [if_neg (by rw [h1]; simp), if_neg (by omega), if_neg (by omega)]
    rw [e]
    refine ⟨rfl, ?_⟩
    have hm := h.mono (M := tnames (dact { d with armed := d.armed - 1 } false o).now)
    cases o with
    | create n =>
      refine ⟨hm.1, fun p hp m hpm => ?_⟩
      rcases List.mem_append.1 hp with hp | hp
      · exact hm.2 p hp m hpm
      · have e2 : p = .cr n d.files.length := by simpa using hp
        rw [e2] at hpm
        have e3 : n = m := by simpa [ptarget] using hpm
        rw [← e3]
        exact List.mem_append_right _ (tins_has d.now n _)
    | write n s => exact hm
    | sync n => exact hm
    | rename o n =>
      refine ⟨hm.1, fun p hp m hpm => ?_⟩
      rcases List.mem_append.1 hp with hp | hp
      · exact hm.2 p hp m hpm
      · have e2 : p = .rn o n := by simpa using hp
        rw [e2] at hpm
        have e3 : n = m := by simpa [ptarget] using hpm
        rw [← e3]
        refine List.mem_append_right _ ?_
        have hs : (tget d.now o).isSome = true := by
          cases hq : (tget d.now o).isSome with
          | true => rfl
          | false => simp [drefused, hq] at hr
        obtain ⟨f, hf⟩ := Option.isSome_iff_exists.1 hs
        show n ∈ tnames (match tget d.now o with | none => d.now | some f => tins (tout d.now o) n f)
        rw [hf]
        exact tins_has _ n f
    | remove n =>
      refine ⟨hm.1, fun p hp m hpm => ?_⟩
      rcases List.mem_append.1 hp with hp | hp
      · exact hm.2 p hp m hpm
      · have e2 : p = .rm n := by simpa using hp
        rw [e2] at hpm
        cases hpm
    | flush => exact ⟨fun n hn => List.mem_append_right _ hn, fun p hp => by cases hp⟩
  · left
    have e : ddo d o = (d, drefused d o) := by
      unfold ddo
      rw [if_neg (by rw [h1]; simp), if_pos hr]
    rw [e]
    exact ⟨hr, rfl⟩

/-! ### what a disk shows -/
def dshown (d : Dk) : List Nm × List (List UInt8) := (tnames d.now, d.now.map fun x => (fat d.files x.2).data)
/-- A file that is safe whole. -/
def Whole (f : Fl) : Prop := f.safe = f.data.length
theorem dleft_whole {f : Fl} (h : Whole f) (n : Int) : dleft f n = f.data := by
  unfold dleft
  rw [h]
  split
  · simp
  · split
    · rfl
    · split
      · simp
      · simp
theorem dcut_whole (f : Fl) (n : Int) : Whole (dcut f n) := rfl
theorem dcut_same {f : Fl} (h : Whole f) (n : Int) : dcut f n = f := by
  unfold dcut
  rw [dleft_whole h]
  cases f
  simp only [Whole] at h
  simp [h]
theorem fat_mem {fs : List Fl} {i : Nat} (h : i < fs.length) : fat fs i ∈ fs := by
  unfold fat
  rw [List.getD_eq_getElem?_getD, List.getElem?_eq_getElem h]
  exact List.getElem_mem h
/-- Behind a failure each file of the table is whole. -/
theorem dfiles_whole (keep : List Int) : ∀ (t : Tb) (k : Nat) (fs : List Fl) (i : Nat), (∀ x ∈ t, x.2 < fs.length) → (Whole (fat fs i) ∨ ∃ x ∈ t, x.2 = i) → Whole (fat (dfiles keep t k fs) i)
  | [], _, fs, i, _, h => by
    rcases h with h | ⟨x, hx, _⟩
    · exact h
    · cases hx
  | x :: r, k, fs, i, hl, h => by
    rw [dfiles]
    have hx := hl x List.mem_cons_self
    refine dfiles_whole keep r (k + 1) _ i (fun y hy => by rw [List.length_set]; exact hl y (List.mem_cons_of_mem _ hy)) ?_
    by_cases e : x.2 = i
    · left
      rw [fat_set _ _ _ _ hx, if_pos e]
      exact dcut_whole _ _
    · rcases h with h | ⟨y, hy, hye⟩
      · left
        rw [fat_set _ _ _ _ hx, if_neg e]; exact h
      · rcases List.mem_cons.1 hy with rfl | hy
        · exact absurd hye e
        · exact Or.inr ⟨y, hy, hye⟩
/-- Whole files stay. -/
theorem dfiles_same (keep : List Int) : ∀ (t : Tb) (k : Nat) (fs : List Fl), (∀ x ∈ t, x.2 < fs.length) → (∀ x ∈ t, Whole (fat fs x.2)) → ∀ i, fat (dfiles keep t k fs) i = fat fs i
  | [], _, _, _, _, _ => rfl
  | x :: r, k, fs, hl, h, i => by
    rw [dfiles, dcut_same (h x List.mem_cons_self)]
    have hx := hl x List.mem_cons_self
    have hset : ∀ j, fat (fs.set x.2 (fat fs x.2)) j = fat fs j := fun j => by
      rw [fat_set _ _ _ _ hx]
      by_cases e : x.2 = j
      · rw [if_pos e, e]
      · rw [if_neg e]
    rw [dfiles_same keep r (k + 1) _ (fun y hy => by rw [List.length_set]; exact hl y (List.mem_cons_of_mem _ hy)) (fun y hy => by rw [hset]; exact h y (List.mem_cons_of_mem _ hy)) i, hset]
def drevive (d : Dk) : Dk := { d with off := false }
/-- A failure of a disk all of whose files are whole and whose names are flushed. -/
theorem fail_still {d : Dk} (hk : DkOk d) (hp : d.pend = []) (hs : d.safe = d.now) (hw : ∀ x ∈ d.now, Whole (fat d.files x.2)) (keep : List Int) : dshown (dfail d keep) = dshown d ∧ (dfail d keep).now = d.now ∧ (dfail d keep).safe = d.now ∧ (∀ i, fat (dfail d keep).files i = fat d.files i) := by
  have e1 : dpend keep d.pend 0 d.safe = d.now := by rw [hp, hs]; rfl
  have hf : ∀ i, fat (dfail d keep).files i = fat d.files i := fun i => by
    show fat (dfiles keep (dpend keep d.pend 0 d.safe) d.pend.length d.files) i = _
    rw [e1]
    exact dfiles_same keep d.now _ d.files hk.nowIn hw i
  have hn : (dfail d keep).now = d.now := e1
  refine ⟨?_, hn, e1, hf⟩
  unfold dshown
  rw [hn]
  congr 1
  apply List.map_congr_left
  intro x _
  rw [hf]
/-- Behind a failure all is whole and flushed. -/
theorem fail_whole {d : Dk} (hk : DkOk d) (keep : List Int) : ∀ x ∈ (dfail d keep).now, Whole (fat (dfail d keep).files x.2) := fun x hx =>
  dfiles_whole keep _ _ _ _ (dpend_in keep d.files.length d.pend 0 d.safe hk.safeIn hk.pendIn) (Or.inr ⟨x, hx, rfl⟩)
theorem fail_again {d : Dk} (hk : DkOk d) (one two : List Int) : dshown (dfail (drevive (dfail d one)) two) = dshown (dfail d one) := by
  have h := hk.fail one
  exact (fail_still (d := drevive (dfail d one)) ⟨h.now, h.safe, h.nowIn, h.safeIn, h.pendIn, h.safeLe⟩ rfl rfl (fail_whole hk one) two).1
end Go.Proofs.YtfgpigblnkanpaaGreat
