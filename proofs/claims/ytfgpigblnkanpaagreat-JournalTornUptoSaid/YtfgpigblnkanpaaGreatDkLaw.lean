/- The laws of a disk as plain data: what is safe stays; a failure behind a failure changes nothing; what is armed strikes as a failure does. No conditions. -/
import Derived.Test.YtfgpigblnkanpaaGreatDk
namespace Go.Proofs.YtfgpigblnkanpaaGreat

/-! ### what holds of every disk stays -/
theorem fat_set (fs : List Fl) (i j : Nat) (f : Fl) (h : i < fs.length) : fat (fs.set i f) j = if i = j then f else fat fs j := by
  unfold fat
  rw [List.getD_eq_getElem?_getD, List.getD_eq_getElem?_getD, List.getElem?_set]
  by_cases e : i = j
  · rw [if_pos e, if_pos e, if_pos h]; rfl
  · rw [if_neg e, if_neg e]
theorem mem_set {fs : List Fl} {i : Nat} {f x : Fl} (h : x ∈ fs.set i f) : x ∈ fs ∨ x = f := by
  rcases List.mem_or_eq_of_mem_set h with h | h
  · exact Or.inl h
  · exact Or.inr h
theorem dleft_len (f : Fl) (n : Int) : f.data.take f.safe <+: dleft f n := by
  unfold dleft
  split
  · exact List.prefix_refl _
  · split
    · exact List.take_prefix _ _
    · split
      · exact List.take_prefix_take_left (by omega)
      · exact List.prefix_append _ _
theorem dfiles_len (keep : List Int) : ∀ (t : Tb) (k : Nat) (fs : List Fl), (dfiles keep t k fs).length = fs.length
  | [], _, _ => rfl
  | x :: r, k, fs => by rw [dfiles, dfiles_len keep r, List.length_set]
theorem dfiles_le (keep : List Int) : ∀ (t : Tb) (k : Nat) (fs : List Fl), (∀ f ∈ fs, f.safe ≤ f.data.length) → ∀ f ∈ dfiles keep t k fs, f.safe ≤ f.data.length
  | [], _, _, h => h
  | x :: r, k, fs, h => by
    rw [dfiles]
    refine dfiles_le keep r (k + 1) _ fun f hf => ?_
    rcases mem_set hf with hf | hf
    · exact h f hf
    · rw [hf]; exact Nat.le_refl _
theorem tout_mem {t : Tb} {n : Nm} {x : Nm × Nat} (h : x ∈ tout t n) : x ∈ t ∧ x.1 ≠ n := by
  have := List.mem_filter.1 h
  exact ⟨this.1, by simpa using this.2⟩
theorem tins_mem {t : Tb} {n : Nm} {f : Nat} {x : Nm × Nat} (h : x ∈ tins t n f) : x ∈ t ∨ x = (n, f) := by
  unfold tins at h
  rcases List.mem_append.1 h with h | h
  · exact Or.inl (List.mem_filter.1 h).1
  · rcases List.mem_cons.1 h with h | h
    · exact Or.inr h
    · exact Or.inl (List.mem_filter.1 h).1
theorem tdone_mem {t : Tb} {p : Pn} {x : Nm × Nat} (h : x ∈ tdone t p) : (∃ y ∈ t, y.2 = x.2) ∨ ∃ n, p = .cr n x.2 := by
  cases p with
  | cr n f =>
    rcases tins_mem h with h | h
    · exact Or.inl ⟨x, h, rfl⟩
    · exact Or.inr ⟨n, by rw [h]⟩
  | rm n => exact Or.inl ⟨x, (tout_mem h).1, rfl⟩
  | rn o n =>
    replace h : x ∈ (match tget t o with | none => t | some f => tins (tout t o) n f) := h
    cases hg : tget t o with
    | none => rw [hg] at h; exact Or.inl ⟨x, h, rfl⟩
    | some f =>
      rw [hg] at h
      rcases tins_mem h with h | h
      · exact Or.inl ⟨x, (tout_mem h).1, rfl⟩
      · exact Or.inl ⟨(o, f), tget_mem hg, by rw [h]⟩
theorem dpend_in (keep : List Int) (N : Nat) : ∀ (l : List Pn) (k : Nat) (t : Tb), (∀ x ∈ t, x.2 < N) → (∀ n f, Pn.cr n f ∈ l → f < N) → ∀ x ∈ dpend keep l k t, x.2 < N
  | [], _, _, h, _ => h
  | p :: r, k, t, h, hp => by
    rw [dpend]
    refine dpend_in keep N r (k + 1) _ ?_ (fun n f hf => hp n f (List.mem_cons_of_mem _ hf))
    split
    · intro x hx
      rcases tdone_mem hx with ⟨y, hy, e⟩ | ⟨n, e⟩
      · rw [← e]; exact h y hy
      · exact hp n x.2 (by rw [← e]; exact List.mem_cons_self)
    · exact h
theorem DkOk.fail {d : Dk} (h : DkOk d) (keep : List Int) : DkOk (dfail d keep) := by
  have hin := dpend_in keep d.files.length d.pend 0 d.safe h.safeIn h.pendIn
  refine ⟨Rise.pend keep _ _ h.safe, Rise.pend keep _ _ h.safe, ?_, ?_, fun n f hf => (by cases hf), dfiles_le _ _ _ _ h.safeLe⟩
  · intro x hx
    show x.2 < (dfiles keep _ _ d.files).length
    rw [dfiles_len]; exact hin x hx
  · intro x hx
    show x.2 < (dfiles keep _ _ d.files).length
    rw [dfiles_len]; exact hin x hx
theorem dwrite_len (d : Dk) (b : Bool) (n : Nm) (s : List UInt8) : (dact d b (.write n s)).files.length = d.files.length := List.length_set
theorem dsync_len (d : Dk) (n : Nm) : (dact d false (.sync n)).files.length = d.files.length := List.length_set
theorem DkOk.act {d : Dk} (h : DkOk d) (b : Bool) (o : Od) (hr : drefused d o = 0) : DkOk (dact d b o) := by
  cases o with
  | create n =>
    refine ⟨h.now.ins n _, h.safe, ?_, ?_, ?_, ?_⟩
    · intro x hx
      show x.2 < (d.files ++ _).length
      rw [List.length_append]
      rcases tins_mem hx with hx | hx
      · have := h.nowIn x hx; simp; omega
      · rw [hx]; simp
    · intro x hx
      show x.2 < (d.files ++ _).length
      have := h.safeIn x hx
      rw [List.length_append]; omega
    · intro m f hf
      show f < (d.files ++ _).length
      rw [List.length_append]
      rcases List.mem_append.1 hf with hf | hf
      · have := h.pendIn m f hf; omega
      · have : Pn.cr m f = Pn.cr n d.files.length := by simpa using hf
        injection this with _ e
        simp; omega
    · intro f hf
      rcases List.mem_append.1 hf with hf | hf
      · exact h.safeLe f hf
      · have : f = ⟨[], 0⟩ := by simpa using hf
        rw [this]; exact Nat.le_refl _
  | write n s =>
    refine ⟨h.now, h.safe, fun x hx => ?_, fun x hx => ?_, fun m f hf => ?_, fun f hf => ?_⟩
    · rw [dwrite_len]; exact h.nowIn x hx
    · rw [dwrite_len]; exact h.safeIn x hx
    · rw [dwrite_len]; exact h.pendIn m f hf
    · rcases mem_set hf with hf | hf
      · exact h.safeLe f hf
      · rw [hf]
        show (fat d.files _).safe ≤ ((fat d.files _).data ++ s).length
        rw [List.length_append]
        have : (fat d.files ((tget d.now n).getD 0)).safe ≤ (fat d.files ((tget d.now n).getD 0)).data.length := by
          unfold fat
          rw [List.getD_eq_getElem?_getD]
          cases hg : d.files[(tget d.now n).getD 0]? with
          | none => exact Nat.le_refl _
          | some g => exact h.safeLe g (List.mem_of_getElem? hg)
        omega
  | sync n =>
    cases b with
    | true => exact h
    | false =>
      refine ⟨h.now, h.safe, fun x hx => ?_, fun x hx => ?_, fun m f hf => ?_, fun f hf => ?_⟩
      · rw [dsync_len]; exact h.nowIn x hx
      · rw [dsync_len]; exact h.safeIn x hx
      · rw [dsync_len]; exact h.pendIn m f hf
      · rcases mem_set hf with hf | hf
        · exact h.safeLe f hf
        · rw [hf]; exact Nat.le_refl _
  | rename o n =>
    refine ⟨h.now.done (.rn o n), h.safe, ?_, h.safeIn, ?_, h.safeLe⟩
    · intro x hx
      rcases tdone_mem (p := .rn o n) hx with ⟨y, hy, e⟩ | ⟨m, e⟩
      · rw [← e]; exact h.nowIn y hy
      · cases e
    · intro m f hf
      rcases List.mem_append.1 hf with hf | hf
      · exact h.pendIn m f hf
      · exact absurd hf (by simp)
  | remove n =>
    refine ⟨h.now.out n, h.safe, fun x hx => h.nowIn x (tout_mem hx).1, h.safeIn, ?_, h.safeLe⟩
    intro m f hf
    rcases List.mem_append.1 hf with hf | hf
    · exact h.pendIn m f hf
    · exact absurd hf (by simp)
  | flush =>
    cases b with
    | true => exact h
    | false => exact ⟨h.now, h.now, h.nowIn, h.nowIn, fun n f hf => (by cases hf), h.safeLe⟩
theorem DkOk.armed {d : Dk} (h : DkOk d) (k : Nat) : DkOk { d with armed := k } := ⟨h.now, h.safe, h.nowIn, h.safeIn, h.pendIn, h.safeLe⟩
theorem drefused_armed (d : Dk) (k : Nat) (o : Od) : drefused { d with armed := k } o = drefused d o := by cases o <;> rfl
theorem DkOk.do {d : Dk} (h : DkOk d) (o : Od) : DkOk (ddo d o).1 := by
  unfold ddo
  split
  · exact h
  · split
    · exact h
    · rename_i hr
      have hr' : drefused { d with armed := d.armed - 1 } o = 0 := by rw [drefused_armed]; omega
      split
      · exact ((h.armed _).act true o hr').fail _
      · exact (h.armed _).act false o hr'
theorem DkOk.new (r : Int) : DkOk (dnew r) := ⟨List.Pairwise.nil, List.Pairwise.nil, fun x hx => (by cases hx), fun x hx => (by cases hx), fun n f hf => (by cases hf), fun f hf => (by cases hf)⟩

/-! ### calm: nothing is armed, the power is on -/
def Calm (d : Dk) : Prop := d.off = false ∧ d.armed = 0
theorem Calm.do {d : Dk} (h : Calm d) (o : Od) : Calm (ddo d o).1 := by
  obtain ⟨h1, h2⟩ := h
  unfold ddo
  rw [if_neg (by rw [h1]; simp)]
  split
  · exact ⟨h1, h2⟩
  · rw [if_neg (by rw [h2]; simp)]
    cases o <;> exact ⟨h1, by show d.armed - 1 = 0; omega⟩
theorem Calm.flush {d : Dk} (h : Calm d) : ddo d .flush = ({ d with safe := d.now, pend := [] }, 0) := by
  obtain ⟨off, room, files, now, safe, pend, armed, fate⟩ := d
  obtain ⟨h1, h2⟩ := h
  simp only at h1 h2
  subst h1 h2
  rfl
end Go.Proofs.YtfgpigblnkanpaaGreat
