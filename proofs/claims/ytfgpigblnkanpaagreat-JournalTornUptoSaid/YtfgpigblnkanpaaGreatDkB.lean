/- Bounds on a disk as plain data: how many files, names and operations that wait; how long a file is. No conditions. -/
import Derived.Test.YtfgpigblnkanpaaGreatDkStruck
namespace Go.Proofs.YtfgpigblnkanpaaGreat

def pnOk : Pn → Prop
  | .cr n _ => n.length ≤ 9223372036854775807
  | .rn o n => o.length ≤ 9223372036854775807 ∧ n.length ≤ 9223372036854775807
  | .rm n => n.length ≤ 9223372036854775807
def odOk : Od → Prop
  | .create n => n.length ≤ 9223372036854775807
  | .write n s => n.length ≤ 9223372036854775807 ∧ s.length ≤ 9223372036854775807
  | .sync n => n.length ≤ 9223372036854775807
  | .rename o n => o.length ≤ 9223372036854775807 ∧ n.length ≤ 9223372036854775807
  | .remove n => n.length ≤ 9223372036854775807
  | .flush => True
def wf64 (l : List Int) : Prop := ∀ x ∈ l, -9223372036854775808 ≤ x ∧ x ≤ 9223372036854775807
structure DkB (d : Dk) (N : Nat) : Prop where
  files : d.files.length ≤ N
  now : d.now.length ≤ N
  safe : d.safe.length + d.pend.length ≤ N
  room : d.room ≤ 268435456
  data : ∀ f ∈ d.files, f.data.length ≤ d.room
  armed : d.armed ≤ 9223372036854775807
  fate : wf64 d.fate
  pend : ∀ p ∈ d.pend, pnOk p
theorem DkB.mono {d : Dk} {N M : Nat} (h : DkB d N) (hm : N ≤ M) : DkB d M := ⟨Nat.le_trans h.files hm, Nat.le_trans h.now hm, Nat.le_trans h.safe hm, h.room, h.data, h.armed, h.fate, h.pend⟩
theorem tout_len (t : Tb) (n : Nm) : (tout t n).length ≤ t.length := List.length_filter_le _ _
theorem tins_len (t : Tb) (n : Nm) (f : Nat) : (tins t n f).length ≤ t.length + 1 := by
  unfold tins
  rw [List.length_append, List.length_cons]
  induction t with
  | nil => simp
  | cons x t ih =>
    rcases nlt_tri x.1 n with h | h | h
    · have h2 := nlt_asymm h
      rw [List.filter_cons, if_pos h, List.filter_cons (p := fun x : Nm × Nat => nlt n x.1), if_neg (by rw [h2]; simp)]
      simp only [List.length_cons]; omega
    · have h1 : nlt x.1 n = false := by rw [h]; exact nlt_irrefl n
      have h2 : nlt n x.1 = false := by rw [h]; exact nlt_irrefl n
      rw [List.filter_cons, if_neg (by rw [h1]; simp), List.filter_cons (p := fun x : Nm × Nat => nlt n x.1), if_neg (by rw [h2]; simp)]
      simp only [List.length_cons]; omega
    · have h2 := nlt_asymm h
      rw [List.filter_cons, if_neg (by rw [h2]; simp), List.filter_cons (p := fun x : Nm × Nat => nlt n x.1), if_pos h]
      simp only [List.length_cons]; omega
theorem tdone_len (t : Tb) (p : Pn) : (tdone t p).length ≤ t.length + 1 := by
  cases p with
  | cr n f => exact tins_len t n f
  | rm n => have := tout_len t n; show (tout t n).length ≤ _; omega
  | rn o n =>
    show (match tget t o with | none => t | some f => tins (tout t o) n f).length ≤ _
    cases tget t o with
    | none => exact Nat.le_succ _
    | some f =>
      have h1 := tins_len (tout t o) n f
      have h2 := tout_len t o
      show (tins (tout t o) n f).length ≤ _
      omega
theorem tdone_len_rn (t : Tb) (o n : Nm) : (tdone t (.rn o n)).length ≤ t.length + 1 := tdone_len t _
theorem dpend_len (keep : List Int) : ∀ (l : List Pn) (k : Nat) (t : Tb), (dpend keep l k t).length ≤ t.length + l.length
  | [], _, _ => Nat.le_refl _
  | p :: r, k, t => by
    rw [dpend]
    have h1 := dpend_len keep r (k + 1) (if keepAt keep k % 2 = 1 then tdone t p else t)
    have h2 := tdone_len t p
    rw [List.length_cons]
    split at h1
    · rename_i hc; rw [if_pos hc]; omega
    · rename_i hc; rw [if_neg hc]; omega
theorem dsum_mem {fs : List Fl} {t : Tb} {x : Nm × Nat} (h : x ∈ t) : (fat fs x.2).data.length ≤ dsum fs t := by
  induction t with
  | nil => cases h
  | cons y t ih =>
    rw [dsum]
    rcases List.mem_cons.1 h with rfl | h
    · omega
    · have := ih h; omega
theorem dleft_short (f : Fl) (n : Int) (h : f.safe ≤ f.data.length) : (dleft f n).length ≤ f.data.length := by
  unfold dleft
  split
  · rw [List.length_take]; omega
  · split
    · exact Nat.le_refl _
    · split
      · rw [List.length_take]; omega
      · rw [List.length_append, List.length_take, List.length_replicate]; omega
theorem dfiles_short (keep : List Int) (R : Nat) : ∀ (t : Tb) (k : Nat) (fs : List Fl), (∀ f ∈ fs, f.safe ≤ f.data.length) → (∀ f ∈ fs, f.data.length ≤ R) → ∀ f ∈ dfiles keep t k fs, f.data.length ≤ R
  | [], _, _, _, h => h
  | x :: r, k, fs, hs, h => by
    rw [dfiles]
    refine dfiles_short keep R r (k + 1) _ (fun f hf => ?_) fun f hf => ?_
    · rcases mem_set hf with hf | hf
      · exact hs f hf
      · rw [hf]; exact Nat.le_refl _
    · rcases mem_set hf with hf | hf
      · exact h f hf
      · rw [hf]
        show (dleft _ _).length ≤ R
        have hz : (fat fs x.2).safe ≤ (fat fs x.2).data.length ∧ (fat fs x.2).data.length ≤ R := by
          unfold fat
          rw [List.getD_eq_getElem?_getD]
          cases hg : fs[x.2]? with
          | none => exact ⟨Nat.le_refl _, Nat.zero_le _⟩
          | some g => exact ⟨hs g (List.mem_of_getElem? hg), h g (List.mem_of_getElem? hg)⟩
        exact Nat.le_trans (dleft_short _ _ hz.1) hz.2
theorem wf64_nil : wf64 [] := fun x hx => by cases hx
theorem DkB.fail {d : Dk} {N : Nat} (h : DkB d N) (hk : DkOk d) (keep : List Int) : DkB (dfail d keep) N := by
  have h1 := dpend_len keep d.pend 0 d.safe
  have h2 := h.safe
  refine ⟨?_, ?_, ?_, h.room, dfiles_short keep d.room _ _ _ hk.safeLe h.data, Nat.zero_le _, wf64_nil, fun p hp => (by cases hp)⟩
  · show (dfiles keep _ _ d.files).length ≤ N
    rw [dfiles_len]; exact h.files
  · exact Nat.le_trans h1 h2
  · show (dpend keep d.pend 0 d.safe).length + 0 ≤ N
    omega
theorem fat_in (d : Dk) (R : Nat) (h : ∀ f ∈ d.files, f.data.length ≤ R) (i : Nat) : (fat d.files i).data.length ≤ R := by
  unfold fat
  rw [List.getD_eq_getElem?_getD]
  cases hg : d.files[i]? with
  | none => exact Nat.zero_le _
  | some g => exact h g (List.mem_of_getElem? hg)
theorem DkB.act {d : Dk} {N : Nat} (h : DkB d N) (b : Bool) (o : Od) (ho : odOk o) (hoff : d.off = false) (hr : drefused d o = 0) : DkB (dact d b o) (N + 1) := by
  have hsafe := h.safe
  have hpe : ∀ {p : Pn}, pnOk p → ∀ q ∈ d.pend ++ [p], pnOk q := fun {p} hp q hq => by
    rcases List.mem_append.1 hq with hq | hq
    · exact h.pend q hq
    · have e : q = p := by simpa using hq
      rw [e]; exact hp
  cases o with
  | create n =>
    refine ⟨?_, ?_, ?_, h.room, ?_, h.armed, h.fate, hpe (p := .cr n d.files.length) ho⟩
    · show (d.files ++ [(⟨[], 0⟩ : Fl)]).length ≤ _
      have := h.files; simp; omega
    · show (tins d.now n d.files.length).length ≤ _
      have := tins_len d.now n d.files.length; have := h.now; omega
    · rw [show (dact d b _).pend = d.pend ++ [_] from rfl]; show d.safe.length + _ ≤ _
      simp; omega
    · intro f hf
      rcases List.mem_append.1 hf with hf | hf
      · exact h.data f hf
      · have e : f = ⟨[], 0⟩ := by simpa using hf
        rw [e]; exact Nat.zero_le _
  | write n s =>
    refine ⟨?_, ?_, ?_, h.room, ?_, h.armed, h.fate, h.pend⟩
    · rw [dwrite_len]; have := h.files; omega
    · have := h.now; show d.now.length ≤ _; omega
    · show d.safe.length + d.pend.length ≤ _; omega
    · intro f hf
      rcases mem_set hf with hf | hf
      · exact h.data f hf
      · rw [hf]
        show ((fat d.files ((tget d.now n).getD 0)).data ++ s).length ≤ d.room
        rw [List.length_append]
        have hs : (tget d.now n).isSome = true := by
          cases hq : (tget d.now n).isSome with
          | true => rfl
          | false => simp [drefused, hq] at hr
        obtain ⟨g, hg⟩ := Option.isSome_iff_exists.1 hs
        have hu : ¬ d.room < dused d + s.length := by
          intro hc
          simp [drefused, hg, hc] at hr
        rw [hg]
        have hm := dsum_mem (fs := d.files) (tget_mem hg)
        have hd : dused d = dsum d.files d.now := by unfold dused; rw [if_neg (by rw [hoff]; simp)]
        rw [hd] at hu
        show (fat d.files g).data.length + s.length ≤ d.room
        simp only at hm
        omega
  | sync n =>
    cases b with
    | true => exact h.mono (Nat.le_succ _)
    | false =>
      refine ⟨?_, ?_, ?_, h.room, ?_, h.armed, h.fate, h.pend⟩
      · rw [dsync_len]; have := h.files; omega
      · have := h.now; show d.now.length ≤ _; omega
      · show d.safe.length + d.pend.length ≤ _; omega
      · intro f hf
        rcases mem_set hf with hf | hf
        · exact h.data f hf
        · rw [hf]
          exact fat_in d d.room h.data _
  | rename o n =>
    refine ⟨?_, ?_, ?_, h.room, h.data, h.armed, h.fate, hpe (p := .rn o n) ho⟩
    · have := h.files; show d.files.length ≤ _; omega
    · show (tdone d.now (.rn o n)).length ≤ _
      have := tdone_len d.now (.rn o n); have := h.now; omega
    · rw [show (dact d b _).pend = d.pend ++ [_] from rfl]; show d.safe.length + _ ≤ _
      simp; omega
  | remove n =>
    refine ⟨?_, ?_, ?_, h.room, h.data, h.armed, h.fate, hpe (p := .rm n) ho⟩
    · have := h.files; show d.files.length ≤ _; omega
    · show (tout d.now n).length ≤ _
      have := tout_len d.now n; have := h.now; omega
    · rw [show (dact d b _).pend = d.pend ++ [_] from rfl]; show d.safe.length + _ ≤ _
      simp; omega
  | flush =>
    cases b with
    | true => exact h.mono (Nat.le_succ _)
    | false =>
      refine ⟨?_, ?_, ?_, h.room, h.data, h.armed, h.fate, fun p hp => (by cases hp)⟩
      · have := h.files; show d.files.length ≤ _; omega
      · have := h.now; show d.now.length ≤ _; omega
      · have := h.now; show d.now.length + 0 ≤ _; omega
theorem DkB.armed' {d : Dk} {N : Nat} (h : DkB d N) (k : Nat) (hk : k ≤ 9223372036854775807) : DkB { d with armed := k } N := ⟨h.files, h.now, h.safe, h.room, h.data, hk, h.fate, h.pend⟩
theorem DkB.do {d : Dk} {N : Nat} (h : DkB d N) (hk : DkOk d) (o : Od) (ho : odOk o) : DkB (ddo d o).1 (N + 1) := by
  unfold ddo
  have ha : d.armed - 1 ≤ 9223372036854775807 := by have := h.armed; omega
  split
  · exact h.mono (Nat.le_succ _)
  · rename_i hoff
    have hoff' : d.off = false := by simpa using hoff
    split
    · exact h.mono (Nat.le_succ _)
    · rename_i hr
      have hr' : drefused { d with armed := d.armed - 1 } o = 0 := by rw [drefused_armed]; omega
      split
      · exact ((h.armed' _ ha).act true o ho hoff' hr').fail ((hk.armed _).act true o hr') _
      · exact (h.armed' _ ha).act false o ho hoff' hr'
end Go.Proofs.YtfgpigblnkanpaaGreat
