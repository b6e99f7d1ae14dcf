/- What is safe stays: a file whose name no operation touches begins with its safe bytes behind any failure. Plain data. -/
import Derived.Test.YtfgpigblnkanpaaGreatDkStill
namespace Go.Proofs.YtfgpigblnkanpaaGreat

def pfar (n : Nm) : Pn → Prop
  | .cr m _ => m ≠ n
  | .rn o m => o ≠ n ∧ m ≠ n
  | .rm m => m ≠ n
theorem tdone_far {t : Tb} {n : Nm} : ∀ {p : Pn}, pfar n p → tget (tdone t p) n = tget t n
  | .cr m f, h => by
    show tget (tins t m f) n = _
    rw [tget_ins, if_neg (fun e => h e.symm)]
  | .rm m, h => by
    show tget (tout t m) n = _
    rw [tget_out, if_neg (fun e => h e.symm)]
  | .rn o m, h => by
    show tget (match tget t o with | none => t | some f => tins (tout t o) m f) n = _
    cases tget t o with
    | none => rfl
    | some f =>
      show tget (tins (tout t o) m f) n = _
      rw [tget_ins, if_neg (fun e => h.2 e.symm), tget_out, if_neg (fun e => h.1 e.symm)]
theorem dpend_far (keep : List Int) (n : Nm) : ∀ (l : List Pn) (k : Nat) (t : Tb), (∀ p ∈ l, pfar n p) → tget (dpend keep l k t) n = tget t n
  | [], _, _, _ => rfl
  | p :: r, k, t, h => by
    rw [dpend, dpend_far keep n r (k + 1) _ (fun q hq => h q (List.mem_cons_of_mem _ hq))]
    split
    · exact tdone_far (h p List.mem_cons_self)
    · rfl
/-- These bytes are safe at the file's beginning. -/
def Begins (D : List UInt8) (f : Fl) : Prop := D <+: f.data.take f.safe
theorem Begins.cut {D : List UInt8} {f : Fl} (h : Begins D f) (n : Int) : Begins D (dcut f n) := by
  unfold Begins dcut
  rw [List.take_of_length_le (Nat.le_refl _)]
  exact h.trans (dleft_len f n)
theorem dfiles_begins (keep : List Int) (D : List UInt8) : ∀ (t : Tb) (k : Nat) (fs : List Fl) (i : Nat), (∀ x ∈ t, x.2 < fs.length) → Begins D (fat fs i) → Begins D (fat (dfiles keep t k fs) i)
  | [], _, _, _, _, h => h
  | x :: r, k, fs, i, hl, h => by
    rw [dfiles]
    refine dfiles_begins keep D r (k + 1) _ i (fun y hy => by rw [List.length_set]; exact hl y (List.mem_cons_of_mem _ hy)) ?_
    rw [fat_set _ _ _ _ (hl x List.mem_cons_self)]
    by_cases e : x.2 = i
    · rw [if_pos e, e]; exact h.cut _
    · rw [if_neg e]; exact h
structure Kept (d : Dk) (n : Nm) (f : Nat) (D : List UInt8) : Prop where
  now : tget d.now n = some f
  safe : tget d.safe n = some f
  pend : ∀ p ∈ d.pend, pfar n p
  begins : Begins D (fat d.files f)
/-- Does an operation touch a name? -/
def otouch (n : Nm) : Od → Prop
  | .create m => m = n
  | .rename o m => o = n ∨ m = n
  | .remove m => m = n
  | _ => False
theorem fat_append {fs : List Fl} {i : Nat} (h : i < fs.length) (g : List Fl) : fat (fs ++ g) i = fat fs i := by
  unfold fat
  rw [List.getD_eq_getElem?_getD, List.getD_eq_getElem?_getD, List.getElem?_append_left h]
theorem fat_fmod (fs : List Fl) (i j : Nat) (g : Fl → Fl) (h : i < fs.length) : fat (fmod fs i g) j = if i = j then g (fat fs j) else fat fs j := by
  unfold fmod
  rw [fat_set _ _ _ _ h]
  by_cases e : i = j
  · rw [if_pos e, if_pos e, e]
  · rw [if_neg e, if_neg e]
theorem Kept.act {d : Dk} {n : Nm} {f : Nat} {D : List UInt8} (h : Kept d n f D) (hk : DkOk d) (o : Od) (hr : drefused d o = 0) (ht : ¬ otouch n o) : Kept (dact d false o) n f D := by
  have hf := hk.nowIn _ (tget_mem h.now)
  have hin : ∀ {m : Nm}, (tget d.now m).isSome = true → (tget d.now m).getD 0 < d.files.length := fun {m} hs => by
    obtain ⟨g, hg⟩ := Option.isSome_iff_exists.1 hs
    rw [hg]; exact hk.nowIn _ (tget_mem hg)
  have hpe : ∀ {p : Pn}, pfar n p → ∀ q ∈ d.pend ++ [p], pfar n q := fun {p} hp q hq => by
    rcases List.mem_append.1 hq with hq | hq
    · exact h.pend q hq
    · have e : q = p := by simpa using hq
      rw [e]; exact hp
  cases o with
  | create m =>
    refine ⟨?_, h.safe, hpe (p := .cr m d.files.length) ht, ?_⟩
    · exact (tdone_far (p := .cr m d.files.length) ht).trans h.now
    · show Begins D (fat (d.files ++ [⟨[], 0⟩]) f)
      rw [fat_append hf]; exact h.begins
  | write m s =>
    have hs : (tget d.now m).isSome = true := by
      cases hq : (tget d.now m).isSome with
      | true => rfl
      | false => simp [drefused, hq] at hr
    refine ⟨h.now, h.safe, h.pend, ?_⟩
    show Begins D (fat (fmod d.files ((tget d.now m).getD 0) fun f => ⟨f.data ++ s, f.safe⟩) f)
    rw [fat_fmod _ _ _ _ (hin hs)]
    split
    · have hle := hk.safeLe _ (fat_mem hf)
      show D <+: ((fat d.files f).data ++ s).take (fat d.files f).safe
      rw [List.take_append_of_le_length hle]
      exact h.begins
    · exact h.begins
  | sync m =>
    have hs : (tget d.now m).isSome = true := by
      cases hq : (tget d.now m).isSome with
      | true => rfl
      | false => simp [drefused, hq] at hr
    refine ⟨h.now, h.safe, h.pend, ?_⟩
    show Begins D (fat (fmod d.files ((tget d.now m).getD 0) fun f => ⟨f.data, f.data.length⟩) f)
    rw [fat_fmod _ _ _ _ (hin hs)]
    split
    · show D <+: (fat d.files f).data.take (fat d.files f).data.length
      rw [List.take_of_length_le (Nat.le_refl _)]
      exact List.IsPrefix.trans h.begins (List.take_prefix _ _)
    · exact h.begins
  | rename a b =>
    have hp : pfar n (.rn a b) := ⟨fun e => ht (Or.inl e), fun e => ht (Or.inr e)⟩
    exact ⟨(tdone_far hp).trans h.now, h.safe, hpe hp, h.begins⟩
  | remove m =>
    exact ⟨(tdone_far (p := .rm m) ht).trans h.now, h.safe, hpe (p := .rm m) ht, h.begins⟩
  | flush => exact ⟨h.now, h.now, fun p hp => (by cases hp), h.begins⟩
theorem Kept.armed {d : Dk} {n : Nm} {f : Nat} {D : List UInt8} (h : Kept d n f D) (k : Nat) : Kept { d with armed := k } n f D := ⟨h.now, h.safe, h.pend, h.begins⟩
/-- Any operation of a calm disk that fails or does not touch the name. -/
theorem Kept.do {d : Dk} {n : Nm} {f : Nat} {D : List UInt8} (h : Kept d n f D) (hk : DkOk d) (hc : Calm d) (o : Od) (ht : (ddo d o).2 = 0 → ¬ otouch n o) : Kept (ddo d o).1 n f D := by
  obtain ⟨h1, h2⟩ := hc
  by_cases hr : drefused d o = 0
  · have e : ddo d o = (dact { d with armed := d.armed - 1 } false o, 0) := by
      unfold ddo
      rw [if_neg (by rw [h1]; simp), if_neg (by omega), if_neg (by omega)]
    rw [e] at ht ⊢
    exact (h.armed _).act (hk.armed _) o (by rw [drefused_armed]; exact hr) (ht rfl)
  · have e : ddo d o = (d, drefused d o) := by
      unfold ddo
      rw [if_neg (by rw [h1]; simp), if_pos hr]
    rw [e]; exact h
/-- Behind a failure the name leads to a file that begins so. -/
theorem Kept.fail {d : Dk} {n : Nm} {f : Nat} {D : List UInt8} (h : Kept d n f D) (hk : DkOk d) (keep : List Int) : dread (drevive (dfail d keep)) n = ((fat (dfail d keep).files f).data, 0) ∧ D <+: (fat (dfail d keep).files f).data := by
  have h1 : tget (dfail d keep).now n = some f := (dpend_far keep n _ _ _ h.pend).trans h.safe
  refine ⟨?_, ?_⟩
  · unfold dread
    rw [if_neg (by simp [drevive])]
    show (match tget (dfail d keep).now n with | none => ([], 18) | some f => ((fat (dfail d keep).files f).data, 0)) = _
    rw [h1]
  · have := dfiles_begins keep D (dpend keep d.pend 0 d.safe) d.pend.length d.files f (dpend_in keep d.files.length d.pend 0 d.safe hk.safeIn hk.pendIn) h.begins
    exact List.IsPrefix.trans this (List.take_prefix _ _)
end Go.Proofs.YtfgpigblnkanpaaGreat
