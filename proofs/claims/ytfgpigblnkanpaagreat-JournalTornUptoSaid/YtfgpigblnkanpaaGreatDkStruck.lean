/- What is armed strikes as a failure behind the operation does; all names synced are whole files. Plain data. -/
import Derived.Test.YtfgpigblnkanpaaGreatDkSafe
namespace Go.Proofs.YtfgpigblnkanpaaGreat

/-! ### all names synced -/
theorem ddo_ok {d : Dk} (hc : Calm d) {o : Od} (hr : drefused d o = 0) : ddo d o = (dact { d with armed := d.armed - 1 } false o, 0) := by
  unfold ddo
  rw [if_neg (by rw [hc.1]; simp), if_neg (by omega), if_neg (by rw [hc.2]; simp)]
theorem ddo_no {d : Dk} (hc : d.off = false) {o : Od} (hr : drefused d o ≠ 0) : ddo d o = (d, drefused d o) := by
  unfold ddo
  rw [if_neg (by rw [hc]; simp), if_pos hr]
theorem sync_one {d : Dk} (hk : DkOk d) (hc : Calm d) {n : Nm} {f : Nat} (hn : tget d.now n = some f) : (ddo d (.sync n)).2 = 0 ∧ (ddo d (.sync n)).1.now = d.now ∧ (ddo d (.sync n)).1.safe = d.safe ∧ (ddo d (.sync n)).1.pend = d.pend ∧ (∀ i, (fat (ddo d (.sync n)).1.files i).data = (fat d.files i).data) ∧ (∀ i, Whole (fat d.files i) ∨ i = f → Whole (fat (ddo d (.sync n)).1.files i)) := by
  have hr : drefused d (.sync n) = 0 := by simp [drefused, hn]
  rw [ddo_ok hc hr]
  have hf := hk.nowIn _ (tget_mem hn)
  have hfat : ∀ i, fat (dact { d with armed := d.armed - 1 } false (.sync n)).files i = if f = i then ⟨(fat d.files i).data, (fat d.files i).data.length⟩ else fat d.files i := fun i => by
    show fat (fmod d.files ((tget d.now n).getD 0) fun f => ⟨f.data, f.data.length⟩) i = _
    rw [hn]
    exact fat_fmod _ _ _ _ hf
  refine ⟨rfl, rfl, rfl, rfl, fun i => ?_, fun i h => ?_⟩
  · rw [hfat]; split <;> rfl
  · rw [hfat]
    by_cases e : f = i
    · rw [if_pos e]; rfl
    · rw [if_neg e]
      rcases h with h | h
      · exact h
      · exact absurd h.symm e

/-! ### armed -/
/-- Two disks that differ in what is armed alone. -/
structure Twin (a b : Dk) (k : Nat) (keep : List Int) : Prop where
  same : a = { b with armed := k, fate := keep }
  calm : Calm b
  pos : 0 < k
theorem dact_armed (b : Dk) (k : Nat) (keep : List Int) (s : Bool) (o : Od) : dact { b with armed := k, fate := keep } s o = { dact b s o with armed := k, fate := keep } := by
  cases o <;> cases s <;> rfl
theorem dact_late (b : Dk) (o : Od) : dact b true o = match o with | .sync _ => b | .flush => b | o => dact b false o := by cases o <;> rfl
theorem dfail_armed (b : Dk) (k : Nat) (keep l : List Int) : dfail { b with armed := k, fate := keep } l = dfail b l := rfl
/-- Ahead of the stroke both do the same. -/
theorem Twin.step {a b : Dk} {k : Nat} {keep : List Int} (h : Twin a b k keep) (o : Od) (hk : 1 < k ∨ drefused b o ≠ 0) : (ddo a o).2 = (ddo b o).2 ∧ (ddo a o).2 = drefused b o ∧ Twin (ddo a o).1 (ddo b o).1 (if drefused b o = 0 then k - 1 else k) keep := by
  obtain ⟨rfl, hc, hp⟩ := h
  have ha : drefused { b with armed := k, fate := keep } o = drefused b o := by cases o <;> rfl
  by_cases hr : drefused b o = 0
  · rcases hk with hk | hk
    · have e1 : ddo { b with armed := k, fate := keep } o = (dact { b with armed := k - 1, fate := keep } false o, 0) := by
        unfold ddo
        rw [if_neg (by show ¬ b.off = true; rw [hc.1]; simp), ha, if_neg (by omega), if_neg (by show ¬ k = 1; omega)]
      rw [e1, ddo_ok hc hr, if_pos hr]
      refine ⟨rfl, hr.symm, ?_, ?_, by omega⟩
      · rw [dact_armed]
        have : dact { b with armed := b.armed - 1 } false o = { dact b false o with armed := b.armed - 1 } := by cases o <;> rfl
        rw [this]
      · have := hc.do o
        rw [ddo_ok hc hr] at this
        exact this
    · exact absurd hr hk
  · rw [ddo_no (d := { b with armed := k, fate := keep }) hc.1 (by rw [ha]; exact hr), ddo_no hc.1 hr, if_neg hr, ha]
    exact ⟨rfl, rfl, rfl, hc, hp⟩
/-- What the other disk has behind the operation. -/
def dbehind (b : Dk) (o : Od) : Dk := match o with
  | .sync _ => b
  | .flush => b
  | o => (ddo b o).1
/-- The stroke. -/
theorem Twin.stroke {a b : Dk} {keep : List Int} (h : Twin a b 1 keep) (o : Od) (hr : drefused b o = 0) : (ddo a o).2 = 20 ∧ (ddo a o).1 = dfail (dbehind b o) keep ∧ ((∀ n, o ≠ .sync n) → o ≠ .flush → (ddo b o).2 = 0) := by
  obtain ⟨rfl, hc, hp⟩ := h
  have ha : drefused { b with armed := 1, fate := keep } o = drefused b o := by cases o <;> rfl
  have e1 : ddo { b with armed := 1, fate := keep } o = (dfail (dact { b with armed := 0, fate := keep } true o) keep, 20) := by
    unfold ddo
    rw [if_neg (by show ¬ b.off = true; rw [hc.1]; simp), ha, if_neg (by omega), if_pos rfl]
    rfl
  have hm : dact { b with armed := b.armed - 1 } false o = dact b false o := by
    have h0 := hc.2
    cases b
    simp only at h0
    subst h0
    rfl
  have hd : ddo b o = (dact b false o, 0) := by rw [ddo_ok hc hr, hm]
  rw [e1]
  refine ⟨rfl, ?_, fun _ _ => by rw [hd]⟩
  show dfail (dact { b with armed := 0, fate := keep } true o) keep = _
  rw [dact_armed, dfail_armed, dact_late]
  cases o with
  | sync n => rfl
  | flush => rfl
  | create n => show dfail (dact b false _) keep = dfail (ddo b _).1 keep; rw [hd]
  | write n s => show dfail (dact b false _) keep = dfail (ddo b _).1 keep; rw [hd]
  | rename o n => show dfail (dact b false _) keep = dfail (ddo b _).1 keep; rw [hd]
  | remove n => show dfail (dact b false _) keep = dfail (ddo b _).1 keep; rw [hd]
end Go.Proofs.YtfgpigblnkanpaaGreat
