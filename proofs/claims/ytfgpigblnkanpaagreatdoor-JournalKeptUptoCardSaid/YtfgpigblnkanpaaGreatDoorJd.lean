/- A disk that has one file, or a file and another that is laid in its place. Plain data. -/
import Derived.Test.YtfgpigblnkanpaaGreatDoorGA
namespace Go.Proofs.YtfgpigblnkanpaaGreatDoor

/-- One name alone, of these bytes. -/
structure Lone (d : Dk) (n : Nm) (x : List UInt8) (R : Nat) : Prop where
  calm : Calm d
  ok : DkOk d
  room : d.room = R
  one : ∃ f, d.now = [(n, f)] ∧ (fat d.files f).data = x
variable {d : Dk} {n : Nm} {x : List UInt8} {R : Nat}
theorem ddo_calm (hc : Calm d) {o : Od} (hr : drefused d o = 0) : ddo d o = (dact d false o, 0) := by
  rw [ddo_ok hc hr]
  have h0 : d.armed - 1 = d.armed := by rw [hc.2]
  rw [h0]
theorem dact_room (d : Dk) (b : Bool) (o : Od) : (dact d b o).room = d.room := by cases o <;> cases b <;> rfl
theorem Lone.read (h : Lone d n x R) : dread d n = (x, 0) := by
  obtain ⟨f, h1, h2⟩ := h.one
  unfold dread
  rw [if_neg (by rw [h.calm.1]; simp), h1, tget_cons, if_pos rfl]
  simp [h2]
theorem Lone.miss (h : Lone d n x R) {m : Nm} (hm : n ≠ m) : dread d m = ([], 18) := by
  obtain ⟨f, h1, h2⟩ := h.one
  unfold dread
  rw [if_neg (by rw [h.calm.1]; simp), h1, tget_cons, if_neg (by exact hm)]
  rfl
theorem Lone.used (h : Lone d n x R) : dused d = x.length := by
  obtain ⟨f, h1, h2⟩ := h.one
  unfold dused
  rw [if_neg (by rw [h.calm.1]; simp), h1]
  simp [dsum, h2]
theorem Lone.write (h : Lone d n x R) {s : List UInt8} (hs : x.length + s.length ≤ R) : (ddo d (.write n s)).2 = 0 ∧ Lone (ddo d (.write n s)).1 n (x ++ s) R := by
  obtain ⟨f, h1, h2⟩ := h.one
  have hg : tget d.now n = some f := by rw [h1, tget_cons, if_pos rfl]
  have hr : drefused d (.write n s) = 0 := by
    show (if (tget d.now n).isSome = false then 18 else if d.room < dused d + s.length then 19 else 0) = 0
    rw [hg, if_neg (by simp), h.used, h.room, if_neg (by omega)]
  have hf : f < d.files.length := h.ok.nowIn (n, f) (by rw [h1]; simp)
  have hc := h.calm.do (.write n s)
  have hk := h.ok.do (.write n s)
  rw [ddo_calm h.calm hr] at hc hk ⊢
  refine ⟨rfl, hc, hk, (dact_room _ _ _).trans h.room, f, h1, ?_⟩
  show (fat (fmod d.files ((tget d.now n).getD 0) fun f => ⟨f.data ++ s, f.safe⟩) f).data = _
  rw [hg]
  show (fat (fmod d.files f _) f).data = _
  rw [fat_fmod _ _ _ _ hf, if_pos rfl, h2]
theorem Lone.sync (h : Lone d n x R) : (ddo d (.sync n)).2 = 0 ∧ Lone (ddo d (.sync n)).1 n x R := by
  obtain ⟨f, h1, h2⟩ := h.one
  have hg : tget d.now n = some f := by rw [h1, tget_cons, if_pos rfl]
  obtain ⟨a, b, _, _, e, _⟩ := sync_one h.ok h.calm hg
  have hr : drefused d (.sync n) = 0 := by simp [drefused, hg]
  refine ⟨a, h.calm.do _, h.ok.do _, ?_, f, b.trans h1, (e f).trans h2⟩
  rw [ddo_calm h.calm hr]
  exact (dact_room _ _ _).trans h.room
theorem Lone.flush (h : Lone d n x R) : (ddo d .flush).2 = 0 ∧ Lone (ddo d .flush).1 n x R := by
  obtain ⟨f, h1, h2⟩ := h.one
  refine ⟨by rw [h.calm.flush], h.calm.do _, h.ok.do _, ?_, f, ?_, ?_⟩ <;> rw [h.calm.flush]
  · exact h.room
  · exact h1
  · exact h2
/-- A new disk: a name made there. -/
theorem lone_new (R : Nat) (hR : R ≤ 268435456) {n : Nm} (hn : badName n = false) : (ddo (dnew R) (.create n)).2 = 0 ∧ Lone (ddo (dnew R) (.create n)).1 n [] R := by
  have hr : drefused (dnew R) (.create n) = 0 := by
    show (if badName n = true then 21 else if (tget [] n).isSome = true then 13 else 0) = 0
    rw [hn]
    rfl
  have hc : Calm (dnew R) := ⟨rfl, rfl⟩
  refine ⟨by rw [ddo_calm hc hr], hc.do _, (DkOk.new _).do _, ?_, 0, ?_, ?_⟩ <;> rw [ddo_calm hc hr]
  · rw [dact_room]; show (min (max (R : Int) 0) 268435456).toNat = R; omega
  · rfl
  · rfl
/-! ### a hand laid beside it -/
/-- Another name behind it, of these bytes. -/
structure Handed (d : Dk) (n m : Nm) (x y : List UInt8) (R : Nat) : Prop where
  calm : Calm d
  ok : DkOk d
  room : d.room = R
  lt : nlt n m = true
  two : ∃ f g, d.now = [(n, f), (m, g)] ∧ f ≠ g ∧ (fat d.files f).data = x ∧ (fat d.files g).data = y
variable {m : Nm} {y : List UInt8}
theorem Lone.hand (h : Lone d n x R) (hm : nlt n m = true) (hb : badName m = false) : (ddo d (.create m)).2 = 0 ∧ Handed (ddo d (.create m)).1 n m x [] R := by
  obtain ⟨f, h1, h2⟩ := h.one
  have hne := nlt_ne hm
  have hg : tget d.now m = none := by rw [h1, tget_cons, if_neg (by exact hne)]; rfl
  have hr : drefused d (.create m) = 0 := by
    show (if badName m = true then 21 else if (tget d.now m).isSome = true then 13 else 0) = 0
    rw [hb, hg]
    rfl
  have hf : f < d.files.length := h.ok.nowIn (n, f) (by rw [h1]; simp)
  have hc := h.calm.do (.create m)
  have hk := h.ok.do (.create m)
  rw [ddo_calm h.calm hr] at hc hk ⊢
  refine ⟨rfl, hc, hk, (dact_room _ _ _).trans h.room, hm, f, d.files.length, ?_, by omega, ?_, ?_⟩
  · show tins d.now m d.files.length = _
    rw [h1]
    unfold tins
    simp [hm, nlt_asymm hm]
  · show (fat (d.files ++ [⟨[], 0⟩]) f).data = x
    rw [fat_append hf, h2]
  · show (fat (d.files ++ [⟨[], 0⟩]) d.files.length).data = []
    unfold fat
    rw [List.getD_eq_getElem?_getD, List.getElem?_append_right (Nat.le_refl _)]
    simp
theorem Handed.get (h : Handed d n m x y R) : ∃ f g, d.now = [(n, f), (m, g)] ∧ f ≠ g ∧ (fat d.files f).data = x ∧ (fat d.files g).data = y ∧ tget d.now m = some g ∧ tget d.now n = some f ∧ f < d.files.length ∧ g < d.files.length := by
  obtain ⟨f, g, h1, h2, h3, h4⟩ := h.two
  have hne := nlt_ne h.lt
  refine ⟨f, g, h1, h2, h3, h4, ?_, ?_, h.ok.nowIn (n, f) (by rw [h1]; simp), h.ok.nowIn (m, g) (by rw [h1]; simp)⟩
  · rw [h1, tget_cons, if_neg (by exact hne), tget_cons, if_pos rfl]
  · rw [h1, tget_cons, if_pos rfl]
theorem Handed.write (h : Handed d n m x y R) {s : List UInt8} (hs : x.length + y.length + s.length ≤ R) : (ddo d (.write m s)).2 = 0 ∧ Handed (ddo d (.write m s)).1 n m x (y ++ s) R := by
  obtain ⟨f, g, h1, h2, h3, h4, hg, hn, hf, hgl⟩ := h.get
  have hu : dused d = x.length + y.length := by
    unfold dused
    rw [if_neg (by rw [h.calm.1]; simp), h1]
    simp [dsum, h3, h4]
  have hr : drefused d (.write m s) = 0 := by
    show (if (tget d.now m).isSome = false then 18 else if d.room < dused d + s.length then 19 else 0) = 0
    rw [hg, if_neg (by simp), hu, h.room, if_neg (by omega)]
  have hc := h.calm.do (.write m s)
  have hk := h.ok.do (.write m s)
  rw [ddo_calm h.calm hr] at hc hk ⊢
  refine ⟨rfl, hc, hk, (dact_room _ _ _).trans h.room, h.lt, f, g, h1, h2, ?_, ?_⟩
  · show (fat (fmod d.files ((tget d.now m).getD 0) fun f => ⟨f.data ++ s, f.safe⟩) f).data = _
    rw [hg]
    show (fat (fmod d.files g _) f).data = _
    rw [fat_fmod _ _ _ _ hgl, if_neg (by omega), h3]
  · show (fat (fmod d.files ((tget d.now m).getD 0) fun f => ⟨f.data ++ s, f.safe⟩) g).data = _
    rw [hg]
    show (fat (fmod d.files g _) g).data = _
    rw [fat_fmod _ _ _ _ hgl, if_pos rfl, h4]
theorem Handed.sync (h : Handed d n m x y R) : (ddo d (.sync m)).2 = 0 ∧ Handed (ddo d (.sync m)).1 n m x y R := by
  obtain ⟨f, g, h1, h2, h3, h4, hg, hn, hf, hgl⟩ := h.get
  obtain ⟨a, b, _, _, e, _⟩ := sync_one h.ok h.calm hg
  have hr : drefused d (.sync m) = 0 := by simp [drefused, hg]
  refine ⟨a, h.calm.do _, h.ok.do _, ?_, h.lt, f, g, b.trans h1, h2, (e f).trans h3, (e g).trans h4⟩
  rw [ddo_calm h.calm hr]
  exact (dact_room _ _ _).trans h.room
theorem Handed.laid (h : Handed d n m x y R) (hb : badName n = false) : (ddo d (.rename m n)).2 = 0 ∧ Lone (ddo d (.rename m n)).1 n y R := by
  obtain ⟨f, g, h1, h2, h3, h4, hg, hn, hf, hgl⟩ := h.get
  have hr : drefused d (.rename m n) = 0 := by
    show (if (tget d.now m).isSome = false then 18 else if badName n = true then 21 else 0) = 0
    rw [hg, hb]
    rfl
  have hne := nlt_ne h.lt
  have hc := h.calm.do (.rename m n)
  have hk := h.ok.do (.rename m n)
  rw [ddo_calm h.calm hr] at hc hk ⊢
  refine ⟨rfl, hc, hk, (dact_room _ _ _).trans h.room, g, ?_, h4⟩
  show tdone d.now (.rn m n) = _
  rw [h1]
  simp only [tdone]
  rw [h1] at hg
  rw [hg]
  simp [tout, tins, hne, nlt_irrefl]
end Go.Proofs.YtfgpigblnkanpaaGreatDoor
