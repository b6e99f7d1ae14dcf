/- A disk whose power may fail, as plain data: without the program. No conditions. The laws of a disk as plain data: what is safe stays; a failure behind a failure changes nothing; what is armed strikes as a failure does. No conditions. A failure behind a failure changes nothing; no name is there that was not; what is whole and flushed stays. Plain data. What is safe stays: a file whose name no operation touches begins with its safe bytes behind any failure. Plain data. What is armed strikes as a failure behind the operation does; all names synced are whole files. Plain data. Bounds on a disk as plain data: how many files, names and operations that wait; how long a file is. No conditions. -/
import GoSem.Op.String
import Derived.Sort.Walk0
namespace Go.Proofs.YtfgpigblnkanpaaGreatDoor

abbrev Nm := List UInt8
structure Fl where
  data : List UInt8
  safe : Nat
abbrev Tb := List (Nm × Nat)
/-- An operation on names that waits for a flush. -/
inductive Pn where
  | cr (n : Nm) (f : Nat)
  | rn (o n : Nm)
  | rm (n : Nm)
structure Dk where
  off : Bool
  room : Nat
  files : List Fl
  now : Tb
  safe : Tb
  pend : List Pn
  armed : Nat
  fate : List Int

/-! ### names rise -/
def nlt (a b : Nm) : Bool := Op.bytesLess a b
theorem nlt_eq (a b : Nm) : nlt a b = decide (a < b) := bytesLess_eq a b
theorem nlt_irrefl (a : Nm) : nlt a a = false := by rw [nlt_eq]; simp [List.lt_irrefl]
theorem nlt_trans {a b c : Nm} (h1 : nlt a b = true) (h2 : nlt b c = true) : nlt a c = true := by
  rw [nlt_eq] at *
  simp only [decide_eq_true_eq] at *
  exact List.lt_trans h1 h2
theorem nlt_tri (a b : Nm) : nlt a b = true ∨ a = b ∨ nlt b a = true := by
  simp only [nlt_eq, decide_eq_true_eq]
  by_cases h : a < b
  · exact Or.inl h
  · by_cases h2 : b < a
    · exact Or.inr (Or.inr h2)
    · exact Or.inr (Or.inl (List.le_antisymm (List.not_lt.1 h2) (List.not_lt.1 h)))
theorem nlt_ne {a b : Nm} (h : nlt a b = true) : a ≠ b := fun e => by rw [e, nlt_irrefl] at h; cases h
theorem nlt_asymm {a b : Nm} (h : nlt a b = true) : nlt b a = false := by
  cases hq : nlt b a with
  | false => rfl
  | true => have := nlt_trans h hq; rw [nlt_irrefl] at this; cases this

/-! ### tables -/
def tget (t : Tb) (n : Nm) : Option Nat := (t.find? fun x => x.1 == n).map (·.2)
def tout (t : Tb) (n : Nm) : Tb := t.filter fun x => x.1 != n
def tins (t : Tb) (n : Nm) (f : Nat) : Tb := (t.filter fun x => nlt x.1 n) ++ (n, f) :: t.filter fun x => nlt n x.1
def Rise (t : Tb) : Prop := t.Pairwise fun x y => nlt x.1 y.1 = true
theorem Rise.out {t : Tb} (h : Rise t) (n : Nm) : Rise (tout t n) := List.Pairwise.filter _ h
theorem Rise.ins {t : Tb} (h : Rise t) (n : Nm) (f : Nat) : Rise (tins t n f) := by
  unfold Rise tins
  rw [List.pairwise_append]
  refine ⟨List.Pairwise.filter _ h, ?_, ?_⟩
  · rw [List.pairwise_cons]
    exact ⟨fun x hx => by simpa using (List.mem_filter.1 hx).2, List.Pairwise.filter _ h⟩
  · intro x hx y hy
    have h1 : nlt x.1 n = true := by simpa using (List.mem_filter.1 hx).2
    rcases List.mem_cons.1 hy with rfl | hy
    · exact h1
    · exact nlt_trans h1 (by simpa using (List.mem_filter.1 hy).2)
theorem tget_nil (n : Nm) : tget [] n = none := rfl
theorem tget_cons (x : Nm × Nat) (t : Tb) (n : Nm) : tget (x :: t) n = if x.1 = n then some x.2 else tget t n := by
  unfold tget
  rw [List.find?_cons]
  by_cases h : x.1 = n
  · rw [if_pos h]; simp [h]
  · have : (x.1 == n) = false := by simpa using h
    rw [this, if_neg h]
theorem tget_append (a b : Tb) (n : Nm) : tget (a ++ b) n = (tget a n).or (tget b n) := by
  induction a with
  | nil => simp [tget_nil]
  | cons x a ih =>
    rw [List.cons_append, tget_cons, tget_cons, ih]
    split <;> simp
theorem tget_filter (t : Tb) (p : Nm → Bool) (n : Nm) : tget (t.filter fun x => p x.1) n = if p n then tget t n else none := by
  induction t with
  | nil => simp [tget_nil]
  | cons x t ih =>
    rw [List.filter_cons]
    by_cases hp : p x.1 = true
    · rw [if_pos hp, tget_cons, tget_cons, ih]
      by_cases hx : x.1 = n
      · rw [if_pos hx, if_pos hx, ← hx, if_pos hp]
      · rw [if_neg hx, if_neg hx]
    · rw [if_neg hp, ih, tget_cons]
      by_cases hx : x.1 = n
      · subst hx; rw [if_neg hp, if_neg hp]
      · rw [if_neg hx]
theorem tget_out (t : Tb) (n m : Nm) : tget (tout t n) m = if m = n then none else tget t m := by
  have := tget_filter t (fun x => x != n) m
  unfold tout
  rw [this]
  by_cases h : m = n
  · simp [h]
  · simp [h]
theorem tget_ins (t : Tb) (n m : Nm) (f : Nat) : tget (tins t n f) m = if m = n then some f else tget t m := by
  unfold tins
  rw [tget_append, tget_cons, tget_filter t (fun x => nlt x n) m, tget_filter t (fun x => nlt n x) m]
  by_cases h : m = n
  · subst h; simp [nlt_irrefl]
  · have hn : ¬ n = m := fun e => h e.symm
    rcases nlt_tri m n with h1 | h1 | h1
    · simp [h, hn, h1, nlt_asymm h1]
    · exact absurd h1 h
    · simp [h, hn, h1, nlt_asymm h1]
theorem tget_mem {t : Tb} {n : Nm} {f : Nat} (h : tget t n = some f) : (n, f) ∈ t := by
  induction t with
  | nil => cases h
  | cons x t ih =>
    rw [tget_cons] at h
    by_cases hx : x.1 = n
    · rw [if_pos hx] at h
      have e : x.2 = f := by simpa using h
      rw [← hx, ← e]; exact List.mem_cons_self
    · rw [if_neg hx] at h; exact List.mem_cons_of_mem _ (ih h)
theorem tget_of_mem {t : Tb} (ht : Rise t) {n : Nm} {f : Nat} (h : (n, f) ∈ t) : tget t n = some f := by
  induction t with
  | nil => cases h
  | cons x t ih =>
    rw [Rise, List.pairwise_cons] at ht
    rw [tget_cons]
    rcases List.mem_cons.1 h with h | h
    · rw [← h, if_pos rfl]
    · rw [if_neg (nlt_ne (ht.1 _ h)), ih ht.2 h]
/-- Two rising tables that tell the same are one. -/
theorem Rise.ext : ∀ {a b : Tb}, Rise a → Rise b → (∀ n, tget a n = tget b n) → a = b
  | [], [], _, _, _ => rfl
  | [], y :: b, _, _, h => by have := h y.1; rw [tget_cons, if_pos rfl, tget_nil] at this; cases this
  | x :: a, [], _, _, h => by have := h x.1; rw [tget_cons, if_pos rfl, tget_nil] at this; cases this
  | x :: a, y :: b, ha, hb, h => by
    rw [Rise, List.pairwise_cons] at ha hb
    have hx := h x.1
    have hy := h y.1
    rw [tget_cons, if_pos rfl, tget_cons] at hx
    rw [tget_cons, tget_cons (t := b), if_pos rfl] at hy
    have e1 : x.1 = y.1 := by
      rcases nlt_tri x.1 y.1 with h1 | h1 | h1
      · exfalso
        rw [if_neg (fun e => nlt_ne h1 e.symm)] at hx
        have := nlt_trans h1 (hb.1 _ (tget_mem hx.symm))
        rw [nlt_irrefl] at this; cases this
      · exact h1
      · exfalso
        rw [if_neg (fun e => nlt_ne h1 e.symm)] at hy
        have := nlt_trans h1 (ha.1 _ (tget_mem hy))
        rw [nlt_irrefl] at this; cases this
    rw [if_pos e1.symm] at hx
    have e2 : x = y := Prod.ext e1 (by simpa using hx)
    subst e2
    congr 1
    refine Rise.ext ha.2 hb.2 fun n => ?_
    have hn := h n
    rw [tget_cons, tget_cons] at hn
    by_cases e : x.1 = n
    · have n1 : tget a n = none := by
        cases hq : tget a n with
        | none => rfl
        | some f => have := ha.1 _ (tget_mem hq); rw [← e, nlt_irrefl] at this; cases this
      have n2 : tget b n = none := by
        cases hq : tget b n with
        | none => rfl
        | some f => have := hb.1 _ (tget_mem hq); rw [← e, nlt_irrefl] at this; cases this
      rw [n1, n2]
    · rw [if_neg e, if_neg e] at hn; exact hn

/-! ### operations on names -/
def tdone (t : Tb) : Pn → Tb
  | .cr n f => tins t n f
  | .rm n => tout t n
  | .rn o n => match tget t o with
    | none => t
    | some f => tins (tout t o) n f
theorem Rise.done {t : Tb} (h : Rise t) : ∀ p, Rise (tdone t p)
  | .cr n f => h.ins n f
  | .rm n => h.out n
  | .rn o n => by
    show Rise (match tget t o with | none => t | some f => tins (tout t o) n f)
    cases tget t o with
    | none => exact h
    | some f => exact (h.out o).ins n f
theorem tins_same {t : Tb} (h : Rise t) {n : Nm} {f : Nat} (hg : tget t n = some f) : tins (tout t n) n f = t := by
  refine Rise.ext ((h.out n).ins n f) h fun m => ?_
  rw [tget_ins, tget_out]
  by_cases e : m = n
  · rw [if_pos e, e, hg]
  · rw [if_neg e, if_neg e]

/-! ### a failure -/
def keepAt (keep : List Int) (k : Nat) : Int := keep.getD k 0
def dpend (keep : List Int) : List Pn → Nat → Tb → Tb
  | [], _, t => t
  | p :: r, k, t => dpend keep r (k + 1) (if keepAt keep k % 2 = 1 then tdone t p else t)
theorem Rise.pend (keep : List Int) : ∀ (l : List Pn) (k : Nat) {t : Tb}, Rise t → Rise (dpend keep l k t)
  | [], _, _, h => h
  | p :: r, k, t, h => by
    unfold dpend
    split
    · exact Rise.pend keep r (k + 1) (h.done p)
    · exact Rise.pend keep r (k + 1) h
def dleft (f : Fl) (n : Int) : List UInt8 :=
  if n % 4 = 0 then f.data.take f.safe
  else if n % 4 = 1 then f.data
  else if n % 4 = 2 then f.data.take (f.safe + (f.data.length - f.safe) / 2)
  else f.data.take f.safe ++ List.replicate (f.data.length - f.safe) 0
def fat (fs : List Fl) (i : Nat) : Fl := fs.getD i ⟨[], 0⟩
def dcut (f : Fl) (n : Int) : Fl := ⟨dleft f n, (dleft f n).length⟩
def dfiles (keep : List Int) : Tb → Nat → List Fl → List Fl
  | [], _, fs => fs
  | x :: r, k, fs => dfiles keep r (k + 1) (fs.set x.2 (dcut (fat fs x.2) (keepAt keep k)))
def dfail (d : Dk) (keep : List Int) : Dk :=
  { d with off := true, files := dfiles keep (dpend keep d.pend 0 d.safe) d.pend.length d.files, now := dpend keep d.pend 0 d.safe, safe := dpend keep d.pend 0 d.safe, pend := [], armed := 0, fate := [] }

/-! ### operations -/
inductive Od where
  | create (n : Nm)
  | write (n : Nm) (s : List UInt8)
  | sync (n : Nm)
  | rename (o n : Nm)
  | remove (n : Nm)
  | flush
def dsum (fs : List Fl) : Tb → Nat
  | [] => 0
  | x :: r => (fat fs x.2).data.length + dsum fs r
def dused (d : Dk) : Nat := if d.off = true then 0 else dsum d.files d.now
def badName (n : Nm) : Bool := n == [] || decide (200 < n.length)
def drefused (d : Dk) : Od → Nat
  | .create n => if badName n = true then 21 else if (tget d.now n).isSome = true then 13 else 0
  | .write n s => if (tget d.now n).isSome = false then 18 else if d.room < dused d + s.length then 19 else 0
  | .sync n => if (tget d.now n).isSome = false then 18 else 0
  | .rename o n => if (tget d.now o).isSome = false then 18 else if badName n = true then 21 else 0
  | .remove n => if (tget d.now n).isSome = false then 18 else 0
  | .flush => 0
def fmod (fs : List Fl) (i : Nat) (g : Fl → Fl) : List Fl := fs.set i (g (fat fs i))
def dact (d : Dk) (struck : Bool) : Od → Dk
  | .create n => { d with files := d.files ++ [⟨[], 0⟩], now := tins d.now n d.files.length, pend := d.pend ++ [.cr n d.files.length] }
  | .write n s => { d with files := fmod d.files ((tget d.now n).getD 0) fun f => ⟨f.data ++ s, f.safe⟩ }
  | .sync n => if struck = true then d else { d with files := fmod d.files ((tget d.now n).getD 0) fun f => ⟨f.data, f.data.length⟩ }
  | .rename o n => { d with now := tdone d.now (.rn o n), pend := d.pend ++ [.rn o n] }
  | .remove n => { d with now := tout d.now n, pend := d.pend ++ [.rm n] }
  | .flush => if struck = true then d else { d with safe := d.now, pend := [] }
def ddo (d : Dk) (o : Od) : Dk × Nat :=
  if d.off = true then (d, 20)
  else if drefused d o ≠ 0 then (d, drefused d o)
  else if d.armed = 1 then (dfail (dact { d with armed := d.armed - 1 } true o) d.fate, 20)
  else (dact { d with armed := d.armed - 1 } false o, 0)
def dread (d : Dk) (n : Nm) : List UInt8 × Nat :=
  if d.off = true then ([], 20) else match tget d.now n with
    | none => ([], 18)
    | some f => ((fat d.files f).data, 0)
def dlist (d : Dk) (head : List UInt8) : List Nm := if d.off = true then [] else (d.now.map (·.1)).filter fun n => head.isPrefixOf n
def dnew (room : Int) : Dk := ⟨false, (min (max room 0) 268435456).toNat, [], [], [], [], 0, []⟩

/-- What holds of every disk. -/
structure DkOk (d : Dk) : Prop where
  now : Rise d.now
  safe : Rise d.safe
  nowIn : ∀ x ∈ d.now, x.2 < d.files.length
  safeIn : ∀ x ∈ d.safe, x.2 < d.files.length
  pendIn : ∀ n f, Pn.cr n f ∈ d.pend → f < d.files.length
  safeLe : ∀ f ∈ d.files, f.safe ≤ f.data.length
end Go.Proofs.YtfgpigblnkanpaaGreatDoor

namespace Go.Proofs.YtfgpigblnkanpaaGreatDoor

/-! ### what holds of every disk stays -/
theorem fat_set (fs : List Fl) (i j : Nat) (f : Fl) (h : i < fs.length) : fat (fs.set i f) j = if i = j then f else fat fs j := by
  unfold fat
  rw [List.getD_eq_getElem?_getD, List.getD_eq_getElem?_getD, List.getElem?_set]
  by_cases e : i = j
  · rw [if_pos e, if_pos e, if_pos h]; rfl
  · rw [if_neg e, if_neg e]
theorem mem_set {fs : List Fl} {i : Nat} {f x : Fl} (h : x ∈ fs.set i f) : x ∈ fs ∨ x = f := by
  rcases List.mem_or_eq_of_mem_set h with h | h
  · exact Or.inl h
  · exact Or.inr h
theorem dleft_len (f : Fl) (n : Int) : f.data.take f.safe <+: dleft f n := by
  unfold dleft
  split
  · exact List.prefix_refl _
  · split
    · exact List.take_prefix _ _
    · split
      · exact List.take_prefix_take_left (by omega)
      · exact List.prefix_append _ _
theorem dfiles_len (keep : List Int) : ∀ (t : Tb) (k : Nat) (fs : List Fl), (dfiles keep t k fs).length = fs.length
  | [], _, _ => rfl
  | x :: r, k, fs => by rw [dfiles, dfiles_len keep r, List.length_set]
theorem dfiles_le (keep : List Int) : ∀ (t : Tb) (k : Nat) (fs : List Fl), (∀ f ∈ fs, f.safe ≤ f.data.length) → ∀ f ∈ dfiles keep t k fs, f.safe ≤ f.data.length
  | [], _, _, h => h
  | x :: r, k, fs, h => by
    rw [dfiles]
    refine dfiles_le keep r (k + 1) _ fun f hf => ?_
    rcases mem_set hf with hf | hf
    · exact h f hf
    · rw [hf]; exact Nat.le_refl _
theorem tout_mem {t : Tb} {n : Nm} {x : Nm × Nat} (h : x ∈ tout t n) : x ∈ t ∧ x.1 ≠ n := by
  have := List.mem_filter.1 h
  exact ⟨this.1, by simpa using this.2⟩
theorem tins_mem {t : Tb} {n : Nm} {f : Nat} {x : Nm × Nat} (h : x ∈ tins t n f) : x ∈ t ∨ x = (n, f) := by
  unfold tins at h
  rcases List.mem_append.1 h with h | h
  · exact Or.inl (List.mem_filter.1 h).1
  · rcases List.mem_cons.1 h with h | h
    · exact Or.inr h
    · exact Or.inl (List.mem_filter.1 h).1
theorem tdone_mem {t : Tb} {p : Pn} {x : Nm × Nat} (h : x ∈ tdone t p) : (∃ y ∈ t, y.2 = x.2) ∨ ∃ n, p = .cr n x.2 := by
  cases p with
  | cr n f =>
    rcases tins_mem h with h | h
    · exact Or.inl ⟨x, h, rfl⟩
    · exact Or.inr ⟨n, by rw [h]⟩
  | rm n => exact Or.inl ⟨x, (tout_mem h).1, rfl⟩
  | rn o n =>
    replace h : x ∈ (match tget t o with | none => t | some f => tins (tout t o) n f) := h
    cases hg : tget t o with
    | none => rw [hg] at h; exact Or.inl ⟨x, h, rfl⟩
    | some f =>
      rw [hg] at h
      rcases tins_mem h with h | h
      · exact Or.inl ⟨x, (tout_mem h).1, rfl⟩
      · exact Or.inl ⟨(o, f), tget_mem hg, by rw [h]⟩
theorem dpend_in (keep : List Int) (N : Nat) : ∀ (l : List Pn) (k : Nat) (t : Tb), (∀ x ∈ t, x.2 < N) → (∀ n f, Pn.cr n f ∈ l → f < N) → ∀ x ∈ dpend keep l k t, x.2 < N
  | [], _, _, h, _ => h
  | p :: r, k, t, h, hp => by
    rw [dpend]
    refine dpend_in keep N r (k + 1) _ ?_ (fun n f hf => hp n f (List.mem_cons_of_mem _ hf))
    split
    · intro x hx
      rcases tdone_mem hx with ⟨y, hy, e⟩ | ⟨n, e⟩
      · rw [← e]; exact h y hy
      · exact hp n x.2 (by rw [← e]; exact List.mem_cons_self)
    · exact h
theorem DkOk.fail {d : Dk} (h : DkOk d) (keep : List Int) : DkOk (dfail d keep) := by
  have hin := dpend_in keep d.files.length d.pend 0 d.safe h.safeIn h.pendIn
  refine ⟨Rise.pend keep _ _ h.safe, Rise.pend keep _ _ h.safe, ?_, ?_, fun n f hf => (by cases hf), dfiles_le _ _ _ _ h.safeLe⟩
  · intro x hx
    show x.2 < (dfiles keep _ _ d.files).length
    rw [dfiles_len]; exact hin x hx
  · intro x hx
    show x.2 < (dfiles keep _ _ d.files).length
    rw [dfiles_len]; exact hin x hx
theorem dwrite_len (d : Dk) (b : Bool) (n : Nm) (s : List UInt8) : (dact d b (.write n s)).files.length = d.files.length := List.length_set
theorem dsync_len (d : Dk) (n : Nm) : (dact d false (.sync n)).files.length = d.files.length := List.length_set
theorem DkOk.act {d : Dk} (h : DkOk d) (b : Bool) (o : Od) (hr : drefused d o = 0) : DkOk (dact d b o) := by
  cases o with
  | create n =>
    refine ⟨h.now.ins n _, h.safe, ?_, ?_, ?_, ?_⟩
    · intro x hx
      show x.2 < (d.files ++ _).length
      rw [List.length_append]
      rcases tins_mem hx with hx | hx
      · have := h.nowIn x hx; simp; omega
      · rw [hx]; simp
    · intro x hx
      show x.2 < (d.files ++ _).length
      have := h.safeIn x hx
      rw [List.length_append]; omega
    · intro m f hf
      show f < (d.files ++ _).length
      rw [List.length_append]
      rcases List.mem_append.1 hf with hf | hf
      · have := h.pendIn m f hf; omega
      · have : Pn.cr m f = Pn.cr n d.files.length := by simpa using hf
        injection this with _ e
        simp; omega
    · intro f hf
      rcases List.mem_append.1 hf with hf | hf
      · exact h.safeLe f hf
      · have : f = ⟨[], 0⟩ := by simpa using hf
        rw [this]; exact Nat.le_refl _
  | write n s =>
    refine ⟨h.now, h.safe, fun x hx => ?_, fun x hx => ?_, fun m f hf => ?_, fun f hf => ?_⟩
    · rw [dwrite_len]; exact h.nowIn x hx
    · rw [dwrite_len]; exact h.safeIn x hx
    · rw [dwrite_len]; exact h.pendIn m f hf
    · rcases mem_set hf with hf | hf
      · exact h.safeLe f hf
      · rw [hf]
        show (fat d.files _).safe ≤ ((fat d.files _).data ++ s).length
        rw [List.length_append]
        have : (fat d.files ((tget d.now n).getD 0)).safe ≤ (fat d.files ((tget d.now n).getD 0)).data.length := by
          unfold fat
          rw [List.getD_eq_getElem?_getD]
          cases hg : d.files[(tget d.now n).getD 0]? with
          | none => exact Nat.le_refl _
          | some g => exact h.safeLe g (List.mem_of_getElem? hg)
        omega
  | sync n =>
    cases b with
    | true => exact h
    | false =>
      refine ⟨h.now, h.safe, fun x hx => ?_, fun x hx => ?_, fun m f hf => ?_, fun f hf => ?_⟩
      · rw [dsync_len]; exact h.nowIn x hx
      · rw [dsync_len]; exact h.safeIn x hx
      · rw [dsync_len]; exact h.pendIn m f hf
      · rcases mem_set hf with hf | hf
        · exact h.safeLe f hf
        · rw [hf]; exact Nat.le_refl _
  | rename o n =>
    refine ⟨h.now.done (.rn o n), h.safe, ?_, h.safeIn, ?_, h.safeLe⟩
    · intro x hx
      rcases tdone_mem (p := .rn o n) hx with ⟨y, hy, e⟩ | ⟨m, e⟩
      · rw [← e]; exact h.nowIn y hy
      · cases e
    · intro m f hf
      rcases List.mem_append.1 hf with hf | hf
      · exact h.pendIn m f hf
      · exact absurd hf (by simp)
  | remove n =>
    refine ⟨h.now.out n, h.safe, fun x hx => h.nowIn x (tout_mem hx).1, h.safeIn, ?_, h.safeLe⟩
    intro m f hf
    rcases List.mem_append.1 hf with hf | hf
    · exact h.pendIn m f hf
    · exact absurd hf (by simp)
  | flush =>
    cases b with
    | true => exact h
    | false => exact ⟨h.now, h.now, h.nowIn, h.nowIn, fun n f hf => (by cases hf), h.safeLe⟩
theorem DkOk.armed {d : Dk} (h : DkOk d) (k : Nat) : DkOk { d with armed := k } := ⟨h.now, h.safe, h.nowIn, h.safeIn, h.pendIn, h.safeLe⟩
theorem drefused_armed (d : Dk) (k : Nat) (o : Od) : drefused { d with armed := k } o = drefused d o := by cases o <;> rfl
theorem DkOk.do {d : Dk} (h : DkOk d) (o : Od) : DkOk (ddo d o).1 := by
  unfold ddo
  split
  · exact h
  · split
    · exact h
    · rename_i hr
      have hr' : drefused { d with armed := d.armed - 1 } o = 0 := by rw [drefused_armed]; omega
      split
      · exact ((h.armed _).act true o hr').fail _
      · exact (h.armed _).act false o hr'
theorem DkOk.new (r : Int) : DkOk (dnew r) := ⟨List.Pairwise.nil, List.Pairwise.nil, fun x hx => (by cases hx), fun x hx => (by cases hx), fun n f hf => (by cases hf), fun f hf => (by cases hf)⟩

/-! ### calm: nothing is armed, the power is on -/
def Calm (d : Dk) : Prop := d.off = false ∧ d.armed = 0
theorem Calm.do {d : Dk} (h : Calm d) (o : Od) : Calm (ddo d o).1 := by
  obtain ⟨h1, h2⟩ := h
  unfold ddo
  rw [if_neg (by rw [h1]; simp)]
  split
  · exact ⟨h1, h2⟩
  · rw [if_neg (by rw [h2]; simp)]
    cases o <;> exact ⟨h1, by show d.armed - 1 = 0; omega⟩
theorem Calm.flush {d : Dk} (h : Calm d) : ddo d .flush = ({ d with safe := d.now, pend := [] }, 0) := by
  obtain ⟨off, room, files, now, safe, pend, armed, fate⟩ := d
  obtain ⟨h1, h2⟩ := h
  simp only at h1 h2
  subst h1 h2
  rfl
end Go.Proofs.YtfgpigblnkanpaaGreatDoor

namespace Go.Proofs.YtfgpigblnkanpaaGreatDoor

/-! ### names -/
def tnames (t : Tb) : List Nm := t.map (·.1)
def ptarget : Pn → Option Nm
  | .cr n _ => some n
  | .rn _ n => some n
  | .rm _ => none
theorem tdone_names {t : Tb} {p : Pn} {x : Nm × Nat} (h : x ∈ tdone t p) : x.1 ∈ tnames t ∨ ptarget p = some x.1 := by
  cases p with
  | cr n f =>
    rcases tins_mem h with h | h
    · exact Or.inl (List.mem_map_of_mem h)
    · exact Or.inr (by rw [h]; rfl)
  | rm n => exact Or.inl (List.mem_map_of_mem (tout_mem h).1)
  | rn o n =>
    replace h : x ∈ (match tget t o with | none => t | some f => tins (tout t o) n f) := h
    cases hg : tget t o with
    | none => rw [hg] at h; exact Or.inl (List.mem_map_of_mem h)
    | some f =>
      rw [hg] at h
      rcases tins_mem h with h | h
      · exact Or.inl (List.mem_map_of_mem (tout_mem h).1)
      · exact Or.inr (by rw [h]; rfl)
theorem dpend_names (keep : List Int) (N : List Nm) : ∀ (l : List Pn) (k : Nat) (t : Tb), (∀ n ∈ tnames t, n ∈ N) → (∀ p ∈ l, ∀ n, ptarget p = some n → n ∈ N) → ∀ n ∈ tnames (dpend keep l k t), n ∈ N
  | [], _, _, h, _ => h
  | p :: r, k, t, h, hp => by
    rw [dpend]
    refine dpend_names keep N r (k + 1) _ ?_ (fun q hq => hp q (List.mem_cons_of_mem _ hq))
    split
    · intro n hn
      obtain ⟨x, hx, rfl⟩ := List.mem_map.1 hn
      rcases tdone_names hx with h1 | h1
      · exact h _ h1
      · exact hp p List.mem_cons_self _ h1
    · exact h
/-- Every name that may be there behind a failure is told. -/
def Told (d : Dk) (N : List Nm) : Prop := (∀ n ∈ tnames d.safe, n ∈ N) ∧ ∀ p ∈ d.pend, ∀ n, ptarget p = some n → n ∈ N
theorem Told.fail {d : Dk} {N : List Nm} (h : Told d N) (keep : List Int) : ∀ n ∈ tnames (dfail d keep).now, n ∈ N := dpend_names keep N _ _ _ h.1 h.2
theorem Told.mono {d : Dk} {N M : List Nm} (h : Told d N) : Told d (N ++ M) := ⟨fun n hn => List.mem_append_left _ (h.1 n hn), fun p hp n hn => List.mem_append_left _ (h.2 p hp n hn)⟩
theorem tins_has (t : Tb) (n : Nm) (f : Nat) : n ∈ tnames (tins t n f) := List.mem_map.2 ⟨(n, f), by unfold tins; simp, rfl⟩
/-- An operation of a calm disk. -/
theorem Told.do {d : Dk} {N : List Nm} (h : Told d N) (hc : Calm d) (o : Od) : (ddo d o).2 ≠ 0 ∧ (ddo d o).1 = d ∨ (ddo d o).2 = 0 ∧ Told (ddo d o).1 (N ++ tnames (ddo d o).1.now) := by
  obtain ⟨h1, h2⟩ := hc
  by_cases hr : drefused d o = 0
  · right
    have e : ddo d o = (dact { d with armed := d.armed - 1 } false o, 0) := by
      unfold ddo
      rw [if_neg (by rw [h1]; simp), if_neg (by omega), if_neg (by omega)]
    rw [e]
    refine ⟨rfl, ?_⟩
    have hm := h.mono (M := tnames (dact { d with armed := d.armed - 1 } false o).now)
    cases o with
    | create n =>
      refine ⟨hm.1, fun p hp m hpm => ?_⟩
      rcases List.mem_append.1 hp with hp | hp
      · exact hm.2 p hp m hpm
      · have e2 : p = .cr n d.files.length := by simpa using hp
        rw [e2] at hpm
        have e3 : n = m := by simpa [ptarget] using hpm
        rw [← e3]
        exact List.mem_append_right _ (tins_has d.now n _)
    | write n s => exact hm
    | sync n => exact hm
    | rename o n =>
      refine ⟨hm.1, fun p hp m hpm => ?_⟩
      rcases List.mem_append.1 hp with hp | hp
      · exact hm.2 p hp m hpm
      · have e2 : p = .rn o n := by simpa using hp
        rw [e2] at hpm
        have e3 : n = m := by simpa [ptarget] using hpm
        rw [← e3]
        refine List.mem_append_right _ ?_
        have hs : (tget d.now o).isSome = true := by
          cases hq : (tget d.now o).isSome with
          | true => rfl
          | false => simp [drefused, hq] at hr
        obtain ⟨f, hf⟩ := Option.isSome_iff_exists.1 hs
        show n ∈ tnames (match tget d.now o with | none => d.now | some f => tins (tout d.now o) n f)
        rw [hf]
        exact tins_has _ n f
    | remove n =>
      refine ⟨hm.1, fun p hp m hpm => ?_⟩
      rcases List.mem_append.1 hp with hp | hp
      · exact hm.2 p hp m hpm
      · have e2 : p = .rm n := by simpa using hp
        rw [e2] at hpm
        cases hpm
    | flush => exact ⟨fun n hn => List.mem_append_right _ hn, fun p hp => by cases hp⟩
  · left
    have e : ddo d o = (d, drefused d o) := by
      unfold ddo
      rw [if_neg (by rw [h1]; simp), if_pos hr]
    rw [e]
    exact ⟨hr, rfl⟩

/-! ### what a disk shows -/
def dshown (d : Dk) : List Nm × List (List UInt8) := (tnames d.now, d.now.map fun x => (fat d.files x.2).data)
/-- A file that is safe whole. -/
def Whole (f : Fl) : Prop := f.safe = f.data.length
theorem dleft_whole {f : Fl} (h : Whole f) (n : Int) : dleft f n = f.data := by
  unfold dleft
  rw [h]
  split
  · simp
  · split
    · rfl
    · split
      · simp
      · simp
theorem dcut_whole (f : Fl) (n : Int) : Whole (dcut f n) := rfl
theorem dcut_same {f : Fl} (h : Whole f) (n : Int) : dcut f n = f := by
  unfold dcut
  rw [dleft_whole h]
  cases f
  simp only [Whole] at h
  simp [h]
theorem fat_mem {fs : List Fl} {i : Nat} (h : i < fs.length) : fat fs i ∈ fs := by
  unfold fat
  rw [List.getD_eq_getElem?_getD, List.getElem?_eq_getElem h]
  exact List.getElem_mem h
/-- Behind a failure each file of the table is whole. -/
theorem dfiles_whole (keep : List Int) : ∀ (t : Tb) (k : Nat) (fs : List Fl) (i : Nat), (∀ x ∈ t, x.2 < fs.length) → (Whole (fat fs i) ∨ ∃ x ∈ t, x.2 = i) → Whole (fat (dfiles keep t k fs) i)
  | [], _, fs, i, _, h => by
    rcases h with h | ⟨x, hx, _⟩
    · exact h
    · cases hx
  | x :: r, k, fs, i, hl, h => by
    rw [dfiles]
    have hx := hl x List.mem_cons_self
    refine dfiles_whole keep r (k + 1) _ i (fun y hy => by rw [List.length_set]; exact hl y (List.mem_cons_of_mem _ hy)) ?_
    by_cases e : x.2 = i
    · left
      rw [fat_set _ _ _ _ hx, if_pos e]
      exact dcut_whole _ _
    · rcases h with h | ⟨y, hy, hye⟩
      · left
        rw [fat_set _ _ _ _ hx, if_neg e]; exact h
      · rcases List.mem_cons.1 hy with rfl | hy
        · exact absurd hye e
        · exact Or.inr ⟨y, hy, hye⟩
/-- Whole files stay. -/
theorem dfiles_same (keep : List Int) : ∀ (t : Tb) (k : Nat) (fs : List Fl), (∀ x ∈ t, x.2 < fs.length) → (∀ x ∈ t, Whole (fat fs x.2)) → ∀ i, fat (dfiles keep t k fs) i = fat fs i
  | [], _, _, _, _, _ => rfl
  | x :: r, k, fs, hl, h, i => by
    rw [dfiles, dcut_same (h x List.mem_cons_self)]
    have hx := hl x List.mem_cons_self
    have hset : ∀ j, fat (fs.set x.2 (fat fs x.2)) j = fat fs j := fun j => by
      rw [fat_set _ _ _ _ hx]
      by_cases e : x.2 = j
      · rw [if_pos e, e]
      · rw [if_neg e]
    rw [dfiles_same keep r (k + 1) _ (fun y hy => by rw [List.length_set]; exact hl y (List.mem_cons_of_mem _ hy)) (fun y hy => by rw [hset]; exact h y (List.mem_cons_of_mem _ hy)) i, hset]
def drevive (d : Dk) : Dk := { d with off := false }
/-- A failure of a disk all of whose files are whole and whose names are flushed. -/
theorem fail_still {d : Dk} (hk : DkOk d) (hp : d.pend = []) (hs : d.safe = d.now) (hw : ∀ x ∈ d.now, Whole (fat d.files x.2)) (keep : List Int) : dshown (dfail d keep) = dshown d ∧ (dfail d keep).now = d.now ∧ (dfail d keep).safe = d.now ∧ (∀ i, fat (dfail d keep).files i = fat d.files i) := by
  have e1 : dpend keep d.pend 0 d.safe = d.now := by rw [hp, hs]; rfl
  have hf : ∀ i, fat (dfail d keep).files i = fat d.files i := fun i => by
    show fat (dfiles keep (dpend keep d.pend 0 d.safe) d.pend.length d.files) i = _
    rw [e1]
    exact dfiles_same keep d.now _ d.files hk.nowIn hw i
  have hn : (dfail d keep).now = d.now := e1
  refine ⟨?_, hn, e1, hf⟩
  unfold dshown
  rw [hn]
  congr 1
  apply List.map_congr_left
  intro x _
  rw [hf]
/-- Behind a failure all is whole and flushed. -/
theorem fail_whole {d : Dk} (hk : DkOk d) (keep : List Int) : ∀ x ∈ (dfail d keep).now, Whole (fat (dfail d keep).files x.2) := fun x hx =>
  dfiles_whole keep _ _ _ _ (dpend_in keep d.files.length d.pend 0 d.safe hk.safeIn hk.pendIn) (Or.inr ⟨x, hx, rfl⟩)
theorem fail_again {d : Dk} (hk : DkOk d) (one two : List Int) : dshown (dfail (drevive (dfail d one)) two) = dshown (dfail d one) := by
  have h := hk.fail one
  exact (fail_still (d := drevive (dfail d one)) ⟨h.now, h.safe, h.nowIn, h.safeIn, h.pendIn, h.safeLe⟩ rfl rfl (fail_whole hk one) two).1
end Go.Proofs.YtfgpigblnkanpaaGreatDoor

namespace Go.Proofs.YtfgpigblnkanpaaGreatDoor

def pfar (n : Nm) : Pn → Prop
  | .cr m _ => m ≠ n
  | .rn o m => o ≠ n ∧ m ≠ n
  | .rm m => m ≠ n
theorem tdone_far {t : Tb} {n : Nm} : ∀ {p : Pn}, pfar n p → tget (tdone t p) n = tget t n
  | .cr m f, h => by
    show tget (tins t m f) n = _
    rw [tget_ins, if_neg (fun e => h e.symm)]
  | .rm m, h => by
    show tget (tout t m) n = _
    rw [tget_out, if_neg (fun e => h e.symm)]
  | .rn o m, h => by
    show tget (match tget t o with | none => t | some f => tins (tout t o) m f) n = _
    cases tget t o with
    | none => rfl
    | some f =>
      show tget (tins (tout t o) m f) n = _
      rw [tget_ins, if_neg (fun e => h.2 e.symm), tget_out, if_neg (fun e => h.1 e.symm)]
theorem dpend_far (keep : List Int) (n : Nm) : ∀ (l : List Pn) (k : Nat) (t : Tb), (∀ p ∈ l, pfar n p) → tget (dpend keep l k t) n = tget t n
  | [], _, _, _ => rfl
  | p :: r, k, t, h => by
    rw [dpend, dpend_far keep n r (k + 1) _ (fun q hq => h q (List.mem_cons_of_mem _ hq))]
    split
    · exact tdone_far (h p List.mem_cons_self)
    · rfl
/-- These bytes are safe at the file's beginning. -/
def Begins (D : List UInt8) (f : Fl) : Prop := D <+: f.data.take f.safe
theorem Begins.cut {D : List UInt8} {f : Fl} (h : Begins D f) (n : Int) : Begins D (dcut f n) := by
  unfold Begins dcut
  rw [List.take_of_length_le (Nat.le_refl _)]
  exact h.trans (dleft_len f n)
theorem dfiles_begins (keep : List Int) (D : List UInt8) : ∀ (t : Tb) (k : Nat) (fs : List Fl) (i : Nat), (∀ x ∈ t, x.2 < fs.length) → Begins D (fat fs i) → Begins D (fat (dfiles keep t k fs) i)
  | [], _, _, _, _, h => h
  | x :: r, k, fs, i, hl, h => by
    rw [dfiles]
    refine dfiles_begins keep D r (k + 1) _ i (fun y hy => by rw [List.length_set]; exact hl y (List.mem_cons_of_mem _ hy)) ?_
    rw [fat_set _ _ _ _ (hl x List.mem_cons_self)]
    by_cases e : x.2 = i
    · rw [if_pos e, e]; exact h.cut _
    · rw [if_neg e]; exact h
structure Kept (d : Dk) (n : Nm) (f : Nat) (D : List UInt8) : Prop where
  now : tget d.now n = some f
  safe : tget d.safe n = some f
  pend : ∀ p ∈ d.pend, pfar n p
  begins : Begins D (fat d.files f)
/-- Does an operation touch a name? -/
def otouch (n : Nm) : Od → Prop
  | .create m => m = n
  | .rename o m => o = n ∨ m = n
  | .remove m => m = n
  | _ => False
theorem fat_append {fs : List Fl} {i : Nat} (h : i < fs.length) (g : List Fl) : fat (fs ++ g) i = fat fs i := by
  unfold fat
  rw [List.getD_eq_getElem?_getD, List.getD_eq_getElem?_getD, List.getElem?_append_left h]
theorem fat_fmod (fs : List Fl) (i j : Nat) (g : Fl → Fl) (h : i < fs.length) : fat (fmod fs i g) j = if i = j then g (fat fs j) else fat fs j := by
  unfold fmod
  rw [fat_set _ _ _ _ h]
  by_cases e : i = j
  · rw [if_pos e, if_pos e, e]
  · rw [if_neg e, if_neg e]
theorem Kept.act {d : Dk} {n : Nm} {f : Nat} {D : List UInt8} (h : Kept d n f D) (hk : DkOk d) (o : Od) (hr : drefused d o = 0) (ht : ¬ otouch n o) : Kept (dact d false o) n f D := by
  have hf := hk.nowIn _ (tget_mem h.now)
  have hin : ∀ {m : Nm}, (tget d.now m).isSome = true → (tget d.now m).getD 0 < d.files.length := fun {m} hs => by
    obtain ⟨g, hg⟩ := Option.isSome_iff_exists.1 hs
    rw [hg]; exact hk.nowIn _ (tget_mem hg)
  have hpe : ∀ {p : Pn}, pfar n p → ∀ q ∈ d.pend ++ [p], pfar n q := fun {p} hp q hq => by
    rcases List.mem_append.1 hq with hq | hq
    · exact h.pend q hq
    · have e : q = p := by simpa using hq
      rw [e]; exact hp
  cases o with
  | create m =>
    refine ⟨?_, h.safe, hpe (p := .cr m d.files.length) ht, ?_⟩
    · exact (tdone_far (p := .cr m d.files.length) ht).trans h.now
    · show Begins D (fat (d.files ++ [⟨[], 0⟩]) f)
      rw [fat_append hf]; exact h.begins
  | write m s =>
    have hs : (tget d.now m).isSome = true := by
      cases hq : (tget d.now m).isSome with
      | true => rfl
      | false => simp [drefused, hq] at hr
    refine ⟨h.now, h.safe, h.pend, ?_⟩
    show Begins D (fat (fmod d.files ((tget d.now m).getD 0) fun f => ⟨f.data ++ s, f.safe⟩) f)
    rw [fat_fmod _ _ _ _ (hin hs)]
    split
    · have hle := hk.safeLe _ (fat_mem hf)
      show D <+: ((fat d.files f).data ++ s).take (fat d.files f).safe
      rw [List.take_append_of_le_length hle]
      exact h.begins
    · exact h.begins
  | sync m =>
    have hs : (tget d.now m).isSome = true := by
      cases hq : (tget d.now m).isSome with
      | true => rfl
      | false => simp [drefused, hq] at hr
    refine ⟨h.now, h.safe, h.pend, ?_⟩
    show Begins D (fat (fmod d.files ((tget d.now m).getD 0) fun f => ⟨f.data, f.data.length⟩) f)
    rw [fat_fmod _ _ _ _ (hin hs)]
    split
    · show D <+: (fat d.files f).data.take (fat d.files f).data.length
      rw [List.take_of_length_le (Nat.le_refl _)]
      exact List.IsPrefix.trans h.begins (List.take_prefix _ _)
    · exact h.begins
  | rename a b =>
    have hp : pfar n (.rn a b) := ⟨fun e => ht (Or.inl e), fun e => ht (Or.inr e)⟩
    exact ⟨(tdone_far hp).trans h.now, h.safe, hpe hp, h.begins⟩
  | remove m =>
    exact ⟨(tdone_far (p := .rm m) ht).trans h.now, h.safe, hpe (p := .rm m) ht, h.begins⟩
  | flush => exact ⟨h.now, h.now, fun p hp => (by cases hp), h.begins⟩
theorem Kept.armed {d : Dk} {n : Nm} {f : Nat} {D : List UInt8} (h : Kept d n f D) (k : Nat) : Kept { d with armed := k } n f D := ⟨h.now, h.safe, h.pend, h.begins⟩
/-- Any operation of a calm disk that fails or does not touch the name. -/
theorem Kept.do {d : Dk} {n : Nm} {f : Nat} {D : List UInt8} (h : Kept d n f D) (hk : DkOk d) (hc : Calm d) (o : Od) (ht : (ddo d o).2 = 0 → ¬ otouch n o) : Kept (ddo d o).1 n f D := by
  obtain ⟨h1, h2⟩ := hc
  by_cases hr : drefused d o = 0
  · have e : ddo d o = (dact { d with armed := d.armed - 1 } false o, 0) := by
      unfold ddo
      rw [if_neg (by rw [h1]; simp), if_neg (by omega), if_neg (by omega)]
    rw [e] at ht ⊢
    exact (h.armed _).act (hk.armed _) o (by rw [drefused_armed]; exact hr) (ht rfl)
  · have e : ddo d o = (d, drefused d o) := by
      unfold ddo
      rw [if_neg (by rw [h1]; simp), if_pos hr]
    rw [e]; exact h
/-- Behind a failure the name leads to a file that begins so. -/
theorem Kept.fail {d : Dk} {n : Nm} {f : Nat} {D : List UInt8} (h : Kept d n f D) (hk : DkOk d) (keep : List Int) : dread (drevive (dfail d keep)) n = ((fat (dfail d keep).files f).data, 0) ∧ D <+: (fat (dfail d keep).files f).data := by
  have h1 : tget (dfail d keep).now n = some f := (dpend_far keep n _ _ _ h.pend).trans h.safe
  refine ⟨?_, ?_⟩
  · unfold dread
    rw [if_neg (by simp [drevive])]
    show (match tget (dfail d keep).now n with | none => ([], 18) | some f => ((fat (dfail d keep).files f).data, 0)) = _
    rw [h1]
  · have := dfiles_begins keep D (dpend keep d.pend 0 d.safe) d.pend.length d.files f (dpend_in keep d.files.length d.pend 0 d.safe hk.safeIn hk.pendIn) h.begins
    exact List.IsPrefix.trans this (List.take_prefix _ _)
end Go.Proofs.YtfgpigblnkanpaaGreatDoor

namespace Go.Proofs.YtfgpigblnkanpaaGreatDoor

/-! ### all names synced -/
theorem ddo_ok {d : Dk} (hc : Calm d) {o : Od} (hr : drefused d o = 0) : ddo d o = (dact { d with armed := d.armed - 1 } false o, 0) := by
  unfold ddo
  rw [if_neg (by rw [hc.1]; simp), if_neg (by omega), if_neg (by rw [hc.2]; simp)]
theorem ddo_no {d : Dk} (hc : d.off = false) {o : Od} (hr : drefused d o ≠ 0) : ddo d o = (d, drefused d o) := by
  unfold ddo
  rw [if_neg (by rw [hc]; simp), if_pos hr]
theorem sync_one {d : Dk} (hk : DkOk d) (hc : Calm d) {n : Nm} {f : Nat} (hn : tget d.now n = some f) : (ddo d (.sync n)).2 = 0 ∧ (ddo d (.sync n)).1.now = d.now ∧ (ddo d (.sync n)).1.safe = d.safe ∧ (ddo d (.sync n)).1.pend = d.pend ∧ (∀ i, (fat (ddo d (.sync n)).1.files i).data = (fat d.files i).data) ∧ (∀ i, Whole (fat d.files i) ∨ i = f → Whole (fat (ddo d (.sync n)).1.files i)) := by
  have hr : drefused d (.sync n) = 0 := by simp [drefused, hn]
  rw [ddo_ok hc hr]
  have hf := hk.nowIn _ (tget_mem hn)
  have hfat : ∀ i, fat (dact { d with armed := d.armed - 1 } false (.sync n)).files i = if f = i then ⟨(fat d.files i).data, (fat d.files i).data.length⟩ else fat d.files i := fun i => by
    show fat (fmod d.files ((tget d.now n).getD 0) fun f => ⟨f.data, f.data.length⟩) i = _
    rw [hn]
    exact fat_fmod _ _ _ _ hf
  refine ⟨rfl, rfl, rfl, rfl, fun i => ?_, fun i h => ?_⟩
  · rw [hfat]; split <;> rfl
  · rw [hfat]
    by_cases e : f = i
    · rw [if_pos e]; rfl
    · rw [if_neg e]
      rcases h with h | h
      · exact h
      · exact absurd h.symm e

/-! ### armed -/
/-- Two disks that differ in what is armed alone. -/
structure Twin (a b : Dk) (k : Nat) (keep : List Int) : Prop where
  same : a = { b with armed := k, fate := keep }
  calm : Calm b
  pos : 0 < k
theorem dact_armed (b : Dk) (k : Nat) (keep : List Int) (s : Bool) (o : Od) : dact { b with armed := k, fate := keep } s o = { dact b s o with armed := k, fate := keep } := by
  cases o <;> cases s <;> rfl
theorem dact_late (b : Dk) (o : Od) : dact b true o = match o with | .sync _ => b | .flush => b | o => dact b false o := by cases o <;> rfl
theorem dfail_armed (b : Dk) (k : Nat) (keep l : List Int) : dfail { b with armed := k, fate := keep } l = dfail b l := rfl
/-- Ahead of the stroke both do the same. -/
theorem Twin.step {a b : Dk} {k : Nat} {keep : List Int} (h : Twin a b k keep) (o : Od) (hk : 1 < k ∨ drefused b o ≠ 0) : (ddo a o).2 = (ddo b o).2 ∧ (ddo a o).2 = drefused b o ∧ Twin (ddo a o).1 (ddo b o).1 (if drefused b o = 0 then k - 1 else k) keep := by
  obtain ⟨rfl, hc, hp⟩ := h
  have ha : drefused { b with armed := k, fate := keep } o = drefused b o := by cases o <;> rfl
  by_cases hr : drefused b o = 0
  · rcases hk with hk | hk
    · have e1 : ddo { b with armed := k, fate := keep } o = (dact { b with armed := k - 1, fate := keep } false o, 0) := by
        unfold ddo
        rw [if_neg (by show ¬ b.off = true; rw [hc.1]; simp), ha, if_neg (by omega), if_neg (by show ¬ k = 1; omega)]
      rw [e1, ddo_ok hc hr, if_pos hr]
      refine ⟨rfl, hr.symm, ?_, ?_, by omega⟩
      · rw [dact_armed]
        have : dact { b with armed := b.armed - 1 } false o = { dact b false o with armed := b.armed - 1 } := by cases o <;> rfl
        rw [this]
      · have := hc.do o
        rw [ddo_ok hc hr] at this
        exact this
    · exact absurd hr hk
  · rw [ddo_no (d := { b with armed := k, fate := keep }) hc.1 (by rw [ha]; exact hr), ddo_no hc.1 hr, if_neg hr, ha]
    exact ⟨rfl, rfl, rfl, hc, hp⟩
/-- What the other disk has behind the operation. -/
def dbehind (b : Dk) (o : Od) : Dk := match o with
  | .sync _ => b
  | .flush => b
  | o => (ddo b o).1
/-- The stroke. -/
theorem Twin.stroke {a b : Dk} {keep : List Int} (h : Twin a b 1 keep) (o : Od) (hr : drefused b o = 0) : (ddo a o).2 = 20 ∧ (ddo a o).1 = dfail (dbehind b o) keep ∧ ((∀ n, o ≠ .sync n) → o ≠ .flush → (ddo b o).2 = 0) := by
  obtain ⟨rfl, hc, hp⟩ := h
  have ha : drefused { b with armed := 1, fate := keep } o = drefused b o := by cases o <;> rfl
  have e1 : ddo { b with armed := 1, fate := keep } o = (dfail (dact { b with armed := 0, fate := keep } true o) keep, 20) := by
    unfold ddo
    rw [if_neg (by show ¬ b.off = true; rw [hc.1]; simp), ha, if_neg (by omega), if_pos rfl]
    rfl
  have hm : dact { b with armed := b.armed - 1 } false o = dact b false o := by
    have h0 := hc.2
    cases b
    simp only at h0
    subst h0
    rfl
  have hd : ddo b o = (dact b false o, 0) := by rw [ddo_ok hc hr, hm]
  rw [e1]
  refine ⟨rfl, ?_, fun _ _ => by rw [hd]⟩
  show dfail (dact { b with armed := 0, fate := keep } true o) keep = _
  rw [dact_armed, dfail_armed, dact_late]
  cases o with
  | sync n => rfl
  | flush => rfl
  | create n => show dfail (dact b false _) keep = dfail (ddo b _).1 keep; rw [hd]
  | write n s => show dfail (dact b false _) keep = dfail (ddo b _).1 keep; rw [hd]
  | rename o n => show dfail (dact b false _) keep = dfail (ddo b _).1 keep; rw [hd]
  | remove n => show dfail (dact b false _) keep = dfail (ddo b _).1 keep; rw [hd]
end Go.Proofs.YtfgpigblnkanpaaGreatDoor

namespace Go.Proofs.YtfgpigblnkanpaaGreatDoor

def pnOk : Pn → Prop
  | .cr n _ => n.length ≤ 9223372036854775807
  | .rn o n => o.length ≤ 9223372036854775807 ∧ n.length ≤ 9223372036854775807
  | .rm n => n.length ≤ 9223372036854775807
def odOk : Od → Prop
  | .create n => n.length ≤ 9223372036854775807
  | .write n s => n.length ≤ 9223372036854775807 ∧ s.length ≤ 9223372036854775807
  | .sync n => n.length ≤ 9223372036854775807
  | .rename o n => o.length ≤ 9223372036854775807 ∧ n.length ≤ 9223372036854775807
  | .remove n => n.length ≤ 9223372036854775807
  | .flush => True
def wf64 (l : List Int) : Prop := ∀ x ∈ l, -9223372036854775808 ≤ x ∧ x ≤ 9223372036854775807
structure DkB (d : Dk) (N : Nat) : Prop where
  files : d.files.length ≤ N
  now : d.now.length ≤ N
  safe : d.safe.length + d.pend.length ≤ N
  room : d.room ≤ 268435456
  data : ∀ f ∈ d.files, f.data.length ≤ d.room
  armed : d.armed ≤ 9223372036854775807
  fate : wf64 d.fate
  pend : ∀ p ∈ d.pend, pnOk p
theorem DkB.mono {d : Dk} {N M : Nat} (h : DkB d N) (hm : N ≤ M) : DkB d M := ⟨Nat.le_trans h.files hm, Nat.le_trans h.now hm, Nat.le_trans h.safe hm, h.room, h.data, h.armed, h.fate, h.pend⟩
theorem tout_len (t : Tb) (n : Nm) : (tout t n).length ≤ t.length := List.length_filter_le _ _
theorem tins_len (t : Tb) (n : Nm) (f : Nat) : (tins t n f).length ≤ t.length + 1 := by
  unfold tins
  rw [List.length_append, List.length_cons]
  induction t with
  | nil => simp
  | cons x t ih =>
    rcases nlt_tri x.1 n with h | h | h
    · have h2 := nlt_asymm h
      rw [List.filter_cons, if_pos h, List.filter_cons (p := fun x : Nm × Nat => nlt n x.1), if_neg (by rw [h2]; simp)]
      simp only [List.length_cons]; omega
    · have h1 : nlt x.1 n = false := by rw [h]; exact nlt_irrefl n
      have h2 : nlt n x.1 = false := by rw [h]; exact nlt_irrefl n
      rw [List.filter_cons, if_neg (by rw [h1]; simp), List.filter_cons (p := fun x : Nm × Nat => nlt n x.1), if_neg (by rw [h2]; simp)]
      simp only [List.length_cons]; omega
    · have h2 := nlt_asymm h
      rw [List.filter_cons, if_neg (by rw [h2]; simp), List.filter_cons (p := fun x : Nm × Nat => nlt n x.1), if_pos h]
      simp only [List.length_cons]; omega
theorem tdone_len (t : Tb) (p : Pn) : (tdone t p).length ≤ t.length + 1 := by
  cases p with
  | cr n f => exact tins_len t n f
  | rm n => have := tout_len t n; show (tout t n).length ≤ _; omega
  | rn o n =>
    show (match tget t o with | none => t | some f => tins (tout t o) n f).length ≤ _
    cases tget t o with
    | none => exact Nat.le_succ _
    | some f =>
      have h1 := tins_len (tout t o) n f
      have h2 := tout_len t o
      show (tins (tout t o) n f).length ≤ _
      omega
theorem tdone_len_rn (t : Tb) (o n : Nm) : (tdone t (.rn o n)).length ≤ t.length + 1 := tdone_len t _
theorem dpend_len (keep : List Int) : ∀ (l : List Pn) (k : Nat) (t : Tb), (dpend keep l k t).length ≤ t.length + l.length
  | [], _, _ => Nat.le_refl _
  | p :: r, k, t => by
    rw [dpend]
    have h1 := dpend_len keep r (k + 1) (if keepAt keep k % 2 = 1 then tdone t p else t)
    have h2 := tdone_len t p
    rw [List.length_cons]
    split at h1
    · rename_i hc; rw [if_pos hc]; omega
    · rename_i hc; rw [if_neg hc]; omega
theorem dsum_mem {fs : List Fl} {t : Tb} {x : Nm × Nat} (h : x ∈ t) : (fat fs x.2).data.length ≤ dsum fs t := by
  induction t with
  | nil => cases h
  | cons y t ih =>
    rw [dsum]
    rcases List.mem_cons.1 h with rfl | h
    · omega
    · have := ih h; omega
theorem dleft_short (f : Fl) (n : Int) (h : f.safe ≤ f.data.length) : (dleft f n).length ≤ f.data.length := by
  unfold dleft
  split
  · rw [List.length_take]; omega
  · split
    · exact Nat.le_refl _
    · split
      · rw [List.length_take]; omega
      · rw [List.length_append, List.length_take, List.length_replicate]; omega
theorem dfiles_short (keep : List Int) (R : Nat) : ∀ (t : Tb) (k : Nat) (fs : List Fl), (∀ f ∈ fs, f.safe ≤ f.data.length) → (∀ f ∈ fs, f.data.length ≤ R) → ∀ f ∈ dfiles keep t k fs, f.data.length ≤ R
  | [], _, _, _, h => h
  | x :: r, k, fs, hs, h => by
    rw [dfiles]
    refine dfiles_short keep R r (k + 1) _ (fun f hf => ?_) fun f hf => ?_
    · rcases mem_set hf with hf | hf
      · exact hs f hf
      · rw [hf]; exact Nat.le_refl _
    · rcases mem_set hf with hf | hf
      · exact h f hf
      · rw [hf]
        show (dleft _ _).length ≤ R
        have hz : (fat fs x.2).safe ≤ (fat fs x.2).data.length ∧ (fat fs x.2).data.length ≤ R := by
          unfold fat
          rw [List.getD_eq_getElem?_getD]
          cases hg : fs[x.2]? with
          | none => exact ⟨Nat.le_refl _, Nat.zero_le _⟩
          | some g => exact ⟨hs g (List.mem_of_getElem? hg), h g (List.mem_of_getElem? hg)⟩
        exact Nat.le_trans (dleft_short _ _ hz.1) hz.2
theorem wf64_nil : wf64 [] := fun x hx => by cases hx
theorem DkB.fail {d : Dk} {N : Nat} (h : DkB d N) (hk : DkOk d) (keep : List Int) : DkB (dfail d keep) N := by
  have h1 := dpend_len keep d.pend 0 d.safe
  have h2 := h.safe
  refine ⟨?_, ?_, ?_, h.room, dfiles_short keep d.room _ _ _ hk.safeLe h.data, Nat.zero_le _, wf64_nil, fun p hp => (by cases hp)⟩
  · show (dfiles keep _ _ d.files).length ≤ N
    rw [dfiles_len]; exact h.files
  · exact Nat.le_trans h1 h2
  · show (dpend keep d.pend 0 d.safe).length + 0 ≤ N
    omega
theorem fat_in (d : Dk) (R : Nat) (h : ∀ f ∈ d.files, f.data.length ≤ R) (i : Nat) : (fat d.files i).data.length ≤ R := by
  unfold fat
  rw [List.getD_eq_getElem?_getD]
  cases hg : d.files[i]? with
  | none => exact Nat.zero_le _
  | some g => exact h g (List.mem_of_getElem? hg)
theorem DkB.act {d : Dk} {N : Nat} (h : DkB d N) (b : Bool) (o : Od) (ho : odOk o) (hoff : d.off = false) (hr : drefused d o = 0) : DkB (dact d b o) (N + 1) := by
  have hsafe := h.safe
  have hpe : ∀ {p : Pn}, pnOk p → ∀ q ∈ d.pend ++ [p], pnOk q := fun {p} hp q hq => by
    rcases List.mem_append.1 hq with hq | hq
    · exact h.pend q hq
    · have e : q = p := by simpa using hq
      rw [e]; exact hp
  cases o with
  | create n =>
    refine ⟨?_, ?_, ?_, h.room, ?_, h.armed, h.fate, hpe (p := .cr n d.files.length) ho⟩
    · show (d.files ++ [(⟨[], 0⟩ : Fl)]).length ≤ _
      have := h.files; simp; omega
    · show (tins d.now n d.files.length).length ≤ _
      have := tins_len d.now n d.files.length; have := h.now; omega
    · rw [show (dact d b _).pend = d.pend ++ [_] from rfl]; show d.safe.length + _ ≤ _
      simp; omega
    · intro f hf
      rcases List.mem_append.1 hf with hf | hf
      · exact h.data f hf
      · have e : f = ⟨[], 0⟩ := by simpa using hf
        rw [e]; exact Nat.zero_le _
  | write n s =>
    refine ⟨?_, ?_, ?_, h.room, ?_, h.armed, h.fate, h.pend⟩
    · rw [dwrite_len]; have := h.files; omega
    · have := h.now; show d.now.length ≤ _; omega
    · show d.safe.length + d.pend.length ≤ _; omega
    · intro f hf
      rcases mem_set hf with hf | hf
      · exact h.data f hf
      · rw [hf]
        show ((fat d.files ((tget d.now n).getD 0)).data ++ s).length ≤ d.room
        rw [List.length_append]
        have hs : (tget d.now n).isSome = true := by
          cases hq : (tget d.now n).isSome with
          | true => rfl
          | false => simp [drefused, hq] at hr
        obtain ⟨g, hg⟩ := Option.isSome_iff_exists.1 hs
        have hu : ¬ d.room < dused d + s.length := by
          intro hc
          simp [drefused, hg, hc] at hr
        rw [hg]
        have hm := dsum_mem (fs := d.files) (tget_mem hg)
        have hd : dused d = dsum d.files d.now := by unfold dused; rw [if_neg (by rw [hoff]; simp)]
        rw [hd] at hu
        show (fat d.files g).data.length + s.length ≤ d.room
        simp only at hm
        omega
  | sync n =>
    cases b with
    | true => exact h.mono (Nat.le_succ _)
    | false =>
      refine ⟨?_, ?_, ?_, h.room, ?_, h.armed, h.fate, h.pend⟩
      · rw [dsync_len]; have := h.files; omega
      · have := h.now; show d.now.length ≤ _; omega
      · show d.safe.length + d.pend.length ≤ _; omega
      · intro f hf
        rcases mem_set hf with hf | hf
        · exact h.data f hf
        · rw [hf]
          exact fat_in d d.room h.data _
  | rename o n =>
    refine ⟨?_, ?_, ?_, h.room, h.data, h.armed, h.fate, hpe (p := .rn o n) ho⟩
    · have := h.files; show d.files.length ≤ _; omega
    · show (tdone d.now (.rn o n)).length ≤ _
      have := tdone_len d.now (.rn o n); have := h.now; omega
    · rw [show (dact d b _).pend = d.pend ++ [_] from rfl]; show d.safe.length + _ ≤ _
      simp; omega
  | remove n =>
    refine ⟨?_, ?_, ?_, h.room, h.data, h.armed, h.fate, hpe (p := .rm n) ho⟩
    · have := h.files; show d.files.length ≤ _; omega
    · show (tout d.now n).length ≤ _
      have := tout_len d.now n; have := h.now; omega
    · rw [show (dact d b _).pend = d.pend ++ [_] from rfl]; show d.safe.length + _ ≤ _
      simp; omega
  | flush =>
    cases b with
    | true => exact h.mono (Nat.le_succ _)
    | false =>
      refine ⟨?_, ?_, ?_, h.room, h.data, h.armed, h.fate, fun p hp => (by cases hp)⟩
      · have := h.files; show d.files.length ≤ _; omega
      · have := h.now; show d.now.length ≤ _; omega
      · have := h.now; show d.now.length + 0 ≤ _; omega
theorem DkB.armed' {d : Dk} {N : Nat} (h : DkB d N) (k : Nat) (hk : k ≤ 9223372036854775807) : DkB { d with armed := k } N := ⟨h.files, h.now, h.safe, h.room, h.data, hk, h.fate, h.pend⟩
theorem DkB.do {d : Dk} {N : Nat} (h : DkB d N) (hk : DkOk d) (o : Od) (ho : odOk o) : DkB (ddo d o).1 (N + 1) := by
  unfold ddo
  have ha : d.armed - 1 ≤ 9223372036854775807 := by have := h.armed; omega
  split
  · exact h.mono (Nat.le_succ _)
  · rename_i hoff
    have hoff' : d.off = false := by simpa using hoff
    split
    · exact h.mono (Nat.le_succ _)
    · rename_i hr
      have hr' : drefused { d with armed := d.armed - 1 } o = 0 := by rw [drefused_armed]; omega
      split
      · exact ((h.armed' _ ha).act true o ho hoff' hr').fail ((hk.armed _).act true o hr') _
      · exact (h.armed' _ ha).act false o ho hoff' hr'
end Go.Proofs.YtfgpigblnkanpaaGreatDoor
