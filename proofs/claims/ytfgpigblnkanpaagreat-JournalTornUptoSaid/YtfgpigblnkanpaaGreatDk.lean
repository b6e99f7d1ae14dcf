/- A disk whose power may fail, as plain data: without the program. No conditions. -/
import GoSem.Op.String
import Derived.Sort.Walk0
namespace Go.Proofs.YtfgpigblnkanpaaGreat

abbrev Nm := List UInt8
structure Fl where
  data : List UInt8
  safe : Nat
abbrev Tb := List (Nm × Nat)
/-- An operation on names that waits for a flush. -/
inductive Pn where
  | cr (n : Nm) (f : Nat)
  | rn (o n : Nm)
  | rm (n : Nm)
structure Dk where
  off : Bool
  room : Nat
  files : List Fl
  now : Tb
  safe : Tb
  pend : List Pn
  armed : Nat
  fate : List Int

/-! ### names rise -/
def nlt (a b : Nm) : Bool := Op.bytesLess a b
theorem nlt_eq (a b : Nm) : nlt a b = decide (a < b) := bytesLess_eq a b
theorem nlt_irrefl (a : Nm) : nlt a a = false := by rw [nlt_eq]; simp [List.lt_irrefl]
theorem nlt_trans {a b c : Nm} (h1 : nlt a b = true) (h2 : nlt b c = true) : nlt a c = true := by
  rw [nlt_eq] at *
  simp only [decide_eq_true_eq] at *
  exact List.lt_trans h1 h2
theorem nlt_tri (a b : Nm) : nlt a b = true ∨ a = b ∨ nlt b a = true := by
  simp only [nlt_eq, decide_eq_true_eq]
  by_cases h : a < b
  · exact Or.inl h
  · by_cases h2 : b < a
    · exact Or.inr (Or.inr h2)
    · exact Or.inr (Or.inl (List.le_antisymm (List.not_lt.1 h2) (List.not_lt.1 h)))
theorem nlt_ne {a b : Nm} (h : nlt a b = true) : a ≠ b := fun e => by rw [e, nlt_irrefl] at h; cases h
theorem nlt_asymm {a b : Nm} (h : nlt a b = true) : nlt b a = false := by
  cases hq : nlt b a with
  | false => rfl
  | true => have := nlt_trans h hq; rw [nlt_irrefl] at this; cases this

/-! ### tables -/
def tget (t : Tb) (n : Nm) : Option Nat := (t.find? fun x => x.1 == n).map (·.2)
def tout (t : Tb) (n : Nm) : Tb := t.filter fun x => x.1 != n
def tins (t : Tb) (n : Nm) (f : Nat) : Tb := (t.filter fun x => nlt x.1 n) ++ (n, f) :: t.filter fun x => nlt n x.1
def Rise (t : Tb) : Prop := t.Pairwise fun x y => nlt x.1 y.1 = true
theorem Rise.out {t : Tb} (h : Rise t) (n : Nm) : Rise (tout t n) := List.Pairwise.filter _ h
theorem Rise.ins {t : Tb} (h : Rise t) (n : Nm) (f : Nat) : Rise (tins t n f) := by
  unfold Rise tins
  rw [List.pairwise_append]
  refine ⟨List.Pairwise.filter _ h, ?_, ?_⟩
  · rw [List.pairwise_cons]
    exact ⟨fun x hx => by simpa using (List.mem_filter.1 hx).2, List.Pairwise.filter _ h⟩
  · intro x hx y hy
    have h1 : nlt x.1 n = true := by simpa using (List.mem_filter.1 hx).2
    rcases List.mem_cons.1 hy with rfl | hy
    · exact h1
    · exact nlt_trans h1 (by simpa using (List.mem_filter.1 hy).2)
theorem tget_nil (n : Nm) : tget [] n = none := rfl
theorem tget_cons (x : Nm × Nat) (t : Tb) (n : Nm) : tget (x :: t) n = if x.1 = n then some x.2 else tget t n := by
  unfold tget
  rw [List.find?_cons]
  by_cases h : x.1 = n
  · rw [if_pos h]; simp [h]
  · have : (x.1 == n) = false := by simpa using h
    rw [this, if_neg h]
theorem tget_append (a b : Tb) (n : Nm) : tget (a ++ b) n = (tget a n).or (tget b n) := by
  induction a with
  | nil => simp [tget_nil]
  | cons x a ih =>
    rw [List.cons_append, tget_cons, tget_cons, ih]
    split <;> simp
theorem tget_filter (t : Tb) (p : Nm → Bool) (n : Nm) : tget (t.filter fun x => p x.1) n = if p n then tget t n else none := by
  induction t with
  | nil => simp [tget_nil]
  | cons x t ih =>
    rw [List.filter_cons]
    by_cases hp : p x.1 = true
    · rw [if_pos hp, tget_cons, tget_cons, ih]
      by_cases hx : x.1 = n
      · rw [if_pos hx, if_pos hx, ← hx, if_pos hp]
      · rw [if_neg hx, if_neg hx]
    · rw [if_neg hp, ih, tget_cons]
      by_cases hx : x.1 = n
      · subst hx; rw [if_neg hp, if_neg hp]
      · rw [if_neg hx]
theorem tget_out (t : Tb) (n m : Nm) : tget (tout t n) m = if m = n then none else tget t m := by
  have := tget_filter t (fun x => x != n) m
  unfold tout
  rw [this]
  by_cases h : m = n
  · simp [h]
  · simp [h]
theorem tget_ins (t : Tb) (n m : Nm) (f : Nat) : tget (tins t n f) m = if m = n then some f else tget t m := by
  unfold tins
  rw [tget_append, tget_cons, tget_filter t (fun x => nlt x n) m, tget_filter t (fun x => nlt n x) m]
  by_cases h : m = n
  · subst h; simp [nlt_irrefl]
  · have hn : ¬ n = m := fun e => h e.symm
    rcases nlt_tri m n with h1 | h1 | h1
    · simp [h, hn, h1, nlt_asymm h1]
    · exact absurd h1 h
    · simp [h, hn, h1, nlt_asymm h1]
theorem tget_mem {t : Tb} {n : Nm} {f : Nat} (h : tget t n = some f) : (n, f) ∈ t := by
  induction t with
  | nil => cases h
  | cons x t ih =>
    rw [tget_cons] at h
    by_cases hx : x.1 = n
    · rw [if_pos hx] at h
      have e : x.2 = f := by simpa using h
      rw [← hx, ← e]; exact List.mem_cons_self
    · rw [if_neg hx] at h; exact List.mem_cons_of_mem _ (ih h)
theorem tget_of_mem {t : Tb} (ht : Rise t) {n : Nm} {f : Nat} (h : (n, f) ∈ t) : tget t n = some f := by
  induction t with
  | nil => cases h
  | cons x t ih =>
    rw [Rise, List.pairwise_cons] at ht
    rw [tget_cons]
    rcases List.mem_cons.1 h with h | h
    · rw [← h, if_pos rfl]
    · rw [if_neg (nlt_ne (ht.1 _ h)), ih ht.2 h]
/-- Two rising tables that tell the same are one. -/
theorem Rise.ext : ∀ {a b : Tb}, Rise a → Rise b → (∀ n, tget a n = tget b n) → a = b
  | [], [], _, _, _ => rfl
  | [], y :: b, _, _, h => by have := h y.1; rw [tget_cons, if_pos rfl, tget_nil] at this; cases this
  | x :: a, [], _, _, h => by have := h x.1; rw [tget_cons, if_pos rfl, tget_nil] at this; cases this
  | x :: a, y :: b, ha, hb, h => by
    rw [Rise, List.pairwise_cons] at ha hb
    have hx := h x.1
    have hy := h y.1
    rw [tget_cons, if_pos rfl, tget_cons] at hx
    rw [tget_cons, tget_cons (t := b), if_pos rfl] at hy
    have e1 : x.1 = y.1 := by
      rcases nlt_tri x.1 y.1 with h1 | h1 | h1
      · exfalso
        rw [if_neg (fun e => nlt_ne h1 e.symm)] at hx
        have := nlt_trans h1 (hb.1 _ (tget_mem hx.symm))
        rw [nlt_irrefl] at this; cases this
      · exact h1
      · exfalso
        rw [if_neg (fun e => nlt_ne h1 e.symm)] at hy
        have := nlt_trans h1 (ha.1 _ (tget_mem hy))
        rw [nlt_irrefl] at this; cases this
    rw [if_pos e1.symm] at hx
    have e2 : x = y := Prod.ext e1 (by simpa using hx)
    subst e2
    congr 1
    refine Rise.ext ha.2 hb.2 fun n => ?_
    have hn := h n
    rw [tget_cons, tget_cons] at hn
    by_cases e : x.1 = n
    · have n1 : tget a n = none := by
        cases hq : tget a n with
        | none => rfl
        | some f => have := ha.1 _ (tget_mem hq); rw [← e, nlt_irrefl] at this; cases this
      have n2 : tget b n = none := by
        cases hq : tget b n with
        | none => rfl
        | some f => have := hb.1 _ (tget_mem hq); rw [← e, nlt_irrefl] at this; cases this
      rw [n1, n2]
    · rw [if_neg e, if_neg e] at hn; exact hn

/-! ### operations on names -/
def tdone (t : Tb) : Pn → Tb
  | .cr n f => tins t n f
  | .rm n => tout t n
  | .rn o n => match tget t o with
    | none => t
    | some f => tins (tout t o) n f
theorem Rise.done {t : Tb} (h : Rise t) : ∀ p, Rise (tdone t p)
  | .cr n f => h.ins n f
  | .rm n => h.out n
  | .rn o n => by
    show Rise (match tget t o with | none => t | some f => tins (tout t o) n f)
    cases tget t o with
    | none => exact h
    | some f => exact (h.out o).ins n f
theorem tins_same {t : Tb} (h : Rise t) {n : Nm} {f : Nat} (hg : tget t n = some f) : tins (tout t n) n f = t := by
  refine Rise.ext ((h.out n).ins n f) h fun m => ?_
  rw [tget_ins, tget_out]
  by_cases e : m = n
  · rw [if_pos e, e, hg]
  · rw [if_neg e, if_neg e]

/-! ### a failure -/
def keepAt (keep : List Int) (k : Nat) : Int := keep.getD k 0
def dpend (keep : List Int) : List Pn → Nat → Tb → Tb
  | [], _, t => t
  | p :: r, k, t => dpend keep r (k + 1) (if keepAt keep k % 2 = 1 then tdone t p else t)
theorem Rise.pend (keep : List Int) : ∀ (l : List Pn) (k : Nat) {t : Tb}, Rise t → Rise (dpend keep l k t)
  | [], _, _, h => h
  | p :: r, k, t, h => by
    unfold dpend
    split
    · exact Rise.pend keep r (k + 1) (h.done p)
    · exact Rise.pend keep r (k + 1) h
def dleft (f : Fl) (n : Int) : List UInt8 :=
  if n % 4 = 0 then f.data.take f.safe
  else if n % 4 = 1 then f.data
  else if n % 4 = 2 then f.data.take (f.safe + (f.data.length - f.safe) / 2)
  else f.data.take f.safe ++ List.replicate (f.data.length - f.safe) 0
def fat (fs : List Fl) (i : Nat) : Fl := fs.getD i ⟨[], 0⟩
def dcut (f : Fl) (n : Int) : Fl := ⟨dleft f n, (dleft f n).length⟩
def dfiles (keep : List Int) : Tb → Nat → List Fl → List Fl
  | [], _, fs => fs
  | x :: r, k, fs => dfiles keep r (k + 1) (fs.set x.2 (dcut (fat fs x.2) (keepAt keep k)))
def dfail (d : Dk) (keep : List Int) : Dk :=
  { d with off := true, files := dfiles keep (dpend keep d.pend 0 d.safe) d.pend.length d.files, now := dpend keep d.pend 0 d.safe, safe := dpend keep d.pend 0 d.safe, pend := [], armed := 0, fate := [] }

/-! ### operations -/
inductive Od where
  | create (n : Nm)
  | write (n : Nm) (s : List UInt8)
  | sync (n : Nm)
  | rename (o n : Nm)
  | remove (n : Nm)
  | flush
def dsum (fs : List Fl) : Tb → Nat
  | [] => 0
  | x :: r => (fat fs x.2).data.length + dsum fs r
def dused (d : Dk) : Nat := if d.off = true then 0 else dsum d.files d.now
def badName (n : Nm) : Bool := n == [] || decide (200 < n.length)
def drefused (d : Dk) : Od → Nat
  | .create n => if badName n = true then 21 else if (tget d.now n).isSome = true then 13 else 0
  | .write n s => if (tget d.now n).isSome = false then 18 else if d.room < dused d + s.length then 19 else 0
  | .sync n => if (tget d.now n).isSome = false then 18 else 0
  | .rename o n => if (tget d.now o).isSome = false then 18 else if badName n = true then 21 else 0
  | .remove n => if (tget d.now n).isSome = false then 18 else 0
  | .flush => 0
def fmod (fs : List Fl) (i : Nat) (g : Fl → Fl) : List Fl := fs.set i (g (fat fs i))
def dact (d : Dk) (struck : Bool) : Od → Dk
  | .create n => { d with files := d.files ++ [⟨[], 0⟩], now := tins d.now n d.files.length, pend := d.pend ++ [.cr n d.files.length] }
  | .write n s => { d with files := fmod d.files ((tget d.now n).getD 0) fun f => ⟨f.data ++ s, f.safe⟩ }
  | .sync n => if struck = true then d else { d with files := fmod d.files ((tget d.now n).getD 0) fun f => ⟨f.data, f.data.length⟩ }
  | .rename o n => { d with now := tdone d.now (.rn o n), pend := d.pend ++ [.rn o n] }
  | .remove n => { d with now := tout d.now n, pend := d.pend ++ [.rm n] }
  | .flush => if struck = true then d else { d with safe := d.now, pend := [] }
def ddo (d : Dk) (o : Od) : Dk × Nat :=
  if d.off = true then (d, 20)
  else if drefused d o ≠ 0 then (d, drefused d o)
  else if d.armed = 1 then (dfail (dact { d with armed := d.armed - 1 } true o) d.fate, 20)
  else (dact { d with armed := d.armed - 1 } false o, 0)
def dread (d : Dk) (n : Nm) : List UInt8 × Nat :=
  if d.off = true then ([], 20) else match tget d.now n with
    | none => ([], 18)
    | some f => ((fat d.files f).data, 0)
def dlist (d : Dk) (head : List UInt8) : List Nm := if d.off = true then [] else (d.now.map (·.1)).filter fun n => head.isPrefixOf n
def dnew (room : Int) : Dk := ⟨false, (min (max room 0) 268435456).toNat, [], [], [], [], 0, []⟩

/-- What holds of every disk. -/
structure DkOk (d : Dk) : Prop where
  now : Rise d.now
  safe : Rise d.safe
  nowIn : ∀ x ∈ d.now, x.2 < d.files.length
  safeIn : ∀ x ∈ d.safe, x.2 < d.files.length
  pendIn : ∀ n f, Pn.cr n f ∈ d.pend → f < d.files.length
  safeLe : ∀ f ∈ d.files, f.safe ≤ f.data.length
end Go.Proofs.YtfgpigblnkanpaaGreat
