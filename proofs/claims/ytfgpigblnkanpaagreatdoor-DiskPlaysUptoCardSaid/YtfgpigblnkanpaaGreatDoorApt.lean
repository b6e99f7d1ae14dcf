/- ApartTexts sees that lists have memory of their own. -/
import Derived.Test.YtfgpigblnkanpaaGreatDoorGP
import Derived.Test.YtfgpigblnkanpaaGreatDoorKeep
import Derived.Deep.RegionHeld3
import Derived.Deep.RegionWith
import Derived.BigQuiet
namespace Go.Proofs.YtfgpigblnkanpaaGreatDoor
open Go.RowKit Go.Maps Go.Shelf
set_option linter.unusedVariables false
set_option linter.unusedSimpArgs false

def lowB (x : Int) : UInt8 := (x % 256).toNat.toUInt8
theorem lowB_val (x : Int) : x % 256 = ((lowB x).toNat : Int) := by
  unfold lowB
  rw [toUInt8_toNat_lt (by omega)]; omega
def markT (k i : Int) : List UInt8 := [35, lowB k, lowB (k / 256), lowB i, lowB (i / 256)]
def marksT (k : Int) (n : Nat) : List Nm := (List.range n).map fun i : Nat => markT k (i : Int)
theorem marksT_succ (k : Int) (n : Nat) : marksT k (n + 1) = marksT k n ++ [markT k n] := by
  simp [marksT, List.range_succ]
theorem marksT_len (k : Int) (n : Nat) : (marksT k n).length = n := by simp [marksT]

set_option maxRecDepth 100000 in
theorem MarkText_any (k i : Int) (w : World) : Calls Tryz.prog 151 #[.int .i64 k, .int .i64 i] w fun e w' => e = .returned (strV (markT k i)) ∧ Below w.heap.size w w' := by
  have l0 := lowB_val k
  have l1 := lowB_val (k / 256)
  have l2 := lowB_val i
  have l3 := lowB_val (i / 256)
  have hcv : ∀ a b c d : UInt8, (convert 140 9 (.slice (some ⟨w.heap.size, 0, none⟩) 5 5)).run Tryz.prog (w.alloc (.cells #[.int .u8 35, .int .u8 a.toNat, .int .u8 b.toNat, .int .u8 c.toNat, .int .u8 d.toNat] 5)) = .ok (.string (str [35, a, b, c, d])) (w.alloc (.cells #[.int .u8 35, .int .u8 a.toNat, .int .u8 b.toNat, .int .u8 c.toNat, .int .u8 d.toNat] 5)) := fun a b c d =>
    conv_bytes (Blk.new w [.int .u8 35, .int .u8 a.toNat, .int .u8 b.toNat, .int .u8 c.toNat, .int .u8 d.toNat] 5) Tryz.underlying140 Tryz.underlying5 Tryz.underlying9 [35, a, b, c, d] [] _ _ rfl rfl
  show Calls Tryz.prog 151 #[.int .i64 k, .int .i64 i] w fun e w' => e = .returned (strV [35, lowB k, lowB (k / 256), lowB i, lowB (i / 256)]) ∧ Below w.heap.size w w'
  generalize lowB k = x0 at *
  generalize lowB (k / 256) = x1 at *
  generalize lowB i = x2 at *
  generalize lowB (i / 256) = x3 at *
  go_enter Tryz.func151, Tryz.ntmps151
  go_wp2
  go_ret
  exact ⟨rfl, (Below.refl _ _).alloc (Nat.le_refl _) _⟩
set_option maxRecDepth 100000 in
theorem markTexts_any (k i : Int) (w : World) : Calls Tryz.prog 124 #[.int .i64 k, .int .i64 i] w fun e w' => e = .returned (strV (markT k i)) ∧ Below w.heap.size w w' := by
  go_enter Tryz.func124, Tryz.ntmps124
  go_wp2_with (fail)
  refine (MarkText_any k i _).mono ?_
  rintro e w1 ⟨rfl, hb1⟩
  go_wp2
  go_ret
  exact ⟨rfl, hb1⟩
theorem ShapeT.own {w : World} {base : Nat} {v : Value} {l : List Nm} (h : w.ownsRow base 9 1 v l.length (l.map strV)) : ShapeT w v l := by
  rcases h.2 with ⟨rfl, h0⟩ | ⟨g, cap, cur, rfl, _, hg, h1, h2, h3, h4⟩
  · have : l = [] := List.eq_nil_of_length_eq_zero h0
    subst this
    exact ⟨none, 0, rfl, fun k x hx => by simp at hx⟩
  · refine ⟨_, cap, rfl, fun k x hx => ⟨g, 0, rfl, ?_⟩⟩
    have hk := (List.getElem?_eq_some_iff.1 hx).1
    have c := World.ownsRow.cellAt h k (by omega)
    rw [Nat.zero_add, c, List.getElem?_map, hx]
    rfl
/-- Lists in memory of their own, one behind the other in a row of lists. -/
structure Fam (w : World) (B G m : Nat) (v : Nat → Value) (n : Nat → Nat) (c : Nat → List Nm) : Prop where
  cell : ∀ k, k < m → w.cell? ⟨G, k, none⟩ = some (v k)
  len : ∀ k, k < m → (c k).length = n k
  own : ∀ k, k < m → w.ownsRow B 9 1 (v k) (n k) ((c k).map strV)
  far : ∀ k, k < m → (v k).ownBlock ≠ some G
  apart : ∀ j k, j < m → k < m → j ≠ k → (v j).ownBlock = none ∨ (v j).ownBlock ≠ (v k).ownBlock
  lt : G < w.heap.size

theorem Fam.below {w w' : World} {B G m : Nat} {v : Nat → Value} {n : Nat → Nat} {c : Nat → List Nm} (F : Fam w B G m v n c) (hb : Below w.heap.size w w') : Fam w' B G m v n c :=
  ⟨fun k hk => by rw [hb.cell (p := ⟨G, k, none⟩) F.lt]; exact F.cell k hk, F.len, fun k hk => keepOwns (F.own k hk) hb, F.far, F.apart, Nat.lt_of_lt_of_le F.lt hb.size⟩
theorem Fam.form {w : World} {B G m : Nat} {v : Nat → Value} {n : Nat → Nat} {c : Nat → List Nm} (F : Fam w B G m v n c) {k : Nat} (hk : k < m) : ∃ a cap, v k = .slice a (n k) cap := by
  rcases (F.own k hk).2 with ⟨h, h0⟩ | ⟨g, cap, cur, h, _⟩
  · exact ⟨none, 0, by rw [h, h0]⟩
  · exact ⟨_, _, h⟩
theorem cellsS_set (l : List Nm) (i : Nat) (p : Nm) : (l.set i p).map strV = (l.map strV).set i (strV p) := by simp
theorem Fam.store {w : World} {B G m : Nat} {v : Nat → Value} {n : Nat → Nat} {c : Nat → List Nm} (F : Fam w B G m v n c) {k b cap : Nat} (hk : k < m) (hv : v k = .slice (some ⟨b, 0, none⟩) (n k) cap) (i : Nat) (p : Nm) :
    Fam (w.setCell ⟨b, i, none⟩ (strV p)) B G m v n (fun j => if j = k then (c k).set i p else c j) ∧ B ≤ b := by
  have ho := F.own k hk
  rw [hv] at ho
  have hb : (v k).ownBlock = some b := by rw [hv]; rfl
  have hBb := (ho.lt b rfl).1
  have hGb : G ≠ b := fun e => F.far k hk (by rw [hb, e])
  have h2 := (ho.stored i (strV p)).1
  rw [← cellsS_set] at h2
  refine ⟨⟨fun j hj => ?_, fun j hj => ?_, fun j hj => ?_, F.far, F.apart, by simpa [World.setCell] using F.lt⟩, hBb⟩
  · rw [World.cell?_setCell_other]
    · exact F.cell j hj
    all_goals simp
  · by_cases e : j = k
    · subst e; simp only [if_pos]; rw [List.length_set]; exact F.len j hj
    · simp only [if_neg e]; exact F.len j hj
  · by_cases e : j = k
    · subst e; simp only [if_pos]; rw [hv]; exact h2
    · simp only [if_neg e]
      have hne : (v j).ownBlock ≠ some b := by
        rcases F.apart j k hj hk e with h | h
        · rw [h]; simp
        · rw [hb] at h; exact h
      exact ownsRow_setCell_other (F.own j hj) (a := ⟨b, i, none⟩) hne _

theorem infoStrT : (Tryz.prog.info? 9).map (fun i => (i.zero, i.size, i.bytes)) = some (some (strV []), 1, 16) := by kernel_rfl
theorem infoTexts3 : (Tryz.prog.info? 37).map (fun i => (i.zero, i.size, i.bytes)) = some (some (.slice none 0 0), 1, 24) := by kernel_rfl
/-! ### the second loop -/
theorem marks_full {c : List Nm} {k : Int} {n : Nat} (hl : c.length = n) (h : ∀ t, t < n → c[t]? = some (markT k t)) : c = marksT k n := by
  apply List.ext_getElem?
  intro t
  by_cases ht : t < n
  · rw [h t ht, marksT, List.getElem?_map, List.getElem?_range ht]; rfl
  · rw [List.getElem?_eq_none (by omega), List.getElem?_eq_none (by rw [marksT_len]; omega)]
theorem ShapeT.lt {w : World} {u : Value} {l : List Nm} (h : ShapeT w u l) (hp : 0 < l.length) : ∃ b, u.ownBlock = some b ∧ b < w.heap.size := by
  obtain ⟨a, cap, rfl, hc⟩ := h
  obtain ⟨b, off, rfl, h1⟩ := hc 0 l[0] (List.getElem?_eq_getElem hp)
  exact ⟨b, rfl, World.block_lt_of_cell? w _ h1⟩
theorem ShapeT.keptFar {w w' : World} {u : Value} {l : List Nm} {o : Option Nat} {N : Nat} (h : ShapeT w u l) (hk : CellsKept w w' o N) (hne : o = none ∨ o ≠ u.ownBlock) : ShapeT w' u l := by
  obtain ⟨a, cap, rfl, hc⟩ := h
  refine ⟨a, cap, rfl, fun i p hp => ?_⟩
  obtain ⟨b, off, rfl, h1⟩ := hc i p hp
  have hb := World.block_lt_of_cell? w _ h1
  have ho : o ≠ some b := by
    rcases hne with e | e
    · rw [e]; simp
    · exact e
  exact ⟨b, off, rfl, by rw [hk b _ hb (fun e => absurd e ho)]; exact h1⟩
theorem ShapeT.keptIn {w w' : World} {l : List Nm} {b n cap : Nat} {o : Option Nat} {N : Nat} (h : ShapeT w (.slice (some ⟨b, 0, none⟩) n cap) l) (hk : CellsKept w w' o N) (hN : l.length ≤ N) : ShapeT w' (.slice (some ⟨b, 0, none⟩) n cap) l := by
  obtain ⟨a, cap', hv, hc⟩ := h
  refine ⟨a, cap', hv, fun i p hp => ?_⟩
  obtain ⟨b', off, ha, h1⟩ := hc i p hp
  have hb := World.block_lt_of_cell? w _ h1
  obtain ⟨hi, _⟩ := List.getElem?_eq_some_iff.1 hp
  have e0 : off = 0 := by
    rw [ha] at hv
    simp at hv
    omega
  subst e0
  exact ⟨b', 0, ha, by rw [hk b' _ hb (fun _ => by omega)]; exact h1⟩
theorem ownsRow_far {w w' : World} {base : Nat} {e : TypeId} {size : Nat} {v : Value} {n : Nat} {xs : List Value} {o : Option Nat} (h : w.ownsRow base e size v n xs) (hg : w.grownBy w' o) (hne : o = none ∨ o ≠ v.ownBlock) : w'.ownsRow base e size v n xs := by
  refine h.kept hg ?_
  cases ho : v.ownBlock with
  | none => exact Or.inl rfl
  | some b =>
    right
    rw [ho] at hne
    intro e
    rcases hne with e2 | e2
    · rw [e2] at e; cases e
    · exact e2 e.symm

/-- Nothing below B has turned, nor block K. -/
def Spr (K B : Nat) (w w' : World) : Prop := Below B w w' ∧ w'.heap[K]? = w.heap[K]?
theorem Spr.refl (K B : Nat) (w : World) : Spr K B w w := ⟨Below.refl _ _, rfl⟩
theorem Spr.then {K B : Nat} {w w1 w2 : World} (h : Spr K B w w1) (hb : Below w1.heap.size w1 w2) (hB : B ≤ w1.heap.size) (hK : K < w.heap.size) : Spr K B w w2 :=
  ⟨h.1.trans (hb.mono hB), (hb.block K (Nat.lt_of_lt_of_le hK h.1.size)).trans h.2⟩
theorem Spr.set {K B b : Nat} {w w1 : World} (h : Spr K B w w1) (hB : B ≤ b) (hK : b ≠ K) (i : Nat) (v : Value) : Spr K B w (w1.setCell ⟨b, i, none⟩ v) :=
  ⟨h.1.setCell hB _, (heap_setCell_other w1 ⟨b, i, none⟩ K v (fun e => hK e.symm)).trans h.2⟩
theorem Spr.alloc {K B : Nat} {w w1 : World} (h : Spr K B w w1) (hB : B ≤ w1.heap.size) (hK : K < w.heap.size) (o : Obj) : Spr K B w (w1.alloc o) :=
  h.then ((Below.refl _ _).alloc (Nat.le_refl _) o) hB hK
theorem Spr.grown {K B : Nat} {w w1 w2 : World} {r : Option Nat} (h : Spr K B w w1) (hg : w1.grownBy w2 r) (hB : B ≤ w1.heap.size) (hr : ∀ k, r = some k → B ≤ k) (hK : r ≠ some K) (hKl : K < w1.heap.size) : Spr K B w w2 :=
  ⟨h.1.grown hg hB hr, (hg.block K hKl (fun e => hK e.symm)).trans h.2⟩
theorem Spr.drewN {K B : Nat} {w w1 : World} (h : Spr K B w w1) (n : Nat) : Spr K B w (w1.drewN n) := ⟨below_drewN h.1 n, h.2⟩

/-- The lists at rest: what all know of them. -/
structure Stat (B G K m S : Nat) (v : Nat → Value) (n : Nat → Nat) : Prop where
  lt : G < S
  ltK : K < S
  farK : ∀ k, k < m → (v k).ownBlock ≠ some K
  form : ∀ j, j < m → v j = .slice none 0 0 ∧ n j = 0 ∨ ∃ b cap, v j = .slice (some ⟨b, 0, none⟩) (n j) cap ∧ b < S
  far : ∀ k, k < m → (v k).ownBlock ≠ some G
  apart : ∀ j k, j < m → k < m → j ≠ k → (v j).ownBlock = none ∨ (v j).ownBlock ≠ (v k).ownBlock
theorem Stat.blk {B G K m S : Nat} {v : Nat → Value} {n : Nat → Nat} (h : Stat B G K m S v n) {j b : Nat} (hj : j < m) (hb : (v j).ownBlock = some b) : b < S := by
  rcases h.form j hj with ⟨e, _⟩ | ⟨b', cap, e, hlt⟩
  · rw [e] at hb; cases hb
  · rw [e] at hb
    have : b' = b := by simpa [Value.ownBlock] using hb
    omega
structure Outer (w : World) (B G K m S : Nat) (v : Nat → Value) (n : Nat → Nat) (k : Nat) (gs : Value) (gv : Nat → Value) : Prop where
  size : S ≤ w.heap.size
  cell : ∀ j, j < m → w.cell? ⟨G, j, none⟩ = some (v j)
  ownV : ∀ j, k ≤ j → j < m → w.ownsRow B 9 1 (v j) (n j) ((marksT j (n j)).map strV)
  atV : ∀ j, j < m → ShapeT w (v j) (marksT j (n j))
  atG : ∀ j, j < k → ShapeT w (gv j) (marksT j (n j + 64))
  ownS : w.ownsRow B 37 1 gs k ((List.range k).map gv)
  sG : gs.ownBlock ≠ some G
  sK : gs.ownBlock ≠ some K
  sV : ∀ j, j < m → gs.ownBlock = none ∨ gs.ownBlock ≠ (v j).ownBlock
  sg : ∀ j, j < k → gs.ownBlock = none ∨ gs.ownBlock ≠ (gv j).ownBlock
  gV : ∀ j j', j < k → k ≤ j' → j' < m → (v j').ownBlock = none ∨ (v j').ownBlock ≠ (gv j).ownBlock
structure Mid (w : World) (B G K m S : Nat) (v : Nat → Value) (n : Nat → Nat) (k : Nat) (gs : Value) (gv : Nat → Value) (g : Value) (i : Nat) : Prop where
  size : S ≤ w.heap.size
  cell : ∀ j, j < m → w.cell? ⟨G, j, none⟩ = some (v j)
  ownV : ∀ j, k < j → j < m → w.ownsRow B 9 1 (v j) (n j) ((marksT j (n j)).map strV)
  atV : ∀ j, j < m → ShapeT w (v j) (marksT j (n j))
  atG : ∀ j, j < k → ShapeT w (gv j) (marksT j (n j + 64))
  ownS : w.ownsRow B 37 1 gs k ((List.range k).map gv)
  sG : gs.ownBlock ≠ some G
  sK : gs.ownBlock ≠ some K
  sV : ∀ j, j < m → gs.ownBlock = none ∨ gs.ownBlock ≠ (v j).ownBlock
  sg : ∀ j, j < k → gs.ownBlock = none ∨ gs.ownBlock ≠ (gv j).ownBlock
  gV : ∀ j j', j < k → k < j' → j' < m → (v j').ownBlock = none ∨ (v j').ownBlock ≠ (gv j).ownBlock
  own : w.ownsRow B 9 1 g (n k + i) ((marksT k (n k + i)).map strV)
  hG : g.ownBlock ≠ some G
  hK : g.ownBlock ≠ some K
  hV : ∀ j, j < m → j ≠ k → g.ownBlock = none ∨ g.ownBlock ≠ (v j).ownBlock
  hg : ∀ j, j < k → g.ownBlock = none ∨ g.ownBlock ≠ (gv j).ownBlock
  hs : gs.ownBlock = none ∨ gs.ownBlock ≠ g.ownBlock
section
variable {w w' : World} {B G K m S k i : Nat} {v : Nat → Value} {n : Nat → Nat} {gs g : Value} {gv : Nat → Value}
theorem Outer.start (h : Outer w B G K m S v n k gs gv) (hS : Stat B G K m S v n) (hk : k < m) : Mid w B G K m S v n k gs gv (v k) 0 :=
  ⟨h.size, h.cell, fun j hj hm => h.ownV j (by omega) hm, h.atV, h.atG, h.ownS, h.sG, h.sK, h.sV, h.sg, fun j j' h1 h2 h3 => h.gV j j' h1 (by omega) h3, h.ownV k (Nat.le_refl _) hk, hS.far k hk, hS.farK k hk,
    fun j hj hne => hS.apart k j hk hj (fun e => hne e.symm), fun j hj => h.gV j k hj (Nat.le_refl _) hk, h.sV k hk⟩
theorem Outer.below (h : Outer w B G K m S v n k gs gv) (hG : G < S) (hb : Below w.heap.size w w') : Outer w' B G K m S v n k gs gv :=
  ⟨Nat.le_trans h.size hb.size, fun j hj => by rw [hb.cell (p := ⟨G, j, none⟩) (Nat.lt_of_lt_of_le hG h.size)]; exact h.cell j hj, fun j hj hm => keepOwns (h.ownV j hj hm) hb, fun j hj => (h.atV j hj).below hb, fun j hj => (h.atG j hj).below hb, keepOwns h.ownS hb, h.sG, h.sK, h.sV, h.sg, h.gV⟩
theorem Mid.below (h : Mid w B G K m S v n k gs gv g i) (hG : G < S) (hb : Below w.heap.size w w') : Mid w' B G K m S v n k gs gv g i :=
  ⟨Nat.le_trans h.size hb.size, fun j hj => by rw [hb.cell (p := ⟨G, j, none⟩) (Nat.lt_of_lt_of_le hG h.size)]; exact h.cell j hj, fun j hj hm => keepOwns (h.ownV j hj hm) hb, fun j hj => (h.atV j hj).below hb, fun j hj => (h.atG j hj).below hb, keepOwns h.ownS hb, h.sG, h.sK, h.sV, h.sg, h.gV, keepOwns h.own hb, h.hG, h.hK, h.hV, h.hg, h.hs⟩
theorem Mid.step (h : Mid w B G K m S v n k gs gv g i) (hS : Stat B G K m S v n) (hk : k < m) {gg cap : Nat} (hown : w'.ownsRow B 9 1 (.slice (some ⟨gg, 0, none⟩) (n k + i + 1) cap) (n k + i + 1) ((marksT k (n k + (i + 1))).map strV)) (hg : w.grownBy w' g.ownBlock) (hl : g.ownBlock = some gg ∨ w.heap.size ≤ gg) (hc : CellsKept w w' g.ownBlock (n k + i)) : Mid w' B G K m S v n k gs gv (.slice (some ⟨gg, 0, none⟩) (n k + i + 1) cap) (i + 1) := by
  have hGw : G < w.heap.size := Nat.lt_of_lt_of_le hS.lt h.size
  have hne : ∀ o : Option Nat, (g.ownBlock = none ∨ g.ownBlock ≠ o) → (∀ b, o = some b → b < w.heap.size) → some gg ≠ o := by
    intro o h1 h2 e
    rcases hl with e2 | e2
    · rcases h1 with e3 | e3
      · rw [e3] at e2; cases e2
      · exact e3 (by rw [e2, e])
    · have := h2 gg e.symm; omega
  have hgv : ∀ j, j < k → ∀ b, (gv j).ownBlock = some b → b < w.heap.size := fun j hj b hb => by
    obtain ⟨b', h1, h2⟩ := (h.atG j hj).lt (by rw [marksT_len]; omega)
    rw [h1] at hb; simp at hb; omega
  refine ⟨Nat.le_trans h.size hg.size, fun j hj => ?_, fun j hj hm => ownsRow_far (h.ownV j hj hm) hg (h.hV j hm (by omega)), fun j hj => ?_, fun j hj => (h.atG j hj).keptFar hc (h.hg j hj), ownsRow_far h.ownS hg ?_, h.sG, h.sK, h.sV, h.sg, h.gV, hown, ?_, fun e => hne (some K) (Or.inr h.hK) (fun b hb => by have := h.size; have := hS.ltK; simp at hb; omega) e, fun j hj hne' => Or.inr (hne _ (h.hV j hj hne') fun b hb => Nat.lt_of_lt_of_le (hS.blk hj hb) h.size), fun j hj => Or.inr (hne _ (h.hg j hj) (hgv j hj)), ?_⟩
  · rw [hc G j hGw (fun e => absurd e h.hG)]; exact h.cell j hj
  · by_cases e : j = k
    · subst e
      rcases hS.form j hj with ⟨e1, e0⟩ | ⟨b, cp, e1, hb⟩
      · rw [e1, e0]
        exact ⟨none, 0, rfl, fun i p hp => by simp [marksT] at hp⟩
      · have := h.atV j hj
        rw [e1] at this ⊢
        exact this.keptIn hc (by rw [marksT_len]; omega)
    · exact (h.atV j hj).keptFar hc (h.hV j hj e)
  · rcases h.hs with e | e
    · cases hgo : g.ownBlock with
      | none => exact Or.inl rfl
      | some b => right; rw [e]; simp
    · right; exact fun e2 => e e2.symm
  · have := hne (some G)
    intro e
    exact hne (some G) (Or.inr h.hG) (fun b hb => by simp at hb; omega) e
  · cases hgo : gs.ownBlock with
    | none => exact Or.inl rfl
    | some b =>
      right
      rw [← hgo]
      intro e
      refine hne gs.ownBlock ?_ (fun b hb => (h.ownS.lt b hb).2) e.symm
      rcases h.hs with e2 | e2
      · rw [hgo] at e2; cases e2
      · exact Or.inr fun e3 => e2 e3.symm
theorem Mid.stop (h : Mid w B G K m S v n k gs gv g 64) (hS : Stat B G K m S v n) (hk : k < m) {gg cap : Nat} (hown : w'.ownsRow B 37 1 (.slice (some ⟨gg, 0, none⟩) (k + 1) cap) (k + 1) ((List.range k).map gv ++ [g])) (hg : w.grownBy w' gs.ownBlock) (hl : gs.ownBlock = some gg ∨ w.heap.size ≤ gg) (hc : CellsKept w w' gs.ownBlock (k * 1)) : Outer w' B G K m S v n (k + 1) (.slice (some ⟨gg, 0, none⟩) (k + 1) cap) (fun j => if j = k then g else gv j) := by
  have hGw : G < w.heap.size := Nat.lt_of_lt_of_le hS.lt h.size
  have hne : ∀ o : Option Nat, (gs.ownBlock = none ∨ gs.ownBlock ≠ o) → (∀ b, o = some b → b < w.heap.size) → some gg ≠ o := by
    intro o h1 h2 e
    rcases hl with e2 | e2
    · rcases h1 with e3 | e3
      · rw [e3] at e2; cases e2
      · exact e3 (by rw [e2, e])
    · have := h2 gg e.symm; omega
  have hgv : ∀ j, j < k → ∀ b, (gv j).ownBlock = some b → b < w.heap.size := fun j hj b hb => by
    obtain ⟨b', h1, h2⟩ := (h.atG j hj).lt (by rw [marksT_len]; omega)
    rw [h1] at hb; simp at hb; omega
  have hatg : ShapeT w g (marksT k (n k + 64)) := ShapeT.own (by rw [marksT_len]; exact h.own)
  refine ⟨Nat.le_trans h.size hg.size, fun j hj => ?_, fun j hj hm => ownsRow_far (h.ownV j (by omega) hm) hg (h.sV j hm), fun j hj => (h.atV j hj).keptFar hc (h.sV j hj), fun j hj => ?_, ?_, ?_, fun e => hne (some K) (Or.inr h.sK) (fun b hb => by have := h.size; have := hS.ltK; simp at hb; omega) e, fun j hj => Or.inr (hne _ (h.sV j hj) fun b hb => Nat.lt_of_lt_of_le (hS.blk hj hb) h.size), fun j hj => ?_, fun j j' h1 h2 h3 => ?_⟩
  · rw [hc G j hGw (fun e => absurd e h.sG)]; exact h.cell j hj
  · by_cases e : j = k
    · subst e; rw [if_pos rfl]; exact hatg.keptFar hc h.hs
    · rw [if_neg e]; exact (h.atG j (by omega)).keptFar hc (h.sg j (by omega))
  · have e : (List.range (k + 1)).map (fun j => if j = k then g else gv j) = (List.range k).map gv ++ [g] := by
      rw [List.range_succ, List.map_append]
      congr 1
      · apply List.map_congr_left
        intro j hj
        have := List.mem_range.1 hj
        rw [if_neg (by omega)]
      · simp
    rw [e]; exact hown
  · exact hne (some G) (Or.inr h.sG) (fun b hb => by simp at hb; omega)
  · right
    by_cases e : j = k
    · subst e; rw [if_pos rfl]; exact hne _ h.hs fun b hb => (h.own.lt b hb).2
    · rw [if_neg e]; exact hne _ (h.sg j (by omega)) (hgv j (by omega))
  · by_cases e : j = k
    · subst e
      rw [if_pos rfl]
      have := h.hV j' h3 (by omega)
      cases hgo : (v j').ownBlock with
      | none => exact Or.inl rfl
      | some b =>
        right
        rw [hgo] at this
        intro e2
        rcases this with e3 | e3
        · rw [e3] at e2; cases e2
        · exact e3 e2.symm
    · rw [if_neg e]; exact h.gV j j' (by omega) (by omega) h3
end

set_option maxHeartbeats 2000000 in
set_option maxRecDepth 100000 in
theorem ApartTexts_any (w : World) (B G K cap m : Nat) (v : Nat → Value) (n : Nat → Nat) (c : Nat → List Nm) (F : Fam w B G m v n c) (hm : m ≤ 65536) (hn : ∀ k, k < m → n k ≤ 4294967296) (hB : B ≤ w.heap.size) (hK : ∀ k, k < m → (v k).ownBlock ≠ some K) (hKl : K < w.heap.size) : Calls Tryz.prog 74 #[.slice (some ⟨G, 0, none⟩) m cap] w fun e w' => e = .returned (.bool true) ∧ Spr K B w w' := by
  have HN := Lib.hid hn
  clear hn
  go_enter Tryz.func74, Tryz.ntmps74
  go_wp2_with (fail)
  go_loopw [3] (fun kv wr => ∃ k c', kv = .int .i64 (k : Nat) ∧ k ≤ m ∧ Fam wr B G m v n c' ∧ Hid (∀ j, j < k → c' j = marksT j (n j)) ∧ Spr K B w wr) (fun kv _ => m - (intOf kv).toNat)
  case atStart => exact ⟨0, c, rfl, by omega, F, fun j hj => by omega, Spr.refl _ _ _⟩
  case round =>
    clear F
    obtain ⟨k, c', rfl, hk, F, HC, hbel⟩ := hrel
    by_cases hlt : k < m
    · obtain ⟨a, cp, hv⟩ := F.form hlt
      have hnk := HN.out k hlt
      obtain ⟨nk, HNK⟩ : ∃ nk, Hid (n k = nk) := ⟨n k, (rfl : n k = n k)⟩
      rw [HNK.out] at hv hnk
      have HV := Lib.hid hv
      clear hv
      go_wp2_with (fail)
      obtain ⟨wo, rfl⟩ : ∃ wo : World, wo = wr := ⟨_, rfl⟩
      go_loopw [4] (fun iv wr => ∃ i c', iv = .int .i64 (i : Nat) ∧ i ≤ nk ∧ Fam wr B G m v n c' ∧ Hid (∀ j, j < k → c' j = marksT j (n j)) ∧ Hid (∀ t, t < i → (c' k)[t]? = some (markT k t)) ∧ Spr K B w wr) (fun iv _ => nk - (intOf iv).toNat)
      case atStart => exact ⟨0, c', rfl, by omega, F, HC.out, fun j hj => by omega, hbel⟩
      case round =>
        clear F HC hbel
        obtain ⟨i, c', rfl, hi, F, HC, HT, hbel⟩ := hrel
        have hcell := F.cell k hlt
        rw [HV.out] at hcell
        by_cases hlt2 : i < nk
        · have hform := F.own k hlt
          rw [HNK.out] at hform
          obtain ⟨b, cp', hv2, hBb, hbl⟩ := hform.form (by omega)
          rw [HV.out] at hv2
          simp only [Value.slice.injEq, true_and] at hv2
          obtain ⟨rfl, rfl⟩ := hv2
          rw [HV.out] at hform
          have hl2 : ((c' k).map strV).length = nk * 1 := hform.1
          obtain ⟨x0, hx0⟩ : ∃ x, ((c' k).map strV)[i]? = some x := ⟨_, List.getElem?_eq_getElem (by omega)⟩
          have d0 := (hform.cellAt i (by omega)).trans hx0
          have f0 := hform.frozenAt i
          have hKb : b ≠ K := fun e => hK k hlt (by rw [HV.out, ← e]; rfl)
          have hGb : G ≠ b := fun e => F.far k hlt (by rw [HV.out, e]; rfl)
          clear hl2 hx0 hform
          have a0 : (0 : Int) ≤ k := by omega
          have a1 : (k : Int) < m := by omega
          have a2 : (0 : Int) ≤ i := by omega
          have a3 : (i : Int) < nk := by omega
          have hbs := F.lt
          go_wp2_with (fail)
          go_region_with ((go_at_call 124; refine (markTexts_any k i _).mono ?_; rintro e w5 ⟨rfl, hb5⟩; have k1 := (hb5.cell (p := ⟨G, k, none⟩) hbs).trans hcell; have k2 := (hb5.cell (p := ⟨b, i, none⟩) hbl).trans d0; have k4 := (hb5.frozen (p := ⟨b, i, none⟩) hbl).trans f0))
          all_goals
            have F5 : Fam w5 B G m v n c' := by first | exact F.below hb5 | exact F.below (below_undrew hb5)
            have hbB := Nat.le_trans hB hbel.1.size
            have hbel5 : Spr K B w w5 := by first | exact hbel.then hb5 hbB hKl | exact hbel.then (below_undrew hb5) hbB hKl
            have hst := F5.store hlt (by rw [HV.out, HNK.out]) i (markT k i)
            go_wp2
            go_roundw
            case rel =>
              refine ⟨i + 1, _, by go_num, by omega, hst.1, ?_, ?_, hbel5.set hBb hKb _ _⟩
              · intro j hj
                show (if j = k then _ else _) = _
                rw [if_neg (by omega)]
                exact HC.out j hj
              · intro t ht
                show (if k = k then _ else _)[t]? = _
                rw [if_pos rfl]
                have hl := F.len k hlt
                rw [HNK.out] at hl
                by_cases e : t = i
                · subst e; rw [List.getElem?_set_self (by omega)]
                · rw [List.getElem?_set_ne (by omega)]; exact HT.out t (by omega)
            case measure => simp [intOf]; omega
        · have hik : i = nk := by omega
          subst hik
          go_wp2
          go_roundw
          case rel =>
            refine ⟨k + 1, c', by go_num, by omega, F, ?_, hbel⟩
            intro j hj
            by_cases e : j = k
            · subst e
              rw [HNK.out]
              exact marks_full (by rw [F.len j hlt, HNK.out]) HT.out
            · exact HC.out j (by omega)
          case measure => simp [intOf]; omega
    · have hkm : k = m := by omega
      subst hkm
      have hS : Stat B G K k wr.heap.size v n := ⟨F.lt, Nat.lt_of_lt_of_le hKl hbel.1.size, hK, fun j hj => by
        rcases (F.own j hj).2 with ⟨h, h0⟩ | ⟨g, cap, cur, h, _, hg, _⟩
        · exact Or.inl ⟨h, h0⟩
        · exact Or.inr ⟨g, cap, h, (F.own j hj).lt g (by rw [h]; rfl) |>.2⟩, F.far, F.apart⟩
      have hO : Outer wr B G K k wr.heap.size v n 0 (.slice none 0 0) v := ⟨Nat.le_refl _, F.cell, fun j _ hj => by rw [← HC.out j hj]; exact F.own j hj, fun j hj => by
          rw [← HC.out j hj]; exact ShapeT.own (by rw [F.len j hj]; exact F.own j hj), fun j hj => by omega, World.ownsRow_nil _ _ _ _, by simp [Value.ownBlock], by simp [Value.ownBlock], fun j hj => Or.inl rfl, fun j hj => Or.inl rfl, fun j j' h1 => by omega⟩
      generalize wr.heap.size = S at *
      clear F HC hlt hk c'
      go_wp2_with (fail)
      go_loopw [5, 6] (fun gs kv wr => ∃ j gv, kv = .int .i64 (j : Nat) ∧ j ≤ k ∧ Outer wr B G K k S v n j gs gv ∧ Spr K B w wr) (fun _ kv _ => k - (intOf kv).toNat)
      case atStart => exact ⟨0, v, rfl, by omega, hO, hbel⟩
      case round =>
        clear hO hbel
        obtain ⟨j, gv, rfl, hj, hO, hbel⟩ := hrel
        by_cases hlt : j < k
        · have hMid := hO.start hS hlt
          have hcell := hO.cell j hlt
          have a0 : (0 : Int) ≤ j := by omega
          have a1 : (j : Int) < k := by omega
          obtain ⟨a, cp, HV⟩ : ∃ a cp, Hid (v j = .slice a (n j) cp) := by
            rcases hS.form j hlt with ⟨e, e0⟩ | ⟨b, cp, e, _⟩
            · exact ⟨none, 0, by rw [e, e0]; rfl⟩
            · exact ⟨_, _, e⟩
          have hnk := HN.out j hlt
          obtain ⟨vj, HVJ⟩ : ∃ vj, Hid (v j = vj) := ⟨v j, (rfl : v j = v j)⟩
          rw [HVJ.out] at hcell hMid HV
          obtain ⟨nj, HNJ⟩ : ∃ nj, Hid (n j = nj) := ⟨n j, (rfl : n j = n j)⟩
          rw [HNJ.out] at HV hnk
          have hvj := HV.out
          subst hvj
          have hGS := hS.lt
          go_wp2_with (fail)
          obtain ⟨wo, rfl⟩ : ∃ wo : World, wo = wr := ⟨_, rfl⟩
          go_loopw [7, 8] (fun g iv wr => ∃ i, iv = .int .i64 (i : Nat) ∧ i ≤ 64 ∧ Mid wr B G K k S v n j u5 gv g i ∧ Spr K B w wr) (fun _ iv _ => 64 - (intOf iv).toNat)
          case atStart => exact ⟨0, rfl, by omega, hMid, hbel⟩
          case round =>
            clear hMid hbel hO hcell
            obtain ⟨i, rfl, hi, hM, hbel⟩ := hrel
            have hcell := hM.cell j hlt
            rw [HVJ.out] at hcell
            by_cases hlt2 : i < 64
            · go_wp2_with (fail)
              refine (markTexts_any j (nj + i) _).mono ?_
              rintro e w1 ⟨rfl, hb1⟩
              have hM1 := hM.below hGS hb1
              have hbB := Nat.le_trans hB hbel.1.size
              have hbel1 := hbel.then hb1 hbB hKl
              have hbB1 := Nat.le_trans hB hbel1.1.size
              have ho := hM1.own
              have hMK := hM1.hK
              have hKS := hS.ltK
              have hszz := hM1.size
              rw [HNJ.out] at ho
              have hM2 := hM1.below hGS ((Below.refl w1.heap.size w1).alloc (Nat.le_refl _) (.cells #[strV (markT j (nj + i))] 9))
              have hmk : (marksT j (nj + (i + 1))).map strV = (marksT j (nj + i)).map strV ++ [strV (markT j (nj + i))] := by
                rw [← Nat.add_assoc, marksT_succ, List.map_append]
                simp
              have HMK := Lib.hid hmk
              obtain ⟨i0, hii, hiz0, hiz1, hiz2⟩ := info_parts infoStrT
              clear hmk hM hM1 hcell
              generalize markT (j : Int) ((nj : Int) + i) = mt at *
              go_wp2_with (at_builtin; refine wpList_append_keep rfl _ _ 37 rfl B 9 i0 (strV []) 1 16 Tryz.underlying37 hii hiz0 hiz1 hiz2 rfl (by omega) u7 (nj + i) ((marksT j (nj + i)).map strV) rfl (ho.alloc _) ⟨w1.heap.size, 0, none⟩ 1 1 [strV mt] rfl rfl (World.news_of_block (cs := #[strV mt]) (t := 9) (fr := (0, 0)) (heap_alloc_new w1 _)) ?c0 (by omega) ?c1 ?c2 ?c3 (w1.heap.size + 1) (by simp) ?_)
              case c0 => simp [Value.oneCell']
              case c1 => unfold maxLen; omega
              case c2 => omega
              case c3 => simp; omega
              intro gg cap3 w2 hown2 hgrow hlies hlt9 hck
              go_wp2
              go_roundw
              case rel =>
                refine ⟨i + 1, by go_num, by omega, ?_, (hbel1.alloc hbB1 hKl _).grown hgrow (by simp; omega) (fun k hk => (ho.lt k hk).1) hMK (by simp; omega)⟩
                have := Mid.step (w' := w2) (gg := gg) (cap := cap3) hM2 hS hlt (by rw [HNJ.out, HMK.out]; exact hown2) hgrow (by rcases hlies with h | h; exact Or.inl h; exact Or.inr (by simp; omega)) (by rw [HNJ.out]; exact hck)
                rw [HNJ.out] at this
                exact this
              case measure => simp [intOf]; omega
            · have hi64 : i = 64 := by omega
              subst hi64
              have hM2 := hM.below hGS ((Below.refl wr.heap.size wr).alloc (Nat.le_refl _) (.cells #[u7] 37))
              obtain ⟨gg, cap3, hu7, _, _⟩ := hM.own.form (by omega)
              rw [HNJ.out] at hu7
              subst hu7
              have ho := hM.ownS
              have hMK := hM.sK
              have hKS := hS.ltK
              have hszz := hM.size
              have hbB := Nat.le_trans hB hbel.1.size
              obtain ⟨i0, hii, hiz0, hiz1, hiz2⟩ := info_parts infoTexts3
              clear hM hcell
              go_wp2_with (at_builtin; refine wpList_append_keep rfl _ _ 129 rfl B 37 i0 _ 1 24 Tryz.underlying129 hii hiz0 hiz1 hiz2 rfl (by omega) u5 j ((List.range j).map gv) rfl (ho.alloc _) ⟨wr.heap.size, 0, none⟩ 1 1 [.slice (some ⟨gg, 0, none⟩) (nj + 64) cap3] rfl rfl (World.news_of_block (cs := #[.slice (some ⟨gg, 0, none⟩) (nj + 64) cap3]) (t := 37) (fr := (0, 0)) (heap_alloc_new wr _)) ?d0 (by omega) ?d1 ?d2 ?d3 (wr.heap.size + 1) (by simp) ?_)
              case d0 => simp [Value.oneCell']
              case d1 => unfold maxLen; omega
              case d2 => omega
              case d3 => simp; omega
              intro gg2 cap4 w2 hown2 hgrow hlies hlt9 hck
              go_wp2
              go_roundw
              case rel =>
                exact ⟨j + 1, _, by go_num, by omega, Mid.stop (w' := w2) (gg := gg2) (cap := cap4) hM2 hS hlt hown2 hgrow (by rcases hlies with h | h; exact Or.inl h; exact Or.inr (by simp; omega)) (by rw [Nat.mul_one]; exact hck), (hbel.alloc hbB hKl _).grown hgrow (by simp; omega) (fun k hk => (ho.lt k hk).1) hMK (by simp; omega)⟩
              case measure => simp [intOf]; omega
        · have hjk : j = k := by omega
          subst hjk
          go_wp2_with (fail)
          go_loopw [9] (fun kv wr => ∃ t : Nat, kv = .int .i64 t ∧ t ≤ j ∧ Outer wr B G K j S v n j u5 gv ∧ Spr K B w wr) (fun kv _ => j - (intOf kv).toNat)
          case atStart => exact ⟨0, rfl, by omega, hO, hbel⟩
          case round =>
            clear hO hbel
            obtain ⟨t, rfl, ht, hO, hbel⟩ := hrel
            by_cases hlt : t < j
            · have a0 : (0 : Int) ≤ t := by omega
              have a1 : (t : Int) < j := by omega
              obtain ⟨gg, cp, hu5, _, hggl⟩ := hO.ownS.form (by omega)
              subst hu5
              have hnt := HN.out t hlt
              obtain ⟨nt, HNT⟩ : ∃ nt, Hid (n t = nt) := ⟨n t, (rfl : n t = n t)⟩
              rw [HNT.out] at hnt
              obtain ⟨av, cv, hv1, hq1⟩ := hO.atV t hlt
              obtain ⟨ag, cg, hv2, hq2⟩ := hO.atG t hlt
              rw [marksT_len, HNT.out] at hv1 hv2
              have HV1 := Lib.hid hv1
              have HV2 := Lib.hid hv2
              clear hv1 hv2 hq1 hq2
              have hGS := hS.lt
              have d0 := hO.ownS.cellAt t (by omega)
              have e0 : ((List.range j).map gv)[t]? = some (gv t) := by rw [List.getElem?_map, List.getElem?_range hlt]; rfl
              rw [e0, HV2.out] at d0
              clear e0
              go_wp2_with (fail)
              obtain ⟨wo, rfl⟩ : ∃ wo : World, wo = wr := ⟨_, rfl⟩
              go_loopw [10] (fun iv wr => ∃ i : Nat, iv = .int .i64 i ∧ i ≤ nt + 64 ∧ Outer wr B G K j S v n j (.slice (some ⟨gg, 0, none⟩) j cp) gv ∧ Spr K B w wr) (fun iv _ => nt + 64 - (intOf iv).toNat)
              case atStart => exact ⟨0, rfl, by omega, hO, hbel⟩
              case round =>
                clear hO hbel d0 hggl
                obtain ⟨i, rfl, hi, hO, hbel⟩ := hrel
                have d0 := hO.ownS.cellAt t (by omega)
                have e0 : ((List.range j).map gv)[t]? = some (gv t) := by rw [List.getElem?_map, List.getElem?_range hlt]; rfl
                rw [e0, HV2.out] at d0
                clear e0
                by_cases hlt2 : i < nt + 64
                · go_wp2_with (fail)
                  refine (markTexts_any t i _).mono ?_
                  rintro e w1 ⟨rfl, hb1⟩
                  have hbB := Nat.le_trans hB hbel.1.size
                  have hbel1 := hbel.then hb1 hbB hKl
                  have hbB1 := Nat.le_trans hB hbel1.1.size
                  have hO1 := hO.below hGS hb1
                  have hO3 := hO1
                  have hB3 := hbel1
                  clear hO hO1 d0 hbel1
                  generalize w1 = w4 at *
                  have d0 := hO3.ownS.cellAt t (by omega)
                  have e0 : ((List.range j).map gv)[t]? = some (gv t) := by rw [List.getElem?_map, List.getElem?_range hlt]; rfl
                  rw [e0, HV2.out] at d0
                  have d1 := hO3.cell t hlt
                  rw [HV1.out] at d1
                  have hgt := hO3.atG t hlt
                  rw [HV2.out, HNT.out] at hgt
                  have hvt := hO3.atV t hlt
                  rw [HV1.out, HNT.out] at hvt
                  obtain ⟨ag', cg', hag, hgc⟩ := hgt
                  simp only [Value.slice.injEq] at hag
                  obtain ⟨rfl, hq3, rfl⟩ := hag
                  clear hq3
                  obtain ⟨bg, og, rfl, g1⟩ := hgc i (markT t i) (by rw [marksT, List.getElem?_map, List.getElem?_range (by omega)]; rfl)
                  have hne : ((str (markT (t : Int) (i : Int))).toList == (str (markT (t : Int) (i : Int))).toList) = true := by simp
                  have b0 : (0 : Int) ≤ i := by omega
                  have b1 : (i : Int) < (nt : Int) + 64 := by omega
                  clear e0 hgc
                  by_cases hin : i < nt
                  · obtain ⟨av', cv', hav, hvc⟩ := hvt
                    simp only [Value.slice.injEq] at hav
                    obtain ⟨rfl, hq4, rfl⟩ := hav
                    clear hq4
                    obtain ⟨bv, ov, rfl, v1⟩ := hvc i (markT t i) (by rw [marksT, List.getElem?_map, List.getElem?_range (by omega)]; rfl)
                    have b2 : (i : Int) < nt := by omega
                    clear hvc
                    generalize markT (t : Int) (i : Int) = mt at *
                    go_wp2
                    go_roundw
                    case rel => exact ⟨i + 1, by go_num, by omega, hO3, hB3⟩
                    case measure => simp [intOf]; omega
                  · have b2 : decide ((i : Int) < nt) = false := by simp; omega
                    clear hvt
                    generalize markT (t : Int) (i : Int) = mt at *
                    go_wp2
                    go_roundw
                    case rel => exact ⟨i + 1, by go_num, by omega, hO3, hB3⟩
                    case measure => simp [intOf]; omega
                · go_wp2
                  go_roundw
                  case rel => exact ⟨t + 1, by go_num, by omega, hO, hbel⟩
                  case measure => simp [intOf]; omega
            · go_wp2
              go_ret
              exact ⟨rfl, hbel⟩
end Go.Proofs.YtfgpigblnkanpaaGreatDoor
