/- The walks of LentPairs and KeptPairs: pairs lent with marks behind them, and whether they are as they were. -/
import Derived.Test.YtifdibkpaeocfaaGreatDoorUnpack2
import Derived.Test.YtifdibkpaeocfaaGreatDoorKit
import Derived.Test.YtifdibkpaeocfaaGreatDoorStr
import Derived.Laws.AppendOwn
import Derived.Deep.AppendLies
import Derived.BigQuiet
import Derived.IntWalk
namespace Go.Proofs.YtifdibkpaeocfaaGreatDoor
open Go.RowKit

def lowB (x : Int) : UInt8 := (x % 256).toNat.toUInt8
theorem lowB_val (x : Int) : x % 256 = ((lowB x).toNat : Int) := by
  unfold lowB
  rw [toUInt8_toNat_lt (by omega)]; omega
def markT (k i : Int) : List UInt8 := [35, lowB k, lowB (k / 256), lowB i, lowB (i / 256)]
def markW : List UInt8 := [109, 97, 114, 107]
def markP (k i : Int) : PairL := (markT k i, markW)
def marksP (k : Int) (n : Nat) : List PairL := (List.range n).map fun i : Nat => markP k (i : Int)
theorem marksP_succ (k : Int) (n : Nat) : marksP k (n + 1) = marksP k n ++ [markP k n] := by
  simp [marksP, List.range_succ]
theorem marksP_len (k : Int) (n : Nat) : (marksP k n).length = n := by simp [marksP]

set_option maxRecDepth 100000 in
theorem MarkText_any (k i : Int) (w : World) : Calls Tryz.prog 110 #[.int .i64 k, .int .i64 i] w fun e w' => e = .returned (strV (markT k i)) ∧ Below w.heap.size w w' := by
  have l0 := lowB_val k
  have l1 := lowB_val (k / 256)
  have l2 := lowB_val i
  have l3 := lowB_val (i / 256)
  have hcv : ∀ a b c d : UInt8, (convert 26 9 (.slice (some ⟨w.heap.size, 0, none⟩) 5 5)).run Tryz.prog (w.alloc (.cells #[.int .u8 35, .int .u8 a.toNat, .int .u8 b.toNat, .int .u8 c.toNat, .int .u8 d.toNat] 5)) = .ok (.string (str [35, a, b, c, d])) (w.alloc (.cells #[.int .u8 35, .int .u8 a.toNat, .int .u8 b.toNat, .int .u8 c.toNat, .int .u8 d.toNat] 5)) := fun a b c d =>
    conv_bytes (Blk.new w [.int .u8 35, .int .u8 a.toNat, .int .u8 b.toNat, .int .u8 c.toNat, .int .u8 d.toNat] 5) Tryz.underlying26 Tryz.underlying5 Tryz.underlying9 [35, a, b, c, d] [] _ _ rfl rfl
  show Calls Tryz.prog 110 #[.int .i64 k, .int .i64 i] w fun e w' => e = .returned (strV [35, lowB k, lowB (k / 256), lowB i, lowB (i / 256)]) ∧ Below w.heap.size w w'
  generalize lowB k = x0 at *
  generalize lowB (k / 256) = x1 at *
  generalize lowB i = x2 at *
  generalize lowB (i / 256) = x3 at *
  go_enter Tryz.func110, Tryz.ntmps110
  go_wp2
  go_ret
  exact ⟨rfl, (Below.refl _ _).alloc (Nat.le_refl _) _⟩

theorem mark_results (tmps : Array Value) (w : World) (g : Nat) (x y : Value) (tt : TypeId)
    (hp : tmps.getD 4 undef = .pointer (some ⟨g, 0, none⟩)) (hg : Blk w g [x, y] tt) :
    (results Tryz.f104 tmps).run Tryz.prog w = .ok (.agg #[x, y]) w := by
  have hp' : tmps[4]?.getD undef = .pointer (some ⟨g, 0, none⟩) := by simpa using hp
  have hl : (loadVar 33 ⟨g, 0, none⟩).run Tryz.prog w = .ok (.agg #[x, y]) w := run_loadVar_row w g tt _ #[x, y] (0, 0) _ hg Tryz.underlying33 rfl infoPair
  simp [results, Tryz.results104, hp', asAddr, hl]

set_option maxRecDepth 100000 in
theorem markPairs_any (k i : Int) (w : World) : Calls Tryz.prog 104 #[.int .i64 k, .int .i64 i] w fun e w' => e = .returned (.agg #[strV (markT k i), strV markW]) ∧ Below w.heap.size w w' := by
  have hbr := Blk.new w [strV [], strV []] 33
  have hB0 := (Below.refl w.heap.size w).alloc (Nat.le_refl _) (.cells #[strV [], strV []] 33)
  go_enter Tryz.func104, Tryz.ntmps104
  go_wp2_with (fail)
  refine (MarkText_any k i _).mono ?_
  rintro e w1 ⟨rfl, hb1⟩
  have hbr1 := hbr.below hb1 (by simp)
  have hB := hB0.trans (hb1.mono (by simp))
  have c0 := hbr1.cell 0
  have c1 := hbr1.cell 1
  have f0 := hbr1.free 0
  have f1 := hbr1.free 1
  simp only [List.getElem?_cons_zero, List.getElem?_cons_succ] at c0 c1
  go_wp2
  refine bodyPost_ret (v := .agg #[strV (markT k i), strV markW]) (mark_results _ _ w.heap.size _ _ 33 rfl ((hbr1.set 0 _).set 1 _)) rfl ⟨rfl, (hB.setCell (Nat.le_refl _) _).setCell (Nat.le_refl _) _⟩

set_option maxHeartbeats 1000000 in
set_option maxRecDepth 100000 in
theorem FullPairs_any (l : List PairL) (v : Value) (w : World) (hl : PairsAt w v l) (hn : l.length ≤ 65536) : Calls Tryz.prog 113 #[v] w fun e w' => ∃ u, e = .returned u ∧ w'.ownsRow w.heap.size 33 2 u (l.length + 16) (cellsP (l ++ marksP 90 16)) ∧ Below w.heap.size w w' := by
  obtain ⟨a, cap, rfl, hc⟩ := hl
  have HC := Lib.hid hc
  clear hc
  go_enter Tryz.func113, Tryz.ntmps113
  go_wp2
  go_loopw [3, 4] (fun o i wr => ∃ k : Nat, i = .int .i64 k ∧ k ≤ l.length ∧ wr.ownsRow w.heap.size 33 2 o k (cellsP (l.take k)) ∧ Below w.heap.size w wr) (fun _ i _ => l.length - (intOf i).toNat)
  case atStart => exact ⟨0, rfl, by omega, World.ownsRow_nil _ _ _ _, Below.refl _ _⟩
  case round =>
    obtain ⟨k, rfl, hk, hown, hbel⟩ := hrel
    by_cases hlt : k < l.length
    · obtain ⟨p, hp⟩ : ∃ p, l[k]? = some p := ⟨_, List.getElem?_eq_getElem hlt⟩
      obtain ⟨b, off, rfl, h1, h2⟩ := HC.out k p hp
      have hbl : b < w.heap.size := World.block_lt_of_cell? w _ h1
      replace h1 := (hbel.cell (p := ⟨b, off + k * 2, none⟩) hbl).trans h1
      replace h2 := (hbel.cell (p := ⟨b, off + k * 2 + 1, none⟩) hbl).trans h2
      have ht : cellsP (l.take (k + 1)) = cellsP (l.take k) ++ [strV p.1, strV p.2] := by
        obtain ⟨_, e⟩ := List.getElem?_eq_some_iff.1 hp
        rw [List.take_succ_eq_append_getElem hlt, e, cellsP_snoc]
      have HT := Lib.hid ht
      clear ht hp
      generalize p.1 = pk at *
      generalize p.2 = pv at *
      have hbs := hbel.size
      obtain ⟨i0, hii, hiz0, hiz1, hiz2⟩ := info_parts infoPair3
      go_wp2_with (at_builtin; refine wpList_append_own _ rfl _ _ 29 rfl w.heap.size 33 i0 _ 2 32 Tryz.underlying29 hii hiz0 hiz1 hiz2 rfl (by omega) u3 k (cellsP (l.take k)) rfl (hown.alloc _) ⟨wr.heap.size, 0, none⟩ 1 1 [strV pk, strV pv] rfl rfl (World.news_of_block (cs := #[strV pk, strV pv]) (t := 33) (fr := (0, 0)) (heap_alloc_new wr _)) ?c0 ?c1 ?c2 ?c3 ?_)
      case c0 => simp [Value.oneCell']
      case c1 => unfold maxLen; omega
      case c2 => omega
      case c3 => simp; omega
      intro v' w2 hown2 hgrow _
      go_wp2
      go_roundw
      case rel => exact ⟨k + 1, by go_num, by omega, by rw [HT.out]; exact hown2, ((hbel.alloc hbs _).grown hgrow (by simp; omega) (fun g hg => (hown.lt g hg).1))⟩
      case measure => simp [intOf]; omega
    · have hk2 : l.take k = l := List.take_of_length_le (by omega)
      have hkl : k = l.length := by omega
      subst hkl
      rw [hk2] at hown
      go_wp2
      go_loopw [3, 5] (fun o i wr => ∃ k : Nat, i = .int .i64 k ∧ k ≤ 16 ∧ wr.ownsRow w.heap.size 33 2 o (l.length + k) (cellsP (l ++ marksP 90 k)) ∧ Below w.heap.size w wr) (fun _ i _ => 16 - (intOf i).toNat)
      case atStart => exact ⟨0, rfl, by omega, by simpa [marksP] using hown, hbel⟩
      case round =>
        clear hown hbel
        obtain ⟨k, rfl, hk16, hown, hbel⟩ := hrel
        by_cases hlt16 : k < 16
        · have ht : cellsP (l ++ marksP 90 (k + 1)) = cellsP (l ++ marksP 90 k) ++ [strV (markT 90 k), strV markW] := by
            rw [marksP_succ, ← List.append_assoc, cellsP_snoc]; rfl
          have HT := Lib.hid ht
          clear ht
          have hbs := hbel.size
          go_wp2_with (fail)
          refine (markPairs_any 90 k _).mono ?_
          rintro e w1 ⟨rfl, hb1⟩
          have hown1 := keepOwns hown hb1
          have hbel1 := hbel.trans (hb1.mono hbel.size)
          have hbs1 := hbel1.size
          obtain ⟨i0, hii, hiz0, hiz1, hiz2⟩ := info_parts infoPair3
          generalize markT 90 (k : Int) = mt at *
          go_wp2_with (at_builtin; refine wpList_append_own _ rfl _ _ 29 rfl w.heap.size 33 i0 _ 2 32 Tryz.underlying29 hii hiz0 hiz1 hiz2 rfl (by omega) u3 (l.length + k) (cellsP (l ++ marksP 90 k)) rfl (hown1.alloc _) ⟨w1.heap.size, 0, none⟩ 1 1 [strV mt, strV markW] rfl rfl (World.news_of_block (cs := #[strV mt, strV markW]) (t := 33) (fr := (0, 0)) (heap_alloc_new w1 _)) ?e0 ?e1 ?e2 ?e3 ?_)
          case e0 => simp [Value.oneCell']
          case e1 => unfold maxLen; omega
          case e2 => omega
          case e3 => simp; omega
          intro v' w2 hown2 hgrow _
          go_wp2
          go_roundw
          case rel => exact ⟨k + 1, by go_num, by omega, by rw [HT.out]; exact hown2, ((hbel1.alloc hbs1 _).grown hgrow (by simp; omega) (fun g hg => (hown1.lt g hg).1))⟩
          case measure => simp [intOf]; omega
        · have hk6 : k = 16 := by omega
          subst hk6
          go_wp2
          go_ret
          exact ⟨_, rfl, hown, hbel⟩
end Go.Proofs.YtifdibkpaeocfaaGreatDoor
