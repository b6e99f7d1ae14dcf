/- The walk of CopyPairs: the same pairs in memory of their own. -/
import Derived.Test.YtifdibkpaeocfaaGreatDoorUnpack2
import Derived.Test.YtifdibkpaeocfaaGreatDoorKit
import Derived.Laws.AppendOwn
import Derived.Deep.AppendLies
namespace Go.Proofs.YtifdibkpaeocfaaGreatDoor
open Go.RowKit

set_option maxHeartbeats 1000000 in
set_option maxRecDepth 100000 in
theorem CopyPairs_any (l : List PairL) (v : Value) (w : World) (hl : PairsAt w v l) (hn : l.length * 32 ≤ 140737488351232) : Calls Tryz.prog 80 #[v] w fun e w' => ∃ u, e = .returned u ∧ PairsAt w' u l ∧ Below w.heap.size w w' := by
  obtain ⟨a, cap, rfl, hc⟩ := hl
  have HC := Lib.hid hc
  clear hc
  go_enter Tryz.func80, Tryz.ntmps80
  go_wp2
  go_loopw [3, 4] (fun o i wr => ∃ k : Nat, i = .int .i64 k ∧ k ≤ l.length ∧ wr.ownsRow w.heap.size 33 2 o k (cellsP (l.take k)) ∧ Below w.heap.size w wr) (fun _ i _ => l.length - (intOf i).toNat)
  case atStart => exact ⟨0, rfl, by omega, World.ownsRow_nil _ _ _ _, Below.refl _ _⟩
  case round =>
    obtain ⟨k, rfl, hk, hown, hbel⟩ := hrel
    by_cases hlt : k < l.length
    · obtain ⟨p, hp⟩ : ∃ p, l[k]? = some p := ⟨_, List.getElem?_eq_getElem hlt⟩
      obtain ⟨b, off, rfl, h1, h2⟩ := HC.out k p hp
      have hbl : b < w.heap.size := World.block_lt_of_cell? w _ h1
      replace h1 := (hbel.cell (p := ⟨b, off + k * 2, none⟩) hbl).trans h1
      replace h2 := (hbel.cell (p := ⟨b, off + k * 2 + 1, none⟩) hbl).trans h2
      have ht : cellsP (l.take (k + 1)) = cellsP (l.take k) ++ [strV p.1, strV p.2] := by
        obtain ⟨_, e⟩ := List.getElem?_eq_some_iff.1 hp
        rw [List.take_succ_eq_append_getElem hlt, e, cellsP_snoc]
      have HT := Lib.hid ht
      clear ht hp
      generalize p.1 = pk at *
      generalize p.2 = pv at *
      have hbs := hbel.size
      obtain ⟨i0, hii, hiz0, hiz1, hiz2⟩ := info_parts infoPair3
      go_wp2_with (at_builtin; go_loud (refine wpList_append_own _ rfl _ _ 29 rfl w.heap.size 33 i0 _ 2 32 Tryz.underlying29 hii hiz0 hiz1 hiz2 rfl (by omega) u3 k (cellsP (l.take k)) rfl (hown.alloc _) ⟨wr.heap.size, 0, none⟩ 1 1 [strV pk, strV pv] rfl rfl (World.news_of_block (cs := #[strV pk, strV pv]) (t := 33) (fr := (0, 0)) (heap_alloc_new wr _)) ?c0 ?c1 ?c2 ?c3 ?_))
      case c0 => simp [Value.oneCell']
      case c1 => unfold maxLen; omega
      case c2 => omega
      case c3 => simp; omega
      intro v' w2 hown2 hgrow _
      go_wp2
      go_roundw
      case rel => exact ⟨k + 1, by go_num, by omega, by rw [HT.out]; exact hown2, ((hbel.alloc hbs _).grown hgrow (by simp; omega) (fun g hg => (hown.lt g hg).1))⟩
      case measure => simp [intOf]; omega
    · have hk2 : l.take k = l := List.take_of_length_le (by omega)
      have hkl : k = l.length := by omega
      subst hkl
      rw [hk2] at hown
      go_wp2
      go_ret
      exact ⟨_, rfl, PairsAt.own hown, hbel⟩
end Go.Proofs.YtifdibkpaeocfaaGreatDoor
