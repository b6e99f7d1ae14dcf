/- The walk of times: a closed helper of the statement JournalKnown. -/
import Derived.Test.YtfgpigblnkanpaaGreatDoorGF
import Derived.Test.YtfgpigblnkanpaaGreatDoorHM
namespace Go.Proofs.YtfgpigblnkanpaaGreatDoor
open Go.RowKit Go.Maps Go.Shelf
set_option linter.unusedVariables false
set_option linter.unusedSimpArgs false

def timesL (c : UInt8) (n : Nat) : List UInt8 := List.replicate n c
def tcells (c : UInt8) (n : Nat) : List Value := List.replicate n (.int .u8 c.toNat)
theorem infoByteT : (Tryz.prog.info? 5).map (fun i => (i.zero, i.size, i.bytes)) = some (some (.int .u8 0), 1, 1) := by kernel_rfl
theorem conv_rowT {w : World} {B n : Nat} {v : Value} {c : UInt8} (h : w.ownsRow B 5 1 v n (tcells c n)) (h0 : 0 < n) : (convert 140 9 v).run Tryz.prog w = .ok (strV (timesL c n)) w := by
  obtain ⟨a, cc, rfl, hc⟩ := row_open h
  have hx : ∀ k, k < n → (tcells c n)[k]? = some (.int .u8 c.toNat) := fun k hk => by unfold tcells; simp [hk]
  obtain ⟨g, rfl, -⟩ := hc 0 _ (hx 0 h0)
  have hcell : ∀ i, i < n → w.cell? ⟨g, 0 + i, none⟩ = some (.int .u8 (((timesL c n).map fun b => (b.toNat : Int)).getD i 0)) := fun i hi => by
    obtain ⟨g2, e2, h2, -⟩ := hc i _ (hx i hi)
    cases e2
    rw [Nat.zero_add, h2]
    unfold timesL
    simp [hi]
  rw [run_convert_bytes_arg w 140 5 Tryz.underlying140 Tryz.underlying5 g 0 n cc ((timesL c n).map fun b => (b.toNat : Int)) (by unfold timesL; simp) hcell 9 Tryz.underlying9, strOfNums_bytes]
set_option maxHeartbeats 2000000 in
set_option maxRecDepth 100000 in
theorem times_any (w : World) (c : UInt8) (n : Nat) (h0 : 0 < n) (hn : n ≤ 33554432) : Calls Tryz.prog 99 #[strV [c], .int .i64 n] w fun e w' => e = .returned (strV (timesL c n)) ∧ Below w.heap.size w w' := by
  obtain ⟨i0, hi, hz0, hz1, hz2⟩ := info_parts infoByteT
  have hsz := str_size [c]
  have hix : ∀ w', (Instr.index 9 (strV [c]) (.int .i64 0)).run Tryz.prog w' = .ok (.int .u8 c.toNat) w' := fun w' => by
    exact run_index_at w' _ (str [c]) 0 0 Tryz.underlying9 (by rw [str_size]; exact Nat.zero_lt_one) rfl
  go_enter Tryz.func99, Tryz.ntmps99
  go_wp2_with (fail)
  go_loopw [5, 6] (fun v i wr => ∃ k : Nat, i = .int .i64 (k : Nat) ∧ k ≤ n ∧ wr.ownsRow w.heap.size 5 1 v k (tcells c k) ∧ Below w.heap.size w wr) (fun _ i _ => n - (intOf i).toNat)
  case atStart => exact ⟨0, rfl, Nat.zero_le _, World.ownsRow_nil _ _ _ _, Below.refl _ _⟩
  case round =>
    obtain ⟨k, rfl, hk, hown, hbel⟩ := hrel
    by_cases hlt : k < n
    · obtain ⟨va, vc, rfl, -⟩ := row_open hown
      have hsz2 := hbel.size
      have ik : (k : Int) < (n : Int) := by omega
      go_wp2_with (fail)
      go_loopw [5, 7] (fun v i wr => ∃ j : Nat, i = .int .i64 (j : Nat) ∧ j ≤ 1 ∧ wr.ownsRow w.heap.size 5 1 v (k + j) (tcells c (k + j)) ∧ Below w.heap.size w wr) (fun _ i _ => 1 - (intOf i).toNat)
      case atStart => exact ⟨0, rfl, Nat.zero_le _, hown, hbel⟩
      case round =>
        clear hown hbel hsz2
        obtain ⟨j, rfl, hj, hown, hbel⟩ := hrel
        by_cases hj0 : j = 0
        · subst hj0
          obtain ⟨va, vc, rfl, -⟩ := row_open hown
          have hsz2 := hbel.size
          simp only [Nat.add_zero] at hown
          go_wp2_with (at_builtin; refine wpList_append_own _ rfl _ _ 140 rfl w.heap.size 5 i0 (.int .u8 0) 1 1 Tryz.underlying140 hi hz0 hz1 hz2 rfl (by decide) (.slice va k vc) k (tcells c k) rfl (hown.alloc _) ⟨wr.heap.size, 0, none⟩ 1 1 [.int .u8 c.toNat] rfl rfl ?c1 ?c2 ?c3 ?c4 ?c5 ?_)
          case c1 => exact World.news_of_block (cs := #[.int .u8 c.toNat]) (t := 5) (fr := (0, 0)) (heap_alloc_new wr _)
          case c2 => intro u hu; simp at hu; subst hu; rfl
          case c3 => unfold maxLen; omega
          case c4 => omega
          case c5 => simp; omega
          intro v' w5 hown5 hgrow5 hv5
          have hbel5 : Below w.heap.size w w5 := (hbel.alloc hsz2 _).grown hgrow5 (by simp; omega) (fun j hj => (hown.lt j hj).1)
          obtain ⟨wa, wc, rfl, -⟩ := row_open hown5
          have HO5 := Lib.hid hown5
          have HB5 := Lib.hid hbel5
          clear hown5 hgrow5 hv5 hown hbel5 hbel
          go_wp2
          go_roundw
          case rel => exact ⟨1, rfl, Nat.le_refl _, (by unfold tcells; rw [List.replicate_succ']; exact HO5.out), HB5.out⟩
          case measure => simp [intOf]
        · obtain rfl : j = 1 := by omega
          obtain ⟨va, vc, rfl, -⟩ := row_open hown
          have HO5 := Lib.hid hown
          have HB5 := Lib.hid hbel
          clear hown hbel
          go_wp2
          go_roundw
          case rel => exact ⟨k + 1, by go_num, by omega, HO5.out, HB5.out⟩
          case measure => simp [intOf]; omega
    · obtain rfl : k = n := by omega
      have hcv := conv_rowT hown h0
      obtain ⟨va, vc, rfl, -⟩ := row_open hown
      have HB := Lib.hid hbel
      clear hown hbel
      go_wp2
      go_ret
      exact ⟨rfl, HB.out⟩
end Go.Proofs.YtfgpigblnkanpaaGreatDoor
