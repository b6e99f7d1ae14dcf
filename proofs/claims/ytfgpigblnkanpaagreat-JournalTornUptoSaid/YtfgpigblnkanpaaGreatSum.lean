/- The walks of the codec's table and sum, over this translation. -/
import Derived.Test.YtfgpigblnkanpaaGreatB
import Derived.Test.YtfgpigblnkanpaaGreatCrc
import Derived.Laws.Tables
namespace Go.Proofs.YtfgpigblnkanpaaGreat
open Go.RowKit

theorem Blk.row {w : World} {b : Nat} {xs ys : List Value} {t : TypeId} (h : Blk w b xs t) : Blk (w.setRow b ys.toArray) b ys t := setRow_heap w b _ _ t _ h
theorem below_row {B : Nat} {a w : World} (h : Below B a w) {g : Nat} (hg : B ≤ g) (cs : Array Value) : Below B a (w.setRow g cs) :=
  h.trans ⟨rfl, rfl, rfl, by simp [World.setRow], fun k hk => setRow_other _ _ _ _ (by omega)⟩
theorem info256 : (Tryz.prog.info? 75).map (·.size) = some 256 := by kernel_rfl
theorem info256_row {k : Nat} (hk : k ≤ 256) : (Tryz.prog.info? 75).map (·.size) = some (tabRow k).toArray.size := by
  rw [info256]; simp [tabRow_len hk]
theorem zero256 (w : World) : (zeroValue 75).run Tryz.prog w = .ok (.agg z256) w := by kernel_rfl

set_option maxRecDepth 100000 in
theorem table_any (w : World) : Calls Tryz.prog 39 #[] w fun e w' => e = .returned (.agg tabA) ∧ Below w.heap.size w w' := by
  have hz := zero256
  go_enter Tryz.func39, Tryz.ntmps39
  go_wp2
  go_loopw [3] (fun i wr => ∃ k : Nat, i = .int .i64 k ∧ k ≤ 256 ∧ Blk wr w.heap.size (tabRow k) 75 ∧ Below w.heap.size w wr) (fun i _ => 256 - (intOf i).toNat)
  case atStart => exact ⟨0, rfl, by omega, Blk.new _ _ _, (Below.refl _ _).alloc (Nat.le_refl _) _⟩
  case round =>
    obtain ⟨k, rfl, hk, hb, hbel⟩ := hrel
    by_cases hlt : k < 256
    · have hfr := hb.free k
      obtain ⟨v0, hv0⟩ := tabRow_get' (k := k) hlt hk
      have hcl : wr.cell? ⟨w.heap.size, k, none⟩ = some v0 := by rw [hb.cell]; exact hv0
      clear hv0
      go_wp2
      go_loop [2, 8] (fun c i => ∃ x j : Nat, c = .int .u32 x ∧ i = .int .i64 j ∧ j ≤ 8 ∧ Hid (x = crcN j k)) (fun _ i => 8 - (intOf i).toNat)
      case atStart => exact ⟨k, 0, rfl, rfl, by omega, rfl⟩
      case round =>
        obtain ⟨x, j, rfl, rfl, hj, hx⟩ := hrel
        by_cases hjlt : j < 8
        · have hxl : x < 4294967296 := by rw [hx.out]; exact crcN_lt j (by omega)
          go_wp2
          go_round
          case rel => exact ⟨crcBit x, j + 1, int_eq (crcBit_walk hxl), by go_num, by omega, by show _ = _; rw [hx.out, crcN_succ]⟩
          case measure => simp [intOf]; omega
        · go_wp2
          go_roundw
          case rel => exact ⟨k + 1, by go_num, by omega, by
            have := hb.set k (.int .u32 (crcN 8 k : Nat))
            rw [tabRow_set hlt] at this
            have e8 : j = 8 := by omega
            rw [hx.out, e8]
            exact this, hbel.setCell (Nat.le_refl _) _⟩
          case measure => simp [intOf]; omega
    · have hk6 : 256 = k := by omega
      subst hk6
      go_wp2_with (first | (refine wpList_load_row rfl 75 _ rfl w.heap.size rfl 75 tabA _ _ hb Tryz.underlying75 rfl (info256_row (Nat.le_refl _)) ?_) | (refine wpList_store_row rfl 75 _ _ rfl w.heap.size tabA rfl rfl 75 _ hb (info256_row (Nat.le_refl _)) rfl tabA_one ?_))
      refine bodyPost_ret (results_cell_row (P := Tryz.prog) rfl _ _ w.heap.size 75 tabA _ _ rfl (Blk.row hb) Tryz.underlying75 rfl (info256_row (Nat.le_refl _))) rfl ⟨rfl, below_row hbel (Nat.le_refl _) _⟩

set_option maxRecDepth 100000 in
theorem Sum_any (s : ByteArray) (w : World) (hs : s.size ≤ 9223372036854775807) : Calls Tryz.prog 23 #[.string s] w fun e w' => e = .returned (.int .u32 (crc s.data.toList : Nat)) ∧ Below w.heap.size w w' := by
  have hz := zero256
  go_enter Tryz.func23, Tryz.ntmps23
  go_wp2_with fail
  refine (table_any _).mono ?_
  rintro e w1 ⟨rfl, hb1⟩
  have hsz := hb1.size
  have hb : Blk (w1.alloc (.cells z256 75)) w1.heap.size (tabRow 0) 75 := Blk.new w1 (tabRow 0) 75
  go_wp2_with (refine wpList_store_row rfl 75 _ _ rfl w1.heap.size tabA rfl rfl 75 _ hb (info256_row (Nat.le_refl _)) rfl tabA_one ?_)
  have hb2 := Blk.row (ys := tabRow 256) hb
  have hbel2 := below_row ((hb1.trans ((Below.refl w.heap.size w1).alloc hb1.size (.cells z256 75)))) hb1.size (g := w1.heap.size) tabA
  change Blk (World.setRow _ _ tabA) _ _ _ at hb2
  generalize World.setRow _ _ tabA = w2 at *
  clear hz hb
  go_loop [4, 9] (fun c i => ∃ x k : Nat, c = .int .u32 x ∧ i = .int .i64 k ∧ k ≤ s.size ∧ Hid (x = crcFold 4294967295 (s.data.toList.take k))) (fun _ i => s.size - (intOf i).toNat)
  case atStart => exact ⟨4294967295, 0, rfl, rfl, by omega, rfl⟩
  case round =>
    obtain ⟨x, k, rfl, rfl, hk, hx⟩ := hrel
    have hxl : x < 4294967296 := by rw [hx.out]; exact crcFold_lt _ (by omega)
    by_cases hlt : k < s.size
    · obtain ⟨b, HB⟩ : ∃ b : UInt8, Hid (b = s[k]) := ⟨s[k], (rfl : s[k] = s[k])⟩
      have hb256 : b.toNat < 256 := b.toNat_lt
      have hix : ∀ w', (Instr.index 9 (.string s) (.int .i64 ↑k)).run Tryz.prog w' = .ok (.int .u8 b.toNat) w' := by
        intro w'
        rw [HB.out]
        exact run_index_at w' _ s _ _ Tryz.underlying9 hlt rfl
      obtain ⟨y, hy⟩ : ∃ y : Nat, Hid (y = (x % 256) ^^^ b.toNat) := ⟨_, rfl⟩
      have hy256 : y < 256 := by
        rw [hy.out]; exact Nat.xor_lt_two_pow (n := 8) (by omega) (by omega)
      have hxr : bits .xor .u8 ((x : Int) % 256) b.toNat = (y : Int) := by
        rw [hy.out, ← u8_xor_nat _ _ (by omega) hb256]; rfl
      have hcl := hb2.cell y
      rw [tabRow_get hy256] at hcl
      have hst := crcStep_walk (b := b) hxl
      rw [← hy.out] at hst
      have HST := Lib.hid hst
      have HBX := Lib.hid hb2
      clear hst hb2
      go_wp2
      go_round
      case rel => exact ⟨crcStep x b, k + 1, int_eq HST.out, by go_num, by omega, by
        show _ = _
        rw [List.take_succ_eq_append_getElem (by simpa using hlt), crcFold, List.foldl_append, hx.out, HB.out]; rfl⟩
      case measure => simp [intOf]; omega
    · have e : s.size = k := by omega
      have HE := Lib.hid e
      clear e
      go_wp2
      go_ret
      refine ⟨congrArg Ending.returned (int_eq ((not_walk hxl).trans ?_)), hbel2⟩
      have e2 : s.data.toList.take s.size = s.data.toList := List.take_of_length_le (Nat.le_of_eq Array.length_toList)
      rw [hx.out, ← HE.out, e2]
      rfl
end Go.Proofs.YtfgpigblnkanpaaGreat
