/- The walks of the codec's table and sum, over this translation. errors.As at a Fault: the target gets it. The walk of the statements' Num, at the errors of package api. The walks of the statements' Plain, Place and At, at the errors of package api. -/
import Derived.Test.YtfgpigblnkanpaaGreatDoorB
import Derived.Test.YtfgpigblnkanpaaGreatDoorGC
import Derived.Laws.Tables
import Derived.Test.YtfgpigblnkanpaaGreatDoorHB
import Derived.BigQuiet
import Derived.Deep.RegionHeld3
namespace Go.Proofs.YtfgpigblnkanpaaGreatDoor
open Go.RowKit

theorem Blk.row {w : World} {b : Nat} {xs ys : List Value} {t : TypeId} (h : Blk w b xs t) : Blk (w.setRow b ys.toArray) b ys t := setRow_heap w b _ _ t _ h
theorem below_row {B : Nat} {a w : World} (h : Below B a w) {g : Nat} (hg : B ≤ g) (cs : Array Value) : Below B a (w.setRow g cs) :=
  h.trans ⟨rfl, rfl, rfl, by simp [World.setRow], fun k hk => setRow_other _ _ _ _ (by omega)⟩
theorem info256 : (Tryz.prog.info? 221).map (·.size) = some 256 := by kernel_rfl
theorem info256_row {k : Nat} (hk : k ≤ 256) : (Tryz.prog.info? 221).map (·.size) = some (tabRow k).toArray.size := by
  rw [info256]; simp [tabRow_len hk]
theorem zero256 (w : World) : (zeroValue 221).run Tryz.prog w = .ok (.agg z256) w := by kernel_rfl

set_option maxRecDepth 100000 in
theorem table_any (w : World) : Calls Tryz.prog 156 #[] w fun e w' => e = .returned (.agg tabA) ∧ Below w.heap.size w w' := by
  have hz := zero256
  go_enter Tryz.func156, Tryz.ntmps156
  go_wp2
  go_loopw [3] (fun i wr => ∃ k : Nat, i = .int .i64 k ∧ k ≤ 256 ∧ Blk wr w.heap.size (tabRow k) 221 ∧ Below w.heap.size w wr) (fun i _ => 256 - (intOf i).toNat)
  case atStart => exact ⟨0, rfl, by omega, Blk.new _ _ _, (Below.refl _ _).alloc (Nat.le_refl _) _⟩
  case round =>
    obtain ⟨k, rfl, hk, hb, hbel⟩ := hrel
    by_cases hlt : k < 256
    · have hfr := hb.free k
      obtain ⟨v0, hv0⟩ := tabRow_get' (k := k) hlt hk
      have hcl : wr.cell? ⟨w.heap.size, k, none⟩ = some v0 := by rw [hb.cell]; exact hv0
      clear hv0
      go_wp2
      go_loop [2, 8] (fun c i => ∃ x j : Nat, c = .int .u32 x ∧ i = .int .i64 j ∧ j ≤ 8 ∧ Hid (x = crcN j k)) (fun _ i => 8 - (intOf i).toNat)
      case atStart => exact ⟨k, 0, rfl, rfl, by omega, rfl⟩
      case round =>
        obtain ⟨x, j, rfl, rfl, hj, hx⟩ := hrel
        by_cases hjlt : j < 8
        · have hxl : x < 4294967296 := by rw [hx.out]; exact crcN_lt j (by omega)
          go_wp2
          go_round
          case rel => exact ⟨crcBit x, j + 1, int_eq (crcBit_walk hxl), by go_num, by omega, by show _ = _; rw [hx.out, crcN_succ]⟩
          case measure => simp [intOf]; omega
        · go_wp2
          go_roundw
          case rel => exact ⟨k + 1, by go_num, by omega, by
            have := hb.set k (.int .u32 (crcN 8 k : Nat))
            rw [tabRow_set hlt] at this
            have e8 : j = 8 := by omega
            rw [hx.out, e8]
            exact this, hbel.setCell (Nat.le_refl _) _⟩
          case measure => simp [intOf]; omega
    · have hk6 : 256 = k := by omega
      subst hk6
      go_wp2_with (first | (refine wpList_load_row rfl 221 _ rfl w.heap.size rfl 221 tabA _ _ hb Tryz.underlying221 rfl (info256_row (Nat.le_refl _)) ?_) | (refine wpList_store_row rfl 221 _ _ rfl w.heap.size tabA rfl rfl 221 _ hb (info256_row (Nat.le_refl _)) rfl tabA_one ?_))
      refine bodyPost_ret (results_cell_row (P := Tryz.prog) rfl _ _ w.heap.size 221 tabA _ _ rfl (Blk.row hb) Tryz.underlying221 rfl (info256_row (Nat.le_refl _))) rfl ⟨rfl, below_row hbel (Nat.le_refl _) _⟩

set_option maxRecDepth 100000 in
theorem Sum_any (s : ByteArray) (w : World) (hs : s.size ≤ 9223372036854775807) : Calls Tryz.prog 133 #[.string s] w fun e w' => e = .returned (.int .u32 (crc s.data.toList : Nat)) ∧ Below w.heap.size w w' := by
  have hz := zero256
  go_enter Tryz.func133, Tryz.ntmps133
  go_wp2_with fail
  refine (table_any _).mono ?_
  rintro e w1 ⟨rfl, hb1⟩
  have hsz := hb1.size
  have hb : Blk (w1.alloc (.cells z256 221)) w1.heap.size (tabRow 0) 221 := Blk.new w1 (tabRow 0) 221
  go_wp2_with (refine wpList_store_row rfl 221 _ _ rfl w1.heap.size tabA rfl rfl 221 _ hb (info256_row (Nat.le_refl _)) rfl tabA_one ?_)
  have hb2 := Blk.row (ys := tabRow 256) hb
  have hbel2 := below_row ((hb1.trans ((Below.refl w.heap.size w1).alloc hb1.size (.cells z256 221)))) hb1.size (g := w1.heap.size) tabA
  change Blk (World.setRow _ _ tabA) _ _ _ at hb2
  generalize World.setRow _ _ tabA = w2 at *
  clear hz hb
  go_loop [4, 9] (fun c i => ∃ x k : Nat, c = .int .u32 x ∧ i = .int .i64 k ∧ k ≤ s.size ∧ Hid (x = crcFold 4294967295 (s.data.toList.take k))) (fun _ i => s.size - (intOf i).toNat)
  case atStart => exact ⟨4294967295, 0, rfl, rfl, by omega, rfl⟩
  case round =>
    obtain ⟨x, k, rfl, rfl, hk, hx⟩ := hrel
    have hxl : x < 4294967296 := by rw [hx.out]; exact crcFold_lt _ (by omega)
    by_cases hlt : k < s.size
    · obtain ⟨b, HB⟩ : ∃ b : UInt8, Hid (b = s[k]) := ⟨s[k], (rfl : s[k] = s[k])⟩
      have hb256 : b.toNat < 256 := b.toNat_lt
      have hix : ∀ w', (Instr.index 9 (.string s) (.int .i64 ↑k)).run Tryz.prog w' = .ok (.int .u8 b.toNat) w' := by
        intro w'
        rw [HB.out]
        exact run_index_at w' _ s _ _ Tryz.underlying9 hlt rfl
      obtain ⟨y, hy⟩ : ∃ y : Nat, Hid (y = (x % 256) ^^^ b.toNat) := ⟨_, rfl⟩
      have hy256 : y < 256 := by
        rw [hy.out]; exact Nat.xor_lt_two_pow (n := 8) (by omega) (by omega)
      have hxr : bits .xor .u8 ((x : Int) % 256) b.toNat = (y : Int) := by
        rw [hy.out, ← u8_xor_nat _ _ (by omega) hb256]; rfl
      have hcl := hb2.cell y
      rw [tabRow_get hy256] at hcl
      have hst := crcStep_walk (b := b) hxl
      rw [← hy.out] at hst
      have HST := Lib.hid hst
      have HBX := Lib.hid hb2
      clear hst hb2
      go_wp2
      go_round
      case rel => exact ⟨crcStep x b, k + 1, int_eq HST.out, by go_num, by omega, by
        show _ = _
        rw [List.take_succ_eq_append_getElem (by simpa using hlt), crcFold, List.foldl_append, hx.out, HB.out]; rfl⟩
      case measure => simp [intOf]; omega
    · have e : s.size = k := by omega
      have HE := Lib.hid e
      clear e
      go_wp2
      go_ret
      refine ⟨congrArg Ending.returned (int_eq ((not_walk hxl).trans ?_)), hbel2⟩
      have e2 : s.data.toList.take s.size = s.data.toList := List.take_of_length_le (Nat.le_of_eq Array.length_toList)
      rw [hx.out, ← HE.out, e2]
      rfl
end Go.Proofs.YtfgpigblnkanpaaGreatDoor

namespace Go.Proofs.YtfgpigblnkanpaaGreatDoor
open Go.RowKit Go.Extern.Stop Go.Stop Go.Extern

theorem asRls (v x : Value) : ReflectliteValue.set #[v, x] = (do
    let (some (dst, a, fl), some (src, b, _)) := (← ReflectliteValue.parts v, ← ReflectliteValue.parts x)
      | unsupported (.noEntry "extern/(internal/reflectlite.Value).Set.zeroValue")
    if fl / ReflectliteValue.flagAddr % 2 == 0 then unsupported (.noEntry "extern/(internal/reflectlite.Value).Set.unaddressable")
    let val ← loadVar src b
    if ← Rtype.directlyAssignable dst src then storeVar dst a val
    else if ← Rtype.implements dst src then
      if (← Rtype.kind src) == 20 then
        match val with
        | .nilIface => unsupported (.noEntry "extern/reflectlite: a nil value of one interface type handed on as a value of another")
        | _ => storeVar dst a val
      else storeVar dst a (.iface src val)
    else panicString ("reflectlite.Set: value of type " ++ (← Rtype.spelt src) ++ " is not assignable to type " ++ (← Rtype.spelt dst))
    pure (.tuple #[])) := rfl
theorem asPartsFa (a : Addr) (w : World) : (ReflectliteValue.parts (.agg #[.pointer (some ⟨2, 135, none⟩), .pointer (some a), .int .u64 409])).run Tryz.prog w = .ok (some (135, a, 409)) w := by kernel_rfl
theorem asPartsF (a : Addr) (w : World) : (ReflectliteValue.parts (.agg #[.pointer (some ⟨2, 135, none⟩), .pointer (some a), .int .u64 153])).run Tryz.prog w = .ok (some (135, a, 153)) w := by kernel_rfl
theorem asDirectF (w : World) : (Rtype.directlyAssignable 135 135).run Tryz.prog w = .ok true w := by kernel_rfl
theorem infoFault : (Tryz.prog.info? 135).map (·.size) = some 3 := by kernel_rfl
theorem asSetF (g h : Nat) (x y z : Int) (old : List Value) (W : World) (hb : Blk W h [.int .i64 x, .int .i64 y, .int .i64 z] 135) (ht : Blk W g old 135) (hl : old.length = 3) :
    (ReflectliteValue.set #[.agg #[.pointer (some ⟨2, 135, none⟩), .pointer (some ⟨g, 0, none⟩), .int .u64 409], .agg #[.pointer (some ⟨2, 135, none⟩), .pointer (some ⟨h, 0, none⟩), .int .u64 153]]).run Tryz.prog W
      = .ok (.tuple #[]) (W.setRow g #[.int .i64 x, .int .i64 y, .int .i64 z]) := by
  have hld := run_loadVar_row (P := Tryz.prog) W h 135 135 _ _ _ hb Tryz.underlying135 rfl infoFault
  have hst := run_storeVar_row (P := Tryz.prog) W g 135 135 old.toArray #[.int .i64 x, .int .i64 y, .int .i64 z] ht infoFault
  rw [asRls]
  simp only [Sem.run_bind, asPartsFa, asPartsF, Result.andThen]
  simp [ReflectliteValue.flagAddr, hld, Result.andThen, asDirectF, hst (by simpa using hl) (by simp [Value.oneCell'])]

set_option maxHeartbeats 4000000 in
set_option maxRecDepth 100000 in
theorem As_hit (x y z : Int) (g : Nat) (old : List Value) (w : World) (hg : ErrorLaid w) (ht : Blk w g old 135) (hl : old.length = 3) : Calls Tryz.prog 83 #[faultsV x y z, .iface 137 (.pointer (some ⟨g, 0, none⟩))] w fun e w' => e = .returned (.bool true) ∧ Blk w' g [.int .i64 x, .int .i64 y, .int .i64 z] 135 ∧ ∀ B, B ≤ g → Below B w w' := by
  have h11 := @run_callFunc_extern Tryz.prog 154 _ (ReflectliteValue.method (ReflectliteValue.valueError "reflectlite.Value.Elem" 0) ReflectliteValue.elem) Tryz.func154 (by kernel_rfl) (by kernel_rfl) (by kernel_rfl) (by kernel_rfl)
  have h12 := @run_callFunc_extern Tryz.prog 155 _ ReflectliteValue.set Tryz.func155 (by kernel_rfl) (by kernel_rfl) (by kernel_rfl) (by kernel_rfl)
  have h6 := @run_callFunc_extern Tryz.prog 129 _ (fun args => ReflectliteValue.unpack (args.getD 0 (.tuple #[]))) Tryz.func129 (by kernel_rfl) (by kernel_rfl) (by kernel_rfl) (by kernel_rfl)
  have h7 := @run_callFunc_extern Tryz.prog 130 _ (ReflectliteValue.methodAny (ReflectliteValue.valueError "reflectlite.Value.Type" 0) (fun t _ _ _ => ReflectliteType.toType t)) Tryz.func130 (by kernel_rfl) (by kernel_rfl) (by kernel_rfl) (by kernel_rfl)
  have h8 := @run_callFunc_extern Tryz.prog 131 _ (ReflectliteValue.method (ReflectliteValue.valueError "reflectlite.Value.IsNil" 0) ReflectliteValue.isNil) Tryz.func131 (by kernel_rfl) (by kernel_rfl) (by kernel_rfl) (by kernel_rfl)
  have h27 := @run_callFunc_extern Tryz.prog 207 _ (ReflectliteType.abiMethod fun t => do pure (.int .u8 (← Rtype.kind t))) Tryz.func207 (by kernel_rfl) (by kernel_rfl) (by kernel_rfl) (by kernel_rfl)
  have h37 := @run_callFunc_extern Tryz.prog 220 _ (ReflectliteType.method ReflectliteType.elem) Tryz.func220 (by kernel_rfl) (by kernel_rfl) (by kernel_rfl) (by kernel_rfl)
  have h38 := @run_callFunc_extern Tryz.prog 221 _ (ReflectliteType.relation "Implements" ReflectliteType.implements_) Tryz.func221 (by kernel_rfl) (by kernel_rfl) (by kernel_rfl) (by kernel_rfl)
  have h10 := @run_callFunc_extern Tryz.prog 127 _ ReflectliteType.typeOf Tryz.func127 (by kernel_rfl) (by kernel_rfl) (by kernel_rfl) (by kernel_rfl)
  have h35 := @run_callFunc_extern Tryz.prog 218 _ (ReflectliteType.relation "AssignableTo" ReflectliteType.assignableTo) Tryz.func218 (by kernel_rfl) (by kernel_rfl) (by kernel_rfl) (by kernel_rfl)
  have tO := asTypeOfF
  have mA := asMethodAssignableTo
  have aE := asAssignFF
  have f6 := asValueOfP
  have fF := asValueOfF
  have f7 := asTypeP
  have mK := asMethodKind
  have mE := asMethodElem
  have mI := asMethodImplements
  have kP := asKindP
  have kF := asKindF
  have eP := asElemP
  have iF := asImplementsF
  have hlt : 0 < w.heap.size := World.block_lt_of_cell? w _ hg
  have hgl := ht.lt
  have n8 := asIsNilP ⟨w.heap.size, 0, none⟩ ⟨g, 0, none⟩ ((w.alloc (.cells #[.pointer (some ⟨g, 0, none⟩)] 137)).alloc (.cells #[.pointer (some ⟨2, 137, none⟩), .pointer (some ⟨w.heap.size, 0, none⟩), .int .u64 150] 176)) (by simp)
  have hg2 : ((w.alloc (.cells #[.pointer (some ⟨g, 0, none⟩)] 137)).alloc (.cells #[.pointer (some ⟨2, 137, none⟩), .pointer (some ⟨w.heap.size, 0, none⟩), .int .u64 150] 176)).cell? ⟨0, 0, none⟩ = some (.iface 207 (.agg #[.pointer (some ⟨2, 33, none⟩)])) := by
    rw [World.cell?_alloc_lt _ _ ⟨0, 0, none⟩ (by simp), World.cell?_alloc_lt _ _ ⟨0, 0, none⟩ hlt]; exact hg
  obtain ⟨W1, hW1⟩ : ∃ W1, W1 = w.alloc (.cells #[.pointer (some ⟨g, 0, none⟩)] 137) := ⟨_, rfl⟩
  have hrow1 : Blk W1 g old 135 := hW1 ▸ ht.alloc _
  have hrow2 := (hrow1.alloc (.cells #[.pointer (some ⟨2, 137, none⟩), .pointer (some ⟨w.heap.size, 0, none⟩), .int .u64 150] 176)).alloc (.cells #[.pointer (some ⟨2, 137, none⟩), .pointer (some ⟨w.heap.size, 0, none⟩), .int .u64 150] 176)
  have hptr : ((W1.alloc (.cells #[.pointer (some ⟨2, 137, none⟩), .pointer (some ⟨w.heap.size, 0, none⟩), .int .u64 150] 176)).alloc (.cells #[.pointer (some ⟨2, 137, none⟩), .pointer (some ⟨w.heap.size, 0, none⟩), .int .u64 150] 176)).cell? ⟨w.heap.size, 0, none⟩ = some (.pointer (some ⟨g, 0, none⟩)) := by
    have hb : Blk W1 w.heap.size [.pointer (some ⟨g, 0, none⟩)] 137 := hW1 ▸ Blk.new w _ _
    exact ((hb.alloc _).alloc _).cell 0
  have el := asElemVP ⟨w.heap.size, 0, none⟩ ⟨g, 0, none⟩ _ hptr
  have hsz : W1.heap.size = w.heap.size + 1 := by rw [hW1]; simp
  have st := asSetF g (w.heap.size + 1 + 1 + 1) x y z old (((W1.alloc (.cells #[.pointer (some ⟨2, 137, none⟩), .pointer (some ⟨w.heap.size, 0, none⟩), .int .u64 150] 176)).alloc (.cells #[.pointer (some ⟨2, 137, none⟩), .pointer (some ⟨w.heap.size, 0, none⟩), .int .u64 150] 176)).alloc (.cells #[.int .i64 x, .int .i64 y, .int .i64 z] 135)) (by
    have hn := Blk.new ((W1.alloc (.cells #[.pointer (some ⟨2, 137, none⟩), .pointer (some ⟨w.heap.size, 0, none⟩), .int .u64 150] 176)).alloc (.cells #[.pointer (some ⟨2, 137, none⟩), .pointer (some ⟨w.heap.size, 0, none⟩), .int .u64 150] 176)) [.int .i64 x, .int .i64 y, .int .i64 z] 135
    have e : ((W1.alloc (.cells #[.pointer (some ⟨2, 137, none⟩), .pointer (some ⟨w.heap.size, 0, none⟩), .int .u64 150] 176)).alloc (.cells #[.pointer (some ⟨2, 137, none⟩), .pointer (some ⟨w.heap.size, 0, none⟩), .int .u64 150] 176)).heap.size = w.heap.size + 1 + 1 + 1 := by simp [hsz]
    rw [e] at hn
    exact hn) (hrow2.alloc _) hl
  have HR := Lib.hid (hrow2.alloc (.cells #[.int .i64 x, .int .i64 y, .int .i64 z] 135))
  have HB : Hid (∀ B, B ≤ g → Below B w (((W1.alloc (.cells #[.pointer (some ⟨2, 137, none⟩), .pointer (some ⟨w.heap.size, 0, none⟩), .int .u64 150] 176)).alloc (.cells #[.pointer (some ⟨2, 137, none⟩), .pointer (some ⟨w.heap.size, 0, none⟩), .int .u64 150] 176)).alloc (.cells #[.int .i64 x, .int .i64 y, .int .i64 z] 135))) := fun B hB => by
    have h1 : Below B w W1 := hW1 ▸ (Below.refl B w).alloc (by omega) _
    exact ((h1.alloc (by omega) _).alloc (by simp; omega) _).alloc (by simp; omega) _
  subst hW1
  clear hrow1 hrow2 hptr hsz
  unfold faultsV
  go_enter Tryz.func83, Tryz.ntmps83
  go_wp2
  refine wp_loop_rounds 1 ?_
  rw [rounds_succ]
  go_wp2
  go_ret
  exact ⟨rfl, Blk.row HR.out, fun B hB => below_row (HB.out B hB) hB _⟩
end Go.Proofs.YtfgpigblnkanpaaGreatDoor

namespace Go.Proofs.YtfgpigblnkanpaaGreatDoor
open Go.RowKit

set_option maxHeartbeats 1000000 in
set_option maxRecDepth 100000 in
theorem Num_any (no : Nat) (v : Value) (w : World) (h1 : 1 ≤ no) (h2 : no ≤ 25) (hv : ∃ t x, v = .iface t x) (hIs : Hid (∀ (n : Int) w, Calls Tryz.prog 82 #[v, .iface 102 (.int .i64 n)] w fun e w' => e = .returned (.bool ((no : Int) == n)) ∧ Below w.heap.size w w')) : Calls Tryz.prog 27 #[v] w fun e w' => e = .returned (.int .i64 no) ∧ Below w.heap.size w w' := by
  obtain ⟨t, x, rfl⟩ := hv
  go_enter Tryz.func27, Tryz.ntmps27
  go_wp2
  go_loopw [3, 4] (fun fv nv wr => ∃ n : Nat, nv = .int .i64 n ∧ 1 ≤ n ∧ n ≤ 26 ∧ fv = .int .i64 (if no < n then no else 0 : Nat) ∧ Below w.heap.size w wr) (fun _ nv _ => 26 - (intOf nv).toNat)
  case atStart => exact ⟨1, rfl, by omega, by omega, by rw [if_neg (by omega)]; rfl, Below.refl _ _⟩
  case round =>
    obtain ⟨n, rfl, hn1, hn2, rfl, hbel⟩ := hrel
    have hbs := hbel.size
    by_cases hlt : n ≤ 25
    · by_cases he : no = n
      · rw [if_neg (by omega)]
        have hb : (((no : Nat) : Int) == (n : Int)) = true := by rw [he]; simp
        have HE := Lib.hid he
        clear he
        go_wp2_with (fail)
        refine (hIs.out _ _).mono ?_
        rintro e w1 ⟨rfl, hb1⟩
        go_wp2
        go_roundw
        case rel => exact ⟨n + 1, by go_num, by omega, by omega, by have := HE.out; rw [if_pos (by omega)]; exact int_eq (by omega), hbel.trans (hb1.mono hbs)⟩
        case measure => simp [intOf]; omega
      · have hb : (((no : Nat) : Int) == (n : Int)) = false := by simp; omega
        have HE := Lib.hid he
        clear he
        obtain ⟨q, hq⟩ : ∃ q, Hid (q = if no < n then no else 0) := ⟨_, rfl⟩
        rw [← hq.out]
        go_wp2_with (fail)
        refine (hIs.out _ _).mono ?_
        rintro e w1 ⟨rfl, hb1⟩
        go_wp2
        go_roundw
        case rel => exact ⟨n + 1, by go_num, by omega, by omega, by
          have := HE.out
          rw [hq.out]
          by_cases h : no < n
          · rw [if_pos h, if_pos (by omega)]
          · rw [if_neg h, if_neg (by omega)], hbel.trans (hb1.mono hbs)⟩
        case measure => simp [intOf]; omega
    · rw [if_pos (by omega)]
      have hb : (((no : Nat) : Int) == (0 : Int)) = false := by simp; omega
      go_wp2_with (fail)
      refine (hIs.out _ _).mono ?_
      rintro e w1 ⟨rfl, hb1⟩
      go_wp2
      go_ret
      exact ⟨rfl, hbel.trans (hb1.mono hbs)⟩

theorem Num_errno (no : Nat) (w : World) (h1 : 1 ≤ no) (h2 : no ≤ 25) : Calls Tryz.prog 27 #[errV no] w fun e w' => e = .returned (.int .i64 no) ∧ Below w.heap.size w w' := by
  rw [errV_some (by omega)]
  exact Num_any no _ w h1 h2 ⟨_, _, rfl⟩ fun n w => (Is_errno no n w).mono fun e w' ⟨he, hw⟩ => ⟨he, hw ▸ Below.refl _ _⟩
theorem Num_fault (no : Nat) (line at_ : Int) (w : World) (h1 : 1 ≤ no) (h2 : no ≤ 25) : Calls Tryz.prog 27 #[faultsV no line at_] w fun e w' => e = .returned (.int .i64 no) ∧ Below w.heap.size w w' :=
  Num_any no _ w h1 h2 ⟨_, _, rfl⟩ fun n w => Is_fault no line at_ n w
set_option maxRecDepth 100000 in
theorem Num_nil (w : World) : Calls Tryz.prog 27 #[.nilIface] w fun e w' => e = .returned (.int .i64 0) ∧ Below w.heap.size w w' := by
  go_enter Tryz.func27, Tryz.ntmps27
  go_wp2
  go_ret
  exact ⟨rfl, Below.refl _ _⟩
end Go.Proofs.YtfgpigblnkanpaaGreatDoor

namespace Go.Proofs.YtfgpigblnkanpaaGreatDoor
open Go.RowKit

set_option maxHeartbeats 1000000 in
set_option maxRecDepth 100000 in
theorem Plain_same (no : Nat) (w : World) (h : no ≤ 25) (hg : ErrorLaid w) : Calls Tryz.prog 28 #[errV no, .int .i64 no] w fun e w' => e = .returned (.bool true) ∧ Below w.heap.size w w' := by
  by_cases h0 : no = 0
  · subst h0
    rw [errV_none]
    go_enter Tryz.func28, Tryz.ntmps28
    go_wp2_with (fail)
    refine (Num_nil _).mono ?_
    rintro e w1 ⟨rfl, hb1⟩
    go_wp2
    go_ret
    exact ⟨rfl, ((Below.refl _ w).alloc (Nat.le_refl _) _).trans (hb1.mono (by simp))⟩
  · have hnum := fun w => Num_errno no w (by omega) h
    rw [errV_some h0] at hnum ⊢
    have HN := Lib.hid hnum
    clear hnum
    have hB0 := (Below.refl w.heap.size w).alloc (Nat.le_refl _) (.cells #[.int .i64 0, .int .i64 0, .int .i64 0] 135)
    have hg1 := hg.below hB0
    go_enter Tryz.func28, Tryz.ntmps28
    go_wp2_with (fail)
    refine (HN.out _).mono ?_
    rintro e w1 ⟨rfl, hb1⟩
    have hB := hB0.trans (hb1.mono (by simp))
    have hg2 := hg.below hB
    go_wp2_with (fail)
    refine (As_miss _ _ _ hg2).mono ?_
    rintro e w2 ⟨rfl, hb2⟩
    go_wp2
    go_ret
    exact ⟨rfl, hB.trans (hb2.mono hB.size)⟩
end Go.Proofs.YtfgpigblnkanpaaGreatDoor
