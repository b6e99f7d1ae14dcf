/- The walk of the statement CodecOnce. -/
import Derived.Test.YtifdibkpaeocfaaGreatDoorWorks
import Derived.Test.YtifdibkpaeocfaaGreatDoorRound
namespace Go.Proofs.YtifdibkpaeocfaaGreatDoor
open Go.RowKit

theorem sizeL_mem {l : List PairL} {p : PairL} (h : p ∈ l) : p.1.length + p.2.length ≤ sizeL l := by
  induction l with
  | nil => simp at h
  | cons q l ih =>
    rw [sizeL]
    rcases List.mem_cons.1 h with rfl | h
    · omega
    · have := ih h; omega
theorem PairsOk.of {l : List PairL} (h : sizeL l ≤ 268435456) : PairsOk l := fun p hp => by
  have := sizeL_mem hp
  omega
theorem Unpack_split (l : List UInt8) : (∃ no, no ≠ 0 ∧ unpackL l = ([], no)) ∨ ∃ r out, unpackL l = (r, 0) ∧ packGo 0 [] (uintL r.length) r = .inl out ∧ l = out ++ crcTail out ∧ sizeL r ≤ 268435456 ∧ r.length ≤ l.length := by
  by_cases h : (unpackL l).2 = 0
  · right
    have e : unpackL l = ((unpackL l).1, 0) := by rw [← h]
    obtain ⟨out, h1, h2, h3⟩ := pack_unpack e
    refine ⟨_, out, e, h1, h2, h3, ?_⟩
    have := packGo_len h1
    have h4 := congrArg List.length h2
    rw [List.length_append] at h4
    omega
  · left
    exact ⟨(unpackL l).2, h, by rw [← unpackL_bad h]⟩

set_option maxHeartbeats 2000000 in
set_option maxRecDepth 100000 in
theorem CodecOnce_any (l : List UInt8) (w : World) (hl : l.length ≤ 9223372036854775807) : Calls Tryz.prog 32 #[.string (str l)] w fun e w' => e = .returned (.bool true) ∧ Below w.heap.size w w' := by
  have e1 := str_size l
  by_cases hbig : 16384 < l.length
  · go_enter Tryz.func32, Tryz.ntmps32
    go_wp2
    go_ret
    exact ⟨rfl, Below.refl _ _⟩
  · rcases Unpack_split l with ⟨no, hno, hu⟩ | ⟨r, out, hu, hp, hlo, hs, hrl⟩
    · have HU := Lib.hid hu
      clear hu
      go_enter Tryz.func32, Tryz.ntmps32
      go_wp2_with (fail)
      refine (Unpack_any l _ (by omega)).mono ?_
      rintro e w1 ⟨v, rfl, _, hb1, hnil⟩
      rw [HU.out] at hnil ⊢
      obtain rfl := hnil rfl
      rw [show errV (([] : List PairL), no).2 = .iface 90 (.int .i64 no) from errV_some hno]
      clear hno
      go_wp2_with (fail)
      refine (works_any _).mono ?_
      rintro e w2 ⟨rfl, hb2⟩
      go_wp2
      go_ret
      exact ⟨rfl, hb1.trans (hb2.mono hb1.size)⟩
    · have ha : packAns r = .tuple #[strV l, .nilIface] := by rw [packAns_out hs hp, ← hlo]
      have HA := Lib.hid ha
      have HU := Lib.hid hu
      have HP := Lib.hid hp
      have HL := Lib.hid hlo
      have heq : ((str l).toList == (str l).toList) = true := by simp
      clear ha hu hp hlo
      go_enter Tryz.func32, Tryz.ntmps32
      go_wp2_with (fail)
      refine (Unpack_any l _ (by omega)).mono ?_
      rintro e w1 ⟨v, rfl, hv, hb1, _⟩
      rw [HU.out] at hv ⊢
      rw [show errV (r, 0).2 = .nilIface from rfl]
      have HV := Lib.hid (PairsAt.own hv)
      clear hv
      go_wp2_with (fail)
      refine (Pack_any r v _ HV.out (PairsOk.of hs) (by omega)).mono ?_
      rintro e w2 ⟨rfl, hb2⟩
      rw [HA.out]
      go_wp2_with (fail)
      refine (works_any _).mono ?_
      rintro e w3 ⟨rfl, hb3⟩
      go_wp2
      go_ret
      have hb12 := hb1.trans (hb2.mono hb1.size)
      exact ⟨rfl, hb12.trans (hb3.mono hb12.size)⟩
end Go.Proofs.YtifdibkpaeocfaaGreatDoor
