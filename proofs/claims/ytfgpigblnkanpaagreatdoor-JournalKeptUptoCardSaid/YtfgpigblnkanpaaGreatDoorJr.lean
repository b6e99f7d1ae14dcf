/- The walks of the statements' helpers on journals: frame, told, works, few. -/
import Derived.Test.YtfgpigblnkanpaaGreatDoorJq
import Derived.Test.YtfgpigblnkanpaaGreatDoorGP
namespace Go.Proofs.YtfgpigblnkanpaaGreatDoor
open Go.RowKit Go.Maps Go.Shelf
set_option linter.unusedVariables false

set_option maxHeartbeats 1000000 in
set_option maxRecDepth 100000 in
theorem lframe_any (r : List UInt8) (w : World) (hr : r.length ≤ 140737488351232) : Calls Tryz.prog 98 #[strV r] w fun e w' => e = .returned (strV (jframe r)) ∧ Below w.heap.size w w' := by
  have hU := Uint_any (r.length + 1) w (by show _ < _; omega)
  rw [show ((r.length + 1 : Nat) : Int) = (r.length : Int) + 1 from by omega] at hU
  have hsz := str_size r
  have hul := uintL_len (n := r.length + 1) (by omega)
  have hS := fun W => Sum_any (str (uintL (r.length + 1)) ++ str r) W (by rw [str_append, str_size, List.length_append]; omega)
  rw [str_append] at hS
  have hS2 : ∀ W, Calls Tryz.prog 133 #[.string (str (uintL (r.length + 1) ++ r))] W fun e w' => e = .returned (.int .u32 (crc (uintL (r.length + 1) ++ r) : Nat)) ∧ Below W.heap.size W w' := fun W => by
    have := hS W
    rw [show (str (uintL (r.length + 1) ++ r)).data.toList = uintL (r.length + 1) ++ r from rfl] at this
    exact this
  have HU := Lib.hid hU
  have HS := Lib.hid hS2
  have hsz1 := str_size (uintL (r.length + 1))
  have happ := str_append (uintL (r.length + 1)) r
  clear hU hS hS2
  generalize hu : uintL (r.length + 1) = u at *
  have HUE := Lib.hid hu
  clear hu
  go_enter Tryz.func98, Tryz.ntmps98
  go_wp2_with (fail)
  refine HU.out.mono ?_
  rintro e w1 ⟨rfl, hb1⟩
  have HB1 := Lib.hid hb1
  clear hb1
  go_wp2_with (fail)
  refine (HS.out w1).mono ?_
  rintro e w2 ⟨rfl, hb2⟩
  have HB2 := Lib.hid (HB1.out.trans (hb2.mono HB1.out.size))
  clear hb2
  have hcv : ∀ c, c = crc (u ++ r) → (convert 140 9 (.slice (some ⟨w2.heap.size, 0, none⟩) 4 4)).run Tryz.prog (w2.alloc (.cells #[Value.int .u8 ((c : Int) % 256), Value.int .u8 ((c : Int) / 256 % 256), Value.int .u8 ((c : Int) / 65536 % 256), Value.int .u8 ((c : Int) / 16777216 % 256)] 5)) = .ok (strV (crcTail (u ++ r))) (w2.alloc (.cells #[Value.int .u8 ((c : Int) % 256), Value.int .u8 ((c : Int) / 256 % 256), Value.int .u8 ((c : Int) / 65536 % 256), Value.int .u8 ((c : Int) / 16777216 % 256)] 5)) := by
    intro c hc
    refine conv_bytes (Blk.new w2 [_, _, _, _] 5) Tryz.underlying140 Tryz.underlying5 Tryz.underlying9 (crcTail (u ++ r)) [] 4 4 rfl ?_
    rw [four_cells, crcTail, hc, List.append_nil]
  generalize hcc : crc (u ++ r) = c at ⊢
  have hcv := hcv c hcc.symm
  have HCC := Lib.hid hcc
  clear hcc
  generalize htl : crcTail (u ++ r) = tl at *
  have happ2 := str_append u tl
  have happ3 := str_append (u ++ tl) r
  have htlen : tl.length = 4 := by rw [← htl]; rfl
  have hsz2 := str_size tl
  have hsz3 := str_size (u ++ tl)
  have hlen3 : (u ++ tl).length = u.length + tl.length := List.length_append
  have HTL := Lib.hid htl
  clear htl happ
  go_wp2
  go_ret
  have hfr : Value.string (str (u ++ (tl ++ r))) = strV (jframe r) := by
    unfold jframe
    rw [HUE.out, HTL.out]
  exact ⟨congrArg Ending.returned hfr, HB2.out.alloc HB2.out.size _⟩
set_option maxHeartbeats 4000000 in
set_option maxRecDepth 100000 in
theorem told_any {w0 w : World} {K A : List Nat} {g : Nat} {d : Dk} {N : Nat} {nm : Nm} (h : Mine w0 w K A g d N) (hl : 1 ≤ nm.length ∧ nm.length ≤ 199) (hN : N + 10 < 4294967296) {d' : Dk} {l : List (List UInt8)} (hR : jstart d nm = ⟨d', l, 0⟩) (hRl : l.length ≤ 4294967296) :
    Calls Tryz.prog 97 #[.pointer (some ⟨g, 0, none⟩), strV nm] w fun e w' => ∃ jb v A', e = .returned (.tuple #[.pointer (some ⟨jb, 0, none⟩), v, .bool true]) ∧ Jl w0 w' (v.ownBlock.toList ++ K) A' jb g d' (N + 10) nm l.length false ∧ (∀ k ∈ K, w'.heap[k]? = w.heap[k]?) ∧ TextsAt w' v l ∧ w.heap.size ≤ jb ∧ CapOk v := by
  have HO := Lib.hid (jOpen_any h hl hN h.hd.bd.small hR hRl)
  clear h hR
  go_enter Tryz.func97, Tryz.ntmps97
  go_wp2_with (fail)
  refine HO.out.mono ?_
  rintro e w1 (⟨hz, -⟩ | ⟨-, jb, v, A1, rfl, h1, hk1, ht1, hjb⟩)
  · exact absurd rfl hz
  · obtain ⟨va, vc, rfl, -⟩ := ht1.shape
    simp only [List.length_map] at h1 ht1 hjb ⊢
    have H1 := Lib.hid h1
    have HK := Lib.hid hk1
    have HT := Lib.hid ht1
    clear h1 hk1 ht1
    go_wp2_with (fail)
    go_ret3
    exact ⟨_, _, A1, rfl, H1.out, HK.out, HT.out, hjb⟩
theorem Lone.frames {d : Dk} {nm : Nm} {l : List (List UInt8)} {R : Nat} (h : Lone d nm (jframes l) R) (hl : ∀ r ∈ l, r.length ≤ 16777216) (hn : 1 ≤ nm.length ∧ nm.length ≤ 199) (hs : (jframes l).length + (jframes l).length ≤ R) : ∃ d', jstart d nm = ⟨d', l, 0⟩ ∧ Lone d' nm (jframes l) R := by
  have e := jbegin_all hl
  obtain ⟨d', h1, h2⟩ := jstart_lone h hn (by rw [e]; exact hs)
  rw [e] at h1 h2
  rw [List.take_length] at h2
  exact ⟨d', h1, h2⟩
set_option maxHeartbeats 8000000 in
set_option maxRecDepth 100000 in
theorem works23_any (w : World) : Calls Tryz.prog 49 #[] w fun e w' => e = .returned (.bool true) ∧ Below w.heap.size w w' := by
  have hab : ∀ r ∈ ([[97, 98]] : List (List UInt8)), r.length ≤ 16777216 := fun r hr => by simp at hr; subst hr; simp
  obtain ⟨d1, e1, l1⟩ := jstart_new 100 (by omega) (nm := [106]) (by simp)
  have hf : (jframe [97, 98]).length ≤ 16 := jframe_le [97, 98] (by simp)
  obtain ⟨d2, e2, l2⟩ := jappend_lone (n := 0) l1 (r := [97, 98]) (by simp) (by simp; omega)
  rw [show ([] : List UInt8) ++ jframe [97, 98] = jframes [[97, 98]] from by simp [jframes]] at l2
  obtain ⟨d3, e3, l3⟩ := l2.frames hab (by simp) (by simp [jframes]; omega)
  have E1 := Lib.hid e1
  have E2 := Lib.hid e2
  have E3 := Lib.hid e3
  clear e1 e2 e3 l1 l2 l3 hf hab
  go_enter Tryz.func49, Tryz.ntmps49
  go_wp2_with (fail)
  refine (New_m w w (Below.refl _ _) [] (fun k hk => by cases hk) 100).mono ?_
  rintro e w1 ⟨g, A1, rfl, h1, hb1⟩
  have HO := Lib.hid (jOpen_any h1 (nm := [106]) (by simp) (by omega) h1.hd.bd.small E1.out (by simp))
  clear h1 hb1
  go_wp2_with (fail)
  refine HO.out.mono ?_
  rintro e w2 (⟨hz, -⟩ | ⟨-, jb, v, A2, rfl, h2, hk2, ht2, hjb⟩)
  · exact absurd rfl hz
  obtain ⟨va, vc, rfl, -⟩ := ht2.shape
  simp only [List.length_map, List.length_nil] at h2 ht2 ⊢
  have HA := Lib.hid (jAppend_any h2 [97, 98] (by omega) (by simp) (by omega))
  rw [E2.out] at HA
  simp only at HA
  clear hk2 ht2 h2 HO
  go_wp2_with (fail)
  refine HA.out.mono ?_
  rintro e w3 ⟨rfl, ⟨A3, h3⟩, hk3⟩
  rw [errV_none]
  have HO := Lib.hid (jOpen_any h3.m (nm := [106]) (by simp) (by omega) h3.m.hd.bd.small E3.out (by simp))
  have H3 := Lib.hid h3.j
  clear h3 hk3 HA
  go_wp2_with (fail)
  refine HO.out.mono ?_
  rintro e w4 (⟨hz, -⟩ | ⟨-, jb2, v, A4, rfl, h4, hk4, ht4, hjb4⟩)
  · exact absurd rfl hz
  have h5 := H3.out.same (hk4 jb (by simp))
  have c2 := h5.cell 2
  simp only [List.getElem?_cons_zero, List.getElem?_cons_succ] at c2
  have c3 := h4.cells.2.2.1
  have c2' : w4.cell? ⟨jb, 2, none⟩ = some (.int .i64 1) := by simpa using c2
  have c3' : w4.cell? ⟨jb2, 2, none⟩ = some (.int .i64 1) := by simpa using c3
  have HL1 := Lib.hid (jLen_at c2')
  have HL2 := Lib.hid (jLen_at c3')
  obtain ⟨va2, vc2, rfl, hx2⟩ := ht4.shape
  obtain ⟨b, off, rfl, hcr, -⟩ := hx2 0 (strV [97, 98]) rfl
  rw [Nat.add_zero] at hcr
  simp only [List.length_map, List.length_cons, List.length_nil, Nat.zero_add] at *
  have hq : (str [97, 98]).toList = [97, 98] := toList_str _
  have HB := Lib.hid h4.m.bel
  clear h4 hk4 ht4 hx2 h5 HO H3 c2 c3 c2' c3'
  go_wp2_with (fail)
  refine HL1.out.mono ?_
  rintro e w5 ⟨rfl, rfl⟩
  go_wp2_with (fail)
  refine HL2.out.mono ?_
  rintro e w5 ⟨rfl, rfl⟩
  go_wp2
  go_ret
  exact ⟨rfl, HB.out⟩
end Go.Proofs.YtfgpigblnkanpaaGreatDoor
