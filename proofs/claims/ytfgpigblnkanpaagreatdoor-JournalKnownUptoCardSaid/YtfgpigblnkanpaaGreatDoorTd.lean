/- The walk of long: a closed helper of the statement JournalKnown. -/
import Derived.Test.YtfgpigblnkanpaaGreatDoorTc
namespace Go.Proofs.YtfgpigblnkanpaaGreatDoor
open Go.RowKit Go.Maps Go.Shelf
set_option linter.unusedVariables false
set_option linter.unusedSimpArgs false

theorem drefused_darm (d : Dk) (m : Int) (l : List Int) (o : Od) : drefused (darm d m l) o = drefused d o := by cases o <;> rfl
theorem ddo_struck {d : Dk} {o : Od} (h : (ddo d o).2 = 0) (l : List Int) : (ddo (darm d 1 l) o).2 = 20 := by
  unfold ddo at h
  split at h
  · cases h
  · rename_i h1
    split at h
    · rename_i h2; exact absurd h h2
    · rename_i h2
      unfold ddo
      rw [if_neg (show ¬ (darm d 1 l).off = true from h1), drefused_darm, if_neg h2, if_pos (show (darm d 1 l).armed = 1 from rfl)]
theorem jappend_struck {d : Dk} {nm : Nm} {n : Nat} {r : Nm} (hr : r.length ≤ 16777216) (h : (ddo d (.write nm (jframe r))).2 = 0) (l : List Int) : ∃ d', jappend (darm d 1 l) nm n false r = ⟨d', 20, true, n⟩ := by
  have h20 := ddo_struck h l
  unfold jappend
  rw [if_neg (by simp), if_neg (by omega), h20, if_neg (by omega), if_pos (by omega)]
  exact ⟨_, rfl⟩
theorem jappend_many {d : Dk} {nm : Nm} {n : Nat} {r : Nm} (hr : 16777216 < r.length) : jappend d nm n false r = ⟨d, 5, false, n⟩ := by
  unfold jappend
  rw [if_neg (by simp), if_pos hr]
/-- told, and what it tells lies in memory of its own. -/
theorem told_own {w0 w : World} {K A : List Nat} {g : Nat} {d : Dk} {N : Nat} {nm : Nm} (h : Mine w0 w K A g d N) (hl : 1 ≤ nm.length ∧ nm.length ≤ 199) (hN : N + 10 < 4294967296) {d' : Dk} {l : List (List UInt8)} (hR : jstart d nm = ⟨d', l, 0⟩) (hRl : l.length ≤ 4294967296) :
    Calls Tryz.prog 97 #[.pointer (some ⟨g, 0, none⟩), strV nm] w fun e w' => ∃ jb v A', e = .returned (.tuple #[.pointer (some ⟨jb, 0, none⟩), v, .bool true]) ∧ Jl w0 w' (v.ownBlock.toList ++ K) A' jb g d' (N + 10) nm l.length false ∧ (∀ k ∈ K, w'.heap[k]? = w.heap[k]?) ∧ Newr w0.heap.size K w' v l ∧ w.heap.size ≤ jb ∧ CapOk v := by
  have HO := Lib.hid (jOpen_own h hl hN h.hd.bd.small hR hRl)
  clear h hR
  go_enter Tryz.func97, Tryz.ntmps97
  go_wp2_with (fail)
  refine HO.out.mono ?_
  rintro e w1 (⟨hz, -⟩ | ⟨-, jb, v, A1, rfl, h1, hk1, ht1, hjb⟩)
  · exact absurd rfl hz
  · obtain ⟨va, vc, rfl, -⟩ := ht1.texts.shape
    simp only [List.length_map] at h1 ht1 hjb ⊢
    have H1 := Lib.hid h1
    have HK := Lib.hid hk1
    have HT := Lib.hid ht1
    clear h1 hk1 ht1
    go_wp2_with (fail)
    go_ret3
    exact ⟨_, _, A1, rfl, H1.out, HK.out, HT.out, hjb⟩
/-- An elder journal over the same disk. -/
theorem Jl.elder {w0 w : World} {K M A : List Nat} {jb jb2 g : Nat} {d : Dk} {N : Nat} {nm : Nm} {n n2 : Nat} {c c2 : Bool} (h : Jl w0 w K A jb2 g d N nm n2 c2) (hj : Blk w jb [.pointer (some ⟨g, 0, none⟩), strV nm, .int .i64 n, .bool c] 149) (hb : w0.heap.size ≤ jb) (hK : jb ∈ K) (hM : ∀ k ∈ M, k ∈ K ∧ k ≠ jb) : Jl w0 w M A jb g d N nm n c :=
  ⟨h.m.less (fun k hk => by
    rcases List.mem_cons.1 hk with rfl | hk
    · exact List.mem_cons_of_mem _ hK
    · exact List.mem_cons_of_mem _ (hM k hk).1), hj, hb, fun hm => (hM jb hm).2 rfl, h.len⟩
set_option maxHeartbeats 8000000 in
set_option maxRecDepth 100000 in
theorem long_any (w : World) (hg : ErrorLaid w) : Calls Tryz.prog 43 #[] w fun e w' => e = .returned (.bool true) ∧ Below w.heap.size w w' := by
  have HG := Lib.hid hg
  clear hg
  obtain ⟨d1, e1, l1⟩ := jstart_new 67108864 (by omega) (nm := [106]) (by simp)
  have hT := times_any w 115 16777216
  obtain ⟨S, hS⟩ : ∃ S, timesL 115 16777216 = S := ⟨_, rfl⟩
  have hSl : S.length = 16777216 := by rw [← hS]; unfold timesL; rw [List.length_replicate]
  have hT : ∀ W, Calls Tryz.prog 99 #[strV [115], .int .i64 16777216] W fun e w' => e = .returned (strV S) ∧ Below W.heap.size W w' := fun W => by
    have := times_any W 115 16777216 (by omega) (by omega)
    rw [hS] at this
    exact this
  clear hS
  have hall : ∀ r ∈ ([S] : List (List UInt8)), r.length ≤ 16777216 := fun r hr => by simp at hr; subst hr; omega
  have hf : (jframe S).length ≤ 16777230 := by have := jframe_le S (by omega); omega
  obtain ⟨d2, e2, l2⟩ := jappend_lone (n := 0) l1 (r := S) (by omega) (by simp; omega)
  rw [show ([] : List UInt8) ++ jframe S = jframes [S] from by simp [jframes]] at l2
  have hfl : (jframes [S]).length = (jframe S).length := by simp [jframes]
  obtain ⟨d3, e3, l3⟩ := l2.frames hall (by simp) (by rw [hfl]; omega)
  have hw := (l3.write (s := jframe [120]) (by rw [hfl]; have := jframe_le [120] (by simp); simp at this; omega)).1
  obtain ⟨d4, e4⟩ := jappend_struck (nm := [106]) (n := 1) (r := [120]) (by simp) hw []
  have E1 := Lib.hid e1
  have E2 := Lib.hid e2
  have E3 := Lib.hid e3
  have E4 := Lib.hid e4
  have HT := Lib.hid hT
  have hsz := str_size S
  have hap := str_append S [115]
  have hs1 : ({ data := #[115] } : ByteArray) = str [115] := rfl
  have hs115 := str_size [115]
  have hqq : ((str S).toList == (str S).toList) = true := by simp
  have HSL := Lib.hid hSl
  have hbig : ¬ (9223372036854775807 : Int) < (S.length : Int) + 1 := by omega
  clear e1 e2 e3 e4 l1 l2 l3 hf hfl hall hw hT
  go_enter Tryz.func43, Tryz.ntmps43
  go_wp2_with (fail)
  refine (New_m w w (Below.refl _ _) [] (fun k hk => by cases hk) 67108864).mono ?_
  rintro e w1 ⟨g, A1, rfl, h1, hb1⟩
  have HO := Lib.hid (told_any h1 (nm := [106]) (by simp) (by omega) E1.out (by simp))
  clear h1 hb1
  go_wp2_with (fail)
  refine HO.out.mono ?_
  rintro e w2 ⟨jb, v, A2, rfl, h2, -, ht2, -, -⟩
  obtain ⟨va, vc, rfl, -⟩ := ht2.shape
  simp only [List.length_map, List.length_nil]
  have HTw := Lib.hid (HT.out w2)
  have H2 := Lib.hid h2
  clear h2 ht2 HO
  go_wp2_with (fail)
  refine HTw.out.mono ?_
  rintro e w3 ⟨rfl, hb3⟩
  have h3 := H2.out.below hb3
  have hA := jAppend_any h3 (S ++ [115]) (by omega) (by rw [List.length_append, HSL.out]; simp) (by simp)
  rw [jappend_many (by rw [List.length_append, HSL.out]; simp)] at hA
  have HA := Lib.hid hA
  clear h3 hb3 hA H2 HTw
  go_wp2_with (fail)
  refine HA.out.mono ?_
  rintro e w4 ⟨rfl, ⟨A4, h4⟩, -⟩
  have hA := jAppend_any h4 S (by omega) (by rw [HSL.out]; simp) (by simp)
  simp only [List.length_nil, E2.out] at hA
  have HA := Lib.hid hA
  clear h4 hA
  go_wp2_with (fail)
  refine HA.out.mono ?_
  rintro e w5 ⟨rfl, ⟨A5, h5⟩, -⟩
  rw [errV_none]
  have HO := Lib.hid (told_own h5.m (nm := [106]) (by simp) (by omega) E3.out (by simp))
  have HJ := Lib.hid h5.j
  have HJB := Lib.hid h5.base
  clear h5 HA
  go_wp2_with (fail)
  refine HO.out.mono ?_
  rintro e w6 ⟨jb2, v6, A6, rfl, h6, hk6, ht6, hjb6, -⟩
  have hj6 := HJ.out.same (hk6 jb (by simp))
  obtain ⟨va6, vc6, rfl, -⟩ := ht6.texts.shape
  simp only [List.length_map, List.length_cons, List.length_nil] at *
  have hold := h6.elder (M := (Value.slice va6 1 vc6).ownBlock.toList) hj6 HJB.out (by simp) (fun k hk => ⟨by simp [hk], fun e => ht6.2 k (by simpa using hk) (by simp [e])⟩)
  have htx := ht6.texts
  have hR := hold.arm 1 (.slice none 0 0) [] (Or.inl ⟨rfl, none, 0, rfl⟩) (by simp) (by intro x hx; cases hx) (by omega)
  have HR := Lib.hid hR
  have HTX := Lib.hid htx
  clear h6 hk6 ht6 hj6 hold htx hR hjb6 HO HJ HJB
  go_wp2_with (fail)
  refine HR.out.mono ?_
  rintro e w7 ⟨rfl, ⟨A7, h7⟩, hk7⟩
  have htx7 := RowAt.same HTX.out (w' := w7) (fun k hk => hk7 k (by simp [hk]))
  have hA := jAppend_any h7 [120] (by omega) (by simp) (by simp)
  simp only [Nat.zero_add, E4.out] at hA
  have HA := Lib.hid hA
  have HTX7 := Lib.hid htx7
  clear h7 hk7 htx7 hA HR HTX
  go_wp2_with (fail)
  refine HA.out.mono ?_
  rintro e w8 ⟨rfl, ⟨A8, h8⟩, hk8⟩
  have htx8 := RowAt.same HTX7.out (w' := w8) (fun k hk => hk8 k (by simp [hk]))
  have hA := jAppend_any h8 (S ++ [115]) (by omega) (by rw [List.length_append, HSL.out]; simp) (by simp)
  rw [show jappend d4 [106] 1 true (S ++ [115]) = ⟨d4, 23, true, 1⟩ from by unfold jappend; rw [if_pos rfl]] at hA
  have HA := Lib.hid hA
  have HTX8 := Lib.hid htx8
  clear h8 hk8 htx8 hA HTX7
  go_wp2_with (fail)
  refine HA.out.mono ?_
  rintro e w9 ⟨rfl, ⟨A9, h9⟩, hk9⟩
  have htx9 := RowAt.same HTX8.out (w' := w9) (fun k hk => hk9 k (by simp [hk]))
  have HB9 := Lib.hid h9.m.bel
  have HTX9 := Lib.hid htx9
  clear h9 hk9 htx9 HA HTX8
  have HP1 := Lib.hid (Plain_lit 5 w9 (by omega) (by omega) (HG.out.below HB9.out) 5 rfl)
  obtain ⟨a9, cc9, e9, hx9⟩ := HTX9.out.shape
  simp only [Value.slice.injEq, List.length_map, List.length_cons, List.length_nil] at e9
  obtain ⟨rfl, -, rfl⟩ := e9
  obtain ⟨b, off, rfl, hc9, -⟩ := hx9 0 (strV S) rfl
  rw [Nat.add_zero] at hc9
  have hb9l : b < w9.heap.size := World.block_lt_of_cell? w9 _ hc9
  clear hx9 HTX9
  go_wp2_with (fail)
  refine HP1.out.mono ?_
  rintro e w10 ⟨rfl, hb10⟩
  have hc10 := (hb10.cell (p := ⟨b, off, none⟩) hb9l).trans hc9
  have HB10 := Lib.hid (HB9.out.trans (hb10.mono HB9.out.size))
  have HP2 := Lib.hid (Plain_lit 20 w10 (by omega) (by omega) (HG.out.below HB10.out) 20 rfl)
  clear hb10 HP1 HB9 hc9 hb9l
  go_wp2_with (fail)
  refine HP2.out.mono ?_
  rintro e w11 ⟨rfl, hb11⟩
  have HB11 := Lib.hid (HB10.out.trans (hb11.mono HB10.out.size))
  have HP3 := Lib.hid (Plain_lit 23 w11 (by omega) (by omega) (HG.out.below HB11.out) 23 rfl)
  clear hb11 HP2 HB10 hc10
  go_wp2_with (fail)
  refine HP3.out.mono ?_
  rintro e w12 ⟨rfl, hb12⟩
  have HB12 := Lib.hid (HB11.out.trans (hb12.mono HB11.out.size))
  clear hb12 HP3 HB11
  go_wp2
  go_ret
  exact ⟨rfl, HB12.out⟩
end Go.Proofs.YtfgpigblnkanpaaGreatDoor
