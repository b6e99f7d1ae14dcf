/- The walk of the statement JournalBack. -/
import Derived.Test.YtfgpigblnkanpaaGreatJr
import Derived.Test.YtfgpigblnkanpaaGreatPick
namespace Go.Proofs.YtfgpigblnkanpaaGreat
open Go.RowKit Go.Maps Go.Shelf
set_option linter.unusedVariables false

def Jk (w wr : World) (jb g : Nat) (L : List (List UInt8)) (i : Nat) : Prop :=
  ∃ d A N, Jl w wr [] A jb g d N [106] i false ∧ Lone d [106] (jframes (L.take i)) 268435456 ∧ N ≤ 20 + 20 * i
theorem str_eq (l : List UInt8) : (str l).toList = l := by rw [ByteArray.toList_eq]; rfl
set_option maxHeartbeats 8000000 in
set_option maxRecDepth 100000 in
theorem JournalBack_any (w : World) (a : Option Addr) (c : Nat) (l : List (List UInt8)) (a1 : Int) (h : ShapeT w (.slice a l.length c) l) (ho : ∀ x ∈ l, x.length ≤ 140737488355328) (hc : l.length ≤ c) (hn : l.length ≤ 9223372036854775807) (w1 : (Lit.int .i64 a1).wf = true) :
    Calls Tryz.prog 3 #[.slice a l.length c, .int .i64 a1] w fun e w' => e = .returned (.bool true) ∧ Below w.heap.size w w' := by
  have HF := Lib.hid (few_any23 w a c l h hn ho hc)
  have HS := Lib.hid h
  clear h ho
  go_enter Tryz.func3, Tryz.ntmps3
  go_wp2_with (fail)
  refine HF.out.mono ?_
  rintro e w0 ⟨k0, hk0, hk200, htot, rfl, rfl⟩
  have hsl := HS.out.take k0 hk0
  obtain ⟨L, hL⟩ : ∃ L, L = l.take k0 := ⟨_, rfl⟩
  have hLl : L.length = k0 := by rw [hL, List.length_take, Nat.min_eq_left hk0]
  rw [← hL] at hsl htot
  clear hL HF HS
  subst hLl
  have hLr : ∀ r ∈ L, r.length ≤ 16777216 := fun r hr => by have := total_mem hr; omega
  have hfr : ∀ i, (jframes (L.take i)).length ≤ 1051376 := fun i => by
    have h1 := jframes_le (L.take i) (fun r hr => hLr r (List.mem_of_mem_take hr))
    have h2 := total_take L i
    have h3 : (L.take i).length ≤ L.length := by rw [List.length_take]; omega
    omega
  have HSL := Lib.hid hsl
  have HLR := Lib.hid hLr
  have HFR := Lib.hid hfr
  have hcc : L.length ≤ c := by omega
  clear hsl hLr hfr htot hk0 hn hc
  obtain ⟨d1, e1, l1⟩ := jstart_new 268435456 (by omega) (nm := [106]) (by simp)
  have E1 := Lib.hid e1
  have L1 := Lib.hid l1
  clear e1 l1
  go_wp2_with (fail)
  refine (New_m w w (Below.refl _ _) [] (fun k hk => by cases hk) 268435456).mono ?_
  rintro e w2 ⟨g, A1, rfl, h1, hb1⟩
  have HT := Lib.hid (told_any h1 (nm := [106]) (by simp) (by omega) E1.out (by simp))
  clear h1 hb1
  go_wp2_with (fail)
  refine HT.out.mono ?_
  rintro e w3 ⟨jb, v, A3, rfl, h3, hk3, ht3, hjb⟩
  have hS0 : Jk w w3 jb g L 0 := ⟨d1, A3, 10, by simpa using h3.less, by simpa [jframes] using L1.out, by omega⟩
  have HS0 := Lib.hid hS0
  obtain ⟨va, vc, rfl, -⟩ := ht3.shape
  clear h3 hk3 ht3 hS0 HT hjb
  go_wp2_with (fail)
  go_loopw [7, 10, 11] (fun jv bv iv wr => ∃ jb i, jv = .pointer (some ⟨jb, 0, none⟩) ∧ iv = .int .i64 (i : Nat) ∧ i ≤ L.length ∧ bv = strV (jframes (L.take i)) ∧ Hid (Jk w wr jb g L i)) (fun _ _ iv _ => L.length - (intOf iv).toNat)
  case atStart => exact ⟨jb, 0, rfl, rfl, Nat.zero_le _, by simp [jframes]; rfl, HS0.out⟩
  case round =>
    obtain ⟨jb, i, rfl, rfl, hi, rfl, hst⟩ := hrel
    obtain ⟨d, A, N, hJ, hLo, hN⟩ := hst.out
    by_cases hlt : i < L.length
    · obtain ⟨r, hr⟩ : ∃ r, L[i]? = some r := ⟨_, List.getElem?_eq_getElem hlt⟩
      obtain ⟨_, _, hwe, hrx⟩ := HSL.out.below hJ.m.bel
      simp only [Value.slice.injEq] at hwe
      obtain ⟨rfl, -, rfl⟩ := hwe
      obtain ⟨b, off, rfl, hcr⟩ := hrx i r hr
      have hrl := HLR.out r (List.mem_of_getElem? hr)
      have htk : L.take (i + 1) = L.take i ++ [r] := by rw [List.take_add_one, hr]; rfl
      have hfr1 : jframes (L.take (i + 1)) = jframes (L.take i) ++ jframe r := by rw [htk, jframes_append]; simp [jframes]
      have hfi := HFR.out i
      have hfi1 := HFR.out (i + 1)
      rw [hfr1, List.length_append] at hfi1
      obtain ⟨d2, e2, l2⟩ := jappend_lone (n := i) hLo hrl (by omega)
      rw [← hfr1] at l2
      obtain ⟨d3, e3, l3⟩ := l2.frames (fun x hx => HLR.out x (List.mem_of_mem_take hx)) (by simp) (by have := HFR.out (i + 1); omega)
      have ha := jAppend_any hJ r (by omega) (by omega) (by omega)
      rw [e2] at ha
      have HA := Lib.hid ha
      have HFM := Lib.hid fun W => lframe_any r W (by omega)
      have hpk := fun W => Pick_any a1 3 W (by omega) (by omega)
      obtain ⟨m, hm⟩ : ∃ m : Int, a1 % ((3 : Nat) : Int) = m := ⟨_, rfl⟩
      simp only [hm] at hpk
      have HPK := Lib.hid hpk
      have E3 := Lib.hid e3
      have L2 := Lib.hid l2
      have L3 := Lib.hid l3
      have HF1 := Lib.hid hfr1
      have hsz1 := str_size (jframes (L.take i))
      have hsz2 := str_size (jframe r)
      have happ := str_append (jframes (L.take i)) (jframe r)
      rw [← hfr1] at happ
      have ik0 : (0 : Int) ≤ (i : Int) := by omega
      have ik1 : (i : Int) < (L.length : Int) := by omega
      have ik2 : (i : Int) + 1 ≤ (c : Int) := by omega
      have HR := Lib.hid hr
      have hNb : N + 2 ≤ 20 + 20 * (i + 1) - 10 := by omega
      clear hr hrx e2 e3 l2 l3 ha hpk hm hfr1 htk hst hLo hJ
      go_wp2_with (fail)
      refine HA.out.mono ?_
      rintro e w4 ⟨rfl, ⟨A4, h4⟩, hk4⟩
      rw [errV_none]
      have hl := jLen_any h4
      rw [show ((i + 1 : Nat) : Int) = (i : Int) + 1 from by omega] at hl
      have HL := Lib.hid hl
      obtain ⟨_, _, hwe, hrx⟩ := HSL.out.below h4.m.bel
      simp only [Value.slice.injEq] at hwe
      obtain ⟨rfl, -, rfl⟩ := hwe
      obtain ⟨b', off', heq, hcr4⟩ := hrx i r HR.out
      cases heq
      have H4 := Lib.hid h4
      clear h4 hk4 hl hrx hcr
      go_wp2_with (fail)
      refine HL.out.mono ?_
      rintro e w5 ⟨rfl, rfl⟩
      go_wp2_with (fail)
      refine (HFM.out w4).mono ?_
      rintro e w5 ⟨rfl, hb5⟩
      have H5 := Lib.hid (H4.out.below hb5)
      clear hb5 hcr4
      go_wp2_with (fail)
      refine (HPK.out w5).mono ?_
      rintro e w6 ⟨rfl, rfl⟩
      by_cases hm3 : m = (i : Int) % 3
      · have hq : (m == (i : Int) % 3) = true := by simp [hm3]
        have HT := Lib.hid (told_any H5.out.disk (nm := [106]) (by simp) (by omega) E3.out (by rw [List.length_take]; omega))
        clear hm3
        go_wp2_with (fail)
        refine HT.out.mono ?_
        rintro e w6 ⟨jb2, v2, A6, rfl, h6, hk6, ht6, hjb6⟩
        have hst := SameTexts_sh w6 v2 (.slice (some ⟨b, off, none⟩) (i + 1) c) (L.take (i + 1)) (L.take (i + 1)) ht6.sh ((HSL.out.below h6.m.bel).take (i + 1) hlt) (by rw [List.length_take]; omega) (by rw [List.length_take]; omega)
        rw [show decide (L.take (i + 1) = L.take (i + 1)) = true from by simp] at hst
        have HST := Lib.hid hst
        obtain ⟨va2, vc2, rfl, -⟩ := ht6.shape
        have hll : (L.take (i + 1)).length = i + 1 := by rw [List.length_take]; omega
        rw [hll] at h6
        rw [List.length_map, hll] at HST ⊢
        have H6 := Lib.hid h6.less
        have hp0 : (0 : Int) ≤ (i : Int) + 1 := by omega
        have hp2 : ((i : Int) + 1).toNat = i + 1 := by omega
        clear h6 hk6 ht6 hst hjb6 hsz1 hsz2 happ hfi hfi1 hq hll
        go_wp2_with (fail)
        refine HST.out.mono ?_
        rintro e w7 ⟨rfl, q, rfl⟩
        have hS : Jk w (w6.drewN q) jb2 g L (i + 1) := ⟨d3, A6, N + 2 + 10, H6.out.below ⟨rfl, rfl, rfl, Nat.le_refl _, fun _ _ => rfl⟩, L3.out, by omega⟩
        have HSS := Lib.hid hS
        clear hS
        go_wp2
        go_roundw
        case rel => exact ⟨jb2, i + 1, rfl, by go_num, by omega, rfl, HSS.out⟩
        case measure => simp [intOf]; omega
      · have hq : (m == (i : Int) % 3) = false := by simp [hm3]
        have hS : Jk w w5 jb g L (i + 1) := ⟨d2, A4, N + 2, H5.out, L2.out, by omega⟩
        have HSS := Lib.hid hS
        clear hS hm3
        go_wp2
        go_roundw
        case rel => exact ⟨jb, i + 1, rfl, by go_num, by omega, rfl, HSS.out⟩
        case measure => simp [intOf]; omega
    · obtain rfl : i = L.length := by omega
      rw [List.take_length] at hLo ⊢
      have hfi := HFR.out L.length
      rw [List.take_length] at hfi
      obtain ⟨d3, e3, l3⟩ := hLo.frames HLR.out (by simp) (by omega)
      have HRD := Lib.hid (Read_m hJ.m [106] hLo.read (by simp))
      have HT := Lib.hid (told_any hJ.disk (nm := [106]) (by simp) (by omega) e3 (by omega))
      clear hLo e3 l3 hst hJ
      go_wp2_with (fail)
      refine HRD.out.mono ?_
      rintro e w4 ⟨rfl, rfl⟩
      rw [errV_none]
      go_wp2_with (fail)
      refine HT.out.mono ?_
      rintro e w6 ⟨jb2, v2, A6, rfl, h6, hk6, ht6, hjb6⟩
      have hst := SameTexts_sh w6 v2 (.slice a L.length c) L L ht6.sh (HSL.out.below h6.m.bel) (by omega) (by omega)
      rw [show decide (L = L) = true from by simp] at hst
      have HST := Lib.hid hst
      obtain ⟨va2, vc2, rfl, -⟩ := ht6.shape
      have HB := Lib.hid h6.m.bel
      simp only [List.length_map] at *
      clear h6 hk6 ht6 hst hjb6
      go_wp2_with (fail)
      refine HST.out.mono ?_
      rintro e w7 ⟨rfl, q, rfl⟩
      have HB7 : Hid (Below w.heap.size w (w6.drewN q)) := below_drewN HB.out q
      go_wp2_with (fail)
      refine (works23_any _).mono ?_
      rintro e w8 ⟨rfl, hb8⟩
      have HB8 := Lib.hid (HB7.out.trans (hb8.mono HB7.out.size))
      clear hb8
      go_wp2
      go_ret
      exact ⟨rfl, HB8.out⟩
end Go.Proofs.YtfgpigblnkanpaaGreat
