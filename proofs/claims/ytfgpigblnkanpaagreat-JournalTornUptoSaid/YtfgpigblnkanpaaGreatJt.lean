/- The walk of the statement JournalTorn. -/
import Derived.Test.YtfgpigblnkanpaaGreatJk
import Derived.Deep.CutBlock
import Derived.Deep.RegionHeld3
namespace Go.Proofs.YtfgpigblnkanpaaGreat
open Go.RowKit Go.Maps Go.Shelf
set_option linter.unusedVariables false

theorem torn {L : List (List UInt8)} {n cut : Nat} (hr : ∀ r ∈ L, r.length ≤ 16777216) (hn : n ≤ L.length) (h1 : (jframes (L.take n)).length ≤ cut) (h2 : n < L.length → cut < (jframes (L.take (n + 1))).length) (h3 : cut ≤ (jframes L).length) :
    jbegin ((jframes L).take cut) = (L.take n, (jframes (L.take n)).length) ∧ ((jframes L).take cut).take (jframes (L.take n)).length = jframes (L.take n) := by
  have hsp : jframes L = jframes (L.take n) ++ jframes (L.drop n) := by rw [← jframes_append, List.take_append_drop]
  have hrt : ∀ r ∈ L.take n, r.length ≤ 16777216 := fun r h => hr r (List.mem_of_mem_take h)
  have e1 : (jframes L).take cut = jframes (L.take n) ++ (jframes (L.drop n)).take (cut - (jframes (L.take n)).length) := by
    rw [hsp, List.take_append, List.take_of_length_le h1]
  have e2 : jnext ((jframes (L.drop n)).take (cut - (jframes (L.take n)).length)) = none := by
    by_cases hlt : n < L.length
    · obtain ⟨r, hx⟩ : ∃ r, L[n]? = some r := ⟨_, List.getElem?_eq_getElem hlt⟩
      have hd : L.drop n = r :: L.drop (n + 1) := by
        rw [List.drop_eq_getElem_cons hlt]
        rw [List.getElem?_eq_getElem hlt] at hx
        rw [Option.some.inj hx]
      have ht : L.take (n + 1) = L.take n ++ [r] := by rw [List.take_add_one, hx]; rfl
      have h4 := h2 hlt
      rw [ht, jframes_append, List.length_append] at h4
      have e5 : jframes [r] = jframe r := by simp [jframes]
      rw [e5] at h4
      rw [hd, jframes_cons, List.take_append_of_le_length (by omega)]
      exact jnext_cut (hr r (List.mem_of_getElem? hx)) (by omega)
    · have : n = L.length := by omega
      rw [List.drop_of_length_le (by omega)]
      simp [jframes, jnext, readU_nil]
  refine ⟨?_, ?_⟩
  · rw [e1, jbegin_frames _ _ hrt, jbegin_none e2]
    simp
  · rw [e1]
    exact List.take_left' rfl
def endsV (L : List (List UInt8)) (k : Nat) : List Value := (List.range k).map fun j => Value.int .i64 (((jframes (L.take (j + 1))).length : Nat) : Int)
theorem endsV_succ (L : List (List UInt8)) (k : Nat) : endsV L (k + 1) = endsV L k ++ [.int .i64 (((jframes (L.take (k + 1))).length : Nat) : Int)] := by unfold endsV; rw [List.range_succ, List.map_append]; rfl
theorem endsV_at (L : List (List UInt8)) {k j : Nat} (h : j < k) : (endsV L k)[j]? = some (.int .i64 (((jframes (L.take (j + 1))).length : Nat) : Int)) := by unfold endsV; rw [List.getElem?_map, List.getElem?_range h]; rfl
theorem infoInt8 : (Tryz.prog.info? 3).map (fun i => (i.zero, i.size, i.bytes)) = some (some (.int .i64 0), 1, 8) := by kernel_rfl
set_option maxHeartbeats 16000000 in
set_option maxRecDepth 100000 in
theorem JournalTorn_any (w : World) (a : Option Addr) (c : Nat) (l : List (List UInt8)) (a1 : Int) (tl : List UInt8) (h : ShapeT w (.slice a l.length c) l) (ho : ∀ x ∈ l, x.length ≤ 140737488355328) (hc : l.length ≤ c) (hn : l.length ≤ 9223372036854775807) (w1 : (Lit.int .i64 a1).wf = true) (htl : tl.length ≤ 140737488355328) :
    Calls Tryz.prog 4 #[.slice a l.length c, .int .i64 a1, strV tl] w fun e w' => e = .returned (.bool true) ∧ Below w.heap.size w w' := by
  have HF := Lib.hid (few_any23 w a c l h hn ho hc)
  have HS := Lib.hid h
  obtain ⟨i0, hi0, hz0, hz1, hz2⟩ := info_parts infoInt8
  clear h ho
  go_enter Tryz.func4, Tryz.ntmps4
  go_wp2_with (fail)
  refine HF.out.mono ?_
  rintro e w0 ⟨k0, hk0, hk200, htot, rfl, rfl⟩
  have hsl := HS.out.take k0 hk0
  obtain ⟨L, hL⟩ : ∃ L, L = l.take k0 := ⟨_, rfl⟩
  have hLl : L.length = k0 := by rw [hL, List.length_take, Nat.min_eq_left hk0]
  rw [← hL] at hsl htot
  clear hL HF HS
  subst hLl
  have hLr : ∀ r ∈ L, r.length ≤ 16777216 := fun r hr => by have := total_mem hr; omega
  have hfr : ∀ i, (jframes (L.take i)).length ≤ 1051376 := fun i => by
    have h1 := jframes_le (L.take i) (fun r hr => hLr r (List.mem_of_mem_take hr))
    have h2 := total_take L i
    have h3 : (L.take i).length ≤ L.length := by rw [List.length_take]; omega
    omega
  have HSL := Lib.hid hsl
  have HLR := Lib.hid hLr
  have HFR := Lib.hid hfr
  have hcc : L.length ≤ c := by omega
  clear hsl hLr hfr htot hk0 hn hc
  go_wp2_with (fail)
  go_loopw [8, 9, 10] (fun s v iv wr => ∃ k, iv = .int .i64 (k : Nat) ∧ k ≤ L.length ∧ s = strV (jframes (L.take k)) ∧ wr.ownsRow w.heap.size 3 1 v k (endsV L k) ∧ Below w.heap.size w wr) (fun _ _ iv _ => L.length - (intOf iv).toNat)
  case atStart => exact ⟨0, rfl, Nat.zero_le _, by simp [jframes]; rfl, World.ownsRow_nil _ _ _ _, Below.refl _ _⟩
  case round =>
    obtain ⟨i, rfl, hi, rfl, hown, hbel⟩ := hrel
    have hszw := hbel.size
    by_cases hlt : i < L.length
    · obtain ⟨r, hr⟩ : ∃ r, L[i]? = some r := ⟨_, List.getElem?_eq_getElem hlt⟩
      obtain ⟨_, _, hwe, hrx⟩ := HSL.out.below hbel
      simp only [Value.slice.injEq] at hwe
      obtain ⟨rfl, -, rfl⟩ := hwe
      obtain ⟨b, off, rfl, hcr⟩ := hrx i r hr
      have hrl := HLR.out r (List.mem_of_getElem? hr)
      have hfr1 : jframes (L.take (i + 1)) = jframes (L.take i) ++ jframe r := by
        have htk : L.take (i + 1) = L.take i ++ [r] := by rw [List.take_add_one, hr]; rfl
        rw [htk, jframes_append]; simp [jframes]
      have hfi := HFR.out i
      have hfi1 := HFR.out (i + 1)
      have HES := Lib.hid (endsV_succ L i)
      have hsum : (jframes (L.take i)).length + (jframe r).length ≤ 1051376 := by rw [← List.length_append, ← hfr1]; exact hfi1
      have HFM := Lib.hid (lframe_any r wr (by omega))
      have hsz1 := str_size (jframes (L.take i))
      have hsz2 := str_size (jframe r)
      have hsz3 := str_size (jframes (L.take (i + 1)))
      have happ := str_append (jframes (L.take i)) (jframe r)
      rw [← hfr1] at happ
      have ik0 : (0 : Int) ≤ (i : Int) := by omega
      have ik1 : (i : Int) < (L.length : Int) := by omega
      obtain ⟨va, vc, rfl, -⟩ := row_open hown
      have HO := Lib.hid hown
      have HB := Lib.hid hbel
      clear hr hrx hfr1 hown hbel
      generalize jframes (L.take i) = X0 at *
      go_wp2_with (fail)
      refine HFM.out.mono ?_
      rintro e w2 ⟨rfl, hb2⟩
      have HB2 := Lib.hid (HB.out.trans (hb2.mono HB.out.size))
      have hown2 := row_below HO.out hb2
      have hsz2' := HB2.out.size
      clear hb2 hcr
      go_wp2_with (at_builtin; refine wpList_append_own _ rfl _ _ 40 rfl w.heap.size 3 i0 (.int .i64 0) 1 8 Tryz.underlying40 hi0 hz0 hz1 hz2 rfl (by decide) (.slice va i vc) i (endsV L i) rfl (hown2.alloc _) ⟨w2.heap.size, 0, none⟩ 1 1 [.int .i64 (jframes (L.take (i + 1))).length] rfl rfl ?c1 ?c2 ?c3 ?c4 ?c5 ?_)
      case c1 => exact World.news_of_block (cs := #[.int .i64 (jframes (L.take (i + 1))).length]) (t := 3) (fr := (0, 0)) (heap_alloc_new w2 _)
      case c2 => intro u hu; simp at hu; subst hu; rfl
      case c3 => unfold maxLen; omega
      case c4 => omega
      case c5 => simp; omega
      intro v' w5 hown5 hgrow5 hv5
      have hbel5 : Below w.heap.size w w5 := (HB2.out.alloc HB2.out.size _).grown hgrow5 (by simp; omega) (fun j hj => (hown2.lt j hj).1)
      rw [← HES.out] at hown5
      obtain ⟨wa, wc, rfl, -⟩ := row_open hown5
      have HO5 := Lib.hid hown5
      have HB5 := Lib.hid hbel5
      clear hown5 hgrow5 hv5 hown2 hbel5
      go_wp2
      go_roundw
      case rel => exact ⟨i + 1, by go_num, by omega, rfl, HO5.out, HB5.out⟩
      case measure => simp [intOf]; omega
    · obtain rfl : i = L.length := by omega
      rw [List.take_length]
      have hfi := HFR.out L.length
      rw [List.take_length] at hfi
      have hP := fun W => Pick_any a1 ((jframes L).length + 1) W (by omega) (by omega)
      have e1 : (((jframes L).length + 1 : Nat) : Int) = ((jframes L).length : Int) + 1 := by omega
      obtain ⟨cut, hm, hml⟩ : ∃ m : Nat, a1 % (((jframes L).length : Int) + 1) = (m : Int) ∧ m ≤ (jframes L).length := by
        have h1 := Int.emod_nonneg a1 (b := ((jframes L).length : Int) + 1) (by omega)
        have h2 := Int.emod_lt_of_pos a1 (b := ((jframes L).length : Int) + 1) (by omega)
        exact ⟨(a1 % (((jframes L).length : Int) + 1)).toNat, by omega, by omega⟩
      simp only [e1, hm] at hP
      have HP := Lib.hid hP
      have hsz := str_size (jframes L)
      obtain ⟨va, vc, rfl, hcells⟩ := row_open hown
      have HC := Lib.hid hcells
      have HB := Lib.hid hbel
      clear hP e1 hm hown hbel hcells
      go_wp2_with (fail)
      refine (HP.out wr).mono ?_
      rintro e w2 ⟨rfl, rfl⟩
      go_upto_block 2 with (fail)
      go_cut [11] (fun nv wx => ∃ n, nv = .int .i64 (n : Nat) ∧ n ≤ L.length ∧ Hid ((jframes (L.take n)).length ≤ cut ∧ (n < L.length → cut < (jframes (L.take (n + 1))).length)) ∧ wx = wr)
      case first =>
        go_wp2_with (fail)
        go_loopw [11] (fun nv wx => ∃ n, nv = .int .i64 (n : Nat) ∧ n ≤ L.length ∧ Hid ((jframes (L.take n)).length ≤ cut) ∧ wx = wr) (fun nv _ => L.length - (intOf nv).toNat)
        case atStart => exact ⟨0, rfl, Nat.zero_le _, by show _ ≤ _; simp [jframes], rfl⟩
        case round =>
          obtain ⟨n, rfl, hn, hle, rfl⟩ := hrel
          by_cases hlt : n < L.length
          · obtain ⟨g2, rfl, hce, -⟩ := HC.out n _ (endsV_at L hlt)
            obtain ⟨e, he⟩ : ∃ e, e = (jframes (L.take (n + 1))).length := ⟨_, rfl⟩
            have HE := Lib.hid he
            rw [← he] at hce
            have ik0 : (0 : Int) ≤ (n : Int) := by omega
            have ik1 : (n : Int) < (L.length : Int) := by omega
            clear he
            by_cases hec : e ≤ cut
            · have ik2 : (e : Int) ≤ (cut : Int) := by omega
              have hle2 : Hid ((jframes (L.take (n + 1))).length ≤ cut) := by show _ ≤ _; rw [← HE.out]; exact hec
              go_wp2
              go_roundw
              case rel => exact ⟨n + 1, by go_num, by omega, hle2, trivial⟩
              case measure => simp [intOf]; omega
            · have ik2 : ¬ (e : Int) ≤ (cut : Int) := by omega
              have hle2 : Hid ((jframes (L.take n)).length ≤ cut ∧ (n < L.length → cut < (jframes (L.take (n + 1))).length)) := ⟨hle.out, fun _ => by rw [← HE.out]; omega⟩
              go_wp2_with (fail)
              go_meet
              exact ⟨n, rfl, hn, hle2, rfl⟩
          · have hle2 : Hid ((jframes (L.take n)).length ≤ cut ∧ (n < L.length → cut < (jframes (L.take (n + 1))).length)) := ⟨hle.out, fun h => absurd h hlt⟩
            go_wp2_with (fail)
            go_meet
            exact ⟨n, rfl, hn, hle2, rfl⟩
      case rest =>
        obtain ⟨n, rfl, hn, hle, rfl⟩ := hcut
        obtain ⟨a0, l1⟩ := lone_new 268435456 (by omega) (n := [106]) (by decide)
        obtain ⟨hx1, hx2⟩ := torn HLR.out hn hle.out.1 hle.out.2 hml
        have hxl : ((jframes L).take cut).length ≤ 1051376 := by rw [List.length_take]; omega
        obtain ⟨a2, l2⟩ := l1.write (s := (jframes L).take cut) (by simp; omega)
        rw [List.nil_append] at l2
        obtain ⟨d3, e3, l3⟩ := jstart_lone l2 (by simp) (by rw [hx1]; have := HFR.out n; simp only; omega)
        rw [hx1] at e3 l3
        simp only at e3 l3
        rw [hx2] at l3
        have hrn : ∀ r ∈ L.take n, r.length ≤ 16777216 := fun r hr => HLR.out r (List.mem_of_mem_take hr)
        have hfn := HFR.out n
        obtain ⟨d1, hd1⟩ : ∃ d, d = (ddo (dnew ((268435456 : Nat) : Int)) (.create [106])).1 := ⟨_, rfl⟩
        rw [← hd1] at l1 a2 e3 l2
        obtain ⟨d2, hd2⟩ : ∃ d, d = (ddo d1 (.write [106] ((jframes L).take cut))).1 := ⟨_, rfl⟩
        rw [← hd2] at e3 l2
        have D1 : Hid (ddo (dnew ((268435456 : Nat) : Int)) (.create [106]) = (d1, 0)) := ddo_eq hd1.symm a0
        have D2 : Hid (ddo d1 (.write [106] ((jframes L).take cut)) = (d2, 0)) := ddo_eq hd2.symm a2
        have E3 := Lib.hid e3
        have L3 := Lib.hid l3
        have HRN := Lib.hid hrn
        have hx := str_extract (jframes L) 0 cut
        rw [List.drop_zero] at hx
        have ik0 : (0 : Int) ≤ (cut : Int) := by omega
        have ik1 : (cut : Int) ≤ ((jframes L).length : Int) := by omega
        have ik2 : (n : Int) ≤ (c : Int) := by omega
        have htsz := str_size tl
        clear a0 l1 a2 l2 e3 l3 hx1 hx2 hrn hd1 hd2 HC hle
        go_wp2_with (fail)
        refine (New_m w wc HB.out [] (fun k hk => by cases hk) 268435456).mono ?_
        rintro e w3 ⟨g, A1, rfl, h1, hb1⟩
        have HCR := Lib.hid (Create_m h1 [106] D1.out (by omega) (by simp))
        clear h1 hb1
        go_wp2_with (fail)
        refine HCR.out.mono ?_
        rintro e w4 ⟨rfl, ⟨A4, h4⟩, -⟩
        rw [errV_none]
        have HWR := Lib.hid (Write_m h4 [106] ((jframes L).take cut) D2.out (by omega) (by simp) (by omega))
        clear h4 HCR
        go_wp2_with (fail)
        refine HWR.out.mono ?_
        rintro e w5 ⟨rfl, ⟨A5, h5⟩, -⟩
        rw [errV_none]
        have HTD := Lib.hid (told_any h5 (nm := [106]) (by simp) (by omega) E3.out (by rw [List.length_take]; omega))
        clear h5 HWR
        go_wp2_with (fail)
        refine HTD.out.mono ?_
        rintro e w6 ⟨jb, v6, A6, rfl, h6, hk6, ht6, hjb6⟩
        have hll : (L.take n).length = n := by rw [List.length_take]; omega
        have hst := SameTexts_sh w6 v6 (.slice a n c) (L.take n) (L.take n) ht6.sh ((HSL.out.below h6.m.bel).take n hn) (by rw [hll]; omega) (by rw [hll]; omega)
        rw [show decide (L.take n = L.take n) = true from by simp] at hst
        have HST := Lib.hid hst
        obtain ⟨va6, vc6, rfl, -⟩ := ht6.shape
        rw [List.length_map, hll] at HST ⊢
        rw [hll] at h6
        have H6 := Lib.hid h6.less
        clear h6 hk6 ht6 hst hjb6 hll HTD
        go_wp2_with (fail)
        refine HST.out.mono ?_
        rintro e w7 ⟨rfl, q, rfl⟩
        have H7 := Lib.hid (H6.out.below (w' := w6.drewN q) ⟨rfl, rfl, rfl, Nat.le_refl _, fun _ _ => rfl⟩)
        generalize w6.drewN q = w7 at *
        clear HST H6
        by_cases hbig : 1048576 < tl.length
        · have hb2 : (1048576 : Int) < (tl.length : Int) := by omega
          have HBE := Lib.hid H7.out.m.bel
          clear hbig
          go_wp2
          go_ret
          exact ⟨rfl, HBE.out⟩
        · have hb2 : ¬ (1048576 : Int) < (tl.length : Int) := by omega
          have hfl : (jframe tl).length ≤ 1048600 := by have := jframe_le tl (by omega); omega
          obtain ⟨d4, e4, l4⟩ := jappend_lone (n := n) L3.out (r := tl) (by omega) (by omega)
          have ha := jAppend_any H7.out tl (by omega) (by omega) (by omega)
          rw [e4] at ha
          have HA := Lib.hid ha
          have hfs : jframes (L.take n) ++ jframe tl = jframes (L.take n ++ [tl]) := by rw [jframes_append]; simp [jframes]
          rw [hfs] at l4
          obtain ⟨d5, e5, l5⟩ := l4.frames (l := L.take n ++ [tl]) (fun r hr => by
            rcases List.mem_append.1 hr with hr | hr
            · exact HRN.out r hr
            · simp at hr; subst hr; omega) (by simp) (by rw [← hfs, List.length_append]; omega)
          have E5 := Lib.hid e5
          clear e4 l4 ha hfs e5 l5 hbig
          go_wp2_with (fail)
          refine HA.out.mono ?_
          rintro e w8 ⟨rfl, ⟨A8, h8⟩, -⟩
          rw [errV_none]
          have hl2 : (L.take n ++ [tl]).length = n + 1 := by simp; omega
          have HTD := Lib.hid (told_any h8.disk (nm := [106]) (by simp) (by omega) E5.out (by rw [hl2]; omega))
          clear h8 HA H7
          go_wp2_with (fail)
          refine HTD.out.mono ?_
          rintro e w9 ⟨jb9, v9, A9, rfl, h9, hk9, ht9, hjb9⟩
          obtain ⟨va9, vc9, rfl, hcell9⟩ := ht9.shape
          obtain ⟨m9, hm9⟩ : ∃ m, m = n + 1 := ⟨_, rfl⟩
          rw [← hm9] at hl2
          rw [List.length_map, hl2] at ht9 hjb9 ⊢
          have hcap9 := hjb9.2 _ _ _ rfl
          have hw9 : IntKind.i64.wrap ((n : Int) + 1) = (n : Int) + 1 := IntWalk.i64_in _ (by omega)
          have hq2 : ((m9 : Int) == (n : Int) + 1) = true := by simp; omega
          obtain ⟨b9, o9, rfl, hc9, -⟩ := hcell9 n (strV tl) (by rw [List.getElem?_map, List.getElem?_append_right (by simp; omega)]; simp [Nat.min_eq_left hn])
          have hsh9 := ht9.sh.take n (by rw [hl2]; omega)
          rw [List.take_left' (by simp; omega)] at hsh9
          have hll : (L.take n).length = n := by rw [List.length_take]; omega
          have hst := fun W (hb : Below w9.heap.size w9 W) => SameTexts_sh W _ (.slice a n c) (L.take n) (L.take n) (hsh9.below hb) (((HSL.out.below h9.m.bel).take n hn).below hb) (by rw [hll]; omega) (by rw [hll]; omega)
          simp only [eq_self, decide_true] at hst
          have HST := Lib.hid hst
          have HB9 := Lib.hid h9.m.bel
          have hq : ((str tl).toList == (str tl).toList) = true := by simp
          have ik3 : (n : Int) < (m9 : Int) := by omega
          have ik4 : (0 : Int) ≤ (n : Int) := by omega
          have hvc : (n : Int) ≤ (vc9 : Int) := by omega
          have hlt9 := World.block_lt_of_cell? w9 _ hc9
          clear h9 hk9 ht9 hst hjb9 hcell9 hsh9 hll hl2 HTD hm9
          go_upto_region 20 with (fail)
          go_region_held3 (fun w' => w'.cell? ⟨b9, o9 + n, none⟩ = some (strV tl) ∧ Below w9.heap.size w9 w')
            (first | assumption | exact ⟨hc9, (Below.refl _ _).drew⟩ | exact (Below.refl _ _).drew | (have hh := ‹_ ∧ Below w9.heap.size w9 _›; exact ⟨hh.1, hh.2.drew⟩) | exact below_drewN (Below.refl _ _) _ | exact ⟨hc9, below_drewN (Below.refl _ _) _⟩ | exact ⟨(hbW.cell (p := ⟨b9, o9 + n, none⟩) hlt9).trans hc9, (below_drewN (Below.refl _ _) _).trans hbW⟩ | exact (below_drewN (Below.refl _ _) _).trans hbW | go_keep)
            (first
              | (go_at_call 12; (with_reducible refine (HST.out _ (by have hh := ‹_ ∧ Below w9.heap.size w9 _›; exact hh.2)).mono ?_); rintro e w1 ⟨rfl, q1, rfl⟩)
              | (go_at_call 14; refine (works23_any _).mono ?_; rintro e w1 ⟨rfl, hbW⟩))
          have hfin : Below w.heap.size w w1 := HB9.out.trans (((below_drewN (Below.refl _ _) _).trans hbW).mono HB9.out.size)
          go_wp2
          go_ret
          exact ⟨rfl, hfin⟩
end Go.Proofs.YtfgpigblnkanpaaGreat
