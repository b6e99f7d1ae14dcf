/- The kit's contracts on strings.Repeat, slices.Clone, maps.Keys and slices.Sorted, at this translation (after lay-iter.mjs's print). The walk of the power's failure. -/
import Derived.Test.YtfgpigblnkanpaaGreatDoorShelf
import Derived.Test.YtfgpigblnkanpaaGreatDoorGQ
import Derived.Test.YtfgpigblnkanpaaGreatDoorHD
namespace Go.Proofs.YtfgpigblnkanpaaGreatDoor
open Go.RowKit Go.Maps Go.Sort Go.Shelf

theorem sortsIn (m : Nat) : AnyZ.SortsIn Tryz.prog laySorted_ren Fence.wide m :=
  ⟨fun blk off cap ss W hH hblk hsz => callsIn_wide.2 (AnyM.slices_Sort_string laySort blk off cap ss W hH hblk hsz),
   fun p cap W => callsIn_wide.2 (AnyM.slices_Sort_string_none laySort p cap W)⟩
theorem mapsKeys_any (mb : Option Nat) (W : World) : Calls Tryz.prog 59 #[.map mb] W fun e w' => e = .returned (.func (.func 114) #[] #[.pointer (some ⟨W.heap.size, 0, none⟩)]) ∧ W.alloc (.cells #[.map mb] 98) = w' :=
  (callsIn_wide.1 (AnyZ.keys_in layKeys Fence.wide 5 trivial rfl mb W)).mono fun _ _ ⟨h1, h2⟩ => ⟨h1, h2.symm⟩
set_option maxHeartbeats 1000000 in
theorem slSorted_owns {H : Type} (b nn : Nat) (D0 : DataW H) (R : Value → Option (DataW H × List MemPlace)) (w : World) (hown : w.ownsMap Tryz.prog 9 R b nn D0) (hmax : Maps.size D0 ≤ maxLen) (hbytes : Maps.size D0 * 16 ≤ 140737488355328) :
    CallsIn Fence.wide 5 Tryz.prog 58 #[.func (.func 114) #[] #[.pointer (some ⟨w.heap.size, 0, none⟩)]] (w.alloc (.cells #[.map (some b)] 98)) fun e w' => ∃ (v : Value) (ss : List (List UInt8)), e = .returned v ∧ ss.Perm (strKeys D0) ∧
      w'.ownsRow (w.alloc (.cells #[.map (some b)] 98)).heap.size 9 1 v ss.length ((ss.mergeSort (fun x y => decide (x ≤ y))).map encStr) ∧ (v = .slice none 0 0 ↔ ss = []) ∧ Below (w.alloc (.cells #[.map (some b)] 98)).heap.size (w.alloc (.cells #[.map (some b)] 98)) w' := by
  have hbl := hown.lt
  have hseq : SeqGives Fence.wide 2 Tryz.prog 114 #[.pointer (some ⟨w.heap.size, 0, none⟩)] encStr (fun ss => ss.Perm (strKeys D0)) (Maps.size D0) (w.alloc (.cells #[.map (some b)] 98)) :=
    AnyZ.keys_gives (ρ := layKeys_ren) { layKeys with } Fence.wide _ trivial rfl (by omega) w.heap.size b nn D0 _ (by simp) (by simp) (by
      obtain ⟨es, clock, hb, Ft, hs, hD⟩ := hown
      exact ⟨es, clock, (Below.heap_alloc _ _ b hbl).trans hb, Ft, hs, hD⟩)
  exact AnyZ.sorted_in laySorted Fence.wide 5 trivial trivial trivial trivial rfl (by omega) (sortsIn _) (enters_of Tryz.func113 (by kernel_rfl) rfl) 114 #[.pointer (some ⟨w.heap.size, 0, none⟩)] trivial (enters_of Tryz.func114 (by kernel_rfl) rfl) _ _ hmax hbytes _ hseq
/-- The names of a table, in order, in a row of their own. -/
def SortedPost (t : Tb) (w : World) (e : Ending) (w' : World) : Prop :=
  ∃ v, e = .returned v ∧ w'.ownsRow w.heap.size 9 1 v (tnames t).length ((tnames t).map encStr) ∧ (tnames t = [] → v = .slice none 0 0) ∧ Below w.heap.size w w'
theorem MapIs.sorted {w : World} {b : Nat} {t : Tb} {F : List Nat} {N : Nat} (h : MapIs w b t F N) (ht : Rise t) (hN : N < 4294967296) :
    Calls Tryz.prog 58 #[.func (.func 114) #[] #[.pointer (some ⟨w.heap.size, 0, none⟩)]] (w.alloc (.cells #[.map (some b)] 98)) (SortedPost t (w.alloc (.cells #[.map (some b)] 98))) := by
  obtain ⟨es, hown, hp⟩ := h
  have hs : Maps.size (DataW.map es) ≤ N := hown.size_le
  refine (callsIn_wide.1 (slSorted_owns b N _ _ w hown (by unfold maxLen; omega) (by omega))).mono fun e w' ⟨v, ss, he, hss, hr, hn, hb⟩ => ?_
  have hperm : ss.Perm (tnames t) := hss.trans (strKeys_names hp)
  have hm : ss.mergeSort (fun x y => decide (x ≤ y)) = tnames t := sorted_names ht hperm
  rw [hm, hperm.length_eq] at hr
  exact ⟨v, he, hr, fun h0 => hn.2 (by rw [h0] at hperm; exact List.Perm.eq_nil hperm), hb⟩
theorem repeatL_zeros : ∀ n : Nat, Lib.repeatL [(0 : UInt8)] n = List.replicate n 0
  | 0 => rfl
  | n + 1 => by rw [Lib.repeatL, repeatL_zeros n]; rfl
theorem strRepeat_any (n : Nat) (w : World) (hn : n ≤ 140737488355328) : Calls Tryz.prog 119 #[.string ⟨#[0]⟩, .int .i64 n] w fun e w' => e = .returned (strV (List.replicate n 0)) ∧ Below w.heap.size w w' :=
  (Any.strings_Repeat layRepeat layRepeatX ⟨#[0]⟩ n w (by omega) (by show 1 * n ≤ _; omega)).mono fun e w' ⟨he, hb⟩ => ⟨by rw [he, ← repeatL_zeros]; rfl, hb⟩
end Go.Proofs.YtfgpigblnkanpaaGreatDoor

namespace Go.Proofs.YtfgpigblnkanpaaGreatDoor
set_option linter.unusedVariables false
open Go.RowKit Go.Maps Go.Shelf

theorem DiskIn.failStart {w : World} {g : Nat} {L : Lay} {d : Dk} {N : Nat} {kv : Value} {keep : List Int} (h : DiskIn w g L d N) (hi : IntsAt w kv keep) (hk : ∀ j, usesOf kv keep = some j → j < w.heap.size ∧ j ≠ L.bs ∧ j ∉ L.F) : FailAt w L d keep d.safe (N - d.pend.length) d.files (w.alloc (.cells #[kv] 24)) := by
  have hb : ∀ k, k < w.heap.size → (w.alloc (.cells #[kv] 24)).heap[k]? = w.heap[k]? := fun k hk => Below.heap_alloc _ _ _ hk
  exact ⟨h.safe.same (hb _ h.safe.lt), fun i hi => (h.files i hi).same (hb _ (h.files i hi).lt), rfl, ⟨kv, Blk.new w [kv] 24, hi.same (fun k hk' => hb k (hk k hk').1), hk⟩, fun j hj _ _ => hb j hj, rfl, rfl, rfl⟩
theorem IntsAt.shape {w : World} {v : Value} {l : List Int} (h : IntsAt w v l) : ∃ a n c, v = .slice a n c := by
  rcases h with ⟨_, a, cap, rfl⟩ | ⟨b, off, cap, rfl, _⟩
  · exact ⟨_, _, _, rfl⟩
  · exact ⟨_, _, _, rfl⟩
theorem row_open {w : World} {e : TypeId} {v : Value} {n B : Nat} {xs : List Value} (h : w.ownsRow B e 1 v n xs) : ∃ a c, v = .slice a n c ∧ ∀ k u, xs[k]? = some u → ∃ g, a = some ⟨g, 0, none⟩ ∧ w.cell? ⟨g, k, none⟩ = some u ∧ v.ownBlock = some g := by
  rcases h.2 with ⟨rfl, h0⟩ | ⟨g, cap, cur, rfl, _, hg, h1, h2, h3, h4⟩
  · exact ⟨none, 0, by rw [h0], fun k u hu => by
      have := h.1
      rw [h0] at this
      rw [List.eq_nil_of_length_eq_zero (by omega : xs.length = 0)] at hu; simp at hu⟩
  · refine ⟨_, cap, rfl, fun k u hu => ⟨g, rfl, ?_, rfl⟩⟩
    have := World.ownsRow.cellAt h k (by have := (List.getElem?_eq_some_iff.1 hu).1; have := h.1; omega)
    rw [this, hu]
theorem slice_preJ (l : List UInt8) (p : Nat) (x : Int) (hx : x = p) (h : p ≤ l.length) (w' : World) : (Instr.slice 9 (.string (str l)) none (some (.int .i64 x)) none).run Tryz.prog w' = .ok (strV (l.take p)) w' := by
  subst hx
  exact slice_pre l p h w'
theorem bit_yes {x : Int} (h : x % 2 = 1) : (bits .and .i64 x 1 == 1) = true := by rw [bits_and1, h]; rfl
theorem bit_no {x : Int} (h : ¬ x % 2 = 1) : (bits .and .i64 x 1 == 1) = false := by rw [bits_and1]; simpa using h
def FailPost (g : Nat) (L : Lay) (d' : Dk) (N : Nat) (w : World) (e : Ending) (w' : World) : Prop :=
  e = .returned (.tuple #[]) ∧ ∃ L' : Lay, DiskIn w' g L' d' N ∧ Stp (L.foot g) (L'.foot g) w w'

set_option maxHeartbeats 4000000 in
set_option maxRecDepth 100000 in
theorem dkfail_any (w : World) (g : Nat) (L : Lay) (d : Dk) (N : Nat) (kv : Value) (keep : List Int) (h : DiskIn w g L d N) (hok : DkOk d) (hbd : DkB d N) (hN : N < 4294967296) (hi : IntsAt w kv keep) (hk : ∀ j, usesOf kv keep = some j → j < w.heap.size ∧ j ≠ L.bs ∧ j ∉ L.F) :
    Calls Tryz.prog 68 #[.pointer (some ⟨g, 0, none⟩), kv] w (FailPost g L (dfail d keep) N w) := by
  have hmf : ∀ (fn : Fn) (first cap : Array Value) (w : World), (Instr.makeFunc fn first cap).run Tryz.prog w = .ok (.func fn first cap) w := fun _ _ _ _ => rfl
  obtain ⟨c0, c1, c2, c3, c4, c5, c6⟩ := h.cells
  have hgl := h.blk.lt
  have hF0 := h.failStart hi hk
  have ap := h.apart
  have hlt := h.lt
  have hbs : L.bs < w.heap.size := hlt _ foot_bs
  have hapF : ∀ k ∈ L.F, k < w.heap.size := fun k hk => hlt k (foot_F hk)
  have hpl : L.vs.length = d.pend.length := h.pend.len
  have hplN : d.pend.length < 4294967296 := by have := hbd.safe; omega
  have HH := Lib.hid h
  have HOK := Lib.hid hok
  have HBD := Lib.hid hbd
  have HF0 := Lib.hid hF0
  have HAP := Lib.hid ap
  have HLT := Lib.hid hlt
  have HAF := Lib.hid hapF
  have HPL := Lib.hid hpl
  have hrow := h.row
  have hkv := hi.shape
  obtain ⟨T, hT⟩ : ∃ T, Hid (dpend keep d.pend 0 d.safe = T) := ⟨_, rfl⟩
  have HR := Lib.hid hrow
  clear h hok hbd hF0 ap hlt hapF hpl hi hk
  obtain ⟨va, vc, hvp, hvs⟩ := row_open hrow
  obtain ⟨ka, kn, kc, rfl⟩ := hkv
  have HVP := Lib.hid hvp
  have HVS := Lib.hid hvs
  rw [hvp] at c4
  clear hrow hvp hvs
  generalize hn : L.vs.length = n at *
  have HNN := Lib.hid hn
  clear hn
  have hn32 : n < 4294967296 := by have := HPL.out; omega
  go_enter Tryz.func68, Tryz.ntmps68
  go_wp2_with (fail)
  go_loopw [17] (fun i wr => ∃ (k : Nat) (t : Tb), i = .int .i64 k ∧ k ≤ n ∧ Hid (Rise t) ∧ Hid (dpend keep (d.pend.drop k) k t = T) ∧ FailAt w L d (keep.drop k) t (N - d.pend.length + k) d.files wr) (fun i _ => n - (intOf i).toNat)
  case atStart => exact ⟨0, d.safe, rfl, Nat.zero_le _, HOK.out.safe, hT, HF0.out⟩
  case round =>
    obtain ⟨k, t, rfl, hkn, ht, hd, hF⟩ := hrel
    by_cases hlt : k < n
    · have hpk : k < d.pend.length := by have := HPL.out; omega
      obtain ⟨p, hpe⟩ : ∃ p, d.pend[k]? = some p := ⟨_, List.getElem?_eq_getElem hpk⟩
      obtain ⟨u, hu, hpn⟩ := HH.out.pend.at k p hpe
      obtain ⟨gg, rfl, hcell, hgg⟩ := HVS.out k u hu
      have hgn : gg < w.heap.size := HLT.out gg (foot_vp hgg)
      have hsame := hF.same
      have hcell' := (World.cell?_of_block (a := ⟨gg, k, none⟩) (hsame gg hgn (fun e => HAP.out.svp gg hgg e.symm) (HAP.out.Fvp gg hgg))).trans hcell
      have hg3 := (World.cell?_of_block (a := ⟨g, 3, none⟩) (hsame g hgl HAP.out.gbs HAP.out.gF)).trans c3
      have hnext := (hF.next hbs HH.out.len HAF.out).mono (R' := fun e w2 => e = .returned (.int .i64 (keepAt keep k)) ∧ FailAt w L d (keep.drop (k + 1)) t (N - d.pend.length + k) d.files w2 ∧ wr.grownBy w2 (some w.heap.size)) (fun e w2 ⟨he, h1, h2⟩ => ⟨by rw [he, headD_drop], by rw [List.tail_drop] at h1; exact h1, h2⟩)
      have HF := Lib.hid hF
      have HPE := Lib.hid hpe
      have HPN := Lib.hid hpn
      have HNX := Lib.hid hnext
      clear hpe hpn hcell hsame hu hnext hF
      go_wp2_with (fail)
      refine HNX.out.mono ?_
      rintro e w2 ⟨rfl, hF2, hg2⟩
      have hdrop : d.pend.drop k = p :: d.pend.drop (k + 1) := by
        rw [List.drop_eq_getElem_cons hpk]
        rw [List.getElem?_eq_getElem hpk] at HPE
        rw [Option.some.inj HPE.out]
      have hd2 := hd.out
      rw [hdrop, dpend] at hd2
      have hsame2 := hF2.same
      have hg3' := (World.cell?_of_block (a := ⟨g, 3, none⟩) (hsame2 g hgl HAP.out.gbs HAP.out.gF)).trans c3
      by_cases hbit : keepAt keep k % 2 = 1
      · have hb1 := bit_yes hbit
        rw [if_pos hbit] at hd2
        obtain ⟨fr, cr, rfl, her, hcall⟩ := (HPN.out.same (w' := w2) (fun j hj => hsame2 j (HLT.out j (foot_X hj)) (fun e => HAP.out.sX (e ▸ hj)) (HAP.out.FX j hj))).call (HBD.out.pend p (List.mem_of_getElem? HPE.out))
        have hC := Lib.hid (hcall L.bs t _ hF2.tab ht.out (by omega))
        have HF2 := Lib.hid hF2
        have HB := Lib.hid hbit
        have HD2 := Lib.hid hd2
        have HDR := Lib.hid hdrop
        clear hF2 hbit hd2 hdrop hcall hsame2
        go_wp2_with (fail)
        refine hC.out.mono ?_
        rintro e w3 ⟨rfl, hm3, hgr3⟩
        have HF3 := Lib.hid (HF2.out.act hbs HAP.out.sF HH.out.len hm3 hgr3 HAF.out)
        clear hm3 hgr3 hC
        go_wp2
        go_roundw
        case rel => exact ⟨k + 1, tdone t p, by go_num, by omega, ht.out.done p, HD2.out, by rw [show N - d.pend.length + (k + 1) = N - d.pend.length + k + 1 by omega]; exact HF3.out⟩
        case measure => simp [intOf]; omega
      · have hb1 := bit_no hbit
        rw [if_neg hbit] at hd2
        have HF2 := Lib.hid (FailAt.more hF2 (Nat.le_succ _))
        have HB := Lib.hid hbit
        have HD2 := Lib.hid hd2
        have HDR := Lib.hid hdrop
        clear hF2 hbit hd2 hdrop hsame2
        go_wp2
        go_roundw
        case rel => exact ⟨k + 1, t, by go_num, by omega, ht, HD2.out, HF2.out⟩
        case measure => simp [intOf]; omega
    · have hkn' : k = n := by omega
      have hpl' : d.pend.length = k := by have := HPL.out; omega
      have hT2 : t = T := by
        have := hd.out
        rw [← hpl', List.drop_length, dpend] at this
        exact this
      subst hT2
      rw [← hpl'] at hF
      have hF' := FailAt.more hF (M' := N) (by have := HBD.out.safe; omega)
      have hgw := hF'.same g hgl HAP.out.gbs HAP.out.gF
      have hg3 := (World.cell?_of_block (a := ⟨g, 3, none⟩) hgw).trans c3
      have hzr := hF'.size
      have hK := mapsKeys_any (some L.bs) wr
      have hS := hF'.tab.sorted ht.out hN
      have HF := Lib.hid hF'
      have HHT := Lib.hid ht
      clear hF hF' hgw hkn' hpl' hkn
      have hfin := HF.out
      go_wp2_with (first
        | (go_at_call 59; refine hK.mono ?_; rintro e w2 ⟨rfl, rfl⟩)
        | (go_at_call 58; refine hS.mono ?_; rintro e w3 ⟨v, rfl, hr, hnil, hb⟩; obtain ⟨sa, sc, rfl, hsn⟩ := row_open hr; have HRN := Lib.hid hr; have HSN := Lib.hid hsn; have HB3 := Lib.hid hb; clear hr hnil hsn hb))
      have hF3 : FailAt w L d (keep.drop d.pend.length) t N d.files w3 := HF.out.below HAF.out hbs HH.out.len (((Below.refl _ wr).alloc (Nat.le_refl _) _).trans (HB3.out.mono (by simp)))
      have hz3 := hF3.size
      have htl : (tnames t).length = t.length := by unfold tnames; rw [List.length_map]
      obtain ⟨q, hq⟩ : ∃ q, Hid (d.pend.length = q) := ⟨_, rfl⟩
      obtain ⟨FS, hFS⟩ : ∃ FS, Hid (dfiles keep t q d.files = FS) := ⟨_, rfl⟩
      rw [hq.out] at hF3
      have HF3 := Lib.hid hF3
      have HSL := Lib.hid (fun f hf => HOK.out.safeLe f hf : ∀ f ∈ d.files, f.safe ≤ f.data.length)
      have HDL := Lib.hid (fun f hf => Nat.le_trans (HBD.out.data f hf) HBD.out.room : ∀ f ∈ d.files, f.data.length ≤ 268435456)
      have HTIN : Hid (∀ x ∈ t, x.2 < d.files.length) := by
        have hin := dpend_in keep d.files.length d.pend 0 d.safe HOK.out.safeIn HOK.out.pendIn
        rw [hT.out] at hin
        exact hin
      clear hF3
      have htl32 : t.length < 4294967296 := by
        have h1 := dpend_len keep d.pend 0 d.safe
        rw [hT.out] at h1
        have := HBD.out.safe
        omega
      have HTL := Lib.hid htl
      clear htl
      obtain ⟨wz, hwz⟩ : ∃ wz : World, wz = wr := ⟨_, rfl⟩
      rw [← hwz] at *
      clear hwz
      go_loopw [39] (fun jv wr => ∃ (m : Nat) (fs : List Fl), jv = .int .i64 m ∧ m ≤ t.length ∧ FailRel w w3 L d keep t N q FS m fs wr) (fun jv _ => t.length - (intOf jv).toNat)
      case atStart => exact ⟨0, d.files, rfl, Nat.zero_le _, hFS.out, HF3.out, HSL.out, HDL.out, fun _ _ _ => rfl, Nat.le_refl _⟩
      case round =>
        obtain ⟨m, fs, rfl, hm, hR⟩ := hrel
        have hF4 := hR.at_
        have hkp := Lib.hid hR.keep_
        have hsl := Lib.hid hR.safe
        have hdl := Lib.hid hR.data
        have hsz := hR.size
        have HREL := Lib.hid hR
        clear hR
        by_cases hlt2 : m < t.length
        · have hlt2n : m < (tnames t).length := by have := HTL.out; omega
          obtain ⟨⟨nm, fi⟩, hx⟩ : ∃ x, t[m]? = some x := ⟨_, List.getElem?_eq_getElem hlt2⟩
          have hmem := List.mem_of_getElem? hx
          have htg := tget_of_mem ht.out hmem
          have hfi : fi < fs.length := by have := HTIN.out _ hmem; have := hF4.len; simp only at *; omega
          have hnl : nm.length ≤ maxLen := hF4.tab.nameLen nm (List.mem_map.2 ⟨_, hmem, rfl⟩)
          unfold maxLen at hnl
          have hnx : ((tnames t).map encStr)[m]? = some (strV nm) := by
            unfold tnames
            rw [List.map_map, List.getElem?_map, hx]; rfl
          obtain ⟨gs, rfl, hsc, hgs⟩ := HSN.out m _ hnx
          have hgb := HRN.out.lt gs hgs
          rw [World.size_alloc] at hgb
          have hnc := (World.cell?_of_block (a := ⟨gs, m, none⟩) (hkp.out gs (by show w.heap.size < gs; omega) hgb.2)).trans hsc
          have hlk := hF4.tab.look ht.out nm hnl
          rw [htg] at hlk
          simp only [fileV] at hlk
          have hg34 := (World.cell?_of_block (a := ⟨g, 3, none⟩) (hF4.same g hgl HAP.out.gbs HAP.out.gF)).trans c3
          have hf0 := (hF4.files fi hfi).cell 0
          have hf1 := (hF4.files fi hfi).cell 1
          simp only [flCells, List.getElem?_cons_zero, List.getElem?_cons_succ] at hf0 hf1
          have hsle : (fat fs fi).safe ≤ (fat fs fi).data.length := hsl.out _ (fat_mem hfi)
          have hdle : (fat fs fi).data.length ≤ 268435456 := hdl.out _ (fat_mem hfi)
          have hnext := fun r => ((hF4.drewN r).next hbs HH.out.len HAF.out).mono (R' := fun e w5 => e = .returned (.int .i64 (keepAt keep (q + m))) ∧ FailAt w L d (keep.drop (q + (m + 1))) t N fs w5 ∧ (wr.drewN r).grownBy w5 (some w.heap.size)) (fun e w5 ⟨he, h1, h2⟩ => ⟨by rw [he, headD_drop], by rw [List.tail_drop] at h1; exact h1, h2⟩)
          have hs0 := str_size (fat fs fi).data
          obtain ⟨r, hr⟩ : ∃ r, Hid ((fat fs fi).data.length - (fat fs fi).safe = r) := ⟨_, rfl⟩
          have hwr : IntKind.i64.wrap (((fat fs fi).data.length : Int) - ((fat fs fi).safe : Int)) = (r : Int) := by have := hr.out; rw [IntWalk.i64_in _ (by omega)]; omega
          have hr32 : r ≤ 268435456 := by have := hr.out; omega
          have HF4 := Lib.hid hF4
          have HX := Lib.hid hx
          have HMEM := Lib.hid hmem
          have HNX2 := Lib.hid hnext
          have HHN := Lib.hid hgs
          clear hF4 hx hmem htg hnx hsc hgs hgb hnext hnl
          go_wp2_with (fail)
          go_quiet (fail)
          go_wp2_with (fail)
          refine (HNX2.out _).mono ?_
          rintro e w5 ⟨rfl, hF5, hg5⟩
          have hFi : FailAt w L d (keep.drop (q + (m + 1))) t N fs w5 := hF5
          have h50 := (hF5.files fi hfi).cell 0
          have h51 := (hF5.files fi hfi).cell 1
          have hfr0 := (hF5.files fi hfi).free 0
          have hfr1 := (hF5.files fi hfi).free 1
          simp only [flCells, List.getElem?_cons_zero, List.getElem?_cons_succ] at h50 h51
          have hz5 : wr.heap.size ≤ w5.heap.size := hg5.size
          have hkp5 : Hid (∀ i, w.heap.size < i → i < w3.heap.size → w5.heap[i]? = w3.heap[i]?) := fun i h1 h2 => (hg5.block i (by show i < wr.heap.size; omega) (fun e => by simp at e; omega)).trans (hkp.out i h1 h2)
          have HF5 := Lib.hid hFi
          have hmod := Int.emod_nonneg (keepAt keep (q + m)) (show (4 : Int) ≠ 0 by omega)
          have hmod2 := Int.emod_lt_of_pos (keepAt keep (q + m)) (show (0 : Int) < 4 by omega)
          clear hFi hF5 hf0 hf1
          obtain ⟨c, hc⟩ : ∃ c : Int, Hid (keepAt keep (q + m) = c) := ⟨_, rfl⟩
          rw [hc.out] at hmod hmod2 ⊢
          have hb3 := bits_and3 c
          have hcase : c % 4 = 0 ∨ c % 4 = 1 ∨ c % 4 = 2 ∨ c % 4 = 3 := by omega
          clear hmod hmod2
          rcases hcase with h4 | h4 | h4 | h4
          all_goals rw [h4] at hb3
          all_goals have H4 := Lib.hid h4
          all_goals clear h4
          · have hsp := slice_pre (fat fs fi).data (fat fs fi).safe hsle
            go_wp2_with (fail)
            go_region
            go_wp2_with (fail)
            go_roundw
            case rel => exact ⟨m + 1, _, by go_num, by omega, HREL.out.round HX.out hc.out hfi hbs HAP.out.sF HAP.out.FF HH.out.len HAF.out HF5.out hkp5.out (by omega) (cut_cells (HF5.out.files fi hfi) (by rw [dcut0 H4.out]) (by rw [dcut0 H4.out])) (fun k _ hne => set2_old hne) (by simp [World.setCell]) rfl rfl rfl⟩
            case measure => simp [intOf]; omega
          · go_wp2_with (fail)
            go_roundw
            case rel => exact ⟨m + 1, _, by go_num, by omega, HREL.out.round HX.out hc.out hfi hbs HAP.out.sF HAP.out.FF HH.out.len HAF.out HF5.out hkp5.out (by omega) (by rw [dcut1 H4.out]; exact (HF5.out.files fi hfi).set 1 (.int .i64 (fat fs fi).data.length)) (fun k _ hne => Below.heap_setCell _ _ _ _ hne) (by simp [World.setCell]) rfl rfl rfl⟩
            case measure => simp [intOf]; omega
          · have hsp := slice_preJ (fat fs fi).data ((fat fs fi).safe + r / 2) ((fat fs fi).safe + r / 2) (by omega) (by have := hr.out; omega)
            go_wp2_with (fail)
            go_region
            go_wp2_with (fail)
            go_roundw
            case rel => exact ⟨m + 1, _, by go_num, by omega, HREL.out.round HX.out hc.out hfi hbs HAP.out.sF HAP.out.FF HH.out.len HAF.out HF5.out hkp5.out (by omega) (cut_cells (HF5.out.files fi hfi) (by rw [dcut2 H4.out, hr.out]) (by rw [dcut2 H4.out, hr.out])) (fun k _ hne => set2_old hne) (by simp [World.setCell]) rfl rfl rfl⟩
            case measure => simp [intOf]; omega
          · have hsp := slice_pre (fat fs fi).data (fat fs fi).safe hsle
            have hfl5 := (HF5.out.files fi hfi).lt
            have hrp := (strRepeat_any r w5.drew (by omega)).mono (R' := fun e w6 => e = .returned (strV (List.replicate r 0)) ∧ w6.cell? ⟨fb L.F fi, 0, none⟩ = some (strV (fat fs fi).data) ∧ w6.cell? ⟨fb L.F fi, 1, none⟩ = some (.int .i64 (fat fs fi).safe) ∧ w6.frozen? ⟨fb L.F fi, 0, none⟩ = false ∧ w6.frozen? ⟨fb L.F fi, 1, none⟩ = false ∧ Hid (Below w5.heap.size w5 w6)) (fun e w6 ⟨he, hb⟩ => ⟨he, (hb.cell (p := ⟨fb L.F fi, 0, none⟩) hfl5).trans h50, (hb.cell (p := ⟨fb L.F fi, 1, none⟩) hfl5).trans h51, (hb.frozen (p := ⟨fb L.F fi, 0, none⟩) hfl5).trans hfr0, (hb.frozen (p := ⟨fb L.F fi, 1, none⟩) hfl5).trans hfr1, ⟨hb.os, hb.tape, hb.output, hb.size, hb.block⟩⟩)
            have had := add_run ((fat fs fi).data.take (fat fs fi).safe) (List.replicate r 0) (by simp; omega)
            go_wp2_with (fail)
            go_region_with (go_at_call 119; refine hrp.mono ?_; rintro e w6 ⟨rfl, k60, k61, f60, f61, hb6⟩)
            all_goals go_wp2_with (fail)
            all_goals go_roundw
            case' rel => exact ⟨m + 1, _, by go_num, by omega, HREL.out.round HX.out hc.out hfi hbs HAP.out.sF HAP.out.FF HH.out.len HAF.out HF5.out hkp5.out (by omega) (cut_cells ((HF5.out.files fi hfi).below hb6.out hfl5) (by rw [dcut3 H4.out, hr.out]) (by rw [dcut3 H4.out, hr.out])) (fun k hk hne => (set2_old hne).trans (hb6.out.block k hk)) (by have := hb6.out.size; simp [World.setCell]; omega) hb6.out.os hb6.out.tape hb6.out.output⟩
            all_goals first
              | (simp [intOf]; omega)
              | exact ⟨m + 1, _, by go_num, by omega, HREL.out.round HX.out hc.out hfi hbs HAP.out.sF HAP.out.FF HH.out.len HAF.out HF5.out hkp5.out (by omega) (cut_cells ((HF5.out.files fi hfi).below hb6.out hfl5) (by rw [dcut3 H4.out, hr.out]) (by rw [dcut3 H4.out, hr.out])) (fun k hk hne => (set2_old hne).trans (hb6.out.block k hk)) (by have := hb6.out.size; simp [World.setCell]; omega) hb6.out.os hb6.out.tape hb6.out.output⟩
        · have hlt2n : ¬ m < (tnames t).length := by have := HTL.out; omega
          have hg36 := (World.cell?_of_block (a := ⟨g, 3, none⟩) (hF4.same g hgl HAP.out.gbs HAP.out.gF)).trans c3
          have hC := hF4.tab.clone
          have hmt : m = t.length := by omega
          have hfsE : fs = FS := by
            have := HREL.out.left
            rw [hmt, List.drop_length, dfiles] at this
            exact this
          have HF4 := Lib.hid hF4
          have hgw := hF4.same g hgl HAP.out.gbs HAP.out.gF
          have hbk : Blk wr g (dkCells L d) 101 := HH.out.blk.same hgw
          have hz4 := hF4.size
          have HBK := Lib.hid hbk
          have HFE := Lib.hid hfsE
          clear hF4 hgw hmt hfsE hm
          go_wp2_with (fail)
          refine hC.mono ?_
          rintro e w6 ⟨rfl, hm6, hb6, hz6⟩
          have hgk6 : Blk w6 g (dkCells L d) 101 := HBK.out.below hb6 (by omega)
          have j0 := hgk6.cell 0
          have j2 := hgk6.cell 2
          have j4 := hgk6.cell 4
          have j5 := hgk6.cell 5
          have j6 := hgk6.cell 6
          have z0 := hgk6.free 0
          have z2 := hgk6.free 2
          have z4 := hgk6.free 4
          have z5 := hgk6.free 5
          have z6 := hgk6.free 6
          simp only [dkCells, List.getElem?_cons_zero, List.getElem?_cons_succ] at j0 j2 j4 j5 j6
          have HD := Lib.hid (fail_done (wc := w6) (w8 := wr) (g := g) (keep := keep) HH.out (by rw [hT.out, hq.out, hFS.out, ← HFE.out]; exact HF4.out) (by rw [hT.out]; exact hm6) hb6 hz6 (Nat.sub_zero N))
          clear hm6 hb6 hz6 hgk6 hbk
          go_wp2_with (fail)
          go_end0
          exact ⟨rfl, _, HD.out.1, HD.out.2⟩
end Go.Proofs.YtfgpigblnkanpaaGreatDoor
