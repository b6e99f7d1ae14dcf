/- Printed by gen_jo.py. The walks of the journal's begin and Open. The walks of the journal's Open, Len, Reset. What a journal does on a disk that has its file alone. Plain data. -/
import Derived.Test.YtfgpigblnkanpaaGreatDoorHJ
namespace Go.Proofs.YtfgpigblnkanpaaGreatDoor
open Go.RowKit Go.Maps Go.Shelf
set_option linter.unusedVariables false
set_option linter.unusedSimpArgs false

theorem jbegin_le : ∀ (k : Nat) (t : List UInt8), t.length ≤ k → (jbegin t).2 ≤ t.length ∧ (jbegin t).1.length ≤ t.length
  | 0, t, h => by
    have : t = [] := List.eq_nil_of_length_eq_zero (by omega)
    subst this
    rw [jbegin_nil]; exact ⟨Nat.le_refl _, Nat.le_refl _⟩
  | k + 1, t, h => by
    cases e : jnext t with
    | none => rw [jbegin_none e]; exact ⟨Nat.zero_le _, Nat.zero_le _⟩
    | some x =>
      obtain ⟨r, m⟩ := x
      have hm := jnext_le e
      have hr := jbegin_le k (t.drop m) (by rw [List.length_drop]; omega)
      rw [jbegin_some e]
      rw [List.length_drop] at hr
      simp only [List.length_cons]
      omega
/-- Behind begin: the disk, the records, the error's number. -/
structure Jb where
  d : Dk
  l : List (List UInt8)
  e : Nat
def jrest (d : Dk) (nm : Nm) (l : List (List UInt8)) : Jb :=
  if (ddo d (.sync nm)).2 ≠ 0 then ⟨(ddo d (.sync nm)).1, [], (ddo d (.sync nm)).2⟩ else ⟨(ddo (ddo d (.sync nm)).1 .flush).1, l, (ddo (ddo d (.sync nm)).1 .flush).2⟩
def jfill (d : Dk) (nm : Nm) : Jb :=
  if (dread d nm).2 = 18 then (if (ddo d (.create nm)).2 ≠ 0 then ⟨(ddo d (.create nm)).1, [], (ddo d (.create nm)).2⟩ else jrest (ddo d (.create nm)).1 nm [])
  else if (dread d nm).2 = 0 then
    (if (jbegin (dread d nm).1).2 < (dread d nm).1.length then
      (if (jcut d nm ((dread d nm).1.take (jbegin (dread d nm).1).2)).2 ≠ 0 then ⟨(jcut d nm ((dread d nm).1.take (jbegin (dread d nm).1).2)).1, [], (jcut d nm ((dread d nm).1.take (jbegin (dread d nm).1).2)).2⟩
       else jrest (jcut d nm ((dread d nm).1.take (jbegin (dread d nm).1).2)).1 nm (jbegin (dread d nm).1).1)
     else jrest d nm (jbegin (dread d nm).1).1)
  else ⟨d, [], (dread d nm).2⟩
def jstart (d : Dk) (nm : Nm) : Jb :=
  if (dread d (jhandN nm)).2 = 0 then
    (if (ddo d (.remove (jhandN nm))).2 ≠ 0 then ⟨(ddo d (.remove (jhandN nm))).1, [], (ddo d (.remove (jhandN nm))).2⟩
     else if (ddo (ddo d (.remove (jhandN nm))).1 .flush).2 ≠ 0 then ⟨(ddo (ddo d (.remove (jhandN nm))).1 .flush).1, [], (ddo (ddo d (.remove (jhandN nm))).1 .flush).2⟩
     else jfill (ddo (ddo d (.remove (jhandN nm))).1 .flush).1 nm)
  else jfill d nm
/-- No more texts than there is room for. -/
def CapOk (v : Value) : Prop := ∀ a n c, v = .slice a n c → n ≤ c
theorem cap_nil : CapOk (.slice none 0 0) := fun a n c h => by simp only [Value.slice.injEq] at h; omega
theorem cap_row {w : World} {B : Nat} {e : TypeId} {v : Value} {n : Nat} {xs : List Value} (h : w.ownsRow B e 1 v n xs) : CapOk v := by
  intro a m c hv
  rcases h.2 with ⟨rfl, h0⟩ | ⟨g, cap, cur, rfl, _, _, h1, _⟩
  · simp only [Value.slice.injEq] at hv; omega
  · simp only [Value.slice.injEq] at hv; omega
theorem row_lessN {w : World} {B B' : Nat} {e : TypeId} {size : Nat} {v : Value} {n : Nat} {xs : List Value} (h : w.ownsRow B e size v n xs) (hb : B' ≤ B) : w.ownsRow B' e size v n xs := by
  rcases h.2 with h0 | ⟨g, cap, cur, h1, h2, h3⟩
  · exact ⟨h.1, Or.inl h0⟩
  · exact ⟨h.1, Or.inr ⟨g, cap, cur, h1, Nat.le_trans hb h2, h3⟩⟩
/-- Texts in memory of their own: none of the blocks K. -/
def Newr (n : Nat) (K : List Nat) (w : World) (v : Value) (l : List (List UInt8)) : Prop := w.ownsRow n 9 1 v l.length (l.map strV) ∧ ∀ k, v.ownBlock = some k → k ∉ K
theorem Newr.nil (n : Nat) (K : List Nat) (w : World) : Newr n K w (.slice none 0 0) [] := ⟨World.ownsRow_nil _ _ _ _, fun k hk => by simp [Value.ownBlock] at hk⟩
theorem Newr.same {n : Nat} {K : List Nat} {w w' : World} {v : Value} {l : List (List UInt8)} (h : Newr n K w v l) (hs : ∀ k, v.ownBlock = some k → w'.heap[k]? = w.heap[k]?) : Newr n K w' v l := ⟨ownsRow_same h.1 hs, h.2⟩
theorem Newr.texts {n : Nat} {K : List Nat} {w : World} {v : Value} {l : List (List UInt8)} (h : Newr n K w v l) : TextsAt w v l := RowAt.of_row h.1
/-- All files are small. -/
def Small (d : Dk) : Prop := ∀ i, (fat d.files i).data.length ≤ 4398046511104
theorem Small.read {d : Dk} (h : Small d) {m : Nm} {x : List UInt8} {k : Nat} (hr : dread d m = (x, k)) : x.length ≤ 8796093022208 := by
  unfold dread at hr
  split at hr
  · simp only [Prod.mk.injEq] at hr; rw [← hr.1]; simp
  · split at hr
    · simp only [Prod.mk.injEq] at hr; rw [← hr.1]; simp
    · rename_i f _
      simp only [Prod.mk.injEq] at hr
      have := h f
      rw [← hr.1]
      omega
theorem fat_out {fs : List Fl} {i : Nat} (h : fs.length ≤ i) : fat fs i = ⟨[], 0⟩ := by
  unfold fat
  rw [List.getD_eq_getElem?_getD, List.getElem?_eq_none h]
  rfl
theorem Small.ro {d : Dk} (h : Small d) (m : Nm) : Small (ddo d (.remove m)).1 ∨ (ddo d (.remove m)).2 ≠ 0 := by
  unfold ddo
  split
  · exact Or.inr (by simp)
  · split
    · rename_i h1; exact Or.inr h1
    · split
      · exact Or.inr (by simp)
      · exact Or.inl h
theorem Small.fl {d : Dk} (h : Small d) : Small (ddo d .flush).1 ∨ (ddo d .flush).2 ≠ 0 := by
  unfold ddo
  split
  · exact Or.inr (by simp)
  · split
    · rename_i h1; exact Or.inr h1
    · split
      · exact Or.inr (by simp)
      · exact Or.inl h
section
variable {w0 w w1 w2 W : World} {K A : List Nat} {jb g : Nat} {d d' : Dk} {N N' e' : Nat} {nm : Nm} {n : Nat} {c : Bool}
theorem Jl.add (h : Jl w0 w K A jb g d N nm n c) (hb : Below w.heap.size w W) (M : List Nat) (hM : ∀ k ∈ M, w.heap.size ≤ k ∧ k < W.heap.size) : Jl w0 W (M ++ K) A jb g d N nm n c := by
  have h2 := h.below hb
  have hj := h.j.lt
  refine ⟨⟨h2.m.hd, h2.m.base, h2.m.bel, fun k hk => ?_⟩, h2.j, h2.base, fun hm => ?_, h2.len⟩
  · rcases List.mem_cons.1 hk with rfl | hk
    · exact h2.m.far _ List.mem_cons_self
    · rcases List.mem_append.1 hk with hk | hk
      · exact ⟨(hM k hk).2, fun hm => by have := h.m.hd.lt k hm; have := (hM k hk).1; omega⟩
      · exact h2.m.far k (List.mem_cons_of_mem _ hk)
  · rcases List.mem_append.1 hm with hm | hm
    · have := (hM _ hm).1; omega
    · exact h2.out hm
theorem Jl.less {M : List Nat} (h : Jl w0 w (M ++ K) A jb g d N nm n c) : Jl w0 w K A jb g d N nm n c := ⟨h.m.less (fun k hk => (List.mem_cons.1 hk).elim (fun e => e ▸ List.mem_cons_self) (fun h => List.mem_cons_of_mem _ (List.mem_append_right _ h))), h.j, h.base, fun hm => h.out (List.mem_append_right _ hm), h.len⟩
theorem Jl.hand (h : Jl w0 w K A jb g d N nm n c) : Calls Tryz.prog 103 #[.pointer (some ⟨jb, 0, none⟩)] w.drew fun e w' => e = .returned (strV (jhandN nm)) ∧ w' = w.drew :=
  (jhand_any w.drew jb nm h.cells.2.1 (by have := h.len; omega)).mono fun e w' hp => ⟨hp.1, hp.2.symm⟩
theorem Jl.read (h : Jl w0 w K A jb g d N nm n c) (m : Nm) (hm : m.length ≤ 201) {x : List UInt8} {k : Nat} (hc : dread d m = (x, k)) : Calls Tryz.prog 21 #[.pointer (some ⟨g, 0, none⟩), strV m] w.drew fun e w' => e = .returned (.tuple #[strV x, errV k]) ∧ w' = w.drew :=
  (Read_m (h.below (Below.refl _ _).drew).m m hc (by omega)).mono fun e w' hp => ⟨hp.1, hp.2.symm⟩
end
set_option maxHeartbeats 16000000 in
set_option maxRecDepth 100000 in
theorem jbegin_any {w0 w : World} {K A : List Nat} {jb g : Nat} {d : Dk} {N : Nat} {nm : Nm} {n : Nat} {c : Bool} (h : Jl w0 w K A jb g d N nm n c) (hN : N + 10 < 4294967296) (hfl : Small d) :
    Calls Tryz.prog 106 #[.pointer (some ⟨jb, 0, none⟩)] w fun e w' => ∃ v A', e = .returned (.tuple #[v, errV (jstart d nm).e]) ∧ Jl w0 w' (v.ownBlock.toList ++ K) A' jb g (jstart d nm).d (N + 10) nm n c ∧ (∀ k ∈ K, w'.heap[k]? = w.heap[k]?) ∧ Newr w0.heap.size K w' v (jstart d nm).l ∧ CapOk v := by
  have hhl := jhandN_len h.len
  have hlen := h.len
  obtain ⟨J, hJ⟩ : ∃ J, jstart d nm = J := ⟨_, rfl⟩
  rw [hJ]
  have HJJ := Lib.hid hJ
  clear hJ
  obtain ⟨x0, k0, hr0⟩ : ∃ x k, dread d (jhandN nm) = (x, k) := ⟨_, _, rfl⟩
  have HR0 := Lib.hid hr0
  obtain ⟨c0, c1, c2, c3⟩ := h.cells
  have HH := h.hand
  have HR := h.read (jhandN nm) (by omega) hr0
  have H := Lib.hid h
  have HK : Hid (∀ k ∈ K, w.heap[k]? = w.heap[k]?) := fun _ _ => rfl
  clear hr0 h
  by_cases z0 : k0 = 0
  · subst z0
    rw [errV_none] at HR
    go_enter Tryz.func106, Tryz.ntmps106
    go_upto_region 1 with (fail)
    refine wp_region_still_lit (by kernel_rfl) (by kernel_rfl) ?_
    repeat still_step
    still_call HH
    repeat still_step
    still_call HR
    repeat still_step
    refine wpStill_nil ?_
    have hdr := (Below.refl w.heap.size w).drew
    have H := Lib.hid (H.out.below hdr)
    have HKE : Hid (∀ k ∈ K, w.drew.heap[k]? = w.heap[k]?) := fun _ _ => rfl
    clear hdr HH HR
    go_upto_region 3 with (fail)
    generalize w.drew = wE at *
    have HH := H.out.hand
    obtain ⟨d1, e1, ho1⟩ : ∃ d' e', ddo d (.remove (jhandN nm)) = (d', e') := ⟨_, _, rfl⟩
    have hop := jl_remove H.out (Below.refl _ _).drew (by omega) (jhandN nm) (by omega)
    rw [ho1] at hop
    have HO1 := Lib.hid ho1
    have HOP := Lib.hid hop
    clear hop ho1
    clear c0 c1 c2 c3
    obtain ⟨c0, c1, c2, c3⟩ := H.out.cells
    go_upto_region 3 with (fail)
    refine wp_region_still_tail 6 (by kernel_rfl) (by kernel_rfl) ?_
    simp only [List.take_succ_cons, List.take_zero, List.drop_succ_cons, List.drop_zero]
    repeat still_step
    still_call HH
    repeat still_step
    refine wpStill_nil ?_
    clear HH
    go_wp2_with (fail)
    refine HOP.out.mono ?_
    rintro e w1 ⟨rfl, ⟨A1, h1⟩, hk1⟩
    have H1 := Lib.hid h1
    have HK1 := Lib.hid fun k hk => (hk1 k hk).trans (HKE.out k hk)
    clear h1 hk1 HOP
    by_cases z1 : e1 = 0
    · subst z1
      rw [errV_none]
      obtain ⟨d2, e2, ho2⟩ : ∃ d' e', ddo d1 .flush = (d', e') := ⟨_, _, rfl⟩
      have hop := jl_flush H1.out (Below.refl _ _) (by omega)
      rw [ho2] at hop
      have HO2 := Lib.hid ho2
      have HOP := Lib.hid hop
      clear hop ho2
      clear c0 c1 c2 c3
      obtain ⟨c0, c1, c2, c3⟩ := H1.out.cells
      go_wp2_with (fail)
      refine HOP.out.mono ?_
      rintro e w2 ⟨rfl, ⟨A2, h2⟩, hk2⟩
      have H2 := Lib.hid h2
      have HK2 := Lib.hid fun k hk => (hk2 k hk).trans (HK1.out k hk)
      clear h2 hk2 HOP
      by_cases z2 : e2 = 0
      · subst z2
        rw [errV_none]
        have HFL : Hid (Small d2) := by
          show Small _
          have h1 : Small d1 := by
            rcases hfl.ro (jhandN nm) with h | h
            · rw [HO1.out] at h; exact h
            · rw [HO1.out] at h; exact absurd rfl h
          rcases h1.fl with h | h
          · rw [HO2.out] at h; exact h
          · rw [HO2.out] at h; exact absurd rfl h
        obtain ⟨x, k, hr⟩ : ∃ x k, dread d2 nm = (x, k) := ⟨_, _, rfl⟩
        have HRX := Lib.hid hr
        have hxl : x.length ≤ 8796093022208 := HFL.out.read  hr
        have HRD := H2.out.read nm (by omega) hr
        clear hr
        clear c0 c1 c2 c3
        obtain ⟨c0, c1, c2, c3⟩ := H2.out.cells
        by_cases z18 : k = 18
        · subst z18
          rw [errV_some (n := 18) (by omega)] at HRD
          go_upto_region 9 with (fail)
          refine wp_region_still_lit (by kernel_rfl) (by kernel_rfl) ?_
          repeat still_step
          still_call HRD
          repeat still_step
          refine wpStill_nil ?_
          have hI := Is_errno 18 18 (w2).drew
          have HI := Lib.hid hI
          clear hI HRD
          go_wp2_with (fail)
          refine HI.out.mono ?_
          rintro e wI ⟨rfl, rfl⟩
          have hdr := (Below.refl (w2).heap.size (w2)).drew
          have HD := Lib.hid (H2.out.below hdr)
          have HKD : Hid (∀ k ∈ K, (w2).drew.heap[k]? = w.heap[k]?) := HK2.out
          clear hdr
          go_upto_region 12 with (fail)
          generalize (w2).drew = wD at *
          obtain ⟨d3, e3, ho3⟩ : ∃ d' e', ddo d2 (.create nm) = (d', e') := ⟨_, _, rfl⟩
          have hop := jl_create HD.out (Below.refl _ _).drew (by omega) nm (by omega)
          rw [ho3] at hop
          have HO3 := Lib.hid ho3
          have HOP := Lib.hid hop
          clear hop ho3
          clear c0 c1 c2 c3
          obtain ⟨c0, c1, c2, c3⟩ := HD.out.cells
          go_upto_region 12 with (fail)
          refine wp_region_still_tail 8 (by kernel_rfl) (by kernel_rfl) ?_
          simp only [List.take_succ_cons, List.take_zero, List.drop_succ_cons, List.drop_zero]
          repeat still_step
          refine wpStill_nil ?_
          go_wp2_with (fail)
          refine HOP.out.mono ?_
          rintro e w3 ⟨rfl, ⟨A3, h3⟩, hk3⟩
          have H3 := Lib.hid h3
          have HK3 := Lib.hid fun k hk => (hk3 k hk).trans (HKD.out k hk)
          clear h3 hk3 HOP
          by_cases z3 : e3 = 0
          · subst z3
            rw [errV_none]
            obtain ⟨d4, e4, ho4⟩ : ∃ d' e', ddo d3 (.sync nm) = (d', e') := ⟨_, _, rfl⟩
            have hop := jl_sync H3.out (Below.refl _ _).drew (by omega) nm (by omega)
            rw [ho4] at hop
            have HO4 := Lib.hid ho4
            have HOP := Lib.hid hop
            clear hop ho4
            clear c0 c1 c2 c3
            obtain ⟨c0, c1, c2, c3⟩ := H3.out.cells
            go_upto_region 20 with (fail)
            refine wp_region_still_tail 8 (by kernel_rfl) (by kernel_rfl) ?_
            simp only [List.take_succ_cons, List.take_zero, List.drop_succ_cons, List.drop_zero]
            repeat still_step
            refine wpStill_nil ?_
            go_wp2_with (fail)
            refine HOP.out.mono ?_
            rintro e w4 ⟨rfl, ⟨A4, h4⟩, hk4⟩
            have H4 := Lib.hid h4
            have HK4 := Lib.hid fun k hk => (hk4 k hk).trans (HK3.out k hk)
            clear h4 hk4 HOP
            by_cases z4 : e4 = 0
            · subst z4
              rw [errV_none]
              obtain ⟨d5, e5, ho5⟩ : ∃ d' e', ddo d4 .flush = (d', e') := ⟨_, _, rfl⟩
              have hop := jl_flush H4.out (Below.refl _ _) (by omega)
              rw [ho5] at hop
              have HO5 := Lib.hid ho5
              have HOP := Lib.hid hop
              clear hop ho5
              clear c0 c1 c2 c3
              obtain ⟨c0, c1, c2, c3⟩ := H4.out.cells
              go_wp2_with (fail)
              refine HOP.out.mono ?_
              rintro e w5 ⟨rfl, ⟨A5, h5⟩, hk5⟩
              have H5 := Lib.hid h5
              have HK5 := Lib.hid fun k hk => (hk5 k hk).trans (HK4.out k hk)
              clear h5 hk5 HOP
              have hj : J = ⟨d5, [], e5⟩ := HJJ.out.symm.trans (by simp [jstart, jfill, jrest, HR0.out, HO1.out, HO2.out, HRX.out, HO3.out, HO4.out, HO5.out])
              have HJ2 := Lib.hid hj
              clear hj
              go_wp2
              go_ret2
              rw [HJ2.out]
              exact ⟨.slice none 0 0, A5, rfl, H5.out.mono (by omega), HK5.out, Newr.nil _ _ _, cap_nil⟩
            · rw [errV_some z4]
              have hj : J = ⟨d4, [], e4⟩ := HJJ.out.symm.trans (by simp [jstart, jfill, jrest, HR0.out, HO1.out, HO2.out, HRX.out, HO3.out, HO4.out, z4])
              have HJ2 := Lib.hid hj
              have HE := Lib.hid z4
              clear hj z4
              go_wp2
              go_ret2
              rw [HJ2.out]
              exact ⟨.slice none 0 0, A4, by rw [errV_some HE.out]; rfl, H4.out.mono (by omega), HK4.out, Newr.nil _ _ _, cap_nil⟩
          · rw [errV_some z3]
            have hj : J = ⟨d3, [], e3⟩ := HJJ.out.symm.trans (by simp [jstart, jfill, jrest, HR0.out, HO1.out, HO2.out, HRX.out, HO3.out, z3])
            have HJ2 := Lib.hid hj
            have HE := Lib.hid z3
            clear hj z3
            go_wp2
            go_ret2
            rw [HJ2.out]
            exact ⟨.slice none 0 0, A3, by rw [errV_some HE.out]; rfl, H3.out.mono (by omega), HK3.out, Newr.nil _ _ _, cap_nil⟩
        · by_cases zk : k = 0
          · subst zk
            rw [errV_none] at HRD
            go_upto_region 9 with (fail)
            refine wp_region_still_lit (by kernel_rfl) (by kernel_rfl) ?_
            repeat still_step
            still_call HRD
            repeat still_step
            refine wpStill_nil ?_
            have HI := Lib.hid (Is_nil 18 (w2).drew)
            have hdr := (Below.refl (w2).heap.size (w2)).drew
            have HD := Lib.hid (H2.out.below hdr)
            have HKD : Hid (∀ k ∈ K, (w2).drew.heap[k]? = w.heap[k]?) := HK2.out
            clear hdr HRD
            go_wp2_with (fail)
            refine HI.out.mono ?_
            rintro e wI ⟨rfl, rfl⟩
            go_upto_region 15 with (fail)
            generalize (w2).drew = wD at *
            have HBG := Lib.hid (jbeginning_any x wD hxl)
            have hble := jbegin_le x.length x (Nat.le_refl _)
            go_wp2_with (fail)
            refine HBG.out.mono ?_
            rintro e wB ⟨v, rfl, hrow, hbB⟩
            have HB := Lib.hid (HD.out.add hbB v.ownBlock.toList (fun j hj => hrow.lt j (by simpa using hj)))
            have HKW := Lib.hid fun k hk => (HD.out.same hbB k hk).trans (HKD.out k hk)
            have htx : Newr w0.heap.size K wB v (jbegin x).1 := ⟨row_lessN hrow HD.out.m.bel.size, fun k hk hm => by have h8 := (HD.out.m.far k (List.mem_cons_of_mem _ hm)).1; have h9 := (hrow.lt k hk).1; omega⟩
            have HTX := Lib.hid htx
            have HCP : Hid (CapOk v) := cap_row hrow
            obtain ⟨va, vc, rfl, -⟩ := row_open hrow
            clear hrow hbB htx HBG
            obtain ⟨R, m, hRm⟩ : ∃ R m, jbegin x = (R, m) := ⟨_, _, rfl⟩
            have HRM := Lib.hid hRm
            rw [hRm] at HTX hble HB HCP
            rw [hRm]
            simp only at HTX hble HB HCP ⊢
            have HKB : Hid (∀ k ∈ (Value.slice va R.length vc).ownBlock.toList ++ K, wB.heap[k]? = wB.heap[k]?) := fun _ _ => rfl
            clear hRm
            have hsx := str_size x
            by_cases hlt : m < x.length
            · have hx1 : (str x).extract 0 m = str (x.take m) := by rw [str_extract]; simp
              obtain ⟨d6, e6, ho6⟩ : ∃ d' e', jcut d2 nm (x.take m) = (d', e') := ⟨_, _, rfl⟩
              have hop := jcut_any HB.out (x.take m) (by rw [List.length_take]; omega) (by omega)
              rw [ho6] at hop
              have HO6 := Lib.hid ho6
              have HOP := Lib.hid hop
              clear hop ho6
              go_wp2_with (fail)
              refine HOP.out.mono ?_
              rintro e w6 ⟨rfl, ⟨A6, h6⟩, hk6⟩
              have H6 := Lib.hid h6
              have HT6 := Lib.hid (HTX.out.same (fun k hk => hk6 k (List.mem_append_left _ (by simp [hk]))))
              have HK6 : Hid (∀ k ∈ (Value.slice va R.length vc).ownBlock.toList ++ K, w6.heap[k]? = w6.heap[k]?) := fun _ _ => rfl
              have HKW6 := Lib.hid fun k hk => (hk6 k (List.mem_append_right _ hk)).trans (HKW.out k hk)
              clear h6 hk6 HOP
              by_cases z6 : e6 = 0
              · subst z6
                rw [errV_none]
                obtain ⟨d7, e7, ho7⟩ : ∃ d' e', ddo d6 (.sync nm) = (d', e') := ⟨_, _, rfl⟩
                have hop := jl_sync H6.out (Below.refl _ _).drew (by omega) nm (by omega)
                rw [ho7] at hop
                have HO7 := Lib.hid ho7
                have HOP := Lib.hid hop
                clear hop ho7
                clear c0 c1 c2 c3
                obtain ⟨c0, c1, c2, c3⟩ := H6.out.cells
                go_upto_region 20 with (fail)
                refine wp_region_still_tail 8 (by kernel_rfl) (by kernel_rfl) ?_
                simp only [List.take_succ_cons, List.take_zero, List.drop_succ_cons, List.drop_zero]
                repeat still_step
                refine wpStill_nil ?_
                go_wp2_with (fail)
                refine HOP.out.mono ?_
                rintro e w7 ⟨rfl, ⟨A7, h7⟩, hk7⟩
                have H7 := Lib.hid h7
                have HT7 := Lib.hid (HT6.out.same (fun k hk => hk7 k (List.mem_append_left _ (by simp [hk]))))
                have HKW7 := Lib.hid fun k hk => (hk7 k (List.mem_append_right _ hk)).trans (HKW6.out k hk)
                clear h7 hk7 HOP
                by_cases z7 : e7 = 0
                · subst z7
                  rw [errV_none]
                  obtain ⟨d8, e8, ho8⟩ : ∃ d' e', ddo d7 .flush = (d', e') := ⟨_, _, rfl⟩
                  have hop := jl_flush H7.out (Below.refl _ _) (by omega)
                  rw [ho8] at hop
                  have HO8 := Lib.hid ho8
                  have HOP := Lib.hid hop
                  clear hop ho8
                  clear c0 c1 c2 c3
                  obtain ⟨c0, c1, c2, c3⟩ := H7.out.cells
                  go_wp2_with (fail)
                  refine HOP.out.mono ?_
                  rintro e w8 ⟨rfl, ⟨A8, h8⟩, hk8⟩
                  have H8 := Lib.hid h8
                  have HT8 := Lib.hid (HT7.out.same (fun k hk => hk8 k (List.mem_append_left _ (by simp [hk]))))
                  have HKW8 := Lib.hid fun k hk => (hk8 k (List.mem_append_right _ hk)).trans (HKW7.out k hk)
                  clear h8 hk8 HOP
                  have hj : J = ⟨d8, R, e8⟩ := HJJ.out.symm.trans (by simp [jstart, jfill, jrest, HR0.out, HO1.out, HO2.out, HRX.out, HRM.out, HO6.out, hlt, HO7.out, HO8.out])
                  have HJ2 := Lib.hid hj
                  clear hj
                  go_wp2
                  go_ret2
                  rw [HJ2.out]
                  exact ⟨.slice va R.length vc, A8, rfl, H8.out.mono (by omega), HKW8.out, HT8.out, HCP.out⟩
                · rw [errV_some z7]
                  have hj : J = ⟨d7, [], e7⟩ := HJJ.out.symm.trans (by simp [jstart, jfill, jrest, HR0.out, HO1.out, HO2.out, HRX.out, HRM.out, HO6.out, hlt, HO7.out, z7])
                  have HJ2 := Lib.hid hj
                  have HE := Lib.hid z7
                  clear hj z7
                  go_wp2
                  go_ret2
                  rw [HJ2.out]
                  exact ⟨.slice none 0 0, A7, by rw [errV_some HE.out]; rfl, H7.out.less.mono (by omega), HKW7.out, Newr.nil _ _ _, cap_nil⟩
              · rw [errV_some z6]
                have hj : J = ⟨d6, [], e6⟩ := HJJ.out.symm.trans (by simp [jstart, jfill, jrest, HR0.out, HO1.out, HO2.out, HRX.out, HRM.out, HO6.out, hlt, z6])
                have HJ2 := Lib.hid hj
                have HE := Lib.hid z6
                clear hj z6
                go_wp2
                go_ret2
                rw [HJ2.out]
                exact ⟨.slice none 0 0, A6, by rw [errV_some HE.out]; rfl, H6.out.less.mono (by omega), HKW6.out, Newr.nil _ _ _, cap_nil⟩
            · have hme : m = x.length := by omega
              have hlt2 : ¬ m < x.length := hlt
              obtain ⟨d9, e9, ho9⟩ : ∃ d' e', ddo d2 (.sync nm) = (d', e') := ⟨_, _, rfl⟩
              have hop := jl_sync HB.out (Below.refl _ _).drew (by omega) nm (by omega)
              rw [ho9] at hop
              have HO9 := Lib.hid ho9
              have HOP := Lib.hid hop
              clear hop ho9
              clear c0 c1 c2 c3
              obtain ⟨c0, c1, c2, c3⟩ := HB.out.cells
              go_upto_region 20 with (fail)
              refine wp_region_still_tail 8 (by kernel_rfl) (by kernel_rfl) ?_
              simp only [List.take_succ_cons, List.take_zero, List.drop_succ_cons, List.drop_zero]
              repeat still_step
              refine wpStill_nil ?_
              go_wp2_with (fail)
              refine HOP.out.mono ?_
              rintro e w9 ⟨rfl, ⟨A9, h9⟩, hk9⟩
              have H9 := Lib.hid h9
              have HT9 := Lib.hid (HTX.out.same (fun k hk => hk9 k (List.mem_append_left _ (by simp [hk]))))
              have HKW9 := Lib.hid fun k hk => (hk9 k (List.mem_append_right _ hk)).trans (HKW.out k hk)
              clear h9 hk9 HOP
              by_cases z9 : e9 = 0
              · subst z9
                rw [errV_none]
                obtain ⟨d10, e10, ho10⟩ : ∃ d' e', ddo d9 .flush = (d', e') := ⟨_, _, rfl⟩
                have hop := jl_flush H9.out (Below.refl _ _) (by omega)
                rw [ho10] at hop
                have HO10 := Lib.hid ho10
                have HOP := Lib.hid hop
                clear hop ho10
                clear c0 c1 c2 c3
                obtain ⟨c0, c1, c2, c3⟩ := H9.out.cells
                go_wp2_with (fail)
                refine HOP.out.mono ?_
                rintro e w10 ⟨rfl, ⟨A10, h10⟩, hk10⟩
                have H10 := Lib.hid h10
                have HT10 := Lib.hid (HT9.out.same (fun k hk => hk10 k (List.mem_append_left _ (by simp [hk]))))
                have HKW10 := Lib.hid fun k hk => (hk10 k (List.mem_append_right _ hk)).trans (HKW9.out k hk)
                clear h10 hk10 HOP
                have hj : J = ⟨d10, R, e10⟩ := HJJ.out.symm.trans (by simp [jstart, jfill, jrest, HR0.out, HO1.out, HO2.out, HRX.out, HRM.out, hlt, HO9.out, HO10.out])
                have HJ2 := Lib.hid hj
                clear hj
                go_wp2
                go_ret2
                rw [HJ2.out]
                exact ⟨.slice va R.length vc, A10, rfl, H10.out.mono (by omega), HKW10.out, HT10.out, HCP.out⟩
              · rw [errV_some z9]
                have hj : J = ⟨d9, [], e9⟩ := HJJ.out.symm.trans (by simp [jstart, jfill, jrest, HR0.out, HO1.out, HO2.out, HRX.out, HRM.out, hlt, HO9.out, z9])
                have HJ2 := Lib.hid hj
                have HE := Lib.hid z9
                clear hj z9
                go_wp2
                go_ret2
                rw [HJ2.out]
                exact ⟨.slice none 0 0, A9, by rw [errV_some HE.out]; rfl, H9.out.less.mono (by omega), HKW9.out, Newr.nil _ _ _, cap_nil⟩
          · rw [errV_some zk] at HRD
            go_upto_region 9 with (fail)
            refine wp_region_still_lit (by kernel_rfl) (by kernel_rfl) ?_
            repeat still_step
            still_call HRD
            repeat still_step
            refine wpStill_nil ?_
            have hI := Is_errno k 18 (w2).drew
            rw [show ((k : Int) == 18) = false from by simp; omega] at hI
            have HI := Lib.hid hI
            clear hI HRD
            go_wp2_with (fail)
            refine HI.out.mono ?_
            rintro e wI ⟨rfl, rfl⟩
            have hj : J = ⟨d2, [], k⟩ := HJJ.out.symm.trans (by simp [jstart, jfill, jrest, HR0.out, HO1.out, HO2.out, HRX.out, z18, zk])
            have HJ2 := Lib.hid hj
            have HE := Lib.hid zk
            clear hj zk z18
            go_wp2
            go_ret2
            rw [HJ2.out]
            exact ⟨.slice none 0 0, A2, by rw [errV_some HE.out]; rfl, (H2.out.below ((Below.refl _ _).drew)).mono (by omega), HK2.out, Newr.nil _ _ _, cap_nil⟩
      · rw [errV_some z2]
        have hj : J = ⟨d2, [], e2⟩ := HJJ.out.symm.trans (by simp [jstart, jfill, jrest, HR0.out, HO1.out, HO2.out, z2])
        have HJ2 := Lib.hid hj
        have HE := Lib.hid z2
        clear hj z2
        go_wp2
        go_ret2
        rw [HJ2.out]
        exact ⟨.slice none 0 0, A2, by rw [errV_some HE.out]; rfl, H2.out.mono (by omega), HK2.out, Newr.nil _ _ _, cap_nil⟩
    · rw [errV_some z1]
      have hj : J = ⟨d1, [], e1⟩ := HJJ.out.symm.trans (by simp [jstart, jfill, jrest, HR0.out, HO1.out, z1])
      have HJ2 := Lib.hid hj
      have HE := Lib.hid z1
      clear hj z1
      go_wp2
      go_ret2
      rw [HJ2.out]
      exact ⟨.slice none 0 0, A1, by rw [errV_some HE.out]; rfl, H1.out.mono (by omega), HK1.out, Newr.nil _ _ _, cap_nil⟩
  · rw [errV_some z0] at HR
    go_enter Tryz.func106, Tryz.ntmps106
    go_upto_region 1 with (fail)
    refine wp_region_still_lit (by kernel_rfl) (by kernel_rfl) ?_
    repeat still_step
    still_call HH
    repeat still_step
    still_call HR
    repeat still_step
    refine wpStill_nil ?_
    have hdr := (Below.refl w.heap.size w).drew
    have H := Lib.hid (H.out.below hdr)
    have HKE : Hid (∀ k ∈ K, w.drew.heap[k]? = w.heap[k]?) := fun _ _ => rfl
    have HFL := Lib.hid hfl
    clear hdr HH HR
    go_upto_region 9 with (fail)
    generalize w.drew = wE at *
    obtain ⟨x, k, hr⟩ : ∃ x k, dread d nm = (x, k) := ⟨_, _, rfl⟩
    have HRX := Lib.hid hr
    have hxl : x.length ≤ 8796093022208 := HFL.out.read  hr
    have HRD := H.out.read nm (by omega) hr
    clear hr
    clear c0 c1 c2 c3
    obtain ⟨c0, c1, c2, c3⟩ := H.out.cells
    by_cases z18 : k = 18
    · subst z18
      rw [errV_some (n := 18) (by omega)] at HRD
      go_upto_region 9 with (fail)
      refine wp_region_still_lit (by kernel_rfl) (by kernel_rfl) ?_
      repeat still_step
      still_call HRD
      repeat still_step
      refine wpStill_nil ?_
      have hI := Is_errno 18 18 (wE).drew
      have HI := Lib.hid hI
      clear hI HRD
      go_wp2_with (fail)
      refine HI.out.mono ?_
      rintro e wI ⟨rfl, rfl⟩
      have hdr := (Below.refl (wE).heap.size (wE)).drew
      have HD := Lib.hid (H.out.below hdr)
      have HKD : Hid (∀ k ∈ K, (wE).drew.heap[k]? = w.heap[k]?) := HKE.out
      clear hdr
      go_upto_region 12 with (fail)
      generalize (wE).drew = wD at *
      obtain ⟨d11, e11, ho11⟩ : ∃ d' e', ddo d (.create nm) = (d', e') := ⟨_, _, rfl⟩
      have hop := jl_create HD.out (Below.refl _ _).drew (by omega) nm (by omega)
      rw [ho11] at hop
      have HO11 := Lib.hid ho11
      have HOP := Lib.hid hop
      clear hop ho11
      clear c0 c1 c2 c3
      obtain ⟨c0, c1, c2, c3⟩ := HD.out.cells
      go_upto_region 12 with (fail)
      refine wp_region_still_tail 8 (by kernel_rfl) (by kernel_rfl) ?_
      simp only [List.take_succ_cons, List.take_zero, List.drop_succ_cons, List.drop_zero]
      repeat still_step
      refine wpStill_nil ?_
      go_wp2_with (fail)
      refine HOP.out.mono ?_
      rintro e w11 ⟨rfl, ⟨A11, h11⟩, hk11⟩
      have H11 := Lib.hid h11
      have HK11 := Lib.hid fun k hk => (hk11 k hk).trans (HKD.out k hk)
      clear h11 hk11 HOP
      by_cases z11 : e11 = 0
      · subst z11
        rw [errV_none]
        obtain ⟨d12, e12, ho12⟩ : ∃ d' e', ddo d11 (.sync nm) = (d', e') := ⟨_, _, rfl⟩
        have hop := jl_sync H11.out (Below.refl _ _).drew (by omega) nm (by omega)
        rw [ho12] at hop
        have HO12 := Lib.hid ho12
        have HOP := Lib.hid hop
        clear hop ho12
        clear c0 c1 c2 c3
        obtain ⟨c0, c1, c2, c3⟩ := H11.out.cells
        go_upto_region 20 with (fail)
        refine wp_region_still_tail 8 (by kernel_rfl) (by kernel_rfl) ?_
        simp only [List.take_succ_cons, List.take_zero, List.drop_succ_cons, List.drop_zero]
        repeat still_step
        refine wpStill_nil ?_
        go_wp2_with (fail)
        refine HOP.out.mono ?_
        rintro e w12 ⟨rfl, ⟨A12, h12⟩, hk12⟩
        have H12 := Lib.hid h12
        have HK12 := Lib.hid fun k hk => (hk12 k hk).trans (HK11.out k hk)
        clear h12 hk12 HOP
        by_cases z12 : e12 = 0
        · subst z12
          rw [errV_none]
          obtain ⟨d13, e13, ho13⟩ : ∃ d' e', ddo d12 .flush = (d', e') := ⟨_, _, rfl⟩
          have hop := jl_flush H12.out (Below.refl _ _) (by omega)
          rw [ho13] at hop
          have HO13 := Lib.hid ho13
          have HOP := Lib.hid hop
          clear hop ho13
          clear c0 c1 c2 c3
          obtain ⟨c0, c1, c2, c3⟩ := H12.out.cells
          go_wp2_with (fail)
          refine HOP.out.mono ?_
          rintro e w13 ⟨rfl, ⟨A13, h13⟩, hk13⟩
          have H13 := Lib.hid h13
          have HK13 := Lib.hid fun k hk => (hk13 k hk).trans (HK12.out k hk)
          clear h13 hk13 HOP
          have hj : J = ⟨d13, [], e13⟩ := HJJ.out.symm.trans (by simp [jstart, jfill, jrest, HR0.out, z0, HRX.out, HO11.out, HO12.out, HO13.out])
          have HJ2 := Lib.hid hj
          clear hj
          go_wp2
          go_ret2
          rw [HJ2.out]
          exact ⟨.slice none 0 0, A13, rfl, H13.out.mono (by omega), HK13.out, Newr.nil _ _ _, cap_nil⟩
        · rw [errV_some z12]
          have hj : J = ⟨d12, [], e12⟩ := HJJ.out.symm.trans (by simp [jstart, jfill, jrest, HR0.out, z0, HRX.out, HO11.out, HO12.out, z12])
          have HJ2 := Lib.hid hj
          have HE := Lib.hid z12
          clear hj z12
          go_wp2
          go_ret2
          rw [HJ2.out]
          exact ⟨.slice none 0 0, A12, by rw [errV_some HE.out]; rfl, H12.out.mono (by omega), HK12.out, Newr.nil _ _ _, cap_nil⟩
      · rw [errV_some z11]
        have hj : J = ⟨d11, [], e11⟩ := HJJ.out.symm.trans (by simp [jstart, jfill, jrest, HR0.out, z0, HRX.out, HO11.out, z11])
        have HJ2 := Lib.hid hj
        have HE := Lib.hid z11
        clear hj z11
        go_wp2
        go_ret2
        rw [HJ2.out]
        exact ⟨.slice none 0 0, A11, by rw [errV_some HE.out]; rfl, H11.out.mono (by omega), HK11.out, Newr.nil _ _ _, cap_nil⟩
    · by_cases zk : k = 0
      · subst zk
        rw [errV_none] at HRD
        go_upto_region 9 with (fail)
        refine wp_region_still_lit (by kernel_rfl) (by kernel_rfl) ?_
        repeat still_step
        still_call HRD
        repeat still_step
        refine wpStill_nil ?_
        have HI := Lib.hid (Is_nil 18 (wE).drew)
        have hdr := (Below.refl (wE).heap.size (wE)).drew
        have HD := Lib.hid (H.out.below hdr)
        have HKD : Hid (∀ k ∈ K, (wE).drew.heap[k]? = w.heap[k]?) := HKE.out
        clear hdr HRD
        go_wp2_with (fail)
        refine HI.out.mono ?_
        rintro e wI ⟨rfl, rfl⟩
        go_upto_region 15 with (fail)
        generalize (wE).drew = wD at *
        have HBG := Lib.hid (jbeginning_any x wD hxl)
        have hble := jbegin_le x.length x (Nat.le_refl _)
        go_wp2_with (fail)
        refine HBG.out.mono ?_
        rintro e wB ⟨v, rfl, hrow, hbB⟩
        have HB := Lib.hid (HD.out.add hbB v.ownBlock.toList (fun j hj => hrow.lt j (by simpa using hj)))
        have HKW := Lib.hid fun k hk => (HD.out.same hbB k hk).trans (HKD.out k hk)
        have htx : Newr w0.heap.size K wB v (jbegin x).1 := ⟨row_lessN hrow HD.out.m.bel.size, fun k hk hm => by have h8 := (HD.out.m.far k (List.mem_cons_of_mem _ hm)).1; have h9 := (hrow.lt k hk).1; omega⟩
        have HTX := Lib.hid htx
        have HCP : Hid (CapOk v) := cap_row hrow
        obtain ⟨va, vc, rfl, -⟩ := row_open hrow
        clear hrow hbB htx HBG
        obtain ⟨R, m, hRm⟩ : ∃ R m, jbegin x = (R, m) := ⟨_, _, rfl⟩
        have HRM := Lib.hid hRm
        rw [hRm] at HTX hble HB HCP
        rw [hRm]
        simp only at HTX hble HB HCP ⊢
        have HKB : Hid (∀ k ∈ (Value.slice va R.length vc).ownBlock.toList ++ K, wB.heap[k]? = wB.heap[k]?) := fun _ _ => rfl
        clear hRm
        have hsx := str_size x
        by_cases hlt : m < x.length
        · have hx1 : (str x).extract 0 m = str (x.take m) := by rw [str_extract]; simp
          obtain ⟨d14, e14, ho14⟩ : ∃ d' e', jcut d nm (x.take m) = (d', e') := ⟨_, _, rfl⟩
          have hop := jcut_any HB.out (x.take m) (by rw [List.length_take]; omega) (by omega)
          rw [ho14] at hop
          have HO14 := Lib.hid ho14
          have HOP := Lib.hid hop
          clear hop ho14
          go_wp2_with (fail)
          refine HOP.out.mono ?_
          rintro e w14 ⟨rfl, ⟨A14, h14⟩, hk14⟩
          have H14 := Lib.hid h14
          have HT14 := Lib.hid (HTX.out.same (fun k hk => hk14 k (List.mem_append_left _ (by simp [hk]))))
          have HK14 : Hid (∀ k ∈ (Value.slice va R.length vc).ownBlock.toList ++ K, w14.heap[k]? = w14.heap[k]?) := fun _ _ => rfl
          have HKW14 := Lib.hid fun k hk => (hk14 k (List.mem_append_right _ hk)).trans (HKW.out k hk)
          clear h14 hk14 HOP
          by_cases z14 : e14 = 0
          · subst z14
            rw [errV_none]
            obtain ⟨d15, e15, ho15⟩ : ∃ d' e', ddo d14 (.sync nm) = (d', e') := ⟨_, _, rfl⟩
            have hop := jl_sync H14.out (Below.refl _ _).drew (by omega) nm (by omega)
            rw [ho15] at hop
            have HO15 := Lib.hid ho15
            have HOP := Lib.hid hop
            clear hop ho15
            clear c0 c1 c2 c3
            obtain ⟨c0, c1, c2, c3⟩ := H14.out.cells
            go_upto_region 20 with (fail)
            refine wp_region_still_tail 8 (by kernel_rfl) (by kernel_rfl) ?_
            simp only [List.take_succ_cons, List.take_zero, List.drop_succ_cons, List.drop_zero]
            repeat still_step
            refine wpStill_nil ?_
            go_wp2_with (fail)
            refine HOP.out.mono ?_
            rintro e w15 ⟨rfl, ⟨A15, h15⟩, hk15⟩
            have H15 := Lib.hid h15
            have HT15 := Lib.hid (HT14.out.same (fun k hk => hk15 k (List.mem_append_left _ (by simp [hk]))))
            have HKW15 := Lib.hid fun k hk => (hk15 k (List.mem_append_right _ hk)).trans (HKW14.out k hk)
            clear h15 hk15 HOP
            by_cases z15 : e15 = 0
            · subst z15
              rw [errV_none]
              obtain ⟨d16, e16, ho16⟩ : ∃ d' e', ddo d15 .flush = (d', e') := ⟨_, _, rfl⟩
              have hop := jl_flush H15.out (Below.refl _ _) (by omega)
              rw [ho16] at hop
              have HO16 := Lib.hid ho16
              have HOP := Lib.hid hop
              clear hop ho16
              clear c0 c1 c2 c3
              obtain ⟨c0, c1, c2, c3⟩ := H15.out.cells
              go_wp2_with (fail)
              refine HOP.out.mono ?_
              rintro e w16 ⟨rfl, ⟨A16, h16⟩, hk16⟩
              have H16 := Lib.hid h16
              have HT16 := Lib.hid (HT15.out.same (fun k hk => hk16 k (List.mem_append_left _ (by simp [hk]))))
              have HKW16 := Lib.hid fun k hk => (hk16 k (List.mem_append_right _ hk)).trans (HKW15.out k hk)
              clear h16 hk16 HOP
              have hj : J = ⟨d16, R, e16⟩ := HJJ.out.symm.trans (by simp [jstart, jfill, jrest, HR0.out, z0, HRX.out, HRM.out, HO14.out, hlt, HO15.out, HO16.out])
              have HJ2 := Lib.hid hj
              clear hj
              go_wp2
              go_ret2
              rw [HJ2.out]
              exact ⟨.slice va R.length vc, A16, rfl, H16.out.mono (by omega), HKW16.out, HT16.out, HCP.out⟩
            · rw [errV_some z15]
              have hj : J = ⟨d15, [], e15⟩ := HJJ.out.symm.trans (by simp [jstart, jfill, jrest, HR0.out, z0, HRX.out, HRM.out, HO14.out, hlt, HO15.out, z15])
              have HJ2 := Lib.hid hj
              have HE := Lib.hid z15
              clear hj z15
              go_wp2
              go_ret2
              rw [HJ2.out]
              exact ⟨.slice none 0 0, A15, by rw [errV_some HE.out]; rfl, H15.out.less.mono (by omega), HKW15.out, Newr.nil _ _ _, cap_nil⟩
          · rw [errV_some z14]
            have hj : J = ⟨d14, [], e14⟩ := HJJ.out.symm.trans (by simp [jstart, jfill, jrest, HR0.out, z0, HRX.out, HRM.out, HO14.out, hlt, z14])
            have HJ2 := Lib.hid hj
            have HE := Lib.hid z14
            clear hj z14
            go_wp2
            go_ret2
            rw [HJ2.out]
            exact ⟨.slice none 0 0, A14, by rw [errV_some HE.out]; rfl, H14.out.less.mono (by omega), HKW14.out, Newr.nil _ _ _, cap_nil⟩
        · have hme : m = x.length := by omega
          have hlt2 : ¬ m < x.length := hlt
          obtain ⟨d17, e17, ho17⟩ : ∃ d' e', ddo d (.sync nm) = (d', e') := ⟨_, _, rfl⟩
          have hop := jl_sync HB.out (Below.refl _ _).drew (by omega) nm (by omega)
          rw [ho17] at hop
          have HO17 := Lib.hid ho17
          have HOP := Lib.hid hop
          clear hop ho17
          clear c0 c1 c2 c3
          obtain ⟨c0, c1, c2, c3⟩ := HB.out.cells
          go_upto_region 20 with (fail)
          refine wp_region_still_tail 8 (by kernel_rfl) (by kernel_rfl) ?_
          simp only [List.take_succ_cons, List.take_zero, List.drop_succ_cons, List.drop_zero]
          repeat still_step
          refine wpStill_nil ?_
          go_wp2_with (fail)
          refine HOP.out.mono ?_
          rintro e w17 ⟨rfl, ⟨A17, h17⟩, hk17⟩
          have H17 := Lib.hid h17
          have HT17 := Lib.hid (HTX.out.same (fun k hk => hk17 k (List.mem_append_left _ (by simp [hk]))))
          have HKW17 := Lib.hid fun k hk => (hk17 k (List.mem_append_right _ hk)).trans (HKW.out k hk)
          clear h17 hk17 HOP
          by_cases z17 : e17 = 0
          · subst z17
            rw [errV_none]
            obtain ⟨d18, e18, ho18⟩ : ∃ d' e', ddo d17 .flush = (d', e') := ⟨_, _, rfl⟩
            have hop := jl_flush H17.out (Below.refl _ _) (by omega)
            rw [ho18] at hop
            have HO18 := Lib.hid ho18
            have HOP := Lib.hid hop
            clear hop ho18
            clear c0 c1 c2 c3
            obtain ⟨c0, c1, c2, c3⟩ := H17.out.cells
            go_wp2_with (fail)
            refine HOP.out.mono ?_
            rintro e w18 ⟨rfl, ⟨A18, h18⟩, hk18⟩
            have H18 := Lib.hid h18
            have HT18 := Lib.hid (HT17.out.same (fun k hk => hk18 k (List.mem_append_left _ (by simp [hk]))))
            have HKW18 := Lib.hid fun k hk => (hk18 k (List.mem_append_right _ hk)).trans (HKW17.out k hk)
            clear h18 hk18 HOP
            have hj : J = ⟨d18, R, e18⟩ := HJJ.out.symm.trans (by simp [jstart, jfill, jrest, HR0.out, z0, HRX.out, HRM.out, hlt, HO17.out, HO18.out])
            have HJ2 := Lib.hid hj
            clear hj
            go_wp2
            go_ret2
            rw [HJ2.out]
            exact ⟨.slice va R.length vc, A18, rfl, H18.out.mono (by omega), HKW18.out, HT18.out, HCP.out⟩
          · rw [errV_some z17]
            have hj : J = ⟨d17, [], e17⟩ := HJJ.out.symm.trans (by simp [jstart, jfill, jrest, HR0.out, z0, HRX.out, HRM.out, hlt, HO17.out, z17])
            have HJ2 := Lib.hid hj
            have HE := Lib.hid z17
            clear hj z17
            go_wp2
            go_ret2
            rw [HJ2.out]
            exact ⟨.slice none 0 0, A17, by rw [errV_some HE.out]; rfl, H17.out.less.mono (by omega), HKW17.out, Newr.nil _ _ _, cap_nil⟩
      · rw [errV_some zk] at HRD
        go_upto_region 9 with (fail)
        refine wp_region_still_lit (by kernel_rfl) (by kernel_rfl) ?_
        repeat still_step
        still_call HRD
        repeat still_step
        refine wpStill_nil ?_
        have hI := Is_errno k 18 (wE).drew
        rw [show ((k : Int) == 18) = false from by simp; omega] at hI
        have HI := Lib.hid hI
        clear hI HRD
        go_wp2_with (fail)
        refine HI.out.mono ?_
        rintro e wI ⟨rfl, rfl⟩
        have hj : J = ⟨d, [], k⟩ := HJJ.out.symm.trans (by simp [jstart, jfill, jrest, HR0.out, z0, HRX.out, z18, zk])
        have HJ2 := Lib.hid hj
        have HE := Lib.hid zk
        clear hj zk z18
        go_wp2
        go_ret2
        rw [HJ2.out]
        exact ⟨.slice none 0 0, A, by rw [errV_some HE.out]; rfl, (H.out.below ((Below.refl _ _).drew)).mono (by omega), HKE.out, Newr.nil _ _ _, cap_nil⟩
end Go.Proofs.YtfgpigblnkanpaaGreatDoor

namespace Go.Proofs.YtfgpigblnkanpaaGreatDoor
open Go.RowKit Go.Maps Go.Shelf
set_option linter.unusedVariables false

theorem Jl.start {w0 w : World} {K A : List Nat} {g : Nat} {d : Dk} {N : Nat} {nm : Nm} (h : Mine w0 w K A g d N) (hl : nm.length ≤ 200) : Jl w0 (w.alloc (.cells #[.pointer (some ⟨g, 0, none⟩), strV nm, .int .i64 0, .bool false] 149)) K A w.heap.size g d N nm 0 false := by
  have hb : Below w.heap.size w (w.alloc (.cells #[.pointer (some ⟨g, 0, none⟩), strV nm, .int .i64 0, .bool false] 149)) := (Below.refl _ w).alloc (Nat.le_refl _) _
  exact ⟨h.add hb [w.heap.size] (fun k hk => by simp at hk; subst hk; simp), Blk.new _ _ _, h.bel.size, fun hm => by have := (h.far _ hm).1; omega, hl⟩
theorem Jl.disk {w0 w : World} {K A : List Nat} {jb g : Nat} {d : Dk} {N : Nat} {nm : Nm} {n : Nat} {c : Bool} (h : Jl w0 w K A jb g d N nm n c) : Mine w0 w K A g d N := h.m.less (fun k hk => List.mem_cons_of_mem _ hk)
set_option maxHeartbeats 4000000 in
set_option maxRecDepth 100000 in
theorem jOpen_bad {w : World} {g : Nat} {nm : Nm} (hl : nm.length < 1 ∨ 199 < nm.length) (hm : nm.length ≤ 140737488351232) :
    Calls Tryz.prog 50 #[.pointer (some ⟨g, 0, none⟩), strV nm] w fun e w' => e = .returned (.tuple #[.pointer none, .slice none 0 0, errV 21]) ∧ w = w' := by
  have hsz := str_size nm
  rw [errV_some (n := 21) (by omega)]
  rcases hl with hl | hl
  · have h1 : (nm.length : Int) < 1 := by omega
    clear hl
    go_enter Tryz.func50, Tryz.ntmps50
    go_wp2
    go_ret3
    exact ⟨rfl, rfl⟩
  · have h1 : ¬ (nm.length : Int) < 1 := by omega
    have h2 : (199 : Int) < (nm.length : Int) := by omega
    clear hl
    go_enter Tryz.func50, Tryz.ntmps50
    go_wp2
    go_ret3
    exact ⟨rfl, rfl⟩
set_option maxHeartbeats 4000000 in
set_option maxRecDepth 100000 in
theorem jOpen_own {w0 w : World} {K A : List Nat} {g : Nat} {d : Dk} {N : Nat} {nm : Nm} (h : Mine w0 w K A g d N) (hl : 1 ≤ nm.length ∧ nm.length ≤ 199) (hN : N + 10 < 4294967296) (hfl : Small d) {R : Jb} (hR : jstart d nm = R) (hRl : R.l.length ≤ 4294967296) :
    Calls Tryz.prog 50 #[.pointer (some ⟨g, 0, none⟩), strV nm] w fun e w' =>
      (R.e ≠ 0 ∧ e = .returned (.tuple #[.pointer none, .slice none 0 0, errV R.e]) ∧ MineTo w0 K w g R.d (N + 10) w') ∨
      (R.e = 0 ∧ ∃ jb v A', e = .returned (.tuple #[.pointer (some ⟨jb, 0, none⟩), v, .nilIface]) ∧ Jl w0 w' (v.ownBlock.toList ++ K) A' jb g R.d (N + 10) nm R.l.length false ∧ (∀ k ∈ K, w'.heap[k]? = w.heap[k]?) ∧ Newr w0.heap.size K w' v R.l ∧ w.heap.size ≤ jb ∧ CapOk v) := by
  have hsz := str_size nm
  have hj := Jl.start h (nm := nm) (by omega)
  have hB := jbegin_any hj hN hfl
  rw [hR] at hB
  have hK : ∀ k ∈ K, (w.alloc (.cells #[.pointer (some ⟨g, 0, none⟩), strV nm, .int .i64 0, .bool false] 149)).heap[k]? = w.heap[k]? := h.bel.size |> fun _ => fun k hk => ((Below.refl w.heap.size w).alloc (Nat.le_refl _) _).block k (h.far k hk).1
  have h1 : ¬ (nm.length : Int) < 1 := by omega
  have h2 : ¬ (199 : Int) < (nm.length : Int) := by omega
  have HB := Lib.hid hB
  have HK := Lib.hid hK
  clear h hj hB hK hl
  go_enter Tryz.func50, Tryz.ntmps50
  go_wp2_with (fail)
  refine HB.out.mono ?_
  rintro e w1 ⟨v, A1, rfl, h3, hk3, ht3, hcp⟩
  by_cases hz : R.e = 0
  · rw [hz, errV_none]
    obtain ⟨va, vc, rfl, -⟩ := ht3.texts.shape
    have HCP := Lib.hid hcp
    clear hcp
    have c2 := h3.cells.2.2.1
    have hfr := h3.j.free 2
    simp only [List.length_map] at *
    have hcnt := h3.count R.l.length
    have H := Lib.hid hcnt.1
    have HKK := Lib.hid hcnt.2
    have HT := Lib.hid ht3
    have HK3 := Lib.hid hk3
    have HZ := Lib.hid hz
    clear h3 hk3 ht3 hcnt hz
    go_wp2_with (fail)
    go_ret3
    exact Or.inr ⟨HZ.out, _, _, A1, rfl, H.out, fun k hk => (HKK.out k (List.mem_append_right _ hk)).trans ((HK3.out k hk).trans (HK.out k hk)), HT.out.same (fun k hk => HKK.out k (List.mem_append_left _ (by simp [hk]))), Nat.le_refl _, HCP.out⟩
  · rw [errV_some hz]
    have HZ := Lib.hid hz
    have H := Lib.hid h3
    have HK3 := Lib.hid hk3
    clear h3 hk3 ht3 hz
    go_wp2_with (fail)
    go_ret3
    exact Or.inl ⟨HZ.out, by rw [errV_some HZ.out]; rfl, ⟨A1, H.out.less.disk⟩, fun k hk => (HK3.out k hk).trans (HK.out k hk)⟩
theorem jOpen_any {w0 w : World} {K A : List Nat} {g : Nat} {d : Dk} {N : Nat} {nm : Nm} (h : Mine w0 w K A g d N) (hl : 1 ≤ nm.length ∧ nm.length ≤ 199) (hN : N + 10 < 4294967296) (hfl : Small d) {R : Jb} (hR : jstart d nm = R) (hRl : R.l.length ≤ 4294967296) :
    Calls Tryz.prog 50 #[.pointer (some ⟨g, 0, none⟩), strV nm] w fun e w' =>
      (R.e ≠ 0 ∧ e = .returned (.tuple #[.pointer none, .slice none 0 0, errV R.e]) ∧ MineTo w0 K w g R.d (N + 10) w') ∨
      (R.e = 0 ∧ ∃ jb v A', e = .returned (.tuple #[.pointer (some ⟨jb, 0, none⟩), v, .nilIface]) ∧ Jl w0 w' (v.ownBlock.toList ++ K) A' jb g R.d (N + 10) nm R.l.length false ∧ (∀ k ∈ K, w'.heap[k]? = w.heap[k]?) ∧ TextsAt w' v R.l ∧ w.heap.size ≤ jb ∧ CapOk v) :=
  (jOpen_own h hl hN hfl hR hRl).mono fun e w' hp => hp.imp id fun ⟨h0, jb, v, A', h1, h2, h3, h4, h5⟩ => ⟨h0, jb, v, A', h1, h2, h3, h4.texts, h5⟩
set_option maxRecDepth 100000 in
theorem jLen_at {w : World} {jb : Nat} {v : Value} (c2 : w.cell? ⟨jb, 2, none⟩ = some v) : Calls Tryz.prog 56 #[.pointer (some ⟨jb, 0, none⟩)] w fun e w' => e = .returned v ∧ w = w' := by
  go_enter Tryz.func56, Tryz.ntmps56
  go_wp2_with (fail)
  go_ret
  exact ⟨rfl, rfl⟩
set_option maxRecDepth 100000 in
theorem jLen_any {w0 w : World} {K A : List Nat} {jb g : Nat} {d : Dk} {N : Nat} {nm : Nm} {n : Nat} {c : Bool} (h : Jl w0 w K A jb g d N nm n c) : Calls Tryz.prog 56 #[.pointer (some ⟨jb, 0, none⟩)] w fun e w' => e = .returned (.int .i64 n) ∧ w = w' := by
  have c2 := h.cells.2.2.1
  clear h
  go_enter Tryz.func56, Tryz.ntmps56
  go_wp2_with (fail)
  go_ret
  exact ⟨rfl, rfl⟩
end Go.Proofs.YtfgpigblnkanpaaGreatDoor

namespace Go.Proofs.YtfgpigblnkanpaaGreatDoor
set_option linter.unusedVariables false
set_option linter.unusedSimpArgs false

theorem jhandN_lt : ∀ nm : Nm, nlt nm (jhandN nm) = true := fun nm => by
  rw [nlt_eq]
  simp only [decide_eq_true_eq]
  unfold jhandN
  induction nm with
  | nil => exact List.Lex.nil
  | cons a l ih => exact List.Lex.cons ih
theorem name_ok {nm : Nm} (h : 1 ≤ nm.length ∧ nm.length ≤ 199) : badName nm = false ∧ badName (jhandN nm) = false := by
  unfold badName jhandN
  refine ⟨?_, ?_⟩
  · cases nm with
    | nil => simp at h
    | cons a l => simp at h ⊢; omega
  · cases nm with
    | nil => simp at h
    | cons a l => simp at h ⊢; omega
theorem jrest_lone {d : Dk} {nm : Nm} {x : List UInt8} {R : Nat} (h : Lone d nm x R) (l : List (List UInt8)) : ∃ d', jrest d nm l = ⟨d', l, 0⟩ ∧ Lone d' nm x R := by
  obtain ⟨h1, h2⟩ := h.sync
  obtain ⟨h3, h4⟩ := h2.flush
  exact ⟨_, by unfold jrest; rw [if_neg (by rw [h1]; simp), h3], h4⟩
theorem jstart_new (R : Nat) (hR : R ≤ 268435456) {nm : Nm} (hn : 1 ≤ nm.length ∧ nm.length ≤ 199) : ∃ d', jstart (dnew R) nm = ⟨d', [], 0⟩ ∧ Lone d' nm [] R := by
  obtain ⟨h1, h2⟩ := lone_new R hR (name_ok hn).1
  obtain ⟨d', h3, h4⟩ := jrest_lone h2 []
  refine ⟨d', ?_, h4⟩
  have e : ∀ m, dread (dnew R) m = ([], 18) := fun m => rfl
  unfold jstart
  rw [e, if_neg (by simp)]
  unfold jfill
  rw [e, if_pos rfl, if_neg (by rw [h1]; simp), h3]
theorem jcut_lone {d : Dk} {nm : Nm} {x s : List UInt8} {R : Nat} (h : Lone d nm x R) (hn : 1 ≤ nm.length ∧ nm.length ≤ 199) (hs : x.length + s.length ≤ R) : ∃ d', jcut d nm s = (d', 0) ∧ Lone d' nm s R := by
  obtain ⟨n1, n2⟩ := name_ok hn
  obtain ⟨a1, b1⟩ := h.hand (jhandN_lt nm) n2
  obtain ⟨a2, b2⟩ := b1.write (s := s) (by simpa using hs)
  obtain ⟨a3, b3⟩ := b2.sync
  obtain ⟨a4, b4⟩ := b3.laid n1
  rw [List.nil_append] at b4
  refine ⟨_, ?_, b4⟩
  unfold jcut
  rw [if_neg (by rw [a1]; simp), if_neg (by rw [a2]; simp), if_neg (by rw [a3]; simp), a4]
  unfold jclean
  rw [if_neg (by simp)]
theorem jstart_lone {d : Dk} {nm : Nm} {x : List UInt8} {R : Nat} (h : Lone d nm x R) (hn : 1 ≤ nm.length ∧ nm.length ≤ 199) (hs : x.length + (jbegin x).2 ≤ R) : ∃ d', jstart d nm = ⟨d', (jbegin x).1, 0⟩ ∧ Lone d' nm (x.take (jbegin x).2) R := by
  have hne := nlt_ne (jhandN_lt nm)
  have hle := (jbegin_le x.length x (Nat.le_refl _)).1
  unfold jstart
  rw [h.miss hne, if_neg (by simp)]
  unfold jfill
  rw [h.read, if_neg (by simp), if_pos rfl]
  by_cases hlt : (jbegin x).2 < x.length
  · obtain ⟨d1, e1, h1⟩ := jcut_lone h hn (s := x.take (jbegin x).2) (by rw [List.length_take]; omega)
    obtain ⟨d2, e2, h2⟩ := jrest_lone h1 (jbegin x).1
    exact ⟨d2, by simp only; rw [if_pos hlt, e1, if_neg (by simp), e2], h2⟩
  · obtain ⟨d2, e2, h2⟩ := jrest_lone h (jbegin x).1
    refine ⟨d2, by simp only; rw [if_neg hlt, e2], ?_⟩
    rw [List.take_of_length_le (by omega)]
    exact h2
theorem jappend_lone {d : Dk} {nm : Nm} {x r : List UInt8} {R n : Nat} (h : Lone d nm x R) (hr : r.length ≤ 16777216) (hs : x.length + (jframe r).length ≤ R) : ∃ d', jappend d nm n false r = ⟨d', 0, false, n + 1⟩ ∧ Lone d' nm (x ++ jframe r) R := by
  obtain ⟨a1, b1⟩ := h.write hs
  obtain ⟨a2, b2⟩ := b1.sync
  refine ⟨_, ?_, b2⟩
  unfold jappend
  rw [if_neg (by simp), if_neg (by omega), if_neg (by rw [a1]; simp), if_neg (by rw [a1]; simp), if_neg (by rw [a2]; simp)]
theorem DkB.small {d : Dk} {N : Nat} (h : DkB d N) : Small d := fun i => by
  by_cases hi : i < d.files.length
  · have := h.data _ (fat_mem hi)
    have := h.room
    omega
  · rw [fat_out (by omega)]; simp
def total (l : List (List UInt8)) : Nat := (l.map List.length).sum
theorem jframe_le (r : List UInt8) (hr : r.length ≤ 16777216) : (jframe r).length ≤ r.length + 14 := by
  rw [jframe_len]
  have := uintL_len (n := r.length + 1) (by omega)
  omega
theorem jframes_le : ∀ l : List (List UInt8), (∀ r ∈ l, r.length ≤ 16777216) → (jframes l).length ≤ total l + 14 * l.length
  | [], _ => by simp [jframes, total]
  | r :: l, h => by
    rw [jframes_cons, List.length_append]
    have h1 := jframe_le r (h r List.mem_cons_self)
    have h2 := jframes_le l (fun x hx => h x (List.mem_cons_of_mem _ hx))
    simp only [total, List.map_cons, List.sum_cons, List.length_cons] at h2 ⊢
    omega
theorem total_mem : ∀ {l : List (List UInt8)} {r : List UInt8}, r ∈ l → r.length ≤ total l
  | x :: l, r, h => by
    simp only [total, List.map_cons, List.sum_cons]
    rcases List.mem_cons.1 h with rfl | h
    · omega
    · have := total_mem h
      simp only [total] at this
      omega
theorem total_take (l : List (List UInt8)) (k : Nat) : total (l.take k) ≤ total l := by
  induction l generalizing k with
  | nil => simp [total]
  | cons a l ih =>
    cases k with
    | zero => simp [total]
    | succ k =>
      have := ih k
      simp only [total, List.take_succ_cons, List.map_cons, List.sum_cons] at this ⊢
      omega
end Go.Proofs.YtfgpigblnkanpaaGreatDoor
