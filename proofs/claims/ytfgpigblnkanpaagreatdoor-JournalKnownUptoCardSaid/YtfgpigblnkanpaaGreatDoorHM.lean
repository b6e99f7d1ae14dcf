/- The walk of CopyInts. The walks of the statements' helpers on journals: frame, told, works, few. What a journal's play keeps between its calls. -/
import Derived.Test.YtfgpigblnkanpaaGreatDoorKe
import Derived.Test.YtfgpigblnkanpaaGreatDoorHI
import Derived.Test.YtfgpigblnkanpaaGreatDoorGP
namespace Go.Proofs.YtfgpigblnkanpaaGreatDoor
open Go.RowKit Go.Maps Go.Shelf
set_option linter.unusedVariables false

theorem infoIntK : (Tryz.prog.info? 3).map (fun i => (i.zero, i.size, i.bytes)) = some (some (.int .i64 0), 1, 8) := by kernel_rfl
set_option maxHeartbeats 2000000 in
set_option maxRecDepth 100000 in
theorem copyIntsK_any (w : World) (v : Value) (l : List Int) (h : IntsAt w v l) (hl : l.length ≤ 4294967296) : Calls Tryz.prog 45 #[v] w fun e w' => ∃ v', e = .returned v' ∧ w'.ownsRow w.heap.size 3 1 v' l.length (l.map (Value.int .i64)) ∧ Below w.heap.size w w' := by
  obtain ⟨i0, hi, hz0, hz1, hz2⟩ := info_parts infoIntK
  obtain ⟨ka, kn, kc, rfl⟩ := h.shape
  have hkn : kn = l.length := by
    rcases h with ⟨rfl, _, _, h2⟩ | ⟨b, off, cap, h2, _⟩
    · simp only [Value.slice.injEq] at h2; simp [h2.2.1]
    · simp only [Value.slice.injEq] at h2; exact h2.2.1
  subst hkn
  have HI := Lib.hid h
  clear h
  go_enter Tryz.func45, Tryz.ntmps45
  go_wp2_with (fail)
  go_loopw [3, 4] (fun u iv wr => ∃ k : Nat, iv = .int .i64 k ∧ k ≤ l.length ∧ wr.ownsRow w.heap.size 3 1 u k ((l.take k).map (Value.int .i64)) ∧ Below w.heap.size w wr) (fun _ iv _ => l.length - (intOf iv).toNat)
  case atStart => exact ⟨0, rfl, Nat.zero_le _, World.ownsRow_nil _ _ _ _, Below.refl _ _⟩
  case round =>
    obtain ⟨k, rfl, hk, hown, hbel⟩ := hrel
    have hsz := hbel.size
    by_cases hlt : k < l.length
    · obtain ⟨x, hx⟩ : ∃ x, l[k]? = some x := ⟨_, List.getElem?_eq_getElem hlt⟩
      rcases HI.out with ⟨h0, _⟩ | ⟨b, off, cap, hv, h1, h2, hc⟩
      · rw [h0] at hlt; simp at hlt
      simp only [Value.slice.injEq] at hv
      obtain ⟨rfl, -, rfl⟩ := hv
      have hcw := hc k x hx
      have hcr := (hbel.cell (World.block_lt_of_cell? w _ hcw)).trans hcw
      have ht : (l.take (k + 1)).map (Value.int .i64) = (l.take k).map (Value.int .i64) ++ [.int .i64 x] := by rw [List.take_add_one, hx]; simp
      have HT := Lib.hid ht
      have ik0 : (0 : Int) ≤ (k : Int) := by omega
      have ik1 : (k : Int) < (l.length : Int) := by omega
      have HB := Lib.hid hbel
      have HLT := Lib.hid hown.lt
      clear hx hc hcw ht hbel
      generalize (l.take k).map (Value.int .i64) = xs at *
      go_wp2_with (at_builtin; refine wpList_append_own _ rfl _ _ 24 rfl w.heap.size 3 i0 (.int .i64 0) 1 8 Tryz.underlying24 hi hz0 hz1 hz2 rfl (by decide) _ k xs rfl (hown.alloc _) ⟨wr.heap.size, 0, none⟩ 1 1 [.int .i64 x] rfl rfl ?c1 ?c2 ?c3 ?c4 ?c5 ?_)
      case c1 => exact World.news_of_block (cs := #[.int .i64 x]) (t := 3) (fr := (0, 0)) (heap_alloc_new wr _)
      case c2 => intro u hu; simp at hu; subst hu; rfl
      case c3 => unfold maxLen; omega
      case c4 => omega
      case c5 => simp; omega
      intro v' w5 hown5 hgrow5 hv5
      have hbel5 : Below w.heap.size w w5 := (HB.out.alloc hsz _).grown hgrow5 (by simp; omega) (fun j hj => (HLT.out j hj).1)
      rw [← HT.out] at hown5
      have HO5 := Lib.hid hown5
      have HB5 := Lib.hid hbel5
      clear hown5 hgrow5 hv5 hown hbel5
      go_wp2
      go_roundw
      case rel => exact ⟨k + 1, by go_num, by omega, HO5.out, HB5.out⟩
      case measure => simp [intOf]; omega
    · obtain rfl : k = l.length := by omega
      rw [List.take_length] at hown
      have HO := Lib.hid hown
      have HB := Lib.hid hbel
      clear hown hbel
      go_wp2
      go_ret
      exact ⟨_, rfl, HO.out, HB.out⟩
end Go.Proofs.YtfgpigblnkanpaaGreatDoor

namespace Go.Proofs.YtfgpigblnkanpaaGreatDoor
open Go.RowKit Go.Maps Go.Shelf
set_option linter.unusedVariables false

set_option maxHeartbeats 1000000 in
set_option maxRecDepth 100000 in
theorem lframe_any (r : List UInt8) (w : World) (hr : r.length ≤ 140737488351232) : Calls Tryz.prog 98 #[strV r] w fun e w' => e = .returned (strV (jframe r)) ∧ Below w.heap.size w w' := by
  have hU := Uint_any (r.length + 1) w (by show _ < _; omega)
  rw [show ((r.length + 1 : Nat) : Int) = (r.length : Int) + 1 from by omega] at hU
  have hsz := str_size r
  have hul := uintL_len (n := r.length + 1) (by omega)
  have hS := fun W => Sum_any (str (uintL (r.length + 1)) ++ str r) W (by rw [str_append, str_size, List.length_append]; omega)
  rw [str_append] at hS
  have hS2 : ∀ W, Calls Tryz.prog 133 #[.string (str (uintL (r.length + 1) ++ r))] W fun e w' => e = .returned (.int .u32 (crc (uintL (r.length + 1) ++ r) : Nat)) ∧ Below W.heap.size W w' := fun W => by
    have := hS W
    rw [show (str (uintL (r.length + 1) ++ r)).data.toList = uintL (r.length + 1) ++ r from rfl] at this
    exact this
  have HU := Lib.hid hU
  have HS := Lib.hid hS2
  have hsz1 := str_size (uintL (r.length + 1))
  have happ := str_append (uintL (r.length + 1)) r
  clear hU hS hS2
  generalize hu : uintL (r.length + 1) = u at *
  have HUE := Lib.hid hu
  clear hu
  go_enter Tryz.func98, Tryz.ntmps98
  go_wp2_with (fail)
  refine HU.out.mono ?_
  rintro e w1 ⟨rfl, hb1⟩
  have HB1 := Lib.hid hb1
  clear hb1
  go_wp2_with (fail)
  refine (HS.out w1).mono ?_
  rintro e w2 ⟨rfl, hb2⟩
  have HB2 := Lib.hid (HB1.out.trans (hb2.mono HB1.out.size))
  clear hb2
  have hcv : ∀ c, c = crc (u ++ r) → (convert 140 9 (.slice (some ⟨w2.heap.size, 0, none⟩) 4 4)).run Tryz.prog (w2.alloc (.cells #[Value.int .u8 ((c : Int) % 256), Value.int .u8 ((c : Int) / 256 % 256), Value.int .u8 ((c : Int) / 65536 % 256), Value.int .u8 ((c : Int) / 16777216 % 256)] 5)) = .ok (strV (crcTail (u ++ r))) (w2.alloc (.cells #[Value.int .u8 ((c : Int) % 256), Value.int .u8 ((c : Int) / 256 % 256), Value.int .u8 ((c : Int) / 65536 % 256), Value.int .u8 ((c : Int) / 16777216 % 256)] 5)) := by
    intro c hc
    refine conv_bytes (Blk.new w2 [_, _, _, _] 5) Tryz.underlying140 Tryz.underlying5 Tryz.underlying9 (crcTail (u ++ r)) [] 4 4 rfl ?_
    rw [four_cells, crcTail, hc, List.append_nil]
  generalize hcc : crc (u ++ r) = c at ⊢
  have hcv := hcv c hcc.symm
  have HCC := Lib.hid hcc
  clear hcc
  generalize htl : crcTail (u ++ r) = tl at *
  have happ2 := str_append u tl
  have happ3 := str_append (u ++ tl) r
  have htlen : tl.length = 4 := by rw [← htl]; rfl
  have hsz2 := str_size tl
  have hsz3 := str_size (u ++ tl)
  have hlen3 : (u ++ tl).length = u.length + tl.length := List.length_append
  have HTL := Lib.hid htl
  clear htl happ
  go_wp2
  go_ret
  have hfr : Value.string (str (u ++ (tl ++ r))) = strV (jframe r) := by
    unfold jframe
    rw [HUE.out, HTL.out]
  exact ⟨congrArg Ending.returned hfr, HB2.out.alloc HB2.out.size _⟩
set_option maxHeartbeats 4000000 in
set_option maxRecDepth 100000 in
theorem told_any {w0 w : World} {K A : List Nat} {g : Nat} {d : Dk} {N : Nat} {nm : Nm} (h : Mine w0 w K A g d N) (hl : 1 ≤ nm.length ∧ nm.length ≤ 199) (hN : N + 10 < 4294967296) {d' : Dk} {l : List (List UInt8)} (hR : jstart d nm = ⟨d', l, 0⟩) (hRl : l.length ≤ 4294967296) :
    Calls Tryz.prog 97 #[.pointer (some ⟨g, 0, none⟩), strV nm] w fun e w' => ∃ jb v A', e = .returned (.tuple #[.pointer (some ⟨jb, 0, none⟩), v, .bool true]) ∧ Jl w0 w' (v.ownBlock.toList ++ K) A' jb g d' (N + 10) nm l.length false ∧ (∀ k ∈ K, w'.heap[k]? = w.heap[k]?) ∧ TextsAt w' v l ∧ w.heap.size ≤ jb ∧ CapOk v := by
  have HO := Lib.hid (jOpen_any h hl hN h.hd.bd.small hR hRl)
  clear h hR
  go_enter Tryz.func97, Tryz.ntmps97
  go_wp2_with (fail)
  refine HO.out.mono ?_
  rintro e w1 (⟨hz, -⟩ | ⟨-, jb, v, A1, rfl, h1, hk1, ht1, hjb⟩)
  · exact absurd rfl hz
  · obtain ⟨va, vc, rfl, -⟩ := ht1.shape
    simp only [List.length_map] at h1 ht1 hjb ⊢
    have H1 := Lib.hid h1
    have HK := Lib.hid hk1
    have HT := Lib.hid ht1
    clear h1 hk1 ht1
    go_wp2_with (fail)
    go_ret3
    exact ⟨_, _, A1, rfl, H1.out, HK.out, HT.out, hjb⟩
theorem Lone.frames {d : Dk} {nm : Nm} {l : List (List UInt8)} {R : Nat} (h : Lone d nm (jframes l) R) (hl : ∀ r ∈ l, r.length ≤ 16777216) (hn : 1 ≤ nm.length ∧ nm.length ≤ 199) (hs : (jframes l).length + (jframes l).length ≤ R) : ∃ d', jstart d nm = ⟨d', l, 0⟩ ∧ Lone d' nm (jframes l) R := by
  have e := jbegin_all hl
  obtain ⟨d', h1, h2⟩ := jstart_lone h hn (by rw [e]; exact hs)
  rw [e] at h1 h2
  rw [List.take_length] at h2
  exact ⟨d', h1, h2⟩
set_option maxHeartbeats 8000000 in
set_option maxRecDepth 100000 in
theorem works23_any (w : World) : Calls Tryz.prog 49 #[] w fun e w' => e = .returned (.bool true) ∧ Below w.heap.size w w' := by
  have hab : ∀ r ∈ ([[97, 98]] : List (List UInt8)), r.length ≤ 16777216 := fun r hr => by simp at hr; subst hr; simp
  obtain ⟨d1, e1, l1⟩ := jstart_new 100 (by omega) (nm := [106]) (by simp)
  have hf : (jframe [97, 98]).length ≤ 16 := jframe_le [97, 98] (by simp)
  obtain ⟨d2, e2, l2⟩ := jappend_lone (n := 0) l1 (r := [97, 98]) (by simp) (by simp; omega)
  rw [show ([] : List UInt8) ++ jframe [97, 98] = jframes [[97, 98]] from by simp [jframes]] at l2
  obtain ⟨d3, e3, l3⟩ := l2.frames hab (by simp) (by simp [jframes]; omega)
  have E1 := Lib.hid e1
  have E2 := Lib.hid e2
  have E3 := Lib.hid e3
  clear e1 e2 e3 l1 l2 l3 hf hab
  go_enter Tryz.func49, Tryz.ntmps49
  go_wp2_with (fail)
  refine (New_m w w (Below.refl _ _) [] (fun k hk => by cases hk) 100).mono ?_
  rintro e w1 ⟨g, A1, rfl, h1, hb1⟩
  have HO := Lib.hid (jOpen_any h1 (nm := [106]) (by simp) (by omega) h1.hd.bd.small E1.out (by simp))
  clear h1 hb1
  go_wp2_with (fail)
  refine HO.out.mono ?_
  rintro e w2 (⟨hz, -⟩ | ⟨-, jb, v, A2, rfl, h2, hk2, ht2, hjb⟩)
  · exact absurd rfl hz
  obtain ⟨va, vc, rfl, -⟩ := ht2.shape
  simp only [List.length_map, List.length_nil] at h2 ht2 ⊢
  have HA := Lib.hid (jAppend_any h2 [97, 98] (by omega) (by simp) (by omega))
  rw [E2.out] at HA
  simp only at HA
  clear hk2 ht2 h2 HO
  go_wp2_with (fail)
  refine HA.out.mono ?_
  rintro e w3 ⟨rfl, ⟨A3, h3⟩, hk3⟩
  rw [errV_none]
  have HO := Lib.hid (jOpen_any h3.m (nm := [106]) (by simp) (by omega) h3.m.hd.bd.small E3.out (by simp))
  have H3 := Lib.hid h3.j
  clear h3 hk3 HA
  go_wp2_with (fail)
  refine HO.out.mono ?_
  rintro e w4 (⟨hz, -⟩ | ⟨-, jb2, v, A4, rfl, h4, hk4, ht4, hjb4⟩)
  · exact absurd rfl hz
  have h5 := H3.out.same (hk4 jb (by simp))
  have c2 := h5.cell 2
  simp only [List.getElem?_cons_zero, List.getElem?_cons_succ] at c2
  have c3 := h4.cells.2.2.1
  have c2' : w4.cell? ⟨jb, 2, none⟩ = some (.int .i64 1) := by simpa using c2
  have c3' : w4.cell? ⟨jb2, 2, none⟩ = some (.int .i64 1) := by simpa using c3
  have HL1 := Lib.hid (jLen_at c2')
  have HL2 := Lib.hid (jLen_at c3')
  obtain ⟨va2, vc2, rfl, hx2⟩ := ht4.shape
  obtain ⟨b, off, rfl, hcr, -⟩ := hx2 0 (strV [97, 98]) rfl
  rw [Nat.add_zero] at hcr
  simp only [List.length_map, List.length_cons, List.length_nil, Nat.zero_add] at *
  have hq : (str [97, 98]).toList = [97, 98] := toList_str _
  have HB := Lib.hid h4.m.bel
  clear h4 hk4 ht4 hx2 h5 HO H3 c2 c3 c2' c3'
  go_wp2_with (fail)
  refine HL1.out.mono ?_
  rintro e w5 ⟨rfl, rfl⟩
  go_wp2_with (fail)
  refine HL2.out.mono ?_
  rintro e w5 ⟨rfl, rfl⟩
  go_wp2
  go_ret
  exact ⟨rfl, HB.out⟩
end Go.Proofs.YtfgpigblnkanpaaGreatDoor

namespace Go.Proofs.YtfgpigblnkanpaaGreatDoor
open Go.RowKit Go.Maps Go.Shelf
set_option linter.unusedVariables false
set_option linter.unusedSimpArgs false

section
variable {w0 w w' : World} {K A : List Nat} {jb g : Nat} {d : Dk} {N : Nat} {nm : Nm} {n : Nat} {c : Bool}
theorem Jl.lessK (h : Jl w0 w K A jb g d N nm n c) {M : List Nat} (hM : ∀ k ∈ M, k ∈ K) : Jl w0 w M A jb g d N nm n c := ⟨h.m.less (fun k hk => by
  rcases List.mem_cons.1 hk with rfl | hk
  · exact List.mem_cons_self
  · exact List.mem_cons_of_mem _ (hM k hk)), h.j, h.base, fun hm => h.out (hM _ hm), h.len⟩
theorem Jl.moreK (h : Jl w0 w K A jb g d N nm n c) (hb : Below w.heap.size w w') {ab : Nat} (h1 : w.heap.size ≤ ab) (h2 : ab < w'.heap.size) : Jl w0 w' (ab :: K) A jb g d N nm n c :=
  ⟨(h.m.add hb [ab] (fun k hk => by simp at hk; subst hk; exact ⟨h1, h2⟩)).less (fun k hk => by
      rcases List.mem_cons.1 hk with rfl | hk
      · simp
      · rcases List.mem_cons.1 hk with rfl | hk
        · simp
        · simp [hk]), h.j.below hb h.j.lt, h.base, fun hm => by
      rcases List.mem_cons.1 hm with e | hm
      · have := h.j.lt; omega
      · exact h.out hm, h.len⟩
theorem Jl.setK (h : Jl w0 w K A jb g d N nm n c) {a : Addr} (ha : a.block ∈ K) (hb : w0.heap.size ≤ a.block) (v : Value) : Jl w0 (w.setCell a v) K A jb g d N nm n c :=
  ⟨h.m.set a (List.mem_cons_of_mem _ ha) hb v, h.j.same (heap_setCell_other _ _ _ _ (fun e => h.out (e ▸ ha))), h.base, h.out, h.len⟩
theorem Jl.bookM {V M : List Nat} {bb : Nat} (h : Jl w0 w K A jb g d N nm n c) {B : List Nat} (hs : Stp B (bb :: V) w w') (hB : ∀ k ∈ B, k ∈ K ∧ w0.heap.size ≤ k) (hM : ∀ k ∈ M, k ∈ K) (hV : ∀ k ∈ V, k < w'.heap.size) : Jl w0 w' (V ++ M) A jb g d N nm n c := by
  have hjB : jb ∉ B := fun hm => h.out (hB jb hm).1
  have hVn : ∀ k ∈ V, k ∈ K ∨ w.heap.size ≤ k := fun k hk => (hs.inn k (List.mem_cons_of_mem _ hk)).imp (fun h2 => (hB k h2).1) id
  have hfar : ∀ k, k ∈ K ∨ w.heap.size ≤ k → k ∉ A ∧ k ≠ jb := fun k hk => by
    rcases hk with hk | hk
    · exact ⟨(h.m.far k (List.mem_cons_of_mem _ hk)).2, fun e => h.out (e ▸ hk)⟩
    · exact ⟨fun hm => by have := h.m.hd.lt k hm; omega, fun e => by have := h.j.lt; omega⟩
  refine ⟨⟨h.m.hd.other hs (fun k hk hm => (h.m.far k (List.mem_cons_of_mem _ (hB k hm).1)).2 hk), h.m.base, h.m.bel.trans (hs.below (fun k hk => (hB k hk).2) h.m.bel.size), fun k hk => ?_⟩, h.j.same (hs.block jb h.j.lt hjB), h.base, fun hm => ?_, h.len⟩
  · rcases List.mem_cons.1 hk with rfl | hk
    · exact ⟨Nat.lt_of_lt_of_le h.j.lt hs.size, (h.m.far _ List.mem_cons_self).2⟩
    · rcases List.mem_append.1 hk with hk | hk
      · exact ⟨hV k hk, (hfar k (hVn k hk)).1⟩
      · have := h.m.far k (List.mem_cons_of_mem _ (hM k hk))
        exact ⟨Nat.lt_of_lt_of_le this.1 hs.size, this.2⟩
  · rcases List.mem_append.1 hm with hk | hk
    · exact (hfar jb (hVn jb hk)).2 rfl
    · exact h.out (hM _ hk)
end
/-- In a round: a journal, a book, the call that is read, each in blocks of its own. -/
structure KA (w0 w : World) (bb g jb ab : Nat) (d : Dk) (N n : Nat) (c : Bool) (va : Value) (R : List Nm) (more : Bool) (rec : Nm) (no : Bool) (xs : List Value) (A : List Nat) : Prop where
  j : Jl w0 w (ab :: (va.ownBlock.toList ++ [bb])) A jb g d N [106] n c
  box : Blk w bb [va, .bool more, strV rec, .bool no] 76
  row : w.ownsRow w0.heap.size 9 1 va R.length (R.map strV)
  base : w0.heap.size ≤ bb
  ne : ∀ k, va.ownBlock = some k → k ≠ bb
  act : Blk w ab xs 81
  far : ab ≠ bb ∧ (∀ k, va.ownBlock = some k → k ≠ ab) ∧ w0.heap.size ≤ ab
section
variable {w0 w w' : World} {bb g jb ab : Nat} {d d' : Dk} {N N' n n' : Nat} {c c' : Bool} {va : Value} {R : List Nm} {more : Bool} {rec : Nm} {no : Bool} {xs : List Value} {A : List Nat}
theorem KJ.act (h : KJ w0 w bb g jb d N [106] n va R A) (hb : Below w.heap.size w w') (hx : Blk w' ab xs 81) (h1 : w.heap.size ≤ ab) : KA w0 w' bb g jb ab d N n false va R false [] false xs A := by
  have hr := h.row.lt
  have hbl := h.box.lt
  exact ⟨h.j.moreK hb h1 hx.lt, h.box.below hb hbl, row_below h.row hb, h.base, h.ne, hx, ⟨fun e => by omega, fun k hk e => by have := (hr k hk).2; omega, Nat.le_trans h.j.m.bel.size h1⟩⟩
theorem KA.to (h : KA w0 w bb g jb ab d N n c va R more rec no xs A) (ht : JlTo w0 (ab :: (va.ownBlock.toList ++ [bb])) w jb g d' N' [106] n' c' w') : ∃ A', KA w0 w' bb g jb ab d' N' n' c' va R more rec no xs A' := by
  obtain ⟨⟨A', h1⟩, hk⟩ := ht
  exact ⟨A', h1, h.box.same (hk bb (by simp)), ownsRow_same h.row (fun k hk2 => hk k (by simp [hk2])), h.base, h.ne, h.act.same (hk ab (by simp)), h.far⟩
theorem KA.below (h : KA w0 w bb g jb ab d N n c va R more rec no xs A) (hb : Below w.heap.size w w') : KA w0 w' bb g jb ab d N n c va R more rec no xs A :=
  ⟨h.j.below hb, h.box.below hb h.box.lt, row_below h.row hb, h.base, h.ne, h.act.below hb h.act.lt, h.far⟩
theorem KA.mono (h : KA w0 w bb g jb ab d N n c va R more rec no xs A) (hm : N ≤ N') : KA w0 w bb g jb ab d N' n c va R more rec no xs A := ⟨h.j.mono hm, h.box, h.row, h.base, h.ne, h.act, h.far⟩
theorem KA.put (h : KA w0 w bb g jb ab d N n c va R more rec no xs A) (i : Nat) (v : Value) : KA w0 (w.setCell ⟨ab, i, none⟩ v) bb g jb ab d N n c va R more rec no (xs.set i v) A :=
  ⟨h.j.setK (a := ⟨ab, i, none⟩) (by simp) h.far.2.2 v, h.box.same (heap_setCell_other _ _ _ _ (Ne.symm h.far.1)), ownsRow_same h.row (fun k hk => heap_setCell_other _ _ _ _ (h.far.2.1 k hk)), h.base, h.ne, h.act.set i v, h.far⟩
theorem KA.called {R' : List Nm} {m' : Bool} {r' : Nm} {o' : Bool} {e : Ending} (h : KA w0 w bb g jb ab d N n c va R more rec no xs A) (hp : CalledPost w bb w0.heap.size va R' m' r' o' e w') : e = .returned (.tuple #[]) ∧ ∃ vb, KA w0 w' bb g jb ab d N n c vb R' m' r' o' xs A := by
  obtain ⟨rfl, vb, hx, ho, hne, hs⟩ := hp
  have hr := h.row.lt
  have hal := h.act.lt
  have hab : ab ∉ bb :: va.ownBlock.toList := fun hm => by
    rcases List.mem_cons.1 hm with e | hm
    · exact h.far.1 e
    · exact h.far.2.1 ab (by simpa using hm) rfl
  have hJ := h.j.bookM (M := [ab, bb]) hs (fun k hk => by
    rcases List.mem_cons.1 hk with rfl | hk
    · exact ⟨by simp, h.base⟩
    · exact ⟨by simp at hk ⊢; simp [hk], (hr k (by simpa using hk)).1⟩) (fun k hk => by simp at hk; rcases hk with rfl | rfl <;> simp) (fun k hk => (ho.lt k (by simpa using hk)).2)
  refine ⟨rfl, vb, hJ.lessK (fun k hk => ?_), hx, ho, h.base, hne, h.act.same (hs.block ab hal hab), ⟨h.far.1, fun k hk e => ?_, h.far.2.2⟩⟩
  · rcases List.mem_cons.1 hk with rfl | hk
    · simp
    · rcases List.mem_append.1 hk with hk | hk
      · exact List.mem_append_left _ hk
      · simp at hk; simp [hk]
  · subst e
    rcases hs.inn k (List.mem_cons_of_mem _ (by simp [hk])) with h1 | h1
    · exact hab h1
    · omega
theorem KA.kin (h : KA w0 w bb g jb ab d N n c va R more rec no xs A) : KIn w0 w bb g d N va R more rec no A := ⟨h.j.disk.less (fun k hk => List.mem_cons_of_mem _ hk), h.box, h.row, h.base, h.ne⟩
end
/-- The power is on behind a call, or it is off. -/
def KMid (w0 w : World) (bb g jb ab N : Nat) : Prop := ∃ d n c va R more rec no kd tx an kv A, KA w0 w bb g jb ab d N n c va R more rec no [.int .i64 kd, strV tx, .int .i64 an, kv] A ∧ R.length ≤ 4294967295 ∧
  ((d.off = true ∧ KReady d [106] R more rec no) ∨ (d.off = false ∧ n = R.length ∧ c = false ∧ Stand d [106] (jframes R) ∧ (∀ r ∈ R, r.length ≤ 16777216) ∧ more = false ∧ rec = [] ∧ no = false))
theorem KMid.mono {w0 w : World} {bb g jb ab N N' : Nat} (h : KMid w0 w bb g jb ab N) (hm : N ≤ N') : KMid w0 w bb g jb ab N' := by
  obtain ⟨d, n, c, va, R, more, rec, no, kd, tx, an, kv, A, h1, h2⟩ := h
  exact ⟨d, n, c, va, R, more, rec, no, kd, tx, an, kv, A, h1.mono hm, h2⟩
/-- Ahead of a call: the power is on. -/
structure KS (w0 w : World) (bb g jb ab : Nat) (d : Dk) (N : Nat) (va : Value) (R : List Nm) (kd : Int) (tx : Nm) (an : Int) (kv : Value) (A : List Nat) : Prop where
  a : KA w0 w bb g jb ab d N R.length false va R false [] false [.int .i64 kd, strV tx, .int .i64 an, kv] A
  st : Stand d [106] (jframes R)
  small : ∀ r ∈ R, r.length ≤ 16777216
section
variable {w0 w w' : World} {bb g jb ab : Nat} {d : Dk} {N : Nat} {va vb : Value} {R : List Nm} {kd an : Int} {tx : Nm} {kv : Value} {A A' : List Nat}
theorem KS.few (h : KS w0 w bb g jb ab d N va R kd tx an kv A) : R.length ≤ 268435456 := h.st.few h.a.j.m.hd.bd
theorem KS.mid (h : KS w0 w bb g jb ab d N va R kd tx an kv A) : KMid w0 w bb g jb ab N := ⟨d, _, _, va, R, _, _, _, kd, tx, an, kv, A, h.a, by have := h.few; omega, Or.inr ⟨h.st.on, rfl, rfl, h.st, h.small, rfl, rfl, rfl⟩⟩
theorem KS.below (h : KS w0 w bb g jb ab d N va R kd tx an kv A) (hb : Below w.heap.size w w') : KS w0 w' bb g jb ab d N va R kd tx an kv A := ⟨h.a.below hb, h.st, h.small⟩
theorem KS.armed (h : KS w0 w bb g jb ab d N va R kd tx an kv A) (n : Int) (keep : List Int) (ht : HdTo g (darm d n keep) N A w w') : KMid w0 w' bb g jb ab N := by
  obtain ⟨A', h1⟩ := h.a.to (h.a.j.op (h.a.j.m.to ht))
  exact KS.mid (d := darm d n keep) ⟨h1, h.st.armed _ _, h.small⟩
theorem KS.crashed (h : KS w0 w bb g jb ab d N va R kd tx an kv A) (keep : List Int) (ht : HdTo g (dcrash d keep) N A w w') : KMid w0 w' bb g jb ab N := by
  obtain ⟨A', h1⟩ := h.a.to (h.a.j.op (h.a.j.m.to ht))
  have e : dcrash d keep = dfail d keep := by unfold dcrash; rw [if_neg (by rw [h.st.on]; simp)]
  rw [e] at h1
  have hf := h.st.fall keep
  exact ⟨_, _, _, _, R, _, _, _, _, _, _, _, A', h1, by have := h.few; omega, Or.inl ⟨hf.off, Or.inr (Or.inl ⟨_, hf, by rw [jbegin_all h.small]; exact Or.inl rfl⟩)⟩⟩
theorem jreset_noted {d : Dk} {nm : Nm} {n : Nat} (he : (jreset d nm n false).e = 0) : (jreset d nm n false).n = 0 := by
  unfold jreset at he ⊢
  rw [if_neg (by simp)] at he ⊢
  split at he
  · rename_i h; exact absurd he h
  · rename_i h1
    rw [if_neg h1]
    split at he
    · rename_i h; exact absurd he h
    · rename_i h2
      rw [if_neg h2]
      split at he
      · rename_i h; exact absurd he h
      · rename_i h3
        rw [if_neg h3]
theorem KS.reset (h : KS w0 w bb g jb ab d N va R kd tx an kv A) {J : Jr} (hJ : jreset d [106] R.length false = J) {xs : List Value} (hx : xs = [.int .i64 kd, strV tx, .int .i64 an, kv]) (hk : KA w0 w' bb g jb ab J.d (N + 3) J.n J.c vb (if J.e = 0 then [] else R) false [] (J.e == 20) xs A') : KMid w0 w' bb g jb ab (N + 3) := by
  subst hx
  rcases jreset_stand h.st (by simp) R.length with ⟨e, ec, es⟩ | ⟨e, y, hy, hyy⟩
  · have en := jreset_noted e
    rw [hJ] at e ec es en
    rw [e, ec, en, if_pos rfl] at hk
    exact KS.mid (R := []) ⟨hk, es, fun r hr => (by cases hr)⟩
  · rw [hJ] at e hy
    rw [e, if_neg (by simp)] at hk
    refine ⟨_, _, _, _, R, _, _, _, _, _, _, _, A', hk, by have := h.few; omega, Or.inl ⟨hy.off, Or.inr (Or.inl ⟨y, hy, ?_⟩)⟩⟩
    rcases hyy with rfl | rfl
    · rw [jbegin_all h.small]; exact Or.inl rfl
    · by_cases hR : R = []
      · subst hR; exact Or.inl (jbegin_nil ▸ rfl)
      · exact Or.inr (Or.inr ⟨by rw [jbegin_nil]; exact Ne.symm hR, rfl, rfl, by rw [jbegin_nil]⟩)
theorem jappend_noted {d : Dk} {nm : Nm} {n : Nat} {r : Nm} : (jappend d nm n false r).n = if (jappend d nm n false r).e = 0 then n + 1 else n := by
  unfold jappend
  rw [if_neg (by simp)]
  split
  · rfl
  · split
    · rfl
    · split
      · first | rfl | (rename_i h; rw [if_neg h])
      · split
        · first | rfl | (rename_i h; rw [if_neg h])
        · rfl
theorem KS.app (h : KS w0 w bb g jb ab d N va R kd tx an kv A) {J : Jr} (hJ : jappend d [106] R.length false tx = J) {kd' : Int} {xs : List Value} (hx : xs = [.int .i64 kd', strV tx, .int .i64 an, kv]) (hk : KA w0 w' bb g jb ab J.d (N + 2) J.n J.c vb (if J.e = 0 then R ++ [tx] else R) (J.e == 20) (if J.e = 20 then tx else []) false xs A') : KMid w0 w' bb g jb ab (N + 2) := by
  subst hx
  have en := jappend_noted (d := d) (nm := [106]) (n := R.length) (r := tx)
  have hs := jappend_stand h.st h.small R.length tx
  rw [hJ] at en hs
  rcases hs with ⟨e0, e20, ec, es⟩ | ⟨e, ec, hr, es⟩ | ⟨e, hr, y, hy, hyy⟩
  · have eq : (J.e == 20) = false := by simpa using e20
    rw [en, ec, if_neg e0, if_neg e0, if_neg e20, eq] at hk
    exact KS.mid (R := R) ⟨hk, es, h.small⟩
  · rw [en, e, ec, if_pos rfl, if_pos rfl, if_neg (by simp)] at hk
    exact KS.mid (R := R ++ [tx]) ⟨by rw [List.length_append]; exact hk, es, fun r hr2 => by
      rcases List.mem_append.1 hr2 with h2 | h2
      · exact h.small r h2
      · simp at h2; subst h2; exact hr⟩
  · rw [e, if_neg (by simp), if_pos rfl] at hk
    refine ⟨_, _, _, _, R, _, _, _, _, _, _, _, A', hk, by have := h.few; omega, Or.inl ⟨hy.off, Or.inr (Or.inl ⟨y, hy, ?_⟩)⟩⟩
    rcases hyy with e1 | e1
    · exact Or.inl e1
    · exact Or.inr (Or.inl ⟨by rw [e1]; intro h2; have := congrArg List.length h2; simp at this, rfl, e1⟩)
end
theorem jreset_code (d : Dk) {x : List UInt8} (h : Stand d [106] x) (n : Nat) : (jreset d [106] n false).e = 0 ∨ (jreset d [106] n false).e = 20 := by
  rcases jreset_stand h (by simp) n with ⟨e, -⟩ | ⟨e, -⟩
  · exact Or.inl e
  · exact Or.inr e
theorem ddo_codeK (d : Dk) (o : Od) : (ddo d o).2 ≤ 25 := by
  by_cases hoff : d.off = true
  · unfold ddo; rw [if_pos hoff]; simp
  · rcases Nat.eq_zero_or_pos (drefused d o) with hr | hr
    · rcases ddo_any (by simpa using hoff) hr with ⟨_, h⟩ | ⟨_, h⟩
      · rw [h]; simp
      · rw [h]; simp
    · unfold ddo
      rw [if_neg hoff, if_pos (by omega)]
      have : drefused d o ≤ 21 := by
        cases o <;> simp only [drefused] <;> (repeat' split) <;> omega
      simp only
      omega
theorem jappend_code (d : Dk) (nm : Nm) (n : Nat) (r : Nm) : (jappend d nm n false r).e ≤ 25 := by
  have h1 := ddo_codeK d (.write nm (jframe r))
  have h2 := ddo_codeK (ddo d (.write nm (jframe r))).1 (.sync nm)
  unfold jappend
  rw [if_neg (by simp)]
  split
  · simp
  · split
    · simp
    · split
      · exact h1
      · split
        · exact h2
        · simp
end Go.Proofs.YtfgpigblnkanpaaGreatDoor
