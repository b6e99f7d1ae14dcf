/- The walks of many and after: closed helpers of the statements on disks. -/
import Derived.Test.YtfgpigblnkanpaaGreatDoorLd
namespace Go.Proofs.YtfgpigblnkanpaaGreatDoor
open Go.RowKit Go.Maps Go.Shelf
set_option linter.unusedVariables false

def manyL (n : Nat) : List UInt8 := List.replicate n 110
def mcells (n : Nat) : List Value := List.replicate n (.int .u8 110)
theorem infoByte : (Tryz.prog.info? 5).map (fun i => (i.zero, i.size, i.bytes)) = some (some (.int .u8 0), 1, 1) := by kernel_rfl
theorem conv_row {w : World} {B n : Nat} {v : Value} (h : w.ownsRow B 5 1 v n (mcells n)) (h0 : 0 < n) : (convert 140 9 v).run Tryz.prog w = .ok (strV (manyL n)) w := by
  obtain ⟨a, c, rfl, hc⟩ := row_open h
  have hx : ∀ k, k < n → (mcells n)[k]? = some (.int .u8 110) := fun k hk => by unfold mcells; simp [hk]
  obtain ⟨g, rfl, -⟩ := hc 0 _ (hx 0 h0)
  have hcell : ∀ i, i < n → w.cell? ⟨g, 0 + i, none⟩ = some (.int .u8 (((manyL n).map fun b => (b.toNat : Int)).getD i 0)) := fun i hi => by
    obtain ⟨g2, e2, h2, -⟩ := hc i _ (hx i hi)
    cases e2
    rw [Nat.zero_add, h2]
    unfold manyL
    simp [hi]
  rw [run_convert_bytes_arg w 140 5 Tryz.underlying140 Tryz.underlying5 g 0 n c ((manyL n).map fun b => (b.toNat : Int)) (by unfold manyL; simp) hcell 9 Tryz.underlying9, strOfNums_bytes]
set_option maxHeartbeats 2000000 in
set_option maxRecDepth 100000 in
theorem many_any (w : World) (n : Nat) (h0 : 0 < n) (hn : n < 1000) : Calls Tryz.prog 32 #[.int .i64 n] w fun e w' => e = .returned (strV (manyL n)) ∧ Below w.heap.size w w' := by
  obtain ⟨i0, hi, hz0, hz1, hz2⟩ := info_parts infoByte
  go_enter Tryz.func32, Tryz.ntmps32
  go_wp2_with (fail)
  go_loopw [3, 4] (fun v i wr => ∃ k : Nat, i = .int .i64 k ∧ k ≤ n ∧ wr.ownsRow w.heap.size 5 1 v k (mcells k) ∧ Below w.heap.size w wr) (fun _ i _ => n - (intOf i).toNat)
  case atStart => exact ⟨0, rfl, Nat.zero_le _, World.ownsRow_nil _ _ _ _, Below.refl _ _⟩
  case round =>
    obtain ⟨k, rfl, hk, hown, hbel⟩ := hrel
    by_cases hlt : k < n
    · obtain ⟨va, vc, rfl, -⟩ := row_open hown
      have hsz := hbel.size
      go_wp2_with (at_builtin; refine wpList_append_own _ rfl _ _ 140 rfl w.heap.size 5 i0 (.int .u8 0) 1 1 Tryz.underlying140 hi hz0 hz1 hz2 rfl (by decide) (.slice va k vc) k (mcells k) rfl (hown.alloc _) ⟨wr.heap.size, 0, none⟩ 1 1 [.int .u8 110] rfl rfl ?c1 ?c2 ?c3 ?c4 ?c5 ?_)
      case c1 => exact World.news_of_block (cs := #[.int .u8 110]) (t := 5) (fr := (0, 0)) (heap_alloc_new wr _)
      case c2 => intro u hu; simp at hu; subst hu; rfl
      case c3 => unfold maxLen; omega
      case c4 => omega
      case c5 => simp; omega
      intro v' w5 hown5 hgrow5 hv5
      have hbel5 : Below w.heap.size w w5 := (hbel.alloc hsz _).grown hgrow5 (by simp; omega) (fun j hj => (hown.lt j hj).1)
      obtain ⟨wa, wc, rfl, -⟩ := row_open hown5
      have HO5 := Lib.hid hown5
      have HB5 := Lib.hid hbel5
      clear hown5 hgrow5 hv5 hown hbel5
      go_wp2
      go_roundw
      case rel => exact ⟨k + 1, by go_num, by omega, (by unfold mcells; rw [List.replicate_succ']; exact HO5.out), HB5.out⟩
      case measure => simp [intOf]; omega
    · obtain rfl : k = n := by omega
      have hcv := conv_row hown h0
      obtain ⟨va, vc, rfl, -⟩ := row_open hown
      have HB := Lib.hid hbel
      clear hown hbel
      go_wp2
      go_ret
      exact ⟨rfl, HB.out⟩

set_option maxHeartbeats 4000000 in
set_option maxRecDepth 100000 in
theorem after_any (w0 w : World) (K A : List Nat) (g : Nat) (d d2 : Dk) (N : Nat) (kv wv : Value) (keep : List Int) (want ns ds : List (List UInt8)) (h : Mine w0 w K A g d N) (hN : N < 4294967296)
    (hi : IntsAt w kv keep) (hkv : ∀ j, kv.ownBlock = some j → j < w.heap.size ∧ j ∉ A) (hw : TextsAt w wv want) (hwv : ∀ j, wv.ownBlock = some j → j < w.heap.size ∧ j ∉ A)
    (hd2 : drevive (dcrash d keep) = d2) (hsh : dshown d2 = (ns, ds)) (hlen : want.length = 2 * ns.length) (hl2 : ds.length = ns.length) (hn : ns.length < 1000)
    (hname : ∀ i n, ns[i]? = some n → want[2 * i]? = some n) (hdata : ∀ i s, ds[i]? = some s → want[2 * i + 1]? = some s) :
    Calls Tryz.prog 35 #[.pointer (some ⟨g, 0, none⟩), kv, wv] w fun e w' => e = .returned (.bool true) ∧ Below w0.heap.size w0 w' := by
  have hkeep : ∀ k ∈ wv.ownBlock.toList ++ kv.ownBlock.toList, k < w.heap.size ∧ k ∉ A := fun k hk => by
    rcases List.mem_append.1 hk with h1 | h1
    · exact hwv k (by simpa using h1)
    · exact hkv k (by simpa using h1)
  have hM : Mine w0 w (wv.ownBlock.toList ++ kv.ownBlock.toList) A g d N := ⟨h.hd, h.base, h.bel, hkeep⟩
  have hoff : d2.off = false := by rw [← hd2]; rfl
  have hcr := Crash_m hM kv keep rfl hN hi hkv
  obtain ⟨kb, kn, kc, hkb⟩ : ∃ a n c, kv = .slice a n c := by
    rcases hi with ⟨-, a, cap, rfl⟩ | ⟨b, off, cap, rfl, -⟩
    · exact ⟨_, _, _, rfl⟩
    · exact ⟨_, _, _, rfl⟩
  obtain ⟨wa, wc, rfl, -⟩ := hw.shape
  subst hkb
  have HC := Lib.hid hcr
  have HOFF := Lib.hid hoff
  have HD2 := Lib.hid hd2
  have HSH := Lib.hid hsh
  have HW := Lib.hid hw
  have HLEN := Lib.hid hlen
  have HL2 := Lib.hid hl2
  simp only [List.length_map] at *
  clear hcr hoff hd2 hsh hw hi hkv hwv hkeep hM h hlen hl2
  go_enter Tryz.func35, Tryz.ntmps35
  go_wp2_with (fail)
  refine HC.out.mono ?_
  rintro e w1 ⟨rfl, ⟨A1, h1⟩, hk1⟩
  have hw1 := HW.out.same (w' := w1) (fun k hk => hk1 k (List.mem_append_left _ (by simpa using hk)))
  have HW1 := Lib.hid hw1
  have H1 := Lib.hid h1
  clear hw1 h1 hk1
  go_wp2_with (fail)
  refine (Revive_m H1.out HD2.out).mono ?_
  rintro e w2 ⟨rfl, ⟨A2, h2⟩, hk2⟩
  have hw2 := HW1.out.same (w' := w2) (fun k hk => hk2 k (List.mem_append_left _ (by simpa using hk)))
  have HW2 := Lib.hid hw2
  have H2 := Lib.hid h2
  clear hw2 h2 hk2
  go_wp2_with (fail)
  refine (shown_any w2 A2 g d2 N H2.out.hd hN).mono ?_
  rintro e w3 ⟨u, v, rfl, hr, -, -, hb3⟩
  obtain ⟨hu, hv⟩ := hr HOFF.out
  rw [HSH.out] at hu hv
  rw [HOFF.out, Bool.not_false]
  have hb0 : Below w0.heap.size w0 w3 := H2.out.bel.trans (hb3.mono H2.out.bel.size)
  have hw3 := HW2.out.below hb3
  obtain ⟨ua, uc, rfl, hux⟩ := hu.shape
  obtain ⟨va, vc, rfl, hvx⟩ := hv.shape
  obtain ⟨_, _, hwe, hwx⟩ := hw3.shape
  simp only [Value.slice.injEq] at hwe
  obtain ⟨rfl, -, rfl⟩ := hwe
  have hx := Blk.new w3 [.slice ua (ns.map strV).length uc, .slice va (ds.map strV).length vc] 43
  have c0 := hx.cell 0
  have c1 := hx.cell 1
  have HUX := Lib.hid hux
  have HVX := Lib.hid hvx
  have HWX := Lib.hid hwx
  have HB0 := Lib.hid hb0
  simp only [List.length_map, List.getElem?_cons_zero, List.getElem?_cons_succ] at c0 c1 ⊢
  have hq : ((2 * ns.length : Nat) : Int) = 2 * (ns.length : Int) := by omega
  rw [HLEN.out]
  rw [HL2.out] at c0 c1 ⊢
  clear hu hv hr hw3 hb3 hux hvx hwx hb0 hx
  go_wp2_with (fail)
  go_loopw [9] (fun iv wr => ∃ k q : Nat, iv = .int .i64 k ∧ k ≤ ns.length ∧ wr = (w3.alloc (.cells #[.slice ua ns.length uc, .slice va ns.length vc] 43)).drewN q) (fun iv _ => ns.length - (intOf iv).toNat)
  case atStart => exact ⟨0, 0, rfl, Nat.zero_le _, rfl⟩
  case round =>
    obtain ⟨k, q, rfl, hk, rfl⟩ := hrel
    by_cases hlt : k < ns.length
    · obtain ⟨nm, hnm⟩ : ∃ x, ns[k]? = some x := ⟨_, List.getElem?_eq_getElem hlt⟩
      obtain ⟨dt, hdt⟩ : ∃ x, ds[k]? = some x := ⟨_, List.getElem?_eq_getElem (by have := HL2.out; omega)⟩
      have hbn : ∀ p v, w3.cell? p = some v → (w3.alloc (.cells #[.slice ua ns.length uc, .slice va ns.length vc] 43)).cell? p = some v := fun p v hp => (World.cell?_alloc_some w3 p _ (by rw [hp]; rfl)).trans hp
      obtain ⟨b1, o1, rfl, hc1, _⟩ := HUX.out k (strV nm) (by show (List.map strV ns)[k]? = _; rw [List.getElem?_map, hnm]; rfl)
      obtain ⟨b2, o2, rfl, hc2, _⟩ := HVX.out k (strV dt) (by show (List.map strV ds)[k]? = _; rw [List.getElem?_map, hdt]; rfl)
      obtain ⟨b3, o3, rfl, hc3, _⟩ := HWX.out (2 * k) (strV nm) (by rw [List.getElem?_map, hname k nm hnm]; rfl)
      obtain ⟨b4, o4, e4, hc4, _⟩ := HWX.out (2 * k + 1) (strV dt) (by rw [List.getElem?_map, hdata k dt hdt]; rfl)
      cases e4
      replace hc1 := hbn _ _ hc1
      replace hc2 := hbn _ _ hc2
      replace hc3 := hbn _ _ hc3
      replace hc4 := hbn _ _ hc4
      have t1 : ((str nm).toList == nm) = true := by rw [toList_str]; simp
      have t2 : ((str dt).toList == dt) = true := by rw [toList_str]; simp
      have ik0 : (0 : Int) ≤ (k : Int) := by omega
      have ik1 : (k : Int) < (ns.length : Int) := by omega
      have im0 : (0 : Int) ≤ 2 * (k : Int) := by omega
      have im1 : 2 * (k : Int) < ((2 * ns.length : Nat) : Int) := by omega
      have im2 : (0 : Int) ≤ 2 * (k : Int) + 1 := by omega
      have im3 : 2 * (k : Int) + 1 < ((2 * ns.length : Nat) : Int) := by omega
      have wr1 : IntKind.i64.wrap (2 * (k : Int)) = 2 * (k : Int) := IntWalk.i64_in _ (by omega)
      have wr2 : IntKind.i64.wrap (2 * (k : Int) + 1) = 2 * (k : Int) + 1 := IntWalk.i64_in _ (by omega)
      have tn1 : (2 * (k : Int)).toNat = 2 * k := by omega
      have tn2 : (2 * (k : Int) + 1).toNat = 2 * k + 1 := by omega
      have HNM := Lib.hid hnm
      have HDT := Lib.hid hdt
      clear hnm hdt hbn
      go_wp2
      go_quiet (fail)
      go_wp2
      go_roundw
      case rel => exact ⟨k + 1, _, by go_num, by omega, rfl⟩
      case measure => simp [intOf]; omega
    · go_wp2
      go_ret
      have hz := HB0.out.alloc (by have := HB0.out.size; omega) (.cells #[.slice ua ns.length uc, .slice va ns.length vc] 43)
      exact ⟨rfl, hz.os, hz.tape, hz.output, hz.size, hz.block⟩

theorem Arm_m {w0 w : World} {K A : List Nat} {g : Nat} {d d' : Dk} {N : Nat} (h : Mine w0 w K A g d N) (n : Int) (kv : Value) (keep : List Int) (hc : darm d n keep = d') (hi : IntsAt w kv keep) (hl : keep.length * 8 ≤ 140737488355328) (hw : wf64 keep) (hn : n ≤ 9223372036854775807) (hkv : ∀ j, kv.ownBlock = some j → j < w.heap.size) : Calls Tryz.prog 26 #[.pointer (some ⟨g, 0, none⟩), .int .i64 n, .agg #[kv]] w fun e w' => e = .returned (.tuple #[]) ∧ MineTo w0 K w g d' N w' :=
  (Arm_hd h.hd n kv keep hi hl hw hn hkv).mono fun e w' ⟨he, hp⟩ => ⟨he, h.to (by rw [← hc]; exact hp)⟩
theorem IntsAt.blk {w : World} {b : Nat} {t : TypeId} (l : List Int) (h : Blk w b (l.map (.int .i64)) t) (hl : l.length < 1000) : IntsAt w (.slice (some ⟨b, 0, none⟩) l.length l.length) l :=
  Or.inr ⟨b, 0, l.length, rfl, Nat.le_refl _, by omega, fun k x hx => by rw [Nat.zero_add, h.cell, List.getElem?_map, hx]; rfl⟩
theorem TextsAt.blk {w : World} {b : Nat} {t : TypeId} (l : List (List UInt8)) (h : Blk w b (l.map strV) t) : TextsAt w (.slice (some ⟨b, 0, none⟩) l.length l.length) l :=
  Or.inr ⟨b, 0, l.length, by rw [List.length_map], fun k x hx => by rw [Nat.zero_add, h.cell]; exact hx⟩
theorem ArmLit {w0 w : World} {K A : List Nat} {g : Nat} {d d' : Dk} {N : Nat} (h : Mine w0 w K A g d N) (n : Int) (keep : List Int) (hc : darm d n keep = d') (hl : keep.length < 1000) (hw : wf64 keep) (hn : n ≤ 9223372036854775807) : Calls Tryz.prog 26 #[.pointer (some ⟨g, 0, none⟩), .int .i64 n, .agg #[.slice (some ⟨w.heap.size, 0, none⟩) keep.length keep.length]] (w.alloc (.cells (keep.map (Value.int .i64)).toArray 3)) fun e w' => e = .returned (.tuple #[]) ∧ MineTo w0 K (w.alloc (.cells (keep.map (Value.int .i64)).toArray 3)) g d' N w' :=
  Arm_m (h.below ((Below.refl _ w).alloc (Nat.le_refl _) _)) n _ keep hc (IntsAt.blk keep (Blk.new _ _ _) hl) (by omega) hw hn (fun j hj => by cases hj; simp)
theorem AfterOne {w0 w : World} {K A : List Nat} {g : Nat} {d : Dk} {N : Nat} (h : Mine w0 w K A g d N) (hN : N < 4294967296) (keep : List Int) (n s : List UInt8) (hl : keep.length < 1000) (hsh : dshown (drevive (dcrash d keep)) = ([n], [s])) :
    Calls Tryz.prog 35 #[.pointer (some ⟨g, 0, none⟩), .slice (some ⟨w.heap.size, 0, none⟩) keep.length keep.length, .slice (some ⟨w.heap.size + 1, 0, none⟩) 2 2] ((w.alloc (.cells (keep.map (Value.int .i64)).toArray 3)).alloc (.cells #[strV n, strV s] 9)) fun e w' => e = .returned (.bool true) ∧ Below w0.heap.size w0 w' := by
  have hb : Below w.heap.size w ((w.alloc (.cells (keep.map (Value.int .i64)).toArray 3)).alloc (.cells #[strV n, strV s] 9)) := ((Below.refl _ w).alloc (Nat.le_refl _) _).alloc (by simp) _
  have hB : Blk ((w.alloc (.cells (keep.map (Value.int .i64)).toArray 3)).alloc (.cells #[strV n, strV s] 9)) (w.heap.size + 1) (List.map strV [n, s]) 9 := by
    have := Blk.new (w.alloc (.cells (keep.map (Value.int .i64)).toArray 3)) [strV n, strV s] 9
    rw [World.size_alloc] at this
    exact this
  refine after_any w0 _ K A g d _ N _ _ keep [n, s] [n] [s] (h.below hb) hN (IntsAt.blk keep ((Blk.new _ _ _).alloc _) hl) (fun j hj => ?_) (TextsAt.blk [n, s] hB) (fun j hj => ?_) rfl hsh rfl rfl (by simp) ?_ ?_
  · cases hj
    exact ⟨by simp; omega, fun hm => by have := h.hd.lt _ hm; simp only at this; omega⟩
  · cases hj
    exact ⟨by simp, fun hm => by have := h.hd.lt _ hm; simp only at this; omega⟩
  · intro i m hm
    match i, hm with
    | 0, hm => exact hm
    | i + 1, hm => simp at hm
  · intro i m hm
    match i, hm with
    | 0, hm => exact hm
    | i + 1, hm => simp at hm
theorem AfterNone {w0 w : World} {K A : List Nat} {g : Nat} {d : Dk} {N : Nat} (h : Mine w0 w K A g d N) (hN : N < 4294967296) (keep : List Int) (hl : keep.length < 1000) (hsh : dshown (drevive (dcrash d keep)) = ([], [])) :
    Calls Tryz.prog 35 #[.pointer (some ⟨g, 0, none⟩), .slice (some ⟨w.heap.size, 0, none⟩) keep.length keep.length, .slice none 0 0] (w.alloc (.cells (keep.map (Value.int .i64)).toArray 3)) fun e w' => e = .returned (.bool true) ∧ Below w0.heap.size w0 w' := by
  refine after_any w0 _ K A g d _ N _ _ keep [] [] [] (h.below ((Below.refl _ w).alloc (Nat.le_refl _) _)) hN (IntsAt.blk keep (Blk.new _ _ _) hl) (fun j hj => ?_) (Or.inl ⟨rfl, none, 0, rfl⟩) (fun j hj => by simp [Value.ownBlock] at hj) rfl hsh rfl rfl (by simp) (fun i m hm => by simp at hm) (fun i m hm => by simp at hm)
  cases hj
  exact ⟨by simp, fun hm => by have := h.hd.lt _ hm; simp only at this; omega⟩
theorem AfterNil {w0 w : World} {K A : List Nat} {g : Nat} {d : Dk} {N : Nat} (h : Mine w0 w K A g d N) (hN : N < 4294967296) (hsh : dshown (drevive (dcrash d [])) = ([], [])) :
    Calls Tryz.prog 35 #[.pointer (some ⟨g, 0, none⟩), .slice none 0 0, .slice none 0 0] w fun e w' => e = .returned (.bool true) ∧ Below w0.heap.size w0 w' :=
  after_any w0 _ K A g d _ N _ _ [] [] [] [] h hN (IntsAt.nil _ none 0) (fun j hj => by simp [Value.ownBlock] at hj) (Or.inl ⟨rfl, none, 0, rfl⟩) (fun j hj => by simp [Value.ownBlock] at hj) rfl hsh rfl rfl (by simp) (fun i m hm => by simp at hm) (fun i m hm => by simp at hm)
end Go.Proofs.YtfgpigblnkanpaaGreatDoor
