/- A step of both disks; two pairs of disks made; the walk of the statement DiskPlays. -/
import Derived.Test.YtfgpigblnkanpaaGreatDoorGN
import Derived.Test.YtfgpigblnkanpaaGreatDoorRw
import Derived.Test.YtfgpigblnkanpaaGreatDoorGO
import Derived.Test.YtfgpigblnkanpaaGreatDoorGJ
import Derived.WalkLawsBesides
import Derived.StillTailTactics
import Derived.Deep.RegionWith
namespace Go.Proofs.YtfgpigblnkanpaaGreatDoor
open Go.RowKit Go.Maps Go.Shelf
set_option linter.unusedVariables false
set_option linter.unusedSimpArgs false

theorem StepsAt.stepR {w wr : World} {a : Option Addr} {n cap : Nat} {ss : List Sp} (h : StepsAt w (.slice a n cap) ss) (hb : Below w.heap.size w wr) {k : Nat} {s : Sp} (hs : ss[k]? = some s) :
    ∃ b off ka kn kc, a = some ⟨b, off, none⟩ ∧ wr.cell? ⟨b, off + k * 6, none⟩ = some (.int .i64 s.do_) ∧ wr.cell? ⟨b, off + k * 6 + 1, none⟩ = some (.int .i64 s.who) ∧ wr.cell? ⟨b, off + k * 6 + 2, none⟩ = some (strV s.name) ∧ wr.cell? ⟨b, off + k * 6 + 3, none⟩ = some (strV s.data) ∧ wr.cell? ⟨b, off + k * 6 + 4, none⟩ = some (.int .i64 s.n) ∧ wr.cell? ⟨b, off + k * 6 + 5, none⟩ = some (.slice ka kn kc) ∧ IntsAt w (.slice ka kn kc) s.keep := by
  obtain ⟨a', cap', e, h2⟩ := h
  simp only [Value.slice.injEq] at e
  obtain ⟨rfl, _, _⟩ := e
  obtain ⟨b, off, ka, kn, kc, rfl, hc, hik⟩ := h2 k s hs
  have hcell : ∀ j x, (s.cells (.slice ka kn kc))[j]? = some x → wr.cell? ⟨b, off + k * 6 + j, none⟩ = some x := fun j x hj => by
    have := hc j x hj
    exact (hb.cell (World.block_lt_of_cell? w _ this)).trans this
  exact ⟨b, off, ka, kn, kc, rfl, hcell 0 _ rfl, hcell 1 _ rfl, hcell 2 _ rfl, hcell 3 _ rfl, hcell 4 _ rfl, hcell 5 _ rfl, hik⟩
theorem StepsAt.lenR {w : World} {v : Value} {ss : List Sp} (h : StepsAt w v ss) : ∃ a cap, v = .slice a ss.length cap := by
  obtain ⟨a, cap, rfl, _⟩ := h
  exact ⟨a, cap, rfl⟩
/-- What a step makes of a disk. -/
def dstep (d : Dk) (s : Sp) : Dk :=
  if 1 ≤ s.do_ ∧ s.do_ ≤ 6 then (ddo d (odOf s)).1 else if s.do_ = 9 then darm d s.n s.keep else if s.do_ = 10 then dcrash d s.keep else if s.do_ = 11 then drevive d else d
theorem Pr2.mono1 {g r : Nat} {d : Dk} {N : Nat} {A : List Nat} {w w' : World} (h : ResTo (Pr2 g r d d N) A w w') : ResTo (Pr2 g r d d (N + 1)) A w w' := h.map fun B hB => Pr2.mono hB (Nat.le_succ N)
theorem pstep_any (w : World) (A : List Nat) (g r : Nat) (d : Dk) (N : Nat) (s : Sp) (ka : Option Addr) (kn kc : Nat) (h : Pr2 g r d d N w A) (hN : N + 1 ≤ 1073741824) (hok : SpOk s) (hi : IntsAt w (.slice ka kn kc) s.keep) (hkA : ∀ j, usesOf (.slice ka kn kc) s.keep = some j → j ∉ A) (hg : ErrorLaid w) (hgA : 0 ∉ A) :
    Calls Tryz.prog 23 #[.agg #[.pointer (some ⟨g, 0, none⟩), .pointer (some ⟨r, 0, none⟩)], .agg (s.cells (.slice ka kn kc)).toArray] w fun e w' => e = .returned (.bool true) ∧ ResTo (Pr2 g r (dstep d s) (dstep d s) (N + 1)) A w w' := by
  have hn := hok.1
  have hdt := hok.2.1
  by_cases h1 : 1 ≤ s.do_ ∧ s.do_ ≤ 6
  · have e : dstep d s = (ddo d (odOf s)).1 := by unfold dstep; rw [if_pos h1]
    rw [e]
    exact pstep_op w A g r d N s ka kn kc h hN (by omega) (by omega) hg hgA h1.1 h1.2
  · by_cases h9 : s.do_ = 9
    · have e : dstep d s = darm d s.n s.keep := by unfold dstep; rw [if_neg h1, if_pos h9]
      rw [e]
      exact (pstep_arm w A g r d N s ka kn kc h (by omega) hok hi hkA h9).mono fun e w' hp => ⟨hp.1, Pr2.mono1 hp.2⟩
    · by_cases h10 : s.do_ = 10
      · have e : dstep d s = dcrash d s.keep := by unfold dstep; rw [if_neg h1, if_neg h9, if_pos h10]
        rw [e]
        exact (pstep_crash w A g r d N s ka kn kc h (by omega) hok hi hkA h10).mono fun e w' hp => ⟨hp.1, Pr2.mono1 hp.2⟩
      · by_cases h11 : s.do_ = 11
        · have e : dstep d s = drevive d := by unfold dstep; rw [if_neg h1, if_neg h9, if_neg h10, if_pos h11]
          rw [e]
          exact (pstep_revive w A g r d N s ka kn kc h h11).mono fun e w' hp => ⟨hp.1, Pr2.mono1 hp.2⟩
        · have e : dstep d s = d := by unfold dstep; rw [if_neg h1, if_neg h9, if_neg h10, if_neg h11]
          rw [e]
          have key : ∀ {e : Ending} {w' : World}, e = .returned (.bool true) ∧ Below w.heap.size w w' → e = .returned (.bool true) ∧ ResTo (Pr2 g r d d (N + 1)) A w w' := fun hp => ⟨hp.1, ResTo.of_below (((Pr2.res g r d d N).below h hp.2).mono (Nat.le_succ N)) hp.2⟩
          by_cases h7 : s.do_ = 7
          · exact (pstep_read w A g r d N s ka kn kc h (by omega) (by omega) hg h7).mono fun e w' hp => key hp
          · by_cases h8 : s.do_ = 8
            · exact (pstep_list w A g r d N s ka kn kc h (by omega) (by omega) hg h8).mono fun e w' hp => key hp
            · exact (pstep_none w g r s ka kn kc (by omega)).mono fun e w' hp => key hp
/-- A new pair, the program's disk first. -/
theorem new_pair1 {V wD wR : World} {A1 : List Nat} {g r : Nat} {d : Dk} (hbD : Below V.heap.size V wD) (hH : Hd wD A1 g d 0) (hA : ∀ k ∈ A1, V.heap.size ≤ k) (hbR : Below wD.heap.size wD wR) (hR : Rd2 wR [r] r d 0) (hr : wD.heap.size ≤ r) :
    ∃ A, Pr2 g r d d 0 wR A ∧ (∀ k ∈ A, V.heap.size ≤ k) ∧ Below V.heap.size V wR := by
  have hs := hbD.size
  refine ⟨A1 ++ [r], ⟨A1, [r], hH.below hbR, hR, fun k hk hk2 => ?_, fun k hk => List.mem_append_left _ hk, fun k hk => List.mem_append_right _ hk, fun k hk => ?_⟩, fun k hk => ?_, hbD.trans (hbR.mono hs)⟩
  · simp at hk2
    have := hH.lt k hk
    omega
  · rcases List.mem_append.1 hk with h | h
    · exact Nat.lt_of_lt_of_le (hH.lt k h) hbR.size
    · exact hR.lt k h
  · rcases List.mem_append.1 hk with h | h
    · exact hA k h
    · simp at h; omega
theorem new_pair2 {V wD wR : World} {A1 : List Nat} {g r : Nat} {d : Dk} (hbR : Below V.heap.size V wR) (hR : Rd2 wR [r] r d 0) (hr : V.heap.size ≤ r) (hbD : Below wR.heap.size wR wD) (hH : Hd wD A1 g d 0) (hA : ∀ k ∈ A1, wR.heap.size ≤ k) :
    ∃ A, Pr2 g r d d 0 wD A ∧ (∀ k ∈ A, V.heap.size ≤ k) ∧ Below V.heap.size V wD := by
  have hs := hbR.size
  refine ⟨A1 ++ [r], ⟨A1, [r], hH, hR.below hbD, fun k hk hk2 => ?_, fun k hk => List.mem_append_left _ hk, fun k hk => List.mem_append_right _ hk, fun k hk => ?_⟩, fun k hk => ?_, hbR.trans (hbD.mono hs)⟩
  · simp at hk2
    have h1 := hR.lt r (by simp)
    have := hA k hk
    omega
  · rcases List.mem_append.1 hk with h | h
    · exact hH.lt k h
    · exact Nat.lt_of_lt_of_le (hR.lt k h) hbD.size
  · rcases List.mem_append.1 hk with h | h
    · have := hA k h; omega
    · simp at h; omega
def nilP : Value := .pointer none
def ptrP (g : Nat) : Value := .pointer (some ⟨g, 0, none⟩)
/-- While the pairs are made. -/
def PlSt (w wr : World) (q0 q1 : Int) (br bp k : Nat) : Prop :=
  Blk wr br [.int .i64 q0, .int .i64 q1] 55 ∧ ((k = 0 ∧ Below w.heap.size w wr ∧ Blk wr bp [nilP, nilP, nilP, nilP] 59) ∨
  (k = 1 ∧ ∃ g r A, MineR w wr [br, bp] A (Pr2 g r (dnew q0) (dnew q0) 0) ∧ Blk wr bp [ptrP g, ptrP r, nilP, nilP] 59) ∨
  (k = 2 ∧ ∃ g r g' r' A, MineR w wr [br, bp] A (Both (Pr2 g r (dnew q0) (dnew q0) 0) (Pr2 g' r' (dnew q1) (dnew q1) 0)) ∧ Blk wr bp [ptrP g, ptrP r, ptrP g', ptrP r'] 59))
/-- While the script plays. -/
def PlIn (w wr : World) (bp g r g' r' k : Nat) : Prop := ∃ d d' A, MineR w wr [bp] A (Both (Pr2 g r d d k) (Pr2 g' r' d' d' k)) ∧ Blk wr bp [ptrP g, ptrP r, ptrP g', ptrP r'] 59
theorem PlSt.last {w wr : World} {q0 q1 : Int} {br bp : Nat} (h : PlSt w wr q0 q1 br bp 2) : ∃ g r g' r', PlIn w wr bp g r g' r' 0 := by
  rcases h.2 with ⟨h2, _⟩ | ⟨h2, _⟩ | ⟨_, g, r, g', r', A, hm, hx⟩
  · exact absurd h2 (by decide)
  · exact absurd h2 (by decide)
  · exact ⟨g, r, g', r', _, _, A, hm.less (fun k hk => by simp at hk; simp [hk]), hx⟩
theorem PlSt.next0 {w wr wn : World} {q0 q1 : Int} {br bp g r : Nat} {A : List Nat} (h : PlSt w wr q0 q1 br bp 0) (hP : Pr2 g r (dnew q0) (dnew q0) 0 wn A) (hA : ∀ k ∈ A, wr.heap.size ≤ k) (hb : Below wr.heap.size wr wn) (h1 : w.heap.size ≤ bp) (hne : br ≠ bp) :
    PlSt w ((wn.setCell ⟨bp, 0, none⟩ (ptrP g)).setCell ⟨bp, 1, none⟩ (ptrP r)) q0 q1 br bp 1 := by
  obtain ⟨hr, h0⟩ := h
  have h0 : Below w.heap.size w wr ∧ Blk wr bp [nilP, nilP, nilP, nilP] 59 := by
    rcases h0 with ⟨_, h2, h3⟩ | ⟨h2, _⟩ | ⟨h2, _⟩
    · exact ⟨h2, h3⟩
    · exact absurd h2 (by decide)
    · exact absurd h2 (by decide)
  obtain ⟨hbw, hx⟩ := h0
  have hl1 := hr.lt
  have hl2 := hx.lt
  have hs := hb.size
  have hm : MineR w wn [br, bp] A (Pr2 g r (dnew q0) (dnew q0) 0) := ⟨hP, fun k hk => Nat.le_trans hbw.size (hA k hk), hbw.trans (hb.mono hbw.size), fun k hk => by
    simp at hk
    rcases hk with rfl | rfl
    · exact ⟨by omega, fun hm => by have := hA _ hm; omega⟩
    · exact ⟨by omega, fun hm => by have := hA _ hm; omega⟩⟩
  have hres := Pr2.res g r (dnew q0) (dnew q0) 0
  refine ⟨((hr.below hb hl1).same (heap_setCell_other _ _ _ _ hne)).same (heap_setCell_other _ _ _ _ hne), Or.inr (Or.inl ⟨rfl, g, r, A, (hm.set hres ⟨bp, 0, none⟩ (by simp) h1 _).set hres ⟨bp, 1, none⟩ (by simp) h1 _, ?_⟩)⟩
  exact ((hx.below hb hl2).set 0 (ptrP g)).set 1 (ptrP r)
theorem PlSt.next1 {w wr wn : World} {q0 q1 : Int} {br bp g' r' : Nat} {A2 : List Nat} (h : PlSt w wr q0 q1 br bp 1) (hP : Pr2 g' r' (dnew q1) (dnew q1) 0 wn A2) (hA : ∀ k ∈ A2, wr.heap.size ≤ k) (hb : Below wr.heap.size wr wn) (h1 : w.heap.size ≤ bp) (hne : br ≠ bp) :
    PlSt w ((wn.setCell ⟨bp, 2, none⟩ (ptrP g')).setCell ⟨bp, 3, none⟩ (ptrP r')) q0 q1 br bp 2 := by
  obtain ⟨hr, h0⟩ := h
  have h0 : ∃ g r A, MineR w wr [br, bp] A (Pr2 g r (dnew q0) (dnew q0) 0) ∧ Blk wr bp [ptrP g, ptrP r, nilP, nilP] 59 := by
    rcases h0 with ⟨h2, _⟩ | ⟨_, h2⟩ | ⟨h2, _⟩
    · exact absurd h2 (by decide)
    · exact h2
    · exact absurd h2 (by decide)
  obtain ⟨g, r, A, hm, hx⟩ := h0
  have hl1 := hr.lt
  have hl2 := hx.lt
  have hR1 := Pr2.res g r (dnew q0) (dnew q0) 0
  have hR2 := Pr2.res g' r' (dnew q1) (dnew q1) 0
  obtain ⟨⟨A', hm2⟩, hk⟩ := hm.to (Both.made hR1 hR2 hm.hd hb hP hA)
  have hres := Both.res hR1 hR2
  refine ⟨((hr.below hb hl1).same (heap_setCell_other _ _ _ _ hne)).same (heap_setCell_other _ _ _ _ hne), Or.inr (Or.inr ⟨rfl, g, r, g', r', A', (hm2.set hres ⟨bp, 2, none⟩ (by simp) h1 _).set hres ⟨bp, 3, none⟩ (by simp) h1 _, ?_⟩)⟩
  exact ((hx.below hb hl2).set 2 (ptrP g')).set 3 (ptrP r')
set_option maxHeartbeats 8000000 in
set_option maxRecDepth 100000 in
theorem DiskPlays_any (w : World) (q0 q1 : Int) (v : Value) (ss : List Sp) (hs : StepsAt w v ss) (o1 : ∀ x ∈ ss, SpOk x) (n1 : ss.length ≤ 1048576) (hg : ErrorLaid w) :
    Calls Tryz.prog 5 #[.agg #[.int .i64 q0, .int .i64 q1], v] w fun e w' => e = .returned (.bool true) ∧ Below w.heap.size w w' := by
  obtain ⟨fa, fc, rfl⟩ := hs.lenR
  have HST := Lib.hid hs
  have HO := Lib.hid o1
  have HG := Lib.hid hg
  clear hs o1 hg
  go_enter Tryz.func5, Tryz.ntmps5
  go_wp2_with (fail)
  go_loopw [6] (fun iv wr => ∃ k : Nat, iv = .int .i64 k ∧ k ≤ 2 ∧ Hid (PlSt w wr q0 q1 w.heap.size (w.heap.size + 1) k)) (fun iv _ => 2 - (intOf iv).toNat)
  case atStart =>
    refine ⟨0, rfl, Nat.zero_le _, ?_⟩
    have hb1 := Blk.new (w.alloc (.cells ([.int .i64 q0, .int .i64 q1] : List Value).toArray 55)) [nilP, nilP, nilP, nilP] 59
    rw [World.size_alloc] at hb1
    exact ⟨(Blk.new w [.int .i64 q0, .int .i64 q1] 55).alloc (.cells [nilP, nilP, nilP, nilP].toArray 59), Or.inl ⟨rfl, ((Below.refl _ w).alloc (Nat.le_refl _) _).alloc (by simp) _, hb1⟩⟩
  case round =>
    obtain ⟨k, rfl, hk, hst⟩ := hrel
    have hk3 : k = 0 ∨ k = 1 ∨ k = 2 := by omega
    rcases hk3 with rfl | rfl | rfl
    · have hrr := hst.out.1
      have hxx : ∃ va vb, Blk wr (w.heap.size + 1) [nilP, nilP, va, vb] 59 := by
        rcases hst.out.2 with ⟨h2, _, h3⟩ | ⟨h2, g, r, A, _, h3⟩ | ⟨h2, _⟩
        · exact ⟨nilP, nilP, h3⟩
        · exact absurd h2 (by decide)
        · exact absurd h2 (by decide)
      obtain ⟨va, vb, hxx⟩ := hxx
      have y0 := hrr.cell 0
      have z0 := hxx.cell 0
      have z1 := hxx.cell 1
      have f0 := hxx.free 0
      have f1 := hxx.free 1
      simp only [List.getElem?_cons_zero, List.getElem?_cons_succ] at y0 z0 z1
      have hlr := hrr.lt
      have hlx := hxx.lt
      have HST2 := Lib.hid hst.out
      have ND := Lib.hid fun W => New_hd W q0
      have NR := Lib.hid fun W => rNew_rd W q0
      unfold NewHd at ND
      clear hrr hxx hst hk
      go_upto_region 5 with (fail)
      go_region_with (first
        | (go_at_call 11; refine (ND.out _).mono ?_; rintro e wD ⟨g1, A1, rfl, hHd, hbD, hfr⟩; have yD : wD.cell? ⟨w.heap.size, 0, none⟩ = _ := (by first | exact ((below_undrew hbD).cell (p := ⟨w.heap.size, 0, none⟩) hlr).trans y0 | exact (hbD.cell (p := ⟨w.heap.size, 0, none⟩) (Nat.lt_of_lt_of_le hlr (below_undrew hbR).size)).trans yR); have zD0 : wD.cell? ⟨w.heap.size + 1, 0, none⟩ = _ := (by first | exact ((below_undrew hbD).cell (p := ⟨w.heap.size + 1, 0, none⟩) hlx).trans z0 | exact (hbD.cell (p := ⟨w.heap.size + 1, 0, none⟩) (Nat.lt_of_lt_of_le hlx (below_undrew hbR).size)).trans zR0); have zD1 : wD.cell? ⟨w.heap.size + 1, 1, none⟩ = _ := (by first | exact ((below_undrew hbD).cell (p := ⟨w.heap.size + 1, 1, none⟩) hlx).trans z1 | exact (hbD.cell (p := ⟨w.heap.size + 1, 1, none⟩) (Nat.lt_of_lt_of_le hlx (below_undrew hbR).size)).trans zR1); have fD0 : wD.frozen? ⟨w.heap.size + 1, 0, none⟩ = false := (by first | exact ((below_undrew hbD).frozen (p := ⟨w.heap.size + 1, 0, none⟩) hlx).trans f0 | exact (hbD.frozen (p := ⟨w.heap.size + 1, 0, none⟩) (Nat.lt_of_lt_of_le hlx (below_undrew hbR).size)).trans fR0); have fD1 : wD.frozen? ⟨w.heap.size + 1, 1, none⟩ = false := (by first | exact ((below_undrew hbD).frozen (p := ⟨w.heap.size + 1, 1, none⟩) hlx).trans f1 | exact (hbD.frozen (p := ⟨w.heap.size + 1, 1, none⟩) (Nat.lt_of_lt_of_le hlx (below_undrew hbR).size)).trans fR1))
        | (go_at_call 22; refine (NR.out _).mono ?_; rintro e wR ⟨r1, rfl, hRd, hrg, hbR⟩; have yR : wR.cell? ⟨w.heap.size, 0, none⟩ = _ := (by first | exact ((below_undrew hbR).cell (p := ⟨w.heap.size, 0, none⟩) hlr).trans y0 | exact (hbR.cell (p := ⟨w.heap.size, 0, none⟩) (Nat.lt_of_lt_of_le hlr (below_undrew hbD).size)).trans yD); have zR0 : wR.cell? ⟨w.heap.size + 1, 0, none⟩ = _ := (by first | exact ((below_undrew hbR).cell (p := ⟨w.heap.size + 1, 0, none⟩) hlx).trans z0 | exact (hbR.cell (p := ⟨w.heap.size + 1, 0, none⟩) (Nat.lt_of_lt_of_le hlx (below_undrew hbD).size)).trans zD0); have zR1 : wR.cell? ⟨w.heap.size + 1, 1, none⟩ = _ := (by first | exact ((below_undrew hbR).cell (p := ⟨w.heap.size + 1, 1, none⟩) hlx).trans z1 | exact (hbR.cell (p := ⟨w.heap.size + 1, 1, none⟩) (Nat.lt_of_lt_of_le hlx (below_undrew hbD).size)).trans zD1); have fR0 : wR.frozen? ⟨w.heap.size + 1, 0, none⟩ = false := (by first | exact ((below_undrew hbR).frozen (p := ⟨w.heap.size + 1, 0, none⟩) hlx).trans f0 | exact (hbR.frozen (p := ⟨w.heap.size + 1, 0, none⟩) (Nat.lt_of_lt_of_le hlx (below_undrew hbD).size)).trans fD0); have fR1 : wR.frozen? ⟨w.heap.size + 1, 1, none⟩ = false := (by first | exact ((below_undrew hbR).frozen (p := ⟨w.heap.size + 1, 1, none⟩) hlx).trans f1 | exact (hbR.frozen (p := ⟨w.heap.size + 1, 1, none⟩) (Nat.lt_of_lt_of_le hlx (below_undrew hbD).size)).trans fD1)))
      all_goals
        first
          | obtain ⟨A, hP, hA, hbN⟩ := new_pair1 (V := wr) (below_undrew hbD) hHd hfr hbR hRd hrg
          | obtain ⟨A, hP, hA, hbN⟩ := new_pair2 (V := wr) (below_undrew hbR) hRd hrg hbD hHd hfr
        have HNX := Lib.hid (HST2.out.next0 hP hA hbN (Nat.le_succ _) (by omega))
        clear hP hA hbN hHd hRd hbD hbR hfr hrg yD yR ND NR HST2
        go_wp2
        go_roundw
        case rel => exact ⟨_, rfl, by decide, HNX.out⟩
        case measure => simp [intOf]
    · have hrr := hst.out.1
      have hxx : ∃ va vb, Blk wr (w.heap.size + 1) [va, vb, nilP, nilP] 59 := by
        rcases hst.out.2 with ⟨h2, _, h3⟩ | ⟨h2, g, r, A, _, h3⟩ | ⟨h2, _⟩
        · exact absurd h2 (by decide)
        · exact ⟨ptrP g, ptrP r, h3⟩
        · exact absurd h2 (by decide)
      obtain ⟨va, vb, hxx⟩ := hxx
      have y0 := hrr.cell 1
      have z0 := hxx.cell 2
      have z1 := hxx.cell 3
      have f0 := hxx.free 2
      have f1 := hxx.free 3
      simp only [List.getElem?_cons_zero, List.getElem?_cons_succ] at y0 z0 z1
      have hlr := hrr.lt
      have hlx := hxx.lt
      have HST2 := Lib.hid hst.out
      have ND := Lib.hid fun W => New_hd W q1
      have NR := Lib.hid fun W => rNew_rd W q1
      unfold NewHd at ND
      clear hrr hxx hst hk
      go_upto_region 5 with (fail)
      go_region_with (first
        | (go_at_call 11; refine (ND.out _).mono ?_; rintro e wD ⟨g1, A1, rfl, hHd, hbD, hfr⟩; have yD : wD.cell? ⟨w.heap.size, 1, none⟩ = _ := (by first | exact ((below_undrew hbD).cell (p := ⟨w.heap.size, 1, none⟩) hlr).trans y0 | exact (hbD.cell (p := ⟨w.heap.size, 1, none⟩) (Nat.lt_of_lt_of_le hlr (below_undrew hbR).size)).trans yR); have zD0 : wD.cell? ⟨w.heap.size + 1, 2, none⟩ = _ := (by first | exact ((below_undrew hbD).cell (p := ⟨w.heap.size + 1, 2, none⟩) hlx).trans z0 | exact (hbD.cell (p := ⟨w.heap.size + 1, 2, none⟩) (Nat.lt_of_lt_of_le hlx (below_undrew hbR).size)).trans zR0); have zD1 : wD.cell? ⟨w.heap.size + 1, 3, none⟩ = _ := (by first | exact ((below_undrew hbD).cell (p := ⟨w.heap.size + 1, 3, none⟩) hlx).trans z1 | exact (hbD.cell (p := ⟨w.heap.size + 1, 3, none⟩) (Nat.lt_of_lt_of_le hlx (below_undrew hbR).size)).trans zR1); have fD0 : wD.frozen? ⟨w.heap.size + 1, 2, none⟩ = false := (by first | exact ((below_undrew hbD).frozen (p := ⟨w.heap.size + 1, 2, none⟩) hlx).trans f0 | exact (hbD.frozen (p := ⟨w.heap.size + 1, 2, none⟩) (Nat.lt_of_lt_of_le hlx (below_undrew hbR).size)).trans fR0); have fD1 : wD.frozen? ⟨w.heap.size + 1, 3, none⟩ = false := (by first | exact ((below_undrew hbD).frozen (p := ⟨w.heap.size + 1, 3, none⟩) hlx).trans f1 | exact (hbD.frozen (p := ⟨w.heap.size + 1, 3, none⟩) (Nat.lt_of_lt_of_le hlx (below_undrew hbR).size)).trans fR1))
        | (go_at_call 22; refine (NR.out _).mono ?_; rintro e wR ⟨r1, rfl, hRd, hrg, hbR⟩; have yR : wR.cell? ⟨w.heap.size, 1, none⟩ = _ := (by first | exact ((below_undrew hbR).cell (p := ⟨w.heap.size, 1, none⟩) hlr).trans y0 | exact (hbR.cell (p := ⟨w.heap.size, 1, none⟩) (Nat.lt_of_lt_of_le hlr (below_undrew hbD).size)).trans yD); have zR0 : wR.cell? ⟨w.heap.size + 1, 2, none⟩ = _ := (by first | exact ((below_undrew hbR).cell (p := ⟨w.heap.size + 1, 2, none⟩) hlx).trans z0 | exact (hbR.cell (p := ⟨w.heap.size + 1, 2, none⟩) (Nat.lt_of_lt_of_le hlx (below_undrew hbD).size)).trans zD0); have zR1 : wR.cell? ⟨w.heap.size + 1, 3, none⟩ = _ := (by first | exact ((below_undrew hbR).cell (p := ⟨w.heap.size + 1, 3, none⟩) hlx).trans z1 | exact (hbR.cell (p := ⟨w.heap.size + 1, 3, none⟩) (Nat.lt_of_lt_of_le hlx (below_undrew hbD).size)).trans zD1); have fR0 : wR.frozen? ⟨w.heap.size + 1, 2, none⟩ = false := (by first | exact ((below_undrew hbR).frozen (p := ⟨w.heap.size + 1, 2, none⟩) hlx).trans f0 | exact (hbR.frozen (p := ⟨w.heap.size + 1, 2, none⟩) (Nat.lt_of_lt_of_le hlx (below_undrew hbD).size)).trans fD0); have fR1 : wR.frozen? ⟨w.heap.size + 1, 3, none⟩ = false := (by first | exact ((below_undrew hbR).frozen (p := ⟨w.heap.size + 1, 3, none⟩) hlx).trans f1 | exact (hbR.frozen (p := ⟨w.heap.size + 1, 3, none⟩) (Nat.lt_of_lt_of_le hlx (below_undrew hbD).size)).trans fD1)))
      all_goals
        first
          | obtain ⟨A, hP, hA, hbN⟩ := new_pair1 (V := wr) (below_undrew hbD) hHd hfr hbR hRd hrg
          | obtain ⟨A, hP, hA, hbN⟩ := new_pair2 (V := wr) (below_undrew hbR) hRd hrg hbD hHd hfr
        have HNX := Lib.hid (HST2.out.next1 hP hA hbN (Nat.le_succ _) (by omega))
        clear hP hA hbN hHd hRd hbD hbR hfr hrg yD yR ND NR HST2
        go_wp2
        go_roundw
        case rel => exact ⟨_, rfl, by decide, HNX.out⟩
        case measure => simp [intOf]
    · obtain ⟨g, r, g', r', hin⟩ := hst.out.last
      have HIN := Lib.hid hin
      clear hst hin hk
      have e2 : (((2 : Nat) : Nat) : Int) = 2 := rfl
      rw [e2]
      clear e2
      go_wp2_with (fail)
      go_loopw [7, 8] (fun lv iv wr => ∃ k ld : Nat, lv = .int .i64 (ld : Nat) ∧ iv = .int .i64 (k : Nat) ∧ k ≤ ss.length ∧ ld ≤ k * 1048577 ∧ Hid (PlIn w wr (w.heap.size + 1) g r g' r' k)) (fun _ iv _ => ss.length - (intOf iv).toNat)
      case atStart => exact ⟨0, 0, rfl, rfl, Nat.zero_le _, Nat.zero_le _, HIN.out⟩
      case round =>
        clear HIN
        obtain ⟨k, ld, rfl, rfl, hk, hld, hin⟩ := hrel
        obtain ⟨d, d', A, hM, hx⟩ := hin.out
        by_cases hlt : k < ss.length
        · obtain ⟨st, hsk⟩ : ∃ x, ss[k]? = some x := ⟨_, List.getElem?_eq_getElem hlt⟩
          obtain ⟨sb, so, ka, kn, kc, rfl, c0, c1, c2, c3, c4, c5, hik⟩ := HST.out.stepR hM.bel hsk
          have hOk := HO.out st (List.mem_of_getElem? hsk)
          have hdl := hOk.2.1
          have hszd := str_size st.data
          have ik0 : (0 : Int) ≤ (k : Int) := by omega
          have ik1 : (k : Int) < (ss.length : Int) := by omega
          obtain ⟨ld1, hL1⟩ : ∃ n : Nat, n = ld + st.data.length := ⟨_, rfl⟩
          obtain ⟨ld2, hL2⟩ : ∃ n : Nat, n = ld1 + 1 := ⟨_, rfl⟩
          have hw : IntKind.i64.wrap ((ld : Int) + (st.data.length : Int)) = (ld1 : Int) := by rw [IntWalk.i64_in _ (by omega)]; omega
          have hw2 : IntKind.i64.wrap ((ld1 : Int) + 1) = (ld2 : Int) := by rw [IntWalk.i64_in _ (by omega)]; omega
          have hld2 : ld2 ≤ (k + 1) * 1048577 := by omega
          clear hL1 hL2
          by_cases hbig : (16777216 : Int) < (ld2 : Int)
          · have HRES := Lib.hid hM.bel
            clear hM hx hin hik hOk hsk
            go_wp2
            go_ret
            exact ⟨rfl, HRES.out⟩
          have i1 : decide ((16777216 : Int) < (ld2 : Int)) = false := decide_eq_false hbig
          clear hbig
          have hres := Both.res (Pr2.res g r d d k) (Pr2.res g' r' d' d' k)
          have hMd := hM.below hres ((Below.refl wr.heap.size wr).drew)
          have hgw : 0 < w.heap.size := World.block_lt_of_cell? w _ HG.out
          have hgA : 0 ∉ A := fun hm => by have := hM.base _ hm; omega
          have hkA : ∀ j, usesOf (.slice ka kn kc) st.keep = some j → j ∉ A := fun j hj hm => by have h1 := hik.uses j hj; have h2 := hM.base j hm; omega
          have hik1 := hik.below hMd.bel
          have hgd := HG.out.below hMd.bel
          have x0 := hx.cell 0
          have x1 := hx.cell 1
          have x2 := hx.cell 2
          have x3 := hx.cell 3
          simp only [List.getElem?_cons_zero, List.getElem?_cons_succ] at x0 x1 x2 x3
          unfold ptrP at x0 x1 x2 x3
          clear hsk
          by_cases hwho : st.who % 2 = 1
          · have hbit : bits .and .i64 st.who 1 = 1 := by rw [bits_and1]; omega
            have hC := Both.callRs (E := fun e => e = .returned (.bool true)) (S' := Pr2 g' r' (dstep d' st) (dstep d' st) (k + 1)) (Pr2.res _ _ _ _ _) (Pr2.res _ _ _ _ _) hMd.hd fun A1 hA1 hsub => pstep_any wr.drew A1 g' r' d' k st ka kn kc hA1 (by omega) hOk hik1 (fun j hj hm => hkA j hj (hsub j hm)) hgd (fun hm => hgA (hsub _ hm))
            have HC := Lib.hid hC
            have HMD := Lib.hid hMd
            have HX := Lib.hid hx
            have HGD := Lib.hid hgd
            have HLD2 := Lib.hid hld2
            clear hC hMd hx hik hik1 hkA hgd hgA hin hM hld hld2 hgw hwho hdl
            go_upto_region 15 with (fail)
            refine wp_region_still_tail 12 (by kernel_rfl) (by kernel_rfl) ?_
            simp only [List.take_succ_cons, List.take_zero, List.drop_succ_cons, List.drop_zero]
            repeat still_step
            refine wpStill_nil ?_
            go_wp2_with (fail)
            refine HC.out.mono ?_
            rintro e w1 ⟨rfl, hto⟩
            obtain ⟨⟨A1, hM1⟩, hk1⟩ := HMD.out.to hto
            generalize dstep d' st = dn at *
            have hM2 : MineR w w1 [w.heap.size + 1] A1 (Both (Pr2 g r d d (k + 1)) (Pr2 g' r' dn dn (k + 1))) := ⟨hM1.hd.map (fun B hB => hB.mono (Nat.le_succ k)) (fun B hB => hB), hM1.base, hM1.bel, hM1.far⟩
            have hx1 := (HX.out.below ((Below.refl wr.heap.size wr).drew) HX.out.lt).same (hk1 _ (by simp))
            have x0 := hx1.cell 0
            have x1 := hx1.cell 1
            have x2 := hx1.cell 2
            have x3 := hx1.cell 3
            simp only [List.getElem?_cons_zero, List.getElem?_cons_succ] at x0 x1 x2 x3
            unfold ptrP at x0 x1 x2 x3
            obtain ⟨B1, B2, hp0, hp1, -, -, -, -⟩ := hM2.hd
            have hg1 := HG.out.below hM2.bel
            have HPA := Lib.hid (palike_any w1 B1 g r _ _ hp0 (by omega) hg1)
            have HP1 := Lib.hid hp1
            have HM2 := Lib.hid hM2
            have HX1 := Lib.hid hx1
            have HG1 := Lib.hid hg1
            have hlx1 := hx1.lt
            clear hto hM1 hk1 hM2 hx1 hp0 hp1 hg1 HC HMD HX HGD c0 c1 c2 c3 c4 c5
            go_wp2_with (fail)
            refine HPA.out.mono ?_
            rintro e w2 ⟨rfl, hb2⟩
            have x2 := (hb2.cell (p := ⟨w.heap.size + 1, 2, none⟩) hlx1).trans x2
            have x3 := (hb2.cell (p := ⟨w.heap.size + 1, 3, none⟩) hlx1).trans x3
            have HPB := Lib.hid (palike_any w2 B2 g' r' _ _ ((Pr2.res _ _ _ _ _).below HP1.out hb2) (by omega) (HG1.out.below hb2))
            have HB2 := Lib.hid hb2
            clear hb2 HPA HP1 HG1
            go_wp2_with (fail)
            refine HPB.out.mono ?_
            rintro e w3 ⟨rfl, hb3⟩
            have hb13 := HB2.out.trans (hb3.mono HB2.out.size)
            have HIN2 : Hid (PlIn w w3 (w.heap.size + 1) g r g' r' (k + 1)) := ⟨_, _, A1, HM2.out.below (Both.res (Pr2.res _ _ _ _ _) (Pr2.res _ _ _ _ _)) hb13, HX1.out.below hb13 HX1.out.lt⟩
            clear hb3 hb13 HPB HM2 HX1 HB2 x0 x1 x2 x3
            go_wp2
            go_roundw
            case rel => exact ⟨k + 1, ld2, rfl, by go_num, by omega, HLD2.out, HIN2.out⟩
            case measure => simp [intOf]; omega
          · have hbit : bits .and .i64 st.who 1 = 0 := by rw [bits_and1]; omega
            have hC := Both.callLs (E := fun e => e = .returned (.bool true)) (R' := Pr2 g r (dstep d st) (dstep d st) (k + 1)) (Pr2.res _ _ _ _ _) (Pr2.res _ _ _ _ _) hMd.hd fun A1 hA1 hsub => pstep_any wr.drew A1 g r d k st ka kn kc hA1 (by omega) hOk hik1 (fun j hj hm => hkA j hj (hsub j hm)) hgd (fun hm => hgA (hsub _ hm))
            have HC := Lib.hid hC
            have HMD := Lib.hid hMd
            have HX := Lib.hid hx
            have HGD := Lib.hid hgd
            have HLD2 := Lib.hid hld2
            clear hC hMd hx hik hik1 hkA hgd hgA hin hM hld hld2 hgw hwho hdl
            go_upto_region 15 with (fail)
            refine wp_region_still_tail 12 (by kernel_rfl) (by kernel_rfl) ?_
            simp only [List.take_succ_cons, List.take_zero, List.drop_succ_cons, List.drop_zero]
            repeat still_step
            refine wpStill_nil ?_
            go_wp2_with (fail)
            refine HC.out.mono ?_
            rintro e w1 ⟨rfl, hto⟩
            obtain ⟨⟨A1, hM1⟩, hk1⟩ := HMD.out.to hto
            generalize dstep d st = dn at *
            have hM2 : MineR w w1 [w.heap.size + 1] A1 (Both (Pr2 g r dn dn (k + 1)) (Pr2 g' r' d' d' (k + 1))) := ⟨hM1.hd.map (fun B hB => hB) (fun B hB => hB.mono (Nat.le_succ k)), hM1.base, hM1.bel, hM1.far⟩
            have hx1 := (HX.out.below ((Below.refl wr.heap.size wr).drew) HX.out.lt).same (hk1 _ (by simp))
            have x0 := hx1.cell 0
            have x1 := hx1.cell 1
            have x2 := hx1.cell 2
            have x3 := hx1.cell 3
            simp only [List.getElem?_cons_zero, List.getElem?_cons_succ] at x0 x1 x2 x3
            unfold ptrP at x0 x1 x2 x3
            obtain ⟨B1, B2, hp0, hp1, -, -, -, -⟩ := hM2.hd
            have hg1 := HG.out.below hM2.bel
            have HPA := Lib.hid (palike_any w1 B1 g r _ _ hp0 (by omega) hg1)
            have HP1 := Lib.hid hp1
            have HM2 := Lib.hid hM2
            have HX1 := Lib.hid hx1
            have HG1 := Lib.hid hg1
            have hlx1 := hx1.lt
            clear hto hM1 hk1 hM2 hx1 hp0 hp1 hg1 HC HMD HX HGD c0 c1 c2 c3 c4 c5
            go_wp2_with (fail)
            refine HPA.out.mono ?_
            rintro e w2 ⟨rfl, hb2⟩
            have x2 := (hb2.cell (p := ⟨w.heap.size + 1, 2, none⟩) hlx1).trans x2
            have x3 := (hb2.cell (p := ⟨w.heap.size + 1, 3, none⟩) hlx1).trans x3
            have HPB := Lib.hid (palike_any w2 B2 g' r' _ _ ((Pr2.res _ _ _ _ _).below HP1.out hb2) (by omega) (HG1.out.below hb2))
            have HB2 := Lib.hid hb2
            clear hb2 HPA HP1 HG1
            go_wp2_with (fail)
            refine HPB.out.mono ?_
            rintro e w3 ⟨rfl, hb3⟩
            have hb13 := HB2.out.trans (hb3.mono HB2.out.size)
            have HIN2 : Hid (PlIn w w3 (w.heap.size + 1) g r g' r' (k + 1)) := ⟨_, _, A1, HM2.out.below (Both.res (Pr2.res _ _ _ _ _) (Pr2.res _ _ _ _ _)) hb13, HX1.out.below hb13 HX1.out.lt⟩
            clear hb3 hb13 HPB HM2 HX1 HB2 x0 x1 x2 x3
            go_wp2
            go_roundw
            case rel => exact ⟨k + 1, ld2, rfl, by go_num, by omega, HLD2.out, HIN2.out⟩
            case measure => simp [intOf]; omega
        · have hg9 := HG.out.below hM.bel
          have HB9 := Lib.hid hM.bel
          have HW9 := Lib.hid (works22_any wr hg9)
          clear hM hx hin hg9
          go_wp2_with (fail)
          refine HW9.out.mono ?_
          rintro e w9 ⟨rfl, hb9⟩
          have HRES := Lib.hid (HB9.out.trans (hb9.mono HB9.out.size))
          clear hb9 HB9 HW9
          go_wp2
          go_ret
          exact ⟨rfl, HRES.out⟩
end Go.Proofs.YtfgpigblnkanpaaGreatDoor
