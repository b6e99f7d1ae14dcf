/- The walk of the statement DiskStill. -/
import Derived.Test.YtfgpigblnkanpaaGreatDoorLd
import Derived.Test.YtfgpigblnkanpaaGreatDoorOd
import Derived.BigQuiet
import Derived.WalkLawsBesides
import Derived.Deep.DeepCutAuto
import Derived.RegionTactic
import Derived.ChangeAlike
import Derived.BigRegion
namespace Go.Proofs.YtfgpigblnkanpaaGreatDoor
open Go.RowKit Go.Maps Go.Shelf
set_option linter.unusedVariables false

theorem StepsAt.step {w wr : World} {a : Option Addr} {n cap : Nat} {ss : List Sp} (h : StepsAt w (.slice a n cap) ss) (hb : Below w.heap.size w wr) {k : Nat} {s : Sp} (hs : ss[k]? = some s) :
    ∃ b off ka kn kc, a = some ⟨b, off, none⟩ ∧ wr.cell? ⟨b, off + k * 6, none⟩ = some (.int .i64 s.do_) ∧ wr.cell? ⟨b, off + k * 6 + 1, none⟩ = some (.int .i64 s.who) ∧ wr.cell? ⟨b, off + k * 6 + 2, none⟩ = some (strV s.name) ∧ wr.cell? ⟨b, off + k * 6 + 3, none⟩ = some (strV s.data) ∧ wr.cell? ⟨b, off + k * 6 + 4, none⟩ = some (.int .i64 s.n) ∧ wr.cell? ⟨b, off + k * 6 + 5, none⟩ = some (.slice ka kn kc) := by
  obtain ⟨a', cap', e, h2⟩ := h
  simp only [Value.slice.injEq] at e
  obtain ⟨rfl, _, _⟩ := e
  obtain ⟨b, off, ka, kn, kc, rfl, hc, _⟩ := h2 k s hs
  have hcell : ∀ j x, (s.cells (.slice ka kn kc))[j]? = some x → wr.cell? ⟨b, off + k * 6 + j, none⟩ = some x := fun j x hj => by
    have := hc j x hj
    exact (hb.cell (World.block_lt_of_cell? w _ this)).trans this
  exact ⟨b, off, ka, kn, kc, rfl, hcell 0 _ rfl, hcell 1 _ rfl, hcell 2 _ rfl, hcell 3 _ rfl, hcell 4 _ rfl, hcell 5 _ rfl⟩
theorem StepsAt.len {w : World} {v : Value} {ss : List Sp} (h : StepsAt w v ss) : ∃ a cap, v = .slice a ss.length cap := by
  obtain ⟨a, cap, rfl, _⟩ := h
  exact ⟨a, cap, rfl⟩
theorem fates_new (w : World) (X : Obj) (u v : Value) (t : TypeId) : Blk (((w.alloc X).alloc (.cells #[u] t)).alloc (.cells #[v] t)).drew (w.heap.size + 1) [u] t ∧ Blk (((w.alloc X).alloc (.cells #[u] t)).alloc (.cells #[v] t)).drew (w.heap.size + 1 + 1) [v] t ∧ Below w.heap.size w (((w.alloc X).alloc (.cells #[u] t)).alloc (.cells #[v] t)).drew := by
  have h1 := Blk.new (w.alloc X) [u] t
  rw [World.size_alloc] at h1
  have h2 := Blk.new ((w.alloc X).alloc (.cells #[u] t)) [v] t
  rw [World.size_alloc, World.size_alloc] at h2
  exact ⟨(h1.alloc _).drew, h2.drew, ((((Below.refl _ w).alloc (Nat.le_refl _) _).alloc (by simp) _).alloc (by simp; omega) _).drew⟩
/-- The two fates of the law, in blocks of their own. -/
def Fb (wr : World) (b5 b6 : Nat) (k1 k2 : Value) : Prop := Blk wr b5 [k1] 26 ∧ Blk wr b6 [k2] 26
theorem Fb.same {w w' : World} {b5 b6 : Nat} {k1 k2 : Value} (h : Fb w b5 b6 k1 k2) {K : List Nat} (hk : ∀ k ∈ K, w'.heap[k]? = w.heap[k]?) (h5 : b5 ∈ K) (h6 : b6 ∈ K) : Fb w' b5 b6 k1 k2 := ⟨h.1.same (hk _ h5), h.2.same (hk _ h6)⟩
theorem Fb.below {w w' : World} {b5 b6 : Nat} {k1 k2 : Value} (h : Fb w b5 b6 k1 k2) (hb : Below w.heap.size w w') : Fb w' b5 b6 k1 k2 := ⟨h.1.below hb h.1.lt, h.2.below hb h.2.lt⟩
/-- What the law's first loop keeps. -/
def St1 (w wr : World) (b5 b6 : Nat) (k1 k2 : Value) (g : Nat) (k : Nat) : Prop := ∃ d A, Calm d ∧ Mine w wr [b5, b6] A g d k ∧ Fb wr b5 b6 k1 k2
theorem Mine.grown {w0 w w' : World} {K A : List Nat} {g : Nat} {d : Dk} {N : Nat} {r : Option Nat} (h : Mine w0 w K A g d N) (hg : w.grownBy w' r) (hr : ∀ k, r = some k → k ∈ K ∧ w0.heap.size ≤ k) : Mine w0 w' K A g d N := by
  have hs : Stp r.toList r.toList w w' := Stp.of_grown hg (fun k hk => by simp [hk]) (fun k hk => Or.inl hk)
  refine ⟨h.hd.other hs (fun k hk hm => ?_), h.base, h.bel.grown hg h.bel.size (fun k hk => (hr k hk).2), fun k hk => ⟨Nat.lt_of_lt_of_le (h.far k hk).1 hg.size, (h.far k hk).2⟩⟩
  exact (h.far k (hr k (by simpa using hm)).1).2 hk
theorem le_step {a k : Nat} (h : a ≤ (k + 1) * 4194304) : a ≤ (k + 1 + 1) * 4194304 := Nat.le_trans h (Nat.mul_le_mul_right _ (Nat.le_succ _))
theorem le_step2 {a c k : Nat} (h : a ≤ (k + 1) * 4194304) (hc : c ≤ 4194304) : a + c ≤ (k + 1 + 1) * 4194304 := by
  rw [Nat.succ_mul (k + 1)]
  exact Nat.add_le_add h hc
theorem still_law {d : Dk} {l1 l2 : List Int} {M : List Nm} (hc : Calm d) (hok : DkOk d) (ht : ∀ n ∈ tnames (dfail d l1).now, n ∈ M) :
    dshown (drevive (dcrash (drevive (dcrash (dcrash d l1) l2)) l2)) = dshown (drevive (dcrash (dcrash d l1) l2)) ∧ (∀ n ∈ (dshown (drevive (dcrash (dcrash d l1) l2))).1, n ∈ M) := by
  have e1 : dcrash d l1 = dfail d l1 := by unfold dcrash; rw [if_neg (by rw [hc.1]; simp)]
  have e2 : dcrash (dfail d l1) l2 = dfail d l1 := by unfold dcrash; rw [if_pos (show (dfail d l1).off = true from rfl)]
  rw [e1, e2]
  have e3 : dcrash (drevive (dfail d l1)) l2 = dfail (drevive (dfail d l1)) l2 := by unfold dcrash; rw [if_neg (by show ¬ (false = true); simp)]
  rw [e3]
  exact ⟨fail_again hok l1 l2, ht⟩
theorem dshown_len (d : Dk) : (dshown d).1.length = d.now.length ∧ (dshown d).2.length = d.now.length := by unfold dshown tnames; simp
theorem change_m2 {w0 w : World} {K A : List Nat} {g : Nat} {d : Dk} {N : Nat} (h : Mine w0 w K A g d N) (s : Sp) (ka : Option Addr) (kn kc : Nat) (hN : N + 1 < 4294967296) (h1 : s.name.length ≤ 140737488355328) (h2 : s.data.length ≤ 140737488355328) :
    Calls Tryz.prog 13 #[.pointer (some ⟨g, 0, none⟩), .agg (s.cells (.slice ka kn kc)).toArray] w fun e w' => e = .returned (errV (ddo d (odOf s)).2) ∧ MineTo w0 K w g (ddo d (odOf s)).1 (N + 1) w' ∧ w.heap.size ≤ w'.heap.size :=
  (change_any w A g d N s _ ⟨_, _, _, rfl⟩ h.hd hN h1 h2).mono fun e w' hp => ⟨(h.do rfl hp).1, (h.do rfl hp).2, by
    obtain ⟨_, A', h3, h4⟩ := hp
    exact h4.size⟩
def calmed (d : Dk) : Dk := { d with safe := d.now, pend := [] }
theorem calmed_facts {d : Dk} (h : Calm d) : Calm (calmed d) ∧ Told (calmed d) (dshown (calmed d)).1 ∧ (dshown (calmed d)).1.length = (calmed d).now.length := by
  refine ⟨h, ⟨fun n hn => hn, fun p hp => ?_⟩, ?_⟩
  · cases hp
  · unfold dshown tnames; rw [List.length_map]
/-- What the law's second loop keeps. -/
def St2 (w wr : World) (b5 b6 : Nat) (k1 k2 : Value) (g : Nat) (N k : Nat) (nv : Value) (M : List Nm) : Prop :=
  ∃ d A B, Calm d ∧ Mine w wr (nv.ownBlock.toList ++ [b5, b6]) A g d (N + k) ∧ Fb wr b5 b6 k1 k2 ∧ Told d M ∧ M.length ≤ (k + 1) * 4194304 ∧ (b5 < B ∧ b6 < B ∧ B ≤ wr.heap.size ∧ w.heap.size ≤ B) ∧ wr.ownsRow B 9 1 nv M.length (M.map strV)
set_option maxHeartbeats 8000000 in
set_option maxRecDepth 100000 in
theorem DiskStill_any (w : World) (f s k1 k2 : Value) (ss1 ss2 : List Sp) (l1 l2 : List Int) (hf : StepsAt w f ss1) (hs : StepsAt w s ss2) (o1 : ∀ x ∈ ss1, SpOk x) (o2 : ∀ x ∈ ss2, SpOk x) (n1 : ss1.length ≤ 1048576) (n2 : ss2.length ≤ 1048576)
    (hi1 : IntsAt w k1 l1) (hi2 : IntsAt w k2 l2) (hk1 : ∃ a n c, k1 = .slice a n c) (hk2 : ∃ a n c, k2 = .slice a n c) (hg : ErrorLaid w) :
    Calls Tryz.prog 4 #[.agg #[f, s, k1, k2]] w fun e w' => e = .returned (.bool true) ∧ Below w.heap.size w w' := by
  obtain ⟨fa, fc, rfl⟩ := hf.len
  obtain ⟨sa, sc, rfl⟩ := hs.len
  obtain ⟨ka, kn, kc, rfl⟩ := hk1
  obtain ⟨ja, jn, jc, rfl⟩ := hk2
  obtain ⟨i0, hi, hz0, hz1, hz2⟩ := info_parts infoStr
  have hx := Blk.new w [.slice fa ss1.length fc, .slice sa ss2.length sc, .slice ka kn kc, .slice ja jn jc] 53
  have x0 := hx.cell 0
  have x1 := hx.cell 1
  have x2 := hx.cell 2
  have x3 := hx.cell 3
  simp only [List.getElem?_cons_zero, List.getElem?_cons_succ] at x0 x1 x2 x3
  have HF := Lib.hid hf
  have HS := Lib.hid hs
  have O1 := Lib.hid o1
  have O2 := Lib.hid o2
  have HI1 := Lib.hid hi1
  have HI2 := Lib.hid hi2
  clear hf hs o1 o2 hi1 hi2 hx
  go_enter Tryz.func4, Tryz.ntmps4
  go_upto_region 1 with (fail)
  go_cut [3, 4, 5, 6] (fun s3 s4 s5 s6 wx => ∃ b5 b6, s3 = .slice fa ss1.length fc ∧ s4 = .slice sa ss2.length sc ∧ s5 = .pointer (some ⟨b5, 0, none⟩) ∧ s6 = .pointer (some ⟨b6, 0, none⟩) ∧ Hid (Blk wx b5 [.slice ka kn kc] 26 ∧ Blk wx b6 [.slice ja jn jc] 26 ∧ Below w.heap.size w wx ∧ w.heap.size ≤ b5 ∧ w.heap.size ≤ b6))
  case first =>
    go_region
    · go_wp2_with (fail)
      go_meet
      obtain ⟨q1, q2, q3⟩ := fates_new w (.cells #[.slice fa ss1.length fc, .slice sa ss2.length sc, .slice ka kn kc, .slice ja jn jc] 53) (.slice ka kn kc) (.slice ja jn jc) 26
      exact ⟨_, _, rfl, rfl, rfl, rfl, q1, q2, q3, by omega, by omega⟩
    · go_wp2_with (fail)
      go_meet
      obtain ⟨q1, q2, q3⟩ := fates_new w (.cells #[.slice fa ss1.length fc, .slice sa ss2.length sc, .slice ka kn kc, .slice ja jn jc] 53) (.slice ja jn jc) (.slice ka kn kc) 26
      exact ⟨_, _, rfl, rfl, rfl, rfl, q2, q1, q3, by omega, by omega⟩
  case rest =>
    clear x0 x1 x2 x3
    obtain ⟨b5, b6, rfl, rfl, rfl, rfl, hc⟩ := hcut
    obtain ⟨hc5, hc6, hcb, hb5, hb6⟩ := hc.out
    have hlt5 := hc5.lt
    have hlt6 := hc6.lt
    have hF0 : Fb wc b5 b6 (.slice ka kn kc) (.slice ja jn jc) := ⟨hc5, hc6⟩
    have HF0 := Lib.hid hF0
    have HCB := Lib.hid hcb
    clear hc hc5 hc6 hcb hF0
    go_wp2_with (fail)
    refine (New_m w wc HCB.out [b5, b6] (fun k hk => by simp at hk; rcases hk with rfl | rfl <;> assumption) 65536).mono ?_
    rintro e w1 ⟨g, A1, rfl, h1, hb1⟩
    have hF1 := HF0.out.below hb1
    have H1 := Lib.hid h1
    have HF1 := Lib.hid hF1
    clear h1 hb1 hF1
    go_wp2_with (fail)
    refine (works22_any w1 (hg.below H1.out.bel)).mono ?_
    rintro e w2 ⟨rfl, hb2⟩
    have hS0 : St1 w w2 b5 b6 (.slice ka kn kc) (.slice ja jn jc) g 0 := ⟨_, A1, ⟨rfl, rfl⟩, H1.out.below hb2, HF1.out.below hb2⟩
    have HS0 := Lib.hid hS0
    clear hS0 hb2
    go_wp2_with (fail)
    go_loopw [8] (fun iv wr => ∃ k, iv = .int .i64 (k : Nat) ∧ k ≤ ss1.length ∧ Hid (St1 w wr b5 b6 (.slice ka kn kc) (.slice ja jn jc) g k)) (fun iv _ => ss1.length - (intOf iv).toNat)
    case atStart => exact ⟨0, rfl, Nat.zero_le _, HS0.out⟩
    case round =>
      obtain ⟨k, rfl, hk, hst⟩ := hrel
      by_cases hlt : k < ss1.length
      · obtain ⟨st, hsk⟩ : ∃ x, ss1[k]? = some x := ⟨_, List.getElem?_eq_getElem hlt⟩
        obtain ⟨d, A, hcalm, hM, hFb⟩ := hst.out
        obtain ⟨sb, so, ma, mn, mc, rfl, c0, c1, c2, c3, c4, c5⟩ := HF.out.step hM.bel hsk
        have hOk := O1.out st (List.mem_of_getElem? hsk)
        have HC := Lib.hid (change_m hM st ma mn mc (by omega) (by have := hOk.1; omega) (by have := hOk.2.1; omega))
        have HCA := Lib.hid hcalm
        have HFB := Lib.hid hFb
        clear hsk hcalm hM hFb hOk
        go_wp2_with (fail)
        refine HC.out.mono ?_
        rintro e w4 ⟨rfl, ⟨A4, h4⟩, hk4⟩
        have hS : St1 w w4 b5 b6 (.slice ka kn kc) (.slice ja jn jc) g (k + 1) := ⟨_, A4, HCA.out.do _, h4, HFB.out.same hk4 (by simp) (by simp)⟩
        have HSS := Lib.hid hS
        clear h4 hk4 hS
        go_wp2
        go_roundw
        case rel => exact ⟨k + 1, by go_num, by omega, HSS.out⟩
        case measure => simp [intOf]; omega
      · obtain rfl : k = ss1.length := by omega
        obtain ⟨d, A, hcalm, hM, hFb⟩ := hst.out
        obtain ⟨hcalm2, htold2, hsh2⟩ := calmed_facts hcalm
        have hfl := hcalm.flush
        rw [show ({ d with safe := d.now, pend := [] } : Dk) = calmed d from rfl] at hfl
        generalize calmed d = d2 at *
        obtain ⟨ns, ds, hsh⟩ : ∃ ns ds, dshown d2 = (ns, ds) := ⟨_, _, rfl⟩
        rw [hsh] at htold2 hsh2
        have HC := Lib.hid (Flush_m hM hfl (by omega))
        have HCA := Lib.hid hcalm2
        have HT := Lib.hid htold2
        have HSHN := Lib.hid hsh
        have HNL := Lib.hid hsh2
        have HFB := Lib.hid hFb
        clear hcalm hM hFb hst hcalm2 htold2 hsh hsh2 hfl
        go_wp2_with (fail)
        refine HC.out.mono ?_
        rintro e w3 ⟨rfl, ⟨A3, h3⟩, hk3⟩
        rw [errV_none]
        have hFb3 := HFB.out.same hk3 (by simp) (by simp)
        have HSH := Lib.hid (shown_any w3 A3 g _ _ h3.hd (by omega))
        have hle3 : ns.length ≤ 1048577 := by
          rw [show ns.length = d2.now.length from HNL.out]
          exact Nat.le_trans h3.hd.bd.now (by omega)
        have H3 := Lib.hid h3
        have HFB3 := Lib.hid hFb3
        have HLE := Lib.hid hle3
        clear h3 hk3 hFb3 hle3
        go_wp2_with (fail)
        refine HSH.out.mono ?_
        rintro e w4 ⟨u, v, rfl, hr, hu1, hv1, hb4⟩
        obtain ⟨hu, hv⟩ := hr HCA.out.1
        rw [HSHN.out] at hu hv
        rw [HCA.out.1, Bool.not_false]
        obtain ⟨ua, uc, rfl, -⟩ := hu.shape
        obtain ⟨va, vc, rfl, -⟩ := hv.shape
        simp only [List.length_map] at hu hv
        have hx4 := Blk.new w4 [.slice ua ns.length uc, .slice va ds.length vc] 43
        have x0 := hx4.cell 0
        have x1 := hx4.cell 1
        simp only [List.getElem?_cons_zero, List.getElem?_cons_succ] at x0 x1
        have hbb : Below w3.heap.size w3 (w4.alloc (.cells #[.slice ua ns.length uc, .slice va ds.length vc] 43)) := hb4.alloc hb4.size _
        have hu4 := hu.below ((Below.refl w4.heap.size w4).alloc (Nat.le_refl _) (.cells #[.slice ua ns.length uc, .slice va ds.length vc] 43))
        have HBB := Lib.hid hbb
        have HU4 := Lib.hid hu4
        have hsz3 := H3.out.bel.size
        have hsz4 := hb4.size
        have hle := HLE.out
        clear hr hu hv hu1 hv1 hb4 hx4 hbb hu4
        go_wp2_with (at_builtin; refine wpList_append_row rfl _ _ 37 rfl (w4.heap.size + 1) 9 i0 (strV []) 16 Tryz.underlying37 hi hz0 hz1 hz2 rfl (.slice none 0 0) 0 [] rfl (World.ownsRow_nil _ _ _ _) (.slice ua ns.length uc) (ns.map strV) rfl HU4.out ?c1 ?c2 ?c3 ?c4 ?_)
        case c1 => intro x hx; obtain ⟨y, _, rfl⟩ := List.mem_map.1 hx; rfl
        case c2 => simp only [List.length_map]; unfold maxLen; omega
        case c3 => simp only [List.length_map]; omega
        case c4 => simp
        intro nv w5 hown5 hgrow5 hat5
        have hbb5 : Below (w4.alloc (.cells #[.slice ua ns.length uc, .slice va ds.length vc] 43)).heap.size (w4.alloc (.cells #[.slice ua ns.length uc, .slice va ds.length vc] 43)) w5 := (Below.refl _ _).grown hgrow5 (Nat.le_refl _) (fun k hk => by simp [Value.ownBlock] at hk)
        have hM5 := (H3.out.below HBB.out).add hbb5 nv.ownBlock.toList (fun k hk => by
          have h6 : nv.ownBlock = some k := by simpa using hk
          have h7 := (hown5.lt k h6).2
          rcases hat5 with h8 | h8
          · rw [h6] at h8; simp [Value.ownBlock] at h8
          · rw [h6] at h8; cases h8; exact ⟨by simp, h7⟩)
        have hS2 : St2 w w5 b5 b6 (.slice ka kn kc) (.slice ja jn jc) g (ss1.length + 1) 0 nv ns := ⟨d2, A3, w4.heap.size + 1, HCA.out, hM5, (HFB3.out.below HBB.out).below hbb5, HT.out, by omega, ⟨by have := (H3.out.far b5 (by simp)).1; omega, by have := (H3.out.far b6 (by simp)).1; omega, by have := hbb5.size; simpa using this, by omega⟩, hown5⟩
        obtain ⟨na, nc, rfl, -⟩ := row_open hown5
        have HS2 := Lib.hid hS2
        clear hown5 hgrow5 hat5 hbb5 hM5 hS2 x0 x1
        go_wp2_with (fail)
        go_loopw [11, 12] (fun nv iv wr => ∃ k M, iv = .int .i64 (k : Nat) ∧ k ≤ ss2.length ∧ Hid (St2 w wr b5 b6 (.slice ka kn kc) (.slice ja jn jc) g (ss1.length + 1) k nv M)) (fun _ iv _ => ss2.length - (intOf iv).toNat)
        case atStart => exact ⟨0, ns, rfl, Nat.zero_le _, HS2.out⟩
        case round =>
          obtain ⟨k, M, rfl, hk, hst⟩ := hrel
          by_cases hlt : k < ss2.length
          · obtain ⟨st, hsk⟩ : ∃ x, ss2[k]? = some x := ⟨_, List.getElem?_eq_getElem hlt⟩
            obtain ⟨d3, A, B, hcalm, hM, hFb, htold, hMl, ⟨hB5, hB6, hBs, hBw⟩, hown⟩ := hst.out
            obtain ⟨sb, so, ma, mn, mc, rfl, c0, c1, c2, c3, c4, c5⟩ := HS.out.step hM.bel hsk
            obtain ⟨qa, qc, rfl, -⟩ := row_open hown
            have hOk := O2.out st (List.mem_of_getElem? hsk)
            have hb6 : Below wr.heap.size wr (wr.alloc (.cells #[.int .i64 st.do_, .int .i64 st.who, strV st.name, strV st.data, .int .i64 st.n, .slice ma mn mc] 36)) := (Below.refl _ wr).alloc (Nat.le_refl _) _
            have hM6 := hM.below hb6
            have hown6 := row_below hown hb6
            have hFb6 := hFb.below hb6
            have hb := Blk.new wr [.int .i64 st.do_, .int .i64 st.who, strV st.name, strV st.data, .int .i64 st.n, .slice ma mn mc] 36
            have y0 := hb.cell 0
            have y1 := hb.cell 1
            have y2 := hb.cell 2
            have y3 := hb.cell 3
            have y4 := hb.cell 4
            have y5 := hb.cell 5
            simp only [List.getElem?_cons_zero, List.getElem?_cons_succ] at y0 y1 y2 y3 y4 y5
            by_cases hdo : st.do_ = 6
            · have hS : St2 w (wr.alloc (.cells #[.int .i64 st.do_, .int .i64 st.who, strV st.name, strV st.data, .int .i64 st.n, .slice ma mn mc] 36)) b5 b6 (.slice ka kn kc) (.slice ja jn jc) g (ss1.length + 1) (k + 1) (.slice qa M.length qc) M := ⟨d3, A, B, hcalm, hM6.mono (by omega), hFb6, htold, le_step hMl, ⟨hB5, hB6, Nat.le_trans hBs hb6.size, hBw⟩, hown6⟩
              have HSS := Lib.hid hS
              have hq : (st.do_ == 6) = true := by simp [hdo]
              clear hdo hsk hcalm hM hFb htold hMl hown hOk hb6 hM6 hown6 hFb6 hb hS
              go_wp2
              go_roundw
              case rel => exact ⟨k + 1, M, by go_num, by omega, HSS.out⟩
              case measure => simp [intOf]; omega
            · have hq : (st.do_ == 6) = false := by simp [hdo]
              clear hdo
              have HC := Lib.hid (change_m2 hM6 st ma mn mc (by omega) (by have := hOk.1; omega) (by have := hOk.2.1; omega))
              have HCA := Lib.hid hcalm
              have HFB := Lib.hid hFb6
              have HOW := Lib.hid hown6
              have HTO := Lib.hid htold
              have HML := Lib.hid hMl
              have HD := Lib.hid (htold.do hcalm (odOf st))
              clear hsk hcalm hM hFb htold hMl hown hOk hb6 hM6 hown6 hFb6 hb
              go_wp2_with (fail)
              refine HC.out.mono ?_
              rintro e w7 ⟨rfl, ⟨⟨A7, h7⟩, hk7⟩, hz7⟩
              simp only [World.size_alloc] at hz7
              have hz7 : wr.heap.size ≤ w7.heap.size := by omega
              have hown7 := ownsRow_same HOW.out (fun k hk => hk7 k (by simp [hk]))
              have hFb7 := HFB.out.same hk7 (by simp) (by simp)
              rcases HD.out with ⟨hne, hsame⟩ | ⟨hz, ht2⟩
              · rw [errV_some hne]
                rw [hsame] at h7
                have hS : St2 w w7 b5 b6 (.slice ka kn kc) (.slice ja jn jc) g (ss1.length + 1) (k + 1) (.slice qa M.length qc) M := ⟨d3, A7, B, HCA.out, h7, hFb7, HTO.out, le_step HML.out, ⟨hB5, hB6, Nat.le_trans hBs hz7, hBw⟩, hown7⟩
                have HSS := Lib.hid hS
                clear hne hsame h7 hk7 hown7 hFb7 hS
                go_wp2
                go_roundw
                case rel => exact ⟨k + 1, M, by go_num, by omega, HSS.out⟩
                case measure => simp [intOf]; omega
              · rw [hz, errV_none]
                have hcalm7 := HCA.out.do (odOf st)
                generalize (ddo d3 (odOf st)).1 = d4 at *
                obtain ⟨l4, hl4⟩ : ∃ l4, (dshown d4).1 = l4 := ⟨_, rfl⟩
                have hl4' : tnames d4.now = l4 := hl4
                rw [hl4'] at ht2
                have hle4 : l4.length ≤ 2097154 := by
                  rw [← hl4']
                  unfold tnames
                  rw [List.length_map]
                  exact Nat.le_trans h7.hd.bd.now (by omega)
                have HLI := Lib.hid (List_m h7 l4 hcalm7.1 hl4 (by omega))
                have HC7 := Lib.hid hcalm7
                have HT2 := Lib.hid ht2
                have HO7 := Lib.hid hown7
                have HF7 := Lib.hid hFb7
                clear hz h7 hk7 hown7 hFb7 hcalm7 hl4 hl4' ht2
                go_wp2_with (fail)
                refine HLI.out.mono ?_
                rintro e w8 ⟨lv, rfl, hrow, h8, hb8⟩
                have hown8 := row_below HO7.out hb8
                have hsz8 := h8.bel.size
                have hml := HML.out
                go_wp2_with (at_builtin; refine wpList_append_row rfl _ _ 37 rfl B 9 i0 (strV []) 16 Tryz.underlying37 hi hz0 hz1 hz2 rfl (.slice qa M.length qc) M.length (M.map strV) rfl hown8 lv (l4.map strV) rfl hrow ?c1 ?c2 ?c3 ?c4 ?_)
                case c1 => intro x hx; obtain ⟨y, _, rfl⟩ := List.mem_map.1 hx; rfl
                case c2 => simp only [List.length_map]; unfold maxLen; omega
                case c3 => simp only [List.length_map]; omega
                case c4 => exact Nat.le_trans (Nat.le_trans hBs hz7) hb8.size
                intro nv' w9 hown9 hgrow9 hat9
                have h9 := h8.grown hgrow9 (fun j hj => ⟨by simp [hj], Nat.le_trans hBw (hown8.lt j hj).1⟩)
                have h9' : Mine w w9 (nv'.ownBlock.toList ++ [b5, b6]) A7 g d4 (ss1.length + 1 + k + 1) := ⟨h9.hd, h9.base, h9.bel, fun j hj => by
                  rcases List.mem_append.1 hj with hj | hj
                  · have h10 : nv'.ownBlock = some j := by simpa using hj
                    refine ⟨(hown9.lt j h10).2, fun hm => ?_⟩
                    rcases hat9 with h11 | h11
                    · exact (h9.far j (by rw [h11] at h10; simp [h10])).2 hm
                    · rw [h10] at h11
                      cases h11
                      exact Nat.lt_irrefl _ (h8.hd.lt _ hm)
                  · exact h9.far j (List.mem_append_right _ (List.mem_append_right _ hj))⟩
                have hF9 : Fb w9 b5 b6 (.slice ka kn kc) (.slice ja jn jc) := by
                  have hf := HF7.out.below hb8
                  refine ⟨hf.1.same (hgrow9.block _ hf.1.lt (fun e => ?_)), hf.2.same (hgrow9.block _ hf.2.lt (fun e => ?_))⟩
                  · have := (hown8.lt _ e.symm).1; omega
                  · have := (hown8.lt _ e.symm).1; omega
                rw [← List.map_append] at hown9
                have hS : St2 w w9 b5 b6 (.slice ka kn kc) (.slice ja jn jc) g (ss1.length + 1) (k + 1) nv' (M ++ l4) := ⟨d4, A7, B, HC7.out, h9', hF9, HT2.out, by rw [List.length_append]; exact le_step2 hml (by omega), ⟨hB5, hB6, Nat.le_trans (Nat.le_trans hBs hz7) (Nat.le_trans hb8.size hgrow9.size), hBw⟩, by rw [List.length_append]; simpa using hown9⟩
                have HSS := Lib.hid hS
                obtain ⟨ra, rc, rfl, -⟩ := row_open hown9
                clear hrow h8 hb8 hown8 hown9 hgrow9 hat9 h9 h9' hF9 hS
                go_wp2
                go_roundw
                case rel => exact ⟨k + 1, M ++ l4, by go_num, by omega, HSS.out⟩
                case measure => simp [intOf]; omega
          · obtain rfl : k = ss2.length := by omega
            obtain ⟨d3, A, B, hcalm, hM, hFb, htold, hMl, ⟨hB5, hB6, hBs, hBw⟩, hown⟩ := hst.out
            obtain ⟨qa, qc, rfl, hqs⟩ := row_open hown
            have f5 := hFb.1.cell 0
            have f6 := hFb.2.cell 0
            simp only [List.getElem?_cons_zero] at f5 f6
            have hok := hM.hd.ok
            have htf := htold.fail l1
            have HC := Lib.hid (Crash_m hM _ l1 rfl (by omega) (HI1.out.below hM.bel) (fun j hj => ⟨Nat.lt_of_lt_of_le (HI1.out.uses j hj) hM.bel.size, fun hm => by have h1 := hM.base j hm; have h2 := HI1.out.uses j hj; omega⟩))
            have HFB := Lib.hid hFb
            have HCA := Lib.hid hcalm
            have HOK := Lib.hid hok
            have HTF := Lib.hid htf
            have HML := Lib.hid hMl
            have HOW := Lib.hid hown
            have HQS := Lib.hid hqs
            clear hcalm hM hFb htold hMl hok htf hst hown hqs
            go_wp2_with (fail)
            refine HC.out.mono ?_
            rintro e w5 ⟨rfl, ⟨A5, h5⟩, hk5⟩
            have hF5 := HFB.out.same hk5 (by simp) (by simp)
            have hO5 := ownsRow_same HOW.out (fun k hk => hk5 k (by simp [hk]))
            have g6 := hF5.2.cell 0
            simp only [List.getElem?_cons_zero] at g6
            have HC2 := Lib.hid (Crash_m h5 _ l2 rfl (by omega) (HI2.out.below h5.bel) (fun j hj => ⟨Nat.lt_of_lt_of_le (HI2.out.uses j hj) h5.bel.size, fun hm => by have h1 := h5.base j hm; have h2 := HI2.out.uses j hj; omega⟩))
            have HF5 := Lib.hid hF5
            have HO5 := Lib.hid hO5
            clear h5 hk5 hF5 hO5 f5 f6
            go_wp2_with (fail)
            refine HC2.out.mono ?_
            rintro e w6 ⟨rfl, ⟨A6, h6⟩, hk6⟩
            have hF6 := HF5.out.same hk6 (by simp) (by simp)
            have hO6 := ownsRow_same HO5.out (fun k hk => hk6 k (by simp [hk]))
            have HR := Lib.hid (Revive_m h6 rfl)
            have HF6 := Lib.hid hF6
            have HO6 := Lib.hid hO6
            clear h6 hk6 hF6 hO6 g6
            go_wp2_with (fail)
            refine HR.out.mono ?_
            rintro e w7 ⟨rfl, ⟨A7, h7⟩, hk7⟩
            have hF7 := HF6.out.same hk7 (by simp) (by simp)
            have hO7 := ownsRow_same HO6.out (fun k hk => hk7 k (by simp [hk]))
            obtain ⟨hlaw, hin⟩ := still_law (l2 := l2) HCA.out HOK.out HTF.out
            obtain ⟨hl5, hm5⟩ := dshown_len (drevive (dcrash (dcrash d3 l1) l2))
            have hb5 := h7.hd.bd.now
            have hoff5 : (drevive (dcrash (dcrash d3 l1) l2)).off = false := rfl
            generalize drevive (dcrash (dcrash d3 l1) l2) = d5 at *
            obtain ⟨ns5, ds5, hsh5⟩ : ∃ ns ds, dshown d5 = (ns, ds) := ⟨_, _, rfl⟩
            rw [hsh5] at hlaw hin hl5 hm5
            simp only at hin hl5 hm5
            have HSH5 := Lib.hid (shown_any w7 A7 g _ _ h7.hd (by omega))
            have HN5 := Lib.hid hsh5
            have HLAW := Lib.hid hlaw
            have HIN := Lib.hid hin
            have HF7 := Lib.hid hF7
            have HO7 := Lib.hid hO7
            have H7 := Lib.hid h7
            have HOFF5 := Lib.hid hoff5
            have HL5 := Lib.hid hl5
            have HM5 := Lib.hid hm5
            clear hsh5 hlaw hin hF7 hO7 h7 hk7 hoff5 hl5 hm5
            go_wp2_with (fail)
            refine HSH5.out.mono ?_
            rintro e w8 ⟨u5, v5, rfl, hr, hu5, hv5, hb8⟩
            obtain ⟨hu, hv⟩ := hr HOFF5.out
            rw [HN5.out] at hu hv
            rw [HOFF5.out, Bool.not_false]
            obtain ⟨ua5, uc5, rfl, -⟩ := hu.shape
            obtain ⟨va5, vc5, rfl, -⟩ := hv.shape
            simp only [List.length_map] at hu hv hu5 hv5 ⊢
            have hx8 := Blk.new w8 [.slice ua5 ns5.length uc5, .slice va5 ds5.length vc5] 43
            have hb9 : Below w7.heap.size w7 (w8.alloc (.cells #[.slice ua5 ns5.length uc5, .slice va5 ds5.length vc5] 43)) := hb8.alloc hb8.size _
            have hbs8 : Below w8.heap.size w8 (w8.alloc (.cells #[.slice ua5 ns5.length uc5, .slice va5 ds5.length vc5] 43)) := (Below.refl _ _).alloc (Nat.le_refl _) _
            have hF9 := HF7.out.below hb9
            have hO9 := row_below HO7.out hb9
            have hu9 := hu.below hbs8
            have hv9 := hv.below hbs8
            have hM9 := H7.out.add hb9 (w8.heap.size :: ((Value.slice ua5 ns5.length uc5).ownBlock.toList ++ (Value.slice va5 ds5.length vc5).ownBlock.toList)) (fun k hk => by
              rcases List.mem_cons.1 hk with rfl | hk
              · exact ⟨hb8.size, by simp⟩
              · rcases List.mem_append.1 hk with hk | hk
                · have := hu5 k (by simpa using hk)
                  exact ⟨this.1, by simp; omega⟩
                · have := hv5 k (by simpa using hk)
                  exact ⟨this.1, by simp; omega⟩)
            have g6 := hF9.2.cell 0
            simp only [List.getElem?_cons_zero] at g6
            have HC9 := Lib.hid (Crash_m hM9 _ l2 rfl (by omega) (HI2.out.below hM9.bel) (fun j hj => ⟨Nat.lt_of_lt_of_le (HI2.out.uses j hj) hM9.bel.size, fun hm => by have h1 := hM9.base j hm; have h2 := HI2.out.uses j hj; omega⟩))
            have HX8 := Lib.hid hx8
            have HO9 := Lib.hid hO9
            have HU9 := Lib.hid hu9
            have HV9 := Lib.hid hv9
            clear hr hu hv hu5 hv5 hb8 hx8 hb9 hbs8 hF9 hO9 hu9 hv9 hM9
            go_wp2_with (fail)
            refine HC9.out.mono ?_
            rintro e wA ⟨rfl, ⟨AA, hA⟩, hkA⟩
            have hXA := HX8.out.same (hkA _ (by simp))
            have hOA := ownsRow_same HO9.out (fun k hk => hkA k (by simp [hk]))
            have hUA := HU9.out.same (fun k hk => hkA k (by simp [hk]))
            have hVA := HV9.out.same (fun k hk => hkA k (by simp [hk]))
            have HRA := Lib.hid (Revive_m hA rfl)
            have HXA := Lib.hid hXA
            have HOA := Lib.hid hOA
            have HUA := Lib.hid hUA
            have HVA := Lib.hid hVA
            clear hA hkA hXA hOA hUA hVA g6
            go_wp2_with (fail)
            refine HRA.out.mono ?_
            rintro e wB ⟨rfl, ⟨AB, hB⟩, hkB⟩
            have hXB := HXA.out.same (hkB _ (by simp))
            have hOB := ownsRow_same HOA.out (fun k hk => hkB k (by simp [hk]))
            have hUB := HUA.out.same (fun k hk => hkB k (by simp [hk]))
            have hVB := HVA.out.same (fun k hk => hkB k (by simp [hk]))
            have HSHB := Lib.hid (shown_any wB AB g _ _ hB.hd (by omega))
            have HBB2 := Lib.hid hB.bel
            have hoffB : (drevive (dcrash d5 l2)).off = false := rfl
            have hshB : dshown (drevive (dcrash d5 l2)) = (ns5, ds5) := HLAW.out
            have HOFFB := Lib.hid hoffB
            have HSHN5 := Lib.hid hshB
            have HXB := Lib.hid hXB
            have HOB := Lib.hid hOB
            have HUB := Lib.hid hUB
            have HVB := Lib.hid hVB
            clear hB hkB hXB hOB hUB hVB hoffB hshB
            generalize drevive (dcrash d5 l2) = d7 at *
            go_wp2_with (fail)
            refine HSHB.out.mono ?_
            rintro e wC ⟨u7, v7, rfl, hr, -, -, hbC⟩
            obtain ⟨hu, hv⟩ := hr HOFFB.out
            rw [HSHN5.out] at hu hv
            rw [HOFFB.out, Bool.not_false]
            obtain ⟨ua7, uc7, rfl, -⟩ := hu.shape
            obtain ⟨va7, vc7, rfl, -⟩ := hv.shape
            simp only [List.length_map] at hu hv ⊢
            have hbD : Below wB.heap.size wB (wC.alloc (.cells #[.slice ua7 ns5.length uc7, .slice va7 ds5.length vc7] 43)) := hbC.alloc hbC.size _
            have hbs : Below wC.heap.size wC (wC.alloc (.cells #[.slice ua7 ns5.length uc7, .slice va7 ds5.length vc7] 43)) := (Below.refl _ _).alloc (Nat.le_refl _) _
            have hXD := HXB.out.below hbD HXB.out.lt
            have hOD := row_below HOB.out hbD
            have hUD := HUB.out.below hbD
            have hVD := HVB.out.below hbD
            have hu' := hu.below hbs
            have hv' := hv.below hbs
            have p0 := hXD.cell 0
            have p1 := hXD.cell 1
            simp only [List.getElem?_cons_zero, List.getElem?_cons_succ] at p0 p1
            have hle : ns5.length < 4294967296 := by have := HL5.out; omega
            have hle2 : ds5.length < 4294967296 := by have := HM5.out; omega
            have hsa := same_any _ _ _ _ _ ns5 ds5 ns5 ds5 hUD hVD hu' hv' hle hle2 hle hle2
            rw [show decide ((ns5, ds5) = (ns5, ds5)) = true from by simp] at hsa
            have HSA := Lib.hid hsa
            clear hsa
            have HXD := Lib.hid hXD
            have HOD := Lib.hid hOD
            have HUD := Lib.hid hUD
            have HBD := Lib.hid (HBB2.out.trans (hbD.mono HBB2.out.size))
            clear hr hu hv hbC hbD hbs hXD hOD hUD hVD hu' hv'
            go_wp2_with (fail)
            refine HSA.out.mono ?_
            rintro e wE ⟨rfl, hbE⟩
            have hXE := HXD.out.below hbE HXD.out.lt
            have hOE := RowAt.of_row (row_below HOD.out hbE)
            have hUE := HUD.out.below hbE
            have hBE := HBD.out.trans (hbE.mono HBD.out.size)
            obtain ⟨_, _, hwe, hqe⟩ := hOE.shape
            simp only [Value.slice.injEq] at hwe
            obtain ⟨rfl, -, rfl⟩ := hwe
            obtain ⟨_, _, hwu, hue⟩ := hUE.shape
            simp only [Value.slice.injEq] at hwu
            obtain ⟨rfl, -, rfl⟩ := hwu
            have p0 := hXE.cell 0
            simp only [List.getElem?_cons_zero] at p0
            have HQE := Lib.hid hqe
            have HUE := Lib.hid hue
            have HBE := Lib.hid hBE
            have hml := HML.out
            clear hbE hXE hOE hUE hBE hqe hue p1
            go_wp2_with (fail)
            go_loopw [20] (fun iv wr => ∃ i q : Nat, iv = .int .i64 (i : Nat) ∧ i ≤ ns5.length ∧ wr = wE.drewN q) (fun iv _ => ns5.length - (intOf iv).toNat)
            case atStart => exact ⟨0, 0, rfl, Nat.zero_le _, rfl⟩
            case round =>
              obtain ⟨i, q, rfl, hile, rfl⟩ := hrel
              by_cases hil : i < ns5.length
              · obtain ⟨nm, hnm⟩ : ∃ x, ns5[i]? = some x := ⟨_, List.getElem?_eq_getElem hil⟩
                obtain ⟨ub, uo, rfl, hcu, -⟩ := HUE.out i (strV nm) (by rw [List.getElem?_map, hnm]; rfl)
                have hmem := HIN.out nm (List.mem_of_getElem? hnm)
                have HMEM := Lib.hid hmem
                have ii0 : (0 : Int) ≤ (i : Int) := by omega
                have ii1 : (i : Int) < (ns5.length : Int) := by omega
                clear hnm hmem
                go_wp2_with (fail)
                obtain ⟨wz, hwz⟩ : ∃ wz, wz = wE.drewN q := ⟨_, rfl⟩
                go_loopw [21, 22] (fun fv jv wr => ∃ (f : Bool) (j q2 : Nat), fv = .bool f ∧ jv = .int .i64 (j : Nat) ∧ j ≤ M.length ∧ Hid (f = decide (nm ∈ M.take j)) ∧ wr = wE.drewN q2) (fun _ jv _ => M.length - (intOf jv).toNat)
                case atStart => exact ⟨false, 0, q, rfl, rfl, Nat.zero_le _, (by show false = _; simp), rfl⟩
                case round =>
                  obtain ⟨f, j, q2, rfl, rfl, hjle, hf, rfl⟩ := hrel
                  by_cases hjl : j < M.length
                  · obtain ⟨mj, hmj⟩ : ∃ x, M[j]? = some x := ⟨_, List.getElem?_eq_getElem hjl⟩
                    obtain ⟨qb, qo, rfl, hcq, -⟩ := HQE.out j (strV mj) (by rw [List.getElem?_map, hmj]; rfl)
                    have ij0 : (0 : Int) ≤ (j : Int) := by omega
                    have ij1 : (j : Int) < (M.length : Int) := by omega
                    have htk : M.take (j + 1) = M.take j ++ [mj] := by rw [List.take_add_one, hmj]; rfl
                    cases f with
                    | true =>
                      have hf2 : Hid (true = decide (nm ∈ M.take (j + 1))) := by
                        show true = _
                        have := hf.out
                        rw [htk]
                        simp at this ⊢
                        exact Or.inl this
                      clear hmj htk hf
                      go_wp2
                      go_quiet (fail)
                      go_wp2
                      go_roundw
                      case rel => exact ⟨true, j + 1, _, rfl, by go_num, by omega, hf2, rfl⟩
                      case measure => simp [intOf]; omega
                    | false =>
                      by_cases hmn : mj = nm
                      · have hq3 : Hid (((str mj).toList == (str nm).toList) = true) := by show _ = _; rw [toList_str, toList_str]; simp [hmn]
                        have hf2 : Hid (true = decide (nm ∈ M.take (j + 1))) := by
                          show true = _
                          rw [htk]
                          simp [hmn]
                        clear hmj htk hf hmn
                        go_wp2
                        go_quiet (fail)
                        go_wp2
                        go_roundw
                        case rel => exact ⟨true, j + 1, _, by rw [hq3.out], by go_num, by omega, hf2, rfl⟩
                        case measure => simp [intOf]; omega
                      · have hq3 : Hid (((str mj).toList == (str nm).toList) = false) := by show _ = _; rw [toList_str, toList_str]; simp [hmn]
                        have hf2 : Hid (false = decide (nm ∈ M.take (j + 1))) := by
                          show false = _
                          have := hf.out
                          rw [htk]
                          simp at this ⊢
                          exact ⟨this, fun e => hmn e.symm⟩
                        clear hmj htk hf hmn
                        go_wp2
                        go_quiet (fail)
                        go_wp2
                        go_roundw
                        case rel => exact ⟨false, j + 1, _, by rw [hq3.out], by go_num, by omega, hf2, rfl⟩
                        case measure => simp [intOf]; omega
                  · have hft : f = true := by
                      have h1 := hf.out
                      have h2 : M.take j = M := List.take_of_length_le (by omega)
                      rw [h2] at h1
                      rw [h1]
                      simpa using HMEM.out
                    subst hft
                    clear hf
                    go_wp2
                    go_roundw
                    case rel => exact ⟨i + 1, q2, by go_num, by omega, rfl⟩
                    case measure => simp [intOf]; omega
              · go_wp2
                go_ret
                exact ⟨rfl, below_drewN HBE.out _⟩
end Go.Proofs.YtfgpigblnkanpaaGreatDoor
