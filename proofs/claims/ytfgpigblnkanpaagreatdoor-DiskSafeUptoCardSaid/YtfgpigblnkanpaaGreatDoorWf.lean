/- The walk of the statement DiskSafe. -/
import Derived.Test.YtfgpigblnkanpaaGreatDoorWs
import Derived.Test.YtfgpigblnkanpaaGreatDoorOf
import Derived.Test.YtfgpigblnkanpaaGreatDoorTouch
import Derived.StillTailTactics
import Derived.Deep.OwnRows
namespace Go.Proofs.YtfgpigblnkanpaaGreatDoor
open Go.RowKit Go.Maps Go.Shelf
set_option linter.unusedVariables false

/-- What the law's first loop keeps. -/
def Sf1 (w wr : World) (b6 : Nat) (k1 : Value) (g : Nat) (k : Nat) : Prop := ∃ d A, Calm d ∧ Mine w wr [b6] A g d k ∧ Blk wr b6 [k1] 26
/-- .. the loop of syncs. -/
def Sf2 (w wr : World) (b6 : Nat) (k1 : Value) (g : Nat) (lv : Value) (ns : List Nm) (d0 : Dk) (N k : Nat) : Prop := ∃ d A, SyncedTo d0 d k ∧ Mine w wr (lv.ownBlock.toList ++ [b6]) A g d (N + k) ∧ Blk wr b6 [k1] 26 ∧ TextsAt wr lv ns
/-- .. the loop of failures, and what follows. -/
def Sf3 (w wr : World) (b6 b12 : Nat) (k1 : Value) (g : Nat) (u v : Value) (ns : List Nm) (ds : List (List UInt8)) (N : Nat) : Prop := ∃ d A, Firm d ∧ dshown d = (ns, ds) ∧ Mine w wr (b12 :: (u.ownBlock.toList ++ v.ownBlock.toList) ++ [b6]) A g d N ∧ Blk wr b6 [k1] 26 ∧ Blk wr b12 [u, v] 43 ∧ TextsAt wr u ns ∧ TextsAt wr v ds
theorem Sf3.below {w wr w' : World} {b6 b12 : Nat} {k1 : Value} {g : Nat} {u v : Value} {ns : List Nm} {ds : List (List UInt8)} {N : Nat} (h : Sf3 w wr b6 b12 k1 g u v ns ds N) (hb : Below wr.heap.size wr w') : Sf3 w w' b6 b12 k1 g u v ns ds N := by
  obtain ⟨d, A, h1, h2, h3, h4, h5, h6, h7⟩ := h
  exact ⟨d, A, h1, h2, h3.below hb, h4.below hb h4.lt, h5.below hb h5.lt, h6.below hb, h7.below hb⟩
theorem fate_new (w : World) (X : Obj) (u : Value) (t : TypeId) : Blk ((w.alloc X).alloc (.cells #[u] t)).drew (w.heap.size + 1) [u] t ∧ Below w.heap.size w ((w.alloc X).alloc (.cells #[u] t)).drew := by
  have h1 := Blk.new (w.alloc X) [u] t
  rw [World.size_alloc] at h1
  exact ⟨h1.drew, (((Below.refl _ w).alloc (Nat.le_refl _) _).alloc (by simp) _).drew⟩
/-- The blocks that are kept beside the disk. -/
def K4 (X : List Nat) (b6 b12 bT : Nat) (u v : Value) : List Nat := X ++ (bT :: b12 :: (u.ownBlock.toList ++ v.ownBlock.toList) ++ [b6])
/-- What the second half keeps: the disk, the image, the marks. -/
def Sf4 (w wr : World) (X : List Nat) (b6 b12 bT : Nat) (k1 : Value) (g : Nat) (u v : Value) (ns : List Nm) (ds : List (List UInt8)) (d : Dk) (N : Nat) (T : List Bool) : Prop :=
  ∃ A, Mine w wr (K4 X b6 b12 bT u v) A g d N ∧ Blk wr b6 [k1] 26 ∧ Blk wr b12 [u, v] 43 ∧ TextsAt wr u ns ∧ TextsAt wr v ds ∧ Blk wr bT (T.map Value.bool) 4 ∧ (bT ≠ b6 ∧ bT ≠ b12 ∧ u.ownBlock ≠ some bT ∧ v.ownBlock ≠ some bT ∧ w.heap.size ≤ bT)
section
variable {w wr w' : World} {X : List Nat} {b6 b12 bT : Nat} {k1 : Value} {g : Nat} {u v : Value} {ns : List Nm} {ds : List (List UInt8)} {d d' : Dk} {N N' : Nat} {T : List Bool}
theorem Sf4.below (h : Sf4 w wr X b6 b12 bT k1 g u v ns ds d N T) (hb : Below wr.heap.size wr w') : Sf4 w w' X b6 b12 bT k1 g u v ns ds d N T := by
  obtain ⟨A, h3, h4, h5, h6, h7, h8, h9⟩ := h
  exact ⟨A, h3.below hb, h4.below hb h4.lt, h5.below hb h5.lt, h6.below hb, h7.below hb, h8.below hb h8.lt, h9⟩
theorem Sf4.drewN (h : Sf4 w wr X b6 b12 bT k1 g u v ns ds d N T) (q : Nat) : Sf4 w (wr.drewN q) X b6 b12 bT k1 g u v ns ds d N T := h.below ⟨rfl, rfl, rfl, Nat.le_refl _, fun _ _ => rfl⟩
theorem Sf4.mono (h : Sf4 w wr X b6 b12 bT k1 g u v ns ds d N T) (hm : N ≤ N') : Sf4 w wr X b6 b12 bT k1 g u v ns ds d N' T := by
  obtain ⟨A, h3, h4⟩ := h
  exact ⟨A, h3.mono hm, h4⟩
theorem Sf4.less (h : Sf4 w wr X b6 b12 bT k1 g u v ns ds d N T) : Sf4 w wr [] b6 b12 bT k1 g u v ns ds d N T := by
  obtain ⟨A, h3, h4⟩ := h
  exact ⟨A, h3.less (fun k hk => List.mem_append_right _ hk), h4⟩
theorem Sf4.add (h : Sf4 w wr [] b6 b12 bT k1 g u v ns ds d N T) (x : Obj) : Sf4 w (wr.alloc x) [wr.heap.size] b6 b12 bT k1 g u v ns ds d N T := by
  have hb : Below wr.heap.size wr (wr.alloc x) := (Below.refl _ wr).alloc (Nat.le_refl _) x
  obtain ⟨A, h3, h4, h5, h6, h7, h8, h9⟩ := h
  exact ⟨A, h3.add hb [wr.heap.size] (fun k hk => by simp at hk; subst hk; simp), h4.below hb h4.lt, h5.below hb h5.lt, h6.below hb, h7.below hb, h8.below hb h8.lt, h9⟩
theorem Sf4.op (h : Sf4 w wr X b6 b12 bT k1 g u v ns ds d N T) (hm : MineTo w (K4 X b6 b12 bT u v) wr g d' N' w') : Sf4 w w' X b6 b12 bT k1 g u v ns ds d' N' T := by
  obtain ⟨A, h3, h4, h5, h6, h7, h8, h9⟩ := h
  obtain ⟨⟨A', h1⟩, hk⟩ := hm
  exact ⟨A', h1, h4.same (hk _ (by unfold K4; simp)), h5.same (hk _ (by unfold K4; simp)), h6.same (fun j hj => hk j (by unfold K4; simp [hj])), h7.same (fun j hj => hk j (by unfold K4; simp [hj])), h8.same (hk _ (by unfold K4; simp)), h9⟩
theorem Sf4.mark (h : Sf4 w wr X b6 b12 bT k1 g u v ns ds d N T) (k : Nat) (b : Bool) : Sf4 w (wr.setCell ⟨bT, k, none⟩ (.bool b)) X b6 b12 bT k1 g u v ns ds d N (T.set k b) := by
  obtain ⟨A, h3, h4, h5, h6, h7, h8, h9, h10, h11, h12, h13⟩ := h
  have hs : ∀ j, j ≠ bT → (wr.setCell ⟨bT, k, none⟩ (.bool b)).heap[j]? = wr.heap[j]? := fun j hj => heap_setCell_other _ _ _ _ hj
  refine ⟨A, h3.set _ (by unfold K4; simp) h13 _, h4.same (hs _ h9.symm), h5.same (hs _ h10.symm), h6.same (fun j hj => hs j (fun e => h11 (e ▸ hj))), h7.same (fun j hj => hs j (fun e => h12 (e ▸ hj))), ?_, h9, h10, h11, h12, h13⟩
  rw [List.map_set]
  exact h8.set k _
end
theorem mark_cases (s : Sp) (n : Nm) (t : Bool) : (t = true ∨ t = false ∧ n = s.name ∨ t = false ∧ n ≠ s.name ∧ s.do_ = 4 ∧ n = s.data) ∨ (t = false ∧ n ≠ s.name ∧ s.do_ ≠ 4 ∧ ¬ hit s n) ∨ (t = false ∧ n ≠ s.name ∧ s.do_ = 4 ∧ n ≠ s.data ∧ ¬ hit s n) := by
  cases t with
  | true => exact Or.inl (Or.inl rfl)
  | false =>
    by_cases h1 : n = s.name
    · exact Or.inl (Or.inr (Or.inl ⟨rfl, h1⟩))
    · by_cases h4 : s.do_ = 4
      · by_cases h2 : n = s.data
        · exact Or.inl (Or.inr (Or.inr ⟨rfl, h1, h4, h2⟩))
        · refine Or.inr (Or.inr ⟨rfl, h1, h4, h2, ?_⟩)
          rintro (h | ⟨_, h⟩)
          · exact h1 h
          · exact h2 h
      · refine Or.inr (Or.inl ⟨rfl, h1, h4, ?_⟩)
        rintro (h | ⟨h, _⟩)
        · exact h1 h
        · exact h4 h
theorem infoBool : (Tryz.prog.info? 4).map (fun i => (i.zero, i.size, i.bytes)) = some (some (.bool false), 1, 1) := by kernel_rfl
theorem made_bools (n : Nat) : madeCells #[Value.bool false] n = ((List.replicate n false).map Value.bool).toArray := by
  apply Array.ext
  · simp [size_madeCells]
  · intro i h1 h2
    simp [madeCells, Nat.mod_one]
def boolRow (n : Nat) : Array Value := ((List.replicate n false).map Value.bool).toArray
theorem make_bools (W : World) (n : Nat) (hn : n ≤ 1048576) : (Instr.makeSlice 48 (.int .i64 n) (.int .i64 n)).run Tryz.prog W = .ok (.slice (some ⟨W.heap.size, 0, none⟩) n n) (W.alloc (.cells (boolRow n) 4)) := by
  unfold boolRow
  rw [← made_bools]
  exact run_make_row' 48 4 (.bool false) 1 Tryz.underlying48 infoBool rfl .i64 .i64 n (by omega) (by omega) W
set_option maxHeartbeats 8000000 in
set_option maxRecDepth 100000 in
theorem DiskSafe_any (w : World) (f t s k1 : Value) (ss1 ss2 : List Sp) (ls : List (List Int)) (l1 : List Int) (hf : StepsAt w f ss1) (ht : FatesAt w t ls) (hs : StepsAt w s ss2) (o1 : ∀ x ∈ ss1, SpOk x) (o2 : ∀ x ∈ ss2, SpOk x) (n1 : ss1.length ≤ 1048576) (n2 : ss2.length ≤ 1048576) (n3 : ls.length ≤ 1048576)
    (hi1 : IntsAt w k1 l1) (hk1 : ∃ a n c, k1 = .slice a n c) (hg : ErrorLaid w) :
    Calls Tryz.prog 3 #[.agg #[f, t, s, k1]] w fun e w' => e = .returned (.bool true) ∧ Below w.heap.size w w' := by
  obtain ⟨fa, fc, rfl⟩ := hf.len
  obtain ⟨sa, sc, rfl⟩ := hs.len
  obtain ⟨ta, tc, rfl, htx⟩ := ht
  obtain ⟨ka, kn, kc, rfl⟩ := hk1
  have hx := Blk.new w [.slice fa ss1.length fc, .slice ta ls.length tc, .slice sa ss2.length sc, .slice ka kn kc] 28
  have x0 := hx.cell 0
  have x1 := hx.cell 1
  have x2 := hx.cell 2
  have x3 := hx.cell 3
  simp only [List.getElem?_cons_zero, List.getElem?_cons_succ] at x0 x1 x2 x3
  have HF := Lib.hid hf
  have HS := Lib.hid hs
  have HT := Lib.hid htx
  have O1 := Lib.hid o1
  have O2 := Lib.hid o2
  have HI1 := Lib.hid hi1
  clear hf hs htx o1 o2 hi1 hx
  go_enter Tryz.func3, Tryz.ntmps3
  go_upto_region 1 with (fail)
  go_cut [3, 4, 5, 6] (fun s3 s4 s5 s6 wx => ∃ b6, s3 = .slice fa ss1.length fc ∧ s4 = .slice ta ls.length tc ∧ s5 = .slice sa ss2.length sc ∧ s6 = .pointer (some ⟨b6, 0, none⟩) ∧ Hid (Blk wx b6 [.slice ka kn kc] 26 ∧ Below w.heap.size w wx ∧ w.heap.size ≤ b6))
  case first =>
    go_region
    all_goals
      go_wp2_with (fail)
      go_meet
      obtain ⟨q1, q3⟩ := fate_new w (.cells #[.slice fa ss1.length fc, .slice ta ls.length tc, .slice sa ss2.length sc, .slice ka kn kc] 28) (.slice ka kn kc) 26
      exact ⟨_, rfl, rfl, rfl, rfl, q1, q3, by omega⟩
  case rest =>
    clear x0 x1 x2 x3
    obtain ⟨b6, rfl, rfl, rfl, rfl, hc⟩ := hcut
    obtain ⟨hc6, hcb, hb6⟩ := hc.out
    have hlt6 := hc6.lt
    have HF0 := Lib.hid hc6
    have HCB := Lib.hid hcb
    clear hc hc6 hcb
    go_wp2_with (fail)
    refine (New_m w wc HCB.out [b6] (fun k hk => by simp at hk; subst hk; assumption) 1048576).mono ?_
    rintro e w1 ⟨g, A1, rfl, h1, hb1⟩
    have hF1 := HF0.out.below hb1 hlt6
    have H1 := Lib.hid h1
    have HF1 := Lib.hid hF1
    clear h1 hb1 hF1
    go_wp2_with (fail)
    refine (works22_any w1 (hg.below H1.out.bel)).mono ?_
    rintro e w2 ⟨rfl, hb2⟩
    have hS0 : Sf1 w w2 b6 (.slice ka kn kc) g 0 := ⟨_, A1, ⟨rfl, rfl⟩, H1.out.below hb2, HF1.out.below hb2 HF1.out.lt⟩
    have HS0 := Lib.hid hS0
    clear hS0 hb2
    go_wp2_with (fail)
    go_loopw [8] (fun iv wr => ∃ k, iv = .int .i64 (k : Nat) ∧ k ≤ ss1.length ∧ Hid (Sf1 w wr b6 (.slice ka kn kc) g k)) (fun iv _ => ss1.length - (intOf iv).toNat)
    case atStart => exact ⟨0, rfl, Nat.zero_le _, HS0.out⟩
    case round =>
      obtain ⟨k, rfl, hk, hst⟩ := hrel
      by_cases hlt : k < ss1.length
      · obtain ⟨st, hsk⟩ : ∃ x, ss1[k]? = some x := ⟨_, List.getElem?_eq_getElem hlt⟩
        obtain ⟨d, A, hcalm, hM, hFb⟩ := hst.out
        obtain ⟨sb, so, ma, mn, mc, rfl, c0, c1, c2, c3, c4, c5⟩ := HF.out.step hM.bel hsk
        have hOk := O1.out st (List.mem_of_getElem? hsk)
        have HC := Lib.hid (change_m hM st ma mn mc (by omega) (by have := hOk.1; omega) (by have := hOk.2.1; omega))
        have HCA := Lib.hid hcalm
        have HFB := Lib.hid hFb
        clear hsk hcalm hM hFb hOk
        go_wp2_with (fail)
        refine HC.out.mono ?_
        rintro e w4 ⟨rfl, ⟨A4, h4⟩, hk4⟩
        have hS : Sf1 w w4 b6 (.slice ka kn kc) g (k + 1) := ⟨_, A4, HCA.out.do _, h4, HFB.out.same (hk4 _ (by simp))⟩
        have HSS := Lib.hid hS
        clear h4 hk4 hS
        go_wp2
        go_roundw
        case rel => exact ⟨k + 1, by go_num, by omega, HSS.out⟩
        case measure => simp [intOf]; omega
      · obtain rfl : k = ss1.length := by omega
        obtain ⟨d0, A, hcalm, hM, hFb⟩ := hst.out
        obtain ⟨hl0, hm0⟩ := dshown_len d0
        have hnow0 := hM.hd.bd.now
        have hnl0 : ∀ n ∈ (dshown d0).1, n.length ≤ 9223372036854775807 := fun n hn => by
          obtain ⟨L0, hd1, _⟩ := hM.hd
          have := hd1.now.nameLen n hn
          unfold maxLen at this
          exact this
        have hok0 := hM.hd.ok
        obtain ⟨ns, ds, hsh⟩ : ∃ ns ds, dshown d0 = (ns, ds) := ⟨_, _, rfl⟩
        have hL := List_m hM ns hcalm.1 (by rw [hsh]) (by omega)
        rw [hsh] at hl0 hm0 hnl0
        have HNL := Lib.hid hnl0
        have HL := Lib.hid hL
        have HCA := Lib.hid hcalm
        have HFB := Lib.hid hFb
        have HSH := Lib.hid hsh
        have HL0 := Lib.hid hl0
        have HM0 := Lib.hid hm0
        clear hcalm hM hFb hst hL hsh hl0 hm0 hok0 hnl0
        go_wp2_with (fail)
        refine HL.out.mono ?_
        rintro e w3 ⟨lv, rfl, hrow, h3, hb3⟩
        have hnb : ns.length ≤ 1048576 := by have := HL0.out; omega
        obtain ⟨la, lc, rfl, -⟩ := hrow.shape
        simp only [List.length_map] at *
        have hS2 : Sf2 w w3 b6 (.slice ka kn kc) g (.slice la ns.length lc) ns d0 ss1.length 0 := ⟨d0, A, SyncedTo.start HCA.out, h3, HFB.out.below hb3 HFB.out.lt, hrow⟩
        have HS2 := Lib.hid hS2
        clear hrow h3 hb3 hS2
        go_wp2_with (fail)
        go_loopw [11] (fun iv wr => ∃ k, iv = .int .i64 (k : Nat) ∧ k ≤ ns.length ∧ Hid (Sf2 w wr b6 (.slice ka kn kc) g (.slice la ns.length lc) ns d0 ss1.length k)) (fun iv _ => ns.length - (intOf iv).toNat)
        case atStart => exact ⟨0, rfl, Nat.zero_le _, HS2.out⟩
        case round =>
          obtain ⟨k, rfl, hk, hst⟩ := hrel
          by_cases hlt : k < ns.length
          · obtain ⟨d, A, hsy, hM, hFb, hrow⟩ := hst.out
            obtain ⟨x, hx⟩ : ∃ x, d0.now[k]? = some x := ⟨_, List.getElem?_eq_getElem (by have := HL0.out; omega)⟩
            have hnk : ns[k]? = some x.1 := by
              have e := congrArg Prod.fst HSH.out
              simp only at e
              rw [← e]
              unfold dshown tnames
              rw [List.getElem?_map, hx]
              rfl
            obtain ⟨h0, hsy2⟩ := hsy.step hM.hd.ok hx
            have hnl : x.1.length ≤ 9223372036854775807 := by
              obtain ⟨L0, hd1, _⟩ := hM.hd
              have := hd1.now.nameLen x.1 (by rw [hsy.now]; exact List.mem_map.2 ⟨x, List.mem_of_getElem? hx, rfl⟩)
              unfold maxLen at this
              exact this
            obtain ⟨_, _, hwe, hrx⟩ := hrow.shape
            obtain ⟨rb, ro, rfl, hcr, -⟩ := hrx k (strV x.1) (by rw [List.getElem?_map, hnk]; rfl)
            simp only [Value.slice.injEq] at hwe
            obtain ⟨rfl, -, rfl⟩ := hwe
            have HC := Lib.hid (Sync_m hM x.1 (ddo_eq (rfl : (ddo d (.sync x.1)).1 = (ddo d (.sync x.1)).1) h0) (by omega) hnl)
            have HFB := Lib.hid hFb
            have HRW := Lib.hid hrow
            have HSY := Lib.hid hsy2
            have ik0 : (0 : Int) ≤ (k : Int) := by omega
            have ik1 : (k : Int) < (ns.length : Int) := by omega
            clear hsy hM hFb hrow hx hnk h0 hsy2 hnl hrx hst
            go_wp2_with (fail)
            refine HC.out.mono ?_
            rintro e w4 ⟨rfl, ⟨A4, h4⟩, hk4⟩
            rw [errV_none]
            have hS : Sf2 w w4 b6 (.slice ka kn kc) g (.slice (some ⟨rb, ro, none⟩) ns.length lc) ns d0 ss1.length (k + 1) := ⟨_, A4, HSY.out, h4, HFB.out.same (hk4 _ (by simp)), HRW.out.same (fun j hj => hk4 j (List.mem_append_left _ (by have e : (Value.slice (some ⟨rb, ro, none⟩) ns.length lc).ownBlock = some j := hj; rw [e]; simp)))⟩
            have HSS := Lib.hid hS
            clear h4 hk4 hS hcr
            go_wp2
            go_roundw
            case rel => exact ⟨k + 1, by go_num, by omega, HSS.out⟩
            case measure => simp [intOf]; omega
          · obtain rfl : k = ns.length := by omega
            obtain ⟨d, A, hsy, hM, hFb, hrow⟩ := hst.out
            rw [show ns.length = d0.now.length from HL0.out] at hsy
            obtain ⟨d2, hfl, hfirm, hsh2⟩ := hsy.flush
            rw [HSH.out] at hsh2
            have HC := Lib.hid (Flush_m hM hfl (by omega))
            have HFB := Lib.hid hFb
            have HFI := Lib.hid hfirm
            have HSH2 := Lib.hid hsh2
            clear hsy hM hFb hrow hfl hfirm hsh2 hst
            go_wp2_with (fail)
            refine HC.out.mono ?_
            rintro e w4 ⟨rfl, ⟨A4, h4⟩, hk4⟩
            rw [errV_none]
            have hb6b := HFB.out.same (hk4 b6 (by simp))
            have h4' : Mine w w4 [b6] A4 g d2 (ss1.length + ns.length + 1) := h4.less (fun k hk => by simp at hk; subst hk; simp)
            have HSHN := Lib.hid (shown_any w4 A4 g d2 _ h4.hd (by omega))
            have H4 := Lib.hid h4'
            have HB6 := Lib.hid hb6b
            clear h4 h4' hk4 hb6b
            go_wp2_with (fail)
            refine HSHN.out.mono ?_
            rintro e w5 ⟨u, v, rfl, hr, hu1, hv1, hb5⟩
            obtain ⟨hu, hv⟩ := hr HFI.out.calm.1
            rw [HSH2.out] at hu hv
            rw [HFI.out.calm.1, Bool.not_false]
            obtain ⟨ua, uc, rfl, -⟩ := hu.shape
            obtain ⟨va, vc, rfl, -⟩ := hv.shape
            simp only [List.length_map] at hu hv hu1 hv1
            have hx5 := Blk.new w5 [.slice ua ns.length uc, .slice va ds.length vc] 43
            have hbb : Below w4.heap.size w4 (w5.alloc (.cells #[.slice ua ns.length uc, .slice va ds.length vc] 43)) := hb5.alloc hb5.size _
            have hbs : Below w5.heap.size w5 (w5.alloc (.cells #[.slice ua ns.length uc, .slice va ds.length vc] 43)) := (Below.refl _ _).alloc (Nat.le_refl _) _
            have hM5 := H4.out.add hbb (w5.heap.size :: ((Value.slice ua ns.length uc).ownBlock.toList ++ (Value.slice va ds.length vc).ownBlock.toList)) (fun k hk => by
              rcases List.mem_cons.1 hk with rfl | hk
              · exact ⟨hb5.size, by simp⟩
              · rcases List.mem_append.1 hk with hk | hk
                · have := hu1 k (by simpa using hk)
                  exact ⟨this.1, by simp; omega⟩
                · have := hv1 k (by simpa using hk)
                  exact ⟨this.1, by simp; omega⟩)
            have hS3 : Sf3 w (w5.alloc (.cells #[.slice ua ns.length uc, .slice va ds.length vc] 43)) b6 w5.heap.size (.slice ka kn kc) g (.slice ua ns.length uc) (.slice va ds.length vc) ns ds (ss1.length + ns.length + 1) := ⟨d2, A4, HFI.out, HSH2.out, hM5, HB6.out.below hbb HB6.out.lt, hx5, hu.below hbs, hv.below hbs⟩
            have HS3 := Lib.hid hS3
            clear hr hu hv hu1 hv1 hb5 hx5 hbb hbs hM5 hS3
            go_upto_block 4 with (fail)
            go_cut [14] (fun s14 wx => Hid (Sf3 w wx b6 w5.heap.size (.slice ka kn kc) g (.slice ua ns.length uc) (.slice va ds.length vc) ns ds (ss1.length + ns.length + 1)))
            case first =>
              go_wp2_with (fail)
              go_loopw [14] (fun iv wr => ∃ k, iv = .int .i64 (k : Nat) ∧ k ≤ ls.length ∧ Hid (Sf3 w wr b6 w5.heap.size (.slice ka kn kc) g (.slice ua ns.length uc) (.slice va ds.length vc) ns ds (ss1.length + ns.length + 1))) (fun iv _ => ls.length - (intOf iv).toNat)
              case atStart => exact ⟨0, rfl, Nat.zero_le _, HS3.out⟩
              case round =>
                obtain ⟨k, rfl, hk, hst⟩ := hrel
                by_cases hlt : k < ls.length
                · by_cases h50 : k < 50
                  · obtain ⟨l, hl⟩ : ∃ x, ls[k]? = some x := ⟨_, List.getElem?_eq_getElem hlt⟩
                    obtain ⟨d, A, hfirm, hsh, hM, hB6, hB12, hu, hv⟩ := hst.out
                    obtain ⟨rb, ro, ja, jn, jc, rfl, hcell, hji⟩ := HT.out k l hl
                    have hcw := (hM.bel.cell (World.block_lt_of_cell? w _ hcell)).trans hcell
                    obtain ⟨hfirm2, hsh2⟩ := hfirm.again hM.hd.ok l
                    rw [hsh] at hsh2
                    have hcr : dcrash d l = dfail d l := by unfold dcrash; rw [if_neg (by rw [hfirm.calm.1]; simp)]
                    have HC := Lib.hid (Crash_m hM _ l hcr (by omega) (hji.below hM.bel) (fun j hj => ⟨Nat.lt_of_lt_of_le (hji.uses j hj) hM.bel.size, fun hm => by have h1 := hM.base j hm; have h2 := hji.uses j hj; omega⟩))
                    have HFI2 := Lib.hid hfirm2
                    have HSH3 := Lib.hid hsh2
                    have HB6 := Lib.hid hB6
                    have HB12 := Lib.hid hB12
                    have HU := Lib.hid hu
                    have HV := Lib.hid hv
                    have ik0 : (0 : Int) ≤ (k : Int) := by omega
                    have ik1 : (k : Int) < (ls.length : Int) := by omega
                    clear hl hfirm hsh hM hB6 hB12 hu hv hcell hji hfirm2 hsh2 hcr hst
                    go_wp2_with (fail)
                    refine HC.out.mono ?_
                    rintro e w6 ⟨rfl, ⟨A6, h6⟩, hk6⟩
                    have hB66 := HB6.out.same (hk6 _ (by simp))
                    have hB126 := HB12.out.same (hk6 _ (by simp))
                    have hU6 := HU.out.same (fun j hj => hk6 j (by simp [hj]))
                    have hV6 := HV.out.same (fun j hj => hk6 j (by simp [hj]))
                    have HR := Lib.hid (Revive_m h6 rfl)
                    have HB66 := Lib.hid hB66
                    have HB126 := Lib.hid hB126
                    have HU6 := Lib.hid hU6
                    have HV6 := Lib.hid hV6
                    clear h6 hk6 hB66 hB126 hU6 hV6
                    go_wp2_with (fail)
                    refine HR.out.mono ?_
                    rintro e w7 ⟨rfl, ⟨A7, h7⟩, hk7⟩
                    have hB67 := HB66.out.same (hk7 _ (by simp))
                    have hB127 := HB126.out.same (hk7 _ (by simp))
                    have hU7 := HU6.out.same (fun j hj => hk7 j (by simp [hj]))
                    have hV7 := HV6.out.same (fun j hj => hk7 j (by simp [hj]))
                    have HSHN7 := Lib.hid (shown_any w7 A7 g _ _ h7.hd (by omega))
                    have H7 := Lib.hid h7
                    have HB67 := Lib.hid hB67
                    have HB127 := Lib.hid hB127
                    have HU7 := Lib.hid hU7
                    have HV7 := Lib.hid hV7
                    clear h7 hk7 hB67 hB127 hU7 hV7
                    go_wp2_with (fail)
                    refine HSHN7.out.mono ?_
                    rintro e w8 ⟨u8, v8, rfl, hr, -, -, hb8⟩
                    obtain ⟨hu, hv⟩ := hr HFI2.out.calm.1
                    rw [HSH3.out] at hu hv
                    rw [HFI2.out.calm.1, Bool.not_false]
                    obtain ⟨ua8, uc8, rfl, -⟩ := hu.shape
                    obtain ⟨va8, vc8, rfl, -⟩ := hv.shape
                    simp only [List.length_map] at hu hv
                    have hbb : Below w7.heap.size w7 (w8.alloc (.cells #[.slice ua8 ns.length uc8, .slice va8 ds.length vc8] 43)) := hb8.alloc hb8.size _
                    have hbs : Below w8.heap.size w8 (w8.alloc (.cells #[.slice ua8 ns.length uc8, .slice va8 ds.length vc8] 43)) := (Below.refl _ _).alloc (Nat.le_refl _) _
                    have hM9 := H7.out.below hbb
                    have hB69 := HB67.out.below hbb HB67.out.lt
                    have hB129 := HB127.out.below hbb HB127.out.lt
                    have hU9 := HU7.out.below hbb
                    have hV9 := HV7.out.below hbb
                    have p0 := hB129.cell 0
                    have p1 := hB129.cell 1
                    simp only [List.getElem?_cons_zero, List.getElem?_cons_succ] at p0 p1
                    have hdl : ds.length < 4294967296 := by have := HM0.out; omega
                    have hsa := same_any _ _ _ _ _ ns ds ns ds (hu.below hbs) (hv.below hbs) hU9 hV9 (by omega) hdl (by omega) hdl
                    rw [show decide ((ns, ds) = (ns, ds)) = true from by simp] at hsa
                    have HSA := Lib.hid hsa
                    have hS9 : Sf3 w (w8.alloc (.cells #[.slice ua8 ns.length uc8, .slice va8 ds.length vc8] 43)) b6 w5.heap.size (.slice ka kn kc) g (.slice ua ns.length uc) (.slice va ds.length vc) ns ds (ss1.length + ns.length + 1) := ⟨_, A7, HFI2.out, HSH3.out, hM9, hB69, hB129, hU9, hV9⟩
                    have HS9 := Lib.hid hS9
                    clear hr hu hv hb8 hbb hbs hM9 hB69 hB129 hU9 hV9 hsa hS9
                    go_wp2_with (fail)
                    refine HSA.out.mono ?_
                    rintro e wE ⟨rfl, hbE⟩
                    have hSE := HS9.out.below hbE
                    have HSE := Lib.hid hSE
                    clear hbE hSE p0 p1 hcw
                    go_wp2
                    go_roundw
                    case rel => exact ⟨k + 1, by go_num, by omega, HSE.out⟩
                    case measure => simp [intOf]; omega
                  · go_wp2_with (fail)
                    go_meet
                    exact hst
                · go_wp2_with (fail)
                  go_meet
                  exact hst
            case rest =>
              obtain ⟨d6, A6, hfirm6, hsh6, hM6, hB66, hB126, hu6, hv6⟩ := hcut.out
              have p0 := hB126.cell 0
              simp only [List.getElem?_cons_zero] at p0
              have hmk := fun W => make_bools W ns.length hnb
              have hMk := hM6.add ((Below.refl _ wc).alloc (Nat.le_refl _) (.cells (boolRow ns.length) 4)) [wc.heap.size] (fun k hk => by simp at hk; subst hk; simp)
              have hbk : Below wc.heap.size wc (wc.alloc (.cells (boolRow ns.length) 4)) := (Below.refl _ wc).alloc (Nat.le_refl _) _
              have hfar := hM6.far
              have hS4 : Sf4 w (wc.alloc (.cells (boolRow ns.length) 4)) [] b6 w5.heap.size wc.heap.size (.slice ka kn kc) g (.slice ua ns.length uc) (.slice va ds.length vc) ns ds d6 (ss1.length + ns.length + 1 + 0) (List.replicate ns.length false) :=
                ⟨A6, hMk, hB66.below hbk hB66.lt, hB126.below hbk hB126.lt, hu6.below hbk, hv6.below hbk, Blk.new _ _ _, fun e => by have := hB66.lt; omega, fun e => by have := hB126.lt; omega, fun e => by have := (hfar wc.heap.size (by simp [e])).1; omega, fun e => by have := (hfar wc.heap.size (by simp [e])).1; omega, hM6.bel.size⟩
              have hP4 : Calm d6 ∧ Untouched d6 ns ds (List.replicate ns.length false) ∧ (List.replicate ns.length false).length = ns.length := ⟨hfirm6.calm, hfirm6.untouched hM6.hd.ok hsh6 _, List.length_replicate⟩
              have HS4 := Lib.hid hS4
              have HP4 := Lib.hid hP4
              clear hfirm6 hsh6 hM6 hB66 hB126 hu6 hv6 hMk hbk hfar hS4 hP4 hcut HS3
              go_wp2_with (fail)
              clear p0 hmk
              go_loopw [18] (fun iv wr => ∃ k d T, iv = .int .i64 (k : Nat) ∧ k ≤ ss2.length ∧ Hid (Sf4 w wr [] b6 w5.heap.size wc.heap.size (.slice ka kn kc) g (.slice ua ns.length uc) (.slice va ds.length vc) ns ds d (ss1.length + ns.length + 1 + k) T) ∧ Hid (Calm d ∧ Untouched d ns ds T ∧ T.length = ns.length)) (fun iv _ => ss2.length - (intOf iv).toNat)
              case atStart => exact ⟨0, d6, List.replicate ns.length false, rfl, Nat.zero_le _, HS4.out, HP4.out⟩
              case round =>
                obtain ⟨k, d, T, rfl, hk, hst, hpu⟩ := hrel
                by_cases hlt : k < ss2.length
                · obtain ⟨st, hsk⟩ : ∃ x, ss2[k]? = some x := ⟨_, List.getElem?_eq_getElem hlt⟩
                  obtain ⟨hcalm, hunt, hTl⟩ := hpu.out
                  have hst0 := hst.out
                  obtain ⟨A, hM, -⟩ := hst.out
                  obtain ⟨sb, so, ma, mn, mc, rfl, c0, c1, c2, c3, c4, c5⟩ := HS.out.step hM.bel hsk
                  have hOk := O2.out st (List.mem_of_getElem? hsk)
                  have hb := Blk.new wr [.int .i64 st.do_, .int .i64 st.who, strV st.name, strV st.data, .int .i64 st.n, .slice ma mn mc] 36
                  have y0 := hb.cell 0
                  have y1 := hb.cell 1
                  have y2 := hb.cell 2
                  have y3 := hb.cell 3
                  have y4 := hb.cell 4
                  have y5 := hb.cell 5
                  simp only [List.getElem?_cons_zero, List.getElem?_cons_succ] at y0 y1 y2 y3 y4 y5
                  have hS6 := hst0.add (.cells #[.int .i64 st.do_, .int .i64 st.who, strV st.name, strV st.data, .int .i64 st.n, .slice ma mn mc] 36)
                  have hdok := hM.hd.ok
                  have hbt : wc.heap.size < wr.heap.size := by
                    obtain ⟨_, _, _, _, _, _, hT, _⟩ := hst0
                    exact hT.lt
                  by_cases hdo : st.do_ = 6
                  · have hS7 := hS6.less.mono (N' := ss1.length + ns.length + 1 + (k + 1)) (by omega)
                    have HS7 := Lib.hid hS7
                    have hq : (st.do_ == 6) = true := by simp [hdo]
                    clear hdo hsk hcalm hunt hTl hst0 hM hOk hb hS6 hdok hS7
                    go_wp2
                    go_roundw
                    case rel => exact ⟨k + 1, d, T, by go_num, by omega, HS7.out, hpu.out⟩
                    case measure => simp [intOf]; omega
                  · have hq : (st.do_ == 6) = false := by simp [hdo]
                    clear hdo
                    obtain ⟨A6', hM6', -⟩ := hS6
                    have HC := Lib.hid (change_m2 hM6' st ma mn mc (by omega) (by have := hOk.1; omega) (by have := hOk.2.1; omega))
                    have hS6 := hst0.add (.cells #[.int .i64 st.do_, .int .i64 st.who, strV st.name, strV st.data, .int .i64 st.n, .slice ma mn mc] 36)
                    have HS6 := Lib.hid hS6
                    have HBS := Lib.hid hb
                    have HDK := Lib.hid hdok
                    have HCA := Lib.hid hcalm
                    have HUN := Lib.hid hunt
                    have HTL := Lib.hid hTl
                    clear hsk hcalm hunt hTl hst0 hM hOk hb hS6 hdok hM6' hst hpu
                    go_wp2_with (fail)
                    refine HC.out.mono ?_
                    rintro e w7 ⟨rfl, ht7, -⟩
                    have hS7 := HS6.out.op ht7
                    have hbs := HBS.out.same (ht7.2 wr.heap.size (by unfold K4; simp))
                    have hc7 := HCA.out.do (odOf st)
                    have hfree := fun h => HUN.out.free (s := st) HDK.out HCA.out h
                    have y0 := hbs.cell 0
                    have y2 := hbs.cell 2
                    have y3 := hbs.cell 3
                    simp only [List.getElem?_cons_zero, List.getElem?_cons_succ] at y0 y2 y3
                    by_cases hz : (ddo d (odOf st)).2 = 0
                    · rw [hz, errV_none]
                      by_cases h23 : st.do_ = 2 ∨ st.do_ = 3
                      · have hP : Calm (ddo d (odOf st)).1 ∧ Untouched (ddo d (odOf st)).1 ns ds T ∧ T.length = ns.length := ⟨hc7, hfree (Or.inr h23), HTL.out⟩
                        have HP := Lib.hid hP
                        have HS8 := Lib.hid hS7.less
                        clear ht7 hS7 hbs hc7 hfree hP hz
                        rcases h23 with hq2 | hq3
                        · have hq2 : (st.do_ == 2) = true := by simp [hq2]
                          go_wp2
                          go_roundw
                          case rel => exact ⟨k + 1, _, T, by go_num, by omega, HS8.out, HP.out⟩
                          case measure => simp [intOf]; omega
                        · have hq2 : (st.do_ == 2) = false := by simp [hq3]
                          have hq3 : (st.do_ == 3) = true := by simp [hq3]
                          go_wp2
                          go_roundw
                          case rel => exact ⟨k + 1, _, T, by go_num, by omega, HS8.out, HP.out⟩
                          case measure => simp [intOf]; omega
                      · have hq2 : (st.do_ == 2) = false := by simp; omega
                        have hq3 : (st.do_ == 3) = false := by simp; omega
                        have hdone := fun T' (h : Marks st ns T T' ns.length) => h.done HUN.out HDK.out HCA.out (fun e => h23 (Or.inl e)) (fun e => h23 (Or.inr e))
                        have HDN := Lib.hid hdone
                        have HS7 := Lib.hid hS7
                        have HBS7 := Lib.hid hbs
                        have HC7 := Lib.hid hc7
                        obtain ⟨bs, ebs⟩ : ∃ bs, bs = wr.heap.size := ⟨_, rfl⟩
                        rw [← ebs] at HS7 HBS7 y0 y2 y3 ⊢
                        have hbsne : bs ≠ wc.heap.size := by omega
                        clear ht7 hS7 hbs hc7 hfree hz h23 hdone HC HS6 HBS ebs c0 c1 c2 c3 c4 c5
                        generalize (ddo d (odOf st)).1 = d4 at *
                        clear y2 y3
                        have hst5 := HS7.out
                        obtain ⟨A5, hM5, hB65, hB125, hu5, hv5, hT5, hne5⟩ := hst5
                        have p0 := hB125.cell 0
                        simp only [List.getElem?_cons_zero] at p0
                        have hst7 := HS7.out
                        have hTl7 := HTL.out
                        have HMS := Lib.hid (Marks.start st hTl7)
                        clear hM5 hB65 hB125 hu5 hv5 hT5 hne5 hst7 hTl7 p0
                        go_wp2_with (fail)
                        clear y0
                        go_loopw [20] (fun iv wr => ∃ j T', iv = .int .i64 (j : Nat) ∧ j ≤ ns.length ∧ Hid (Sf4 w wr [bs] b6 w5.heap.size wc.heap.size (.slice ka kn kc) g (.slice ua ns.length uc) (.slice va ds.length vc) ns ds d4 (ss1.length + ns.length + 1 + k + 1) T') ∧ Hid (Marks st ns T T' j) ∧ Hid (Blk wr bs [.int .i64 st.do_, .int .i64 st.who, strV st.name, strV st.data, .int .i64 st.n, .slice ma mn mc] 36)) (fun iv _ => ns.length - (intOf iv).toNat)
                        case atStart => exact ⟨0, T, rfl, Nat.zero_le _, HS7.out, HMS.out, HBS7.out⟩
                        case round =>
                          obtain ⟨j, T', rfl, hj, hst5, hms5, hbs5⟩ := hrel
                          have hst6 := hst5.out
                          obtain ⟨A5, hM5, hB65, hB125, hu5, hv5, hT5, hne5⟩ := hst6
                          have p0 := hB125.cell 0
                          simp only [List.getElem?_cons_zero] at p0
                          by_cases hjl : j < ns.length
                          · obtain ⟨n, hn⟩ : ∃ n, ns[j]? = some n := ⟨_, List.getElem?_eq_getElem hjl⟩
                            obtain ⟨tm, htm⟩ : ∃ x, T'[j]? = some x := ⟨_, List.getElem?_eq_getElem (by rw [hms5.out.len]; exact hjl)⟩
                            obtain ⟨_, _, hwe, hrx⟩ := hu5.shape
                            obtain ⟨rb, ro, rfl, hcr, -⟩ := hrx j (strV n) (by rw [List.getElem?_map, hn]; rfl)
                            simp only [Value.slice.injEq] at hwe
                            obtain ⟨rfl, -, rfl⟩ := hwe
                            have hct := hT5.cell j
                            rw [List.getElem?_map, htm] at hct
                            simp only [Option.map_some] at hct
                            have hfr := hT5.free j
                            have y0 := hbs5.out.cell 0
                            have y2 := hbs5.out.cell 2
                            have y3 := hbs5.out.cell 3
                            simp only [List.getElem?_cons_zero, List.getElem?_cons_succ] at y0 y2 y3
                            have ik0 : (0 : Int) ≤ (j : Int) := by omega
                            have ik1 : (j : Int) < (ns.length : Int) := by omega
                            have HN := Lib.hid hn
                            have HTM := Lib.hid htm
                            have hnm : ((str n).toList == (str st.name).toList) = decide (n = st.name) := by rw [toList_str, toList_str]; by_cases e : n = st.name <;> simp [e]
                            have hnd : ((str n).toList == (str st.data).toList) = decide (n = st.data) := by rw [toList_str, toList_str]; by_cases e : n = st.data <;> simp [e]
                            clear hM5 hB65 hB125 hu5 hv5 hT5 hne5 hrx hn htm
                            rcases mark_cases st n tm with (rfl | ⟨rfl, h1⟩ | ⟨rfl, h1, h4, h2⟩) | ⟨rfl, h1, h4, hh⟩ | ⟨rfl, h1, h4, h2, hh⟩
                            · as_aux_lemma =>
                                clear hnm hnd
                                have hms6 := hms5.out.step (b := true) HN.out HTM.out (fun e => by cases e)
                                have HMS6 := Lib.hid hms6
                                clear hms6
                                go_wp2_with (fail)
                                go_region
                                have hS6 := (hst5.out.mark j true).drewN 1
                                have hB6 : Blk ((wr.setCell ⟨wc.heap.size, j, none⟩ (.bool true)).drewN 1) bs _ 36 := hbs5.out.same (heap_setCell_other _ _ _ _ hbsne)
                                have HS6 := Lib.hid hS6
                                have HB6 := Lib.hid hB6
                                clear hS6 hB6 hct hfr y0 y2 y3 hcr p0
                                go_wp2
                                go_roundw
                                case rel => exact ⟨j + 1, _, by go_num, by omega, HS6.out, HMS6.out, HB6.out⟩
                                case measure => simp [intOf]; omega
                            · as_aux_lemma =>
                                rw [decide_eq_true h1] at hnm
                                clear hnd h1
                                have hms6 := hms5.out.step (b := true) HN.out HTM.out (fun e => by cases e)
                                have HMS6 := Lib.hid hms6
                                clear hms6
                                go_wp2_with (fail)
                                go_region
                                have hS6 := (hst5.out.mark j true).drewN 1
                                have hB6 : Blk ((wr.setCell ⟨wc.heap.size, j, none⟩ (.bool true)).drewN 1) bs _ 36 := hbs5.out.same (heap_setCell_other _ _ _ _ hbsne)
                                have HS6 := Lib.hid hS6
                                have HB6 := Lib.hid hB6
                                clear hS6 hB6 hct hfr y0 y2 y3 hcr p0
                                go_wp2
                                go_roundw
                                case rel => exact ⟨j + 1, _, by go_num, by omega, HS6.out, HMS6.out, HB6.out⟩
                                case measure => simp [intOf]; omega
                            · as_aux_lemma =>
                                have hq4 : (st.do_ == 4) = true := by simpa using h4
                                rw [decide_eq_false h1] at hnm
                                rw [decide_eq_true h2] at hnd
                                clear h1 h2 h4
                                have hms6 := hms5.out.step (b := true) HN.out HTM.out (fun e => by cases e)
                                have HMS6 := Lib.hid hms6
                                clear hms6
                                go_wp2_with (fail)
                                go_region
                                have hS6 := (hst5.out.mark j true).drewN 1
                                have hB6 : Blk ((wr.setCell ⟨wc.heap.size, j, none⟩ (.bool true)).drewN 1) bs _ 36 := hbs5.out.same (heap_setCell_other _ _ _ _ hbsne)
                                have HS6 := Lib.hid hS6
                                have HB6 := Lib.hid hB6
                                clear hS6 hB6 hct hfr y0 y2 y3 hcr p0
                                go_wp2
                                go_roundw
                                case rel => exact ⟨j + 1, _, by go_num, by omega, HS6.out, HMS6.out, HB6.out⟩
                                case measure => simp [intOf]; omega
                            · as_aux_lemma =>
                                have hq4 : (st.do_ == 4) = false := by simpa using h4
                                rw [decide_eq_false h1] at hnm
                                have HH := Lib.hid hh
                                clear h1 h4 hh hnd
                                have hms6 := hms5.out.step (b := false) HN.out HTM.out (fun _ => ⟨rfl, HH.out⟩)
                                have HMS6 := Lib.hid hms6
                                clear hms6
                                go_wp2_with (fail)
                                go_region
                                have hS6 := (hst5.out.mark j false).drewN 1
                                have hB6 : Blk ((wr.setCell ⟨wc.heap.size, j, none⟩ (.bool false)).drewN 1) bs _ 36 := hbs5.out.same (heap_setCell_other _ _ _ _ hbsne)
                                have HS6 := Lib.hid hS6
                                have HB6 := Lib.hid hB6
                                clear hS6 hB6 hct hfr y0 y2 y3 hcr p0
                                go_wp2
                                go_roundw
                                case rel => exact ⟨j + 1, _, by go_num, by omega, HS6.out, HMS6.out, HB6.out⟩
                                case measure => simp [intOf]; omega
                            · as_aux_lemma =>
                                have hq4 : (st.do_ == 4) = true := by simpa using h4
                                rw [decide_eq_false h1] at hnm
                                rw [decide_eq_false h2] at hnd
                                have HH := Lib.hid hh
                                clear h1 h2 h4 hh
                                have hms6 := hms5.out.step (b := false) HN.out HTM.out (fun _ => ⟨rfl, HH.out⟩)
                                have HMS6 := Lib.hid hms6
                                clear hms6
                                go_wp2_with (fail)
                                go_region
                                have hS6 := (hst5.out.mark j false).drewN 1
                                have hB6 : Blk ((wr.setCell ⟨wc.heap.size, j, none⟩ (.bool false)).drewN 1) bs _ 36 := hbs5.out.same (heap_setCell_other _ _ _ _ hbsne)
                                have HS6 := Lib.hid hS6
                                have HB6 := Lib.hid hB6
                                clear hS6 hB6 hct hfr y0 y2 y3 hcr p0
                                go_wp2
                                go_roundw
                                case rel => exact ⟨j + 1, _, by go_num, by omega, HS6.out, HMS6.out, HB6.out⟩
                                case measure => simp [intOf]; omega
                          · obtain rfl : j = ns.length := by omega
                            have hP : Calm d4 ∧ Untouched d4 ns ds T' ∧ T'.length = ns.length := ⟨HC7.out, HDN.out T' hms5.out, hms5.out.len⟩
                            have HP := Lib.hid hP
                            have HS8 := Lib.hid (hst5.out.less.mono (N' := ss1.length + ns.length + 1 + (k + 1)) (by omega))
                            obtain ⟨ua', uc', hue, -⟩ := hu5.shape
                            clear hM5 hB65 hB125 hu5 hv5 hT5 hne5 hP hue
                            go_wp2
                            go_roundw
                            case rel => exact ⟨k + 1, d4, T', by go_num, by omega, HS8.out, HP.out⟩
                            case measure => simp [intOf]; omega
                    · rw [errV_some hz]
                      have hP : Calm (ddo d (odOf st)).1 ∧ Untouched (ddo d (odOf st)).1 ns ds T ∧ T.length = ns.length := ⟨hc7, hfree (Or.inl hz), HTL.out⟩
                      have HP := Lib.hid hP
                      have HS8 := Lib.hid hS7.less
                      clear ht7 hS7 hbs hc7 hfree hP hz
                      go_wp2
                      go_roundw
                      case rel => exact ⟨k + 1, _, T, by go_num, by omega, HS8.out, HP.out⟩
                      case measure => simp [intOf]; omega
                · obtain rfl : k = ss2.length := by omega
                  obtain ⟨hcalm, hunt, hTl⟩ := hpu.out
                  have hst0 := hst.out
                  obtain ⟨A, hM, hB6, hB12, hu, hv, hT, hne⟩ := hst.out
                  have q0 := hB6.cell 0
                  simp only [List.getElem?_cons_zero] at q0
                  have hcr : dcrash d l1 = dfail d l1 := by unfold dcrash; rw [if_neg (by rw [hcalm.1]; simp)]
                  have HC := Lib.hid (Crash_m hM _ l1 hcr (by omega) (HI1.out.below hM.bel) (fun j hj => ⟨Nat.lt_of_lt_of_le (HI1.out.uses j hj) hM.bel.size, fun hm => by have h1 := hM.base j hm; have h2 := HI1.out.uses j hj; omega⟩))
                  have hfin := fun {k : Nat} {n : Nm} {x : List UInt8} => hunt.fail hM.hd.ok l1 (k := k) (n := n) (x := x)
                  have HFIN : Hid (∀ (k : Nat) (n : Nm) (x : List UInt8), ns[k]? = some n → ds[k]? = some x → T[k]? = some false → ∃ s, dread (drevive (dfail d l1)) n = (s, 0) ∧ x <+: s) := fun k n x h1 h2 h3 => hfin h1 h2 h3
                  have HTL := Lib.hid hTl
                  have hnd : ds.length = ns.length := by have := HL0.out; have := HM0.out; omega
                  have HND := Lib.hid hnd
                  clear hcalm hunt hTl hst0 hM hB6 hB12 hu hv hT hne hcr hfin hpu hnd
                  go_wp2_with (fail)
                  refine HC.out.mono ?_
                  rintro e w6 ⟨rfl, ht6⟩
                  have hS6 := hst.out.op ht6
                  have HS6 := Lib.hid hS6
                  obtain ⟨A6, hM6, -⟩ := hS6
                  have HR := Lib.hid (Revive_m hM6 rfl)
                  clear ht6 hM6 q0
                  go_wp2_with (fail)
                  refine HR.out.mono ?_
                  rintro e w7 ⟨rfl, ht7⟩
                  have HS7 := Lib.hid (HS6.out.op ht7)
                  clear ht7
                  go_wp2_with (fail)
                  go_loopw [21] (fun iv wr => ∃ k, iv = .int .i64 (k : Nat) ∧ k ≤ ns.length ∧ Hid (Sf4 w wr [] b6 w5.heap.size wc.heap.size (.slice ka kn kc) g (.slice ua ns.length uc) (.slice va ds.length vc) ns ds (drevive (dfail d l1)) (ss1.length + ns.length + 1 + ss2.length) T)) (fun iv _ => ns.length - (intOf iv).toNat)
                  case atStart => exact ⟨0, rfl, Nat.zero_le _, HS7.out⟩
                  case round =>
                    obtain ⟨k, rfl, hk, hst7⟩ := hrel
                    obtain ⟨A7, hM7, hB67, hB127, hu7, hv7, hT7, hne7⟩ := hst7.out
                    have p0 := hB127.cell 0
                    have p1 := hB127.cell 1
                    simp only [List.getElem?_cons_zero, List.getElem?_cons_succ] at p0 p1
                    by_cases hlt7 : k < ns.length
                    · obtain ⟨n, hn⟩ : ∃ n, ns[k]? = some n := ⟨_, List.getElem?_eq_getElem hlt7⟩
                      obtain ⟨x, hx⟩ : ∃ x, ds[k]? = some x := ⟨_, List.getElem?_eq_getElem (by rw [HND.out]; exact hlt7)⟩
                      obtain ⟨tm, htm⟩ : ∃ t, T[k]? = some t := ⟨_, List.getElem?_eq_getElem (by rw [HTL.out]; exact hlt7)⟩
                      obtain ⟨_, _, hwe, hrx⟩ := hu7.shape
                      obtain ⟨rb, ro, rfl, hcr, -⟩ := hrx k (strV n) (by rw [List.getElem?_map, hn]; rfl)
                      simp only [Value.slice.injEq] at hwe
                      obtain ⟨rfl, -, rfl⟩ := hwe
                      obtain ⟨_, _, hwe, hrx⟩ := hv7.shape
                      obtain ⟨rb2, ro2, rfl, hcr2, -⟩ := hrx k (strV x) (by rw [List.getElem?_map, hx]; rfl)
                      simp only [Value.slice.injEq] at hwe
                      obtain ⟨rfl, -, rfl⟩ := hwe
                      have hct := hT7.cell k
                      rw [List.getElem?_map, htm] at hct
                      simp only [Option.map_some] at hct
                      have hnl : n.length ≤ 9223372036854775807 := HNL.out n (List.mem_of_getElem? hn)
                      have ik0 : (0 : Int) ≤ (k : Int) := by omega
                      have ik1 : (k : Int) < (ns.length : Int) := by omega
                      have ik2 : (k : Int) < (ds.length : Int) := by have := HND.out; omega
                      cases tm with
                      | true =>
                        obtain ⟨s, c, hsc⟩ : ∃ s c, dread (drevive (dfail d l1)) n = (s, c) := ⟨_, _, rfl⟩
                        have HC := Lib.hid (Read_m hM7 n hsc hnl)
                        clear hM7 hB67 hB127 hu7 hv7 hT7 hne7 hn hx htm hrx hsc hnl
                        go_wp2_with (fail)
                        refine HC.out.mono ?_
                        rintro e w8 ⟨rfl, rfl⟩
                        go_wp2_with (fail)
                        go_quiet (fail)
                        go_wp2
                        go_roundw
                        case rel => exact ⟨k + 1, by go_num, by omega, hst7.out.drewN _⟩
                        case measure => simp [intOf]; omega
                      | false =>
                        obtain ⟨s, hsc, hpre⟩ := HFIN.out k n x hn hx htm
                        have HC := Lib.hid (Read_m hM7 n hsc hnl)
                        have hs1 := str_size s
                        have hs2 := str_size x
                        have hle := hpre.length_le
                        have htk : s.take x.length = x := (List.prefix_iff_eq_take.1 hpre).symm
                        have hx1 : (str s).extract 0 x.length = str x := by rw [str_extract]; simp [htk]
                        clear hM7 hB67 hB127 hu7 hv7 hT7 hne7 hn hx htm hrx hsc hnl hpre htk
                        go_wp2_with (fail)
                        refine HC.out.mono ?_
                        rintro e w8 ⟨rfl, rfl⟩
                        rw [errV_none]
                        go_wp2_with (fail)
                        go_quiet (fail)
                        go_wp2
                        go_roundw
                        case rel => exact ⟨k + 1, by go_num, by omega, hst7.out.drewN _⟩
                        case measure => simp [intOf]; omega
                    · obtain ⟨ua', uc', hue, -⟩ := hu7.shape
                      have HB := Lib.hid hM7.bel
                      clear hM7 hB67 hB127 hu7 hv7 hT7 hne7 hue
                      go_wp2
                      go_ret
                      exact ⟨rfl, HB.out⟩
end Go.Proofs.YtfgpigblnkanpaaGreatDoor
