/- The walk of the statement JournalPlays. -/
import Derived.Test.YtfgpigblnkanpaaGreatDoorSf
import Derived.Test.YtfgpigblnkanpaaGreatDoorHU
import Derived.BigQuiet
import Derived.Deep.DeepCutAuto
import Derived.Deep.RegionWith
import Derived.Deep.CutBlock
import Derived.Lib.QuietBelow
namespace Go.Proofs.YtfgpigblnkanpaaGreatDoor
open Go.RowKit Go.Maps Go.Shelf
set_option linter.unusedVariables false
set_option linter.unusedSimpArgs false

theorem Fw.start {w w1 w2 : World} {A : List Nat} {g r : Nat} {d : Dk} {nm : Nm} (h : Mine w w1 [] A g d 0) (hb : Below w1.heap.size w1 w2) (hr : Rd2 w2 [r] r d 0) (hg : w1.heap.size ≤ r) :
    Fw w (w2.alloc (.cells #[strV nm, .pointer (some ⟨g, 0, none⟩), .pointer none, .pointer (some ⟨r, 0, none⟩), .pointer none] 91)) w2.heap.size g r (.pointer none) (.pointer none) none none d d 0 nm := by
  have hb2 : Below w2.heap.size w2 (w2.alloc (.cells #[strV nm, .pointer (some ⟨g, 0, none⟩), .pointer none, .pointer (some ⟨r, 0, none⟩), .pointer none] 91)) := (Below.refl _ w2).alloc (Nat.le_refl _) _
  have hb3 := hb.trans (hb2.mono hb.size)
  have hrl := hr.lt r (by simp)
  have h3 := h.bel.size
  have h4 := hb.size
  refine ⟨⟨A, [r], ?_, hr.below hb2, fun k hk => by simp at hk; subst hk; omega, fun k hk => by simp at hk; subst hk; exact ⟨fun hm => by simp at hm; omega, by omega⟩⟩, Blk.new _ _ _⟩
  exact Mine.less (h.add hb3 [w2.heap.size, r] (fun k hk => by simp at hk; rcases hk with rfl | rfl <;> simp <;> omega)) (fun k hk => by simpa using hk)
/-- Ahead of the first opening. -/
def S0 (w0 w : World) (wb g r N : Nat) (nm : Nm) : Prop := ∃ d, Fw w0 w wb g r (.pointer none) (.pointer none) none none d d N nm
theorem Fw.alike {w0 w : World} {wb g r N : Nat} {jv qv : Value} {jo qo : Jo} {d : Dk} {nm : Nm} (h : Fw w0 w wb g r jv qv jo qo d d N nm) (hN : N ≤ 1073741824) (hg : ErrorLaid w0) {W : World} (hb : Below w.heap.size w W) :
    Calls Tryz.prog 54 #[.pointer (some ⟨g, 0, none⟩), .pointer (some ⟨r, 0, none⟩)] W fun e w' => e = .returned (.bool true) ∧ Below W.heap.size W w' := by
  obtain ⟨Ap, Aq, h1, h2, h3, h4⟩ := (h.below hb).py
  obtain ⟨Ar, hr, hra⟩ := h2.rd
  exact alike_any W Ap Ar g r d N h1.mine.hd hr hN (hg.below h1.bel)
theorem Fw.len {w0 w : World} {wb g r jb q n N : Nat} {c : Bool} {jv qv : Value} {d : Dk} {nm : Nm} (h : Fw w0 w wb g r jv qv (some (jb, n, c)) (some (q, n, c)) d d N nm) :
    (Calls Tryz.prog 56 #[.pointer (some ⟨jb, 0, none⟩)] w fun e w' => e = .returned (.int .i64 n) ∧ w = w') ∧ w.cell? ⟨q, 2, none⟩ = some (.int .i64 (n : Nat)) := by
  obtain ⟨Ap, Aq, h1, h2, h3, h4⟩ := h.py
  obtain ⟨A1, b1, b2, b3, b4, b5, b6⟩ := h2
  exact ⟨jLen_any h1, b2.cell 2⟩
/-- What is left of a region that only reads, or makes memory: one walk, in the order of the text. -/
theorem wpAny_quiet_from {P : Program} {md : Region.Mode} {l : List Oper} {C : World → Prop} {Q' : Exit → Act → World → Prop} {listed : Array Bool} {a : Act} {w : World} {fuel : Nat} (k : Nat) (hs : Region.noSelect l.toArray = true) (hB : Region.lexFrom md l.toArray (l.drop k).length k listed = true) (hC : C w) (hf : fuel = (l.drop k).length)
    (h : wpQuiet P l.toArray C (fun a' => ∀ w', C w' → Q' .normal a' w') (l.drop k) a) : wpAny P md l.toArray Q' fuel listed a w := by
  subst hf
  refine wpAny_of_quiet (Q := fun a' => ∀ w', C w' → Q' .normal a' w') (fun _ w' hw' h => h w' hw') _ _ _ _ hC (wpAnyQ_lex hs _ k listed a (fun j => ?_) hB h)
  simp [List.getElem?_drop]
theorem ActsAt.step0 {w wr : World} {a : Option Addr} {n cap : Nat} {ss : List Ac} (h : ActsAt w (.slice a n cap) ss) (hb : Below w.heap.size w wr) {k : Nat} {s : Ac} (hs : ss[k]? = some s) :
    ∃ b off ka kn kc, a = some ⟨b, off, none⟩ ∧ wr.cell? ⟨b, off + k * 4, none⟩ = some (.int .i64 s.kind) ∧ wr.cell? ⟨b, off + k * 4 + 1, none⟩ = some (strV s.text) ∧ wr.cell? ⟨b, off + k * 4 + 2, none⟩ = some (.int .i64 s.n) ∧ wr.cell? ⟨b, off + k * 4 + 3, none⟩ = some (.slice ka kn kc) ∧ IntsAt w (.slice ka kn kc) s.keep := by
  obtain ⟨a', cap', e, h2⟩ := h
  simp only [Value.slice.injEq] at e
  obtain ⟨rfl, _, _⟩ := e
  obtain ⟨b, off, ka, kn, kc, rfl, hc, hi⟩ := h2 k s hs
  have hcell : ∀ j x, (s.cells (.slice ka kn kc))[j]? = some x → wr.cell? ⟨b, off + k * 4 + j, none⟩ = some x := fun j x hj => by
    have := hc j x hj
    exact (hb.cell (World.block_lt_of_cell? w _ this)).trans this
  exact ⟨b, off, ka, kn, kc, rfl, hcell 0 _ rfl, hcell 1 _ rfl, hcell 2 _ rfl, hcell 3 _ rfl, hi⟩
theorem S0.mono {w0 w : World} {wb g r N N' : Nat} {nm : Nm} (h : S0 w0 w wb g r N nm) (hm : N ≤ N') : S0 w0 w wb g r N' nm := by
  obtain ⟨d, h1⟩ := h
  exact ⟨d, h1.mono hm⟩
section
variable {w0 w W : World} {wb g r N : Nat} {jv qv : Value} {jo qo : Jo} {nm : Nm}
theorem OpTo.cells (h : OpTo w0 w wb g r jv qv jo qo N nm) : w.cell? ⟨wb, 1, none⟩ = some (.pointer (some ⟨g, 0, none⟩)) ∧ w.cell? ⟨wb, 3, none⟩ = some (.pointer (some ⟨r, 0, none⟩)) ∧ wb < w.heap.size := by
  obtain ⟨d, h1 | ⟨jb, q, n, h2, h3, h4⟩⟩ := h
  · obtain ⟨c0, c1, c2, c3, c4, hl⟩ := h1.cells
    exact ⟨c1, c3, hl⟩
  · obtain ⟨c0, c1, c2, c3, c4, hl⟩ := h4.cells
    exact ⟨c1, c3, hl⟩
theorem OpTo.alike (h : OpTo w0 w wb g r jv qv jo qo N nm) (hN : N ≤ 1073741824) (hg : ErrorLaid w0) (hb : Below w.heap.size w W) : Calls Tryz.prog 54 #[.pointer (some ⟨g, 0, none⟩), .pointer (some ⟨r, 0, none⟩)] W fun e w' => e = .returned (.bool true) ∧ Below W.heap.size W w' := by
  obtain ⟨d, h1 | ⟨jb, q, n, h2, h3, h4⟩⟩ := h
  · exact h1.alike hN hg hb
  · exact h4.alike hN hg hb
theorem OpTo.below (h : OpTo w0 w wb g r jv qv jo qo N nm) (hb : Below w.heap.size w W) : OpTo w0 W wb g r jv qv jo qo N nm := by
  obtain ⟨d, h1 | ⟨jb, q, n, h2, h3, h4⟩⟩ := h
  · exact ⟨d, Or.inl (h1.below hb)⟩
  · exact ⟨d, Or.inr ⟨jb, q, n, h2, h3, h4.below hb⟩⟩
theorem S1.below (h : S1 w0 w wb g r N nm) (hb : Below w.heap.size w W) : S1 w0 W wb g r N nm := by
  obtain ⟨d, jb, q, n, c, h1, h2⟩ := h
  exact ⟨d, jb, q, n, c, h1, h2.below hb⟩
end
set_option maxHeartbeats 100000000 in
set_option maxRecDepth 100000 in
theorem JournalPlays_any (w : World) (room : Int) (nm : Nm) (v : Value) (cs : List Ac) (ha : ActsAt w v cs) (ho : ∀ a ∈ cs, AcOk a) (n1 : cs.length ≤ 1048576) (hnl : nm.length ≤ 4294967296) (hg : ErrorLaid w) :
    Calls Tryz.prog 10 #[.int .i64 room, strV nm, v] w fun e w' => e = .returned (.bool true) ∧ Below w.heap.size w w' := by
  obtain ⟨fa, fc, rfl⟩ := ha.len
  have HA := Lib.hid ha
  have HO := Lib.hid ho
  have HG := Lib.hid hg
  clear ha ho hg
  go_enter Tryz.func10, Tryz.ntmps10
  go_wp2_with (fail)
  refine (New_m w w (Below.refl _ _) [] (fun k hk => by cases hk) room).mono ?_
  rintro e w1 ⟨g, A1, rfl, h1, hb1⟩
  have H1 := Lib.hid h1
  clear h1 hb1
  go_wp2_with (fail)
  refine (rNew_rd w1 room).mono ?_
  rintro e w2 ⟨r, rfl, hr2, hrg, hb2⟩
  have hfw : S0 w (w2.alloc (.cells #[strV nm, .pointer (some ⟨g, 0, none⟩), .pointer none, .pointer (some ⟨r, 0, none⟩), .pointer none] 91)) w2.heap.size g r 0 nm := ⟨_, Fw.start (nm := nm) H1.out hb2 hr2 hrg⟩
  have HFW := Lib.hid hfw
  clear hfw hr2 hrg hb2 H1
  go_upto_region 2 with (fail)
  generalize hW3 : w2.alloc (.cells #[strV nm, .pointer (some ⟨g, 0, none⟩), .pointer none, .pointer (some ⟨r, 0, none⟩), .pointer none] 91) = W3 at *
  generalize w2.heap.size = wb at *
  clear hW3
  go_upto_block 0 with (fail)
  go_cut [] (fun wx => Hid (S0 w wx wb g r 12 nm))
  case first =>
    go_wp2_with (fail)
    go_loopw [8] (fun iv wr => ∃ k : Nat, iv = .int .i64 (k : Nat) ∧ k ≤ 3 ∧ Hid (S0 w wr wb g r (4 * k) nm)) (fun iv _ => 4 - (intOf iv).toNat)
    case atStart => exact ⟨0, rfl, by omega, HFW.out⟩
    case round =>
      clear HFW
      obtain ⟨k, rfl, hk, hst⟩ := hrel
      by_cases hk3 : k < 3
      · by_cases hlt : k < cs.length
        · obtain ⟨a, hak⟩ : ∃ x, cs[k]? = some x := ⟨_, List.getElem?_eq_getElem hlt⟩
          obtain ⟨d, hfw⟩ := hst.out
          obtain ⟨sb, so, ma, mn, mc, rfl, c0, c1, c2, c3, hi0⟩ := HA.out.step0 hfw.py.bel hak
          have hFi := files_any hfw a ma mn mc hi0 (HO.out a (List.mem_of_getElem? hak)) (by omega) hnl HG.out
          have hPk := Pick_any a.kind 9 wr (by omega) (by omega)
          obtain ⟨m, hm⟩ : ∃ m : Int, a.kind % ((9 : Nat) : Int) = m := ⟨_, rfl⟩
          rw [hm] at hPk
          have ik0 : (k : Int) < (cs.length : Int) := by omega
          have ik1 : (k : Int) < 3 := by omega
          have ik2 : (0 : Int) ≤ (k : Int) := by omega
          have HFI := Lib.hid hFi
          have HPK := Lib.hid hPk
          have HST := Lib.hid hst.out
          clear hfw hst hi0 hFi hPk hm hlt hk3 hak
          obtain ⟨kd, tx, an, keep⟩ := a
          simp only at c0 c1 c2 HFI
          go_wp2_with (fail)
          refine HPK.out.mono ?_
          rintro e W2 ⟨rfl, rfl⟩
          clear HPK
          by_cases h7 : (7 : Int) ≤ m
          · go_wp2_with (fail)
            refine HFI.out.mono ?_
            rintro e w4 ⟨rfl, h4⟩
            have h5 : S0 w w4 wb g r (4 * (k + 1)) nm := ⟨_, h4.mono (by omega)⟩
            have H5 := Lib.hid h5
            clear h4 h5 HFI HST
            go_wp2
            go_roundw
            case rel => exact ⟨k + 1, by go_num, by omega, H5.out⟩
            case measure => simp [intOf]; omega
          · have H5 := Lib.hid (HST.out.mono (show 4 * k ≤ 12 by omega))
            clear HFI HST
            go_wp2_with (fail)
            go_meet
            exact H5.out
        · have ik0 : ¬ (k : Int) < (cs.length : Int) := by omega
          have ik1 : (k : Int) < 3 := by omega
          have H5 := Lib.hid (hst.out.mono (show 4 * k ≤ 12 by omega))
          clear hst
          go_wp2_with (fail)
          go_meet
          exact H5.out
      · have ik1 : ¬ (k : Int) < 3 := by omega
        have H5 := Lib.hid (hst.out.mono (show 4 * k ≤ 12 by omega))
        clear hst
        go_wp2_with (fail)
        go_meet
        exact H5.out
  case rest =>
    clear HFW
    have hst := hcut.out
    clear hcut
    generalize wc = W4 at *
    obtain ⟨d, hfw⟩ := hst
    have HOP := Lib.hid fun W (hb : Below W4.heap.size W4 W) => open_any (hfw.below hb) (by omega) hnl HG.out
    clear hfw
    go_upto_region 7 with (fail)
    go_cut [57] (fun s57 wx => s57 = .bool false ∧ Hid (OpTo w wx wb g r (.pointer none) (.pointer none) none none 32 nm))
    case first =>
      go_region_with (first
        | (go_at_call 53; refine (HOP.out _ (Below.refl _ _).drew).mono ?_; rintro e w5 ⟨rfl, h5⟩; obtain ⟨c1, c3, hlw⟩ := h5.cells; have H5 := Lib.hid h5; clear h5)
        | (go_at_call 54; refine (H5.out.alike (by omega) HG.out (Below.refl _ _)).mono ?_; rintro e w6 ⟨rfl, hb6⟩; have H6 := Lib.hid (H5.out.below hb6); clear hb6))
      all_goals
        go_wp2_with (fail)
        go_meet
        exact ⟨rfl, H6.out⟩
    case rest =>
      obtain ⟨rfl, hop⟩ := hcut
      generalize wc = W5 at *
      clear HOP
      obtain ⟨d5, hop5⟩ := hop.out
      clear hop
      rcases hop5 with h5 | ⟨jb, q, n, hn, hl, h5⟩
      · obtain ⟨c0, c1, c2, c3, c4, hlw⟩ := h5.cells
        have HB5 := Lib.hid h5.py.bel
        clear h5
        go_wp2_with (fail)
        refine (works23_any _).mono ?_
        rintro e w8 ⟨rfl, hb8⟩
        have HB8 := Lib.hid (HB5.out.trans (hb8.mono HB5.out.size))
        clear hb8 HB5
        go_wp2
        go_ret
        exact ⟨rfl, HB8.out⟩
      · have hs5 : S1 w W5 wb g r 40 nm := ⟨d5, jb, q, n, false, by omega, h5.mono (by omega)⟩
        obtain ⟨c0, c1, c2, c3, c4, hlw⟩ := h5.cells
        have HS5 := Lib.hid hs5
        clear h5 hs5 hn
        go_wp2_with (fail)
        clear c0 c1 c2 c3 c4 hlw
        go_loopw [9] (fun iv wr => ∃ k : Nat, iv = .int .i64 (k : Nat) ∧ k ≤ cs.length ∧ k ≤ 120 ∧ Hid (S1 w wr wb g r (40 + 20 * k) nm)) (fun iv _ => 121 - (intOf iv).toNat)
        case atStart => exact ⟨0, rfl, Nat.zero_le _, by omega, HS5.out⟩
        case round =>
          clear HS5
          obtain ⟨k, rfl, hk, hk2, hst⟩ := hrel
          by_cases hlt : k < cs.length ∧ k < 120
          · obtain ⟨a, hak⟩ : ∃ x, cs[k]? = some x := ⟨_, List.getElem?_eq_getElem hlt.1⟩
            obtain ⟨d, jb, q, n, c, hn, hfw⟩ := hst.out
            obtain ⟨sb, so, ma, mn, mc, rfl, c0, c1, c2, c3, hi0⟩ := HA.out.step0 hfw.py.bel hak
            have hDo := fun W (hb : Below wr.heap.size wr W) => do_any (hfw.below hb) hn a ma mn mc hi0 (HO.out a (List.mem_of_getElem? hak)) (by omega) hl.2 HG.out
            have ik0 : (k : Int) < (cs.length : Int) := by omega
            have ik1 : (k : Int) < 120 := by omega
            have ik2 : (0 : Int) ≤ (k : Int) := by omega
            have HKN : Hid (40 + 20 * k + 20 ≤ 1073741824) := by show _ ≤ _; omega
            have HKK : Hid (k + 1 ≤ cs.length ∧ k + 1 ≤ 120) := by show _ ∧ _; omega
            have HDO := Lib.hid hDo
            clear hfw hst hi0 hDo hlt hk hk2 hak hn
            obtain ⟨NN, hNN⟩ : ∃ x, x = 40 + 20 * k + 20 := ⟨_, rfl⟩
            rw [← hNN] at HDO HKN
            have HNN := Lib.hid hNN
            clear hNN n1 hnl hl
            obtain ⟨kd, tx, an, keep⟩ := a
            simp only at c0 c1 c2 HDO
            go_upto_region 14 with (fail)
            go_cut [107] from 64 to 107 (fun s107 wx => s107 = .bool false ∧ Hid (S1 w wx wb g r NN nm))
            case first =>
              refine wp_region_any (by kernel_rfl) ?_
              change wpAny _ _ _ _ _ _ _ (World.drew _)
              refine wpAny_take (i := 0) (v := ?v0) rfl (by kernel_rfl) (by kernel_rfl) (by kernel_rfl) (fun _ _ _ h => h) (Or.inl ⟨by rfl, ?hy0⟩) ?rest0
              case hy0 => (intro w; go_simp; try with_reducible rfl)
              refine wpAny_take (i := 1) (v := ?v1) rfl (by kernel_rfl) (by kernel_rfl) (by kernel_rfl) (fun _ _ _ h => h) (Or.inl ⟨by rfl, ?hy1⟩) ?rest1
              case hy1 => (intro w; go_simp; try with_reducible rfl)
              refine wpAny_take (i := 2) (v := ?v2) rfl (by kernel_rfl) (by kernel_rfl) (by kernel_rfl) (fun _ _ _ h => h) (Or.inl ⟨by rfl, ?hy2⟩) ?rest2
              case hy2 => (intro w; go_simp; try with_reducible rfl)
              refine wpAny_take (i := 3) (v := ?v3) rfl (by kernel_rfl) (by kernel_rfl) (by kernel_rfl) (fun _ _ _ h => h) (Or.inl ⟨by rfl, ?hy3⟩) ?rest3
              case hy3 => (intro w; go_simp; try with_reducible rfl)
              refine wpAny_ready (rs := [4]) (by kernel_rfl) (by simp) ?_
              refine AllReady.cons rfl (fun K hK => ?_) AllReady.nil
              go_simp
              refine hK _ _ ?_
              clear hK K
              refine wpAny_ready (rs := [5]) (by kernel_rfl) (by simp) ?_
              refine AllReady.cons rfl (fun K hK => ?_) AllReady.nil
              go_simp
              go_wp2_with (go_at_call 55; refine (HDO.out _ (Below.refl _ _).drew).mono ?_; rintro e w5 ⟨rfl, d5, jb5, q5, n5, cl5, hn5, h5⟩; obtain ⟨z0, z1, z2, z3, z4, hlw⟩ := h5.cells; have H5 := Lib.hid h5; have HN5 := Lib.hid hn5; clear h5 hn5)
              have k1 := cell_regrown z1
              have k2 := cell_regrown z2
              have k3 := cell_regrown z3
              have k4 := cell_regrown z4
              have kq := cell_regrown H5.out.len.2
              have cA : ∀ d os, Calls Tryz.prog 54 #[.pointer (some ⟨g, 0, none⟩), .pointer (some ⟨r, 0, none⟩)] (Go.Sort.grow (redrawn w5 d) os) fun e w'' => e = .returned (.bool true) ∧ ∃ p : Regrown, w'' = Go.Sort.grow (redrawn w5 p.d) p.os := fun d os => Calls.regrown_of (H5.out.alike HKN.out HG.out (below_regrown w5 d os))
              have cL : ∀ d os, Calls Tryz.prog 56 #[.pointer (some ⟨jb5, 0, none⟩)] (Go.Sort.grow (redrawn w5 d) os) fun e w'' => e = .returned (.int .i64 (n5 : Nat)) ∧ ∃ p : Regrown, w'' = Go.Sort.grow (redrawn w5 p.d) p.os := fun d os => Calls.regrown_of ((H5.out.below (below_regrown w5 d os)).len.1.mono fun e w' hp => ⟨hp.1, hp.2 ▸ Below.refl _ _⟩)
              have hnn : ((n5 : Int) != (n5 : Int)) = false := by simp
              refine wpAny_quiet_from (C := fun w' => ∃ p : Regrown, w' = Go.Sort.grow (redrawn w5 p.d) p.os) 6 (by kernel_rfl) (by kernel_rfl) ⟨⟨w5.drawn, #[]⟩, by rw [Go.Sort.grow_empty]; rfl⟩ (by kernel_rfl) ?_
              simp only [List.drop_succ_cons, List.drop_zero]
              clear z1 z2 z3 z4 z0
              repeat (quiet_step (first | exact cA _ _ | exact cL _ _))
              refine wpQuiet_nil ?_
              intro _ hw'
              obtain ⟨⟨dq, osq⟩, hw''⟩ := hw'
              subst hw''
              go_wp2_with (fail)
              go_meet
              exact ⟨rfl, _, _, _, _, _, HN5.out, H5.out.below (below_regrown w5 dq osq)⟩
            case rest =>
              obtain ⟨rfl, hc⟩ := hcut
              clear HDO c0 c1 c2 c3
              go_wp2
              go_roundw
              case rel => exact ⟨k + 1, by go_num, HKK.out.1, HKK.out.2, hc.out.mono (by rw [HNN.out]; omega)⟩
              case measure => have h9 := HKK.out.2; simp [intOf]; omega
          · obtain ⟨d, jb, q, n, c, hn, hfw⟩ := hst.out
            have HB5 := Lib.hid hfw.py.bel
            clear hfw hst hn
            by_cases hlc : k < cs.length
            · have ik0 : (k : Int) < (cs.length : Int) := by omega
              have ik1 : ¬ (k : Int) < 120 := by omega
              go_wp2_with (fail)
              refine (works23_any _).mono ?_
              rintro e w8 ⟨rfl, hb8⟩
              have HB8 := Lib.hid (HB5.out.trans (hb8.mono HB5.out.size))
              clear hb8 HB5
              go_wp2
              go_ret
              exact ⟨rfl, HB8.out⟩
            · have ik0 : ¬ (k : Int) < (cs.length : Int) := by omega
              go_wp2_with (fail)
              refine (works23_any _).mono ?_
              rintro e w8 ⟨rfl, hb8⟩
              have HB8 := Lib.hid (HB5.out.trans (hb8.mono HB5.out.size))
              clear hb8 HB5
              go_wp2
              go_ret
              exact ⟨rfl, HB8.out⟩
end Go.Proofs.YtfgpigblnkanpaaGreatDoor
