/- The walk of the statement JournalKept. -/
import Derived.Test.YtfgpigblnkanpaaGreatDoorHM
import Derived.BigQuiet
import Derived.Deep.DeepCutAuto
import Derived.Deep.RegionWith
import Derived.Deep.CutBlock
namespace Go.Proofs.YtfgpigblnkanpaaGreatDoor
open Go.RowKit Go.Maps Go.Shelf
set_option linter.unusedVariables false
set_option linter.unusedSimpArgs false

def AcOk (a : Ac) : Prop := a.text.length ≤ 1048576 ∧ a.keep.length ≤ 1048576 ∧ wf64 a.keep ∧ (-9223372036854775808 ≤ a.n ∧ a.n ≤ 9223372036854775807) ∧ (-9223372036854775808 ≤ a.kind ∧ a.kind ≤ 9223372036854775807)
/-- A slice that reads as these calls. -/
def ActsAt (w : World) (v : Value) (ss : List Ac) : Prop := ∃ a cap, v = .slice a ss.length cap ∧ ∀ i s, ss[i]? = some s → ∃ b off ka kn kc, a = some ⟨b, off, none⟩ ∧ (∀ j x, (s.cells (.slice ka kn kc))[j]? = some x → w.cell? ⟨b, off + i * 4 + j, none⟩ = some x) ∧ IntsAt w (.slice ka kn kc) s.keep
theorem ActsAt.step {w wr : World} {a : Option Addr} {n cap : Nat} {ss : List Ac} (h : ActsAt w (.slice a n cap) ss) (hb : Below w.heap.size w wr) {k : Nat} {s : Ac} (hs : ss[k]? = some s) :
    ∃ b off ka kn kc, a = some ⟨b, off, none⟩ ∧ wr.cell? ⟨b, off + k * 4, none⟩ = some (.int .i64 s.kind) ∧ wr.cell? ⟨b, off + k * 4 + 1, none⟩ = some (strV s.text) ∧ wr.cell? ⟨b, off + k * 4 + 2, none⟩ = some (.int .i64 s.n) ∧ wr.cell? ⟨b, off + k * 4 + 3, none⟩ = some (.slice ka kn kc) ∧ IntsAt wr (.slice ka kn kc) s.keep := by
  obtain ⟨a', cap', e, h2⟩ := h
  simp only [Value.slice.injEq] at e
  obtain ⟨rfl, _, _⟩ := e
  obtain ⟨b, off, ka, kn, kc, rfl, hc, hi⟩ := h2 k s hs
  have hcell : ∀ j x, (s.cells (.slice ka kn kc))[j]? = some x → wr.cell? ⟨b, off + k * 4 + j, none⟩ = some x := fun j x hj => by
    have := hc j x hj
    exact (hb.cell (World.block_lt_of_cell? w _ this)).trans this
  exact ⟨b, off, ka, kn, kc, rfl, hcell 0 _ rfl, hcell 1 _ rfl, hcell 2 _ rfl, hcell 3 _ rfl, hi.below hb⟩
theorem ActsAt.len {w : World} {v : Value} {ss : List Ac} (h : ActsAt w v ss) : ∃ a cap, v = .slice a ss.length cap := by
  obtain ⟨a, cap, rfl, _⟩ := h
  exact ⟨a, cap, rfl⟩
theorem new_book {w w1 : World} {g : Nat} {A : List Nat} {d : Dk} (h : Mine w w1 [] A g d 0) : KIn w (w1.alloc (.cells #[.slice none 0 0, .bool false, strV [], .bool false] 76)) w1.heap.size g d 0 (.slice none 0 0) [] false [] false A :=
  ⟨(h.add ((Below.refl _ w1).alloc (Nat.le_refl _) _) [w1.heap.size] (fun k hk => by simp at hk; subst hk; simp)).less (fun k hk => by simpa [Value.ownBlock] using hk), Blk.new _ _ _, World.ownsRow_nil _ _ _ _, h.bel.size, fun k hk => by simp [Value.ownBlock] at hk⟩
theorem Num_code (no : Nat) (w : World) (h : no ≤ 25) : Calls Tryz.prog 27 #[errV no] w fun e w' => e = .returned (.int .i64 no) ∧ Below w.heap.size w w' := by
  by_cases h0 : no = 0
  · subst h0; rw [errV_none]; exact Num_nil w
  · exact Num_errno no w (by omega) h
set_option maxHeartbeats 1000000 in
set_option maxRecDepth 100000 in
theorem Plain_none (m : Nat) (w : World) (hm : m ≠ 0) : Calls Tryz.prog 28 #[.nilIface, .int .i64 m] w fun e w' => e = .returned (.bool false) ∧ Below w.heap.size w w' := by
  have hq : ((0 : Int) == (m : Int)) = false := by simp; omega
  go_enter Tryz.func28, Tryz.ntmps28
  go_wp2_with (fail)
  refine (Num_nil _).mono ?_
  rintro e w1 ⟨rfl, hb1⟩
  go_wp2
  go_ret
  exact ⟨rfl, ((Below.refl _ w).alloc (Nat.le_refl _) _).trans (hb1.mono (by simp))⟩
section
variable {w0 w : World} {bb g jb ab : Nat} {d : Dk} {N n : Nat} {c : Bool} {va : Value} {R : List Nm} {more : Bool} {rec : Nm} {no : Bool} {kd an : Int} {tx : Nm} {kv : Value} {A : List Nat}
theorem KA.cells {x0 x1 x2 x3 : Value} (h : KA w0 w bb g jb ab d N n c va R more rec no [x0, x1, x2, x3] A) : w.cell? ⟨ab, 0, none⟩ = some x0 ∧ w.cell? ⟨ab, 1, none⟩ = some x1 ∧ w.cell? ⟨ab, 2, none⟩ = some x2 ∧ w.cell? ⟨ab, 3, none⟩ = some x3 ∧ ab < w.heap.size := ⟨h.act.cell 0, h.act.cell 1, h.act.cell 2, h.act.cell 3, h.act.lt⟩
theorem KA.kj {xs : List Value} (h : KA w0 w bb g jb ab d N R.length false va R false [] false xs A) (st : Stand d [106] (jframes R)) (sm : ∀ r ∈ R, r.length ≤ 16777216) : KJ w0 w bb g jb d N [106] R.length va R A := ⟨h.j.lessK (fun k hk => List.mem_cons_of_mem _ hk), h.box, h.row, h.base, h.ne, st, sm⟩
theorem KJ.mono {N' : Nat} {nm : Nm} (h : KJ w0 w bb g jb d N nm n va R A) (hm : N ≤ N') : KJ w0 w bb g jb d N' nm n va R A := ⟨h.j.mono hm, h.box, h.row, h.base, h.ne, h.st, h.small⟩
theorem KS.callReset (h : KS w0 w bb g jb ab d N va R kd tx an kv A) {J : Jr} (hJ : jreset d [106] R.length false = J) (hk : kd % 9 = 2) (hkv : ∃ p n c, kv = .slice p n c) {W : World} {A' : List Nat} (hW : KA w0 W bb g jb ab J.d (N + 3) J.n J.c va R false [] false [.int .i64 kd, strV tx, .int .i64 an, kv] A') :
    Calls Tryz.prog 46 #[.pointer (some ⟨bb, 0, none⟩), .agg #[.int .i64 kd, strV tx, .int .i64 an, kv], .int .i64 J.e] W fun e W' => e = .returned (.tuple #[]) ∧ KMid w0 W' bb g jb ab (N + 3) :=
  (called_reset W bb w0.heap.size va R ⟨kd, tx, an, []⟩ kv hkv J.e (by have := jreset_code d h.st R.length; rw [hJ] at this; exact this) hk hW.box hW.row hW.ne).mono fun e W' hp => by
    obtain ⟨h1, vb, h2⟩ := hW.called hp
    exact ⟨h1, h.reset hJ rfl h2⟩
theorem KS.callApp (h : KS w0 w bb g jb ab d N va R kd tx an kv A) {J : Jr} (hJ : jappend d [106] R.length false tx = J) (hkv : ∃ p n c, kv = .slice p n c) {W : World} {A' : List Nat} (hW : KA w0 W bb g jb ab J.d (N + 2) J.n J.c va R false [] false [.int .i64 0, strV tx, .int .i64 an, kv] A') :
    Calls Tryz.prog 46 #[.pointer (some ⟨bb, 0, none⟩), .agg #[.int .i64 0, strV tx, .int .i64 an, kv], .int .i64 J.e] W fun e W' => e = .returned (.tuple #[]) ∧ KMid w0 W' bb g jb ab (N + 3) :=
  (called_app W bb w0.heap.size va R ⟨0, tx, an, []⟩ kv hkv J.e (by have := jappend_code d [106] R.length tx; rw [hJ] at this; exact this) rfl hW.box hW.row hW.ne hW.j.m.bel.size (by have := h.few; omega)).mono fun e W' hp => by
    obtain ⟨h1, vb, h2⟩ := hW.called hp
    exact ⟨h1, (h.app hJ rfl h2).mono (by omega)⟩
theorem KS.doReset (h : KS w0 w bb g jb ab d N va R kd tx an kv A) {J : Jr} (hJ : jreset d [106] R.length false = J) (hN : N + 3 < 4294967296) : Calls Tryz.prog 47 #[.pointer (some ⟨jb, 0, none⟩)] w fun e w' => e = .returned (errV J.e) ∧ ∃ A', KA w0 w' bb g jb ab J.d (N + 3) J.n J.c va R false [] false [.int .i64 kd, strV tx, .int .i64 an, kv] A' :=
  (jReset_any h.a.j hN).mono fun e w' hp => by rw [hJ] at hp; exact ⟨hp.1, h.a.to hp.2⟩
theorem KS.doApp (h : KS w0 w bb g jb ab d N va R kd tx an kv A) {J : Jr} (hJ : jappend d [106] R.length false tx = J) (hN : N + 2 < 4294967296) (ht : tx.length ≤ 4294967296) : Calls Tryz.prog 48 #[.pointer (some ⟨jb, 0, none⟩), strV tx] w fun e w' => e = .returned (errV J.e) ∧ ∃ A', KA w0 w' bb g jb ab J.d (N + 2) J.n J.c va R false [] false [.int .i64 kd, strV tx, .int .i64 an, kv] A' :=
  (jAppend_any h.a.j tx hN ht (by have := h.few; omega)).mono fun e w' hp => by rw [hJ] at hp; exact ⟨hp.1, h.a.to hp.2⟩
theorem KS.put0 (h : KS w0 w bb g jb ab d N va R kd tx an kv A) : KS w0 (w.setCell ⟨ab, 0, none⟩ (.int .i64 0)) bb g jb ab d N va R 0 tx an kv A := ⟨h.a.put 0 (.int .i64 0), h.st, h.small⟩
theorem KS.doArm (h : KS w0 w bb g jb ab d N va R kd tx an kv A) (keep : List Int) {v' : Value} (hr : w.ownsRow 0 3 1 v' keep.length (keep.map (Value.int .i64))) (hl : keep.length ≤ 1048576) (hw : wf64 keep) (hn : an ≤ 9223372036854775807) :
    Calls Tryz.prog 26 #[.pointer (some ⟨g, 0, none⟩), .int .i64 an, .agg #[v']] w fun e w' => e = .returned (.tuple #[]) ∧ KMid w0 w' bb g jb ab (N + 3) :=
  (Arm_hd h.a.j.m.hd an v' keep (IntsAt.of_row hr) (by omega) hw hn (IntsAt.of_row hr).uses).mono fun e w' hp => ⟨hp.1, (h.armed an keep hp.2).mono (by omega)⟩
theorem KS.doCrash (h : KS w0 w bb g jb ab d N va R kd tx an kv A) (hN : N < 4294967296) (keep : List Int) {v' : Value} {B : Nat} (hr : w.ownsRow B 3 1 v' keep.length (keep.map (Value.int .i64))) (hB : ∀ k ∈ A, k < B) :
    Calls Tryz.prog 18 #[.pointer (some ⟨g, 0, none⟩), .agg #[v']] w fun e w' => e = .returned (.tuple #[]) ∧ KMid w0 w' bb g jb ab (N + 3) :=
  (Crash_hd h.a.j.m.hd hN v' keep (IntsAt.of_row (row_lessK hr (Nat.zero_le _))) (fun j hj => ⟨(IntsAt.of_row (row_lessK hr (Nat.zero_le _))).uses j hj, fun hm => by have h1 := hB j hm; have h2 := (hr.lt j (usesOf_own hj)).1; omega⟩)).mono fun e w' hp => ⟨hp.1, (h.crashed keep hp.2).mono (by omega)⟩
end
/-- At the head of the play's loop. -/
def KLp (w wr : World) (bb g : Nat) (jv : Value) (k : Nat) : Prop := ∃ jb d va R A, jv = .pointer (some ⟨jb, 0, none⟩) ∧ KJ w wr bb g jb d (30 + 40 * k) [106] R.length va R A
set_option maxHeartbeats 8000000 in
set_option maxRecDepth 100000 in
theorem JournalKept_any (w : World) (q : Int) (v : Value) (cs : List Ac) (ha : ActsAt w v cs) (ho : ∀ a ∈ cs, AcOk a) (n1 : cs.length ≤ 1048576) (hg : ErrorLaid w) :
    Calls Tryz.prog 9 #[.int .i64 q, v] w fun e w' => e = .returned (.bool true) ∧ Below w.heap.size w w' := by
  obtain ⟨fa, fc, rfl⟩ := ha.len
  have HA := Lib.hid ha
  have HO := Lib.hid ho
  have HG := Lib.hid hg
  clear ha ho hg
  go_enter Tryz.func9, Tryz.ntmps9
  go_wp2_with (fail)
  refine (New_m w w (Below.refl _ _) [] (fun k hk => by cases hk) q).mono ?_
  rintro e w1 ⟨g, A1, rfl, h1, hb1⟩
  have HAN := Lib.hid (anew_any w _ w1.heap.size g (dnew q) 0 [106] _ [] false [] false A1 (F := True) (fun _ => ⟨q, rfl, rfl⟩) (new_book h1) (Or.inr (Or.inr ⟨q, rfl, rfl⟩)) (by simp) (by omega) (by simp) HG.out)
  clear h1 hb1
  go_wp2_with (fail)
  refine HAN.out.mono ?_
  rintro e w2 (⟨jb, d, va, L, A2, rfl, hj⟩ | ⟨-, hF, -⟩)
  case inr => exact absurd trivial hF
  generalize w1.heap.size = bb at *
  have hlp : KLp w w2 bb g (.pointer (some ⟨jb, 0, none⟩)) 0 := ⟨jb, d, va, L, A2, rfl, hj⟩
  have HLP := Lib.hid hlp
  clear hlp hj HAN
  go_wp2_with (fail)
  go_loopw [7, 9] (fun jv iv wr => ∃ k : Nat, iv = .int .i64 k ∧ k ≤ cs.length ∧ k ≤ 120 ∧ Hid (KLp w wr bb g jv k)) (fun _ iv _ => 121 - (intOf iv).toNat)
  case atStart => exact ⟨0, rfl, Nat.zero_le _, by omega, HLP.out⟩
  case round =>
    clear HLP
    obtain ⟨k, rfl, hk, hk2, hst⟩ := hrel
    obtain ⟨jb, d, va, R, A, rfl, hj⟩ := hst.out
    by_cases hlt : k < cs.length ∧ k < 120
    · obtain ⟨a, hak⟩ : ∃ x, cs[k]? = some x := ⟨_, List.getElem?_eq_getElem hlt.1⟩
      obtain ⟨sb, so, ma, mn, mc, rfl, c0, c1, c2, c3, hi⟩ := HA.out.step hj.j.m.bel hak
      have hOk := HO.out a (List.mem_of_getElem? hak)
      obtain ⟨kd, tx, an, keep⟩ := a
      simp only at c0 c1 c2 hi
      have ik0 : (k : Int) < (cs.length : Int) := by omega
      have ik1 : (k : Int) < 120 := by omega
      have ik2 : (0 : Int) ≤ (k : Int) := by omega
      have HI := Lib.hid hi
      have HOK := Lib.hid hOk
      have HJ := Lib.hid hj
      clear hst hj hak hi hOk hlt hk hk2
      have hbW : Below wr.heap.size wr (wr.alloc (.cells #[.int .i64 kd, strV tx, .int .i64 an, .slice ma mn mc] 81)) := (Below.refl _ wr).alloc (Nat.le_refl _) _
      have hKS : KS w (wr.alloc (.cells #[.int .i64 kd, strV tx, .int .i64 an, .slice ma mn mc] 81)) bb g jb wr.heap.size d (30 + 40 * k) va R kd tx an (.slice ma mn mc) A := ⟨HJ.out.act hbW (Blk.new _ _ _) (Nat.le_refl _), HJ.out.st, HJ.out.small⟩
      have hiW := HI.out.below hbW
      have hPk := Pick_any kd 9 (wr.alloc (.cells #[.int .i64 kd, strV tx, .int .i64 an, .slice ma mn mc] 81)) (by omega) (by omega)
      obtain ⟨m, hm⟩ : ∃ m : Int, kd % ((9 : Nat) : Int) = m := ⟨_, rfl⟩
      have hmc : m = 0 ∨ m = 1 ∨ m = 2 ∨ m = 3 ∨ m = 4 ∨ m = 5 ∨ m = 6 ∨ m = 7 ∨ m = 8 := by omega
      rw [hm] at hPk
      obtain ⟨y0, y1, y2, y3, ylt⟩ := hKS.a.cells
      have f0 := hKS.a.act.free 0
      have HKS := Lib.hid hKS
      have HIW := Lib.hid hiW
      have HPK := Lib.hid hPk
      have HM := Lib.hid hm
      have HMC := Lib.hid hmc
      clear hbW hKS hiW hPk hm hmc HJ HI
      go_upto_region 10 with (fail)
      clear c0 c1 c2 c3
      generalize hW1 : wr.alloc (.cells #[.int .i64 kd, strV tx, .int .i64 an, .slice ma mn mc] 81) = W1 at *
      generalize wr.heap.size = ab at *
      clear hW1
      go_wp2_with (fail)
      refine HPK.out.mono ?_
      rintro e W2 ⟨rfl, rfl⟩
      clear HPK
      go_upto_block 2 with (fail)
      go_cut [10] (fun s10 wx => s10 = .pointer (some ⟨ab, 0, none⟩) ∧ Hid (KMid w wx bb g jb ab (30 + 40 * k + 3)))
      case first =>
        have hN : 30 + 40 * k + 3 < 4294967296 := by omega
        have hokl : keep.length ≤ 1048576 := HOK.out.2.1
        have hokt : tx.length ≤ 1048576 := HOK.out.1
        have hoka : an ≤ 9223372036854775807 := HOK.out.2.2.2.1.2
        have HOKW : Hid (wf64 keep) := HOK.out.2.2.1
        have hci := fun W (hb : Below W1.heap.size W1 W) => copyIntsK_any W (.slice ma mn mc) keep (HIW.out.below hb) (by omega)
        have HCI := Lib.hid hci
        have HAB : Hid (∀ k ∈ A, k < W1.heap.size) := HKS.out.a.j.m.hd.lt
        clear hci HIW HOK
        rcases HMC.out with rfl | rfl | rfl | rfl | rfl | rfl | rfl | rfl | rfl
        case inl =>
          obtain ⟨J, hJ⟩ : ∃ J, jappend d [106] R.length false tx = J := ⟨_, rfl⟩
          have hp := HKS.out.put0
          go_upto_region 22 with (fail)
          clear y0 y1 y2 y3 f0
          generalize W1.setCell ⟨ab, 0, none⟩ (.int .i64 0) = W5 at *
          obtain ⟨y0, y1, y2, y3, -⟩ := hp.a.cells
          have hlt5 := hp.a.act.lt
          have hre := fun W (hb : Below W5.heap.size W5 W) => (hp.below hb).doApp hJ (by omega) (by omega)
          have hnu := fun W => Num_code J.e W (by have := jappend_code d [106] R.length tx; rw [hJ] at this; exact this)
          have hcl := fun W A' hW => hp.callApp hJ ⟨_, _, _, rfl⟩ (W := W) (A' := A') hW
          have HRE := Lib.hid hre
          have HNU := Lib.hid hnu
          have HCL := Lib.hid hcl
          clear hre hnu hcl hJ HCI hp HKS
          go_region_with (first
            | (go_at_call 48; refine (HRE.out _ (Below.refl _ _).drew).mono ?_; rintro e w3 ⟨rfl, A3, h3⟩; obtain ⟨z0, z1, z2, z3, zlt⟩ := h3.cells; have H3 := Lib.hid h3; clear h3)
            | (go_at_call 27; refine (HNU.out _).mono ?_; rintro e w4 ⟨rfl, hb4⟩; have h4 := H3.out.below hb4; obtain ⟨r0, r1, r2, r3, rlt⟩ := h4.cells; have H4 := Lib.hid h4; clear h4 hb4)
            | (go_at_call 46; refine (HCL.out _ _ H4.out).mono ?_; rintro e w5 ⟨rfl, hmid⟩; have HMID := Lib.hid hmid; clear hmid))
          all_goals
            go_wp2_with (fail)
            go_meet
            exact ⟨rfl, HMID.out⟩
        case inr.inl =>
          obtain ⟨J, hJ⟩ : ∃ J, jappend d [106] R.length false tx = J := ⟨_, rfl⟩
          have hp := HKS.out.put0
          go_upto_region 22 with (fail)
          clear y0 y1 y2 y3 f0
          generalize W1.setCell ⟨ab, 0, none⟩ (.int .i64 0) = W5 at *
          obtain ⟨y0, y1, y2, y3, -⟩ := hp.a.cells
          have hlt5 := hp.a.act.lt
          have hre := fun W (hb : Below W5.heap.size W5 W) => (hp.below hb).doApp hJ (by omega) (by omega)
          have hnu := fun W => Num_code J.e W (by have := jappend_code d [106] R.length tx; rw [hJ] at this; exact this)
          have hcl := fun W A' hW => hp.callApp hJ ⟨_, _, _, rfl⟩ (W := W) (A' := A') hW
          have HRE := Lib.hid hre
          have HNU := Lib.hid hnu
          have HCL := Lib.hid hcl
          clear hre hnu hcl hJ HCI hp HKS
          go_region_with (first
            | (go_at_call 48; refine (HRE.out _ (Below.refl _ _).drew).mono ?_; rintro e w3 ⟨rfl, A3, h3⟩; obtain ⟨z0, z1, z2, z3, zlt⟩ := h3.cells; have H3 := Lib.hid h3; clear h3)
            | (go_at_call 27; refine (HNU.out _).mono ?_; rintro e w4 ⟨rfl, hb4⟩; have h4 := H3.out.below hb4; obtain ⟨r0, r1, r2, r3, rlt⟩ := h4.cells; have H4 := Lib.hid h4; clear h4 hb4)
            | (go_at_call 46; refine (HCL.out _ _ H4.out).mono ?_; rintro e w5 ⟨rfl, hmid⟩; have HMID := Lib.hid hmid; clear hmid))
          all_goals
            go_wp2_with (fail)
            go_meet
            exact ⟨rfl, HMID.out⟩
        case inr.inr.inl =>
          obtain ⟨J, hJ⟩ : ∃ J, jreset d [106] R.length false = J := ⟨_, rfl⟩
          have hre := fun W (hb : Below W1.heap.size W1 W) => (HKS.out.below hb).doReset hJ (by omega)
          have hnu := fun W => Num_code J.e W (by have := jreset_code d HKS.out.st R.length; rw [hJ] at this; omega)
          have hcl := fun W A' hW => HKS.out.callReset hJ (by have := HM.out; omega) ⟨_, _, _, rfl⟩ (W := W) (A' := A') hW
          have HRE := Lib.hid hre
          have HNU := Lib.hid hnu
          have HCL := Lib.hid hcl
          clear hre hnu hcl hJ HCI
          go_upto_region 18 with (fail)
          go_region_with (first
            | (go_at_call 47; refine (HRE.out _ (Below.refl _ _).drew).mono ?_; rintro e w3 ⟨rfl, A3, h3⟩; obtain ⟨z0, z1, z2, z3, zlt⟩ := h3.cells; have H3 := Lib.hid h3; clear h3)
            | (go_at_call 27; refine (HNU.out _).mono ?_; rintro e w4 ⟨rfl, hb4⟩; have h4 := H3.out.below hb4; obtain ⟨r0, r1, r2, r3, rlt⟩ := h4.cells; have H4 := Lib.hid h4; clear h4 hb4)
            | (go_at_call 46; refine (HCL.out _ _ H4.out).mono ?_; rintro e w5 ⟨rfl, hmid⟩; have HMID := Lib.hid hmid; clear hmid))
          all_goals
            go_wp2_with (fail)
            go_meet
            exact ⟨rfl, HMID.out⟩
        case inr.inr.inr.inl =>
          go_upto_region 13 with (fail)
          go_region_with (first
            | (go_at_call 45; refine (HCI.out _ (Below.refl _ _).drew).mono ?_; rintro e w3 ⟨v3, rfl, hr3, hb3⟩; have hb4 := below_undrew hb3; have hs3 := HKS.out.below hb4; obtain ⟨z0, z1, z2, z3, zlt⟩ := hs3.a.cells; obtain ⟨va3, vc3, hv3⟩ := row_shapeK hr3; subst hv3; have H3 := Lib.hid hs3; have HR3 := Lib.hid (row_lessK hr3 (Nat.zero_le _)); clear hr3 hs3 hb3 hb4)
            | (go_at_call 26; refine (H3.out.doArm keep HR3.out hokl HOKW.out hoka).mono ?_; rintro e w4 ⟨rfl, hmid⟩; have HMID := Lib.hid hmid; clear hmid))
          all_goals
            go_wp2_with (fail)
            go_meet
            exact ⟨rfl, HMID.out⟩
        case inr.inr.inr.inr.inl =>
          go_wp2_with (fail)
          refine (HCI.out _ (Below.refl _ _)).mono ?_
          rintro e w3 ⟨v3, rfl, hr3, hb3⟩
          have hs3 := HKS.out.below hb3
          have hcr := hs3.doCrash (by omega) keep hr3 HAB.out
          obtain ⟨va3, vc3, hv3⟩ := row_shapeK hr3
          subst hv3
          have HCR := Lib.hid hcr
          clear hr3 hb3 hs3 hcr HCI
          go_wp2_with (fail)
          refine HCR.out.mono ?_
          rintro e w4 ⟨rfl, hmid⟩
          have HMID := Lib.hid hmid
          clear hmid HCR
          go_wp2_with (fail)
          go_meet
          exact ⟨rfl, HMID.out⟩
        case inr.inr.inr.inr.inr.inr.inr.inl =>
          go_wp2_with (fail)
          refine (HCI.out _ (Below.refl _ _)).mono ?_
          rintro e w3 ⟨v3, rfl, hr3, hb3⟩
          have hs3 := HKS.out.below hb3
          have hcr := hs3.doCrash (by omega) keep hr3 HAB.out
          obtain ⟨va3, vc3, hv3⟩ := row_shapeK hr3
          subst hv3
          have HCR := Lib.hid hcr
          clear hr3 hb3 hs3 hcr HCI
          go_wp2_with (fail)
          refine HCR.out.mono ?_
          rintro e w4 ⟨rfl, hmid⟩
          have HMID := Lib.hid hmid
          clear hmid HCR
          go_wp2_with (fail)
          go_meet
          exact ⟨rfl, HMID.out⟩
        case inr.inr.inr.inr.inr.inr.inr.inr =>
          go_upto_region 13 with (fail)
          go_region_with (first
            | (go_at_call 45; refine (HCI.out _ (Below.refl _ _).drew).mono ?_; rintro e w3 ⟨v3, rfl, hr3, hb3⟩; have hb4 := below_undrew hb3; have hs3 := HKS.out.below hb4; obtain ⟨z0, z1, z2, z3, zlt⟩ := hs3.a.cells; obtain ⟨va3, vc3, hv3⟩ := row_shapeK hr3; subst hv3; have H3 := Lib.hid hs3; have HR3 := Lib.hid (row_lessK hr3 (Nat.zero_le _)); clear hr3 hs3 hb3 hb4)
            | (go_at_call 26; refine (H3.out.doArm keep HR3.out hokl HOKW.out hoka).mono ?_; rintro e w4 ⟨rfl, hmid⟩; have HMID := Lib.hid hmid; clear hmid))
          all_goals
            go_wp2_with (fail)
            go_meet
            exact ⟨rfl, HMID.out⟩
        all_goals
          have hmid := (HKS.out.mid).mono (show 30 + 40 * k ≤ 30 + 40 * k + 3 by omega)
          have HMID := Lib.hid hmid
          clear hmid
          go_wp2_with (fail)
          go_meet
          exact ⟨rfl, HMID.out⟩
      case rest =>
        clear HKS HIW HM HMC HOK y0 y1 y2 y3 ylt f0
        obtain ⟨rfl, hmd⟩ := hcut
        obtain ⟨d5, n5, c5, va5, R5, more5, rec5, no5, kd5, tx5, an5, kv5, A5, h5, hR5, hcase⟩ := hmd.out
        have hL := List_hd h5.j.m.hd (by omega) [110, 111, 110, 101] (by simp)
        have HL := Lib.hid hL
        have H5 := Lib.hid h5
        have HC := Lib.hid hcase
        clear hmd hL h5 hcase
        go_wp2_with (fail)
        refine HL.out.mono ?_
        rintro e w6 ⟨lv, rfl, hrow, -, hb6⟩
        obtain ⟨la, lc, hlv⟩ := row_shapeK hrow
        subst hlv
        have h6 := H5.out.below hb6
        clear hrow hb6 HL H5
        rcases HC.out with ⟨hoff, hrd⟩ | ⟨hon, hn, hc, hst, hsm, hmo, hre, hno⟩
        · rw [if_pos hoff, errV_some (n := 20) (by omega)]
          have HAN := Lib.hid (anew_any w w6 bb g d5 (30 + 40 * k + 3) [106] va5 R5 more5 rec5 no5 A5 (F := False) (fun h => h.elim) h6.kin hrd (by simp) (by omega) hR5 HG.out)
          clear hoff hrd h6 HC
          go_wp2_with (fail)
          refine HAN.out.mono ?_
          rintro e w7 (⟨jb7, d7, va7, L7, A7, rfl, hj7⟩ | ⟨rfl, -, hb7⟩)
          · have hlp : KLp w w7 bb g (.pointer (some ⟨jb7, 0, none⟩)) (k + 1) := ⟨jb7, d7, va7, L7, A7, rfl, hj7.mono (by omega)⟩
            have HLP := Lib.hid hlp
            clear hlp hj7 HAN
            go_wp2
            go_roundw
            case rel => exact ⟨k + 1, by go_num, by omega, by omega, HLP.out⟩
            case measure => simp [intOf]; omega
          · have HB7 := Lib.hid hb7
            clear hb7 HAN
            go_wp2_with (fail)
            refine (works23_any _).mono ?_
            rintro e w8 ⟨rfl, hb8⟩
            have HB8 := Lib.hid (HB7.out.trans (hb8.mono HB7.out.size))
            clear hb8
            go_wp2
            go_ret
            exact ⟨rfl, HB8.out⟩
        · subst hn hc hmo hre hno
          rw [if_neg (by rw [hon]; simp), errV_none]
          obtain ⟨y0, y1, y2, y3, ylt⟩ := h6.cells
          have hPk := Pick_any kd5 9 w6 (by omega) (by omega)
          obtain ⟨m5, hm5⟩ : ∃ m5 : Int, kd5 % ((9 : Nat) : Int) = m5 := ⟨_, rfl⟩
          rw [hm5] at hPk
          have HPK := Lib.hid hPk
          have HAN := Lib.hid (anew_any w w6 bb g d5 (30 + 40 * k + 3) [106] va5 R5 false [] false A5 (F := False) (fun h => h.elim) h6.kin (Or.inl ⟨hst, hsm⟩) (by simp) (by omega) hR5 HG.out)
          have hlp0 : KLp w w6 bb g (.pointer (some ⟨jb, 0, none⟩)) (k + 1) := ⟨jb, d5, va5, R5, A5, rfl, (h6.kj hst hsm).mono (by omega)⟩
          have HLP0 := Lib.hid hlp0
          clear hon hst hsm h6 HC hPk hm5 hlp0 y1 y2 y3
          go_wp2_with (fail)
          refine HPK.out.mono ?_
          rintro e w66 ⟨rfl, rfl⟩
          clear HPK
          by_cases h66 : m5 = 6
          · subst h66
            go_wp2_with (fail)
            refine HAN.out.mono ?_
            rintro e w7 (⟨jb7, d7, va7, L7, A7, rfl, hj7⟩ | ⟨rfl, -, hb7⟩)
            · have hlp : KLp w w7 bb g (.pointer (some ⟨jb7, 0, none⟩)) (k + 1) := ⟨jb7, d7, va7, L7, A7, rfl, hj7.mono (by omega)⟩
              have HLP := Lib.hid hlp
              clear hlp hj7 HAN
              go_wp2
              go_roundw
              case rel => exact ⟨k + 1, by go_num, by omega, by omega, HLP.out⟩
              case measure => simp [intOf]; omega
            · have HB7 := Lib.hid hb7
              clear hb7 HAN
              go_wp2_with (fail)
              refine (works23_any _).mono ?_
              rintro e w8 ⟨rfl, hb8⟩
              have HB8 := Lib.hid (HB7.out.trans (hb8.mono HB7.out.size))
              clear hb8
              go_wp2
              go_ret
              exact ⟨rfl, HB8.out⟩
          · have hq6 : (m5 != 6) = true := by simpa using h66
            clear HAN
            go_wp2
            go_roundw
            case rel => exact ⟨k + 1, by go_num, by omega, by omega, HLP0.out⟩
            case measure => simp [intOf]; omega
    · have hfew := jstart_few hj.j.disk.hd.bd hj.j.disk.hd.ok [106] (by simp)
      have hO := jOpen_any hj.j.disk (nm := [106]) (by simp) (by omega) hj.j.disk.hd.bd.small rfl (by omega)
      have hss := jstart_stand hj.st hj.small
      have HO2 := Lib.hid hO
      have HSS := Lib.hid hss
      have HJ := Lib.hid hj
      have hx : ¬ (k : Int) < cs.length ∨ ((k : Int) < cs.length ∧ ¬ (k : Int) < 120) := by omega
      clear hst hj hfew hO hss hlt
      generalize jstart d [106] = J at *
      rcases hx with hx | ⟨hx, hy⟩
      all_goals
        go_wp2_with (fail)
        refine HO2.out.mono ?_
        rintro e w6 (⟨hz, rfl, ⟨A6, hm6⟩, hk6⟩ | ⟨hz, jb6, v6, A6, rfl, hJl, hk6, htx, hjb, hcp⟩)
        · have a : J.e = 20 := by
            rcases HSS.out with ⟨a, -⟩ | ⟨a, -⟩
            · exact absurd a hz
            · exact a
          have hpl := Plain_same 20 w6 (by omega) (HG.out.below hm6.bel)
          rw [a]
          rw [errV_some (n := 20) (by omega)] at hpl ⊢
          have HPL := Lib.hid hpl
          have HB6 := Lib.hid hm6.bel
          clear hpl hm6 hk6 a hz HO2 HSS HJ
          go_wp2_with (fail)
          refine HPL.out.mono ?_
          rintro e w7 ⟨rfl, hb7⟩
          have HB7 := Lib.hid (HB6.out.trans (hb7.mono HB6.out.size))
          clear hb7 HPL HB6
          go_wp2_with (fail)
          refine (works23_any _).mono ?_
          rintro e w8 ⟨rfl, hb8⟩
          have HB8 := Lib.hid (HB7.out.trans (hb8.mono HB7.out.size))
          clear hb8 HB7
          go_wp2
          go_ret
          exact ⟨rfl, HB8.out⟩
        · have hLR : J.l = R := by
            rcases HSS.out with ⟨-, a, -⟩ | ⟨a, -⟩
            · exact a
            · omega
          rw [hLR] at hJl htx
          have hbx := HJ.out.box.same (hk6 bb (by simp))
          have hrow := ownsRow_same HJ.out.row (w' := w6) (fun k hk => hk6 k (by simp [hk]))
          have hva : TextsAt w6 va R := RowAt.of_row hrow
          have hfew := HJ.out.st.few HJ.out.j.m.hd.bd
          obtain ⟨vp, vc, hve⟩ : ∃ p c, v6 = .slice p R.length c := by obtain ⟨p, c, e, -⟩ := htx.sh; exact ⟨p, c, e⟩
          have hRt := fun W (hb : Below w6.heap.size w6 W) => right_any W bb w.heap.size va v6 R R false [] false (hbx.below hb hbx.lt) (hva.sh.below hb) (htx.sh.below hb) hcp (Nat.le_trans hJl.m.bel.size hb.size) (by omega) (by omega) (Or.inl rfl)
          have HRT := Lib.hid hRt
          have HB6 := Lib.hid hJl.m.bel
          have HBB := Lib.hid HJ.out.base
          subst hve
          clear hRt hJl htx hk6 hjb hcp hbx hrow hva hfew hLR hz HO2 HSS HJ
          go_wp2_with (fail)
          refine (Plain_none 20 w6 (by omega)).mono ?_
          rintro e w7 ⟨rfl, hb7⟩
          have HR7 := Lib.hid (HRT.out w7 hb7)
          have HB7 := Lib.hid (HB6.out.trans (hb7.mono HB6.out.size))
          clear hb7 HRT HB6
          go_wp2_with (fail)
          refine HR7.out.mono ?_
          rintro e w8 ⟨rfl, vb, -, -, -, hs8⟩
          have HB8 := Lib.hid (HB7.out.trans (hs8.below (N := w.heap.size) (fun k hk => by simp at hk; subst hk; exact HBB.out) HB7.out.size))
          clear hs8 HR7 HB7
          go_wp2_with (fail)
          refine (works23_any _).mono ?_
          rintro e w9 ⟨rfl, hb9⟩
          have HB9 := Lib.hid (HB8.out.trans (hb9.mono HB8.out.size))
          clear hb9 HB8
          go_wp2
          go_ret
          exact ⟨rfl, HB9.out⟩
end Go.Proofs.YtfgpigblnkanpaaGreatDoor
