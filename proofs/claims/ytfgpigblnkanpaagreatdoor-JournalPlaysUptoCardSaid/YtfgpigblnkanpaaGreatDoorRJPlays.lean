/- The second form's card of JournalPlays holds: for every input that the second form speaks of the law's function answers true and leaves its arguments as they were. No conditions but the laid variable errors.errorType, which the card ties to the program's text. -/
import Derived.Test.YtfgpigblnkanpaaGreatDoorRows
import Derived.Test.YtfgpigblnkanpaaGreatDoorCards
import Derived.Test.YtfgpigblnkanpaaGreatDoorTie
import Derived.Test.YtfgpigblnkanpaaGreatDoorSg
import Derived.Test.YtfgpigblnkanpaaGreatDoorHO
import Derived.Test.YtfgpigblnkanpaaGreatDoorLaid
import Derived.SevenTiedAt
import Derived.ProofKit
import Derived.OpenShut
import Derived.ShutString
import Derived.ChangeOld
import Derived.Below
import Derived.Deep.DeepHandedRow
namespace Go.Proofs.YtfgpigblnkanpaaGreatDoor.journalPlays
open Go.ChangeShapes Go.WideShapes Go.ChangeAt Go.RowKit
open Go.ChangeMaps (open_string shut_string)
set_option linter.unusedVariables false
set_option linter.unusedSimpArgs false

theorem walk (a0 : Int) (a1 : ByteArray) (v2 : Value) (ss2 : List Ac) (w : World) (w0 : (Lit.int .i64 a0).wf = true) (w1 : a1.size ≤ maxLen) (b1 : a1.size ≤ 1048576) (hs2 : ActsAt w v2 ss2) (o2 : ∀ x ∈ ss2, AcOk x) (n2 : ss2.length ≤ 1048576) (hg : ErrorLaid w) :
    Calls Tryz.prog 10 #[.int .i64 a0, .string a1, v2] w fun e w' => e = .returned (.bool true) ∧ Below w.heap.size w w' := by
  rw [← str_of a1]
  exact JournalPlays_any w a0 _ v2 ss2 hs2 o2 n2 (by simpa using (show a1.size ≤ 4294967296 by omega)) hg
theorem small_of {a : ByteArray} (h : a.data.toList.length + 1 ≤ 1048576) : a.size ≤ 1048576 := by
  have h8 : a.data.toList.length = a.size := rfl
  omega
theorem reads (os : Os) {H : Type} (enc : TypeId × Value → H) : ∃ places, DataW.whole enc Tryz.prog ((laidWorld os).forCall (fun _ _ => 0) ⟨#[], #[.int .i64 0, .string ByteArray.empty, .slice none 0 0], []⟩).memory (Tryz.f10).params.toList Rows.journalPlaysSpec.vars false #[.int .i64 0, .string ByteArray.empty, .slice none 0 0].toList 8 = some ([.lit (.int .i64 0), .lit (.string []), .nil], [], places) :=
  ⟨[], by kernel_rfl⟩
set_option maxHeartbeats 4000000 in
set_option maxRecDepth 100000 in
theorem lifted (os : Os) (started : os.Started) (H : Type) (enc : TypeId × Value → H) (F : Stop.Interp) :
    ReturnsInHanded {} Tryz.checked os 10 .any ((Rows.OpenSpec.upto Rows.journalPlaysSpec).preRow enc Tryz.prog Tryz.f10 Rows.journalPlaysUptoRow.domain false Rows.journalPlaysUptoRow.laid) (((Rows.OpenSpec.upto Rows.journalPlaysSpec).at F).post enc Tryz.prog Tryz.f10 false true false false) := by
  obtain ⟨places, hx⟩ := reads os enc
  refine returnsInHanded_of_row (C := Tryz.checked) (s := Rows.OpenSpec.upto Rows.journalPlaysSpec) ownNone started (by kernel_rfl) Tryz.func10
    (witness_row_at (enc := enc) (C := Tryz.checked) false (laidWorld os) #[.int .i64 0, .string ByteArray.empty, .slice none 0 0] rfl (by kernel_rfl) (by kernel_rfl) (by kernel_rfl)
      (OpenSpec.preRow_of_cond 8 hx (by kernel_rfl) (fun k hk => by cases hk; kernel_rfl) (by kernel_rfl) (laidWorld_met os _))) ?_
  intro W base args ds gs before hval0 hW _ hcond hsz0 hL _ _
  have hval : ∀ (j : Nat) t v, (Tryz.f10).params[j]? = some t → args[j]? = some v → Value.okWide Tryz.prog W .any base t v := hval0
  have hbulk : Rows.uptoBulkAll (ds ++ gs) ≤ 1048576 := of_decide_eq_true (hcond _ rfl)
  have hW' := hW
  obtain ⟨p, q, hA0, hV, rfl, hfz, hnd⟩ := hW
  have hA : DataW.TrodAll enc Tryz.prog W 0 (fun _ => true) true (Tryz.f10).params.toList args.toList ds p := hA0
  have hV' : DataW.TrodVars enc Tryz.prog W (fun _ => true) [] gs q := hV
  rw [Tryz.params10] at hA hval
  obtain ⟨v0, vs0, d0, ds0, p0, q0, hargs, rfl, rfl, h0, r0⟩ := trodAll_cons hA
  obtain ⟨v1, vs1, d1, ds1, p1, q1, rfl, rfl, rfl, h1, r1⟩ := trodAll_cons r0
  obtain ⟨v2, vs2, d2, ds2, p2, q2, rfl, rfl, rfl, h2, r2⟩ := trodAll_cons r1
  obtain ⟨rfl, rfl, rfl⟩ := trodAll_nil r2
  obtain rfl : args = #[v0, v1, v2] := by cases args; simp_all
  obtain ⟨rfl, rfl⟩ := trodVars_none hV'
  obtain ⟨a0, rfl, rfl, rfl, w0⟩ := open_int Tryz.underlying3 (hval 0 3 v0 rfl rfl) h0
  have b1 : Rows.uptoBulk d1 ≤ 1048576 := by simp only [List.cons_append, List.nil_append, List.append_nil, Rows.uptoBulkAll] at hbulk; omega
  obtain ⟨a1, rfl, rfl, rfl, w1⟩ := open_string Tryz.underlying9 (hval 1 9 v1 rfl rfl) h1
  have k2 := h2
  have lt2 : ∀ x ∈ p2, x.block < W.heap.size := by obtain ⟨m, hm⟩ := k2; exact DataW.trod_lt m _ _ _ hm
  have hb2 : Rows.uptoBulk d2 ≤ 1048576 := by simp only [List.cons_append, List.nil_append, List.append_nil, Rows.uptoBulkAll] at hbulk; omega
  obtain ⟨ss2, hs2, o2, n2⟩ := open_acts_arg (hval 2 73 v2 rfl rfl) h2 hb2
  have hg := errorLaid_of hL
  clear hA0 hval0
  refine (walk a0 a1 v2 ss2 W w0 w1 (small_of b1) hs2 o2 n2 hg).mono fun e W' ⟨he, bel⟩ => ?_
  subst he
  exact ⟨_, rfl, _, _, _, [], _, [], hW', trodAll_mk1 (shut_bool Tryz.underlying4 _), (trodAll_cons_mk (shut_int Tryz.underlying3 w0) (trodAll_cons_mk (shut_string Tryz.underlying9 w1) (trodAll_cons_mk (Below.trod laidAll (by kernel_rfl) (of_decide_eq_true (by kernel_rfl)) k2 bel lt2) trodAll_mk0))), rfl, bel.frame _, fun h => by cases h⟩

theorem row_holds : Rows.JournalPlaysUptoSaid :=
  OpenClaim.holds_of_cond 10 Tryz.f10 rfl rfl rfl rfl rfl rfl rfl ⟨rfl, rfl, rfl, rfl, rfl⟩ rfl rfl rfl rfl rfl (by kernel_rfl) Tryz.func10 (by kernel_rfl)
    (of_decide_eq_true (by kernel_rfl)) (by unfold Func.isWrapper; first | (rw [if_pos (by decide +kernel)]; kernel_rfl) | (rw [if_neg (by decide +kernel)]; exact ⟨rfl, rfl⟩))
    (fun os started H enc _ F => by rw [OpenClaim.pre_eq_preRow]; exact lifted os started H enc F)

theorem proved : Rows.JournalPlaysUptoCardSaid :=
  Claim7.holds_tied_plain_at .later [] _ _ _ _
    row_holds (fun _ h => by cases h) (by kernel_rfl) (fun _ h => by cases h) journalPlaysUpto_row_tie rfl ⟨rfl, rfl⟩ (by kernel_rfl) rfl
    (fun f fn hf hfn => by
      obtain rfl : f = 10 := Option.some.inj ((show Tryz.prog.funcNamed "glossary/glossarylaw23.JournalPlays" = some 10 by kernel_rfl).symm.trans hf) |>.symm
      obtain rfl : fn = Tryz.f10 := (Option.some.inj (Tryz.func10.symm.trans hfn)).symm
      exact ⟨by kernel_rfl, fun j t ht => by
        rw [Tryz.params10] at ht
        match j, ht with
        | 0, ht => (obtain rfl : t = 3 := by simpa using ht.symm); exact (show Tryz.prog.wantsStandIn 3 = false by kernel_rfl)
        | 1, ht => (obtain rfl : t = 9 := by simpa using ht.symm); exact (show Tryz.prog.wantsStandIn 9 = false by kernel_rfl)
        | 2, ht => (obtain rfl : t = 73 := by simpa using ht.symm); exact (show Tryz.prog.wantsStandIn 73 = false by kernel_rfl)
        | j + 3, ht => exact absurd ht (by simp)⟩)
    (by kernel_rfl)
#print axioms proved
end Go.Proofs.YtfgpigblnkanpaaGreatDoor.journalPlays
