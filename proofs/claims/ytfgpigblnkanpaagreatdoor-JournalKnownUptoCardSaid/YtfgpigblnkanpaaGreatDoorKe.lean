/- The power is brought back, and the journal opened: the walk of anew. -/
import Derived.Test.YtfgpigblnkanpaaGreatDoorHL
namespace Go.Proofs.YtfgpigblnkanpaaGreatDoor
open Go.RowKit Go.Maps Go.Shelf
set_option linter.unusedVariables false
set_option linter.unusedSimpArgs false

/-- A disk of the law's and a book beside it. -/
structure KIn (w0 w : World) (bb g : Nat) (d : Dk) (N : Nat) (va : Value) (R : List Nm) (more : Bool) (rec : Nm) (no : Bool) (A : List Nat) : Prop where
  m : Mine w0 w (va.ownBlock.toList ++ [bb]) A g d N
  box : Blk w bb [va, .bool more, strV rec, .bool no] 76
  row : w.ownsRow w0.heap.size 9 1 va R.length (R.map strV)
  base : w0.heap.size ≤ bb
  ne : ∀ k, va.ownBlock = some k → k ≠ bb
/-- A journal of the law's and a book beside it, that tells what stands on the disk. -/
structure KJ (w0 w : World) (bb g jb : Nat) (d : Dk) (N : Nat) (nm : Nm) (n : Nat) (va : Value) (R : List Nm) (A : List Nat) : Prop where
  j : Jl w0 w (va.ownBlock.toList ++ [bb]) A jb g d N nm n false
  box : Blk w bb [va, .bool false, strV [], .bool false] 76
  row : w.ownsRow w0.heap.size 9 1 va R.length (R.map strV)
  base : w0.heap.size ≤ bb
  ne : ∀ k, va.ownBlock = some k → k ≠ bb
  st : Stand d nm (jframes R)
  small : ∀ r ∈ R, r.length ≤ 16777216
theorem KJ.dk {w0 w : World} {bb g jb : Nat} {d : Dk} {N : Nat} {nm : Nm} {n : Nat} {va : Value} {R : List Nm} {A : List Nat} (h : KJ w0 w bb g jb d N nm n va R A) : KIn w0 w bb g d N va R false [] false A := ⟨h.j.disk, h.box, h.row, h.base, h.ne⟩
theorem jframes_many : ∀ l : List Nm, l.length ≤ (jframes l).length
  | [] => Nat.zero_le _
  | r :: l => by
    rw [jframes_cons, List.length_append, List.length_cons]
    have h1 := jframes_many l
    have h2 := jframe_len r
    omega
theorem Stand.few {d : Dk} {nm : Nm} {R : List Nm} {N : Nat} (h : Stand d nm (jframes R)) (hb : DkB d N) : R.length ≤ 268435456 := by
  obtain ⟨f, h1, h2, h3, h4, h5, h6⟩ := h.get
  have h7 := hb.data _ (fat_mem h6)
  rw [h4] at h7
  have h8 := jframes_many R
  have h9 := hb.room
  simp only at h7
  omega
/-- A book turned in its own block. -/
theorem Jl.book {w0 w w' : World} {K A V : List Nat} {jb g : Nat} {d : Dk} {N : Nat} {nm : Nm} {n : Nat} {c : Bool} {bb : Nat} (h : Jl w0 w K A jb g d N nm n c) {B : List Nat} (hs : Stp B (bb :: V) w w') (hB : ∀ k ∈ B, k ∈ K ∧ w0.heap.size ≤ k) (hbb : bb ∈ K) (hV : ∀ k ∈ V, k < w'.heap.size) : Jl w0 w' (V ++ [bb]) A jb g d N nm n c := by
  have hjB : jb ∉ B := fun hm => h.out (hB jb hm).1
  have hVn : ∀ k ∈ V, k ∈ K ∨ w.heap.size ≤ k := fun k hk => (hs.inn k (List.mem_cons_of_mem _ hk)).imp (fun h2 => (hB k h2).1) id
  have hfar : ∀ k, k ∈ K ∨ w.heap.size ≤ k → k ∉ A ∧ k ≠ jb := fun k hk => by
    rcases hk with hk | hk
    · exact ⟨(h.m.far k (List.mem_cons_of_mem _ hk)).2, fun e => h.out (e ▸ hk)⟩
    · exact ⟨fun hm => by have := h.m.hd.lt k hm; omega, fun e => by have := h.j.lt; omega⟩
  refine ⟨⟨h.m.hd.other hs (fun k hk hm => (h.m.far k (List.mem_cons_of_mem _ (hB k hm).1)).2 hk), h.m.base, h.m.bel.trans (hs.below (fun k hk => (hB k hk).2) h.m.bel.size), fun k hk => ?_⟩, h.j.same (hs.block jb h.j.lt hjB), h.base, fun hm => ?_, h.len⟩
  · rcases List.mem_cons.1 hk with rfl | hk
    · exact ⟨Nat.lt_of_lt_of_le h.j.lt hs.size, (h.m.far _ List.mem_cons_self).2⟩
    · rcases List.mem_append.1 hk with hk | hk
      · exact ⟨hV k hk, (hfar k (hVn k hk)).1⟩
      · simp at hk
        subst hk
        exact ⟨Nat.lt_of_lt_of_le (h.m.far k (List.mem_cons_of_mem _ hbb)).1 hs.size, (h.m.far k (List.mem_cons_of_mem _ hbb)).2⟩
  · rcases List.mem_append.1 hm with hk | hk
    · exact (hfar jb (hVn jb hk)).2 rfl
    · simp at hk
      subst hk
      exact h.out hbb
/-- What the disk may be when the journal is opened anew. -/
def KReady (d : Dk) (nm : Nm) (R : List Nm) (more : Bool) (rec : Nm) (no : Bool) : Prop :=
  (Stand d nm (jframes R) ∧ (∀ r ∈ R, r.length ≤ 16777216)) ∨ (∃ y, Fell d nm y ∧ BkOk R (jbegin y).1 more rec no) ∨ (∃ room, d = dnew room ∧ R = [])
theorem KReady.opened {d : Dk} {nm : Nm} {R : List Nm} {more : Bool} {rec : Nm} {no : Bool} (h : KReady d nm R more rec no) (hn : 1 ≤ nm.length ∧ nm.length ≤ 199) :
    ((jstart (drevive d) nm).e = 0 ∧ Stand (jstart (drevive d) nm).d nm (jframes (jstart (drevive d) nm).l) ∧ (∀ r ∈ (jstart (drevive d) nm).l, r.length ≤ 16777216) ∧ BkOk R (jstart (drevive d) nm).l more rec no) ∨
    ((jstart (drevive d) nm).e = 20 ∧ ∃ y, Fell (jstart (drevive d) nm).d nm y ∧ BkOk R (jbegin y).1 more rec no) ∨ (jstart (drevive d) nm).e = 19 := by
  rcases h with ⟨h1, h2⟩ | ⟨y, h1, h2⟩ | ⟨room, rfl, rfl⟩
  · have e : drevive d = d := by unfold drevive; have := h1.on; cases d; simp at this; subst this; rfl
    rw [e]
    rcases jstart_stand h1 h2 with ⟨a, b, c⟩ | ⟨a, b, _⟩
    · exact Or.inl ⟨a, by rw [b]; exact c, by rw [b]; exact h2, by rw [b]; exact Or.inl rfl⟩
    · exact Or.inr (Or.inl ⟨a, _, b, by rw [jbegin_all h2]; exact Or.inl rfl⟩)
  · rcases jstart_fell h1 hn with ⟨a, b, c⟩ | a
    · exact Or.inl ⟨a, by rw [b]; exact c, by rw [b]; exact (jbegin_take y.length y (Nat.le_refl _)).2, by rw [b]; exact h2⟩
    · exact Or.inr (Or.inr a)
  · obtain ⟨a, b, c⟩ := jstart_first room hn
    exact Or.inl ⟨a, by rw [show drevive (dnew room) = dnew room from rfl, b]; exact c, by rw [show drevive (dnew room) = dnew room from rfl, b]; exact fun r hr => (by cases hr), by rw [show drevive (dnew room) = dnew room from rfl, b]; exact Or.inl rfl⟩
theorem Fell.arm {d : Dk} {nm : Nm} {y : List UInt8} (h : Fell d nm y) : Fell (darm d 0 []) nm y := ⟨h.off, ⟨h.ok.now, h.ok.safe, h.ok.nowIn, h.ok.safeIn, h.ok.pendIn, h.ok.safeLe⟩, rfl, h.pend, h.same, h.one⟩
/-- Behind anew. -/
def AnewPost (w0 : World) (bb g : Nat) (N : Nat) (nm : Nm) (F : Prop) (e : Ending) (w' : World) : Prop :=
  (∃ jb d' vb L A', e = .returned (.tuple #[.pointer (some ⟨jb, 0, none⟩), .bool true]) ∧ KJ w0 w' bb g jb d' (N + 30) nm L.length vb L A') ∨ (e = .returned (.tuple #[.pointer none, .bool true]) ∧ ¬ F ∧ Below w0.heap.size w0 w')
/-- Between the rounds. -/
def AnewSt (w0 wr : World) (bb g N : Nat) (nm : Nm) (va : Value) (R : List Nm) (more : Bool) (rec : Nm) (no : Bool) (F : Prop) (k : Nat) : Prop :=
  ∃ d A, (F → ∃ room, d = dnew room ∧ R = []) ∧ KIn w0 wr bb g d (N + 10 * k) va R more rec no A ∧ KReady d nm R more rec no ∧ (k = 1 → ∃ y, Fell d nm y ∧ BkOk R (jbegin y).1 more rec no)
theorem dread_few {d : Dk} {N : Nat} (hb : DkB d N) (m : Nm) : (dread d m).1.length ≤ 268435456 := by
  have h2 := hb.room
  unfold dread
  split
  · simp
  · split
    · simp
    · rename_i f _
      have h1 := fat_in d d.room hb.data f
      simp only
      omega
theorem jfill_few {d : Dk} {N : Nat} (hb : DkB d N) (nm : Nm) : (jfill d nm).l.length ≤ 268435456 := by
  have hx := dread_few hb nm
  have hy := (jbegin_le _ (dread d nm).1 (Nat.le_refl _)).2
  have hr : ∀ (e : Dk) (l : List Nm), (jrest e nm l).l.length ≤ l.length := by
    intro e l
    unfold jrest
    split <;> simp
  unfold jfill
  split
  · split
    · simp
    · exact Nat.le_trans (hr _ _) (by simp)
  · split
    · split
      · split
        · simp
        · exact Nat.le_trans (hr _ _) (by omega)
      · exact Nat.le_trans (hr _ _) (by omega)
    · simp
theorem jstart_few {d : Dk} {N : Nat} (hb : DkB d N) (hk : DkOk d) (nm : Nm) (hn : nm.length ≤ 199) : (jstart d nm).l.length ≤ 268435456 := by
  have hh : (jhandN nm).length ≤ 9223372036854775807 := by simp [jhandN]; omega
  unfold jstart
  split
  · split
    · simp
    · split
      · simp
      · exact jfill_few ((hb.do hk _ (show odOk (.remove (jhandN nm)) from hh)).do (hk.do _) .flush trivial) nm
  · exact jfill_few hb nm
theorem KIn.kept {w0 w w' : World} {bb g : Nat} {d d' : Dk} {N N' : Nat} {va : Value} {R : List Nm} {more : Bool} {rec : Nm} {no : Bool} {A A' : List Nat} (h : KIn w0 w bb g d N va R more rec no A) (hm : Mine w0 w' (va.ownBlock.toList ++ [bb]) A' g d' N') (hk : ∀ k ∈ va.ownBlock.toList ++ [bb], w'.heap[k]? = w.heap[k]?) : KIn w0 w' bb g d' N' va R more rec no A' := ⟨hm, h.box.same (hk bb (by simp)), ownsRow_same h.row (fun k hk2 => hk k (by simp [hk2])), h.base, h.ne⟩
theorem KIn.below {w0 w w' : World} {bb g : Nat} {d : Dk} {N : Nat} {va : Value} {R : List Nm} {more : Bool} {rec : Nm} {no : Bool} {A : List Nat} (h : KIn w0 w bb g d N va R more rec no A) (hb : Below w.heap.size w w') : KIn w0 w' bb g d N va R more rec no A := h.kept (h.m.below hb) fun k hk => hb.block k (h.m.far k hk).1
theorem KReady.round {d : Dk} {nm : Nm} {R : List Nm} {more : Bool} {rec : Nm} {no : Bool} (hn : 1 ≤ nm.length ∧ nm.length ≤ 199) {k : Nat} (hk : k ≤ 1) {F : Prop} (hF : F → ∃ room, d = dnew room ∧ R = []) (h : KReady d nm R more rec no) (hf : k = 1 → ∃ y, Fell d nm y ∧ BkOk R (jbegin y).1 more rec no) :
    ((jstart (drevive d) nm).e = 0 ∧ Stand (jstart (drevive d) nm).d nm (jframes (jstart (drevive d) nm).l) ∧ (∀ r ∈ (jstart (drevive d) nm).l, r.length ≤ 16777216) ∧ BkOk R (jstart (drevive d) nm).l more rec no) ∨
    (k = 0 ∧ ¬ F ∧ (jstart (drevive d) nm).e = 20 ∧ ∃ y, Fell (jstart (drevive d) nm).d nm y ∧ BkOk R (jbegin y).1 more rec no) ∨ (¬ F ∧ (jstart (drevive d) nm).e = 19) := by
  by_cases hF1 : F
  · obtain ⟨room, rfl, rfl⟩ := hF hF1
    obtain ⟨a, b, c⟩ := jstart_first room hn
    exact Or.inl ⟨a, by rw [show drevive (dnew room) = dnew room from rfl, b]; exact c, by rw [show drevive (dnew room) = dnew room from rfl, b]; exact fun r hr => (by cases hr), by rw [show drevive (dnew room) = dnew room from rfl, b]; exact Or.inl rfl⟩
  by_cases h1 : k = 1
  · obtain ⟨y, h2, h3⟩ := hf h1
    rcases jstart_fell h2 hn with ⟨a, b, c⟩ | a
    · exact Or.inl ⟨a, by rw [b]; exact c, by rw [b]; exact (jbegin_take y.length y (Nat.le_refl _)).2, by rw [b]; exact h3⟩
    · exact Or.inr (Or.inr ⟨hF1, a⟩)
  · rcases h.opened hn with a | a | a
    · exact Or.inl a
    · exact Or.inr (Or.inl ⟨by omega, hF1, a⟩)
    · exact Or.inr (Or.inr ⟨hF1, a⟩)
set_option maxHeartbeats 8000000 in
set_option maxRecDepth 100000 in
theorem anew_any (w0 w : World) (bb g : Nat) (d : Dk) (N : Nat) (nm : Nm) (va : Value) (R : List Nm) (more : Bool) (rec : Nm) (no : Bool) (A : List Nat) {F : Prop} (hF : F → ∃ room, d = dnew room ∧ R = []) (h : KIn w0 w bb g d N va R more rec no A) (hr : KReady d nm R more rec no) (hn : 1 ≤ nm.length ∧ nm.length ≤ 199) (hN : N + 40 < 4294967296) (hR : R.length ≤ 4294967295) (hg : ErrorLaid w0) :
    Calls Tryz.prog 44 #[.pointer (some ⟨bb, 0, none⟩), .pointer (some ⟨g, 0, none⟩), strV nm] w (AnewPost w0 bb g N nm F) := by
  have hst : AnewSt w0 w bb g N nm va R more rec no F 0 := ⟨d, A, hF, h, hr, fun e => absurd e (by decide)⟩
  have HST := Lib.hid hst
  have HG := Lib.hid hg
  clear h hr hst hg hF
  go_enter Tryz.func44, Tryz.ntmps44
  go_wp2_with (fail)
  go_loopw [8] (fun iv wr => ∃ k : Nat, iv = .int .i64 k ∧ k ≤ 1 ∧ Hid (AnewSt w0 wr bb g N nm va R more rec no F k)) (fun iv _ => 3 - (intOf iv).toNat)
  case atStart => exact ⟨0, rfl, Nat.zero_le _, HST.out⟩
  case round =>
    clear HST
    obtain ⟨k, rfl, hk, hst⟩ := hrel
    obtain ⟨d, A, hF, hin, hrd, hfe⟩ := hst.out
    have hop := hrd.round hn hk hF hfe
    have hRv := Revive_hd hin.m.hd
    have HIN := Lib.hid hin
    have HOP := Lib.hid hop
    have HRV := Lib.hid hRv
    clear hst hin hrd hfe hop hRv hF
    have h3 : (k : Int) < 3 := by omega
    go_wp2_with (fail)
    refine HRV.out.mono ?_
    rintro e w1 ⟨rfl, hto⟩
    obtain ⟨⟨A1, hm1⟩, hk1⟩ := HIN.out.m.to hto
    have hin1 := HIN.out.kept hm1 hk1
    have hfew := jstart_few hm1.hd.bd hm1.hd.ok nm hn.2
    have hO := jOpen_any hm1 hn (by omega) hm1.hd.bd.small rfl (by omega)
    have HIN1 := Lib.hid hin1
    have HO := Lib.hid hO
    have HFEW := Lib.hid hfew
    clear hto hm1 hk1 hin1 hfew hO HIN HRV
    generalize hJ : jstart (drevive d) nm = J at *
    clear hJ
    go_wp2_with (fail)
    refine HO.out.mono ?_
    rintro e w2 (⟨hz, rfl, ⟨A2, hm2⟩, hk2⟩ | ⟨hz, jb, v, A2, rfl, hJl, hk2, htx, hjb, hcp⟩)
    · have hin2 := HIN1.out.kept hm2 hk2
      have HIN2 := Lib.hid hin2
      have hg2 := HG.out.below hm2.bel
      clear hm2 hk2 hin2 HIN1 HO
      rcases HOP.out with ⟨a, -⟩ | ⟨hk0, hnF, a, y, hy1, hy2⟩ | ⟨hnF, a⟩
      · exact absurd a hz
      · have hpl := Plain_same 20 w2 (by omega) hg2
        rw [a]
        rw [errV_some (n := 20) (by omega)] at hpl ⊢
        have HPL := Lib.hid hpl
        have HY1 := Lib.hid hy1
        have HNF := Lib.hid hnF
        clear hnF
        have HY2 := Lib.hid hy2
        clear hpl hg2 hy1 hy2 hz a HOP
        subst hk0
        go_wp2_with (fail)
        refine HPL.out.mono ?_
        rintro e w3 ⟨rfl, hb3⟩
        have hin3 := HIN2.out.below hb3
        have hA := Arm_hd hin3.m.hd 0 (.slice none 0 0) [] (IntsAt.nil _ none 0) (by simp) (fun x hx => by cases hx) (by omega) (fun j hj => by simp [usesOf] at hj)
        have HIN3 := Lib.hid hin3
        have HA := Lib.hid hA
        clear hb3 hin3 hA HIN2 HPL
        go_wp2_with (fail)
        refine HA.out.mono ?_
        rintro e w4 ⟨rfl, hto⟩
        obtain ⟨⟨A4, hm4⟩, hk4⟩ := HIN3.out.m.to hto
        have hst : AnewSt w0 w4 bb g N nm va R more rec no F 1 := ⟨_, A4, fun hf => absurd hf HNF.out, HIN3.out.kept (hm4.mono (by omega)) hk4, Or.inr (Or.inl ⟨y, HY1.out.arm, HY2.out⟩), fun _ => ⟨y, HY1.out.arm, HY2.out⟩⟩
        have HST := Lib.hid hst
        clear hst hto hm4 hk4 HIN3 HA HY1 HY2
        go_wp2
        go_roundw
        case rel => exact ⟨1, by go_num, by omega, HST.out⟩
        case measure => simp [intOf]; try omega
      · have hp1 := Plain_other 19 20 w2 (by omega) (by omega) (by omega)
        rw [a]
        have hp2 := fun W (hb : Below w2.heap.size w2 W) => Plain_same 19 W (by omega) (hg2.below hb)
        rw [errV_some (n := 19) (by omega)] at hp1 hp2 ⊢
        have HP1 := Lib.hid hp1
        have HNF := Lib.hid hnF
        clear hnF
        have HP2 := Lib.hid hp2
        clear hp1 hp2 hg2 hz a HOP
        go_wp2_with (fail)
        refine HP1.out.mono ?_
        rintro e w3 ⟨rfl, hb3⟩
        have HP3 := Lib.hid (HP2.out w3 hb3)
        have HB3 := Lib.hid hb3
        clear hb3 HP1 HP2
        go_wp2_with (fail)
        refine HP3.out.mono ?_
        rintro e w4 ⟨rfl, hb4⟩
        have hb : Below w0.heap.size w0 w4 := HIN2.out.m.bel.trans ((HB3.out.trans (hb4.mono HB3.out.size)).mono HIN2.out.m.bel.size)
        have HB := Lib.hid hb
        clear hb hb4 HB3 HP3 HIN2
        go_wp2
        go_ret2
        exact Or.inr ⟨rfl, HNF.out, HB.out⟩
    · rcases HOP.out with ⟨-, h1, h2, h3b⟩ | ⟨-, -, a, -⟩ | ⟨-, a⟩
      · have hbK : ∀ k, k ∈ va.ownBlock.toList ++ [bb] → w2.heap[k]? = w1.heap[k]? := hk2
        have hbx := HIN1.out.box.same (hk2 bb (by simp))
        have hrow := ownsRow_same HIN1.out.row (w' := w2) (fun k hk => hk2 k (by simp [hk]))
        have hva : TextsAt w2 va R := RowAt.of_row hrow
        have hB : w0.heap.size ≤ w2.heap.size := hJl.m.bel.size
        have hfew := HFEW.out
        have hRt := right_any w2 bb w0.heap.size va v R J.l more rec no hbx hva.sh htx.sh hcp hB (by omega) (by omega) h3b
        have HRT := Lib.hid hRt
        have HJL := Lib.hid hJl
        have HIN := Lib.hid HIN1.out.base
        have HH1 := Lib.hid h1
        have HH2 := Lib.hid h2
        have hlt := hbx.lt
        obtain ⟨vp, vc, hve⟩ : ∃ p c, v = .slice p J.l.length c := by obtain ⟨p, c, e, -⟩ := htx.sh; exact ⟨p, c, e⟩
        subst hve
        clear hRt hJl hk2 htx hjb hcp hbx hrow hva hB hfew h1 h2 h3b HIN1 HOP HFEW HO hbK hz
        go_wp2_with (fail)
        refine HRT.out.mono ?_
        rintro e w3 ⟨rfl, vb, hx3, ho3, hv3, hs3⟩
        have hkj : KJ w0 w3 bb g jb J.d (N + 30) nm J.l.length vb J.l A2 := by
          refine ⟨(HJL.out.book hs3 (fun k hk => by simp at hk; subst hk; exact ⟨by simp, HIN.out⟩) (by simp) (fun k hk => (ho3.lt k (by simpa using hk)).2)).mono (by omega), hx3, ho3, HIN.out, fun k hk e => ?_, HH1.out, HH2.out⟩
          have := hv3 k hk
          omega
        have HKJ := Lib.hid hkj
        clear hkj hx3 ho3 hv3 hs3 HRT HJL
        go_wp2
        go_ret2
        exact Or.inl ⟨jb, J.d, vb, J.l, A2, rfl, HKJ.out⟩
      · exact absurd hz (by omega)
      · exact absurd hz (by omega)
end Go.Proofs.YtfgpigblnkanpaaGreatDoor
