/- The document's disk: Crash. The document's disk: List. Things that lie in memory within blocks of their own, beside each other; without the program. The document's disk: what an operation lays anew. The document's disk: Do: what it starts from. -/
import Derived.Test.YtfgpigblnkanpaaGreatDoorRk
import Derived.Test.YtfgpigblnkanpaaGreatDoorGH
import Derived.Maps.AppendAt
namespace Go.Proofs.YtfgpigblnkanpaaGreatDoor
open Go.RowKit Go.Maps Go.Shelf
set_option linter.unusedVariables false

theorem rCrash_any (w : World) (g : Nat) (fv nv sv pv kv av : Value) (d : Dk) (keep : List Int) (N : Nat) (h : RefIn w g fv nv sv pv kv d) (hok : DkOk d) (hbd : DkB d N) (hN : N ≤ 1073741824) (hi : IntsAt w av keep) (hkl : keep.length ≤ 4294967296) (ha : ∀ j, usesOf av keep = some j → j ≠ g ∧ fv.ownBlock ≠ some j ∧ j < w.heap.size) (hoff : d.off = false) :
    Calls Tryz.prog 77 #[.pointer (some ⟨g, 0, none⟩), av] w (RFailPost w g fv sv (dfail d keep)) := by
  have HF := Lib.hid (rFail_any w g fv nv sv pv kv av d keep N h hok hbd hN hi hkl ha)
  obtain ⟨c0, c1, c2, c3, c4, c5, c6, c7⟩ := h.cells
  rw [hoff] at c0
  clear h hok hbd hi ha
  go_enter Tryz.func77, Tryz.ntmps77
  go_wp2_with (fail)
  refine HF.out.mono ?_
  rintro e w1 h1
  have h2 := h1.1
  subst h2
  have H1 := Lib.hid h1
  clear h1 HF
  go_wp2
  go_end0
  exact H1.out
theorem rCrash_off (w : World) (g : Nat) (fv nv sv pv kv av : Value) (d : Dk) (h : RefIn w g fv nv sv pv kv d) (hoff : d.off = true) :
    Calls Tryz.prog 77 #[.pointer (some ⟨g, 0, none⟩), av] w fun e w' => e = .returned (.tuple #[]) ∧ w' = w := by
  obtain ⟨c0, c1, c2, c3, c4, c5, c6, c7⟩ := h.cells
  rw [hoff] at c0
  clear h
  go_enter Tryz.func77, Tryz.ntmps77
  go_wp2
  go_end0
  exact ⟨rfl, rfl⟩
end Go.Proofs.YtfgpigblnkanpaaGreatDoor

namespace Go.Proofs.YtfgpigblnkanpaaGreatDoor
open Go.RowKit Go.Maps Go.Shelf
set_option linter.unusedVariables false

theorem infoStrR : (Tryz.prog.info? 9).map (fun i => (i.zero, i.size, i.bytes)) = some (some (strV []), 1, 16) := by kernel_rfl
def tlist (t : Tb) (head : List UInt8) : List Nm := (t.map (·.1)).filter fun n => head.isPrefixOf n
theorem tlist_append (a b : Tb) (head : List UInt8) : tlist (a ++ b) head = tlist a head ++ tlist b head := by unfold tlist; simp
theorem tlist_len (t : Tb) (head : List UInt8) : (tlist t head).length ≤ t.length := by
  unfold tlist
  have := List.length_filter_le (fun n => head.isPrefixOf n) (t.map (·.1))
  simpa using this
set_option maxHeartbeats 4000000 in
set_option maxRecDepth 100000 in
theorem rList_any (w : World) (g : Nat) (fv nv sv pv kv : Value) (d : Dk) (head : List UInt8) (h : RefIn w g fv nv sv pv kv d) (hl : d.now.length ≤ 4294967296) :
    Calls Tryz.prog 73 #[.pointer (some ⟨g, 0, none⟩), strV head] w fun e w' => ∃ v', e = .returned (.tuple #[v', .int .i64 (if d.off = true then 20 else 0)]) ∧ w'.ownsRow w.heap.size 9 1 v' (dlist d head).length ((dlist d head).map strV) ∧ Below w.heap.size w w' := by
  obtain ⟨i0, hi, hz0, hz1, hz2⟩ := info_parts infoStrR
  obtain ⟨c0, c1, c2, c3, c4, c5, c6, c7⟩ := h.cells
  by_cases hoff : d.off = true
  · have e : dlist d head = [] := by unfold dlist; rw [if_pos hoff]
    rw [e, if_pos hoff]
    rw [hoff] at c0
    clear h hoff e
    go_enter Tryz.func73, Tryz.ntmps73
    go_wp2
    go_ret2
    exact ⟨_, rfl, World.ownsRow_nil _ _ _ _, Below.refl _ _⟩
  · have hoff' : d.off = false := by simpa using hoff
    have e : dlist d head = tlist d.now head := by unfold dlist; rw [if_neg hoff]; rfl
    rw [e, if_neg hoff]
    rw [hoff'] at c0
    have HH := Lib.hid h
    have hg := h.blk.lt
    have hN := h.now
    obtain ⟨na, nc, rfl, -⟩ := hN
    have hszh := str_size head
    clear h hoff hoff' e
    generalize hT : d.now = t at *
    go_enter Tryz.func73, Tryz.ntmps73
    go_wp2_with (fail)
    go_loopw [6, 7] (fun u iv wr => ∃ k : Nat, iv = .int .i64 k ∧ k ≤ t.length ∧ wr.ownsRow w.heap.size 9 1 u (tlist (t.take k) head).length ((tlist (t.take k) head).map strV) ∧ Below w.heap.size w wr) (fun _ iv _ => t.length - (intOf iv).toNat)
    case atStart => exact ⟨0, rfl, Nat.zero_le _, World.ownsRow_nil _ _ _ _, Below.refl _ _⟩
    case round =>
      obtain ⟨k, rfl, hk, hown, hbel⟩ := hrel
      have hsz := hbel.size
      have d3 := (hbel.cell (p := ⟨g, 3, none⟩) hg).trans c3
      by_cases hlt : k < t.length
      · obtain ⟨x, hx⟩ : ∃ x, t[k]? = some x := ⟨_, List.getElem?_eq_getElem hlt⟩
        have hnow := (HH.out.below hbel).now
        rw [hT] at hnow
        obtain ⟨_, _, hwe, hrx⟩ := hnow
        simp only [Value.slice.injEq] at hwe
        obtain ⟨rfl, -, rfl⟩ := hwe
        obtain ⟨b, off, rfl, s0, s1⟩ := hrx k x hx
        have htk : t.take (k + 1) = t.take k ++ [x] := by rw [List.take_add_one, hx]; rfl
        have hlen := tlist_len (t.take k) head
        rw [List.length_take] at hlen
        have ik0 : (0 : Int) ≤ (k : Int) := by omega
        have ik1 : (k : Int) < (t.length : Int) := by omega
        have hszx := str_size x.1
        have hxe : (str x.1).extract 0 head.length = str (x.1.take head.length) := by rw [str_extract]; simp
        by_cases hge : head.length ≤ x.1.length
        · have ig : (head.length : Int) ≤ (x.1.length : Int) := by omega
          by_cases hq : x.1.take head.length = head
          · have hpre : head.isPrefixOf x.1 = true := List.isPrefixOf_iff_prefix.2 (List.prefix_iff_eq_take.2 hq.symm)
            have hb : ((str (x.1.take head.length)).toList == (str head).toList) = true := by rw [hq]; simp
            have ht : tlist (t.take (k + 1)) head = tlist (t.take k) head ++ [x.1] := by rw [htk, tlist_append]; simp [tlist, hpre]
            have HT := Lib.hid (show (tlist (t.take (k + 1)) head).length = (tlist (t.take k) head).length + 1 by rw [ht]; simp)
            have HT2 := Lib.hid (show (tlist (t.take (k + 1)) head).map strV = (tlist (t.take k) head).map strV ++ [strV x.1] by rw [ht]; simp)
            have HB := Lib.hid hbel
            have HLT := Lib.hid hown.lt
            clear hx hrx htk hq hpre ht hbel
            generalize (tlist (t.take k) head).map strV = xs at *
            generalize (tlist (t.take k) head).length = m at *
            go_wp2_with (at_builtin; refine wpList_append_own _ rfl _ _ 37 rfl w.heap.size 9 i0 (strV []) 1 16 Tryz.underlying37 hi hz0 hz1 hz2 rfl (by decide) _ m xs rfl (hown.alloc _) ⟨wr.heap.size, 0, none⟩ 1 1 [strV x.1] rfl rfl ?c1 ?c2 ?c3 ?c4 ?c5 ?_)
            case c1 => exact World.news_of_block (cs := #[strV x.1]) (t := 9) (fr := (0, 0)) (heap_alloc_new wr _)
            case c2 => intro u hu; simp at hu; subst hu; rfl
            case c3 => unfold maxLen; omega
            case c4 => omega
            case c5 => simp; omega
            intro v' w5 hown5 hgrow5 hv5
            have hbel5 : Below w.heap.size w w5 := (HB.out.alloc hsz _).grown hgrow5 (by simp; omega) (fun j hj => (HLT.out j hj).1)
            rw [← HT2.out, show m + 1 = (tlist (t.take (k + 1)) head).length from HT.out.symm] at hown5
            have HO5 := Lib.hid hown5
            have HB5 := Lib.hid hbel5
            clear hown5 hgrow5 hv5 hown hbel5
            go_wp2
            go_roundw
            case rel => exact ⟨k + 1, by go_num, by omega, HO5.out, HB5.out⟩
            case measure => simp [intOf]; omega
          · have hpre : head.isPrefixOf x.1 = false := by
              cases hp : head.isPrefixOf x.1 with
              | false => rfl
              | true => exact absurd (List.prefix_iff_eq_take.1 (List.isPrefixOf_iff_prefix.1 hp)).symm hq
            have hb : ((str (x.1.take head.length)).toList == (str head).toList) = false := by rw [toList_str, toList_str]; simpa using hq
            have ht : tlist (t.take (k + 1)) head = tlist (t.take k) head := by rw [htk, tlist_append]; simp [tlist, hpre]
            rw [← ht] at hown
            have HO := Lib.hid hown
            have HB := Lib.hid hbel
            clear hx hrx htk hq hpre ht hbel hown hlen
            go_wp2
            go_roundw
            case rel => exact ⟨k + 1, by go_num, by omega, HO.out, HB.out⟩
            case measure => simp [intOf]; omega
        · have ig : ¬ (head.length : Int) ≤ (x.1.length : Int) := by omega
          have hpre : head.isPrefixOf x.1 = false := by
            cases hp : head.isPrefixOf x.1 with
            | false => rfl
            | true => exact absurd (List.isPrefixOf_iff_prefix.1 hp).length_le hge
          have ht : tlist (t.take (k + 1)) head = tlist (t.take k) head := by rw [htk, tlist_append]; simp [tlist, hpre]
          rw [← ht] at hown
          have HO := Lib.hid hown
          have HB := Lib.hid hbel
          clear hx hrx htk hpre ht hbel hown hlen hge
          go_wp2
          go_roundw
          case rel => exact ⟨k + 1, by go_num, by omega, HO.out, HB.out⟩
          case measure => simp [intOf]; omega
      · obtain rfl : k = t.length := by omega
        rw [List.take_length] at hown
        have HO := Lib.hid hown
        have HB := Lib.hid hbel
        clear hown hbel
        go_wp2
        go_ret2
        exact ⟨_, rfl, HO.out, HB.out⟩
end Go.Proofs.YtfgpigblnkanpaaGreatDoor

namespace Go.Proofs.YtfgpigblnkanpaaGreatDoor
open Go.RowKit Go.Maps Go.Shelf
set_option linter.unusedVariables false

/-- A thing that lies within blocks: nothing but a change of these blocks turns it. -/
structure Res (R : World → List Nat → Prop) : Prop where
  below : ∀ {w w' : World} {A : List Nat}, R w A → Below w.heap.size w w' → R w' A
  other : ∀ {w w' : World} {A B B' : List Nat}, R w A → Stp B B' w w' → (∀ k ∈ A, k ∉ B) → R w' A
  lt : ∀ {w : World} {A : List Nat}, R w A → ∀ k ∈ A, k < w.heap.size
theorem Hd.res (g : Nat) (d : Dk) (N : Nat) : Res fun w A => Hd w A g d N := ⟨fun h hb => h.below hb, fun h hs hn => h.other hs hn, fun h => h.lt⟩
theorem Rd2.res (g : Nat) (d : Dk) (N : Nat) : Res fun w A => Rd2 w A g d N := ⟨fun h hb => h.below hb, fun h hs hn => h.other hs hn, fun h => h.lt⟩
/-- Two things beside each other. -/
def Both (R S : World → List Nat → Prop) (w : World) (A : List Nat) : Prop :=
  ∃ A1 A2, R w A1 ∧ S w A2 ∧ (∀ k ∈ A1, k ∉ A2) ∧ (∀ k ∈ A1, k ∈ A) ∧ (∀ k ∈ A2, k ∈ A) ∧ ∀ k ∈ A, k < w.heap.size
section
variable {R S R' S' : World → List Nat → Prop} {w w' : World} {A : List Nat}
theorem Both.res (hR : Res R) (hS : Res S) : Res (Both R S) := by
  refine ⟨?_, ?_, ?_⟩
  · rintro w w' A ⟨A1, A2, h1, h2, h3, h4, h5, h6⟩ hb
    exact ⟨A1, A2, hR.below h1 hb, hS.below h2 hb, h3, h4, h5, fun k hk => Nat.lt_of_lt_of_le (h6 k hk) hb.size⟩
  · rintro w w' A B B' ⟨A1, A2, h1, h2, h3, h4, h5, h6⟩ hs hn
    exact ⟨A1, A2, hR.other h1 hs fun k hk => hn k (h4 k hk), hS.other h2 hs fun k hk => hn k (h5 k hk), h3, h4, h5, fun k hk => Nat.lt_of_lt_of_le (h6 k hk) hs.size⟩
  · rintro w A ⟨A1, A2, h1, h2, h3, h4, h5, h6⟩
    exact h6
theorem Both.swap (h : Both R S w A) : Both S R w A := by
  obtain ⟨A1, A2, h1, h2, h3, h4, h5, h6⟩ := h
  exact ⟨A2, A1, h2, h1, fun k hk hk2 => h3 k hk2 hk, h5, h4, h6⟩
theorem Both.map (h : Both R S w A) (f : ∀ B, R w B → R' w B) (g : ∀ B, S w B → S' w B) : Both R' S' w A := by
  obtain ⟨A1, A2, h1, h2, h3, h4, h5, h6⟩ := h
  exact ⟨A1, A2, f _ h1, g _ h2, h3, h4, h5, h6⟩
/-- A call on the first of two. -/
theorem Both.step (hS : Res S) {A1 A2 A1' : List Nat} (h2 : S w A2) (h3 : ∀ k ∈ A1, k ∉ A2) (h4 : ∀ k ∈ A1, k ∈ A) (h5 : ∀ k ∈ A2, k ∈ A) (hR : Res R') (hr : R' w' A1') (hs : Stp A1 A1' w w') : ∃ A', Both R' S w' A' ∧ Stp A A' w w' := by
  have hlt := hS.lt h2
  have h7 := hR.lt hr
  refine ⟨A1' ++ A2, ⟨A1', A2, hr, hS.other h2 hs (fun k hk hk2 => h3 k hk2 hk), fun k hk hk2 => ?_, fun k hk => List.mem_append_left _ hk, fun k hk => List.mem_append_right _ hk, fun k hk => ?_⟩, ?_⟩
  · rcases hs.inn k hk with h | h
    · exact h3 k h hk2
    · have := hlt k hk2; omega
  · rcases List.mem_append.1 hk with h | h
    · exact h7 k h
    · exact Nat.lt_of_lt_of_le (hlt k h) hs.size
  · refine ⟨hs.os, hs.tape, hs.output, hs.size, fun k hk hn => hs.block k hk (fun e => hn (h4 k e)), fun k hk => ?_⟩
    rcases List.mem_append.1 hk with h | h
    · exact (hs.inn k h).imp (h4 k) id
    · exact Or.inl (h5 k h)
end
/-- Behind a call that answers with a thing turned. -/
def ResTo (R : World → List Nat → Prop) (A : List Nat) (w w' : World) : Prop := ∃ A', R w' A' ∧ Stp A A' w w'
section
variable {R S R' S' T : World → List Nat → Prop} {u w w' : World} {A : List Nat}
theorem ResTo.of_below (h : R w' A) (hb : Below w.heap.size w w') : ResTo R A w w' := ⟨A, h, Stp.of_below hb fun k hk => Or.inl hk⟩
theorem ResTo.then (h : ResTo R A u w) (h2 : ∀ B, R w B → ResTo S B w w') : ResTo S A u w' := by
  obtain ⟨B, h3, h4⟩ := h
  obtain ⟨C, h5, h6⟩ := h2 B h3
  exact ⟨C, h5, h4.trans h6⟩
theorem ResTo.map (h : ResTo R A u w) (h2 : ∀ B, R w B → S w B) : ResTo S A u w := by
  obtain ⟨B, h3, h4⟩ := h
  exact ⟨B, h2 B h3, h4⟩
theorem ResTo.below (hR : Res R) (h : ResTo R A u w) (hb : Below w.heap.size w w') : ResTo R A u w' := by
  obtain ⟨B, h3, h4⟩ := h
  exact ⟨B, hR.below h3 hb, h4.trans (Stp.of_below hb fun k hk => Or.inl hk)⟩
/-- A store in a block that is new since u. -/
theorem ResTo.put (hR : Res R) (h : ResTo R A u w) {b : Nat} (hb : u.heap.size ≤ b) (hn : ∀ B, R w B → Stp A B u w → b ∉ B) (a : Addr) (ha : a.block = b) (v : Value) : ResTo R A u (w.setCell a v) := by
  obtain ⟨B, h3, h4⟩ := h
  have hnb := hn B h3 h4
  have hs : Stp [b] [b] w (w.setCell a v) := Stp.of_set _ _ _ (by simp [ha]) (fun k hk => Or.inl hk)
  refine ⟨B, hR.other h3 hs (fun k hk hk2 => by simp at hk2; subst hk2; exact hnb hk), ⟨h4.os, h4.tape, h4.output, by simpa [World.setCell] using h4.size, fun k hk hk2 => ?_, h4.inn⟩⟩
  rw [hs.block k (Nat.lt_of_lt_of_le hk h4.size) (by simp; omega)]
  exact h4.block k hk hk2
/-- A thing made behind w0; the blocks K are none of its own. -/
structure MineR (w0 w : World) (K A : List Nat) (R : World → List Nat → Prop) : Prop where
  hd : R w A
  base : ∀ k ∈ A, w0.heap.size ≤ k
  bel : Below w0.heap.size w0 w
  far : ∀ k ∈ K, k < w.heap.size ∧ k ∉ A
theorem MineR.to {w0 : World} {K : List Nat} (h : MineR w0 w K A R) (ht : ResTo S A w w') : (∃ A', MineR w0 w' K A' S) ∧ ∀ k ∈ K, w'.heap[k]? = w.heap[k]? := by
  obtain ⟨A', h1, h2⟩ := ht
  refine ⟨⟨A', h1, h2.from h.base h.bel.size, h.bel.trans (h2.below h.base h.bel.size), fun k hk => ⟨Nat.lt_of_lt_of_le (h.far k hk).1 h2.size, fun hm => ?_⟩⟩, fun k hk => h2.block k (h.far k hk).1 (h.far k hk).2⟩
  rcases h2.inn k hm with h3 | h3
  · exact (h.far k hk).2 h3
  · have := (h.far k hk).1
    omega
theorem MineR.below {w0 : World} {K : List Nat} (hR : Res R) (h : MineR w0 w K A R) (hb : Below w.heap.size w w') : MineR w0 w' K A R :=
  ⟨hR.below h.hd hb, h.base, h.bel.trans (hb.mono h.bel.size), fun k hk => ⟨Nat.lt_of_lt_of_le (h.far k hk).1 hb.size, (h.far k hk).2⟩⟩
theorem MineR.less {w0 : World} {K M : List Nat} (h : MineR w0 w K A R) (hM : ∀ k ∈ M, k ∈ K) : MineR w0 w M A R := ⟨h.hd, h.base, h.bel, fun k hk => h.far k (hM k hk)⟩
theorem MineR.add {w0 : World} {K : List Nat} (hR : Res R) (h : MineR w0 w K A R) (hb : Below w.heap.size w w') (M : List Nat) (hM : ∀ k ∈ M, w.heap.size ≤ k ∧ k < w'.heap.size) : MineR w0 w' (M ++ K) A R := by
  have h2 := h.below hR hb
  refine ⟨h2.hd, h2.base, h2.bel, fun k hk => ?_⟩
  rcases List.mem_append.1 hk with h3 | h3
  · exact ⟨(hM k h3).2, fun hm => by have := hR.lt h.hd k hm; have := (hM k h3).1; omega⟩
  · exact h2.far k h3
theorem MineR.set {w0 : World} {K : List Nat} (hR : Res R) (h : MineR w0 w K A R) (a : Addr) (ha : a.block ∈ K) (hb : w0.heap.size ≤ a.block) (v : Value) : MineR w0 (w.setCell a v) K A R :=
  ⟨hR.other h.hd (Stp.of_set (A := [a.block]) (B := [a.block]) w a v (by simp) (fun k hk => Or.inl hk)) (fun k hk hk2 => by simp at hk2; subst hk2; exact (h.far _ ha).2 hk), h.base, h.bel.setCell hb v, fun k hk => ⟨by simpa [World.setCell] using (h.far k hk).1, (h.far k hk).2⟩⟩
/-- A thing of its own, made beside others. -/
theorem Both.made (hR : Res R) (hS : Res S) {A2 : List Nat} (h : R w A) (hb : Below w.heap.size w w') (hs : S w' A2) (hn : ∀ k ∈ A2, w.heap.size ≤ k) : ResTo (Both R S) A w w' := by
  have h1 := hR.lt h
  refine ⟨A ++ A2, ⟨A, A2, hR.below h hb, hs, fun k hk hk2 => by have := h1 k hk; have := hn k hk2; omega, fun k hk => List.mem_append_left _ hk, fun k hk => List.mem_append_right _ hk, fun k hk => ?_⟩, Stp.of_below hb fun k hk => ?_⟩
  · rcases List.mem_append.1 hk with h2 | h2
    · exact Nat.lt_of_lt_of_le (h1 k h2) hb.size
    · exact hS.lt hs k h2
  · exact (List.mem_append.1 hk).imp id (hn k)
end
end Go.Proofs.YtfgpigblnkanpaaGreatDoor

namespace Go.Proofs.YtfgpigblnkanpaaGreatDoor
open Go.RowKit Go.Maps Go.Shelf
set_option linter.unusedVariables false

theorem cellsF_append (a b : List Fl) : cellsF (a ++ b) = cellsF a ++ cellsF b := by unfold cellsF; simp
theorem cellsO_append (a b : List Pn) : cellsO (a ++ b) = cellsO a ++ cellsO b := by unfold cellsO; simp
theorem cellsF_data : ∀ (t : List Fl) (i : Nat) (x : List UInt8), i < t.length → cellsF (t.set i ⟨x, (fat t i).safe⟩) = (cellsF t).set (i * 2) (strV x)
  | [], i, x, h => by simp at h
  | y :: t, 0, x, h => rfl
  | y :: t, i + 1, x, h => by
    have := cellsF_data t i x (by simpa using h)
    rw [show (i + 1) * 2 = i * 2 + 1 + 1 from by omega]
    show strV y.data :: Value.int .i64 (y.safe : Nat) :: cellsF (t.set i ⟨x, (fat t i).safe⟩) = (strV y.data :: Value.int .i64 (y.safe : Nat) :: cellsF t).set (i * 2 + 1 + 1) (strV x)
    rw [this]
    rfl
theorem cellsF_safe : ∀ (t : List Fl) (i : Nat) (s : Nat), i < t.length → cellsF (t.set i ⟨(fat t i).data, s⟩) = (cellsF t).set (i * 2 + 1) (.int .i64 (s : Nat))
  | [], i, x, h => by simp at h
  | y :: t, 0, x, h => rfl
  | y :: t, i + 1, x, h => by
    have := cellsF_safe t i x (by simpa using h)
    rw [show (i + 1) * 2 + 1 = i * 2 + 1 + 1 + 1 from by omega]
    show strV y.data :: Value.int .i64 (y.safe : Nat) :: cellsF (t.set i ⟨(fat t i).data, x⟩) = (strV y.data :: Value.int .i64 (y.safe : Nat) :: cellsF t).set (i * 2 + 1 + 1 + 1) (.int .i64 (x : Nat))
    rw [this]
    rfl
section
variable {w w2 : World} {g : Nat} {fv nv sv pv kv : Value} {d : Dk}
/-- One cell of the files' row. -/
theorem RefIn.layCell (h : RefIn w g fv nv sv pv kv d) {b cap : Nat} (hfv : fv = .slice (some ⟨b, 0, none⟩) d.files.length cap) (j : Nat) (u : Value) (fs : List Fl) (hl : fs.length = d.files.length) (hc : cellsF fs = (cellsF d.files).set j u) :
    RefIn (w.setCell ⟨b, j, none⟩ u) g fv nv sv pv kv { d with files := fs } := by
  have hs : ∀ k, k ≠ b → (w.setCell ⟨b, j, none⟩ u).heap[k]? = w.heap[k]? := fun k hk => heap_setCell_other _ _ _ _ hk
  have hob : fv.ownBlock = some b := by rw [hfv]; rfl
  have hgb : g ≠ b := fun e => h.gf (by rw [hob, e])
  have hfb := h.fn b hob
  refine ⟨h.blk.same (hs g hgb), ?_, h.now.same fun k hk => hs k (fun e => hfb.1 (e ▸ hk)), h.safe.same fun k hk => hs k (fun e => hfb.2.1 (e ▸ hk)), ownsRow_same h.pend fun k hk => hs k (fun e => hfb.2.2.1 (e ▸ hk)), h.fate.same fun k hk => hs k (fun e => hfb.2.2.2 (e ▸ usesOf_own hk)), h.gf, h.gn, h.gs, h.gp, h.gk, h.fn, h.pn⟩
  have hF := h.files
  rw [hfv] at hF ⊢
  show World.ownsRow _ 0 162 2 _ fs.length (cellsF fs)
  rw [hl, hc]
  exact (hF.stored j u).1
theorem TabAt.keptBy {v : Value} {t : Tb} (h : TabAt w v t) {o : Option Nat} (hs : ∀ k, k < w.heap.size → some k ≠ o → w2.heap[k]? = w.heap[k]?) (hv : ∀ k, v.ownBlock = some k → some k ≠ o) : TabAt w2 v t := by
  obtain ⟨a, c, rfl, h2⟩ := h
  refine ⟨a, c, rfl, fun k x hx => ?_⟩
  obtain ⟨b, off, rfl, h4, h5⟩ := h2 k x hx
  have e := hs b (World.block_lt_of_cell? w _ h4) (hv b rfl)
  exact ⟨b, off, rfl, by rw [← h4]; unfold World.cell?; simp only [e], by rw [← h5]; unfold World.cell?; simp only [e]⟩
theorem grown_far {o : Option Nat} (hg : w.grownBy w2 o) : ∀ k, k < w.heap.size → some k ≠ o → w2.heap[k]? = w.heap[k]? := hg.block
/-- A file more. -/
theorem RefIn.addFile (h : RefIn w g fv nv sv pv kv d) (hlt : ∀ k ∈ rfoot g fv nv sv pv kv, k < w.heap.size) (hg : w.grownBy w2 fv.ownBlock) {fv' : Value} (hown : w2.ownsRow 0 162 2 fv' (d.files.length + 1) (cellsF d.files ++ [strV [], .int .i64 0])) (hv : fv'.ownBlock = fv.ownBlock ∨ ∃ b, fv'.ownBlock = some b ∧ w.heap.size ≤ b) :
    RefIn (w2.setCell ⟨g, 2, none⟩ fv') g fv' nv sv pv kv { d with files := d.files ++ [⟨[], 0⟩] } := by
  have hgl := h.blk.lt
  have hs : ∀ j, j ≠ g → (w2.setCell ⟨g, 2, none⟩ fv').heap[j]? = w2.heap[j]? := fun j hj => heap_setCell_other _ _ _ _ hj
  have hfar : ∀ k, k < w.heap.size → fv.ownBlock ≠ some k → w2.heap[k]? = w.heap[k]? := fun k hk hn => hg.block k hk (fun e => hn e.symm)
  have hgf' : fv'.ownBlock ≠ some g := fun e => by
    rcases hv with h1 | ⟨b, h1, h2⟩
    · exact h.gf (h1 ▸ e)
    · rw [h1] at e; simp at e; omega
  have hfn' : ∀ b, fv'.ownBlock = some b → nv.ownBlock ≠ some b ∧ sv.ownBlock ≠ some b ∧ pv.ownBlock ≠ some b ∧ kv.ownBlock ≠ some b := fun b hb => by
    rcases hv with h1 | ⟨c, h1, h2⟩
    · exact h.fn b (h1 ▸ hb)
    · rw [h1] at hb; simp at hb; subst hb
      refine ⟨fun e => ?_, fun e => ?_, fun e => ?_, fun e => ?_⟩
      · have := hlt c (rfoot_mem.2 (by simp [e])); omega
      · have := hlt c (rfoot_mem.2 (by simp [e])); omega
      · have := hlt c (rfoot_mem.2 (by simp [e])); omega
      · have := hlt c (rfoot_mem.2 (by simp [e])); omega
  have b2 : Blk w2 g [.bool d.off, .int .i64 (d.room : Nat), fv, nv, sv, pv, .int .i64 (d.armed : Nat), kv] 119 := h.blk.same (hfar g hgl h.gf)
  refine ⟨b2.set 2 fv', ?_, ?_, ?_, ?_, ?_, hgf', h.gn, h.gs, h.gp, h.gk, hfn', h.pn⟩
  · show World.ownsRow _ 0 162 2 fv' (d.files ++ [(⟨[], 0⟩ : Fl)]).length (cellsF (d.files ++ [(⟨[], 0⟩ : Fl)]))
    rw [cellsF_append, List.length_append]
    exact ownsRow_same hown fun k hk => hs k (fun e => hgf' (e ▸ hk))
  · exact (h.now.keptBy hg.block fun k hk e => (h.fn k e.symm).1 hk).same fun k hk => hs k (fun e => h.gn (e ▸ hk))
  · exact (h.safe.keptBy hg.block fun k hk e => (h.fn k e.symm).2.1 hk).same fun k hk => hs k (fun e => h.gs (e ▸ hk))
  · exact ownsRow_same (ownsRow_same h.pend fun k hk => hfar k (h.pvLt k hk) fun e => (h.fn k e).2.2.1 hk) fun k hk => hs k (fun e => h.gp (e ▸ hk))
  · exact (h.fate.same fun k hk => hfar k (h.fate.uses k hk) fun e => (h.fn k e).2.2.2 (usesOf_own hk)).same fun k hk => hs k (fun e => h.gk (e ▸ usesOf_own hk))
/-- An operation more that waits. -/
theorem RefIn.addPend (h : RefIn w g fv nv sv pv kv d) (hlt : ∀ k ∈ rfoot g fv nv sv pv kv, k < w.heap.size) (hg : w.grownBy w2 pv.ownBlock) {pv' : Value} {p : Pn} (hown : w2.ownsRow 0 122 4 pv' (d.pend.length + 1) (cellsO d.pend ++ opCells p)) (hv : pv'.ownBlock = pv.ownBlock ∨ ∃ b, pv'.ownBlock = some b ∧ w.heap.size ≤ b) :
    RefIn (w2.setCell ⟨g, 5, none⟩ pv') g fv nv sv pv' kv { d with pend := d.pend ++ [p] } := by
  have hgl := h.blk.lt
  have hs : ∀ j, j ≠ g → (w2.setCell ⟨g, 5, none⟩ pv').heap[j]? = w2.heap[j]? := fun j hj => heap_setCell_other _ _ _ _ hj
  have hfar : ∀ k, k < w.heap.size → pv.ownBlock ≠ some k → w2.heap[k]? = w.heap[k]? := fun k hk hn => hg.block k hk (fun e => hn e.symm)
  have hgp' : pv'.ownBlock ≠ some g := fun e => by
    rcases hv with h1 | ⟨b, h1, h2⟩
    · exact h.gp (h1 ▸ e)
    · rw [h1] at e; simp at e; omega
  have hfn' : ∀ b, fv.ownBlock = some b → pv'.ownBlock ≠ some b := fun b hb e => by
    rcases hv with h1 | ⟨c, h1, h2⟩
    · exact (h.fn b hb).2.2.1 (h1 ▸ e)
    · rw [h1] at e; simp at e; subst e
      have := h.fvLt c hb; omega
  have hpn' : ∀ b, pv'.ownBlock = some b → nv.ownBlock ≠ some b ∧ sv.ownBlock ≠ some b ∧ kv.ownBlock ≠ some b := fun b hb => by
    rcases hv with h1 | ⟨c, h1, h2⟩
    · exact h.pn b (h1 ▸ hb)
    · rw [h1] at hb; simp at hb; subst hb
      refine ⟨fun e => ?_, fun e => ?_, fun e => ?_⟩
      · have := hlt c (rfoot_mem.2 (by simp [e])); omega
      · have := hlt c (rfoot_mem.2 (by simp [e])); omega
      · have := hlt c (rfoot_mem.2 (by simp [e])); omega
  have b2 : Blk w2 g [.bool d.off, .int .i64 (d.room : Nat), fv, nv, sv, pv, .int .i64 (d.armed : Nat), kv] 119 := h.blk.same (hfar g hgl h.gp)
  refine ⟨b2.set 5 pv', ?_, ?_, ?_, ?_, ?_, h.gf, h.gn, h.gs, hgp', h.gk, fun b hb => ⟨(h.fn b hb).1, (h.fn b hb).2.1, hfn' b hb, (h.fn b hb).2.2.2⟩, hpn'⟩
  · exact ownsRow_same (ownsRow_same h.files fun k hk => hfar k (h.fvLt k hk) fun e => (h.fn k hk).2.2.1 e) fun k hk => hs k (fun e => h.gf (e ▸ hk))
  · exact (h.now.keptBy hg.block fun k hk e => (h.pn k e.symm).1 hk).same fun k hk => hs k (fun e => h.gn (e ▸ hk))
  · exact (h.safe.keptBy hg.block fun k hk e => (h.pn k e.symm).2.1 hk).same fun k hk => hs k (fun e => h.gs (e ▸ hk))
  · show World.ownsRow _ 0 122 4 pv' (d.pend ++ [p]).length (cellsO (d.pend ++ [p]))
    rw [cellsO_append, List.length_append]
    have : cellsO [p] = opCells p := by unfold cellsO; simp
    rw [this]
    exact ownsRow_same hown fun k hk => hs k (fun e => hgp' (e ▸ hk))
  · exact (h.fate.same fun k hk => hfar k (h.fate.uses k hk) fun e => (h.pn k e).2.2 (usesOf_own hk)).same fun k hk => hs k (fun e => h.gk (e ▸ usesOf_own hk))
/-- The table of names laid anew: the one that was, or a new one. -/
theorem RefIn.layNow (h : RefIn w g fv nv sv pv kv d) (hb : Below w.heap.size w w2) {v : Value} {t : Tb} (ht : TabAt w2 v t) (hv : ∀ b, v.ownBlock = some b → w.heap.size ≤ b ∨ nv.ownBlock = some b) :
    RefIn (w2.setCell ⟨g, 3, none⟩ v) g fv v sv pv kv { d with now := t } := by
  have h2 := h.below hb
  have hg := h.blk.lt
  have hs : ∀ j, j ≠ g → (w2.setCell ⟨g, 3, none⟩ v).heap[j]? = w2.heap[j]? := fun j hj => heap_setCell_other _ _ _ _ hj
  have hvg : v.ownBlock ≠ some g := fun e => by
    rcases hv g e with h3 | h3
    · omega
    · exact h.gn h3
  refine ⟨h2.blk.set 3 v, ownsRow_same h2.files fun k hk => hs k (fun e => h.gf (e ▸ hk)), ht.same fun k hk => hs k (fun e => hvg (e ▸ hk)), h2.safe.same fun k hk => hs k (fun e => h.gs (e ▸ hk)), ownsRow_same h2.pend fun k hk => hs k (fun e => h.gp (e ▸ hk)), h2.fate.same fun k hk => hs k (fun e => h.gk (e ▸ usesOf_own hk)), h.gf, hvg, h.gs, h.gp, h.gk, fun b hb => ⟨fun e => ?_, (h.fn b hb).2⟩, fun b hb => ⟨fun e => ?_, (h.pn b hb).2⟩⟩
  · rcases hv b e with h3 | h3
    · have := h.fvLt b hb; omega
    · exact (h.fn b hb).1 h3
  · rcases hv b e with h3 | h3
    · have := h.pvLt b hb; omega
    · exact (h.pn b hb).1 h3
/-- A flush. -/
theorem RefIn.layFlush (h : RefIn w g fv nv sv pv kv d) : RefIn ((w.setCell ⟨g, 4, none⟩ nv).setCell ⟨g, 5, none⟩ (.slice none 0 0)) g fv nv nv (.slice none 0 0) kv { d with safe := d.now, pend := [] } := by
  have hs : ∀ j, j ≠ g → ((w.setCell ⟨g, 4, none⟩ nv).setCell ⟨g, 5, none⟩ (.slice none 0 0)).heap[j]? = w.heap[j]? := fun j hj => (heap_setCell_other _ _ _ _ hj).trans (heap_setCell_other _ _ _ _ hj)
  exact ⟨(h.blk.set 4 nv).set 5 (.slice none 0 0), ownsRow_same h.files fun k hk => hs k (fun e => h.gf (e ▸ hk)), h.now.same fun k hk => hs k (fun e => h.gn (e ▸ hk)), h.now.same fun k hk => hs k (fun e => h.gn (e ▸ hk)), World.ownsRow_nil _ _ _ _, h.fate.same fun k hk => hs k (fun e => h.gk (e ▸ usesOf_own hk)), h.gf, h.gn, h.gn, by simp [Value.ownBlock], h.gk, fun b hb => ⟨(h.fn b hb).1, (h.fn b hb).1, by simp [Value.ownBlock], (h.fn b hb).2.2.2⟩, fun b hb => by simp [Value.ownBlock] at hb⟩
end
/-- In the midst of an operation that began in w. -/
def RdMid (w : World) (A : List Nat) (g : Nat) (d2 : Dk) (wc : World) : Prop := ∃ fv nv sv pv kv, RefIn wc g fv nv sv pv kv d2 ∧ (∀ k ∈ rfoot g fv nv sv pv kv, k < wc.heap.size) ∧ Stp A (rfoot g fv nv sv pv kv) w wc
theorem RdMid.to {w wc : World} {A : List Nat} {g : Nat} {d2 : Dk} {N : Nat} (h : RdMid w A g d2 wc) (hn : RefN d2 N) : Rd2To g d2 N A w wc := by
  obtain ⟨fv, nv, sv, pv, kv, h1, h2, h3⟩ := h
  exact ⟨rfoot g fv nv sv pv kv, ⟨fv, nv, sv, pv, kv, h1, hn, fun k hk => hk, h2⟩, h3⟩
theorem RdMid.below {w wc wd : World} {A : List Nat} {g : Nat} {d2 : Dk} (h : RdMid w A g d2 wc) (hb : Below wc.heap.size wc wd) : RdMid w A g d2 wd := by
  obtain ⟨fv, nv, sv, pv, kv, h1, h2, h3⟩ := h
  exact ⟨fv, nv, sv, pv, kv, h1.below hb, fun k hk => Nat.lt_of_lt_of_le (h2 k hk) hb.size, h3.trans (Stp.of_below hb fun k hk => Or.inl hk)⟩
theorem RdMid.start {w wc : World} {A : List Nat} {g : Nat} {fv nv sv pv kv : Value} {d : Dk} (h : RefIn w g fv nv sv pv kv d) (hA : ∀ k ∈ rfoot g fv nv sv pv kv, k ∈ A) (hl : ∀ k ∈ A, k < w.heap.size) (hb : Below w.heap.size w wc) : RdMid w A g d wc :=
  ⟨fv, nv, sv, pv, kv, h.below hb, fun k hk => Nat.lt_of_lt_of_le (hl k (hA k hk)) hb.size, Stp.of_below hb fun k hk => Or.inl (hA k hk)⟩
/-- A step of it: only the blocks of the disk turn, and new ones come. -/
theorem RdMid.step {w wc wd : World} {A : List Nat} {g : Nat} {fv nv sv pv kv fv' nv' sv' pv' kv' : Value} {d2 : Dk} (hs : Stp A (rfoot g fv nv sv pv kv) w wc) (h : RefIn wd g fv' nv' sv' pv' kv' d2) (h2 : Stp (rfoot g fv nv sv pv kv) (rfoot g fv' nv' sv' pv' kv') wc wd) (hl : ∀ k ∈ rfoot g fv' nv' sv' pv' kv', k < wd.heap.size) : RdMid w A g d2 wd :=
  ⟨fv', nv', sv', pv', kv', h, hl, hs.trans h2⟩
end Go.Proofs.YtfgpigblnkanpaaGreatDoor

namespace Go.Proofs.YtfgpigblnkanpaaGreatDoor
open Go.RowKit Go.Maps Go.Shelf
set_option linter.unusedVariables false

theorem infoFileR : (Tryz.prog.info? 162).map (fun i => (i.zero, i.size, i.bytes)) = some (some (.agg #[strV [], .int .i64 0]), 2, 24) := by kernel_rfl
theorem infoOpR : (Tryz.prog.info? 122).map (fun i => (i.zero, i.size, i.bytes)) = some (some (.agg #[.int .i64 0, strV [], strV [], .int .i64 0]), 4, 48) := by kernel_rfl
/-- Behind Do. -/
def RdDo (g : Nat) (d : Dk) (o : Od) (N : Nat) (A : List Nat) (w : World) (e : Ending) (w' : World) : Prop :=
  e = .returned (.int .i64 ((ddo d o).2 : Nat)) ∧ Rd2To g (ddo d o).1 (N + 1) A w w'
/-- Ahead of the search for the name. -/
structure DoA (w wc : World) (A : List Nat) (g b : Nat) (cs : List Value) (fv nv sv pv kv : Value) (d1 : Dk) : Prop where
  box : Blk wc b cs 122
  ref : RefIn wc g fv nv sv pv kv d1
  lt : ∀ k ∈ rfoot g fv nv sv pv kv, k < wc.heap.size
  stp : Stp A (rfoot g fv nv sv pv kv) w wc
  far : b ∉ rfoot g fv nv sv pv kv
section
variable {w wc wd : World} {A : List Nat} {g b : Nat} {cs : List Value} {fv nv sv pv kv : Value} {d d1 : Dk}
theorem DoA.start (h : RefIn w g fv nv sv pv kv d) (hA : ∀ k ∈ rfoot g fv nv sv pv kv, k ∈ A) (hl : ∀ k ∈ A, k < w.heap.size) (hb : Below (w.alloc (.cells cs.toArray 122)).heap.size (w.alloc (.cells cs.toArray 122)) wc) : DoA w wc A g w.heap.size cs fv nv sv pv kv d := by
  have h0 : Below w.heap.size w (w.alloc (.cells cs.toArray 122)) := (Below.refl _ w).alloc (Nat.le_refl _) _
  have h1 : Below w.heap.size w wc := h0.trans (hb.mono (by simp))
  exact ⟨(Blk.new w cs 122).below hb (Blk.new w cs 122).lt, h.below h1, fun k hk => Nat.lt_of_lt_of_le (hl k (hA k hk)) h1.size, Stp.of_below h1 fun k hk => Or.inl (hA k hk), fun hm => Nat.lt_irrefl _ (hl _ (hA _ hm))⟩
theorem DoA.below (h : DoA w wc A g b cs fv nv sv pv kv d1) (hb : Below wc.heap.size wc wd) : DoA w wd A g b cs fv nv sv pv kv d1 :=
  ⟨h.box.below hb h.box.lt, h.ref.below hb, fun k hk => Nat.lt_of_lt_of_le (h.lt k hk) hb.size, h.stp.trans (Stp.of_below hb fun k hk => Or.inl hk), h.far⟩
/-- armed turned. -/
theorem DoA.arm (h : DoA w wc A g b cs fv nv sv pv kv d1) (k : Nat) : DoA w (wc.setCell ⟨g, 6, none⟩ (.int .i64 k)) A g b cs fv nv sv pv kv { d1 with armed := k } := by
  have hs : ∀ j, j ≠ g → (wc.setCell ⟨g, 6, none⟩ (.int .i64 k)).heap[j]? = wc.heap[j]? := fun j hj => heap_setCell_other _ _ _ _ hj
  have hgm : g ∈ rfoot g fv nv sv pv kv := rfoot_mem.2 (Or.inl rfl)
  refine ⟨h.box.same (hs b fun e => h.far (e ▸ hgm)), h.ref.turn (h.ref.blk.set 6 (.int .i64 k)) hs rfl rfl rfl rfl rfl, fun j hj => by simpa [World.setCell] using h.lt j hj, h.stp.trans (Stp.of_set _ _ _ hgm fun j hj => Or.inl hj), h.far⟩
/-- A cell of the operation's own box turned. -/
theorem DoA.box3 (h : DoA w wc A g b cs fv nv sv pv kv d1) (i : Nat) (v : Value) (hwb : w.heap.size ≤ b) (hA : ∀ k ∈ A, k < w.heap.size) : DoA w (wc.setCell ⟨b, i, none⟩ v) A g b (cs.set i v) fv nv sv pv kv d1 := by
  have hs : ∀ j, j ≠ b → (wc.setCell ⟨b, i, none⟩ v).heap[j]? = wc.heap[j]? := fun j hj => heap_setCell_other _ _ _ _ hj
  refine ⟨h.box.set i v, h.ref.kept fun k hk => hs k fun e => h.far (e ▸ hk), fun j hj => by simpa [World.setCell] using h.lt j hj, ⟨h.stp.os, h.stp.tape, h.stp.output, by simpa [World.setCell] using h.stp.size, fun k hk hn => (hs k (by omega)).trans (h.stp.block k hk hn), h.stp.inn⟩, h.far⟩
theorem DoA.mid (h : DoA w wc A g b cs fv nv sv pv kv d1) : RdMid w A g d1 wc := ⟨fv, nv, sv, pv, kv, h.ref, h.lt, h.stp⟩
/-- A step that lays the disk anew in its own blocks and new ones. -/
theorem DoA.step {fv' nv' sv' pv' kv' : Value} {d2 : Dk} (h : DoA w wc A g b cs fv nv sv pv kv d1) (h2 : RefIn wd g fv' nv' sv' pv' kv' d2) (hs : Stp (rfoot g fv nv sv pv kv) (rfoot g fv' nv' sv' pv' kv') wc wd) (hl : ∀ k ∈ rfoot g fv' nv' sv' pv' kv', k < wd.heap.size) : DoA w wd A g b cs fv' nv' sv' pv' kv' d2 :=
  ⟨h.box.same (hs.block b h.box.lt h.far), h2, hl, h.stp.trans hs, fun hm => by
    rcases hs.inn b hm with h3 | h3
    · exact h.far h3
    · have := h.box.lt; omega⟩
end
section
variable {w wc wd : World} {g : Nat} {fv nv sv pv kv : Value} {d1 : Dk}
/-- A store in g itself: one of its rows is another. -/
theorem stp_put {v fv' nv' sv' pv' : Value} {i : Nat} (hin : ∀ k ∈ rfoot g fv' nv' sv' pv' kv, k ∈ rfoot g fv nv sv pv kv ∨ wc.heap.size ≤ k) (hs : Stp (rfoot g fv nv sv pv kv) (rfoot g fv nv sv pv kv) wc wd) : Stp (rfoot g fv nv sv pv kv) (rfoot g fv' nv' sv' pv' kv) wc (wd.setCell ⟨g, i, none⟩ v) := by
  have h2 := hs.trans (Stp.of_set (A := rfoot g fv nv sv pv kv) (B := rfoot g fv nv sv pv kv) wd ⟨g, i, none⟩ v (rfoot_mem.2 (Or.inl rfl)) fun k hk => Or.inl hk)
  exact ⟨h2.os, h2.tape, h2.output, h2.size, h2.block, hin⟩
end
theorem dact_fate (d : Dk) (b : Bool) (o : Od) : (dact d b o).fate = d.fate := by cases o <;> cases b <;> rfl
theorem dact_off (d : Dk) (b : Bool) (o : Od) : (dact d b o).off = d.off := by cases o <;> cases b <;> rfl
theorem RefN.armed {d : Dk} {N : Nat} (h : RefN d N) (k : Nat) (hk : k ≤ 9223372036854775807) : RefN { d with armed := k } N := ⟨h.ok.armed k, h.bd.armed' k hk, h.fate⟩
theorem RefN.act {d : Dk} {N : Nat} (h : RefN d N) (b : Bool) (o : Od) (ho : odOk o) (hoff : d.off = false) (hr : drefused d o = 0) : RefN (dact d b o) (N + 1) := ⟨h.ok.act b o hr, h.bd.act b o ho hoff hr, by rw [dact_fate]; exact h.fate⟩
theorem RefN.stroke {d : Dk} {N : Nat} (h : RefN d N) (b : Bool) (o : Od) (ho : odOk o) (hoff : d.off = false) (hr : drefused d o = 0) : RefN (dact { d with armed := d.armed - 1 } b o) (N + 1) :=
  (h.armed _ (by have := h.bd.armed; omega)).act b o ho hoff (by rw [drefused_armed]; exact hr)
section
variable {w wc w' : World} {A : List Nat} {g : Nat} {fv nv sv pv kv : Value} {d d2 : Dk} {N : Nat} {o : Od} {e : Ending}
/-- The power fails in the midst of an operation. -/
theorem rFail_mid (h : RefIn wc g fv nv sv pv kv d2) (hn : RefN d2 N) (hN : N ≤ 1073741824) : Calls Tryz.prog 123 #[.pointer (some ⟨g, 0, none⟩), kv] wc (RFailPost wc g fv sv (dfail d2 d2.fate)) :=
  rFail_any wc g fv nv sv pv kv kv d2 d2.fate N h hn.ok hn.bd hN h.fate hn.fate fun j hj => ⟨fun e => h.gk (e ▸ usesOf_own hj), fun e => (h.fn j e).2.2.2 (usesOf_own hj), h.fate.uses j hj⟩
theorem RFailPost.mid {keep : List Int} (hs : Stp A (rfoot g fv nv sv pv kv) w wc) (hlt : ∀ k ∈ rfoot g fv nv sv pv kv, k < wc.heap.size) (hp : RFailPost wc g fv sv (dfail d2 keep) e w') : RdMid w A g (dfail d2 keep) w' := by
  obtain ⟨_, sv', h1, h2, h3, ⟨h4, h5, h6⟩, h7⟩ := hp
  have hin : ∀ k, fv.ownBlock = some k ∨ sv.ownBlock = some k → k ∈ rfoot g fv nv sv pv kv := fun k hk => by
    rcases hk with hk | hk <;> exact rfoot_mem.2 (by simp [hk])
  have hsv : ∀ k, sv'.ownBlock = some k → k ∈ rfoot g fv nv sv pv kv ∧ k < w'.heap.size ∨ wc.heap.size ≤ k ∧ k < w'.heap.size := fun k hk => by
    rcases h2 k hk with h | h
    · exact Or.inr h
    · exact Or.inl ⟨hin k (Or.inr h), Nat.lt_of_lt_of_le (hlt k (hin k (Or.inr h))) h3⟩
  have hg : g ∈ rfoot g fv nv sv pv kv := rfoot_mem.2 (Or.inl rfl)
  have hall : ∀ k ∈ rfoot g fv sv' sv' (.slice none 0 0) (.slice none 0 0), k ∈ rfoot g fv nv sv pv kv ∧ k < w'.heap.size ∨ wc.heap.size ≤ k ∧ k < w'.heap.size := fun k hk => by
    rcases rfoot_mem.1 hk with h | h | h | h | h | h
    · exact Or.inl ⟨h ▸ hg, h ▸ Nat.lt_of_lt_of_le (hlt g hg) h3⟩
    · exact Or.inl ⟨hin k (Or.inl h), Nat.lt_of_lt_of_le (hlt k (hin k (Or.inl h))) h3⟩
    · exact hsv k h
    · exact hsv k h
    · simp [Value.ownBlock] at h
    · simp [Value.ownBlock] at h
  exact ⟨fv, sv', sv', _, _, h1, fun k hk => (hall k hk).elim (fun h => h.2) (fun h => h.2), hs.trans ⟨h4, h5, h6, h3, fun j hj hn => h7 j hj (fun e => hn (e ▸ hg)) (fun e => hn (hin j (Or.inl e))), fun k hk => (hall k hk).imp (fun h => h.1) (fun h => h.1)⟩⟩
theorem RdDo.calm (hoff : d.off = false) (hr : drefused d o = 0) (ha : d.armed ≠ 1) (hn : RefN d N) (ho : odOk o) (hm : RdMid w A g (dact { d with armed := d.armed - 1 } false o) wc) : RdDo g d o N A w (.returned (.int .i64 0)) wc := by
  have e : ddo d o = (dact { d with armed := d.armed - 1 } false o, 0) := by
    unfold ddo
    rw [if_neg (by rw [hoff]; simp), if_neg (by omega), if_neg ha]
  unfold RdDo
  rw [e]
  exact ⟨rfl, hm.to (hn.stroke false o ho hoff hr)⟩
theorem RdDo.struck (hoff : d.off = false) (hr : drefused d o = 0) (ha : d.armed = 1) (hn : RefN d N) (ho : odOk o) (hm : RdMid w A g (dfail (dact { d with armed := d.armed - 1 } true o) d.fate) wc) : RdDo g d o N A w (.returned (.int .i64 20)) wc := by
  have e : ddo d o = (dfail (dact { d with armed := d.armed - 1 } true o) d.fate, 20) := by
    unfold ddo
    rw [if_neg (by rw [hoff]; simp), if_neg (by omega), if_pos ha]
  unfold RdDo
  rw [e]
  exact ⟨rfl, hm.to (dfail_refN (hn.stroke true o ho hoff hr) _)⟩
theorem RdDo.off (hoff : d.off = true) (hn : RefN d N) (hm : RdMid w A g d wc) : RdDo g d o N A w (.returned (.int .i64 20)) wc := by
  have e : ddo d o = (d, 20) := by unfold ddo; rw [if_pos hoff]
  unfold RdDo
  rw [e]
  exact ⟨rfl, hm.to (hn.mono (Nat.le_succ N))⟩
theorem RdDo.no (hoff : d.off = false) (hr : drefused d o ≠ 0) (hn : RefN d N) (hm : RdMid w A g d wc) : RdDo g d o N A w (.returned (.int .i64 (drefused d o : Nat))) wc := by
  have e : ddo d o = (d, drefused d o) := ddo_no hoff hr
  unfold RdDo
  rw [e]
  exact ⟨rfl, hm.to (hn.mono (Nat.le_succ N))⟩
end
section
variable {w wc wd : World} {A : List Nat} {g b : Nat} {cs : List Value} {fv nv sv pv kv : Value} {d1 : Dk}
theorem DoA.addFile (h : DoA w wc A g b cs fv nv sv pv kv d1) (hg : wc.grownBy wd fv.ownBlock) {fv' : Value} (hown : wd.ownsRow 0 162 2 fv' (d1.files.length + 1) (cellsF d1.files ++ [strV [], .int .i64 0])) (hv : fv'.ownBlock = fv.ownBlock ∨ fv'.ownBlock = some wc.heap.size) :
    DoA w (wd.setCell ⟨g, 2, none⟩ fv') A g b cs fv' nv sv pv kv { d1 with files := d1.files ++ [⟨[], 0⟩] } := by
  have hR := h.ref.addFile h.lt hg hown (hv.imp id fun e => ⟨_, e, Nat.le_refl _⟩)
  have hfl := fun k hk => (hown.lt k hk).2
  have hf : ∀ k, fv.ownBlock = some k → k ∈ rfoot g fv nv sv pv kv := fun k hk => rfoot_mem.2 (by simp [hk])
  have hin : ∀ k ∈ rfoot g fv' nv sv pv kv, (k ∈ rfoot g fv nv sv pv kv ∨ wc.heap.size ≤ k) ∧ k < wd.heap.size := fun k hk => by
    rcases rfoot_mem.1 hk with e | e | e | e | e | e
    · exact ⟨Or.inl (rfoot_mem.2 (by simp [e])), e ▸ Nat.lt_of_lt_of_le h.ref.blk.lt hg.size⟩
    · refine ⟨?_, hfl k e⟩
      rcases hv with h2 | h2
      · exact Or.inl (hf k (h2 ▸ e))
      · rw [h2] at e; simp at e; exact Or.inr (by omega)
    · have h3 := rfoot_mem.2 (show k = g ∨ fv.ownBlock = some k ∨ nv.ownBlock = some k ∨ sv.ownBlock = some k ∨ pv.ownBlock = some k ∨ kv.ownBlock = some k by simp [e])
      exact ⟨Or.inl h3, Nat.lt_of_lt_of_le (h.lt k h3) hg.size⟩
    · have h3 := rfoot_mem.2 (show k = g ∨ fv.ownBlock = some k ∨ nv.ownBlock = some k ∨ sv.ownBlock = some k ∨ pv.ownBlock = some k ∨ kv.ownBlock = some k by simp [e])
      exact ⟨Or.inl h3, Nat.lt_of_lt_of_le (h.lt k h3) hg.size⟩
    · have h3 := rfoot_mem.2 (show k = g ∨ fv.ownBlock = some k ∨ nv.ownBlock = some k ∨ sv.ownBlock = some k ∨ pv.ownBlock = some k ∨ kv.ownBlock = some k by simp [e])
      exact ⟨Or.inl h3, Nat.lt_of_lt_of_le (h.lt k h3) hg.size⟩
    · have h3 := rfoot_mem.2 (show k = g ∨ fv.ownBlock = some k ∨ nv.ownBlock = some k ∨ sv.ownBlock = some k ∨ pv.ownBlock = some k ∨ kv.ownBlock = some k by simp [e])
      exact ⟨Or.inl h3, Nat.lt_of_lt_of_le (h.lt k h3) hg.size⟩
  exact h.step hR (stp_put (fun k hk => (hin k hk).1) (Stp.of_grown hg hf fun k hk => Or.inl hk)) fun k hk => by simpa [World.setCell] using (hin k hk).2
theorem DoA.addPend (h : DoA w wc A g b cs fv nv sv pv kv d1) (hg : wc.grownBy wd pv.ownBlock) {pv' : Value} {p : Pn} (hown : wd.ownsRow 0 122 4 pv' (d1.pend.length + 1) (cellsO d1.pend ++ opCells p)) (hv : pv'.ownBlock = pv.ownBlock ∨ pv'.ownBlock = some wc.heap.size) :
    DoA w (wd.setCell ⟨g, 5, none⟩ pv') A g b cs fv nv sv pv' kv { d1 with pend := d1.pend ++ [p] } := by
  have hR := h.ref.addPend h.lt hg hown (hv.imp id fun e => ⟨_, e, Nat.le_refl _⟩)
  have hfl := fun k hk => (hown.lt k hk).2
  have hf : ∀ k, pv.ownBlock = some k → k ∈ rfoot g fv nv sv pv kv := fun k hk => rfoot_mem.2 (by simp [hk])
  have hin : ∀ k ∈ rfoot g fv nv sv pv' kv, (k ∈ rfoot g fv nv sv pv kv ∨ wc.heap.size ≤ k) ∧ k < wd.heap.size := fun k hk => by
    rcases rfoot_mem.1 hk with e | e | e | e | e | e
    · exact ⟨Or.inl (rfoot_mem.2 (by simp [e])), e ▸ Nat.lt_of_lt_of_le h.ref.blk.lt hg.size⟩
    · have h3 := rfoot_mem.2 (show k = g ∨ fv.ownBlock = some k ∨ nv.ownBlock = some k ∨ sv.ownBlock = some k ∨ pv.ownBlock = some k ∨ kv.ownBlock = some k by simp [e])
      exact ⟨Or.inl h3, Nat.lt_of_lt_of_le (h.lt k h3) hg.size⟩
    · have h3 := rfoot_mem.2 (show k = g ∨ fv.ownBlock = some k ∨ nv.ownBlock = some k ∨ sv.ownBlock = some k ∨ pv.ownBlock = some k ∨ kv.ownBlock = some k by simp [e])
      exact ⟨Or.inl h3, Nat.lt_of_lt_of_le (h.lt k h3) hg.size⟩
    · have h3 := rfoot_mem.2 (show k = g ∨ fv.ownBlock = some k ∨ nv.ownBlock = some k ∨ sv.ownBlock = some k ∨ pv.ownBlock = some k ∨ kv.ownBlock = some k by simp [e])
      exact ⟨Or.inl h3, Nat.lt_of_lt_of_le (h.lt k h3) hg.size⟩
    · refine ⟨?_, hfl k e⟩
      rcases hv with h2 | h2
      · exact Or.inl (hf k (h2 ▸ e))
      · rw [h2] at e; simp at e; exact Or.inr (by omega)
    · have h3 := rfoot_mem.2 (show k = g ∨ fv.ownBlock = some k ∨ nv.ownBlock = some k ∨ sv.ownBlock = some k ∨ pv.ownBlock = some k ∨ kv.ownBlock = some k by simp [e])
      exact ⟨Or.inl h3, Nat.lt_of_lt_of_le (h.lt k h3) hg.size⟩
  exact h.step hR (stp_put (fun k hk => (hin k hk).1) (Stp.of_grown hg hf fun k hk => Or.inl hk)) fun k hk => by simpa [World.setCell] using (hin k hk).2
theorem DoA.layNow (h : DoA w wc A g b cs fv nv sv pv kv d1) (hb : Below wc.heap.size wc wd) {v : Value} {t : Tb} (ht : TabAt wd v t) (hv : ∀ b, v.ownBlock = some b → (wc.heap.size ≤ b ∧ b < wd.heap.size) ∨ nv.ownBlock = some b) :
    DoA w (wd.setCell ⟨g, 3, none⟩ v) A g b cs fv v sv pv kv { d1 with now := t } := by
  have hR := h.ref.layNow hb ht (fun k hk => (hv k hk).imp (fun h => h.1) id)
  have key : ∀ k, k ∈ rfoot g fv nv sv pv kv → (k ∈ rfoot g fv nv sv pv kv ∨ wc.heap.size ≤ k) ∧ k < wd.heap.size := fun k hk => ⟨Or.inl hk, Nat.lt_of_lt_of_le (h.lt k hk) hb.size⟩
  have hin : ∀ k ∈ rfoot g fv v sv pv kv, (k ∈ rfoot g fv nv sv pv kv ∨ wc.heap.size ≤ k) ∧ k < wd.heap.size := fun k hk => by
    rcases rfoot_mem.1 hk with e | e | e | e | e | e
    · exact key k (rfoot_mem.2 (by simp [e]))
    · exact key k (rfoot_mem.2 (by simp [e]))
    · rcases hv k e with h2 | h2
      · exact ⟨Or.inr h2.1, h2.2⟩
      · exact key k (rfoot_mem.2 (by simp [h2]))
    · exact key k (rfoot_mem.2 (by simp [e]))
    · exact key k (rfoot_mem.2 (by simp [e]))
    · exact key k (rfoot_mem.2 (by simp [e]))
  exact h.step hR (stp_put (fun k hk => (hin k hk).1) (Stp.of_below hb fun k hk => Or.inl hk)) fun k hk => by simpa [World.setCell] using (hin k hk).2
theorem DoA.layCell (h : DoA w wc A g b cs fv nv sv pv kv d1) {q cap : Nat} (hfv : fv = .slice (some ⟨q, 0, none⟩) d1.files.length cap) (j : Nat) (u : Value) (fs : List Fl) (hl : fs.length = d1.files.length) (hc : cellsF fs = (cellsF d1.files).set j u) :
    DoA w (wc.setCell ⟨q, j, none⟩ u) A g b cs fv nv sv pv kv { d1 with files := fs } :=
  h.step (h.ref.layCell hfv j u fs hl hc) (Stp.of_set _ _ _ (rfoot_mem.2 (by simp [hfv, Value.ownBlock])) fun k hk => Or.inl hk) fun k hk => by simpa [World.setCell] using h.lt k hk
theorem DoA.layFlush (h : DoA w wc A g b cs fv nv sv pv kv d1) : DoA w ((wc.setCell ⟨g, 4, none⟩ nv).setCell ⟨g, 5, none⟩ (.slice none 0 0)) A g b cs fv nv nv (.slice none 0 0) kv { d1 with safe := d1.now, pend := [] } := by
  have hgm : g ∈ rfoot g fv nv sv pv kv := rfoot_mem.2 (Or.inl rfl)
  have hsub : ∀ k ∈ rfoot g fv nv nv (.slice none 0 0) kv, k ∈ rfoot g fv nv sv pv kv := fun k hk => by
    rcases rfoot_mem.1 hk with e | e | e | e | e | e
    · exact rfoot_mem.2 (by simp [e])
    · exact rfoot_mem.2 (by simp [e])
    · exact rfoot_mem.2 (by simp [e])
    · exact rfoot_mem.2 (by simp [e])
    · simp [Value.ownBlock] at e
    · exact rfoot_mem.2 (by simp [e])
  have h1 : Stp (rfoot g fv nv sv pv kv) (rfoot g fv nv sv pv kv) wc (wc.setCell ⟨g, 4, none⟩ nv) := Stp.of_set _ _ _ hgm fun k hk => Or.inl hk
  exact h.step h.ref.layFlush (h1.trans (Stp.of_set _ _ _ hgm fun k hk => Or.inl (hsub k hk))) fun k hk => by simpa [World.setCell] using h.lt k (hsub k hk)
end
theorem row_shape {w : World} {B : Nat} {e : TypeId} {size : Nat} {v : Value} {n : Nat} {xs : List Value} (h : w.ownsRow B e size v n xs) : ∃ a c, v = .slice a n c := by
  rcases h.2 with ⟨rfl, h0⟩ | ⟨b, cap, cur, rfl, _⟩
  · exact ⟨none, 0, by rw [h0]⟩
  · exact ⟨_, _, rfl⟩
end Go.Proofs.YtfgpigblnkanpaaGreatDoor
