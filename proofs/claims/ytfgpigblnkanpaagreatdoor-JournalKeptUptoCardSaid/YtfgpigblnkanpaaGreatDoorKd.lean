/- What is known of a journal: the walk of called; a journal in memory beside a book. -/
import Derived.Test.YtfgpigblnkanpaaGreatDoorKc
import Derived.Test.YtfgpigblnkanpaaGreatDoorPick
namespace Go.Proofs.YtfgpigblnkanpaaGreatDoor
open Go.RowKit Go.Maps Go.Shelf
set_option linter.unusedVariables false
set_option linter.unusedSimpArgs false

/-- A call. -/
structure Ac where
  kind : Int
  text : Nm
  n : Int
  keep : List Int
def Ac.cells (a : Ac) (kv : Value) : List Value := [.int .i64 a.kind, strV a.text, .int .i64 a.n, kv]
/-- Behind called. -/
def CalledPost (w : World) (bb B0 : Nat) (va : Value) (R : List Nm) (more : Bool) (rec : Nm) (no : Bool) (e : Ending) (w' : World) : Prop :=
  e = .returned (.tuple #[]) ∧ ∃ vb, Blk w' bb [vb, .bool more, strV rec, .bool no] 76 ∧ w'.ownsRow B0 9 1 vb R.length (R.map strV) ∧ (∀ k, vb.ownBlock = some k → k ≠ bb) ∧ Stp (bb :: va.ownBlock.toList) (bb :: vb.ownBlock.toList) w w'
theorem Blk.stpBox {w : World} {b : Nat} {xs : List Value} {t : TypeId} (h : Blk w b xs t) (O : Obj) : Blk (w.alloc O) b xs t := h.alloc O
/-- Stores in a book alone. -/
theorem called_put {w w' : World} {bb B0 : Nat} {va vb : Value} {R' : List Nm} {more : Bool} {rec : Nm} {no : Bool} {O : Obj} (hb' : Blk w' bb [vb, .bool more, strV rec, .bool no] 76) (hlt : bb < w.heap.size) (hs : ∀ k, k ≠ bb → w'.heap[k]? = (w.alloc O).heap[k]?) (hsz : w'.heap.size = w.heap.size + 1) (hos : w'.os = w.os ∧ w'.tape = w.tape ∧ w'.output = w.output)
    (hvb : (vb = va ∧ w.ownsRow B0 9 1 va R'.length (R'.map strV) ∧ (∀ k, va.ownBlock = some k → k ≠ bb)) ∨ (vb = .slice none 0 0 ∧ R' = [])) : CalledPost w bb B0 va R' more rec no (.returned (.tuple #[])) w' := by
  refine ⟨rfl, vb, hb', ?_, ?_, ⟨hos.1, hos.2.1, hos.2.2, by omega, fun k hk hn => ?_, fun k hk => ?_⟩⟩
  · rcases hvb with ⟨rfl, h1, h2⟩ | ⟨rfl, rfl⟩
    · exact ownsRow_same (h1.alloc O) fun k hk => hs k (h2 k hk)
    · exact World.ownsRow_nil _ _ _ _
  · rcases hvb with ⟨rfl, h1, h2⟩ | ⟨rfl, rfl⟩
    · exact h2
    · intro k hk; simp [Value.ownBlock] at hk
  · rw [hs k (fun e => hn (by simp [e]))]
    exact ((Below.refl _ w).alloc (Nat.le_refl _) O).block k hk
  · rcases hvb with ⟨rfl, _, _⟩ | ⟨rfl, _⟩
    · exact Or.inl hk
    · simp [Value.ownBlock] at hk; simp [hk]
set_option maxHeartbeats 4000000 in
set_option maxRecDepth 100000 in
theorem called_reset (w : World) (bb B0 : Nat) (va : Value) (R : List Nm) (a : Ac) (kv : Value) (hkv : ∃ p n c, kv = .slice p n c) (n : Nat) (hn : n = 0 ∨ n = 20) (hk : a.kind % 9 = 2) (hx : Blk w bb [va, .bool false, strV [], .bool false] 76) (ho : w.ownsRow B0 9 1 va R.length (R.map strV)) (hne : ∀ k, va.ownBlock = some k → k ≠ bb) :
    Calls Tryz.prog 46 #[.pointer (some ⟨bb, 0, none⟩), .agg (a.cells kv).toArray, .int .i64 n] w (CalledPost w bb B0 va (if n = 0 then [] else R) false [] (n == 20)) := by
  obtain ⟨kp, kn, kc, rfl⟩ := hkv
  obtain ⟨kind, text, an, keep⟩ := a
  have hlt := hx.lt
  have hx1 := hx.alloc (.cells #[.int .i64 kind, strV text, .int .i64 an, .slice kp kn kc] 81)
  have hy := Blk.new w [.int .i64 kind, strV text, .int .i64 an, .slice kp kn kc] 81
  have y0 := hy.cell 0
  have c0 := hx1.cell 0
  have c3 := hx1.cell 3
  have f0 := hx1.free 0
  have f3 := hx1.free 3
  have hP := Pick_any kind 9 (w.alloc (.cells #[.int .i64 kind, strV text, .int .i64 an, .slice kp kn kc] 81)) (by omega) (by omega)
  have hk9 : kind % ((9 : Nat) : Int) = 2 := hk
  rw [hk9] at hP
  unfold Ac.cells
  simp only at hk ⊢
  simp only [List.getElem?_cons_zero, List.getElem?_cons_succ] at y0 c0 c3
  have HP := Lib.hid hP
  have HX := Lib.hid hx1
  have HO := Lib.hid ho
  have HNE := Lib.hid hne
  clear hP hx hx1 hy ho hne hk hk9
  obtain ⟨ra, rc, rfl⟩ := row_shapeK HO.out
  rcases hn with rfl | rfl
  · have hres := called_put (w := w) (B0 := B0) (va := .slice ra R.length rc) (R' := []) (O := (.cells #[.int .i64 kind, strV text, .int .i64 an, .slice kp kn kc] 81)) ((HX.out.set 0 (.slice none 0 0)).set 3 (.bool false)) hlt (fun k hk => (heap_setCell_other _ _ _ _ hk).trans (heap_setCell_other _ _ _ _ hk)) (by simp [World.setCell]) ⟨rfl, rfl, rfl⟩ (Or.inr ⟨rfl, rfl⟩)
    have HRES := Lib.hid hres
    clear hres
    go_enter Tryz.func46, Tryz.ntmps46
    go_wp2_with (fail)
    refine HP.out.mono ?_
    rintro e w1 ⟨rfl, rfl⟩
    generalize hW1 : w.alloc (.cells #[.int .i64 kind, strV text, .int .i64 an, .slice kp kn kc] 81) = w1 at *
    go_wp2
    go_end0
    exact HRES.out
  · have hres := called_put (w := w) (B0 := B0) (va := .slice ra R.length rc) (R' := R) (O := (.cells #[.int .i64 kind, strV text, .int .i64 an, .slice kp kn kc] 81)) (HX.out.set 3 (.bool true)) hlt (fun k hk => heap_setCell_other _ _ _ _ hk) (by simp [World.setCell]) ⟨rfl, rfl, rfl⟩ (Or.inl ⟨rfl, HO.out, HNE.out⟩)
    have HRES := Lib.hid hres
    clear hres
    go_enter Tryz.func46, Tryz.ntmps46
    go_wp2_with (fail)
    refine HP.out.mono ?_
    rintro e w1 ⟨rfl, rfl⟩
    generalize hW1 : w.alloc (.cells #[.int .i64 kind, strV text, .int .i64 an, .slice kp kn kc] 81) = w1 at *
    go_wp2
    go_end0
    exact HRES.out
set_option maxHeartbeats 4000000 in
set_option maxRecDepth 100000 in
theorem called_app (w : World) (bb B0 : Nat) (va : Value) (R : List Nm) (a : Ac) (kv : Value) (hkv : ∃ p n c, kv = .slice p n c) (n : Nat) (hn : n ≤ 25) (hk : a.kind % 9 = 0) (hx : Blk w bb [va, .bool false, strV [], .bool false] 76) (ho : w.ownsRow B0 9 1 va R.length (R.map strV)) (hne : ∀ k, va.ownBlock = some k → k ≠ bb) (hB : B0 ≤ w.heap.size) (hR : R.length ≤ 4294967295) :
    Calls Tryz.prog 46 #[.pointer (some ⟨bb, 0, none⟩), .agg (a.cells kv).toArray, .int .i64 n] w (CalledPost w bb B0 va (if n = 0 then R ++ [a.text] else R) (n == 20) (if n = 20 then a.text else []) false) := by
  obtain ⟨kp, kn, kc, rfl⟩ := hkv
  obtain ⟨kind, text, an, keep⟩ := a
  have hlt := hx.lt
  have hx1 := hx.alloc (.cells #[.int .i64 kind, strV text, .int .i64 an, .slice kp kn kc] 81)
  have hy := Blk.new w [.int .i64 kind, strV text, .int .i64 an, .slice kp kn kc] 81
  have hbw : Below w.heap.size w (w.alloc (.cells #[.int .i64 kind, strV text, .int .i64 an, .slice kp kn kc] 81)) := (Below.refl _ w).alloc (Nat.le_refl _) _
  have y0 := hy.cell 0
  have y1 := hy.cell 1
  have c0 := hx1.cell 0
  have c1 := hx1.cell 1
  have c2 := hx1.cell 2
  have f1 := hx1.free 1
  have f2 := hx1.free 2
  have hP := Pick_any kind 9 (w.alloc (.cells #[.int .i64 kind, strV text, .int .i64 an, .slice kp kn kc] 81)) (by omega) (by omega)
  have hk9 : kind % ((9 : Nat) : Int) = 0 := hk
  rw [hk9] at hP
  have hoa := ho.alloc (.cells #[.int .i64 kind, strV text, .int .i64 an, .slice kp kn kc] 81)
  unfold Ac.cells
  simp only at hk ⊢
  simp only [List.getElem?_cons_zero, List.getElem?_cons_succ] at y0 y1 c0 c1 c2
  obtain ⟨i0, hi, hz0, hz1, hz2⟩ := info_parts infoStrK
  have HP := Lib.hid hP
  have HX := Lib.hid hx1
  have HO := Lib.hid ho
  have HNE := Lib.hid hne
  have HBW := Lib.hid hbw
  clear hP hx hx1 hy ho hne hk hk9 hbw
  obtain ⟨ra, rc, rfl⟩ := row_shapeK HO.out
  by_cases h0 : n = 0
  · subst h0
    go_enter Tryz.func46, Tryz.ntmps46
    go_wp2_with (fail)
    refine HP.out.mono ?_
    rintro e w1 ⟨rfl, rfl⟩
    go_upto_region 6 with (fail)
    generalize hW1 : w.alloc (.cells #[.int .i64 kind, strV text, .int .i64 an, .slice kp kn kc] 81) = w1 at *
    clear hW1
    have hl1 : bb < w1.heap.size := HX.out.lt
    have hl2 : w.heap.size < w1.heap.size := World.block_lt_of_cell? w1 _ y0
    go_region_law (first
      | (refine step_append_lies _ rfl (.tmp 26) (.tmp 29) 37 rfl B0 9 i0 (strV []) 1 16 Tryz.underlying37 hi hz0 hz1 hz2 rfl (by decide) (.slice ra R.length rc) R.length (R.map strV) (by simp [Act.eval]) ((hoa.alloc _).drew) ⟨w1.heap.size, 0, none⟩ 1 1 [strV text] (by simp [Act.eval]) rfl (World.news_of_block (cs := #[strV text]) (t := 9) (fr := (0, 0)) (heap_alloc_new w1 _)) (by intro u hu; simp at hu; subst hu; rfl) (by omega) (by unfold maxLen; omega) (by omega) (by have := HBW.out.size; simp; omega) (w1.heap.size + 1) (by simp) ?_; intro g9 cap9 w9 hown9 hgrow9 hpl9 hlt9; have hxd := HX.out.below (((Below.refl w1.heap.size w1).alloc (Nat.le_refl _) (.cells #[strV text] 9)).drew) HX.out.lt; have hgw := hgrow9.block bb hxd.lt (fun e => HNE.out bb e.symm rfl); have q9 := hxd.same hgw; have g0 := q9.free 0; have d0 := q9.cell 0; simp only [List.getElem?_cons_zero] at d0; have HQ := Lib.hid (q9.set 0 (.slice (some ⟨g9, 0, none⟩) (R.length + 1) cap9)); have HG := Lib.hid hgrow9; have HOW := Lib.hid hown9; have HPL := Lib.hid hpl9; have HLT9 := Lib.hid hlt9; clear hxd hgw q9 hown9 hgrow9 hpl9 hlt9))
    all_goals
      have hw1 : w.heap.size < w1.heap.size := by
        have h1 := HBW.out.size
        have h2 := World.block_lt_of_cell? w1 _ y0
        simpa using h2
      have hbd : Below w1.heap.size w1 ((w1.alloc (.cells #[strV text] 9)).drew) := ((Below.refl w1.heap.size w1).alloc (Nat.le_refl _) _).drew
      have hgb : g9 ≠ bb := by
        rcases HPL.out with e | e
        · exact HNE.out g9 e
        · omega
      have hs1 : Stp (bb :: (Value.slice ra R.length rc).ownBlock.toList) (bb :: (Value.slice ra R.length rc).ownBlock.toList) w w9 := (Stp.of_below (A := bb :: (Value.slice ra R.length rc).ownBlock.toList) (B := bb :: (Value.slice ra R.length rc).ownBlock.toList) (HBW.out.trans (hbd.mono HBW.out.size)) fun k hk => Or.inl hk).trans (Stp.of_grown HG.out (fun k hk => by simp [hk]) fun k hk => Or.inl hk)
      have hs2 := hs1.trans (Stp.of_set (A := bb :: (Value.slice ra R.length rc).ownBlock.toList) (B := bb :: (Value.slice ra R.length rc).ownBlock.toList) w9 ⟨bb, 0, none⟩ (.slice (some ⟨g9, 0, none⟩) (R.length + 1) cap9) (by simp) fun k hk => Or.inl hk)
      have hres : CalledPost w bb B0 (.slice ra R.length rc) (R ++ [text]) false [] false (.returned (.tuple #[])) (w9.setCell ⟨bb, 0, none⟩ (.slice (some ⟨g9, 0, none⟩) (R.length + 1) cap9)) := by
        refine ⟨rfl, _, HQ.out, ?_, fun k hk => by simp [Value.ownBlock] at hk; omega, ⟨hs2.os, hs2.tape, hs2.output, hs2.size, hs2.block, fun k hk => ?_⟩⟩
        · have h3 : w9.ownsRow B0 9 1 (.slice (some ⟨g9, 0, none⟩) (R.length + 1) cap9) (R ++ [text]).length ((R ++ [text]).map strV) := by
            rw [List.length_append, List.map_append]
            exact HOW.out
          have h4 := ownsRow_same (w' := w9.setCell ⟨bb, 0, none⟩ (.slice (some ⟨g9, 0, none⟩) (R.length + 1) cap9)) h3 fun k hk => heap_setCell_other _ _ _ _ (show k ≠ bb by simp [Value.ownBlock] at hk; omega)
          simpa using h4
        · rcases List.mem_cons.1 hk with e | hk
          · exact Or.inl (by simp [e])
          · simp [Value.ownBlock] at hk
            subst hk
            rcases HPL.out with e | e
            · exact Or.inl (by simp [e])
            · exact Or.inr (by omega)
      have HRES := Lib.hid hres
      clear hres hs1 hs2
      go_wp2
      go_end0
      exact HRES.out
  · by_cases h20 : n = 20
    · subst h20
      have hres := called_put (w := w) (B0 := B0) (va := .slice ra R.length rc) (R' := R) (O := (.cells #[.int .i64 kind, strV text, .int .i64 an, .slice kp kn kc] 81)) ((HX.out.set 1 (.bool true)).set 2 (strV text)) hlt (fun k hk => (heap_setCell_other _ _ _ _ hk).trans (heap_setCell_other _ _ _ _ hk)) (by simp [World.setCell]) ⟨rfl, rfl, rfl⟩ (Or.inl ⟨rfl, HO.out, HNE.out⟩)
      have HRES := Lib.hid hres
      clear hres h0
      go_enter Tryz.func46, Tryz.ntmps46
      go_wp2_with (fail)
      refine HP.out.mono ?_
      rintro e w1 ⟨rfl, rfl⟩
      generalize hW1 : w.alloc (.cells #[.int .i64 kind, strV text, .int .i64 an, .slice kp kn kc] 81) = w1 at *
      go_wp2
      go_end0
      exact HRES.out
    · have hres := called_put (w := w) (B0 := B0) (va := .slice ra R.length rc) (R' := R) (O := (.cells #[.int .i64 kind, strV text, .int .i64 an, .slice kp kn kc] 81)) HX.out hlt (fun k hk => rfl) (by simp) ⟨rfl, rfl, rfl⟩ (Or.inl ⟨rfl, HO.out, HNE.out⟩)
      have e20 : (n == 20) = false := by simpa using h20
      rw [if_neg h0, if_neg h20, e20]
      have q0 : ((n : Int) == 0) = false := by simp; omega
      have q20 : ((n : Int) == 20) = false := by simp; omega
      have HRES := Lib.hid hres
      clear hres h0 h20 e20
      go_enter Tryz.func46, Tryz.ntmps46
      go_wp2_with (fail)
      refine HP.out.mono ?_
      rintro e w1 ⟨rfl, rfl⟩
      generalize hW1 : w.alloc (.cells #[.int .i64 kind, strV text, .int .i64 an, .slice kp kn kc] 81) = w1 at *
      go_wp2
      go_end0
      exact HRES.out
end Go.Proofs.YtfgpigblnkanpaaGreatDoor
