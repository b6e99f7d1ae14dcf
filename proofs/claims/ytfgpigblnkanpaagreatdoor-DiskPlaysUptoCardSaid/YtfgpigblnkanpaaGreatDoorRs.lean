/- The document's disk: its operations in one word each; an operation as it is asked of the document. -/
import Derived.Test.YtfgpigblnkanpaaGreatDoorRqc
import Derived.Test.YtfgpigblnkanpaaGreatDoorRqw
import Derived.Test.YtfgpigblnkanpaaGreatDoorRqs
import Derived.Test.YtfgpigblnkanpaaGreatDoorRqr
import Derived.Test.YtfgpigblnkanpaaGreatDoorRqm
import Derived.Test.YtfgpigblnkanpaaGreatDoorRqf
namespace Go.Proofs.YtfgpigblnkanpaaGreatDoor
open Go.RowKit Go.Maps Go.Shelf
set_option linter.unusedVariables false
set_option linter.unusedSimpArgs false

theorem rDo_rd {w : World} {A : List Nat} {g : Nat} {d : Dk} {N : Nat} (h : Rd2 w A g d N) (hN : N + 1 ≤ 1073741824) (o : Od) (nm : Nm) (tx : List UInt8) (ho : odSmall o) (htx : ∀ n s, o = .write n s → tx = s) (htl : tx.length ≤ 140737488355328) :
    Calls Tryz.prog 70 #[.pointer (some ⟨g, 0, none⟩), .agg (odCells nm o).toArray, strV tx] w (RdDo g d o N A w) := by
  cases o with
  | create n => exact rDo_create w A g d N n tx h hN ho htl
  | write n s =>
    obtain rfl := htx n s rfl
    exact rDo_write w A g d N n tx h hN ho htl
  | sync n => exact rDo_sync w A g d N n tx h hN ho htl
  | rename o n => exact rDo_rename w A g d N o n tx h hN ho htl
  | remove n => exact rDo_remove w A g d N n tx h hN ho htl
  | flush => exact rDo_flush w A g d N nm tx h hN ho htl
theorem rCrash_rd {w : World} {A : List Nat} {g : Nat} {d : Dk} {N : Nat} (h : Rd2 w A g d N) (hN : N ≤ 1073741824) (av : Value) (keep : List Int) (hi : IntsAt w av keep) (hl : keep.length ≤ 4294967296) (ha : ∀ j, usesOf av keep = some j → j ∉ A ∧ j < w.heap.size) :
    Calls Tryz.prog 77 #[.pointer (some ⟨g, 0, none⟩), av] w fun e w' => e = .returned (.tuple #[]) ∧ Rd2To g (dcrash d keep) N A w w' := by
  obtain ⟨fv, nv, sv, pv, kv, h1, h2, h3, h4⟩ := h
  by_cases hoff : d.off = true
  · have e : dcrash d keep = d := by unfold dcrash; rw [if_pos hoff]
    rw [e]
    refine (rCrash_off w g fv nv sv pv kv av d h1 hoff).mono fun e w' ⟨he, hw⟩ => ⟨he, ?_⟩
    rw [hw]
    exact ⟨A, ⟨fv, nv, sv, pv, kv, h1, h2, h3, h4⟩, Stp.refl _ _⟩
  · have e : dcrash d keep = dfail d keep := by unfold dcrash; rw [if_neg hoff]
    rw [e]
    refine (rCrash_any w g fv nv sv pv kv av d keep N h1 h2.ok h2.bd hN hi hl (fun j hj => ⟨fun e => (ha j hj).1 (h3 j (rfoot_mem.2 (Or.inl e))), fun e => (ha j hj).1 (h3 j (rfoot_mem.2 (by simp [e]))), (ha j hj).2⟩) (by simpa using hoff)).mono fun e w' hp => ⟨hp.1, ?_⟩
    exact (RFailPost.mid (A := A) (w := w) (nv := nv) (pv := pv) (kv := kv) ((Stp.refl (rfoot g fv nv sv pv kv) w).wide h3) (fun k hk => h4 k (h3 k hk)) hp).to (dfail_refN h2 keep)
theorem rList_rd {w : World} {A : List Nat} {g : Nat} {d : Dk} {N : Nat} (h : Rd2 w A g d N) (hN : N ≤ 1073741824) (head : List UInt8) :
    Calls Tryz.prog 73 #[.pointer (some ⟨g, 0, none⟩), strV head] w fun e w' => ∃ v', e = .returned (.tuple #[v', .int .i64 (if d.off = true then 20 else 0)]) ∧ w'.ownsRow w.heap.size 9 1 v' (dlist d head).length ((dlist d head).map strV) ∧ Below w.heap.size w w' := by
  obtain ⟨fv, nv, sv, pv, kv, h1, h2, h3, h4⟩ := h
  exact rList_any w g fv nv sv pv kv d head h1 (by have := h2.bd.now; omega)
/-! ### an operation as it is asked -/
theorem infoOpS : (Tryz.prog.info? 122).map (fun i => i.size) = some 4 := by kernel_rfl
set_option maxRecDepth 100000 in
theorem named_results (tmps : Array Value) (w : World) (g : Nat) (x y z u : Value) (tt : TypeId)
    (hp : tmps.getD 2 undef = .pointer (some ⟨g, 0, none⟩)) (hg : Blk w g [x, y, z, u] tt) :
    (results Tryz.f71 tmps).run Tryz.prog w = .ok (.agg #[x, y, z, u]) w := by
  have hp' : tmps[2]?.getD undef = .pointer (some ⟨g, 0, none⟩) := by simpa using hp
  have hl : (loadVar 122 ⟨g, 0, none⟩).run Tryz.prog w = .ok (.agg #[x, y, z, u]) w := run_loadVar_row w g tt _ #[x, y, z, u] (0, 0) _ hg Tryz.underlying122 rfl infoOpS
  simp [results, Tryz.results71, hp', asAddr, hl]
set_option maxHeartbeats 2000000 in
set_option maxRecDepth 100000 in
theorem named_any (w : World) (s : Sp) (kv : Value) (hkv : ∃ a n c, kv = .slice a n c) (h1 : 1 ≤ s.do_) (h6 : s.do_ ≤ 6) :
    Calls Tryz.prog 71 #[.agg (s.cells kv).toArray] w fun e w' => e = .returned (.agg (odCells s.name (odOf s)).toArray) ∧ Below w.heap.size w w' := by
  obtain ⟨ka, kn, kc, rfl⟩ := hkv
  obtain ⟨do_, who, name, data, n, keep⟩ := s
  have hb := (Blk.new w ([Value.int .i64 do_, .int .i64 who, strV name, strV data, .int .i64 n, .slice ka kn kc]) 36).alloc (.cells #[.int .i64 0, strV [], strV [], .int .i64 0] 122)
  have k0 := hb.cell 0
  have k2 := hb.cell 2
  have k3 := hb.cell 3
  simp only [List.getElem?_cons_zero, List.getElem?_cons_succ] at k0 k2 k3
  unfold Sp.cells
  simp only at h1 h6 ⊢
  clear hb
  by_cases e4 : do_ = 4
  · subst e4
    have ho : odOf ⟨4, who, name, data, n, keep⟩ = .rename name data := by unfold odOf; simp
    rw [ho]
    clear ho
    go_enter Tryz.func71, Tryz.ntmps71
    go_wp2
    have hb2 := Blk.new (w.alloc (.cells ([Value.int .i64 4, .int .i64 who, strV name, strV data, .int .i64 n, .slice ka kn kc]).toArray 36)) [.int .i64 4, strV name, strV data, .int .i64 0] 122
    rw [World.size_alloc] at hb2
    exact bodyPost_ret (v := .agg #[.int .i64 4, strV name, strV data, .int .i64 0]) (named_results _ _ (w.heap.size + 1) _ _ _ _ 122 rfl hb2) rfl ⟨rfl, ((Below.refl _ w).alloc (Nat.le_refl _) _).alloc (by simp) _⟩
  · have q4 : (do_ == 4) = false := by simpa using e4
    have ho : (odCells name (odOf ⟨do_, who, name, data, n, keep⟩)) = [.int .i64 do_, strV [], strV name, .int .i64 0] := by
      have : do_ = 1 ∨ do_ = 2 ∨ do_ = 3 ∨ do_ = 5 ∨ do_ = 6 := by omega
      rcases this with rfl | rfl | rfl | rfl | rfl <;> rfl
    rw [ho]
    clear ho
    go_enter Tryz.func71, Tryz.ntmps71
    go_wp2
    have hb2 := Blk.new (w.alloc (.cells ([Value.int .i64 do_, .int .i64 who, strV name, strV data, .int .i64 n, .slice ka kn kc]).toArray 36)) [.int .i64 do_, strV [], strV name, .int .i64 0] 122
    rw [World.size_alloc] at hb2
    exact bodyPost_ret (v := .agg #[.int .i64 do_, strV [], strV name, .int .i64 0]) (named_results _ _ (w.heap.size + 1) _ _ _ _ 122 rfl hb2) rfl ⟨rfl, ((Below.refl _ w).alloc (Nat.le_refl _) _).alloc (by simp) _⟩
end Go.Proofs.YtfgpigblnkanpaaGreatDoor
