/- The walks of the journal's Open, Len, Reset. -/
import Derived.Test.YtfgpigblnkanpaaGreatDoorJo
namespace Go.Proofs.YtfgpigblnkanpaaGreatDoor
open Go.RowKit Go.Maps Go.Shelf
set_option linter.unusedVariables false

theorem Jl.start {w0 w : World} {K A : List Nat} {g : Nat} {d : Dk} {N : Nat} {nm : Nm} (h : Mine w0 w K A g d N) (hl : nm.length ≤ 200) : Jl w0 (w.alloc (.cells #[.pointer (some ⟨g, 0, none⟩), strV nm, .int .i64 0, .bool false] 149)) K A w.heap.size g d N nm 0 false := by
  have hb : Below w.heap.size w (w.alloc (.cells #[.pointer (some ⟨g, 0, none⟩), strV nm, .int .i64 0, .bool false] 149)) := (Below.refl _ w).alloc (Nat.le_refl _) _
  exact ⟨h.add hb [w.heap.size] (fun k hk => by simp at hk; subst hk; simp), Blk.new _ _ _, h.bel.size, fun hm => by have := (h.far _ hm).1; omega, hl⟩
theorem Jl.disk {w0 w : World} {K A : List Nat} {jb g : Nat} {d : Dk} {N : Nat} {nm : Nm} {n : Nat} {c : Bool} (h : Jl w0 w K A jb g d N nm n c) : Mine w0 w K A g d N := h.m.less (fun k hk => List.mem_cons_of_mem _ hk)
set_option maxHeartbeats 4000000 in
set_option maxRecDepth 100000 in
theorem jOpen_bad {w : World} {g : Nat} {nm : Nm} (hl : nm.length < 1 ∨ 199 < nm.length) (hm : nm.length ≤ 140737488351232) :
    Calls Tryz.prog 50 #[.pointer (some ⟨g, 0, none⟩), strV nm] w fun e w' => e = .returned (.tuple #[.pointer none, .slice none 0 0, errV 21]) ∧ w = w' := by
  have hsz := str_size nm
  rw [errV_some (n := 21) (by omega)]
  rcases hl with hl | hl
  · have h1 : (nm.length : Int) < 1 := by omega
    clear hl
    go_enter Tryz.func50, Tryz.ntmps50
    go_wp2
    go_ret3
    exact ⟨rfl, rfl⟩
  · have h1 : ¬ (nm.length : Int) < 1 := by omega
    have h2 : (199 : Int) < (nm.length : Int) := by omega
    clear hl
    go_enter Tryz.func50, Tryz.ntmps50
    go_wp2
    go_ret3
    exact ⟨rfl, rfl⟩
set_option maxHeartbeats 4000000 in
set_option maxRecDepth 100000 in
theorem jOpen_any {w0 w : World} {K A : List Nat} {g : Nat} {d : Dk} {N : Nat} {nm : Nm} (h : Mine w0 w K A g d N) (hl : 1 ≤ nm.length ∧ nm.length ≤ 199) (hN : N + 10 < 4294967296) (hfl : Small d) {R : Jb} (hR : jstart d nm = R) (hRl : R.l.length ≤ 4294967296) :
    Calls Tryz.prog 50 #[.pointer (some ⟨g, 0, none⟩), strV nm] w fun e w' =>
      (R.e ≠ 0 ∧ e = .returned (.tuple #[.pointer none, .slice none 0 0, errV R.e]) ∧ MineTo w0 K w g R.d (N + 10) w') ∨
      (R.e = 0 ∧ ∃ jb v A', e = .returned (.tuple #[.pointer (some ⟨jb, 0, none⟩), v, .nilIface]) ∧ Jl w0 w' (v.ownBlock.toList ++ K) A' jb g R.d (N + 10) nm R.l.length false ∧ (∀ k ∈ K, w'.heap[k]? = w.heap[k]?) ∧ TextsAt w' v R.l ∧ w.heap.size ≤ jb ∧ CapOk v) := by
  have hsz := str_size nm
  have hj := Jl.start h (nm := nm) (by omega)
  have hB := jbegin_any hj hN hfl
  rw [hR] at hB
  have hK : ∀ k ∈ K, (w.alloc (.cells #[.pointer (some ⟨g, 0, none⟩), strV nm, .int .i64 0, .bool false] 149)).heap[k]? = w.heap[k]? := h.bel.size |> fun _ => fun k hk => ((Below.refl w.heap.size w).alloc (Nat.le_refl _) _).block k (h.far k hk).1
  have h1 : ¬ (nm.length : Int) < 1 := by omega
  have h2 : ¬ (199 : Int) < (nm.length : Int) := by omega
  have HB := Lib.hid hB
  have HK := Lib.hid hK
  clear h hj hB hK hl
  go_enter Tryz.func50, Tryz.ntmps50
  go_wp2_with (fail)
  refine HB.out.mono ?_
  rintro e w1 ⟨v, A1, rfl, h3, hk3, ht3, hcp⟩
  by_cases hz : R.e = 0
  · rw [hz, errV_none]
    obtain ⟨va, vc, rfl, -⟩ := ht3.shape
    have HCP := Lib.hid hcp
    clear hcp
    have c2 := h3.cells.2.2.1
    have hfr := h3.j.free 2
    simp only [List.length_map] at *
    have hcnt := h3.count R.l.length
    have H := Lib.hid hcnt.1
    have HKK := Lib.hid hcnt.2
    have HT := Lib.hid ht3
    have HK3 := Lib.hid hk3
    have HZ := Lib.hid hz
    clear h3 hk3 ht3 hcnt hz
    go_wp2_with (fail)
    go_ret3
    exact Or.inr ⟨HZ.out, _, _, A1, rfl, H.out, fun k hk => (HKK.out k (List.mem_append_right _ hk)).trans ((HK3.out k hk).trans (HK.out k hk)), HT.out.same (fun k hk => HKK.out k (List.mem_append_left _ (by simp [hk]))), Nat.le_refl _, HCP.out⟩
  · rw [errV_some hz]
    have HZ := Lib.hid hz
    have H := Lib.hid h3
    have HK3 := Lib.hid hk3
    clear h3 hk3 ht3 hz
    go_wp2_with (fail)
    go_ret3
    exact Or.inl ⟨HZ.out, by rw [errV_some HZ.out]; rfl, ⟨A1, H.out.less.disk⟩, fun k hk => (HK3.out k hk).trans (HK.out k hk)⟩
set_option maxRecDepth 100000 in
theorem jLen_at {w : World} {jb : Nat} {v : Value} (c2 : w.cell? ⟨jb, 2, none⟩ = some v) : Calls Tryz.prog 56 #[.pointer (some ⟨jb, 0, none⟩)] w fun e w' => e = .returned v ∧ w = w' := by
  go_enter Tryz.func56, Tryz.ntmps56
  go_wp2_with (fail)
  go_ret
  exact ⟨rfl, rfl⟩
set_option maxRecDepth 100000 in
theorem jLen_any {w0 w : World} {K A : List Nat} {jb g : Nat} {d : Dk} {N : Nat} {nm : Nm} {n : Nat} {c : Bool} (h : Jl w0 w K A jb g d N nm n c) : Calls Tryz.prog 56 #[.pointer (some ⟨jb, 0, none⟩)] w fun e w' => e = .returned (.int .i64 n) ∧ w = w' := by
  have c2 := h.cells.2.2.1
  clear h
  go_enter Tryz.func56, Tryz.ntmps56
  go_wp2_with (fail)
  go_ret
  exact ⟨rfl, rfl⟩
end Go.Proofs.YtfgpigblnkanpaaGreatDoor
