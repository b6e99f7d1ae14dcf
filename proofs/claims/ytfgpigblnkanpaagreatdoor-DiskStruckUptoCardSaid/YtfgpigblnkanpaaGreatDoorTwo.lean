/- Two disks made within the law, beside each other; the plain law of DiskStruck. -/
import Derived.Test.YtfgpigblnkanpaaGreatDoorLd
import Derived.Test.YtfgpigblnkanpaaGreatDoorDkStruck
namespace Go.Proofs.YtfgpigblnkanpaaGreatDoor
open Go.RowKit Go.Maps Go.Shelf
set_option linter.unusedVariables false

/-- Two disks, within blocks of their own; the blocks K are none of theirs. -/
structure Two (w0 w : World) (K A B : List Nat) (ga gb : Nat) (a b : Dk) (N : Nat) : Prop where
  l : Mine w0 w (B ++ K) A ga a N
  r : Mine w0 w (A ++ K) B gb b N
section
variable {w0 w w' : World} {K A B : List Nat} {ga gb : Nat} {a b a' b' : Dk} {N N' : Nat}
theorem Two.swap (h : Two w0 w K A B ga gb a b N) : Two w0 w K B A gb ga b a N := ⟨h.r, h.l⟩
theorem Two.below (h : Two w0 w K A B ga gb a b N) (hb : Below w.heap.size w w') : Two w0 w' K A B ga gb a b N := ⟨h.l.below hb, h.r.below hb⟩
theorem Two.mono (h : Two w0 w K A B ga gb a b N) (hm : N ≤ N') : Two w0 w K A B ga gb a b N' := ⟨h.l.mono hm, h.r.mono hm⟩
theorem Two.lift (h : Two w0 w K A B ga gb a b N) (hm : N ≤ N') (ht : HdTo ga a' N' A w w') : ∃ A', Two w0 w' K A' B ga gb a' b N' ∧ ∀ k ∈ K, w'.heap[k]? = w.heap[k]? := by
  obtain ⟨⟨A', h1⟩, h2⟩ := h.l.to ht
  obtain ⟨A'', h3, hs⟩ := ht
  -- the layout told by ht itself
  have hfar : ∀ k ∈ A'', k < w'.heap.size := h3.lt
  have hAB : ∀ k ∈ B, k ∉ A := fun k hk => (h.l.far k (List.mem_append_left _ hk)).2
  have hinn : ∀ k ∈ A'', k ∉ B := fun k hk hb => by
    rcases hs.inn k hk with h4 | h4
    · exact hAB k hb h4
    · have := h.r.hd.lt k hb
      omega
  have hl : Mine w0 w' (B ++ K) A'' ga a' N' := by
    refine ⟨h3, hs.from h.l.base h.l.bel.size, h1.bel, fun k hk => ⟨(h1.far k hk).1, fun hm => ?_⟩⟩
    rcases hs.inn k hm with h4 | h4
    · exact (h.l.far k hk).2 h4
    · have := (h.l.far k hk).1
      omega
  refine ⟨A'', ⟨hl, ⟨(h.r.hd.other hs hAB).mono hm, h.r.base, h1.bel, fun k hk => ?_⟩⟩, fun k hk => h2 k (List.mem_append_right _ hk)⟩
  rcases List.mem_append.1 hk with hk | hk
  · exact ⟨hfar k hk, hinn k hk⟩
  · exact ⟨(h1.far k (List.mem_append_right _ hk)).1, (h.r.far k (List.mem_append_right _ hk)).2⟩
theorem Two.right (h : Two w0 w K A B ga gb a b N) (hm : N ≤ N') (ht : HdTo gb b' N' B w w') : ∃ B', Two w0 w' K A B' ga gb a b' N' ∧ ∀ k ∈ K, w'.heap[k]? = w.heap[k]? := by
  obtain ⟨B', h1, h2⟩ := h.swap.lift hm ht
  exact ⟨B', h1.swap, h2⟩
end
/-- The second of two disks, made behind the first. -/
theorem New_two {w0 w : World} {K A : List Nat} {g : Nat} {d : Dk} {N : Nat} (h : Mine w0 w K A g d N) (room : Int) : Calls Tryz.prog 11 #[.int .i64 room] w fun e w' => ∃ g2 B, e = .returned (.pointer (some ⟨g2, 0, none⟩)) ∧ Two w0 w' K A B g g2 d (dnew room) N ∧ Below w.heap.size w w' :=
  (New_hd w room).mono fun e w' ⟨g2, B, he, h1, hb, hB⟩ => by
    refine ⟨g2, B, he, ⟨⟨(h.below hb).hd, h.base, (h.below hb).bel, fun k hk => ?_⟩, ⟨h1.mono (Nat.zero_le _), fun k hk => Nat.le_trans h.bel.size (hB k hk), (h.below hb).bel, fun k hk => ?_⟩⟩, hb⟩
    · rcases List.mem_append.1 hk with hk | hk
      · exact ⟨h1.lt k hk, fun hm => by have := hB k hk; have := h.hd.lt k hm; omega⟩
      · exact (h.below hb).far k hk
    · rcases List.mem_append.1 hk with hk | hk
      · exact ⟨Nat.lt_of_lt_of_le (h.hd.lt k hk) hb.size, fun hm => by have := hB k hm; have := h.hd.lt k hk; omega⟩
      · exact ⟨Nat.lt_of_lt_of_le (h.far k hk).1 hb.size, fun hm => by have := hB k hm; have := (h.far k hk).1; omega⟩
/-- Behind a call on one of them. -/
def TwoTo (w0 : World) (K : List Nat) (w : World) (ga gb : Nat) (a b : Dk) (N : Nat) (w' : World) : Prop :=
  (∃ A B, Two w0 w' K A B ga gb a b N) ∧ ∀ k ∈ K, w'.heap[k]? = w.heap[k]?
section
variable {w0 w w' : World} {K A B : List Nat} {ga gb : Nat} {a b a' b' : Dk} {N : Nat}
theorem Two.to_l (h : Two w0 w K A B ga gb a b N) {N' : Nat} (hm : N ≤ N') (ht : HdTo ga a' N' A w w') : TwoTo w0 K w ga gb a' b N' w' := by
  obtain ⟨A', h1, h2⟩ := h.lift hm ht
  exact ⟨⟨A', B, h1⟩, h2⟩
theorem Two.to_r (h : Two w0 w K A B ga gb a b N) {N' : Nat} (hm : N ≤ N') (ht : HdTo gb b' N' B w w') : TwoTo w0 K w ga gb a b' N' w' := by
  obtain ⟨B', h1, h2⟩ := h.right hm ht
  exact ⟨⟨A, B', h1⟩, h2⟩
theorem Two.add (h : Two w0 w K A B ga gb a b N) (x : Obj) : Two w0 (w.alloc x) (w.heap.size :: K) A B ga gb a b N := by
  have hb : Below w.heap.size w (w.alloc x) := (Below.refl _ w).alloc (Nat.le_refl _) x
  have h2 := h.below hb
  refine ⟨⟨h2.l.hd, h2.l.base, h2.l.bel, fun k hk => ?_⟩, ⟨h2.r.hd, h2.r.base, h2.r.bel, fun k hk => ?_⟩⟩
  · rcases List.mem_append.1 hk with hk | hk
    · exact h2.l.far k (List.mem_append_left _ hk)
    · rcases List.mem_cons.1 hk with rfl | hk
      · exact ⟨by simp, fun hm => Nat.lt_irrefl _ (h.l.hd.lt _ hm)⟩
      · exact h2.l.far k (List.mem_append_right _ hk)
  · rcases List.mem_append.1 hk with hk | hk
    · exact h2.r.far k (List.mem_append_left _ hk)
    · rcases List.mem_cons.1 hk with rfl | hk
      · exact ⟨by simp, fun hm => Nat.lt_irrefl _ (h.r.hd.lt _ hm)⟩
      · exact h2.r.far k (List.mem_append_right _ hk)
theorem Two.less (h : Two w0 w K A B ga gb a b N) {M : List Nat} (hM : ∀ k ∈ M, k ∈ K) : Two w0 w M A B ga gb a b N :=
  ⟨h.l.less fun k hk => (List.mem_append.1 hk).elim (fun h => List.mem_append_left _ h) (fun h => List.mem_append_right _ (hM k h)), h.r.less fun k hk => (List.mem_append.1 hk).elim (fun h => List.mem_append_left _ h) (fun h => List.mem_append_right _ (hM k h))⟩
theorem change_l (h : Two w0 w K A B ga gb a b N) (s : Sp) (ka : Option Addr) (kn kc : Nat) (hN : N + 1 < 4294967296) (h1 : s.name.length ≤ 140737488355328) (h2 : s.data.length ≤ 140737488355328) :
    Calls Tryz.prog 13 #[.pointer (some ⟨ga, 0, none⟩), .agg (s.cells (.slice ka kn kc)).toArray] w fun e w' => e = .returned (errV (ddo a (odOf s)).2) ∧ TwoTo w0 K w ga gb (ddo a (odOf s)).1 b (N + 1) w' :=
  (change_any w A ga a N s _ ⟨_, _, _, rfl⟩ h.l.hd hN h1 h2).mono fun e w' hp => ⟨hp.1, h.to_l (by omega) hp.2⟩
theorem change_r (h : Two w0 w K A B ga gb a b N) (s : Sp) (ka : Option Addr) (kn kc : Nat) (hN : N + 1 < 4294967296) (h1 : s.name.length ≤ 140737488355328) (h2 : s.data.length ≤ 140737488355328) :
    Calls Tryz.prog 13 #[.pointer (some ⟨gb, 0, none⟩), .agg (s.cells (.slice ka kn kc)).toArray] w fun e w' => e = .returned (errV (ddo b (odOf s)).2) ∧ TwoTo w0 K w ga gb a (ddo b (odOf s)).1 (N + 1) w' :=
  (change_any w B gb b N s _ ⟨_, _, _, rfl⟩ h.r.hd hN h1 h2).mono fun e w' hp => ⟨hp.1, h.to_r (by omega) hp.2⟩
end
/-! ### the plain law of DiskStruck -/
theorem drefused_le (d : Dk) (o : Od) : drefused d o ≤ 21 ∧ drefused d o ≠ 20 := by
  cases o <;> simp only [drefused] <;> (repeat' split) <;> omega
theorem Twin.refused {a b : Dk} {k : Nat} {keep : List Int} (h : Twin a b k keep) {o : Od} (hr : drefused b o ≠ 0) : ddo a o = (a, drefused b o) ∧ ddo b o = (b, drefused b o) := by
  obtain ⟨rfl, hc, hp⟩ := h
  have ha : drefused { b with armed := k, fate := keep } o = drefused b o := by cases o <;> rfl
  rw [ddo_no (d := { b with armed := k, fate := keep }) hc.1 (by rw [ha]; exact hr), ddo_no hc.1 hr, ha]
  exact ⟨rfl, rfl⟩
theorem Twin.early {a b : Dk} {k : Nat} {keep : List Int} (h : Twin a b k keep) {o : Od} (hr : drefused b o = 0) (hk : 1 < k) : (ddo a o).2 = 0 ∧ (ddo b o).2 = 0 ∧ Twin (ddo a o).1 (ddo b o).1 (k - 1) keep := by
  obtain ⟨h1, h2, h3⟩ := h.step o (Or.inl hk)
  rw [if_pos hr] at h3
  rw [← h1, h2]
  exact ⟨hr, hr, h3⟩
theorem dbehind_calm {b : Dk} (h : Calm b) (o : Od) : Calm (dbehind b o) := by
  cases o <;> first | exact h | exact h.do _
theorem dbehind_crash {b : Dk} (h : Calm b) (o : Od) (keep : List Int) : dcrash (dbehind b o) keep = dfail (dbehind b o) keep := by
  unfold dcrash
  rw [if_neg (by rw [(dbehind_calm h o).1]; simp)]
theorem Twin.new (room : Int) {k : Nat} (hk : 0 < k) (keep : List Int) : Twin (darm (dnew room) k keep) (dnew room) k keep := ⟨by unfold darm; congr 1; omega, ⟨rfl, rfl⟩, hk⟩
theorem Twin.shown {a b : Dk} {k : Nat} {keep : List Int} (h : Twin a b k keep) : dshown a = dshown b ∧ a.off = false ∧ b.off = false := by
  obtain ⟨rfl, hc, hp⟩ := h
  exact ⟨rfl, hc.1, hc.1⟩
theorem dbehind_none {b : Dk} {s : Sp} (h : s.do_ = 3 ∨ s.do_ = 6) : dbehind b (odOf s) = b := by
  unfold odOf
  rcases h with h | h <;> rw [h] <;> simp [dbehind]
theorem dbehind_some {b : Dk} {s : Sp} (h1 : 1 ≤ s.do_) (h6 : s.do_ < 6) (h3 : s.do_ ≠ 3) : dbehind b (odOf s) = (ddo b (odOf s)).1 ∧ (∀ n, odOf s ≠ .sync n) ∧ odOf s ≠ .flush := by
  have h : s.do_ = 1 ∨ s.do_ = 2 ∨ s.do_ = 4 ∨ s.do_ = 5 := by omega
  unfold odOf
  rcases h with h | h | h | h <;> rw [h] <;> simp [dbehind]
end Go.Proofs.YtfgpigblnkanpaaGreatDoor
