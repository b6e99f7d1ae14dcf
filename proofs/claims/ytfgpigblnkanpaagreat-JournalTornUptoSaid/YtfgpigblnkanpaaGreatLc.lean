/- A disk that was made within the law: its operations, with what is kept beside it; two images held against each other. -/
import Derived.Test.YtfgpigblnkanpaaGreatLb
import Derived.Laws.AppendOwnNone
import Derived.Maps.AppendAt
namespace Go.Proofs.YtfgpigblnkanpaaGreat
open Go.RowKit Go.Maps Go.Shelf
set_option linter.unusedVariables false

theorem ddo_eq {d d' : Dk} {o : Od} {c : Nat} (h1 : (ddo d o).1 = d') (h2 : (ddo d o).2 = c) : ddo d o = (d', c) := by rw [← h1, ← h2]
/-- A disk made behind w0, within the blocks A; the blocks K are no blocks of it. -/
structure Mine (w0 w : World) (K A : List Nat) (g : Nat) (d : Dk) (N : Nat) : Prop where
  hd : Hd w A g d N
  base : ∀ k ∈ A, w0.heap.size ≤ k
  bel : Below w0.heap.size w0 w
  far : ∀ k ∈ K, k < w.heap.size ∧ k ∉ A
/-- Behind a call on it. -/
def MineTo (w0 : World) (K : List Nat) (w : World) (g : Nat) (d' : Dk) (N' : Nat) (w' : World) : Prop :=
  (∃ A', Mine w0 w' K A' g d' N') ∧ ∀ k ∈ K, w'.heap[k]? = w.heap[k]?
section
variable {w0 w w' : World} {K A : List Nat} {g : Nat} {d d' : Dk} {N N' : Nat}
theorem Mine.to (h : Mine w0 w K A g d N) (ht : HdTo g d' N' A w w') : MineTo w0 K w g d' N' w' := by
  obtain ⟨A', h1, h2⟩ := ht
  refine ⟨⟨A', h1, h2.from h.base h.bel.size, h.bel.trans (h2.below h.base h.bel.size), fun k hk => ⟨Nat.lt_of_lt_of_le (h.far k hk).1 h2.size, fun hm => ?_⟩⟩, fun k hk => h2.block k (h.far k hk).1 (h.far k hk).2⟩
  rcases h2.inn k hm with h3 | h3
  · exact (h.far k hk).2 h3
  · have := (h.far k hk).1
    omega
theorem Mine.below (h : Mine w0 w K A g d N) (hb : Below w.heap.size w w') : Mine w0 w' K A g d N :=
  ⟨h.hd.below hb, h.base, h.bel.trans (hb.mono h.bel.size), fun k hk => ⟨Nat.lt_of_lt_of_le (h.far k hk).1 hb.size, (h.far k hk).2⟩⟩
theorem Mine.add (h : Mine w0 w K A g d N) (hb : Below w.heap.size w w') (M : List Nat) (hM : ∀ k ∈ M, w.heap.size ≤ k ∧ k < w'.heap.size) : Mine w0 w' (M ++ K) A g d N := by
  have h2 := h.below hb
  refine ⟨h2.hd, h2.base, h2.bel, fun k hk => ?_⟩
  rcases List.mem_append.1 hk with h3 | h3
  · exact ⟨(hM k h3).2, fun hm => by have := h.hd.lt k hm; have := (hM k h3).1; omega⟩
  · exact h2.far k h3
theorem Mine.less (h : Mine w0 w K A g d N) {M : List Nat} (hM : ∀ k ∈ M, k ∈ K) : Mine w0 w M A g d N := ⟨h.hd, h.base, h.bel, fun k hk => h.far k (hM k hk)⟩
theorem Mine.mono (h : Mine w0 w K A g d N) {M : Nat} (hm : N ≤ M) : Mine w0 w K A g d M := ⟨h.hd.mono hm, h.base, h.bel, h.far⟩
theorem Mine.set (h : Mine w0 w K A g d N) (a : Addr) (ha : a.block ∈ K) (hb : w0.heap.size ≤ a.block) (v : Value) : Mine w0 (w.setCell a v) K A g d N :=
  ⟨h.hd.set a (h.far _ ha).2 v, h.base, h.bel.setCell hb v, fun k hk => ⟨by simpa [World.setCell] using (h.far k hk).1, (h.far k hk).2⟩⟩
variable {c : Nat}
theorem Mine.do {o : Od} {e : Ending} (h : Mine w0 w K A g d N) (hc : ddo d o = (d', c)) (hp : HdDo g d o N A w e w') : e = .returned (errV c) ∧ MineTo w0 K w g d' (N + 1) w' := by
  obtain ⟨he, ht⟩ := hp
  rw [hc] at he ht
  exact ⟨he, h.to ht⟩
theorem Create_m (h : Mine w0 w K A g d N) (n : Nm) (hc : ddo d (.create n) = (d', c)) (hN : N + 1 < 4294967296) (hn : n.length ≤ 9223372036854775807) : Calls Tryz.prog 15 #[.pointer (some ⟨g, 0, none⟩), strV n] w fun e w' => e = .returned (errV c) ∧ MineTo w0 K w g d' (N + 1) w' :=
  (Create_hd h.hd hN n hn).mono fun e w' hp => h.do hc hp
theorem Sync_m (h : Mine w0 w K A g d N) (n : Nm) (hc : ddo d (.sync n) = (d', c)) (hN : N + 1 < 4294967296) (hn : n.length ≤ 9223372036854775807) : Calls Tryz.prog 20 #[.pointer (some ⟨g, 0, none⟩), strV n] w fun e w' => e = .returned (errV c) ∧ MineTo w0 K w g d' (N + 1) w' :=
  (Sync_hd h.hd hN n hn).mono fun e w' hp => h.do hc hp
theorem Remove_m (h : Mine w0 w K A g d N) (n : Nm) (hc : ddo d (.remove n) = (d', c)) (hN : N + 1 < 4294967296) (hn : n.length ≤ 9223372036854775807) : Calls Tryz.prog 43 #[.pointer (some ⟨g, 0, none⟩), strV n] w fun e w' => e = .returned (errV c) ∧ MineTo w0 K w g d' (N + 1) w' :=
  (Remove_hd h.hd hN n hn).mono fun e w' hp => h.do hc hp
theorem Write_m (h : Mine w0 w K A g d N) (n : Nm) (s : List UInt8) (hc : ddo d (.write n s) = (d', c)) (hN : N + 1 < 4294967296) (hn : n.length ≤ 9223372036854775807) (hs : s.length ≤ 140737488355328) : Calls Tryz.prog 16 #[.pointer (some ⟨g, 0, none⟩), strV n, strV s] w fun e w' => e = .returned (errV c) ∧ MineTo w0 K w g d' (N + 1) w' :=
  (Write_hd h.hd hN n s hn hs).mono fun e w' hp => h.do hc hp
theorem Rename_m (h : Mine w0 w K A g d N) (o n : Nm) (hc : ddo d (.rename o n) = (d', c)) (hN : N + 1 < 4294967296) (ho : o.length ≤ 9223372036854775807) (hn : n.length ≤ 9223372036854775807) : Calls Tryz.prog 60 #[.pointer (some ⟨g, 0, none⟩), strV o, strV n] w fun e w' => e = .returned (errV c) ∧ MineTo w0 K w g d' (N + 1) w' :=
  (Rename_hd h.hd hN o n ho hn).mono fun e w' hp => h.do hc hp
theorem Flush_m (h : Mine w0 w K A g d N) (hc : ddo d .flush = (d', c)) (hN : N + 1 < 4294967296) : Calls Tryz.prog 44 #[.pointer (some ⟨g, 0, none⟩)] w fun e w' => e = .returned (errV c) ∧ MineTo w0 K w g d' (N + 1) w' :=
  (Flush_hd h.hd hN).mono fun e w' hp => h.do hc hp
theorem Read_m (h : Mine w0 w K A g d N) (n : Nm) {s : List UInt8} (hc : dread d n = (s, c)) (hn : n.length ≤ 9223372036854775807) : Calls Tryz.prog 13 #[.pointer (some ⟨g, 0, none⟩), strV n] w fun e w' => e = .returned (.tuple #[strV s, errV c]) ∧ w = w' := by
  have := Read_hd h.hd n hn
  rw [hc] at this
  exact this
theorem Used_m (h : Mine w0 w K A g d N) {k : Nat} (hc : dused d = k) (hN : N < 4294967296) : Calls Tryz.prog 32 #[.pointer (some ⟨g, 0, none⟩)] w fun e w' => e = .returned (.int .i64 k) ∧ Below w.heap.size w w' := by
  have := Used_hd h.hd hN
  rw [hc] at this
  exact this
theorem New_m (w0 w : World) (hb : Below w0.heap.size w0 w) (K : List Nat) (hK : ∀ k ∈ K, k < w.heap.size) (room : Int) : Calls Tryz.prog 6 #[.int .i64 room] w fun e w' => ∃ g A, e = .returned (.pointer (some ⟨g, 0, none⟩)) ∧ Mine w0 w' K A g (dnew room) 0 ∧ Below w.heap.size w w' :=
  (New_hd w room).mono fun e w' ⟨g, A, he, h, hb2, hA⟩ => ⟨g, A, he, ⟨h, fun k hk => Nat.le_trans hb.size (hA k hk), hb.trans (hb2.mono hb.size), fun k hk => ⟨Nat.lt_of_lt_of_le (hK k hk) hb2.size, fun hm => by have := hA k hm; have := hK k hk; omega⟩⟩, hb2⟩
end
theorem RowAt.below {w w' : World} {v : Value} {l : List Value} (h : RowAt w v l) (hb : Below w.heap.size w w') : RowAt w' v l := by
  rcases h with h | ⟨b, off, cap, rfl, h3⟩
  · exact Or.inl h
  · exact Or.inr ⟨b, off, cap, rfl, fun k x hx => by
      have h4 := h3 k x hx
      exact (hb.cell (World.block_lt_of_cell? w _ h4)).trans h4⟩
/-- append of a row that reads as these values, one cell each: nil or not. -/
theorem wpList_append_row {w : World} {ops : Array Oper} {rest : List Oper} {o : Oper} {a : Act} {Q : Exit → Act → World → Prop} (hgd : o.guard = none) (s x : Operand) (t : TypeId)
    (ho : o.op = .call { callee := .builtin .append, args := #[s, x], argTypes := #[t, t] })
    (base : Nat) (e : TypeId) (i : TypeInfo) (z : Value) (bytes : Nat) (ht : Tryz.prog.underlying t = some (.slice e)) (hi : Tryz.prog.info? e = some i) (hz : i.zero = some z)
    (hsize : i.size = 1) (hby : i.bytes = bytes) (hzs : z.cells.size = 1)
    (v : Value) (n : Nat) (xs : List Value) (hs : a.eval s = v) (hown : w.ownsRow base e 1 v n xs)
    (y : Value) (news : List Value) (hx : a.eval x = y) (hrow : RowAt w y news) (h1 : ∀ u ∈ news, u.oneCell' = true)
    (h63 : n + news.length ≤ maxLen) (hbytes : (n + news.length) * bytes ≤ 140737488355328) (hbase : base ≤ w.heap.size)
    (h : ∀ v' w', w'.ownsRow base e 1 v' (n + news.length) (xs ++ news) → w.grownBy w' v.ownBlock → (v'.ownBlock = v.ownBlock ∨ v'.ownBlock = some w.heap.size) → wpList Tryz.prog ops Q rest (a.put o.dst v') w') :
    wpList Tryz.prog ops Q (o :: rest) a w := by
  rcases hrow with ⟨rfl, rfl⟩ | ⟨b, off, cap, rfl, hc⟩
  · exact wpList_append_own_none hgd s x t ho base e i 1 ht hi v n xs hs hown hx (h v w (by simpa using hown) (World.grownBy.refl w _) (Or.inl rfl))
  · exact wpList_append_own_at w hgd s x t ho base e i z 1 bytes ht hi hz hsize hby hzs (by decide) v n xs hs hown ⟨b, off, none⟩ news.length cap news hx (by simp) (fun j u hj => by
      have := hc j u hj
      by_cases h0 : j = 0
      · subst h0; simpa [Addr.add] using this
      · simpa [Addr.add, h0] using this) h1 h63 hbytes hbase (fun v' w' a1 a2 _ a4 => h v' w' a1 a2 a4)
theorem IntsAt.uses {w : World} {v : Value} {l : List Int} (h : IntsAt w v l) : ∀ j, usesOf v l = some j → j < w.heap.size := fun j hj => by
  rcases h with ⟨rfl, _⟩ | ⟨b, off, cap, rfl, h1, h2, h3⟩
  · exact (usesOf_nil hj).elim
  · cases l with
    | nil => exact (usesOf_nil hj).elim
    | cons x l =>
      have e := usesOf_own hj
      simp [Value.ownBlock] at e
      subst e
      exact World.block_lt_of_cell? w _ (h3 0 x rfl)
theorem IntsAt.below {w w' : World} {v : Value} {l : List Int} (h : IntsAt w v l) (hb : Below w.heap.size w w') : IntsAt w' v l := h.same fun k hk => hb.block k (h.uses k hk)
end Go.Proofs.YtfgpigblnkanpaaGreat
