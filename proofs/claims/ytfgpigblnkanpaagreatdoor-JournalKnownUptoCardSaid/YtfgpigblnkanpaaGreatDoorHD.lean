/- The walks of what an operation of a disk does: Write, Sync, Flush. The walk of the numbers of a fate, one by one. Plain facts about the last bits of a number; what lies in memory while the power fails. What lies in memory while the power fails. -/
import Derived.Test.YtfgpigblnkanpaaGreatDoorGB
import Derived.Test.YtfgpigblnkanpaaGreatDoorGC
import Derived.BigRegion
import Derived.RegionTactic
import Derived.Shelf.SlMaps.Clone
import Derived.Laws.Externs
import Derived.ChangeAlike
namespace Go.Proofs.YtfgpigblnkanpaaGreatDoor
open Go.RowKit Go.Maps Go.Shelf

/-- A file is written behind a draw. -/
theorem write_done {w : World} {g : Nat} {L : Lay} {d : Dk} {N f : Nat} {fl : Fl} {a : Addr} {v : Value} (h : DiskIn w g L d N) (hf : f < d.files.length) (ha : a.block = fb L.F f) (hb : Blk (w.setCell a v) (fb L.F f) (flCells fl) 111) :
    DiskIn (w.setCell a v).drew g L { d with files := d.files.set f fl } N ∧ Stp (L.foot g ++ []) (L.foot g) w (w.setCell a v).drew := by
  refine ⟨(h.setFile hf hb (by simp [World.setCell]) (fun k hk hne => Below.heap_setCell _ _ _ _ (by rw [ha]; exact hne))).drew, ?_⟩
  have := Stp.of_set (A := L.foot g ++ []) (B := L.foot g) w a v (by rw [ha]; exact List.mem_append_left _ (foot_F (getD_mem (by rw [h.len]; exact hf)))) (fun k hk => Or.inl (List.mem_append_left _ hk))
  exact ⟨this.os, this.tape, this.output, this.size, this.block, this.inn⟩

set_option maxHeartbeats 2000000 in
set_option maxRecDepth 100000 in
theorem dkWriteA_any (w : World) (g : Nat) (L : Lay) (d : Dk) (N x y z f : Nat) (n : Nm) (s : List UInt8) (hn : n.length ≤ 9223372036854775807) (hf : tget d.now n = some f) (hle : (fat d.files f).data.length + s.length ≤ 9223372036854775807) (h : DiskIn w g L d N) (hk : DkOk d) (hx : Blk w x [.pointer (some ⟨g, 0, none⟩)] 29) (hy : Blk w y [strV n] 9) (hz : Blk w z [strV s] 9) :
    Calls Tryz.prog 90 #[.pointer (some ⟨x, 0, none⟩), .pointer (some ⟨y, 0, none⟩), .pointer (some ⟨z, 0, none⟩)] w (ActPost g L (dact d false (.write n s)) N [] w) := by
  have x0 := hx.cell 0
  have y0 := hy.cell 0
  have z0 := hz.cell 0
  simp only [List.getElem?_cons_zero] at x0 y0 z0
  obtain ⟨c0, c1, c2, c3, c4, c5, c6⟩ := h.cells
  have hfl := hk.nowIn _ (tget_mem hf)
  obtain ⟨f0, f1⟩ := h.fcells hfl
  have hfree := (h.files f hfl).free 0
  have hl := h.drew.now.look hk.now n hn
  simp only [hf, fileV] at hl
  have hsz := str_size (fat d.files f).data
  have hsz2 := str_size s
  have HH := Lib.hid h
  have HF := Lib.hid hf
  have HK := Lib.hid hk
  clear h hf hk hx hy hz
  go_enter Tryz.func90, Tryz.ntmps90
  go_region
  go_end0
  have hb : Blk (w.setCell ⟨fb L.F f, 0, none⟩ (.string (str (fat d.files f).data ++ str s))) (fb L.F f) (flCells ⟨(fat d.files f).data ++ s, (fat d.files f).safe⟩) 111 := by
    have := (HH.out.files f hfl).set 0 (.string (str (fat d.files f).data ++ str s))
    rw [str_append] at this ⊢
    exact this
  have hd := write_done HH.out hfl rfl hb
  have e1 : dact d false (.write n s) = { d with files := d.files.set f ⟨(fat d.files f).data ++ s, (fat d.files f).safe⟩ } := by
    show { d with files := fmod d.files ((tget d.now n).getD 0) fun f => ⟨f.data ++ s, f.safe⟩ } = _
    rw [HF.out]; rfl
  rw [e1]
  exact ⟨rfl, L, hd.1.mono (Nat.le_succ _), hd.2⟩

set_option maxHeartbeats 2000000 in
set_option maxRecDepth 100000 in
theorem dkSyncA_any (w : World) (g : Nat) (L : Lay) (d : Dk) (N x y f : Nat) (n : Nm) (hn : n.length ≤ 9223372036854775807) (hf : tget d.now n = some f) (h : DiskIn w g L d N) (hk : DkOk d) (hx : Blk w x [.pointer (some ⟨g, 0, none⟩)] 29) (hy : Blk w y [strV n] 9) :
    Calls Tryz.prog 64 #[.pointer (some ⟨x, 0, none⟩), .pointer (some ⟨y, 0, none⟩)] w (ActPost g L (dact d false (.sync n)) N [] w) := by
  have x0 := hx.cell 0
  have y0 := hy.cell 0
  simp only [List.getElem?_cons_zero] at x0 y0
  obtain ⟨c0, c1, c2, c3, c4, c5, c6⟩ := h.cells
  have hfl := hk.nowIn _ (tget_mem hf)
  obtain ⟨f0, f1⟩ := h.fcells hfl
  have hfree := (h.files f hfl).free 1
  have hl := h.drew.now.look hk.now n hn
  simp only [hf, fileV] at hl
  have hsz := str_size (fat d.files f).data
  have HH := Lib.hid h
  have HF := Lib.hid hf
  have HK := Lib.hid hk
  clear h hf hk hx hy
  go_enter Tryz.func64, Tryz.ntmps64
  go_region
  go_end0
  have hb : Blk (w.setCell ⟨fb L.F f, 1, none⟩ (.int .i64 (fat d.files f).data.length)) (fb L.F f) (flCells ⟨(fat d.files f).data, (fat d.files f).data.length⟩) 111 := (HH.out.files f hfl).set 1 (.int .i64 (fat d.files f).data.length)
  have hd := write_done HH.out hfl rfl hb
  have e1 : dact d false (.sync n) = { d with files := d.files.set f ⟨(fat d.files f).data, (fat d.files f).data.length⟩ } := by
    show { d with files := fmod d.files ((tget d.now n).getD 0) fun f => ⟨f.data, f.data.length⟩ } = _
    rw [HF.out]; rfl
  rw [e1]
  exact ⟨rfl, L, hd.1.mono (Nat.le_succ _), hd.2⟩

set_option maxHeartbeats 2000000 in
set_option maxRecDepth 100000 in
theorem mapsClone_any (b : Nat) (es : Array MapEntry) (clock : Nat) (w : World) (hb : w.heap[b]? = some (.map es clock)) :
    Calls Tryz.prog 67 #[.map (some b)] w fun e w' => e = .returned (.map (some w.heap.size)) ∧ w' = w.alloc (.map es clock) := by
  have hq := fun w => run_eql_map_nil_sl (P := Tryz.prog) w 98 _ _ (some b) Tryz.underlying98
  go_enter Tryz.func67, Tryz.ntmps67
  go_wp2
  rw [run_callFunc_extern Tryz.func117 (by kernel_rfl) (by kernel_rfl) (by kernel_rfl) (e := Extern.MapsClone.clone) (by kernel_rfl), run_maps_clone_sl w 98 hb]
  simp only [Result.andThen]
  rw [Oper.upon_value]
  go_wp2
  rw [run_typeAssert_map_sl _ 98 20 _ _ _ Tryz.underlying98]
  simp only [Result.andThen]
  rw [Oper.upon_value]
  go_wp2
  go_ret
  exact ⟨rfl, rfl⟩
theorem MapIs.clone {w : World} {b : Nat} {t : Tb} {F : List Nat} {N : Nat} (h : MapIs w b t F N) : Calls Tryz.prog 67 #[.map (some b)] w fun e w' => e = .returned (.map (some w.heap.size)) ∧ MapIs w' w.heap.size t F N ∧ Below w.heap.size w w' ∧ w'.heap.size = w.heap.size + 1 := by
  obtain ⟨es, clock, hb⟩ := h.obj
  refine (mapsClone_any b es clock w hb).mono fun e w' ⟨he, hw⟩ => ?_
  subst hw
  exact ⟨he, mapClone_is h hb (MapKept.heap_alloc w _).1, (Below.refl _ w).alloc (Nat.le_refl _) _, by simp⟩
end Go.Proofs.YtfgpigblnkanpaaGreatDoor

namespace Go.Proofs.YtfgpigblnkanpaaGreatDoor
open Go.RowKit Go.Maps Go.Shelf

/-- A slice that reads as these integers. -/
def IntsAt (w : World) (v : Value) (l : List Int) : Prop :=
  (l = [] ∧ ∃ a cap, v = .slice a 0 cap) ∨ ∃ b off cap, v = .slice (some ⟨b, off, none⟩) l.length cap ∧ l.length ≤ cap ∧ cap ≤ 9223372036854775807 ∧ ∀ k x, l[k]? = some x → w.cell? ⟨b, off + k, none⟩ = some (.int .i64 x)
/-- The block that a row of numbers uses: none, where there is no number. -/
def usesOf (v : Value) (l : List Int) : Option Nat := if l = [] then none else v.ownBlock
theorem usesOf_own {v : Value} {l : List Int} {k : Nat} (h : usesOf v l = some k) : v.ownBlock = some k := by
  unfold usesOf at h
  split at h
  · cases h
  · exact h
theorem usesOf_nil {v : Value} {k : Nat} (h : usesOf v [] = some k) : False := by simp [usesOf] at h
theorem IntsAt.same {w w' : World} {v : Value} {l : List Int} (h : IntsAt w v l) (hs : ∀ k, usesOf v l = some k → w'.heap[k]? = w.heap[k]?) : IntsAt w' v l := by
  rcases h with h | ⟨b, off, cap, rfl, h1, h2, h3⟩
  · exact Or.inl h
  · refine Or.inr ⟨b, off, cap, rfl, h1, h2, fun k x hx => (World.cell?_of_block (a := ⟨b, off + k, none⟩) (hs b ?_)).trans (h3 k x hx)⟩
    cases l with
    | nil => simp at hx
    | cons y l => simp [usesOf, Value.ownBlock]
theorem IntsAt.nil (w : World) (a : Option Addr) (cap : Nat) : IntsAt w (.slice a 0 cap) [] := Or.inl ⟨rfl, a, cap, rfl⟩
theorem grown_set1 (w : World) (g i : Nat) (v : Value) : w.grownBy (w.setCell ⟨g, i, none⟩ v) (some g) :=
  ⟨rfl, rfl, rfl, by simp [World.setCell], fun k _ hne => Below.heap_setCell _ _ _ _ (fun e => hne (by rw [e]))⟩
def NextPost (kb : Nat) (v : Value) (l : List Int) (w : World) (e : Ending) (w' : World) : Prop :=
  e = .returned (.int .i64 (l.headD 0)) ∧ ∃ v', Blk w' kb [v'] 24 ∧ IntsAt w' v' l.tail ∧ (∀ k, usesOf v' l.tail = some k → usesOf v l = some k) ∧ w.grownBy w' (some kb)

set_option maxHeartbeats 1000000 in
set_option maxRecDepth 100000 in
theorem dkNext_any (w : World) (kb : Nat) (v : Value) (l : List Int) (hb : Blk w kb [v] 24) (h : IntsAt w v l) (hne : ∀ k, usesOf v l = some k → k ≠ kb) : Calls Tryz.prog 118 #[.pointer (some ⟨kb, 0, none⟩)] w (NextPost kb v l w) := by
  have k0 := hb.cell 0
  have fz := hb.free 0
  simp only [List.getElem?_cons_zero] at k0
  cases l with
  | nil =>
    rcases h with ⟨_, a, cap, rfl⟩ | ⟨b, off, cap, rfl, h1, h2, h3⟩
    · have HB := Lib.hid hb
      clear hb
      go_enter Tryz.func118, Tryz.ntmps118
      go_wp2
      go_ret
      exact ⟨rfl, _, HB.out, IntsAt.nil _ _ _, fun k hk => hk, grown_refl _ _⟩
    · have HB := Lib.hid hb
      clear hb h3
      simp only [List.length_nil] at k0 h1
      go_enter Tryz.func118, Tryz.ntmps118
      go_wp2
      go_ret
      exact ⟨rfl, _, HB.out, IntsAt.nil _ _ _, fun k hk => hk, grown_refl _ _⟩
  | cons x l =>
    rcases h with ⟨h, _⟩ | ⟨b, off, cap, rfl, h1, h2, h3⟩
    · cases h
    · have c0 := h3 0 x rfl
      simp only [List.length_cons] at k0 h1
      rw [Nat.add_zero] at c0
      have hbk : b ≠ kb := hne b (by simp [usesOf, Value.ownBlock])
      have hq : ((l.length : Int) + 1 == 0) = false := by simp; omega
      have H3 : Hid (∀ (u : Value) k y, l[k]? = some y → (w.setCell ⟨kb, 0, none⟩ u).cell? ⟨b, off + 1 + k, none⟩ = some (.int .i64 y)) := fun u k y hy => by
        have := h3 (k + 1) y (by simpa using hy)
        rw [show off + 1 + k = off + (k + 1) by omega]
        exact (World.cell?_of_block (w := w) (a := ⟨b, off + (k + 1), none⟩) (Below.heap_setCell _ _ _ _ hbk)).trans this
      have HB := Lib.hid hb
      clear hb h3 hne
      by_cases hcap : cap = 1
      · subst hcap
        obtain rfl : l = [] := List.eq_nil_of_length_eq_zero (by omega)
        go_enter Tryz.func118, Tryz.ntmps118
        go_wp2
        go_ret
        exact ⟨rfl, _, HB.out.set 0 _, Or.inl ⟨rfl, _, _, rfl⟩, fun k hk => by have := usesOf_own hk; simpa [usesOf, Value.ownBlock] using this, grown_set1 _ _ _ _⟩
      · have hc1 : 1 < cap := by omega
        go_enter Tryz.func118, Tryz.ntmps118
        go_wp2
        go_ret
        exact ⟨rfl, _, HB.out.set 0 _, Or.inr ⟨b, off + 1, cap - 1, rfl, by simp; omega, by omega, fun k y hy => H3.out _ k y hy⟩, fun k hk => by have := usesOf_own hk; simpa [usesOf, Value.ownBlock] using this, grown_set1 _ _ _ _⟩
end Go.Proofs.YtfgpigblnkanpaaGreatDoor

namespace Go.Proofs.YtfgpigblnkanpaaGreatDoor
open Go.RowKit Go.Maps Go.Shelf

theorem bits_and (x : Int) (m : Nat) (hm : m < 9223372036854775808) : bits .and .i64 x m = ((x % 18446744073709551616).toNat &&& m : Nat) := by
  show IntKind.i64.wrap ((BitVec.ofInt 64 x &&& BitVec.ofInt 64 (m : Int)).toNat : Int) = _
  have h1 : (BitVec.ofInt 64 x).toNat = (x % 18446744073709551616).toNat := by rw [BitVec.toNat_ofInt]; rfl
  have h2 : (BitVec.ofInt 64 (m : Int)).toNat = m := by
    rw [BitVec.ofInt_natCast, BitVec.toNat_ofNat]; exact Nat.mod_eq_of_lt (by omega)
  rw [BitVec.toNat_and, h1, h2, IntKind.wrap_i64]
  have h3 : (x % 18446744073709551616).toNat &&& m ≤ m := Nat.and_le_right
  omega
theorem bits_and1 (x : Int) : bits .and .i64 x 1 = x % 2 := by
  have h := bits_and x 1 (by omega)
  rw [Nat.and_one_is_mod] at h
  have e : ((1 : Nat) : Int) = 1 := rfl
  rw [e] at h
  rw [h]; omega
theorem bits_and3 (x : Int) : bits .and .i64 x 3 = x % 4 := by
  have h := bits_and x 3 (by omega)
  have h4 : (x % 18446744073709551616).toNat &&& 3 = (x % 18446744073709551616).toNat % 4 := Nat.and_two_pow_sub_one_eq_mod _ 2
  rw [h4] at h
  have e : ((3 : Nat) : Int) = 3 := rfl
  rw [e] at h
  rw [h]; omega
theorem headD_drop (l : List Int) (k : Nat) : (l.drop k).headD 0 = keepAt l k := by
  unfold keepAt
  rw [List.getD_eq_getElem?_getD, List.headD_eq_head?_getD, List.head?_drop]
end Go.Proofs.YtfgpigblnkanpaaGreatDoor

namespace Go.Proofs.YtfgpigblnkanpaaGreatDoor
set_option linter.unusedVariables false
open Go.RowKit Go.Maps Go.Shelf

/-- While the power fails: the safe table, the files, the fate's rest; nothing else of what was there has turned. -/
structure FailAt (w : World) (L : Lay) (d : Dk) (rest : List Int) (t : Tb) (M : Nat) (fs : List Fl) (w' : World) : Prop where
  tab : MapIs w' L.bs t L.F M
  files : ∀ i, i < fs.length → Blk w' (fb L.F i) (flCells (fat fs i)) 111
  len : fs.length = d.files.length
  box : ∃ kv, Blk w' w.heap.size [kv] 24 ∧ IntsAt w' kv rest ∧ ∀ j, usesOf kv rest = some j → j < w.heap.size ∧ j ≠ L.bs ∧ j ∉ L.F
  same : ∀ j, j < w.heap.size → j ≠ L.bs → j ∉ L.F → w'.heap[j]? = w.heap[j]?
  os : w'.os = w.os
  tape : w'.tape = w.tape
  output : w'.output = w.output
section
variable {w w' w2 : World} {L : Lay} {d : Dk} {rest : List Int} {t : Tb} {M : Nat} {fs : List Fl}
theorem FailAt.size (h : FailAt w L d rest t M fs w') : w.heap.size < w'.heap.size := by
  obtain ⟨kv, hb, _⟩ := h.box
  exact hb.lt
theorem FailAt.kept (h : FailAt w L d rest t M fs w') (ap : ∀ k ∈ L.F, k < w.heap.size) (hbs : L.bs < w.heap.size) (hs : ∀ k, k ≤ w.heap.size → w2.heap[k]? = w'.heap[k]?) (ho : w2.os = w'.os) (ht : w2.tape = w'.tape) (hou : w2.output = w'.output) (hl : L.F.length = d.files.length) : FailAt w L d rest t M fs w2 := by
  obtain ⟨kv, hb, hi, hk⟩ := h.box
  exact ⟨h.tab.same (hs _ (Nat.le_of_lt hbs)), fun i hi => (h.files i hi).same (hs _ (Nat.le_of_lt (ap _ (getD_mem (by rw [hl, ← h.len]; exact hi))))), h.len, ⟨kv, hb.same (hs _ (Nat.le_refl _)), hi.same (fun k hk' => hs k (Nat.le_of_lt (hk k hk').1)), hk⟩, fun j hj h1 h2 => (hs j (Nat.le_of_lt hj)).trans (h.same j hj h1 h2), ho.trans h.os, ht.trans h.tape, hou.trans h.output⟩
theorem FailAt.below (h : FailAt w L d rest t M fs w') (ap : ∀ k ∈ L.F, k < w.heap.size) (hbs : L.bs < w.heap.size) (hl : L.F.length = d.files.length) (hb : Below w'.heap.size w' w2) : FailAt w L d rest t M fs w2 :=
  h.kept ap hbs (fun k hk => hb.block k (by have := h.size; omega)) hb.os hb.tape hb.output hl
theorem FailAt.drewN (h : FailAt w L d rest t M fs w') (n : Nat) : FailAt w L d rest t M fs (w'.drewN n) :=
  ⟨h.tab, h.files, h.len, h.box, h.same, h.os, h.tape, h.output⟩
theorem FailAt.drew (h : FailAt w L d rest t M fs w') : FailAt w L d rest t M fs w'.drew :=
  ⟨h.tab, h.files, h.len, h.box, h.same, h.os, h.tape, h.output⟩
theorem FailAt.more {M' : Nat} (h : FailAt w L d rest t M fs w') (hm : M ≤ M') : FailAt w L d rest t M' fs w' := ⟨h.tab.mono hm, h.files, h.len, h.box, h.same, h.os, h.tape, h.output⟩
/-- An operation on the safe table. -/
theorem FailAt.act {t' : Tb} {M' : Nat} (h : FailAt w L d rest t M fs w') (hbs : L.bs < w.heap.size) (hsF : L.bs ∉ L.F) (hl : L.F.length = d.files.length) (ht : MapIs w2 L.bs t' L.F M') (hg : w'.grownBy w2 (some L.bs)) (ap : ∀ k ∈ L.F, k < w.heap.size) : FailAt w L d rest t' M' fs w2 := by
  have hz := h.size
  obtain ⟨kv, hb, hi, hk⟩ := h.box
  have hs : ∀ k, k ≤ w.heap.size → k ≠ L.bs → w2.heap[k]? = w'.heap[k]? := fun k hk hne => hg.block k (by omega) (fun e => hne (by simpa using e))
  exact ⟨ht, fun i hi => by
    have hm := getD_mem (F := L.F) (i := i) (by rw [hl, ← h.len]; exact hi)
    exact (h.files i hi).same (hs _ (Nat.le_of_lt (ap _ hm)) (fun e => hsF (e ▸ hm))), h.len, ⟨kv, hb.same (hs _ (Nat.le_refl _) (by omega)), hi.same (fun k hk' => hs k (Nat.le_of_lt (hk k hk').1) (hk k hk').2.1), hk⟩, fun j hj h1 h2 => (hs j (Nat.le_of_lt hj) h1).trans (h.same j hj h1 h2), hg.os.trans h.os, hg.tape.trans h.tape, hg.output.trans h.output⟩
/-- A file is cut. -/
theorem FailAt.file {i : Nat} {f : Fl} (h : FailAt w L d rest t M fs w') (hbs : L.bs < w.heap.size) (hsF : L.bs ∉ L.F) (hFF : L.F.Nodup) (hl : L.F.length = d.files.length) (ap : ∀ k ∈ L.F, k < w.heap.size) (hi : i < fs.length) (hb : Blk w2 (fb L.F i) (flCells f) 111) (hs : ∀ k, k ≤ w.heap.size → k ≠ fb L.F i → w2.heap[k]? = w'.heap[k]?) (ho : w2.os = w'.os) (ht : w2.tape = w'.tape) (hou : w2.output = w'.output) : FailAt w L d rest t M (fs.set i f) w2 := by
  have hiF : i < L.F.length := by rw [hl, ← h.len]; exact hi
  have hm := getD_mem hiF
  obtain ⟨kv, hbx, hin, hk⟩ := h.box
  refine ⟨h.tab.same (hs _ (Nat.le_of_lt hbs) (fun e => hsF (e ▸ hm))), ?_, by rw [List.length_set]; exact h.len, ⟨kv, hbx.same (hs _ (Nat.le_refl _) (by have := ap _ hm; omega)), hin.same (fun k hk' => hs k (Nat.le_of_lt (hk k hk').1) (fun e => (hk k hk').2.2 (e ▸ hm))), hk⟩, fun j hj h1 h2 => (hs j (Nat.le_of_lt hj) (fun e => h2 (e ▸ hm))).trans (h.same j hj h1 h2), ho.trans h.os, ht.trans h.tape, hou.trans h.output⟩
  intro j hj
  have hj' : j < fs.length := by rw [← List.length_set (i := i) (a := f)]; exact hj
  have hjF : j < L.F.length := by rw [hl, ← h.len]; exact hj'
  rw [fat_set _ _ _ _ hi]
  by_cases e : i = j
  · rw [if_pos e, ← e]; exact hb
  · rw [if_neg e]
    exact (h.files j hj').same (hs _ (Nat.le_of_lt (ap _ (getD_mem hjF))) fun e2 => e (getD_inj hFF hiF hjF e2.symm))
def NextAt (w : World) (L : Lay) (d : Dk) (rest : List Int) (t : Tb) (M : Nat) (fs : List Fl) (w' : World) (e : Ending) (w2 : World) : Prop :=
  e = .returned (.int .i64 (rest.headD 0)) ∧ FailAt w L d rest.tail t M fs w2 ∧ w'.grownBy w2 (some w.heap.size)
/-- The next number of the fate. -/
theorem FailAt.next (h : FailAt w L d rest t M fs w') (hbs : L.bs < w.heap.size) (hl : L.F.length = d.files.length) (ap : ∀ k ∈ L.F, k < w.heap.size) : Calls Tryz.prog 118 #[.pointer (some ⟨w.heap.size, 0, none⟩)] w' (NextAt w L d rest t M fs w') := by
  have hz := h.size
  obtain ⟨kv, hb, hi, hk⟩ := h.box
  refine (dkNext_any w' w.heap.size kv rest hb hi (fun k hk' => by have := (hk k hk').1; omega)).mono fun e w2 ⟨he, v', h1, h2, h3, h4⟩ => ⟨he, ?_, h4⟩
  have hs : ∀ k, k < w.heap.size → w2.heap[k]? = w'.heap[k]? := fun k hk => h4.block k (by omega) (fun e => by simp at e; omega)
  exact ⟨h.tab.same (hs _ hbs), fun i hi => (h.files i hi).same (hs _ (ap _ (getD_mem (by rw [hl, ← h.len]; exact hi)))), h.len, ⟨v', h1, h2, fun j hj => hk j (h3 j hj)⟩, fun j hj h1 h2 => (hs j hj).trans (h.same j hj h1 h2), h4.os.trans h.os, h4.tape.trans h.tape, h4.output.trans h.output⟩
end
/-- Behind m names of the failure's second loop. -/
structure FailRel (w w3 : World) (L : Lay) (d : Dk) (keep : List Int) (t : Tb) (N q : Nat) (FS : List Fl) (m : Nat) (fs : List Fl) (wr : World) : Prop where
  left : dfiles keep (t.drop m) (q + m) fs = FS
  at_ : FailAt w L d (keep.drop (q + m)) t N fs wr
  safe : ∀ f ∈ fs, f.safe ≤ f.data.length
  data : ∀ f ∈ fs, f.data.length ≤ 268435456
  keep_ : ∀ i, w.heap.size < i → i < w3.heap.size → wr.heap[i]? = w3.heap[i]?
  size : w3.heap.size ≤ wr.heap.size
theorem FailRel.round {w w3 w4 w5 w6 : World} {L : Lay} {d : Dk} {keep : List Int} {t : Tb} {N q : Nat} {FS : List Fl} {m : Nat} {fs : List Fl} {nm : Nm} {fi : Nat} {c : Int} (h : FailRel w w3 L d keep t N q FS m fs w4) (hx : t[m]? = some (nm, fi)) (hc : keepAt keep (q + m) = c) (hfi : fi < fs.length)
    (hbs : L.bs < w.heap.size) (hsF : L.bs ∉ L.F) (hFF : L.F.Nodup) (hl : L.F.length = d.files.length) (ap : ∀ k ∈ L.F, k < w.heap.size)
    (h5 : FailAt w L d (keep.drop (q + (m + 1))) t N fs w5) (hk5 : ∀ i, w.heap.size < i → i < w3.heap.size → w5.heap[i]? = w3.heap[i]?) (hz5 : w3.heap.size ≤ w5.heap.size)
    (hb : Blk w6 (fb L.F fi) (flCells (dcut (fat fs fi) c)) 111) (hs : ∀ k, k < w5.heap.size → k ≠ fb L.F fi → w6.heap[k]? = w5.heap[k]?) (hz : w5.heap.size ≤ w6.heap.size) (ho : w6.os = w5.os) (ht : w6.tape = w5.tape) (hou : w6.output = w5.output) :
    FailRel w w3 L d keep t N q FS (m + 1) (fs.set fi (dcut (fat fs fi) c)) w6 := by
  have hlt : m < t.length := (List.getElem?_eq_some_iff.1 hx).1
  have hdrop : t.drop m = (nm, fi) :: t.drop (m + 1) := by
    rw [List.drop_eq_getElem_cons hlt]
    rw [List.getElem?_eq_getElem hlt] at hx
    rw [Option.some.inj hx]
  have hz1 := h5.size
  have hm := getD_mem (F := L.F) (i := fi) (by rw [hl, ← h5.len]; exact hfi)
  refine ⟨?_, h5.file hbs hsF hFF hl ap hfi hb (fun k hk hne => hs k (by omega) hne) ho ht hou, fun f hf => ?_, fun f hf => ?_, fun i h1 h2 => ?_, by omega⟩
  · have := h.left
    rw [hdrop, dfiles, hc] at this
    exact this
  · rcases mem_set hf with hf | hf
    · exact h.safe f hf
    · rw [hf]; exact Nat.le_refl _
  · rcases mem_set hf with hf | hf
    · exact h.data f hf
    · rw [hf]
      exact Nat.le_trans (dleft_short _ _ (h.safe _ (fat_mem hfi))) (h.data _ (fat_mem hfi))
  · rw [hs i (by omega) (fun e => by have := ap _ hm; omega)]
    exact hk5 i h1 h2
/-- The two cells of a cut file. -/
theorem cut_cells {w5 : World} {b : Nat} {f f2 : Fl} {s : List UInt8} (h : Blk w5 b (flCells f) 111) (h1 : f2.data = s) (h2 : f2.safe = s.length) : Blk ((w5.setCell ⟨b, 0, none⟩ (.string (str s))).setCell ⟨b, 1, none⟩ (.int .i64 (str s).size)) b (flCells f2) 111 := by
  have := (h.set 0 (.string (str s))).set 1 (.int .i64 (str s).size)
  rw [str_size] at this ⊢
  cases f2
  simp only at h1 h2
  subst h1 h2
  exact this
theorem dcut0 {f : Fl} {c : Int} (h : c % 4 = 0) : dcut f c = ⟨f.data.take f.safe, (f.data.take f.safe).length⟩ := by unfold dcut dleft; rw [if_pos h]
theorem dcut1 {f : Fl} {c : Int} (h : c % 4 = 1) : dcut f c = ⟨f.data, f.data.length⟩ := by unfold dcut dleft; rw [if_neg (by omega), if_pos h]
theorem dcut2 {f : Fl} {c : Int} (h : c % 4 = 2) : dcut f c = ⟨f.data.take (f.safe + (f.data.length - f.safe) / 2), (f.data.take (f.safe + (f.data.length - f.safe) / 2)).length⟩ := by unfold dcut dleft; rw [if_neg (by omega), if_neg (by omega), if_pos h]
theorem dcut3 {f : Fl} {c : Int} (h : c % 4 = 3) : dcut f c = ⟨f.data.take f.safe ++ List.replicate (f.data.length - f.safe) 0, (f.data.take f.safe ++ List.replicate (f.data.length - f.safe) 0).length⟩ := by unfold dcut dleft; rw [if_neg (by omega), if_neg (by omega), if_neg (by omega)]
theorem set2_old {w5 : World} {b i j : Nat} {u v : Value} {k : Nat} (h : k ≠ b) : ((w5.setCell ⟨b, i, none⟩ u).setCell ⟨b, j, none⟩ v).heap[k]? = w5.heap[k]? := by
  rw [Below.heap_setCell _ _ _ _ h, Below.heap_setCell _ _ _ _ h]
theorem os_set (w : World) (a : Addr) (v : Value) : (w.setCell a v).os = w.os := rfl
theorem tape_set (w : World) (a : Addr) (v : Value) : (w.setCell a v).tape = w.tape := rfl
theorem output_set (w : World) (a : Addr) (v : Value) : (w.setCell a v).output = w.output := rfl
/-- Behind the failure. -/
theorem fail_done {w w8 wc : World} {g : Nat} {L : Lay} {d : Dk} {N : Nat} {keep : List Int} {rest : List Int} (h : DiskIn w g L d N) (hF : FailAt w L d rest (dpend keep d.pend 0 d.safe) N (dfiles keep (dpend keep d.pend 0 d.safe) d.pend.length d.files) w8)
    (hm : MapIs wc w8.heap.size (dpend keep d.pend 0 d.safe) L.F N) (hb : Below w8.heap.size w8 wc) (hsz : wc.heap.size = w8.heap.size + 1) (N1 : N - 0 = N) :
    DiskIn (((((wc.setCell ⟨g, 2, none⟩ (.map (some w8.heap.size))).setCell ⟨g, 4, none⟩ (.slice none 0 0)).setCell ⟨g, 0, none⟩ (.bool true)).setCell ⟨g, 5, none⟩ (.int .i64 0)).setCell ⟨g, 6, none⟩ (.slice none 0 0)) g ⟨w8.heap.size, L.bs, L.F, [], [], .slice none 0 0, .slice none 0 0⟩ (dfail d keep) N ∧
      Stp (L.foot g) (Lay.foot ⟨w8.heap.size, L.bs, L.F, [], [], .slice none 0 0, .slice none 0 0⟩ g) w (((((wc.setCell ⟨g, 2, none⟩ (.map (some w8.heap.size))).setCell ⟨g, 4, none⟩ (.slice none 0 0)).setCell ⟨g, 0, none⟩ (.bool true)).setCell ⟨g, 5, none⟩ (.int .i64 0)).setCell ⟨g, 6, none⟩ (.slice none 0 0)) := by
  have ap := h.apart
  have hlt := h.lt
  have hz := hF.size
  have hgl := h.blk.lt
  have hoth : ∀ k, k ≠ g → (((((wc.setCell ⟨g, 2, none⟩ (.map (some w8.heap.size))).setCell ⟨g, 4, none⟩ (.slice none 0 0)).setCell ⟨g, 0, none⟩ (.bool true)).setCell ⟨g, 5, none⟩ (.int .i64 0)).setCell ⟨g, 6, none⟩ (.slice none 0 0)).heap[k]? = wc.heap[k]? := fun k hk => by
    rw [Below.heap_setCell _ _ _ _ hk, Below.heap_setCell _ _ _ _ hk, Below.heap_setCell _ _ _ _ hk, Below.heap_setCell _ _ _ _ hk, Below.heap_setCell _ _ _ _ hk]
  have h8 : ∀ k, k < w8.heap.size → k ≠ g → (((((wc.setCell ⟨g, 2, none⟩ (.map (some w8.heap.size))).setCell ⟨g, 4, none⟩ (.slice none 0 0)).setCell ⟨g, 0, none⟩ (.bool true)).setCell ⟨g, 5, none⟩ (.int .i64 0)).setCell ⟨g, 6, none⟩ (.slice none 0 0)).heap[k]? = w8.heap[k]? := fun k hk hg => (hoth k hg).trans (hb.block k hk)
  have hsz2 : (((((wc.setCell ⟨g, 2, none⟩ (.map (some w8.heap.size))).setCell ⟨g, 4, none⟩ (.slice none 0 0)).setCell ⟨g, 0, none⟩ (.bool true)).setCell ⟨g, 5, none⟩ (.int .i64 0)).setCell ⟨g, 6, none⟩ (.slice none 0 0)).heap.size = w8.heap.size + 1 := by simp [World.setCell, hsz]
  have hne : ∀ k ∈ L.foot g, k ≠ w8.heap.size := fun k hk e => by have := hlt k hk; omega
  have hgb : Blk wc g (dkCells L d) 101 := ((h.blk.same (hF.same g hgl ap.gbs ap.gF))).below hb (by omega)
  refine ⟨⟨?_, ?_, ?_, ?_, ?_, World.ownsRow_nil _ _ _ _, trivial, fun x hx => (by cases hx), World.ownsRow_nil _ _ _ _, ?_⟩, ?_⟩
  · exact ((((hgb.set 2 (.map (some w8.heap.size))).set 4 (.slice none 0 0)).set 0 (.bool true)).set 5 (.int .i64 0)).set 6 (.slice none 0 0)
  · exact hm.same (hoth _ (by omega))
  · exact hF.tab.same (h8 _ (by have := hlt _ (foot_bs (L := L) (g := g)); omega) ap.gbs.symm)
  · show L.F.length = (dfiles keep _ _ d.files).length
    rw [dfiles_len]; exact h.len
  · intro i hi
    have hi' : i < (dfiles keep (dpend keep d.pend 0 d.safe) d.pend.length d.files).length := hi
    have hm := getD_mem (F := L.F) (i := i) (by rw [h.len, ← hF.len]; exact hi')
    exact (hF.files i hi').same (h8 _ (by have := hlt _ (foot_F (g := g) hm); omega) (fun e => ap.gF (e ▸ hm)))
  · exact ⟨hne g foot_g, ap.gbs, ap.gF, by simp, fun k hk => (by cases hk), fun k hk => (by cases hk), (hne _ foot_bs).symm, fun e => hne _ (foot_F e) rfl, by simp, fun k hk => (by cases hk), fun k hk => (by cases hk), ap.sF, by simp, fun k hk => (by cases hk), fun k hk => (by cases hk), ap.FF, fun k hk => (by cases hk), fun k hk => (by cases hk), fun k hk => (by cases hk), fun k hk => (by cases hk), fun k hk => (by cases hk)⟩
  · refine ⟨by simp only [os_set]; exact hb.os.trans hF.os, by simp only [tape_set]; exact hb.tape.trans hF.tape, by simp only [output_set]; exact hb.output.trans hF.output, by omega, fun k hk hA => ?_, fun k hk => ?_⟩
    · exact (h8 k (by omega) (fun e => hA (e ▸ foot_g))).trans (hF.same k hk (fun e => hA (e ▸ foot_bs)) (fun e => hA (foot_F e)))
    · rcases foot_cases hk with rfl | rfl | rfl | hk | hk | hk | hk
      · exact Or.inl foot_g
      · exact Or.inr (Nat.le_of_lt hz)
      · exact Or.inl foot_bs
      · exact Or.inl (foot_F hk)
      · cases hk
      · cases hk
      · cases hk
end Go.Proofs.YtfgpigblnkanpaaGreatDoor
