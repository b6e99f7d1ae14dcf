/- The walk of Used: a sum over a table, in whatever order; and what Write is refused by. -/
import Derived.Test.YtfgpigblnkanpaaGreatDwR
import Derived.Deep.RegionHeld3
namespace Go.Proofs.YtfgpigblnkanpaaGreat
open Go.RowKit Go.Maps Go.Shelf

/-! ### the sum of what is left -/
def lsum (fs : List Fl) (left : Lit → Bool) : Tb → Nat
  | [] => 0
  | x :: r => (if left (.string x.1) = true then (fat fs x.2).data.length else 0) + lsum fs left r
theorem lsum_congr {fs : List Fl} {l m : Lit → Bool} : ∀ {t : Tb}, (∀ x ∈ t, l (.string x.1) = m (.string x.1)) → lsum fs l t = lsum fs m t
  | [], _ => rfl
  | x :: r, h => by rw [lsum, lsum, h x List.mem_cons_self, lsum_congr fun y hy => h y (List.mem_cons_of_mem _ hy)]
theorem lsum_all (fs : List Fl) : ∀ (t : Tb), lsum fs (fun _ => true) t = dsum fs t
  | [] => rfl
  | x :: r => by rw [lsum, dsum, lsum_all fs r]; rfl
theorem lsum_none (fs : List Fl) : ∀ (t : Tb), lsum fs (fun _ => false) t = 0
  | [] => rfl
  | x :: r => by rw [lsum, lsum_none fs r]; rfl
theorem lsum_step {fs : List Fl} {l : Lit → Bool} {n : Nm} {f : Nat} : ∀ {t : Tb}, Rise t → (n, f) ∈ t → l (.string n) = true → lsum fs l t = (fat fs f).data.length + lsum fs (fun z => l z && !z.sameKey (.string n)) t
  | [], _, h, _ => by cases h
  | x :: r, ht, h, hl => by
    rw [Rise, List.pairwise_cons] at ht
    rw [lsum, lsum]
    rcases List.mem_cons.1 h with e | h
    · subst e
      have h1 : lsum fs l r = lsum fs (fun z => l z && !z.sameKey (.string n)) r := lsum_congr fun y hy => by
        have hne : ¬ y.1 = n := fun e => by
          have := ht.1 y hy
          rw [e, nlt_irrefl] at this; cases this
        simp [Lit.sameKey, hne]
      rw [h1, if_pos hl]
      simp [Lit.sameKey]
    · have hne : ¬ x.1 = n := nlt_ne (ht.1 _ h)
      have h1 : (l (.string x.1) && !Lit.sameKey (.string x.1) (.string n)) = l (.string x.1) := by simp [Lit.sameKey, hne]
      rw [h1, lsum_step ht.2 h hl]
      omega
theorem dsum_le (fs : List Fl) (R : Nat) (h : ∀ i, (fat fs i).data.length ≤ R) : ∀ (t : Tb), dsum fs t ≤ t.length * R
  | [] => by simp [dsum]
  | x :: r => by
    rw [dsum, List.length_cons, Nat.add_mul, Nat.one_mul]
    have := dsum_le fs R h r
    have := h x.2
    omega
theorem strV_enc (x : List UInt8) : encStr x = strV x := rfl
theorem lsum_le (fs : List Fl) (l : Lit → Bool) : ∀ (t : Tb), lsum fs l t ≤ dsum fs t
  | [] => Nat.le_refl _
  | x :: r => by
    rw [lsum, dsum]
    have := lsum_le fs l r
    split <;> omega
theorem fat_in_all (d : Dk) (N : Nat) (hb : DkB d N) (i : Nat) : (fat d.files i).data.length ≤ 268435456 := Nat.le_trans (fat_in d d.room hb.data i) hb.room
theorem dused_le (d : Dk) (N : Nat) (hb : DkB d N) : dsum d.files d.now ≤ N * 268435456 := Nat.le_trans (dsum_le d.files 268435456 (fat_in_all d N hb) d.now) (Nat.mul_le_mul_right _ hb.now)

set_option maxHeartbeats 2000000 in
set_option maxRecDepth 100000 in
theorem dkUsed_any (w : World) (g : Nat) (L : Lay) (d : Dk) (N : Nat) (h : DiskIn w g L d N) (hk : DkOk d) (hb : DkB d N) (hN : N < 4294967296) :
    Calls Tryz.prog 32 #[.pointer (some ⟨g, 0, none⟩)] w fun e w' => e = .returned (.int .i64 (dused d)) ∧ Below w.heap.size w w' := by
  obtain ⟨c0, c1, c2, c3, c4, c5, c6⟩ := h.cells
  cases hoff : d.off with
  | true =>
    rw [hoff] at c0
    have e0 : dused d = 0 := by unfold dused; rw [if_pos hoff]
    rw [e0]
    clear hoff e0
    go_enter Tryz.func32, Tryz.ntmps32
    go_wp2
    go_ret
    exact ⟨rfl, Below.refl _ _⟩
  | false =>
    rw [hoff] at c0
    have e0 : dused d = dsum d.files d.now := by unfold dused; rw [if_neg (by rw [hoff]; simp)]
    rw [e0]
    have hle := dused_le d N hb
    have hle2 : dsum d.files d.now < 9223372036854775807 := by omega
    obtain ⟨es, hown, hp⟩ := h.now
    have HH := Lib.hid h
    have HK := Lib.hid hk
    have HP := Lib.hid hp
    clear h hk hp hoff e0 hle
    generalize hD : dsum d.files d.now = T at *
    have HD := Lib.hid hD
    clear hD
    go_enter Tryz.func32, Tryz.ntmps32
    go_wp2_with (at_range; refine wpList_range_own _ rfl _ 44 rfl 9 63 tableKeyed Tryz.underlying44 fileElem L.bn N (.map es) rfl hown ?_; intro w0 hrg0 hg0 hs0)
    go_frame
    have hbel0 : Below w.heap.size w w0 := (Below.refl _ w).grown hg0 (Nat.le_refl _) (fun k hk => by cases hk)
    go_loopw [3] (fun nv wr => ∃ (left : Lit → Bool) (cnt m : Nat), wr.ranges Tryz.prog 9 fileElem L.bn w.heap.size N (.map es) left cnt ∧ nv = .int .i64 m ∧ Hid (m + lsum d.files left d.now = T) ∧ Below w.heap.size w wr) (fun _ wr => wr.rangeLeft L.bn w.heap.size)
    case atStart =>
      refine ⟨_, _, 0, hrg0, rfl, ?_, hbel0⟩
      show 0 + lsum d.files (Maps.has (.map es)) d.now = T
      rw [← HD.out, Nat.zero_add, ← lsum_all]
      refine lsum_congr fun x hx => ?_
      rw [has_perm HP.out HK.out.now, tget_of_mem (n := x.1) (f := x.2) HK.out.now hx]
      rfl
    case round =>
      obtain ⟨left, cnt, m, hrg, rfl, hsum, hbel⟩ := hrel
      go_wp2_with (at_next; refine wpList_next_ranges _ rfl _ rfl 9 tableKeyed fileElem encStr (fun v : Value => v) ?k1 ?k2 L.bn w.heap.size N _ left cnt rfl hrg ?_ ?_)
      case k1 =>
        intro key kl hkl
        obtain ⟨x, hx, _⟩ := Maps.keyOf_str Tryz.underlying9 hkl
        exact ⟨x, hx⟩
      case k2 => exact fun v _ _ => ⟨v, rfl⟩
      · intro _ hl0
        have hm : m = T := by
          have h1 := hsum.out
          rw [lsum_congr (m := fun _ => false) (fun x _ => hl0 _), lsum_none] at h1
          omega
        subst hm
        go_wp2
        go_ret
        exact ⟨rfl, hbel⟩
      · intro x c kl a bb w1 cnt1 hkey hlk hv hat hrg1 hlt hg1 hs1 hen
        obtain ⟨x', hx', rfl, hxl⟩ := Maps.keyOf_str Tryz.underlying9 hkey
        obtain rfl := encStr_inj hx'
        have hhas := Maps.has_true_of_atKey hat
        rw [has_perm HP.out HK.out.now] at hhas
        obtain ⟨f, hf⟩ := Option.isSome_iff_exists.1 hhas
        have ha := hat .nil
        rw [atKey_perm HP.out HK.out.now, hf] at ha
        subst ha
        obtain rfl := fileElem_inv hv
        have hmem := tget_mem hf
        have hfl := HK.out.nowIn _ hmem
        have hbl := (HH.out.files f hfl).lt
        have hbel1 : Below w.heap.size w w1 := hbel.grown hg1 hbel.size (fun k hk => by simp at hk; omega)
        have hc0 := (hbel1.cell (p := ⟨fb L.F f, 0, none⟩) hbl).trans (HH.out.fcells hfl).1
        have hst := lsum_step HK.out.now hmem hlk (fs := d.files)
        have hz := str_size (fat d.files f).data
        have hll := lsum_le d.files left d.now
        have h1 := hsum.out
        have hsum1 : Hid (m + (fat d.files f).data.length + lsum d.files (fun z => left z && !z.sameKey (.string x)) d.now = T) := by show _ = _; omega
        have hm1 : m + (fat d.files f).data.length ≤ T := by omega
        have HST := Lib.hid hst
        clear hst hll h1 hhas hv hat hx' hkey hf hmem
        simp only [fileV] at *
        go_wp2
        go_roundw
        case rel => exact ⟨_, cnt1, m + (fat d.files f).data.length, hrg1, by go_num, hsum1, hbel1⟩
        case measure => rw [hrg1.left_eq, hrg.left_eq]; exact hlt

theorem refused_write (d : Dk) (n : Nm) (s : List UInt8) : drefused d (.write n s) = if thereNo d.now n = 0 then (if d.room < dused d + s.length then 19 else 0) else thereNo d.now n := by
  unfold thereNo
  show (if (tget d.now n).isSome = false then 18 else if d.room < dused d + s.length then 19 else 0) = _
  cases (tget d.now n).isSome <;> rfl
theorem wrS_step {w w1 w2 : World} {g x z : Nat} {v0 v1 v2 : Value} (hx : x < w.heap.size) (hz : z < w.heap.size) (hg : g < w.heap.size) (h : w1.cell? ⟨x, 0, none⟩ = some v0 ∧ w1.cell? ⟨z, 0, none⟩ = some v1 ∧ w1.cell? ⟨g, 1, none⟩ = some v2 ∧ Below w.heap.size w w1) (hb : Below w1.heap.size w1 w2) :
    w2.cell? ⟨x, 0, none⟩ = some v0 ∧ w2.cell? ⟨z, 0, none⟩ = some v1 ∧ w2.cell? ⟨g, 1, none⟩ = some v2 ∧ Below w.heap.size w w2 := by
  have hs := h.2.2.2.size
  refine ⟨(hb.cell (p := ⟨x, 0, none⟩) (by show x < _; omega)).trans h.1, (hb.cell (p := ⟨z, 0, none⟩) (by show z < _; omega)).trans h.2.1, (hb.cell (p := ⟨g, 1, none⟩) (by show g < _; omega)).trans h.2.2.1, h.2.2.2.trans (hb.mono hs)⟩
set_option maxHeartbeats 2000000 in
set_option maxRecDepth 100000 in
theorem dkWriteR_any (w : World) (g : Nat) (L : Lay) (d : Dk) (N x y z : Nat) (n : Nm) (s : List UInt8) (hn : n.length ≤ 9223372036854775807) (hsl : s.length ≤ 140737488355328) (h : DiskIn w g L d N) (hk : DkOk d) (hb : DkB d N) (hN : N < 4294967296) (hx : Blk w x [.pointer (some ⟨g, 0, none⟩)] 24) (hy : Blk w y [strV n] 9) (hz : Blk w z [strV s] 9) :
    Calls Tryz.prog 31 #[.pointer (some ⟨x, 0, none⟩), .pointer (some ⟨y, 0, none⟩), .pointer (some ⟨z, 0, none⟩)] w (RefPost (drefused d (.write n s)) w) := by
  have x0 := hx.cell 0
  have y0 := hy.cell 0
  have z0 := hz.cell 0
  simp only [List.getElem?_cons_zero] at x0 y0 z0
  have hC := dkthere_any w g L d N n hn h hk
  rw [refused_write]
  generalize thereNo d.now n = q at *
  by_cases hq : q = 0
  · subst hq
    rw [if_pos rfl]
    have hU := dkUsed_any
    have hXl := hx.lt
    have hZl := hz.lt
    have hGl := h.blk.lt
    have hle := dused_le d N hb
    have hle2 : dused d < 4611686018427387904 := by unfold dused; split <;> omega
    have hro := hb.room
    obtain ⟨c0, c1, c2, c3, c4, c5, c6⟩ := h.cells
    have HH := Lib.hid h
    have HK := Lib.hid hk
    have HB := Lib.hid hb
    have hsz := str_size s
    clear h hk hb hx hy hz hle
    generalize hu : dused d = u at *
    have HU := Lib.hid hu
    clear hu
    have i1 : IntKind.i64.wrap ((u : Int) + (s.length : Int)) = (u : Int) + (s.length : Int) := IntWalk.i64_in _ (by omega)
    by_cases hlt : d.room < u + s.length
    · rw [if_pos hlt]
      have i2 : decide ((d.room : Int) < (u : Int) + (s.length : Int)) = true := by simp; omega
      go_enter Tryz.func31, Tryz.ntmps31
      go_wp2_with (first | (go_at_call 24; refine hC.mono ?_; rintro e w' ⟨rfl, rfl⟩; rw [errV_0]))
      go_region_held3 (fun w' => w'.cell? ⟨x, 0, none⟩ = some (.pointer (some ⟨g, 0, none⟩)) ∧ w'.cell? ⟨z, 0, none⟩ = some (strV s) ∧ w'.cell? ⟨g, 1, none⟩ = some (.int .i64 d.room) ∧ Below w.heap.size w w')
        (first | assumption | exact ⟨x0, z0, c1, (Below.refl _ _).drew⟩ | exact (Below.refl _ _).drew | (have hh := ‹_ ∧ _ ∧ _ ∧ Below w.heap.size w _›; exact ⟨hh.1, hh.2.1, hh.2.2.1, hh.2.2.2.drew⟩) | exact wrS_step hXl hZl hGl (by assumption) hb | go_keep)
        (first | (go_at_call 32; (with_reducible refine (hU _ g L d N (HH.out.below (by have hh := ‹_ ∧ _ ∧ _ ∧ Below w.heap.size w _›; exact hh.2.2.2)) HK.out HB.out hN).mono ?_); rw [HU.out]; rintro e w1 ⟨rfl, hb⟩))
      go_wp2
      go_ret
      exact ⟨rfl, (‹_ ∧ _ ∧ _ ∧ Below w.heap.size w _›).2.2.2⟩
    · rw [if_neg hlt]
      have i2 : decide ((d.room : Int) < (u : Int) + (s.length : Int)) = false := by simp; omega
      go_enter Tryz.func31, Tryz.ntmps31
      go_wp2_with (first | (go_at_call 24; refine hC.mono ?_; rintro e w' ⟨rfl, rfl⟩; rw [errV_0]))
      go_region_held3 (fun w' => w'.cell? ⟨x, 0, none⟩ = some (.pointer (some ⟨g, 0, none⟩)) ∧ w'.cell? ⟨z, 0, none⟩ = some (strV s) ∧ w'.cell? ⟨g, 1, none⟩ = some (.int .i64 d.room) ∧ Below w.heap.size w w')
        (first | assumption | exact ⟨x0, z0, c1, (Below.refl _ _).drew⟩ | exact (Below.refl _ _).drew | (have hh := ‹_ ∧ _ ∧ _ ∧ Below w.heap.size w _›; exact ⟨hh.1, hh.2.1, hh.2.2.1, hh.2.2.2.drew⟩) | exact wrS_step hXl hZl hGl (by assumption) hb | go_keep)
        (first | (go_at_call 32; (with_reducible refine (hU _ g L d N (HH.out.below (by have hh := ‹_ ∧ _ ∧ _ ∧ Below w.heap.size w _›; exact hh.2.2.2)) HK.out HB.out hN).mono ?_); rw [HU.out]; rintro e w1 ⟨rfl, hb⟩))
      go_wp2
      go_ret
      exact ⟨rfl, (‹_ ∧ _ ∧ _ ∧ Below w.heap.size w _›).2.2.2⟩
  · rw [if_neg hq]
    have HQ := Lib.hid (errV_no hq)
    have HQ0 := Lib.hid hq
    clear hq h hk hb hx hy hz
    go_enter Tryz.func31, Tryz.ntmps31
    go_wp2_with (first | (go_at_call 24; refine hC.mono ?_; rintro e w' ⟨rfl, rfl⟩; rw [HQ.out]))
    go_ret
    exact ⟨by rw [HQ.out]; rfl, Below.refl _ _⟩
end Go.Proofs.YtfgpigblnkanpaaGreat
