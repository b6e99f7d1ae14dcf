/- The book of lists: a list more; has each memory of its own? -/
import Derived.Test.YtifdibkpaeocfaaGreatDoorApart
import Derived.Test.YtifdibkpaeocfaaGreatDoorApNone
import Derived.Test.YtifdibkpaeocfaaGreatDoorReader
import Derived.Deep.RegionHeld3
namespace Go.Proofs.YtifdibkpaeocfaaGreatDoor
open Go.RowKit

/-- A book that holds pairs alone. -/
def bookCells (gs : Value) : List Value := (List.replicate 15 (.slice none 0 0)) ++ [gs] ++ (List.replicate 8 (.slice none 0 0))
def BookAt (w : World) (g : Nat) (gs : Value) : Prop := Blk w g (bookCells gs) 63

set_option maxHeartbeats 1000000 in
set_option maxRecDepth 100000 in
theorem BookPairs_any (w : World) (B g n : Nat) (gs : Value) (ys : List Value) (a : Option Addr) (len cap : Nat) (h : BookAt w g gs) (hown : w.ownsRow B 29 1 gs n ys) (hB : B ≤ w.heap.size) (hne : gs.ownBlock ≠ some g) (hn : n ≤ 65536) : Calls Tryz.prog 15 #[.pointer (some ⟨g, 0, none⟩), .slice a len cap] w fun e w' => e = .returned (.tuple #[]) ∧ ∃ gg cp w1, BookAt w' g (.slice (some ⟨gg, 0, none⟩) (n + 1) cp) ∧ w'.ownsRow B 29 1 (.slice (some ⟨gg, 0, none⟩) (n + 1) cp) (n + 1) (ys ++ [.slice a len cap]) ∧ gg ≠ g ∧ (gs.ownBlock = some gg ∨ w.heap.size ≤ gg) ∧ w.grownBy w1 gs.ownBlock ∧ w1.grownBy w' (some g) := by
  have c15 := Blk.cell h 15
  have f15 := Blk.free h 15
  have hlt := Blk.lt h
  have e15 : (bookCells gs)[15]? = some gs := rfl
  rw [e15] at c15
  have H := Lib.hid h
  clear h e15
  obtain ⟨i0, hii, hiz0, hiz1, hiz2⟩ := info_parts infoPairs3
  obtain ⟨ag, lg, cg, hgs⟩ : ∃ ag lg cg, gs = .slice ag lg cg := by
    rcases hown.2 with ⟨e, _⟩ | ⟨_, _, _, e, _⟩
    · exact ⟨_, _, _, e⟩
    · exact ⟨_, _, _, e⟩
  subst hgs
  go_enter Tryz.func15, Tryz.ntmps15
  go_wp2_with (at_builtin; refine wpList_append_keep rfl _ _ 53 rfl B 29 i0 _ 1 24 Tryz.underlying53 hii hiz0 hiz1 hiz2 rfl (by omega) (.slice ag lg cg) n ys rfl (hown.alloc _) ⟨w.heap.size, 0, none⟩ 1 1 [.slice a len cap] rfl rfl (World.news_of_block (cs := #[.slice a len cap]) (t := 29) (fr := (0, 0)) (heap_alloc_new w _)) ?d0 (by omega) ?d1 ?d2 ?d3 (w.heap.size + 1) (by simp) ?_)
  case d0 => simp [Value.oneCell']
  case d1 => unfold maxLen; omega
  case d2 => omega
  case d3 => simp; omega
  intro gg cp w2 hown2 hgrow hlies hlt9 hck
  have hG2 : BookAt w2 g (.slice ag lg cg) := by
    have h1 := (Blk.alloc H.out (.cells #[.slice a len cap] 29))
    unfold BookAt Blk
    rw [hgrow.block g (by simp; omega) (fun e => hne e.symm)]
    exact h1
  have d15 := Blk.cell hG2 15
  have g15 := Blk.free hG2 15
  have e15 : (bookCells (.slice ag lg cg))[15]? = some (.slice ag lg cg) := rfl
  rw [e15] at d15
  have hgg : gg ≠ g := by
    rcases hlies with e | e
    · intro e2; rw [e2] at e; exact hne e
    · omega
  have HG2 := Lib.hid hG2
  clear hG2 c15 f15 e15
  go_wp2
  refine bodyPost_end (v := .tuple #[]) (by simp [results, Tryz.results15]) rfl ⟨rfl, gg, cp, w2, ?_, ?_, hgg, ?_, ?_, grown_set (grown_refl _ _) 15 _⟩
  · exact Blk.set HG2.out 15 _
  · exact ownsRow_setCell_other hown2 (by simpa [Value.ownBlock] using hgg) _
  · rcases hlies with e | e
    · exact Or.inl e
    · right; omega
  · exact ⟨hgrow.os, hgrow.tape, hgrow.output, by have := hgrow.size; simp at this; omega, fun k hk hne => (hgrow.block k (by simp; omega) hne).trans (Below.heap_alloc _ _ _ hk)⟩

set_option maxHeartbeats 2000000 in
set_option maxRecDepth 100000 in
theorem BookApart_any (w : World) (B G K cap m : Nat) (v : Nat → Value) (n : Nat → Nat) (c : Nat → List PairL) (F : Fam w B G m v n c) (hm : m ≤ 65536) (hn : ∀ k, k < m → n k ≤ 1000000) (hB : B ≤ w.heap.size) (hK : ∀ k, k < m → (v k).ownBlock ≠ some K) (hb : BookAt w K (.slice (some ⟨G, 0, none⟩) m cap)) : Calls Tryz.prog 18 #[.pointer (some ⟨K, 0, none⟩)] w fun e w' => e = .returned (.bool true) ∧ Below B w w' := by
  have hlt := Blk.lt hb
  have hc : ∀ w' : World, w'.heap[K]? = w.heap[K]? → ∀ i, w'.cell? ⟨K, i, none⟩ = (bookCells (.slice (some ⟨G, 0, none⟩) m cap))[i]? := fun w' h i => by
    have : Blk w' K (bookCells (.slice (some ⟨G, 0, none⟩) m cap)) 63 := by unfold Blk; rw [h]; exact hb
    exact this.cell i
  have HAP := Lib.hid (ApartPairs_any w B G K cap m v n c F hm hn hB hK hlt)
  have c0 : w.cell? ⟨K, 0, none⟩ = some (.slice none 0 0) := hc w rfl 0
  have c1 : w.cell? ⟨K, 1, none⟩ = some (.slice none 0 0) := hc w rfl 1
  have c2 : w.cell? ⟨K, 2, none⟩ = some (.slice none 0 0) := hc w rfl 2
  have c3 : w.cell? ⟨K, 3, none⟩ = some (.slice none 0 0) := hc w rfl 3
  have c4 : w.cell? ⟨K, 4, none⟩ = some (.slice none 0 0) := hc w rfl 4
  have c5 : w.cell? ⟨K, 5, none⟩ = some (.slice none 0 0) := hc w rfl 5
  have c6 : w.cell? ⟨K, 6, none⟩ = some (.slice none 0 0) := hc w rfl 6
  have c7 : w.cell? ⟨K, 7, none⟩ = some (.slice none 0 0) := hc w rfl 7
  have c8 : w.cell? ⟨K, 8, none⟩ = some (.slice none 0 0) := hc w rfl 8
  have c9 : w.cell? ⟨K, 9, none⟩ = some (.slice none 0 0) := hc w rfl 9
  have c10 : w.cell? ⟨K, 10, none⟩ = some (.slice none 0 0) := hc w rfl 10
  have c11 : w.cell? ⟨K, 11, none⟩ = some (.slice none 0 0) := hc w rfl 11
  have c12 : w.cell? ⟨K, 12, none⟩ = some (.slice none 0 0) := hc w rfl 12
  have c13 : w.cell? ⟨K, 13, none⟩ = some (.slice none 0 0) := hc w rfl 13
  have c14 : w.cell? ⟨K, 14, none⟩ = some (.slice none 0 0) := hc w rfl 14
  have c15 : w.cell? ⟨K, 15, none⟩ = some (.slice (some ⟨G, 0, none⟩) m cap) := hc w rfl 15
  have c16 : w.cell? ⟨K, 16, none⟩ = some (.slice none 0 0) := hc w rfl 16
  have c17 : w.cell? ⟨K, 17, none⟩ = some (.slice none 0 0) := hc w rfl 17
  have c18 : w.cell? ⟨K, 18, none⟩ = some (.slice none 0 0) := hc w rfl 18
  have c19 : w.cell? ⟨K, 19, none⟩ = some (.slice none 0 0) := hc w rfl 19
  have c20 : w.cell? ⟨K, 20, none⟩ = some (.slice none 0 0) := hc w rfl 20
  have c21 : w.cell? ⟨K, 21, none⟩ = some (.slice none 0 0) := hc w rfl 21
  have c22 : w.cell? ⟨K, 22, none⟩ = some (.slice none 0 0) := hc w rfl 22
  have c23 : w.cell? ⟨K, 23, none⟩ = some (.slice none 0 0) := hc w rfl 23
  have HC := Lib.hid hc
  clear hc hb F hK hn
  go_enter Tryz.func18, Tryz.ntmps18
  go_wp2_with (fail)
  refine (ApartBytes_none _).mono ?_
  rintro e w' ⟨rfl, rfl⟩
  go_wp2_with (fail)
  refine (ApartTexts_none _).mono ?_
  rintro e w' ⟨rfl, rfl⟩
  go_wp2_with (fail)
  refine (ApartInts_none _).mono ?_
  rintro e w' ⟨rfl, rfl⟩
  go_wp2_with (fail)
  refine (ApartIds_none _).mono ?_
  rintro e w' ⟨rfl, rfl⟩
  go_wp2_with (fail)
  refine (ApartRunes_none _).mono ?_
  rintro e w' ⟨rfl, rfl⟩
  go_wp2_with (fail)
  refine (ApartNumbers_none _).mono ?_
  rintro e w' ⟨rfl, rfl⟩
  go_wp2_with (fail)
  refine (ApartSpans_none _).mono ?_
  rintro e w' ⟨rfl, rfl⟩
  go_wp2_with (fail)
  refine (ApartRanges_none _).mono ?_
  rintro e w' ⟨rfl, rfl⟩
  go_wp2_with (fail)
  refine (ApartTokens_none _).mono ?_
  rintro e w' ⟨rfl, rfl⟩
  go_wp2_with (fail)
  refine (ApartItems_none _).mono ?_
  rintro e w' ⟨rfl, rfl⟩
  go_wp2_with (fail)
  refine (ApartSeats_none _).mono ?_
  rintro e w' ⟨rfl, rfl⟩
  go_wp2_with (fail)
  refine (ApartWeights_none _).mono ?_
  rintro e w' ⟨rfl, rfl⟩
  go_wp2_with (fail)
  refine (ApartElements_none _).mono ?_
  rintro e w' ⟨rfl, rfl⟩
  go_wp2_with (fail)
  refine (ApartSpots_none _).mono ?_
  rintro e w' ⟨rfl, rfl⟩
  go_wp2_with (fail)
  refine (ApartWords_none _).mono ?_
  rintro e w' ⟨rfl, rfl⟩
  go_wp2_with (fail)
  refine HAP.out.mono ?_
  rintro e w1 ⟨rfl, hbel, hk⟩
  clear c0 c1 c2 c3 c4 c5 c6 c7 c8 c9 c10 c11 c12 c13 c14 c15 c16 c17 c18 c19 c20 c21 c22 c23
  have c16 : w1.cell? ⟨K, 16, none⟩ = some (.slice none 0 0) := HC.out w1 hk 16
  have c17 : w1.cell? ⟨K, 17, none⟩ = some (.slice none 0 0) := HC.out w1 hk 17
  have c18 : w1.cell? ⟨K, 18, none⟩ = some (.slice none 0 0) := HC.out w1 hk 18
  have c19 : w1.cell? ⟨K, 19, none⟩ = some (.slice none 0 0) := HC.out w1 hk 19
  have c20 : w1.cell? ⟨K, 20, none⟩ = some (.slice none 0 0) := HC.out w1 hk 20
  have c21 : w1.cell? ⟨K, 21, none⟩ = some (.slice none 0 0) := HC.out w1 hk 21
  have c22 : w1.cell? ⟨K, 22, none⟩ = some (.slice none 0 0) := HC.out w1 hk 22
  have c23 : w1.cell? ⟨K, 23, none⟩ = some (.slice none 0 0) := HC.out w1 hk 23
  go_wp2_with (fail)
  refine (ApartEntries_none _).mono ?_
  rintro e w' ⟨rfl, rfl⟩
  go_wp2_with (fail)
  refine (ApartDocs_none _).mono ?_
  rintro e w' ⟨rfl, rfl⟩
  go_wp2_with (fail)
  refine (ApartInfos_none _).mono ?_
  rintro e w' ⟨rfl, rfl⟩
  go_wp2_with (fail)
  refine (ApartHits_none _).mono ?_
  rintro e w' ⟨rfl, rfl⟩
  go_wp2_with (fail)
  refine (ApartNears_none _).mono ?_
  rintro e w' ⟨rfl, rfl⟩
  go_wp2_with (fail)
  refine (apartPosts_none _).mono ?_
  rintro e w' ⟨rfl, rfl⟩
  go_wp2_with (fail)
  refine (apartTerms_none _).mono ?_
  rintro e w' ⟨rfl, rfl⟩
  go_wp2_with (fail)
  refine (apartQueries_none _).mono ?_
  rintro e w' ⟨rfl, rfl⟩
  go_wp2
  go_ret
  exact ⟨rfl, hbel⟩
end Go.Proofs.YtifdibkpaeocfaaGreatDoor
