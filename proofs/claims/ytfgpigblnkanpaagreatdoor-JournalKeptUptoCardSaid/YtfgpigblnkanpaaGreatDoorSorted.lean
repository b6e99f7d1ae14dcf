/- The kit's contracts on strings.Repeat, slices.Clone, maps.Keys and slices.Sorted, at this translation (after lay-iter.mjs's print). -/
import Derived.Test.YtfgpigblnkanpaaGreatDoorShelf
import Derived.Test.YtfgpigblnkanpaaGreatDoorGQ
namespace Go.Proofs.YtfgpigblnkanpaaGreatDoor
open Go.RowKit Go.Maps Go.Sort Go.Shelf

theorem sortsIn (m : Nat) : AnyZ.SortsIn Tryz.prog laySorted_ren Fence.wide m :=
  ⟨fun blk off cap ss W hH hblk hsz => callsIn_wide.2 (AnyM.slices_Sort_string laySort blk off cap ss W hH hblk hsz),
   fun p cap W => callsIn_wide.2 (AnyM.slices_Sort_string_none laySort p cap W)⟩
theorem mapsKeys_any (mb : Option Nat) (W : World) : Calls Tryz.prog 59 #[.map mb] W fun e w' => e = .returned (.func (.func 114) #[] #[.pointer (some ⟨W.heap.size, 0, none⟩)]) ∧ W.alloc (.cells #[.map mb] 98) = w' :=
  (callsIn_wide.1 (AnyZ.keys_in layKeys Fence.wide 5 trivial rfl mb W)).mono fun _ _ ⟨h1, h2⟩ => ⟨h1, h2.symm⟩
set_option maxHeartbeats 1000000 in
theorem slSorted_owns {H : Type} (b nn : Nat) (D0 : DataW H) (R : Value → Option (DataW H × List MemPlace)) (w : World) (hown : w.ownsMap Tryz.prog 9 R b nn D0) (hmax : Maps.size D0 ≤ maxLen) (hbytes : Maps.size D0 * 16 ≤ 140737488355328) :
    CallsIn Fence.wide 5 Tryz.prog 58 #[.func (.func 114) #[] #[.pointer (some ⟨w.heap.size, 0, none⟩)]] (w.alloc (.cells #[.map (some b)] 98)) fun e w' => ∃ (v : Value) (ss : List (List UInt8)), e = .returned v ∧ ss.Perm (strKeys D0) ∧
      w'.ownsRow (w.alloc (.cells #[.map (some b)] 98)).heap.size 9 1 v ss.length ((ss.mergeSort (fun x y => decide (x ≤ y))).map encStr) ∧ (v = .slice none 0 0 ↔ ss = []) ∧ Below (w.alloc (.cells #[.map (some b)] 98)).heap.size (w.alloc (.cells #[.map (some b)] 98)) w' := by
  have hbl := hown.lt
  have hseq : SeqGives Fence.wide 2 Tryz.prog 114 #[.pointer (some ⟨w.heap.size, 0, none⟩)] encStr (fun ss => ss.Perm (strKeys D0)) (Maps.size D0) (w.alloc (.cells #[.map (some b)] 98)) :=
    AnyZ.keys_gives (ρ := layKeys_ren) { layKeys with } Fence.wide _ trivial rfl (by omega) w.heap.size b nn D0 _ (by simp) (by simp) (by
      obtain ⟨es, clock, hb, Ft, hs, hD⟩ := hown
      exact ⟨es, clock, (Below.heap_alloc _ _ b hbl).trans hb, Ft, hs, hD⟩)
  exact AnyZ.sorted_in laySorted Fence.wide 5 trivial trivial trivial trivial rfl (by omega) (sortsIn _) (enters_of Tryz.func113 (by kernel_rfl) rfl) 114 #[.pointer (some ⟨w.heap.size, 0, none⟩)] trivial (enters_of Tryz.func114 (by kernel_rfl) rfl) _ _ hmax hbytes _ hseq
/-- The names of a table, in order, in a row of their own. -/
def SortedPost (t : Tb) (w : World) (e : Ending) (w' : World) : Prop :=
  ∃ v, e = .returned v ∧ w'.ownsRow w.heap.size 9 1 v (tnames t).length ((tnames t).map encStr) ∧ (tnames t = [] → v = .slice none 0 0) ∧ Below w.heap.size w w'
theorem MapIs.sorted {w : World} {b : Nat} {t : Tb} {F : List Nat} {N : Nat} (h : MapIs w b t F N) (ht : Rise t) (hN : N < 4294967296) :
    Calls Tryz.prog 58 #[.func (.func 114) #[] #[.pointer (some ⟨w.heap.size, 0, none⟩)]] (w.alloc (.cells #[.map (some b)] 98)) (SortedPost t (w.alloc (.cells #[.map (some b)] 98))) := by
  obtain ⟨es, hown, hp⟩ := h
  have hs : Maps.size (DataW.map es) ≤ N := hown.size_le
  refine (callsIn_wide.1 (slSorted_owns b N _ _ w hown (by unfold maxLen; omega) (by omega))).mono fun e w' ⟨v, ss, he, hss, hr, hn, hb⟩ => ?_
  have hperm : ss.Perm (tnames t) := hss.trans (strKeys_names hp)
  have hm : ss.mergeSort (fun x y => decide (x ≤ y)) = tnames t := sorted_names ht hperm
  rw [hm, hperm.length_eq] at hr
  exact ⟨v, he, hr, fun h0 => hn.2 (by rw [h0] at hperm; exact List.Perm.eq_nil hperm), hb⟩
theorem repeatL_zeros : ∀ n : Nat, Lib.repeatL [(0 : UInt8)] n = List.replicate n 0
  | 0 => rfl
  | n + 1 => by rw [Lib.repeatL, repeatL_zeros n]; rfl
theorem strRepeat_any (n : Nat) (w : World) (hn : n ≤ 140737488355328) : Calls Tryz.prog 119 #[.string ⟨#[0]⟩, .int .i64 n] w fun e w' => e = .returned (strV (List.replicate n 0)) ∧ Below w.heap.size w w' :=
  (Any.strings_Repeat layRepeat layRepeatX ⟨#[0]⟩ n w (by omega) (by show 1 * n ≤ _; omega)).mono fun e w' ⟨he, hb⟩ => ⟨by rw [he, ← repeatL_zeros]; rfl, hb⟩
end Go.Proofs.YtfgpigblnkanpaaGreatDoor
