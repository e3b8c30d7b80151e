/- maps.Keys and slices.Sorted over the set of stuck tasks: the shelf's contracts, in plain words. -/
import Derived.Test.YtkcpblmcpgnofaaS1
import Derived.Test.YtkcpblmcpgnofaaIter
import Derived.Lib.SlKeysI
namespace Go.Proofs.Ytkcpblmcpgnofaa
open Go.RowKit Go.Maps Go.Sort Go.Shelf

theorem SetIs.perm {D : DataW Unit} {S : List Int} (h : SetIs D S) : S.Perm (intKeys D) := by
  obtain ⟨es, rfl, hp⟩ := h.tidy
  exact perm_intKeys hp (h.keys es rfl) h.nodup (fun x => by rw [h.has, hasB_iff])


/-- The numbers of a set, sorted. -/
def sortI (S : List Int) : List Int := S.mergeSort (fun x y => decide (x ≤ y))
theorem sortI_perm (S : List Int) : (sortI S).Perm S := List.mergeSort_perm _ _
theorem sortI_eq {S T : List Int} (h : S.Perm T) : sortI S = sortI T := mergeSort_of_perm_i h
theorem sortI_length (S : List Int) : (sortI S).length = S.length := (sortI_perm S).length_eq
theorem hasB_sortI (S : List Int) (x : Int) : hasB (sortI S) x = hasB S x := by
  rw [Bool.eq_iff_iff, hasB_iff, hasB_iff]; exact (sortI_perm S).mem_iff

theorem keys_any (mb : Option Nat) (W : World) : Calls Try.prog 37 #[.map mb] W fun e w' => e = .returned (.func (.func 53) #[] #[.pointer (some ⟨W.heap.size, 0, none⟩)]) ∧ w' = W.alloc (.cells #[.map mb] 51) :=
  (callsIn_wide (n := 5)).1 (AnyZI.keys_in Try.keysA Fence.wide 5 trivial rfl mb W)

theorem Try.sortsA (m : Nat) : AnyZI.SortsIn Try.prog Try.sortedA_ren Fence.wide m :=
  ⟨fun blk off cap ss W hH hblk hsz => callsIn_wide.2 (AnyM.slices_Sort_int Try.sortA blk off cap ss W hH hblk hsz),
   fun p cap W => callsIn_wide.2 (AnyM.slices_Sort_int_none Try.sortA p cap W)⟩

/-- A sorted list of ints of the call's own. -/
def RSorted (w : World) (S : List Int) (e : Ending) (w' : World) : Prop :=
  ∃ v, e = .returned v ∧ w'.ownsRow w.heap.size 3 1 v (sortI S).length ((sortI S).map (.int .i64)) ∧ Below w.heap.size w w'

theorem sorted_keys_any (bm c : Nat) (D : DataW Unit) (S : List Int) (w : World) (hm : w.ownsMap Try.prog 3 unitElem bm c D) (hs : SetIs D S) (hS : S.length ≤ 1000000) :
    Calls Try.prog 36 #[.func (.func 53) #[] #[.pointer (some ⟨w.heap.size, 0, none⟩)]] (w.alloc (.cells #[.map (some bm)] 51)) (RSorted w S) := by
  have hbl := hm.lt
  have hsz := hs.size
  have hseq : SeqGives Fence.wide 2 Try.prog 53 #[.pointer (some ⟨w.heap.size, 0, none⟩)] encZ (fun ss => ss.Perm (intKeys D)) (Maps.size D) (w.alloc (.cells #[.map (some bm)] 51)) :=
    AnyZI.keys_gives (ρ := Try.keysA_ren) { Try.keysA with } Fence.wide _ trivial rfl (by omega) w.heap.size bm c D _ (by simp) (by simp) (by
      obtain ⟨es, clock, hb, Ft, hs, hD⟩ := hm
      exact ⟨es, clock, (Below.heap_alloc _ _ bm hbl).trans hb, Ft, hs, hD⟩)
  have cS := AnyZI.sorted_in Try.sortedA Fence.wide 5 trivial trivial trivial trivial rfl (by omega) (Try.sortsA _) (enters_of Try.func52 (by kernel_rfl) rfl) 53 #[.pointer (some ⟨w.heap.size, 0, none⟩)] trivial (enters_of Try.func53 (by kernel_rfl) rfl) _ _ (by unfold maxLen; omega) (by omega) _ hseq
  refine ((callsIn_wide (n := 5)).1 cS).mono ?_
  rintro e w' ⟨v, ss, rfl, hS1, hrow, _, hb⟩
  have hp : ss.Perm S := hS1.trans hs.perm.symm
  have he : ss.mergeSort (fun x y => decide (x ≤ y)) = sortI S := sortI_eq hp
  refine ⟨v, rfl, ?_, ((Below.refl _ w).alloc (Nat.le_refl _) _).trans (hb.mono (by simp))⟩
  rw [he] at hrow
  rw [sortI_length, ← hp.length_eq]
  exact ownsRow_base_a hrow (by simp)

end Go.Proofs.Ytkcpblmcpgnofaa
