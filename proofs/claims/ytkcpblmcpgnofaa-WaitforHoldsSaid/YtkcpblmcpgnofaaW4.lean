/- The cells of a list of needs; the list turned. -/
import Derived.Test.YtkcpblmcpgnofaaW2
import Derived.Test.YtkcpblmcpgnofaaS7
namespace Go.Proofs.Ytkcpblmcpgnofaa
open Go.RowKit Go.Maps

theorem NdCells.append {w : World} {B : Nat} {cs ds : List Value} {L M : List Nd} (h : NdCells w B cs L) (k : NdCells w B ds M) : NdCells w B (cs ++ ds) (L ++ M) := by
  have hl := h.1
  refine ⟨by rw [List.length_append, List.length_append, h.1, k.1]; omega, ?_, ?_⟩
  · intro u hu
    rcases List.mem_append.1 hu with hu | hu
    · exact h.2.1 u hu
    · exact k.2.1 u hu
  · intro i d hd
    rw [List.getElem?_append] at hd
    split at hd
    · rename_i hlt
      obtain ⟨ai, ci, h1, h2, h3, h4⟩ := h.2.2 i d hd
      exact ⟨ai, ci, by rw [List.getElem?_append_left (by omega)]; exact h1, by rw [List.getElem?_append_left (by omega)]; exact h2, by rw [List.getElem?_append_left (by omega)]; exact h3, h4⟩
    · rename_i hge
      obtain ⟨ai, ci, h1, h2, h3, h4⟩ := k.2.2 _ d hd
      refine ⟨ai, ci, ?_, ?_, ?_, h4⟩
      · rw [List.getElem?_append_right (by omega), show i * 3 - cs.length = (i - L.length) * 3 by omega]; exact h1
      · rw [List.getElem?_append_right (by omega), show i * 3 + 1 - cs.length = (i - L.length) * 3 + 1 by omega]; exact h2
      · rw [List.getElem?_append_right (by omega), show i * 3 + 2 - cs.length = (i - L.length) * 3 + 2 by omega]; exact h3
theorem NdCells.drop {w : World} {B : Nat} {cs : List Value} {L : List Nd} (h : NdCells w B cs L) (t : Nat) : NdCells w B (cs.drop (t * 3)) (L.drop t) := by
  have hl := h.1
  refine ⟨by rw [List.length_drop, List.length_drop, h.1]; omega, fun u hu => h.2.1 u (List.mem_of_mem_drop hu), fun i d hd => ?_⟩
  rw [List.getElem?_drop] at hd
  obtain ⟨ai, ci, h1, h2, h3, h4⟩ := h.2.2 _ d hd
  exact ⟨ai, ci, by rw [List.getElem?_drop, show t * 3 + i * 3 = (t + i) * 3 by omega]; exact h1, by rw [List.getElem?_drop, show t * 3 + (i * 3 + 1) = (t + i) * 3 + 1 by omega]; exact h2,
    by rw [List.getElem?_drop, show t * 3 + (i * 3 + 2) = (t + i) * 3 + 2 by omega]; exact h3, h4⟩
theorem NdCells.take {w : World} {B : Nat} {cs : List Value} {L : List Nd} (h : NdCells w B cs L) (t : Nat) : NdCells w B (cs.take (t * 3)) (L.take t) := by
  have hl := h.1
  refine ⟨by rw [List.length_take, List.length_take, h.1]; omega, fun u hu => h.2.1 u (List.mem_of_mem_take hu), fun i d hd => ?_⟩
  rw [List.getElem?_take] at hd
  split at hd
  · rename_i hlt
    obtain ⟨ai, ci, h1, h2, h3, h4⟩ := h.2.2 _ d hd
    exact ⟨ai, ci, by rw [List.getElem?_take, if_pos (by omega)]; exact h1, by rw [List.getElem?_take, if_pos (by omega)]; exact h2, by rw [List.getElem?_take, if_pos (by omega)]; exact h3, h4⟩
  · cases hd

theorem Cells.drop {w : World} {B b o : Nat} {cs : List Value} (h : Cells w B (some ⟨b, o, none⟩) cs) (j : Nat) : Cells w B (some ⟨b, o + j, none⟩) (cs.drop j) := by
  intro k hk
  rw [List.length_drop] at hk
  obtain ⟨b', o', ha, hb, hc⟩ := h k (by omega)
  injection ha with ha; injection ha with e1 e2; subst e1 e2
  refine ⟨b, o + j, rfl, hb, fun i x hx => ?_⟩
  rw [List.getElem?_drop] at hx
  have := hc _ _ hx
  rw [show o + j + i = o + (j + i) by omega]; exact this
theorem Cells.take {w : World} {B : Nat} {ao : Option Addr} {cs : List Value} (h : Cells w B ao cs) (j : Nat) : Cells w B ao (cs.take j) := by
  intro k hk
  rw [List.length_take] at hk
  obtain ⟨b, o, ha, hb, hc⟩ := h k (by omega)
  refine ⟨b, o, ha, hb, fun i x hx => ?_⟩
  rw [List.getElem?_take] at hx
  split at hx
  · exact hc _ _ hx
  · cases hx

/-- A list of needs that reads, as cells. -/
theorem Needs.cells {w : World} {B : Nat} {ao : Option Addr} {L : List Nd} (h : Needs w B ao L) : ∃ cs, NdCells w B cs L ∧ Cells w B ao cs := by
  by_cases h0 : L.length = 0
  · have : L = [] := List.eq_nil_of_length_eq_zero h0
    subst this
    exact ⟨[], NdCells.nil _ _, fun k hk => by simp at hk⟩
  obtain ⟨b, o, rfl, hb, hc⟩ := h 0 (by omega)
  have key : ∀ k, k ≤ L.length → ∃ cs, NdCells w B cs (L.take k) ∧ ∀ i v, cs[i]? = some v → w.cell? ⟨b, o + i, none⟩ = some v := by
    intro k
    induction k with
    | zero => intro _; exact ⟨[], by rw [List.take_zero]; exact NdCells.nil _ _, by simp⟩
    | succ k ih =>
      intro hk
      obtain ⟨cs, hcs, hcell⟩ := ih (by omega)
      have hd := List.getElem?_eq_getElem (l := L) (i := k) (by omega)
      obtain ⟨ai, ci, c0, c1, c2, hi⟩ := hc k _ hd
      rw [List.take_succ_eq_append_getElem (by omega)]
      refine ⟨_, hcs.snoc (t := L[k].task) (all := L[k].all) (ci := ci) hi, fun i v hv => ?_⟩
      have hlen := hcs.1
      rw [List.length_take, Nat.min_eq_left (by omega)] at hlen
      rw [List.getElem?_append] at hv
      split at hv
      · exact hcell i v hv
      · rename_i hge
        have h3 : i - cs.length < 3 := by have := (List.getElem?_eq_some_iff.1 hv).1; simpa using this
        rcases (by omega : i = k * 3 ∨ i = k * 3 + 1 ∨ i = k * 3 + 2) with rfl | rfl | rfl
        · rw [show k * 3 - cs.length = 0 by omega] at hv
          simp at hv
          rw [← hv]; exact c0
        · rw [show k * 3 + 1 - cs.length = 1 by omega] at hv
          simp at hv
          rw [← hv, show o + (k * 3 + 1) = o + k * 3 + 1 by omega]; exact c1
        · rw [show k * 3 + 2 - cs.length = 2 by omega] at hv
          simp at hv
          rw [← hv, show o + (k * 3 + 2) = o + k * 3 + 2 by omega]; exact c2
  obtain ⟨cs, hcs, hcell⟩ := key L.length (Nat.le_refl _)
  rw [List.take_length] at hcs
  exact ⟨cs, hcs, fun k hk => ⟨b, o, rfl, hb, hcell⟩⟩
end Go.Proofs.Ytkcpblmcpgnofaa
