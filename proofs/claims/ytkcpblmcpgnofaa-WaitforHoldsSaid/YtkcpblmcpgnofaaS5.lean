/- Plain: the two ways to reckon the rounds agree. -/
import Derived.Test.YtkcpblmcpgnofaaS4
import Derived.Test.YtkcpblmcpgnofaaR3
namespace Go.Proofs.Ytkcpblmcpgnofaa

/-- The stuck tasks and the rounds behind k rounds. -/
def it2 (n : Nat) (L : List Nd) : Nat → List Int × List Int
  | 0 => (tasks L, R0 n L)
  | k + 1 => (rem (it2 n L k).1 (nextOf L (it2 n L k).1), setAll (it2 n L k).2 (nextOf L (it2 n L k).1) (k + 1 : Nat))

theorem it2_stop {n : Nat} {L : List Nd} {k : Nat} (h : nextOf L (it2 n L k).1 = []) : ∀ f, it2 n L (k + f) = it2 n L k := by
  intro f
  induction f with
  | zero => rfl
  | succ f ih =>
    show (rem (it2 n L (k + f)).1 (nextOf L (it2 n L (k + f)).1), setAll (it2 n L (k + f)).2 (nextOf L (it2 n L (k + f)).1) (k + f + 1 : Nat)) = _
    rw [ih, h]
    rfl

theorem solveLoop_it2 (n : Nat) (L : List Nd) (f : Nat) : ∀ k : Nat, solveLoop L f ((k : Int) + 1) (it2 n L k).1 (it2 n L k).2 = ((it2 n L (k + f)).2, (it2 n L (k + f)).1) := by
  induction f with
  | zero => intro k; rfl
  | succ f ih =>
    intro k
    unfold solveLoop
    split
    · rename_i h0
      rw [it2_stop (List.eq_nil_of_length_eq_zero h0)]
    · have := ih (k + 1)
      rw [show k + 1 + f = k + (f + 1) by omega] at this
      rw [← this]
      rfl

theorem it2_len (n : Nat) (L : List Nd) : ∀ k, nextOf L (it2 n L k).1 = [] ∨ (it2 n L k).1.length + k ≤ L.length := by
  intro k
  induction k with
  | zero => right; simp [it2, tasks]
  | succ k ih =>
    by_cases h0 : nextOf L (it2 n L k).1 = []
    · left
      have := it2_stop h0 1
      rw [this]; exact h0
    · right
      rcases ih with ih | ih
      · exact absurd ih h0
      · have h1 : (nextOf L (it2 n L k).1).length ≠ 0 := fun e => h0 (List.eq_nil_of_length_eq_zero e)
        have := length_rem_lt h1
        show (rem (it2 n L k).1 (nextOf L (it2 n L k).1)).length + (k + 1) ≤ L.length
        omega
theorem it2_end (n : Nat) (L : List Nd) {k : Nat} (hk : L.length ≤ k) : it2 n L k = it2 n L L.length := by
  have h0 : nextOf L (it2 n L L.length).1 = [] := by
    rcases it2_len n L L.length with h | h
    · exact h
    · have : (it2 n L L.length).1 = [] := List.eq_nil_of_length_eq_zero (by omega)
      rw [this]
      unfold nextOf
      rw [List.map_eq_nil_iff, List.filter_eq_nil_iff]
      intro d _
      simp [nextP, hasB]
  obtain ⟨f, rfl⟩ := Nat.exists_eq_add_of_le hk
  exact it2_stop h0 f
theorem solveL_it2 (n : Nat) (L : List Nd) (hn : L.length ≤ n) : solveL n L = ((it2 n L n).2, (it2 n L n).1) := by
  have := solveLoop_it2 n L (L.length + 1) 0
  unfold solveL
  show solveLoop L (L.length + 1) ((0 : Nat) + 1) (it2 n L 0).1 (it2 n L 0).2 = _
  rw [show (((0 : Nat) : Int) + 1) = ((0 : Nat) : Int) + 1 from rfl, this, it2_end n L (k := 0 + (L.length + 1)) (by omega), it2_end n L hn]

/-! ### the reference's state -/
def frOf (n : Nat) (S : List Int) : List Bool := (List.range n).map fun j : Nat => !hasB S j
theorem length_frOf (n : Nat) (S : List Int) : (frOf n S).length = n := by simp [frOf]
theorem frAt_frOf {n : Nat} {S : List Int} {y : Int} (h0 : 0 ≤ y) (h1 : y < n) : frAt (frOf n S) y = !hasB S y := by
  obtain ⟨m, rfl⟩ := Int.eq_ofNat_of_zero_le h0
  have hm : m < n := by omega
  unfold frAt frOf
  rw [List.getD_eq_getElem?_getD]
  simp [hm]
theorem metL_frOf {n : Nat} {S : List Int} {d : Nd} (h : ∀ y ∈ d.on, 0 ≤ y ∧ y < n) : metL (frOf n S) d = metS S d := by
  unfold metL metS
  split
  · rw [Bool.eq_iff_iff, List.all_eq_true, Bool.not_eq_true', List.any_eq_false]
    constructor
    · intro h2 y hy
      have := h2 y hy
      rw [frAt_frOf (h y hy).1 (h y hy).2] at this
      simpa using this
    · intro h2 y hy
      rw [frAt_frOf (h y hy).1 (h y hy).2]
      simpa using h2 y hy
  · rw [Bool.eq_iff_iff, List.any_eq_true, List.any_eq_true]
    constructor
    · rintro ⟨y, hy, h2⟩
      exact ⟨y, hy, by rw [← frAt_frOf (h y hy).1 (h y hy).2]; exact h2⟩
    · rintro ⟨y, hy, h2⟩
      exact ⟨y, hy, by rw [frAt_frOf (h y hy).1 (h y hy).2]; exact h2⟩
theorem frOf_rem1 {n : Nat} {S : List Int} {t : Int} (h0 : 0 ≤ t) (_h1 : t < n) : frOf n (rem1 S t) = (frOf n S).set t.toNat true := by
  obtain ⟨m, rfl⟩ := Int.eq_ofNat_of_zero_le h0
  apply List.ext_getElem
  · simp [frOf]
  · intro j h1 h2
    simp only [frOf, List.getElem_map, List.getElem_range, List.getElem_set, Int.toNat_natCast]
    by_cases hj : m = j
    · subst hj
      rw [if_pos rfl]
      have : hasB (rem1 S m) m = false := by
        rw [Bool.eq_false_iff, ne_eq, hasB_iff]; simp [rem1]
      rw [this]; rfl
    · rw [if_neg hj]
      congr 1
      rw [Bool.eq_iff_iff, hasB_iff, hasB_iff]
      simp [rem1]
      intro _ e; omega

theorem rTo_it2 {n : Nat} {L : List Nd} (hv : Vld n L) (S R : List Int) (r : Int) : ∀ k, k ≤ L.length →
    rTo L (frOf n S) r (R, frOf n S) k = (setAll R (nextOf (L.take k) S) r, frOf n (rem S (nextOf (L.take k) S))) := by
  intro k
  induction k with
  | zero => intro _; simp [rTo, nextOf, setAll, rem]
  | succ k ih =>
    intro hk
    have hd := List.getElem?_eq_getElem (l := L) (i := k) (by omega)
    have hmem : L[k] ∈ L := List.getElem_mem _
    rw [rTo_step hd, ih (by omega), nextOf_step hd]
    unfold rStep
    have ht := hv.task _ hmem
    rw [frAt_frOf ht.1 ht.2, metL_frOf (fun y hy => srt_mem (hv.on _ hmem).2 hy)]
    have hnp : (!!hasB S L[k].task && metS S L[k]) = nextP S L[k] := by unfold nextP; simp
    rw [hnp]
    cases hp : nextP S L[k]
    · simp
    · simp only [if_true]
      rw [setAll_snoc, rem_snoc, frOf_rem1 ht.1 ht.2]

theorem itR_it2 {n : Nat} {L : List Nd} (hv : Vld n L) : ∀ k, itR n L k = ((it2 n L k).2, frOf n (it2 n L k).1) := by
  have hatneg : ∀ j : Nat, atI L j < 0 ↔ hasB (tasks L) j = false := by
    intro j
    constructor
    · intro h
      have h1 := atI_none h
      rw [Bool.eq_false_iff, ne_eq, hasB_iff]
      unfold tasks
      rw [List.mem_map]
      rintro ⟨d, hd, he⟩
      rw [List.find?_eq_none] at h1
      exact h1 d hd (by simp [isT, he])
    · intro h
      apply Classical.byContradiction
      intro hge
      obtain ⟨k, d, _, hd, he, _⟩ := atI_some rfl (show 0 ≤ atI L j by omega)
      rw [Bool.eq_false_iff, ne_eq, hasB_iff] at h
      apply h
      unfold tasks
      rw [List.mem_map]
      exact ⟨d, List.mem_of_getElem? hd, he⟩
  intro k
  induction k with
  | zero =>
    show (outI n L n, frI n L n) = (R0 n L, frOf n (tasks L))
    congr 1
    · have key : ∀ (ts : List Int), (∀ t ∈ ts, 0 ≤ t ∧ t < n) → ∀ (R : List Int), setAll R ts (-1) = (List.range R.length).map (fun j : Nat => if hasB ts j then -1 else R.getD j 0) := by
        intro ts
        induction ts with
        | nil =>
          intro _ R
          apply List.ext_getElem
          · simp [setAll]
          · intro j h1 h2
            have : j < R.length := by simpa [setAll] using h1
            simp [setAll, hasB, this]
        | cons t ts ih =>
          intro hts R
          have h1 := ih (fun x hx => hts x (by simp [hx])) (setAt (-1) R t)
          show setAll (setAt (-1) R t) ts (-1) = _
          rw [h1]
          apply List.ext_getElem
          · simp [length_setAt]
          · intro j h2 h3
            simp only [List.getElem_map, List.getElem_range]
            have hjl : j < R.length := by simpa using h3
            have ht := hts t (by simp)
            obtain ⟨m, rfl⟩ := Int.eq_ofNat_of_zero_le ht.1
            by_cases hj : m = j
            · subst hj
              have : hasB ((m : Int) :: ts) m = true := hasB_iff.2 (by simp)
              rw [this, if_pos rfl]
              split
              · rfl
              · simp [setAt, hjl]
            · have : hasB ((m : Int) :: ts) j = hasB ts j := by
                rw [Bool.eq_iff_iff, hasB_iff, hasB_iff]; simp; intro e; omega
              rw [this]
              split
              · rfl
              · simp [setAt, hj]
      have hts : ∀ t ∈ tasks L, 0 ≤ t ∧ t < n := by
        intro t ht
        unfold tasks at ht
        rw [List.mem_map] at ht
        obtain ⟨d, hd, rfl⟩ := ht
        exact hv.task d hd
      unfold R0
      rw [key _ hts]
      apply List.ext_getElem
      · simp [outI]
      · intro j h1 h2
        simp only [outI, List.getElem_map, List.getElem_range, List.length_replicate]
        have hjn : j < n := by simpa [outI] using h1
        by_cases ha : atI L j < 0
        · rw [if_neg (by omega), (hatneg j).1 ha]
          simp [hjn]
        · have : hasB (tasks L) j = true := by
            cases hh : hasB (tasks L) j
            · exact absurd ((hatneg j).2 hh) ha
            · rfl
          rw [if_pos ⟨hjn, by omega⟩, this]; simp
    · apply List.ext_getElem
      · simp [frI, frOf]
      · intro j h1 h2
        simp only [frI, frOf, List.getElem_map, List.getElem_range]
        have hjn : j < n := by simpa [frI] using h1
        by_cases ha : atI L j < 0
        · simp [hjn, ha, (hatneg j).1 ha]
        · have : hasB (tasks L) j = true := by
            cases hh : hasB (tasks L) j
            · exact absurd ((hatneg j).2 hh) ha
            · rfl
          simp [this, ha]
  | succ k ih =>
    show rTo L (itR n L k).2 ((k + 1 : Nat) : Int) (itR n L k) L.length = _
    rw [ih]
    simp only
    rw [rTo_it2 hv _ _ _ _ (Nat.le_refl _), List.take_length]
    rfl

theorem refRounds_eq {n : Nat} {L : List Nd} (hv : Vld n L) : refRounds n L = (solveL n L).1 := by
  unfold refRounds
  rw [itR_it2 hv, solveL_it2 n L (by have := hv.len; omega)]

theorem it2_neg {n : Nat} {L : List Nd} (hv : Vld n L) : ∀ k, ∀ i : Nat, i < n → ((it2 n L k).2.getD i 0 < 0 ↔ (i : Int) ∈ (it2 n L k).1) := by
  have hset : ∀ (ts : List Int) (v : Int), (∀ t ∈ ts, 0 ≤ t ∧ t < n) → ∀ (R : List Int), R.length = n → ∀ i : Nat, i < n → (setAll R ts v).getD i 0 = if hasB ts i then v else R.getD i 0 := by
    intro ts v
    induction ts with
    | nil => intro _ R _ i _; simp [setAll, hasB]
    | cons t ts ih =>
      intro hts R hR i hi
      have ht := hts t (by simp)
      obtain ⟨m, rfl⟩ := Int.eq_ofNat_of_zero_le ht.1
      show (setAll (setAt v R m) ts v).getD i 0 = _
      rw [ih (fun x hx => hts x (by simp [hx])) _ (by rw [length_setAt]; exact hR) i hi]
      by_cases hj : m = i
      · subst hj
        have : hasB ((m : Int) :: ts) m = true := hasB_iff.2 (by simp)
        rw [this, if_pos rfl]
        split
        · rfl
        · simp [setAt, hR, hi]
      · have : hasB ((m : Int) :: ts) i = hasB ts i := by
          rw [Bool.eq_iff_iff, hasB_iff, hasB_iff]; simp; intro e; omega
        rw [this]
        split
        · rfl
        · simp [setAt, hj]
  have hts : ∀ t ∈ tasks L, 0 ≤ t ∧ t < n := by
    intro t ht
    unfold tasks at ht
    rw [List.mem_map] at ht
    obtain ⟨d, hd, rfl⟩ := ht
    exact hv.task d hd
  have hlen : ∀ k, (it2 n L k).2.length = n := by
    intro k
    induction k with
    | zero => exact length_R0 n L
    | succ k ih => show (setAll _ _ _).length = n; rw [length_setAll]; exact ih
  intro k
  induction k with
  | zero =>
    intro i hi
    show (R0 n L).getD i 0 < 0 ↔ (i : Int) ∈ tasks L
    unfold R0
    rw [hset _ _ hts _ (by simp) i hi]
    by_cases h : (i : Int) ∈ tasks L
    · rw [hasB_iff.2 h]; simp [h]
    · rw [show hasB (tasks L) i = false by rw [Bool.eq_false_iff, ne_eq, hasB_iff]; exact h]
      simp [h, hi]
  | succ k ih =>
    intro i hi
    show (setAll (it2 n L k).2 (nextOf L (it2 n L k).1) ((k + 1 : Nat) : Int)).getD i 0 < 0 ↔ (i : Int) ∈ rem (it2 n L k).1 (nextOf L (it2 n L k).1)
    rw [hset _ _ (fun t ht => by obtain ⟨d, hd, rfl⟩ := nextOf_sub ht; exact hv.task d hd) _ (hlen k) i hi, mem_rem, ← ih i hi]
    by_cases h : (i : Int) ∈ nextOf L (it2 n L k).1
    · rw [hasB_iff.2 h]; simp [h]; omega
    · rw [show hasB (nextOf L (it2 n L k).1) i = false by rw [Bool.eq_false_iff, ne_eq, hasB_iff]; exact h]
      simp [h]

theorem stk_eq {n : Nat} {L : List Nd} (hv : Vld n L) : stk (refRounds n L) = sortI (stuckS n L) := by
  have hn : L.length ≤ n := by have := hv.len; omega
  have hR : refRounds n L = (it2 n L n).2 := by rw [refRounds_eq hv, solveL_it2 n L hn]
  have hS : stuckS n L = (it2 n L n).1 := by unfold stuckS; rw [solveL_it2 n L hn]
  have hsorted : (stk (refRounds n L)).Pairwise (fun x y => x < y) := by
    unfold stk stkTo
    rw [List.pairwise_map]
    refine List.Pairwise.imp ?_ (List.Pairwise.filter _ (List.pairwise_lt_range))
    intro a b h; omega
  have hmem : ∀ x, x ∈ stk (refRounds n L) ↔ x ∈ stuckS n L := by
    intro x
    unfold stk stkTo
    rw [refRounds_len, List.mem_map]
    constructor
    · rintro ⟨i, hi, rfl⟩
      rw [List.mem_filter, List.mem_range, decide_eq_true_eq, hR] at hi
      rw [hS]
      exact (it2_neg hv n i hi.1).1 hi.2
    · intro hx
      obtain ⟨d, hd, rfl⟩ := stuckS_task hx
      obtain ⟨h0, h1⟩ := hv.task d hd
      obtain ⟨m, hm⟩ := Int.eq_ofNat_of_zero_le h0
      rw [hm] at hx h1 ⊢
      refine ⟨m, ?_, rfl⟩
      rw [List.mem_filter, List.mem_range, decide_eq_true_eq, hR]
      rw [hS] at hx
      exact ⟨by omega, (it2_neg hv n m (by omega)).2 hx⟩
  have hnd : (stk (refRounds n L)).Nodup := by
    rw [List.nodup_iff_pairwise_ne]
    exact hsorted.imp (by intro a b h; omega)
  have hperm : (stk (refRounds n L)).Perm (stuckS n L) := (List.perm_ext_iff_of_nodup hnd (stuckS_nodup hv)).2 hmem
  rw [← sortI_eq hperm]
  unfold sortI
  symm
  apply List.mergeSort_of_pairwise
  exact hsorted.imp (by intro a b h; simp; omega)
end Go.Proofs.Ytkcpblmcpgnofaa
