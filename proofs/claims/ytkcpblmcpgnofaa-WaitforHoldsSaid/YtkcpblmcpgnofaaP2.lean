/- Plain: knots. -/
import Derived.Test.YtkcpblmcpgnofaaPlain
namespace Go.Proofs.Ytkcpblmcpgnofaa

/-- How many of the first k are in the set. -/
def inTo (set on : List Int) (k : Nat) : Nat := ((on.take k).filter (hasB set)).length
def inC (set on : List Int) : Nat := inTo set on on.length
theorem inTo_le (set on : List Int) (k : Nat) : inTo set on k ≤ k := by
  unfold inTo; exact Nat.le_trans (List.length_filter_le _ _) (by rw [List.length_take]; omega)
theorem inC_le (set on : List Int) : inC set on ≤ on.length := inTo_le _ _ _
theorem inTo_hit {set on : List Int} {k : Nat} {y : Int} (hy : on[k]? = some y) (h : hasB set y = true) : inTo set on (k + 1) = inTo set on k + 1 := by
  obtain ⟨hk, he⟩ := List.getElem?_eq_some_iff.1 hy
  unfold inTo; rw [List.take_succ_eq_append_getElem hk, List.filter_append, he]; simp [h]
theorem inTo_miss {set on : List Int} {k : Nat} {y : Int} (hy : on[k]? = some y) (h : hasB set y = false) : inTo set on (k + 1) = inTo set on k := by
  obtain ⟨hk, he⟩ := List.getElem?_eq_some_iff.1 hy
  unfold inTo; rw [List.take_succ_eq_append_getElem hk, List.filter_append, he]; simp [h]

def badC (c len : Nat) (all : Bool) : Bool := decide (c = 0) || (!all && decide (c < len))
def badB (set : List Int) (d : Nd) : Bool := badC (inC set d.on) d.on.length d.all

/-- How many of the first k needs are of tasks in the set. -/
def fdTo (set : List Int) (L : List Nd) (k : Nat) : Nat := ((L.take k).filter (fun d => hasB set d.task)).length
def fdC (set : List Int) (L : List Nd) : Nat := fdTo set L L.length
theorem fdTo_le (set : List Int) (L : List Nd) (k : Nat) : fdTo set L k ≤ k := by
  unfold fdTo; exact Nat.le_trans (List.length_filter_le _ _) (by rw [List.length_take]; omega)
theorem fdTo_hit {set : List Int} {L : List Nd} {k : Nat} {d : Nd} (hd : L[k]? = some d) (h : hasB set d.task = true) : fdTo set L (k + 1) = fdTo set L k + 1 := by
  obtain ⟨hk, he⟩ := List.getElem?_eq_some_iff.1 hd
  unfold fdTo; rw [List.take_succ_eq_append_getElem hk, List.filter_append, he]; simp [h]
theorem fdTo_miss {set : List Int} {L : List Nd} {k : Nat} {d : Nd} (hd : L[k]? = some d) (h : hasB set d.task = false) : fdTo set L (k + 1) = fdTo set L k := by
  obtain ⟨hk, he⟩ := List.getElem?_eq_some_iff.1 hd
  unfold fdTo; rw [List.take_succ_eq_append_getElem hk, List.filter_append, he]; simp [h]

/-- The need is of a task in the set, and does not hold it. -/
def badAt (set : List Int) (d : Nd) : Bool := hasB set d.task && badB set d
def chk (n : Int) (L : List Nd) (set : List Int) : Int :=
  if vld n L && srt n set then (if L.any (badAt set) || decide (fdC set L < set.length) then 10 else 0) else 2

/-- The need of the place k. -/
def knotAt (L : List Nd) (set : List Int) (t : Int) : Bool := match L.find? (isT t) with | none => false | some d => !badB set d
def knot (L : List Nd) (set : List Int) : Bool := set.all (knotAt L set)
def chkR (n : Int) (L : List Nd) (set : List Int) : Int := if vld n L && srt n set then (if knot L set then 0 else 10) else 2

theorem atI_some {L : List Nd} {t : Int} {i : Int} (h : atI L t = i) (hi : 0 ≤ i) : ∃ (k : Nat) (d : Nd), i = k ∧ L[k]? = some d ∧ d.task = t ∧ L.find? (isT t) = some d := by
  unfold atI at h
  cases hf : L.findIdx? (isT t) with
  | none => rw [hf] at h; simp only at h; omega
  | some k =>
    rw [hf] at h
    simp only at h
    have h2 := hf
    rw [List.findIdx?_eq_some_iff_getElem] at h2
    obtain ⟨hk, hT, hno⟩ := h2
    refine ⟨k, L[k], h.symm, List.getElem?_eq_getElem hk, by simpa [isT] using hT, ?_⟩
    rw [List.find?_eq_some_iff_getElem]
    exact ⟨hT, k, hk, rfl, fun j hj => by simpa using hno j hj⟩
theorem atI_none {L : List Nd} {t : Int} (h : atI L t < 0) : L.find? (isT t) = none := by
  unfold atI at h
  cases hf : L.findIdx? (isT t) with
  | none =>
    rw [List.findIdx?_eq_none_iff] at hf
    rw [List.find?_eq_none]
    intro d hd; simpa using hf d hd
  | some k => rw [hf] at h; simp only at h; omega

theorem Vld.find {n : Int} {L : List Nd} (h : Vld n L) {d : Nd} (hd : d ∈ L) : L.find? (isT d.task) = some d := by
  obtain ⟨k, hk⟩ := List.mem_iff_getElem?.1 hd
  obtain ⟨hkl, hke⟩ := List.getElem?_eq_some_iff.1 hk
  rw [List.find?_eq_some_iff_getElem]
  refine ⟨by simp [isT], k, hkl, hke, fun j hj => ?_⟩
  simp only [isT, Bool.not_eq_true', decide_eq_false_iff_not]
  intro e
  have := h.one j k L[j] d (List.getElem?_eq_getElem (by omega)) hk e
  omega

theorem inc_nodup {xs : List Int} (h : ∀ (i j : Nat) (x y : Int), i < j → xs[i]? = some x → xs[j]? = some y → x < y) : xs.Nodup := by
  rw [List.nodup_iff_pairwise_ne, List.pairwise_iff_getElem]
  intro i j hi hj hij e
  have := h i j _ _ hij (List.getElem?_eq_getElem hi) (List.getElem?_eq_getElem hj)
  omega

theorem tasks_nodup {n : Int} {L : List Nd} (h : Vld n L) : (L.map Nd.task).Nodup := by
  rw [List.nodup_iff_pairwise_ne, List.pairwise_iff_getElem]
  intro i j hi hj hij e
  simp only [List.getElem_map] at e
  have := h.one i j _ _ (List.getElem?_eq_getElem (by simpa using hi)) (List.getElem?_eq_getElem (by simpa using hj)) e
  omega

/-- The needs of tasks in the set are as many as the set just if each one of the set has a need. -/
theorem fdC_full {n : Int} {L : List Nd} {set : List Int} (h : Vld n L) (hs : set.Nodup) : (fdC set L < set.length) ↔ ∃ t ∈ set, ∀ d ∈ L, d.task ≠ t := by
  have hf : fdC set L = ((L.map Nd.task).filter (hasB set)).length := by
    unfold fdC fdTo
    rw [List.take_length, List.filter_map, List.length_map]
    rfl
  have hnd : ((L.map Nd.task).filter (hasB set)).Nodup := (tasks_nodup h).filter _
  have hsub : ∀ t ∈ (L.map Nd.task).filter (hasB set), t ∈ set := fun t ht => hasB_iff.1 (List.mem_filter.1 ht).2
  rw [hf]
  constructor
  · intro hlt
    apply Classical.byContradiction
    intro hno
    have hall : ∀ t ∈ set, t ∈ (L.map Nd.task).filter (hasB set) := by
      intro t ht
      rw [List.mem_filter, List.mem_map]
      refine ⟨Classical.byContradiction fun hn => hno ⟨t, ht, fun d hd e => hn ⟨d, hd, e⟩⟩, hasB_iff.2 ht⟩
    have := hs.length_le_of_subset hall
    omega
  · rintro ⟨t, ht, hno⟩
    have hsub2 : ∀ x ∈ t :: (L.map Nd.task).filter (hasB set), x ∈ set := by
      intro x hx
      rcases List.mem_cons.1 hx with rfl | hx
      · exact ht
      · exact hsub x hx
    have hnd2 : (t :: (L.map Nd.task).filter (hasB set)).Nodup := by
      rw [List.nodup_cons]
      refine ⟨?_, hnd⟩
      intro hm
      obtain ⟨d, hd, he⟩ := List.mem_map.1 (List.mem_filter.1 hm).1
      exact hno d hd he
    have := hnd2.length_le_of_subset hsub2
    rw [List.length_cons] at this
    omega

theorem knot_iff {n : Int} {L : List Nd} {set : List Int} (h : Vld n L) : knot L set = true ↔ ∀ t ∈ set, ∃ d ∈ L, d.task = t ∧ badB set d = false := by
  unfold knot
  rw [List.all_eq_true]
  constructor
  · intro hk t ht
    have := hk t ht
    unfold knotAt at this
    cases hf : L.find? (isT t) with
    | none => rw [hf] at this; cases this
    | some d =>
      rw [hf] at this
      exact ⟨d, List.mem_of_find?_eq_some hf, by simpa [isT] using List.find?_some hf, by simpa using this⟩
  · intro hk t ht
    obtain ⟨d, hd, rfl, hb⟩ := hk t ht
    unfold knotAt
    rw [h.find hd]; show (!badB set d) = true; rw [hb]; rfl

theorem chk_iff {n : Int} {L : List Nd} {set : List Int} (h : Vld n L) (hs : set.Nodup) : (L.any (badAt set) || decide (fdC set L < set.length)) = false ↔ knot L set = true := by
  rw [knot_iff h, Bool.or_eq_false_iff, decide_eq_false_iff_not, fdC_full h hs, List.any_eq_false]
  constructor
  · rintro ⟨h1, h2⟩ t ht
    obtain ⟨d, hd, he⟩ : ∃ d ∈ L, d.task = t := Classical.byContradiction fun hn => h2 ⟨t, ht, fun d hd e => hn ⟨d, hd, e⟩⟩
    refine ⟨d, hd, he, ?_⟩
    have := h1 d hd
    unfold badAt at this
    rw [he, hasB_iff.2 ht] at this
    simpa using this
  · intro hk
    refine ⟨fun d hd => ?_, ?_⟩
    · unfold badAt
      cases ht : hasB set d.task
      · simp
      · obtain ⟨e, he, het, hb⟩ := hk d.task (hasB_iff.1 ht)
        have h1 := h.find he
        rw [het, h.find hd] at h1
        injection h1 with h1
        rw [h1, hb]; simp
    · rintro ⟨t, ht, hno⟩
      obtain ⟨d, hd, he, _⟩ := hk t ht
      exact hno d hd he

theorem chk_eq (n : Int) (L : List Nd) (set : List Int) (hs : srt n set = true → set.Nodup) : chk n L set = chkR n L set := by
  unfold chk chkR
  cases hv : vld n L
  · rfl
  cases hsr : srt n set
  · rfl
  have key := chk_iff (vld_iff.1 hv) (hs hsr)
  simp only [Bool.and_self, if_true]
  cases hk : knot L set
  · rw [if_pos, if_neg (by decide)]
    rw [hk] at key
    cases hh : (L.any (badAt set) || decide (fdC set L < set.length))
    · exact absurd (key.1 hh) (by decide)
    · rfl
  · rw [key.2 hk, if_neg (by decide), if_pos rfl]
end Go.Proofs.Ytkcpblmcpgnofaa
