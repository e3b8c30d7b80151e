/- The plain functions of layer 32: what the program and the reference compute, on lists. No program in sight. -/
namespace Go.Proofs.Ytkcpblmcpgnofaa

def hasB (xs : List Int) (x : Int) : Bool := xs.contains x

theorem hasB_hit {xs : List Int} {x : Int} {k : Nat} (hx : xs[k]? = some x) : hasB xs x = true := by
  unfold hasB; rw [List.contains_iff_mem]; exact List.mem_of_getElem? hx

theorem hasB_iff {xs : List Int} {x : Int} : hasB xs x = true ↔ x ∈ xs := by
  unfold hasB; rw [List.contains_iff_mem]

theorem hasB_miss {xs : List Int} {x : Int} (h : ∀ j, j < xs.length → xs[j]? ≠ some x) : hasB xs x = false := by
  rw [Bool.eq_false_iff, ne_eq, hasB_iff]
  intro hm
  obtain ⟨j, hj, he⟩ := List.getElem_of_mem hm
  exact h j hj (by rw [List.getElem?_eq_getElem hj, he])

/-- The first index, or -1. -/
def idxI (xs : List Int) (x : Int) : Int := match xs.idxOf? x with | some k => k | none => -1

theorem idxI_hit {xs : List Int} {x : Int} {k : Nat} (hx : xs[k]? = some x) (hno : ∀ j, j < k → xs[j]? ≠ some x) : idxI xs x = k := by
  have : xs.idxOf? x = some k := by
    unfold List.idxOf?
    rw [List.findIdx?_eq_some_iff_getElem]
    obtain ⟨hk, he⟩ := List.getElem?_eq_some_iff.1 hx
    refine ⟨hk, by simp [he], fun j hj => ?_⟩
    have := hno j hj
    simp only [beq_iff_eq]
    intro e
    exact this (by rw [List.getElem?_eq_getElem (by omega), e])
  unfold idxI; rw [this]

theorem idxI_miss {xs : List Int} {x : Int} (hno : ∀ j, j < xs.length → xs[j]? ≠ some x) : idxI xs x = -1 := by
  have : xs.idxOf? x = none := by
    unfold List.idxOf?
    rw [List.findIdx?_eq_none_iff]
    intro y hy
    obtain ⟨j, hj, he⟩ := List.getElem_of_mem hy
    simp only [beq_eq_false_iff_ne, ne_eq]
    intro e
    exact hno j hj (by rw [List.getElem?_eq_getElem hj, he, e])
  unfold idxI; rw [this]

theorem hasB_idxI {xs : List Int} {x : Int} : decide (0 ≤ idxI xs x) = hasB xs x := by
  by_cases h : ∃ k : Nat, xs[k]? = some x
  · obtain ⟨k, hk⟩ := h
    have : ∃ k : Nat, xs[k]? = some x ∧ ∀ j, j < k → xs[j]? ≠ some x := by
      induction k using Nat.strongRecOn with
      | _ k ih =>
        by_cases hh : ∃ j, j < k ∧ xs[j]? = some x
        · obtain ⟨j, hj, he⟩ := hh; exact ih j hj he
        · exact ⟨k, hk, fun j hj he => hh ⟨j, hj, he⟩⟩
    obtain ⟨k, hk, hno⟩ := this
    rw [idxI_hit hk hno, hasB_hit hk]; simp
  · rw [idxI_miss (fun j _ he => h ⟨j, he⟩), hasB_miss (fun j _ he => h ⟨j, he⟩)]; decide

def eqB (xs ys : List Int) : Bool := decide (xs = ys)

theorem eqB_len {xs ys : List Int} (h : xs.length ≠ ys.length) : eqB xs ys = false := by
  unfold eqB; rw [decide_eq_false_iff_not]; rintro rfl; exact h rfl
theorem eqB_miss {xs ys : List Int} {k : Nat} {x y : Int} (hx : xs[k]? = some x) (hy : ys[k]? = some y) (hne : x ≠ y) : eqB xs ys = false := by
  unfold eqB; rw [decide_eq_false_iff_not]; rintro rfl; rw [hx] at hy; exact hne (by injection hy)
theorem eqB_hit {xs ys : List Int} (hl : xs.length = ys.length) (h : ∀ j, j < xs.length → xs[j]? = ys[j]?) : eqB xs ys = true := by
  unfold eqB; rw [decide_eq_true_eq]; apply List.ext_getElem? ; intro j
  by_cases hj : j < xs.length
  · exact h j hj
  · rw [List.getElem?_eq_none (by omega), List.getElem?_eq_none (by omega)]

/-- At place k: in range, and above the one before. -/
def srtAt (n : Int) (xs : List Int) (k : Nat) : Bool := match xs[k]? with
  | none => true
  | some x => decide (0 ≤ x) && decide (x < n) && (match k with | 0 => true | j + 1 => match xs[j]? with | none => true | some y => decide (y < x))
def srt (n : Int) (xs : List Int) : Bool := (List.range xs.length).all (srtAt n xs)

theorem srt_miss {n : Int} {xs : List Int} {k : Nat} (hk : k < xs.length) (h : srtAt n xs k = false) : srt n xs = false := by
  unfold srt; rw [List.all_eq_false]; exact ⟨k, by simpa using hk, by simp [h]⟩
theorem srt_hit {n : Int} {xs : List Int} (h : ∀ k, k < xs.length → srtAt n xs k = true) : srt n xs = true := by
  unfold srt; rw [List.all_eq_true]; intro k hk; exact h k (by simpa using hk)
theorem srt_at {n : Int} {xs : List Int} (h : srt n xs = true) {k : Nat} (hk : k < xs.length) : srtAt n xs k = true := by
  unfold srt at h; rw [List.all_eq_true] at h; exact h k (by simpa using hk)

theorem srtAt_low {n : Int} {xs : List Int} {k : Nat} {x : Int} (hx : xs[k]? = some x) (h : x < 0 ∨ n ≤ x) : srtAt n xs k = false := by
  unfold srtAt; rw [hx]; simp only []; rcases h with h | h
  · have : decide (0 ≤ x) = false := by simp; omega
    rw [this]; rfl
  · have : decide (x < n) = false := by simp; omega
    rw [this]; simp
theorem srtAt_order {n : Int} {xs : List Int} {k : Nat} {x y : Int} (hx : xs[k + 1]? = some x) (hy : xs[k]? = some y) (h : x ≤ y) : srtAt n xs (k + 1) = false := by
  unfold srtAt; rw [hx]; simp only [hy]
  have : decide (y < x) = false := by simp; omega
  rw [this]; simp
theorem srtAt_zero {n : Int} {xs : List Int} {x : Int} (hx : xs[0]? = some x) (h0 : 0 ≤ x) (h1 : x < n) : srtAt n xs 0 = true := by
  unfold srtAt; rw [hx]; simp [h0, h1]
theorem srtAt_succ {n : Int} {xs : List Int} {k : Nat} {x y : Int} (hx : xs[k + 1]? = some x) (hy : xs[k]? = some y) (h0 : 0 ≤ x) (h1 : x < n) (h : y < x) : srtAt n xs (k + 1) = true := by
  unfold srtAt; rw [hx]; simp [h0, h1, hy, h]

theorem srtAt_eq0 {n : Int} {xs : List Int} {x : Int} (hx : xs[0]? = some x) : srtAt n xs 0 = (decide (0 ≤ x) && decide (x < n)) := by
  unfold srtAt; rw [hx]; simp
theorem srtAt_eq {n : Int} {xs : List Int} {k : Nat} {x y : Int} (hx : xs[k + 1]? = some x) (hy : xs[k]? = some y) : srtAt n xs (k + 1) = (decide (0 ≤ x) && decide (x < n) && decide (y < x)) := by
  unfold srtAt; rw [hx]; simp [hy]

/-! ### needs -/
structure Nd where
  task : Int
  on : List Int
  all : Bool

def isT (t : Int) (d : Nd) : Bool := decide (d.task = t)

/-- The index of the first need of a task, or -1. -/
def atI (L : List Nd) (t : Int) : Int := match L.findIdx? (isT t) with | some k => k | none => -1

theorem atI_hit {L : List Nd} {t : Int} {k : Nat} {d : Nd} (hd : L[k]? = some d) (ht : d.task = t) (hno : ∀ j e, j < k → L[j]? = some e → e.task ≠ t) : atI L t = k := by
  have : L.findIdx? (isT t) = some k := by
    rw [List.findIdx?_eq_some_iff_getElem]
    obtain ⟨hk, he⟩ := List.getElem?_eq_some_iff.1 hd
    refine ⟨hk, by simp [he, isT, ht], fun j hj => ?_⟩
    have := hno j _ hj (List.getElem?_eq_getElem (by omega))
    simpa [isT] using this
  unfold atI; rw [this]

theorem atI_miss {L : List Nd} {t : Int} (hno : ∀ j e, j < L.length → L[j]? = some e → e.task ≠ t) : atI L t = -1 := by
  have : L.findIdx? (isT t) = none := by
    rw [List.findIdx?_eq_none_iff]
    intro e he
    obtain ⟨j, hj, hje⟩ := List.getElem_of_mem he
    have := hno j e hj (by rw [List.getElem?_eq_getElem hj, hje])
    simpa [isT] using this
  unfold atI; rw [this]

/-- Some need of the task stands before place k. -/
def hasT (L : List Nd) (t : Int) : Bool := L.any (isT t)

theorem hasT_iff {L : List Nd} {t : Int} : hasT L t = true ↔ ∃ d ∈ L, d.task = t := by
  unfold hasT; simp [List.any_eq_true, isT]

theorem hasT_take {L : List Nd} {t : Int} {k : Nat} : hasT (L.take k) t = true ↔ ∃ j d, j < k ∧ L[j]? = some d ∧ d.task = t := by
  rw [hasT_iff]
  constructor
  · rintro ⟨d, hd, ht⟩
    obtain ⟨j, hj, he⟩ := List.getElem_of_mem hd
    rw [List.length_take] at hj
    refine ⟨j, d, by omega, ?_, ht⟩
    rw [List.getElem?_eq_getElem (by omega)]
    rw [List.getElem_take] at he
    rw [he]
  · rintro ⟨j, d, hj, hd, ht⟩
    refine ⟨d, ?_, ht⟩
    rw [List.mem_iff_getElem?]
    exact ⟨j, by rw [List.getElem?_take, if_pos hj]; exact hd⟩

/-- The least index of a task, for a place that holds it. -/
theorem atI_at {L : List Nd} {k : Nat} {d : Nd} (hd : L[k]? = some d) : decide (atI L d.task = (k : Int)) = !hasT (L.take k) d.task := by
  cases h : hasT (L.take k) d.task
  · have hno : ∀ j e, j < k → L[j]? = some e → e.task ≠ d.task := by
      intro j e hj he ht
      have := hasT_take.2 ⟨j, e, hj, he, ht⟩
      rw [h] at this; cases this
    rw [atI_hit hd rfl hno]; simp
  · obtain ⟨j, e, hj, he, ht⟩ := hasT_take.1 h
    have : ∃ j e, j < k ∧ L[j]? = some e ∧ e.task = d.task ∧ ∀ i f, i < j → L[i]? = some f → f.task ≠ d.task := by
      induction j using Nat.strongRecOn generalizing e with
      | _ j ih =>
        by_cases hh : ∃ i f, i < j ∧ L[i]? = some f ∧ f.task = d.task
        · obtain ⟨i, f, hi, hf, hft⟩ := hh; exact ih i hi f (by omega) hf hft
        · exact ⟨j, e, hj, he, ht, fun i f hi hf hft => hh ⟨i, f, hi, hf, hft⟩⟩
    obtain ⟨j, e, hj, he, ht, hno⟩ := this
    rw [atI_hit he ht hno]; simp; omega

/-- The need at place k is right. -/
def okAt (n : Int) (L : List Nd) (k : Nat) : Bool := match L[k]? with
  | none => true
  | some d => !hasT (L.take k) d.task && decide (0 ≤ d.task) && decide (d.task < n) && decide (0 < d.on.length) && srt n d.on
theorem okAt_eq {n : Int} {L : List Nd} {k : Nat} {d : Nd} (hd : L[k]? = some d) : okAt n L k = (!hasT (L.take k) d.task && decide (0 ≤ d.task) && decide (d.task < n) && decide (0 < d.on.length) && srt n d.on) := by
  unfold okAt; rw [hd]
def vld (n : Int) (L : List Nd) : Bool := decide (0 ≤ n) && decide (n ≤ 64) && decide ((L.length : Int) ≤ n) && (List.range L.length).all (okAt n L)
theorem vld_head {n : Int} {L : List Nd} (h : n < 0 ∨ 64 < n ∨ n < L.length) : vld n L = false := by
  unfold vld
  rcases h with h | h | h
  · rw [show decide (0 ≤ n) = false by simp; omega]; simp
  · rw [show decide (n ≤ 64) = false by simp; omega]; simp
  · rw [show decide ((L.length : Int) ≤ n) = false by simp; omega]; simp
theorem vld_miss {n : Int} {L : List Nd} {k : Nat} (hk : k < L.length) (h : okAt n L k = false) : vld n L = false := by
  unfold vld
  rw [show (List.range L.length).all (okAt n L) = false by rw [List.all_eq_false]; exact ⟨k, by simpa using hk, by simp [h]⟩]; simp
theorem vld_hit {n : Int} {L : List Nd} (h0 : 0 ≤ n) (h1 : n ≤ 64) (h2 : (L.length : Int) ≤ n) (h : ∀ k, k < L.length → okAt n L k = true) : vld n L = true := by
  unfold vld
  rw [show (List.range L.length).all (okAt n L) = true by rw [List.all_eq_true]; intro k hk; exact h k (by simpa using hk)]; simp [h0, h1, h2]

structure Vld (n : Int) (L : List Nd) : Prop where
  n0 : 0 ≤ n
  n1 : n ≤ 64
  len : (L.length : Int) ≤ n
  task : ∀ d ∈ L, 0 ≤ d.task ∧ d.task < n
  on : ∀ d ∈ L, 0 < d.on.length ∧ srt n d.on = true
  one : ∀ (k j : Nat) (d e : Nd), L[k]? = some d → L[j]? = some e → d.task = e.task → k = j

theorem vld_iff {n : Int} {L : List Nd} : vld n L = true ↔ Vld n L := by
  unfold vld
  simp only [Bool.and_eq_true, decide_eq_true_eq, List.all_eq_true, List.mem_range]
  constructor
  · rintro ⟨⟨⟨h0, h1⟩, h2⟩, h3⟩
    have key : ∀ k d, L[k]? = some d → !hasT (L.take k) d.task = true ∧ 0 ≤ d.task ∧ d.task < n ∧ 0 < d.on.length ∧ srt n d.on = true := by
      intro k d hd
      have := h3 k (List.getElem?_eq_some_iff.1 hd).1
      rw [okAt_eq hd] at this
      simp only [Bool.and_eq_true, decide_eq_true_eq] at this
      exact ⟨by simpa using this.1.1.1.1, this.1.1.1.2, this.1.1.2, this.1.2, this.2⟩
    have mem : ∀ d ∈ L, ∃ k, L[k]? = some d := fun d hd => List.mem_iff_getElem?.1 hd
    refine ⟨h0, h1, h2, ?_, ?_, ?_⟩
    · intro d hd; obtain ⟨k, hk⟩ := mem d hd; exact ⟨(key k d hk).2.1, (key k d hk).2.2.1⟩
    · intro d hd; obtain ⟨k, hk⟩ := mem d hd; exact ⟨(key k d hk).2.2.2.1, (key k d hk).2.2.2.2⟩
    · intro k j d e hd he ht
      have hnot : ∀ (a b : Nat) (x y : Nd), L[a]? = some x → L[b]? = some y → x.task = y.task → ¬ a < b := by
        intro a b x y hx hy hxy hab
        have h4 := (key b y hy).1
        have h5 : hasT (L.take b) y.task = true := hasT_take.2 ⟨a, x, hab, hx, hxy⟩
        rw [h5] at h4; cases h4
      have h6 := hnot k j d e hd he ht
      have h7 := hnot j k e d he hd ht.symm
      omega
  · intro h
    refine ⟨⟨⟨h.n0, h.n1⟩, h.len⟩, fun k hk => ?_⟩
    have hd := List.getElem?_eq_getElem hk
    have hm : L[k] ∈ L := List.getElem_mem hk
    rw [okAt_eq hd]
    simp only [Bool.and_eq_true, decide_eq_true_eq]
    refine ⟨⟨⟨⟨?_, (h.task _ hm).1⟩, (h.task _ hm).2⟩, (h.on _ hm).1⟩, (h.on _ hm).2⟩
    cases hh : hasT (L.take k) L[k].task
    · rfl
    · obtain ⟨j, e, hj, he, ht⟩ := hasT_take.1 hh
      have := h.one j k e _ he hd ht
      omega

/-- At most 70 needs with at most 70 numbers each. -/
def smallB (L : List Nd) : Bool := decide (L.length ≤ 70) && L.all (fun d => decide (d.on.length ≤ 70))
theorem smallB_long {L : List Nd} (h : 70 < L.length) : smallB L = false := by
  unfold smallB; rw [show decide (L.length ≤ 70) = false by simp; omega]; rfl
theorem smallB_miss {L : List Nd} {k : Nat} {d : Nd} (hd : L[k]? = some d) (h : 70 < d.on.length) : smallB L = false := by
  unfold smallB
  rw [show L.all (fun d => decide (d.on.length ≤ 70)) = false by rw [List.all_eq_false]; exact ⟨d, List.mem_of_getElem? hd, by simp; omega⟩]; simp
theorem smallB_hit {L : List Nd} (hl : L.length ≤ 70) (h : ∀ j d, j < L.length → L[j]? = some d → d.on.length ≤ 70) : smallB L = true := by
  unfold smallB
  rw [show L.all (fun d => decide (d.on.length ≤ 70)) = true by
    rw [List.all_eq_true]; intro d hd; obtain ⟨j, hj⟩ := List.mem_iff_getElem?.1 hd; simpa using h j d (List.getElem?_eq_some_iff.1 hj).1 hj]
  simp [hl]
structure Small (L : List Nd) : Prop where
  len : L.length ≤ 70
  on : ∀ d ∈ L, d.on.length ≤ 70
theorem smallB_iff {L : List Nd} : smallB L = true ↔ Small L := by
  unfold smallB; simp only [Bool.and_eq_true, decide_eq_true_eq, List.all_eq_true]
  exact ⟨fun h => ⟨h.1, h.2⟩, fun h => ⟨h.len, h.on⟩⟩

end Go.Proofs.Ytkcpblmcpgnofaa
