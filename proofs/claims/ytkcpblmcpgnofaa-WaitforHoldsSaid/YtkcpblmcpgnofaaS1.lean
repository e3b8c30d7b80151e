/- Plain: the rounds of waitfor.solve; sets of tasks as maps read. -/
import Derived.Test.YtkcpblmcpgnofaaPlain
import Derived.Maps.OwnSet
namespace Go.Proofs.Ytkcpblmcpgnofaa
open Go.Maps

/-! ### sets of numbers, as maps read -/
structure SetIs (D : DataW Unit) (S : List Int) : Prop where
  tidy : Tidy D
  keys : ∀ es, D = .map es → ∀ p ∈ es, ∃ x, p.1 = .int .i64 x
  has : ∀ x, Maps.has D (.int .i64 x) = hasB S x
  nodup : S.Nodup
  size : Maps.size D = S.length

theorem SetIs.nil : SetIs (.map []) [] where
  tidy := tidy_empty
  keys := by intro es he p hp; injection he with he; subst he; cases hp
  has := by intro x; simp [Maps.has, hasB]
  nodup := List.nodup_nil
  size := rfl

theorem mem_put {D : DataW Unit} {k : Lit} {d : DataW Unit} {es : List (Lit × DataW Unit)} (hD : IsMap D) (h : D.put k d = .map es) : ∀ p ∈ es, p.1 = k ∨ ∃ es0, D = .map es0 ∧ p ∈ es0 := by
  obtain ⟨es0, rfl⟩ := hD
  intro p hp
  simp only [DataW.put] at h
  injection h with h
  subst h
  have hmem : ∀ (x : Lit × DataW Unit) (l : List (Lit × DataW Unit)), ∀ q ∈ DataW.insert x l, q = x ∨ q ∈ l := by
    intro x l
    induction l with
    | nil => intro q hq; simp [DataW.insert] at hq; exact .inl hq
    | cons y r ih =>
      intro q hq
      unfold DataW.insert at hq
      split at hq
      · rcases List.mem_cons.1 hq with rfl | hq
        · exact .inl rfl
        · exact .inr hq
      · rcases List.mem_cons.1 hq with rfl | hq
        · exact .inr (List.mem_cons_self ..)
        · rcases ih q hq with h | h
          · exact .inl h
          · exact .inr (List.mem_cons_of_mem _ h)
  rcases hmem _ _ p hp with rfl | hp
  · exact .inl rfl
  · exact .inr ⟨es0, rfl, (List.mem_filter.1 hp).1⟩

theorem SetIs.put {D : DataW Unit} {S : List Int} (h : SetIs D S) {x : Int} (hx : hasB S x = false) : SetIs (D.put (.int .i64 x) (.agg [])) (S ++ [x]) where
  tidy := h.tidy.put (show WideAt.IsKeyLit (.int .i64 x) from trivial) _
  keys := by
    intro es he p hp
    rcases mem_put h.tidy.isMap he p hp with h1 | ⟨es0, h1, h2⟩
    · exact ⟨x, h1⟩
    · exact h.keys es0 h1 p h2
  has := by
    intro y
    by_cases hy : y = x
    · subst hy
      rw [has_put_same h.tidy.isMap (show WideAt.IsKeyLit (.int .i64 y) from trivial)]
      exact (hasB_iff.2 (by simp)).symm
    · rw [has_put_other (by intro e; injection e with _ e; exact hy e), h.has, Bool.eq_iff_iff, hasB_iff, hasB_iff]
      simp [hy]
  nodup := by
    rw [List.nodup_append]
    refine ⟨h.nodup, by simp, ?_⟩
    intro a ha b hb
    simp at hb
    subst hb
    rintro rfl
    rw [Bool.eq_false_iff] at hx
    exact hx (hasB_iff.2 ha)
  size := by
    rw [size_put h.tidy, h.has, hx]
    simp [h.size]

theorem mem_del {D : DataW Unit} {k : Lit} {es : List (Lit × DataW Unit)} (hD : IsMap D) (h : D.del k = .map es) : ∃ es0, D = .map es0 ∧ ∀ p ∈ es, p ∈ es0 := by
  obtain ⟨es0, rfl⟩ := hD
  simp only [DataW.del] at h
  injection h with h
  subst h
  exact ⟨es0, rfl, fun p hp => (List.mem_filter.1 hp).1⟩

theorem length_filter_ne {S : List Int} (hn : S.Nodup) (x : Int) : (S.filter (fun y => decide (y ≠ x))).length + (if hasB S x then 1 else 0) = S.length := by
  induction S with
  | nil => simp [hasB]
  | cons a r ih =>
    rw [List.nodup_cons] at hn
    have ih := ih hn.2
    by_cases ha : a = x
    · subst ha
      have h1 : hasB r a = false := by rw [Bool.eq_false_iff]; intro h; exact hn.1 (hasB_iff.1 h)
      have h2 : hasB (a :: r) a = true := hasB_iff.2 (by simp)
      rw [h1] at ih
      rw [h2]
      simp only [List.filter_cons]
      simp at ih ⊢
      exact ih
    · have h2 : hasB (a :: r) x = hasB r x := by
        rw [Bool.eq_iff_iff, hasB_iff, hasB_iff]; simp [Ne.symm ha]
      rw [h2, List.filter_cons, if_pos (by simpa using ha), List.length_cons, List.length_cons]
      omega

theorem SetIs.del {D : DataW Unit} {S : List Int} (h : SetIs D S) (x : Int) : SetIs (D.del (.int .i64 x)) (S.filter (fun y => decide (y ≠ x))) where
  tidy := h.tidy.del _
  keys := by
    intro es he p hp
    obtain ⟨es0, h1, h2⟩ := mem_del h.tidy.isMap he
    exact h.keys es0 h1 p (h2 p hp)
  has := by
    intro y
    by_cases hy : y = x
    · subst hy
      rw [has_del_same]
      symm
      rw [Bool.eq_false_iff, ne_eq, hasB_iff]
      simp
    · rw [has_del_other (by intro e; injection e with _ e; exact hy e), h.has, Bool.eq_iff_iff, hasB_iff, hasB_iff]
      simp [hy]
  nodup := h.nodup.filter _
  size := by
    have h1 := size_del (k := .int .i64 x) h.tidy
    rw [h.has, h.size] at h1
    have h2 := length_filter_ne h.nodup x
    omega

/-! ### the rounds -/
/-- Is the need met while just the tasks of S are not free? -/
def metS (S : List Int) (d : Nd) : Bool := if d.all then !(d.on.any (hasB S)) else d.on.any (fun y => !hasB S y)
def nextP (S : List Int) (d : Nd) : Bool := hasB S d.task && metS S d
def nextOf (L : List Nd) (S : List Int) : List Int := (L.filter (nextP S)).map Nd.task
def setAt (v : Int) (R : List Int) (t : Int) : List Int := R.set t.toNat v
def setAll (R ts : List Int) (v : Int) : List Int := ts.foldl (setAt v) R
def rem1 (S : List Int) (t : Int) : List Int := S.filter (fun y => decide (y ≠ t))
def rem (S ts : List Int) : List Int := ts.foldl rem1 S
def tasks (L : List Nd) : List Int := L.map Nd.task
def R0 (n : Nat) (L : List Nd) : List Int := setAll (List.replicate n 0) (tasks L) (-1)
def solveLoop (L : List Nd) : Nat → Int → List Int → List Int → List Int × List Int
  | 0, _, S, R => (R, S)
  | f + 1, round, S, R => if (nextOf L S).length = 0 then (R, S) else solveLoop L f (round + 1) (rem S (nextOf L S)) (setAll R (nextOf L S) round)
def solveL (n : Nat) (L : List Nd) : List Int × List Int := solveLoop L (L.length + 1) 1 (tasks L) (R0 n L)

theorem tasks_take_snoc {L : List Nd} {k : Nat} {d : Nd} (hd : L[k]? = some d) : tasks (L.take (k + 1)) = tasks (L.take k) ++ [d.task] := by
  unfold tasks
  obtain ⟨hk, he⟩ := List.getElem?_eq_some_iff.1 hd
  rw [List.take_succ_eq_append_getElem hk, List.map_append, he]; rfl
theorem hasB_tasks (L : List Nd) (t : Int) : hasB (tasks L) t = hasT L t := by
  rw [Bool.eq_iff_iff, hasB_iff, hasT_iff]; unfold tasks; simp

theorem length_setAt (R : List Int) (t v : Int) : (setAt v R t).length = R.length := by unfold setAt; simp
theorem length_setAll (R ts : List Int) (v : Int) : (setAll R ts v).length = R.length := by
  unfold setAll
  induction ts generalizing R with
  | nil => rfl
  | cons t r ih => rw [List.foldl_cons, ih, length_setAt]
theorem length_R0 (n : Nat) (L : List Nd) : (R0 n L).length = n := by unfold R0; rw [length_setAll]; simp
theorem setAll_snoc (R ts : List Int) (t v : Int) : setAll R (ts ++ [t]) v = setAt v (setAll R ts v) t := by unfold setAll; rw [List.foldl_append]; rfl
theorem rem_snoc (S ts : List Int) (t : Int) : rem S (ts ++ [t]) = rem1 (rem S ts) t := by unfold rem; rw [List.foldl_append]; rfl
theorem R0_step {n : Nat} {L : List Nd} {k : Nat} {d : Nd} (hd : L[k]? = some d) : R0 n (L.take (k + 1)) = setAt (-1) (R0 n (L.take k)) d.task := by
  unfold R0; rw [tasks_take_snoc hd, setAll_snoc]
theorem nextOf_step {L : List Nd} {S : List Int} {k : Nat} {d : Nd} (hd : L[k]? = some d) : nextOf (L.take (k + 1)) S = nextOf (L.take k) S ++ (if nextP S d then [d.task] else []) := by
  unfold nextOf
  obtain ⟨hk, he⟩ := List.getElem?_eq_some_iff.1 hd
  rw [List.take_succ_eq_append_getElem hk, List.filter_append, List.map_append, he]
  cases h : nextP S d <;> simp [h]
theorem mem_rem {S ts : List Int} {y : Int} : y ∈ rem S ts ↔ y ∈ S ∧ y ∉ ts := by
  unfold rem
  induction ts generalizing S with
  | nil => simp
  | cons t r ih => rw [List.foldl_cons, ih]; simp [rem1, and_assoc]
theorem length_rem_le (S ts : List Int) : (rem S ts).length ≤ S.length := by
  unfold rem
  induction ts generalizing S with
  | nil => exact Nat.le_refl _
  | cons t r ih => rw [List.foldl_cons]; exact Nat.le_trans (ih _) (List.length_filter_le _ _)
theorem length_rem_lt {S : List Int} {L : List Nd} (h : (nextOf L S).length ≠ 0) : (rem S (nextOf L S)).length < S.length := by
  obtain ⟨t, r, hr⟩ : ∃ t r, nextOf L S = t :: r := by
    cases hh : nextOf L S with
    | nil => rw [hh] at h; simp at h
    | cons t r => exact ⟨t, r, rfl⟩
  have ht : t ∈ S := by
    have : t ∈ nextOf L S := by rw [hr]; simp
    unfold nextOf at this
    rw [List.mem_map] at this
    obtain ⟨d, hd, rfl⟩ := this
    have := (List.mem_filter.1 hd).2
    unfold nextP at this
    rw [Bool.and_eq_true] at this
    exact hasB_iff.1 this.1
  rw [hr]
  unfold rem
  rw [List.foldl_cons]
  refine Nat.lt_of_le_of_lt (length_rem_le (rem1 S t) r) ?_
  unfold rem1
  rcases Nat.lt_or_ge (S.filter (fun y => decide (y ≠ t))).length S.length with h1 | h1
  · exact h1
  · have := List.length_filter_eq_length_iff.1 (Nat.le_antisymm (List.length_filter_le _ _) h1) t ht
    simp at this
theorem nextOf_sub {L : List Nd} {S : List Int} {t : Int} (h : t ∈ nextOf L S) : ∃ d ∈ L, d.task = t := by
  unfold nextOf at h
  rw [List.mem_map] at h
  obtain ⟨d, hd, rfl⟩ := h
  exact ⟨d, (List.mem_filter.1 hd).1, rfl⟩

theorem srt_mem {n : Int} {xs : List Int} (h : srt n xs = true) {y : Int} (hy : y ∈ xs) : 0 ≤ y ∧ y < n := by
  obtain ⟨k, hk⟩ := List.mem_iff_getElem?.1 hy
  have hkl := (List.getElem?_eq_some_iff.1 hk).1
  have h1 := srt_at h hkl
  rcases k with _ | k
  · rw [srtAt_eq0 hk] at h1; simp at h1; exact h1
  · rw [srtAt_eq hk (List.getElem?_eq_getElem (by omega))] at h1; simp at h1; exact h1.1
theorem srt_inc {n : Int} {xs : List Int} (h : srt n xs = true) : ∀ (i j : Nat) (x y : Int), i < j → xs[i]? = some x → xs[j]? = some y → x < y := by
  intro i j
  induction j with
  | zero => intro x y hij; omega
  | succ j ih =>
    intro x y hij hx hy
    have hjl := (List.getElem?_eq_some_iff.1 hy).1
    have h1 := srt_at h hjl
    have hz := List.getElem?_eq_getElem (l := xs) (i := j) (by omega)
    rw [srtAt_eq hy hz] at h1
    simp only [Bool.and_eq_true, decide_eq_true_eq] at h1
    rcases Nat.lt_or_ge i j with hlt | hge
    · have := ih x _ hlt hx hz; omega
    · obtain rfl : i = j := by omega
      rw [hz] at hx; injection hx with hx; omega

theorem srt_ge {n : Int} {xs : List Int} (h : srt n xs = true) (k : Nat) : ∀ x, xs[k]? = some x → (k : Int) ≤ x := by
  induction k with
  | zero => intro x hx; exact (srt_mem h (List.mem_of_getElem? hx)).1
  | succ k ih =>
    intro x hx
    have hl := (List.getElem?_eq_some_iff.1 hx).1
    have hy := List.getElem?_eq_getElem (l := xs) (i := k) (by omega)
    have := ih _ hy
    have := srt_inc h k (k + 1) _ x (by omega) hy hx
    omega
theorem srt_len {n : Int} {xs : List Int} (h : srt n xs = true) (hn : 0 ≤ n) : (xs.length : Int) ≤ n := by
  rcases Nat.eq_zero_or_pos xs.length with h0 | h0
  · omega
  · have hx := List.getElem?_eq_getElem (l := xs) (i := xs.length - 1) (by omega)
    have h1 := srt_ge h _ _ hx
    have h2 := srt_mem h (List.mem_of_getElem? hx)
    omega

end Go.Proofs.Ytkcpblmcpgnofaa
