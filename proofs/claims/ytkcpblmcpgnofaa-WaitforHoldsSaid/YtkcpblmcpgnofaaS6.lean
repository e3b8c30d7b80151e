/- Plain: cycles. -/
import Derived.Test.YtkcpblmcpgnofaaS5
import Derived.Test.YtkcpblmcpgnofaaY2
namespace Go.Proofs.Ytkcpblmcpgnofaa

def itf (f : Int → Int) : Nat → Int → Int
  | 0, x => x
  | k + 1, x => f (itf f k x)
theorem itf_add (f : Int → Int) (a b : Nat) (x : Int) : itf f (a + b) x = itf f b (itf f a x) := by
  induction b with
  | zero => rfl
  | succ b ih => show f (itf f (a + b) x) = _; rw [ih]; rfl
theorem itf_mem {f : Int → Int} {low : List Int} (hf : ∀ x ∈ low, f x ∈ low) {x : Int} (hx : x ∈ low) : ∀ k, itf f k x ∈ low := by
  intro k
  induction k with
  | zero => exact hx
  | succ k ih => exact hf _ ih

/-- One goes round in c. -/
structure IsCyc (f : Int → Int) (c : List Int) : Prop where
  pos : 0 < c.length
  nodup : c.Nodup
  next : ∀ (k : Nat) (x : Int), c[k]? = some x → c[(k + 1) % c.length]? = some (f x)

def rotAt (k : Nat) (c : List Int) : List Int := c.drop k ++ c.take k
theorem rotAt_len {k : Nat} {c : List Int} (h : k ≤ c.length) : (rotAt k c).length = c.length := by
  unfold rotAt; rw [List.length_append, List.length_drop, List.length_take]; omega
theorem rotAt_mem {k : Nat} {c : List Int} {x : Int} : x ∈ rotAt k c ↔ x ∈ c := by
  unfold rotAt
  rw [List.mem_append]
  conv => rhs; rw [← List.take_append_drop k c, List.mem_append]
  exact Or.comm
theorem rotAt_perm (k : Nat) (c : List Int) : (rotAt k c).Perm c := by
  unfold rotAt
  refine List.perm_append_comm.trans ?_
  rw [List.take_append_drop]
theorem rotAt_at {k : Nat} {c : List Int} (h : k < c.length) (i : Nat) (hi : i < c.length) : (rotAt k c)[i]? = c[(k + i) % c.length]? := by
  unfold rotAt
  by_cases h1 : i < c.length - k
  · rw [List.getElem?_append_left (by rw [List.length_drop]; exact h1), List.getElem?_drop, Nat.mod_eq_of_lt (by omega)]
  · rw [List.getElem?_append_right (by rw [List.length_drop]; omega), List.length_drop, List.getElem?_take, if_pos (by omega)]
    have : (k + i) % c.length = i - (c.length - k) := by
      rw [show k + i = (i - (c.length - k)) + c.length by omega, Nat.add_mod_right, Nat.mod_eq_of_lt (by omega)]
    rw [this]
theorem IsCyc.rot {f : Int → Int} {c : List Int} (h : IsCyc f c) {k : Nat} (hk : k < c.length) : IsCyc f (rotAt k c) where
  pos := by rw [rotAt_len (by omega)]; exact h.pos
  nodup := (rotAt_perm k c).nodup_iff.2 h.nodup
  next := by
    intro i x hx
    have hi : i < c.length := by have := (List.getElem?_eq_some_iff.1 hx).1; rw [rotAt_len (by omega)] at this; exact this
    rw [rotAt_at hk i hi] at hx
    rw [rotAt_len (by omega), rotAt_at hk _ (Nat.mod_lt _ h.pos)]
    have := h.next _ _ hx
    rw [← this]
    congr 1
    rw [Nat.mod_add_mod, Nat.add_mod_mod, Nat.add_assoc]
theorem IsCyc.itf {f : Int → Int} {c : List Int} (h : IsCyc f c) {x : Int} {k : Nat} (hx : c[k]? = some x) : ∀ i, c[(k + i) % c.length]? = some (itf f i x) := by
  intro i
  induction i with
  | zero =>
    have := (List.getElem?_eq_some_iff.1 hx).1
    rw [Nat.add_zero, Nat.mod_eq_of_lt this]; exact hx
  | succ i ih =>
    have := h.next _ _ ih
    rw [Nat.mod_add_mod] at this
    exact this

/-! ### the path of waitfor.Cycle -/
structure PathOk (f : Int → Int) (x0 : Int) (p : List Int) (t : Int) : Prop where
  at_ : ∀ i, i < p.length → p[i]? = some (itf f i x0)
  task : t = itf f p.length x0
  nodup : p.Nodup
theorem PathOk.snoc {f : Int → Int} {x0 : Int} {p : List Int} {t : Int} (h : PathOk f x0 p t) (ht : hasB p t = false) : PathOk f x0 (p ++ [t]) (f t) where
  at_ := by
    intro i hi
    rw [List.length_append, List.length_singleton] at hi
    by_cases h1 : i < p.length
    · rw [List.getElem?_append_left h1]; exact h.at_ i h1
    · rw [List.getElem?_append_right (by omega), show i - p.length = 0 by omega, show i = p.length by omega, ← h.task]; rfl
  task := by rw [List.length_append, List.length_singleton, h.task]; rfl
  nodup := by
    rw [List.nodup_append]
    refine ⟨h.nodup, by simp, fun a ha b hb => ?_⟩
    simp at hb
    subst hb
    rintro rfl
    rw [Bool.eq_false_iff] at ht
    exact ht (hasB_iff.2 ha)
theorem pathL_ok {f : Int → Int} {low : List Int} {x0 : Int} (hf : ∀ x ∈ low, f x ∈ low) (hx0 : x0 ∈ low) : ∀ (m : Nat) (p : List Int) (t : Int), PathOk f x0 p t → m + p.length = low.length + 1 →
    PathOk f x0 (pathL f m p t).1 (pathL f m p t).2 ∧ hasB (pathL f m p t).1 (pathL f m p t).2 = true := by
  have hsub : ∀ (p : List Int) (t : Int), PathOk f x0 p t → ∀ x ∈ p, x ∈ low := by
    intro p t h x hx
    obtain ⟨i, hi⟩ := List.mem_iff_getElem?.1 hx
    have hil := (List.getElem?_eq_some_iff.1 hi).1
    rw [h.at_ i hil] at hi
    injection hi with hi
    rw [← hi]; exact itf_mem hf hx0 i
  intro m
  induction m with
  | zero =>
    intro p t h hm
    have := h.nodup.length_le_of_subset (hsub p t h)
    omega
  | succ m ih =>
    intro p t h hm
    unfold pathL
    cases ht : hasB p t
    · rw [if_neg (by decide)]
      exact ih _ _ (h.snoc ht) (by rw [List.length_append, List.length_singleton]; omega)
    · rw [if_pos rfl]
      exact ⟨h, ht⟩

theorem PathOk.cyc {f : Int → Int} {x0 : Int} {p : List Int} {t : Int} (h : PathOk f x0 p t) (ht : hasB p t = true) : ∃ j : Nat, j < p.length ∧ tailOf p t = p.drop j ∧ IsCyc f (p.drop j) ∧ t = itf f j x0 := by
  obtain ⟨j, hj, hjl, hjt⟩ := idxI_ok ht
  have htj : t = itf f j x0 := by
    rw [h.at_ j hjl] at hjt; injection hjt with hjt; exact hjt.symm
  refine ⟨j, hjl, by unfold tailOf; rw [hj]; rfl, ⟨by rw [List.length_drop]; omega, h.nodup.sublist (List.drop_sublist _ _), ?_⟩, htj⟩
  intro k x hx
  have hk := (List.getElem?_eq_some_iff.1 hx).1
  rw [List.length_drop] at hk ⊢
  rw [List.getElem?_drop, h.at_ _ (by omega)] at hx
  injection hx with hx
  rw [List.getElem?_drop]
  by_cases h1 : k + 1 < p.length - j
  · rw [Nat.mod_eq_of_lt h1, h.at_ _ (by omega), ← hx]; rfl
  · have h2 : k + 1 = p.length - j := by omega
    rw [h2, Nat.mod_self, Nat.add_zero, hjt, ← hx]
    congr 1
    have : itf f (j + k + 1) x0 = t := by rw [show j + k + 1 = p.length by omega]; exact h.task.symm
    rw [← this]; rfl

theorem minI_le {xs : List Int} {y : Int} (h : y ∈ xs) : minI xs ≤ y := by
  rcases xs with _ | ⟨x, r⟩
  · cases h
  · have key : ∀ (r : List Int) (x : Int), r.foldl min x ≤ x ∧ ∀ y ∈ r, r.foldl min x ≤ y := by
      intro r
      induction r with
      | nil => intro x; exact ⟨Int.le_refl _, by simp⟩
      | cons z r ih =>
        intro x
        rw [List.foldl_cons]
        have := ih (min x z)
        have h1 : min x z ≤ x := Int.min_le_left _ _
        have h2 : min x z ≤ z := Int.min_le_right _ _
        refine ⟨by omega, fun y hy => ?_⟩
        rcases List.mem_cons.1 hy with rfl | hy
        · omega
        · exact this.2 y hy
    show r.foldl min x ≤ y
    rcases List.mem_cons.1 h with rfl | h
    · exact (key r _).1
    · exact (key r x).2 y h
theorem minI_perm {xs ys : List Int} (h : xs ≠ []) (hm : ∀ x, x ∈ xs ↔ x ∈ ys) : minI xs = minI ys := by
  have hy : ys ≠ [] := by
    intro e
    obtain ⟨x, hx⟩ := List.exists_mem_of_ne_nil xs h
    have := (hm x).1 hx
    rw [e] at this; cases this
  have h1 := minI_le ((hm _).2 (minI_mem hy))
  have h2 := minI_le ((hm _).1 (minI_mem h))
  omega

/-- What both Cycles find. -/
structure CycOf (f : Int → Int) (x0 : Int) (low : List Int) (m : Nat) (out : List Int) : Prop where
  cyc : IsCyc f out
  head : out[0]? = some (minI out)
  sub : ∀ x ∈ out, x ∈ low
  orbit : ∃ q, IsCyc f q ∧ q[0]? = some (itf f m x0) ∧ minI q = minI out ∧ q.length = out.length ∧ ∀ x ∈ q, x ∈ low

theorem cycL_of {low : List Int} {L : List Nd} {x0 : Int} (hf : ∀ x ∈ low, nxM low L x ∈ low) (hx0 : x0 ∈ low) (hhead : low.headD 0 = x0) {m : Nat} (hm : low.length ≤ m) : CycOf (nxM low L) x0 low m (cycL low L) := by
  have hp := pathL_ok hf hx0 (low.length + 1) [] x0 ⟨by intro i hi; simp at hi, rfl, List.nodup_nil⟩ (by simp)
  unfold cycL
  rw [hhead]
  generalize (pathL (nxM low L) (low.length + 1) [] x0).1 = p at hp
  generalize (pathL (nxM low L) (low.length + 1) [] x0).2 = t at hp
  obtain ⟨hok, hin⟩ := hp
  obtain ⟨j, hjl, htail, hcyc, htj⟩ := hok.cyc hin
  rw [htail]
  have hsub : ∀ x ∈ p, x ∈ low := by
    intro x hx
    obtain ⟨i, hi⟩ := List.mem_iff_getElem?.1 hx
    have hil := (List.getElem?_eq_some_iff.1 hi).1
    rw [hok.at_ i hil] at hi
    injection hi with hi
    rw [← hi]; exact itf_mem hf hx0 i
  have hple := hok.nodup.length_le_of_subset hsub
  have hc0 : (p.drop j)[0]? = some (itf (nxM low L) j x0) := by rw [List.getElem?_drop]; exact hok.at_ _ (by omega)
  have hcsub : ∀ x ∈ p.drop j, x ∈ low := fun x hx => hsub x (List.mem_of_mem_drop hx)
  generalize p.drop j = c at hcyc hc0 hcsub
  have hcne : c ≠ [] := by intro e; have := hcyc.pos; rw [e] at this; simp at this
  obtain ⟨k, hk, hkl, hkat⟩ := idxI_ok (hasB_iff.2 (minI_mem hcne))
  have hrot : rot c = rotAt k c := by unfold rot rotAt; rw [hk]; rfl
  rw [hrot]
  have hmin : minI (rotAt k c) = minI c := minI_perm (by intro e; have := rotAt_len (k := k) (c := c) (by omega); rw [e] at this; simp at this; omega) (fun x => rotAt_mem)
  refine ⟨hcyc.rot hkl, ?_, fun x hx => hcsub x (rotAt_mem.1 hx), ?_⟩
  · rw [rotAt_at hkl 0 hcyc.pos, Nat.add_zero, Nat.mod_eq_of_lt hkl, hmin]; exact hkat
  · have hpos := hcyc.pos
    refine ⟨rotAt ((m - j) % c.length) c, hcyc.rot (Nat.mod_lt _ hpos), ?_, ?_, ?_, fun x hx => hcsub x (rotAt_mem.1 hx)⟩
    · rw [rotAt_at (Nat.mod_lt _ hpos) 0 hpos, Nat.add_zero, Nat.mod_mod]
      have := hcyc.itf hc0 (m - j)
      rw [Nat.zero_add] at this
      rw [this, ← itf_add]
      congr 2; omega
    · rw [hmin]
      exact minI_perm (by intro e; have := rotAt_len (k := (m - j) % c.length) (c := c) (Nat.le_of_lt (Nat.mod_lt _ hpos)); rw [e] at this; simp at this; omega) (fun x => rotAt_mem)
    · rw [rotAt_len (Nat.le_of_lt (Nat.mod_lt _ hpos)), rotAt_len (by omega)]
end Go.Proofs.Ytkcpblmcpgnofaa
