/- Plain: what stays stuck waits for one that is stuck; the walk of Cycle. -/
import Derived.Test.YtkcpblmcpgnofaaS1
import Derived.Test.YtkcpblmcpgnofaaP2
import Derived.Test.YtkcpblmcpgnofaaM2
import Derived.Test.YtkcpblmcpgnofaaL3
import Derived.Test.YtkcpblmcpgnofaaK1
namespace Go.Proofs.Ytkcpblmcpgnofaa

theorem rem1_nodup {S : List Int} (h : S.Nodup) (t : Int) : (rem1 S t).Nodup := h.filter _
theorem rem_nodup {S : List Int} (h : S.Nodup) (ts : List Int) : (rem S ts).Nodup := by
  unfold rem
  induction ts generalizing S with
  | nil => exact h
  | cons t r ih => exact ih (rem1_nodup h t)

theorem solveLoop_done (L : List Nd) (f : Nat) : ∀ (r : Int) (S R : List Int), S.length < f → nextOf L (solveLoop L f r S R).2 = [] := by
  induction f with
  | zero => intro r S R h; omega
  | succ f ih =>
    intro r S R h
    unfold solveLoop
    split
    · rename_i h0; exact List.eq_nil_of_length_eq_zero h0
    · rename_i h0
      exact ih _ _ _ (by have := length_rem_lt h0; omega)
theorem solveLoop_nodup (L : List Nd) (f : Nat) : ∀ (r : Int) (S R : List Int), S.Nodup → (solveLoop L f r S R).2.Nodup := by
  induction f with
  | zero => intro r S R h; exact h
  | succ f ih =>
    intro r S R h
    unfold solveLoop
    split
    · exact h
    · exact ih _ _ _ (rem_nodup h _)
theorem solveLoop_sub (L : List Nd) (f : Nat) : ∀ (r : Int) (S R : List Int) (t : Int), t ∈ (solveLoop L f r S R).2 → t ∈ S := by
  induction f with
  | zero => intro r S R t h; exact h
  | succ f ih =>
    intro r S R t h
    unfold solveLoop at h
    split at h
    · exact h
    · exact (mem_rem.1 (ih _ _ _ t h)).1

/-- The stuck tasks. -/
def stuckS (n : Nat) (L : List Nd) : List Int := (solveL n L).2
theorem stuckS_nodup {n : Nat} {L : List Nd} (h : Vld n L) : (stuckS n L).Nodup := solveLoop_nodup _ _ _ _ _ (tasks_nodup h)
theorem stuckS_task {n : Nat} {L : List Nd} {t : Int} (h : t ∈ stuckS n L) : ∃ d ∈ L, d.task = t := by
  have := solveLoop_sub _ _ _ _ _ t h
  unfold tasks at this
  rw [List.mem_map] at this
  exact this
theorem stuckS_done (n : Nat) (L : List Nd) : nextOf L (stuckS n L) = [] := solveLoop_done _ _ _ _ _ (by unfold tasks; simp)
theorem stuckS_unmet {n : Nat} {L : List Nd} {d : Nd} (hd : d ∈ L) (ht : d.task ∈ stuckS n L) : metS (stuckS n L) d = false := by
  have h := stuckS_done n L
  unfold nextOf at h
  rw [List.map_eq_nil_iff, List.filter_eq_nil_iff] at h
  have := h d hd
  unfold nextP at this
  rw [hasB_iff.2 ht] at this
  simpa using this
theorem stuckS_waits {n : Nat} {L : List Nd} (h : Vld n L) {d : Nd} (hd : d ∈ L) (ht : d.task ∈ stuckS n L) : d.on.any (hasB (stuckS n L)) = true := by
  have hu := stuckS_unmet hd ht
  unfold metS at hu
  split at hu
  · simpa using hu
  · have hon := (h.on d hd).1
    rw [List.any_eq_false] at hu
    rw [List.any_eq_true]
    refine ⟨d.on[0], List.getElem_mem hon, ?_⟩
    have := hu _ (List.getElem_mem hon)
    simpa using this

/-! ### the walk of Cycle -/
def nxVal (low : List Int) (d : Nd) : Int := d.on.getD (findI (hasB low) d.on).toNat 0
def nxStep (low : List Int) (f : Int → Int) (d : Nd) : Int → Int := if hasB low d.task then (fun x => if x = d.task then nxVal low d else f x) else f
def nxTo (low : List Int) (L : List Nd) (k : Nat) : Int → Int := (L.take k).foldl (nxStep low) (fun _ => 0)
def nxM (low : List Int) (L : List Nd) : Int → Int := nxTo low L L.length
theorem nxTo_step {low : List Int} {L : List Nd} {k : Nat} {d : Nd} (hd : L[k]? = some d) : nxTo low L (k + 1) = nxStep low (nxTo low L k) d := by
  obtain ⟨hk, he⟩ := List.getElem?_eq_some_iff.1 hd
  unfold nxTo; rw [List.take_succ_eq_append_getElem hk, List.foldl_append, he]; rfl

theorem findI_ok {p : Int → Bool} {xs : List Int} (h : xs.any p = true) : ∃ (k : Nat) (y : Int), findI p xs = k ∧ xs[k]? = some y ∧ p y = true ∧ ∀ j z, j < k → xs[j]? = some z → p z = false := by
  unfold findI
  cases hf : xs.findIdx? p with
  | none =>
    rw [List.findIdx?_eq_none_iff] at hf
    rw [List.any_eq_true] at h
    obtain ⟨x, hx, hp⟩ := h
    rw [hf x hx] at hp; cases hp
  | some k =>
    rw [List.findIdx?_eq_some_iff_getElem] at hf
    obtain ⟨hk, hp, hno⟩ := hf
    refine ⟨k, xs[k], rfl, List.getElem?_eq_getElem hk, hp, fun j z hj hz => ?_⟩
    obtain ⟨hj2, he⟩ := List.getElem?_eq_some_iff.1 hz
    rw [← he]
    simpa using hno j hj

theorem nxTo_at {low : List Int} {n : Int} {L : List Nd} (h : Vld n L) {d : Nd} (hd : d ∈ L) (ht : hasB low d.task = true) : nxM low L d.task = nxVal low d := by
  obtain ⟨k, hk⟩ := List.mem_iff_getElem?.1 hd
  have hkl := (List.getElem?_eq_some_iff.1 hk).1
  have key : ∀ m, k < m → m ≤ L.length → nxTo low L m d.task = nxVal low d := by
    intro m
    induction m with
    | zero => intro h0; omega
    | succ m ih =>
      intro hkm hm
      have hdm := List.getElem?_eq_getElem (l := L) (i := m) (by omega)
      rw [nxTo_step hdm]
      unfold nxStep
      rcases Nat.lt_succ_iff_lt_or_eq.1 hkm with hlt | rfl
      · split
        · have hne : d.task ≠ L[m].task := fun e => by
            have := h.one k m d _ hk hdm e; omega
          show (if d.task = L[m].task then nxVal low L[m] else nxTo low L m d.task) = _
          rw [if_neg hne]; exact ih hlt (by omega)
        · exact ih hlt (by omega)
      · rw [hk] at hdm
        injection hdm with hdm
        rw [← hdm, if_pos ht]
        show (if d.task = d.task then nxVal low d else _) = _
        rw [if_pos rfl]
  exact key _ hkl (Nat.le_refl _)

/-- One goes on from stuck task to stuck task. -/
theorem nxM_low {n : Nat} {L : List Nd} (h : Vld n L) {low : List Int} (hlow : ∀ x, x ∈ low ↔ x ∈ stuckS n L) {t : Int} (ht : t ∈ low) : nxM low L t ∈ low := by
  obtain ⟨d, hd, rfl⟩ := stuckS_task ((hlow t).1 ht)
  rw [nxTo_at h hd (hasB_iff.2 ht)]
  have hw := stuckS_waits h hd ((hlow _).1 ht)
  have he : hasB low = hasB (stuckS n L) := by
    funext x; rw [Bool.eq_iff_iff, hasB_iff, hasB_iff]; exact hlow x
  unfold nxVal
  rw [he]
  obtain ⟨k, y, hk, hy, hp, _⟩ := findI_ok hw
  rw [hk]
  simp only [Int.toNat_natCast, List.getD_eq_getElem?_getD, hy, Option.getD_some]
  exact (hlow y).2 (hasB_iff.1 hp)

def pathL (f : Int → Int) : Nat → List Int → Int → List Int × Int
  | 0, p, t => (p, t)
  | m + 1, p, t => if hasB p t then (p, t) else pathL f m (p ++ [t]) (f t)

def rot (c : List Int) : List Int := c.drop (idxI c (minI c)).toNat ++ c.take (idxI c (minI c)).toNat
def tailOf (p : List Int) (t : Int) : List Int := p.drop (idxI p t).toNat
def cycL (low : List Int) (L : List Nd) : List Int :=
  rot (tailOf (pathL (nxM low L) (low.length + 1) [] (low.headD 0)).1 (pathL (nxM low L) (low.length + 1) [] (low.headD 0)).2)
def cycleE (n : Int) (L : List Nd) : List Int × Int :=
  if vld n L then (if (sortI (stuckS n.toNat L)).length = 0 then ([], 9) else (cycL (sortI (stuckS n.toNat L)) L, 0)) else ([], 2)
end Go.Proofs.Ytkcpblmcpgnofaa
