/- Walks: ref.met; slices.IndexFunc and ContainsFunc at the two closures of solve. -/
import Derived.Test.YtkcpblmcpgnofaaC1
namespace Go.Proofs.Ytkcpblmcpgnofaa
open Go.RowKit

theorem Cells.get {w : World} {B : Nat} {ao : Option Addr} {cs : List Value} (h : Cells w B ao cs) {k : Nat} {v : Value} (hk : cs[k]? = some v) :
    ∃ b o, ao = some ⟨b, o, none⟩ ∧ b < B ∧ w.cell? ⟨b, o + k, none⟩ = some v := by
  obtain ⟨b, o, ha, hb, hc⟩ := h k (List.getElem?_eq_some_iff.1 hk).1
  exact ⟨b, o, ha, hb, hc k v hk⟩

/-- Is this task free? -/
def frAt (fr : List Bool) (y : Int) : Bool := fr.getD y.toNat false
def allTo (fr : List Bool) (on : List Int) (k : Nat) : Bool := (on.take k).all (frAt fr)
def anyTo (fr : List Bool) (on : List Int) (k : Nat) : Bool := (on.take k).any (frAt fr)
def metL (fr : List Bool) (d : Nd) : Bool := if d.all then d.on.all (frAt fr) else d.on.any (frAt fr)
theorem allTo_step {fr : List Bool} {on : List Int} {k : Nat} {y : Int} (hy : on[k]? = some y) : allTo fr on (k + 1) = (allTo fr on k && frAt fr y) := by
  obtain ⟨hk, he⟩ := List.getElem?_eq_some_iff.1 hy
  unfold allTo; rw [List.take_succ_eq_append_getElem hk, List.all_append, he]; simp
theorem anyTo_step {fr : List Bool} {on : List Int} {k : Nat} {y : Int} (hy : on[k]? = some y) : anyTo fr on (k + 1) = (anyTo fr on k || frAt fr y) := by
  obtain ⟨hk, he⟩ := List.getElem?_eq_some_iff.1 hy
  unfold anyTo; rw [List.take_succ_eq_append_getElem hk, List.any_append, he]; simp

set_option maxRecDepth 100000 in
set_option maxHeartbeats 1000000 in
theorem met_any (d : Nd) (ai af : Option Addr) (ci cf : Nat) (fr : List Bool) (w : World) (hi : Ints w w.heap.size ai d.on) (hf : Cells w w.heap.size af (fr.map .bool)) (hl : d.on.length ≤ 1000000) (_hlf : fr.length ≤ 1000000)
    (hin : ∀ y ∈ d.on, 0 ≤ y ∧ y < fr.length) :
    Calls Try.prog 38 #[.agg #[.int .i64 d.task, .slice ai d.on.length ci, .bool d.all], .slice af fr.length cf] w fun e w' => e = .returned (.bool (metL fr d)) ∧ Below w.heap.size w w' := by
  obtain ⟨t, on, all⟩ := d
  simp only at hi hl hin ⊢
  have Hin := Lib.hid hin
  clear hin
  go_enter Try.func38, Try.ntmps38
  go_wp2
  go_loop [5, 6, 7] (fun a n i => ∃ k : Nat, k ≤ on.length ∧ i = .int .i64 k ∧ a = .bool (allTo fr on k) ∧ n = .bool (anyTo fr on k)) (fun _ _ i => on.length - (intOf i).toNat)
  case atStart => exact ⟨0, Nat.zero_le _, rfl, rfl, rfl⟩
  case round =>
    obtain ⟨k, hk, rfl, rfl, rfl⟩ := hrel
    by_cases hlt : k < on.length
    · obtain ⟨b, o, y, rfl, hbB, hy, hc⟩ := (hi.below ((Below.refl _ w).al (.cells #[.int .i64 t, .slice ai on.length ci, .bool all] 42))).get hlt
      obtain ⟨hy0, hy1⟩ := Hin.out y (List.mem_of_getElem? hy)
      obtain ⟨m, rfl⟩ := Int.eq_ofNat_of_zero_le hy0
      have hm : m < fr.length := by omega
      obtain ⟨b', o', rfl, hbB', hc'⟩ := (hf.below ((Below.refl _ w).al (.cells #[.int .i64 t, .slice (some ⟨b, o, none⟩) on.length ci, .bool all] 42))).get (k := m) (v := .bool fr[m]) (by simp [hm])
      have hfr : frAt fr (m : Int) = fr[m] := by unfold frAt; simp [hm]
      have e1 := allTo_step (fr := fr) hy
      have e2 := anyTo_step (fr := fr) hy
      rw [hfr] at e1 e2
      generalize fr[m] = c at hc' e1 e2
      have E1 := Lib.hid e1
      have E2 := Lib.hid e2
      clear e1 e2 hfr hy
      generalize allTo fr on k = A at E1 ⊢
      generalize anyTo fr on k = N at E2 ⊢
      cases A <;> cases N <;> go_wp2 <;> (go_round; (case rel => exact ⟨k + 1, by omega, by go_num, by rw [E1.out]; simp, by rw [E2.out]; simp⟩); (case measure => simp [intOf]; omega))
    · obtain rfl : k = on.length := by omega
      have ea : allTo fr on on.length = on.all (frAt fr) := by unfold allTo; rw [List.take_length]
      have en : anyTo fr on on.length = on.any (frAt fr) := by unfold anyTo; rw [List.take_length]
      have Ea := Lib.hid ea
      have En := Lib.hid en
      clear ea en
      generalize allTo fr on on.length = A at Ea ⊢
      generalize anyTo fr on on.length = N at En ⊢
      cases all <;> go_wp2 <;> go_ret
      · exact ⟨ret_bool (by rw [En.out]; rfl), (Below.refl _ _).al _⟩
      · exact ⟨ret_bool (by rw [Ea.out]; rfl), (Below.refl _ _).al _⟩
end Go.Proofs.Ytkcpblmcpgnofaa
