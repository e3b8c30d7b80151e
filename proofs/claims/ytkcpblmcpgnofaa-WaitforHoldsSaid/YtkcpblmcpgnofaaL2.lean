/- Walks: ref.Sorted, slices.Index, Contains, Min. -/
import Derived.Test.YtkcpblmcpgnofaaBase
namespace Go.Proofs.Ytkcpblmcpgnofaa
open Go.RowKit

set_option maxHeartbeats 400000 in
theorem index_any (ao : Option Addr) (cap : Nat) (xs : List Int) (x : Int) (w : World) (B : Nat) (h : Ints w B ao xs) (hl : xs.length ≤ 1000000) :
    Calls Try.prog 44 #[.slice ao xs.length cap, .int .i64 x] w fun e w' => e = .returned (.int .i64 (idxI xs x)) ∧ w = w' := by
  go_enter Try.func44, Try.ntmps44
  go_wp2
  go_loop [8] (fun i => ∃ k : Nat, k ≤ xs.length ∧ i = .int .i64 k ∧ Hid (∀ j, j < k → xs[j]? ≠ some x)) (fun i => xs.length - (intOf i).toNat)
  case atStart => exact ⟨0, Nat.zero_le _, rfl, fun j hj => by omega⟩
  case round =>
    obtain ⟨k, hk, rfl, hno⟩ := hrel
    by_cases hlt : k < xs.length
    · obtain ⟨b, o, y, rfl, hbB, hy, hc⟩ := h.get hlt
      have Hy := Lib.hid hy
      clear hy
      go_wp2
      · have hyx : (x == y) = true := by assumption
        go_ret
        exact ⟨ret_int (idxI_hit (by rw [Hy.out, beq_iff_eq.1 hyx]) hno).symm, rfl⟩
      · have hyx : (x == y) = false := by assumption
        go_round
        case rel =>
          refine ⟨k + 1, by omega, by go_num, fun j hj => ?_⟩
          rcases Nat.lt_succ_iff_lt_or_eq.1 hj with hj | rfl
          · exact hno j hj
          · rw [Hy.out]; intro e; injection e with e; simp [e] at hyx
        case measure => simp [intOf]; omega
    · go_wp2
      go_ret
      exact ⟨ret_int (idxI_miss (fun j hj => hno j (by omega))).symm, rfl⟩

set_option maxHeartbeats 400000 in
theorem contains_any (ao : Option Addr) (cap : Nat) (xs : List Int) (x : Int) (w : World) (B : Nat) (h : Ints w B ao xs) (hl : xs.length ≤ 1000000) :
    Calls Try.prog 43 #[.slice ao xs.length cap, .int .i64 x] w fun e w' => e = .returned (.bool (hasB xs x)) ∧ w = w' := by
  have H := Lib.hid (index_any ao cap xs x w B h hl)
  go_enter Try.func43, Try.ntmps43
  go_wp2_with (go_at_call 44; refine H.out.mono ?_; rintro e w' ⟨rfl, rfl⟩)
  go_ret
  exact ⟨ret_bool hasB_idxI, rfl⟩

set_option maxHeartbeats 400000 in
theorem refSorted_any (n : Int) (ao : Option Addr) (cap : Nat) (xs : List Int) (w : World) (B : Nat) (h : Ints w B ao xs) (hl : xs.length ≤ 1000000) :
    Calls Try.prog 34 #[.int .i64 n, .slice ao xs.length cap] w fun e w' => e = .returned (.bool (srt n xs)) ∧ Drewn w w' := by
  go_enter Try.func34, Try.ntmps34
  go_wp2
  go_loopw [5] (fun i wr => ∃ k : Nat, k ≤ xs.length ∧ i = .int .i64 k ∧ Hid (∀ j, j < k → srtAt n xs j = true) ∧ Drewn w wr) (fun i _ => xs.length - (intOf i).toNat)
  case atStart => exact ⟨0, Nat.zero_le _, rfl, fun j hj => by omega, Drewn.refl _⟩
  case round =>
    obtain ⟨k, hk, rfl, hno, nd, rfl⟩ := hrel
    by_cases hlt : k < xs.length
    · obtain ⟨b, o, x, rfl, hbB, hx, hc⟩ := h.get hlt
      have Hx := Lib.hid hx
      clear hx
      by_cases h0 : x < 0
      · go_wp2
        go_quiet (fail)
        go_wp2
        go_ret
        exact ⟨ret_bool (srt_miss hlt (srtAt_low Hx.out (.inl h0))).symm, Drewn.add2 _ _⟩
      have d0 : decide (x < 0) = false := by simpa using h0
      by_cases h1 : n ≤ x
      · go_wp2
        go_quiet (fail)
        go_wp2
        go_ret
        exact ⟨ret_bool (srt_miss hlt (srtAt_low Hx.out (.inr h1))).symm, Drewn.add2 _ _⟩
      have d1 : decide (n ≤ x) = false := by simpa using h1
      obtain _ | m := k
      · have hc0 : w.cell? ⟨b, o, none⟩ = some (.int .i64 x) := by simpa using hc
        clear hc
        go_wp2
        go_quiet (fail)
        go_wp2
        go_roundw
        case rel =>
          refine ⟨1, by omega, by go_num, fun j hj => ?_, Drewn.add _⟩
          obtain rfl : j = 0 := by omega
          exact srtAt_zero Hx.out (by omega) (by omega)
        case measure => simp [intOf]; omega
      · obtain ⟨b', o', y, hbo, hbB, hy, hc'⟩ := h.get (k := m) (by omega)
        injection hbo with hbo; injection hbo with hb1 ho1; subst hb1 ho1
        have Hy := Lib.hid hy
        clear hy
        by_cases h2 : x ≤ y
        · go_wp2
          go_quiet (fail)
          go_wp2
          go_ret
          exact ⟨ret_bool (srt_miss hlt (srtAt_order Hx.out Hy.out h2)).symm, Drewn.add2 _ _⟩
        · have d2 : decide (x ≤ y) = false := by simpa using h2
          go_wp2
          go_quiet (fail)
          go_wp2
          go_roundw
          case rel =>
            refine ⟨m + 2, by omega, by go_num, fun j hj => ?_, Drewn.add _⟩
            rcases Nat.lt_succ_iff_lt_or_eq.1 hj with hj | rfl
            · exact hno j hj
            · exact srtAt_succ Hx.out Hy.out (by omega) (by omega) (by omega)
          case measure => simp [intOf]; omega
    · go_wp2
      go_ret
      exact ⟨ret_bool (srt_hit (fun j hj => hno j (by omega))).symm, Drewn.add _⟩
end Go.Proofs.Ytkcpblmcpgnofaa
