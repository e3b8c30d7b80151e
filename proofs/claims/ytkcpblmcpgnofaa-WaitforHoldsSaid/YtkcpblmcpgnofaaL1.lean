/- trial -/
import Derived.Test.YtkcpblmcpgnofaaBase
namespace Go.Proofs.Ytkcpblmcpgnofaa
open Go.RowKit

set_option maxHeartbeats 400000 in
theorem has_any (ao : Option Addr) (cap : Nat) (xs : List Int) (x : Int) (w : World) (B : Nat) (h : Ints w B ao xs) (hl : xs.length ≤ 1000000) :
    Calls Try.prog 29 #[.slice ao xs.length cap, .int .i64 x] w fun e w' => e = .returned (.bool (hasB xs x)) ∧ w = w' := by
  go_enter Try.func29, Try.ntmps29
  go_wp2
  go_loop [5] (fun i => ∃ k : Nat, k ≤ xs.length ∧ i = .int .i64 k ∧ Hid (∀ j, j < k → xs[j]? ≠ some x)) (fun i => xs.length - (intOf i).toNat)
  case atStart => exact ⟨0, Nat.zero_le _, rfl, fun j hj => by omega⟩
  case round =>
    obtain ⟨k, hk, rfl, hno⟩ := hrel
    by_cases hlt : k < xs.length
    · obtain ⟨b, o, y, rfl, hbB, hy, hc⟩ := h.get hlt
      have Hy := Lib.hid hy
      clear hy
      go_wp2
      · have hyx : (y == x) = true := by assumption
        go_ret
        exact ⟨ret_bool (hasB_hit (by rw [Hy.out, beq_iff_eq.1 hyx])).symm, rfl⟩
      · have hyx : (y == x) = false := by assumption
        go_round
        case rel =>
          refine ⟨k + 1, by omega, by go_num, fun j hj => ?_⟩
          rcases Nat.lt_succ_iff_lt_or_eq.1 hj with hj | rfl
          · exact hno j hj
          · rw [Hy.out]; intro e; injection e with e; simp [e] at hyx
        case measure => simp [intOf]; omega
    · go_wp2
      go_ret
      exact ⟨ret_bool (hasB_miss (fun j hj => hno j (by omega))).symm, rfl⟩

set_option maxHeartbeats 400000 in
theorem same_any (ao ao' : Option Addr) (cap cap' : Nat) (xs ys : List Int) (w : World) (B : Nat) (h : Ints w B ao xs) (h' : Ints w B ao' ys) (hl : xs.length ≤ 1000000) (_hl' : ys.length ≤ 1000000) :
    Calls Try.prog 17 #[.slice ao xs.length cap, .slice ao' ys.length cap'] w fun e w' => e = .returned (.bool (eqB xs ys)) ∧ Drewn w w' := by
  by_cases hne : xs.length = ys.length
  · have Hne := Lib.hid hne
    clear hne
    have hb : ((xs.length : Int) != ys.length) = false := by rw [Hne.out]; simp
    have hle : ys.length ≤ xs.length := by rw [Hne.out]; exact Nat.le_refl _
    have hle' : xs.length ≤ ys.length := by rw [Hne.out]; exact Nat.le_refl _
    go_enter Try.func17, Try.ntmps17
    go_wp2
    go_loopw [5] (fun i wr => ∃ k : Nat, k ≤ xs.length ∧ i = .int .i64 k ∧ Hid (∀ j, j < k → xs[j]? = ys[j]?) ∧ Drewn w wr) (fun i _ => xs.length - (intOf i).toNat)
    case atStart => exact ⟨0, Nat.zero_le _, rfl, fun j hj => by omega, Drewn.refl _⟩
    case round =>
      obtain ⟨k, hk, rfl, hno, n, rfl⟩ := hrel
      by_cases hlt : k < xs.length
      · obtain ⟨b, o, x, rfl, hbB, hx, hc⟩ := h.get hlt
        obtain ⟨b', o', y, rfl, hbB', hy, hc'⟩ := h'.get (k := k) (by omega)
        have Hx := Lib.hid hx
        have Hy := Lib.hid hy
        clear hx hy
        have hlt' : k < ys.length := by omega
        go_wp2
        go_quiet (fail)
        go_wp2
        · have hne : (x != y) = true := by assumption
          go_ret
          exact ⟨ret_bool (eqB_miss Hx.out Hy.out (by simpa using hne)).symm, Drewn.add2 _ _⟩
        · have hne : (x != y) = false := by assumption
          go_roundw
          case rel =>
            refine ⟨k + 1, by omega, by go_num, fun j hj => ?_, Drewn.add _⟩
            rcases Nat.lt_succ_iff_lt_or_eq.1 hj with hj | rfl
            · exact hno j hj
            · rw [Hx.out, Hy.out, show x = y by simpa using hne]
          case measure => simp [intOf]; omega
      · go_wp2
        go_ret
        exact ⟨ret_bool (eqB_hit Hne.out (fun j hj => hno j (by omega))).symm, Drewn.add _⟩
  · have hb : ((xs.length : Int) != ys.length) = true := by simp; omega
    have Hne := Lib.hid hne
    clear hne
    go_enter Try.func17, Try.ntmps17
    go_wp2
    go_ret
    exact ⟨ret_bool (eqB_len Hne.out).symm, Drewn.refl _⟩

set_option maxHeartbeats 400000 in
theorem sorted_any (n : Int) (ao : Option Addr) (cap : Nat) (xs : List Int) (w : World) (B : Nat) (h : Ints w B ao xs) (hl : xs.length ≤ 1000000) :
    Calls Try.prog 32 #[.int .i64 n, .slice ao xs.length cap] w fun e w' => e = .returned (.bool (srt n xs)) ∧ w = w' := by
  go_enter Try.func32, Try.ntmps32
  go_wp2
  go_loop [9] (fun i => ∃ k : Nat, k ≤ xs.length ∧ i = .int .i64 k ∧ Hid (∀ j, j < k → srtAt n xs j = true)) (fun i => xs.length - (intOf i).toNat)
  case atStart => exact ⟨0, Nat.zero_le _, rfl, fun j hj => by omega⟩
  case round =>
    obtain ⟨k, hk, rfl, hno⟩ := hrel
    by_cases hlt : k < xs.length
    · obtain ⟨b, o, x, rfl, hbB, hx, hc⟩ := h.get hlt
      have Hx := Lib.hid hx
      clear hx
      obtain _ | m := k
      · have hc0 : w.cell? ⟨b, o, none⟩ = some (.int .i64 x) := by simpa using hc
        clear hc
        go_wp2
        all_goals first
          | (go_round
             case rel =>
               refine ⟨1, by omega, by go_num, fun j hj => ?_⟩
               obtain rfl : j = 0 := by omega
               rw [srtAt_eq0 Hx.out]; simp; omega
             case measure => simp [intOf]; omega)
          | (go_ret
             exact ⟨ret_bool (srt_miss hlt (by rw [srtAt_eq0 Hx.out]; simp; omega)).symm, rfl⟩)
      · obtain ⟨b', o', y, hbo, hbB, hy, hc'⟩ := h.get (k := m) (by omega)
        injection hbo with hbo; injection hbo with hb1 ho1; subst hb1 ho1
        have Hy := Lib.hid hy
        clear hy
        go_wp2
        all_goals first
          | (go_round
             case rel =>
               refine ⟨m + 2, by omega, by go_num, fun j hj => ?_⟩
               rcases Nat.lt_succ_iff_lt_or_eq.1 hj with hj | rfl
               · exact hno j hj
               · rw [srtAt_eq Hx.out Hy.out]; simp; omega
             case measure => simp [intOf]; omega)
          | (go_ret
             exact ⟨ret_bool (srt_miss hlt (by rw [srtAt_eq Hx.out Hy.out]; simp; omega)).symm, rfl⟩)
    · go_wp2
      go_ret
      exact ⟨ret_bool (srt_hit (fun j hj => hno j (by omega))).symm, rfl⟩

end Go.Proofs.Ytkcpblmcpgnofaa
