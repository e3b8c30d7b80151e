/- Walks over needs: ref.At, small, waitfor.Valid, ref.Valid. -/
import Derived.Test.YtkcpblmcpgnofaaL1
import Derived.Test.YtkcpblmcpgnofaaL2
import Derived.Maps.OwnSet
import Derived.Test.YtkcpblmcpgnofaaS1
namespace Go.Proofs.Ytkcpblmcpgnofaa
open Go.RowKit Go.Maps

set_option maxHeartbeats 400000 in
theorem at_any (ao : Option Addr) (cap : Nat) (L : List Nd) (t : Int) (w : World) (B : Nat) (h : Needs w B ao L) (hl : L.length ≤ 1000000) :
    Calls Try.prog 33 #[.slice ao L.length cap, .int .i64 t] w fun e w' => e = .returned (.int .i64 (atI L t)) ∧ w = w' := by
  go_enter Try.func33, Try.ntmps33
  go_wp2
  go_loop [5] (fun i => ∃ k : Nat, k ≤ L.length ∧ i = .int .i64 k ∧ Hid (∀ j e, j < k → L[j]? = some e → e.task ≠ t)) (fun i => L.length - (intOf i).toNat)
  case atStart => exact ⟨0, Nat.zero_le _, rfl, fun j e hj => by omega⟩
  case round =>
    obtain ⟨k, hk, rfl, hno⟩ := hrel
    by_cases hlt : k < L.length
    · obtain ⟨b, o, t', on, all, ai, ci, rfl, hbB, hd, h1, h2, h3, h4⟩ := h.get hlt
      have Hd := Lib.hid hd
      clear hd
      go_wp2
      · have ht : (t' == t) = true := by assumption
        go_ret
        exact ⟨ret_int (atI_hit Hd.out (by simpa using ht) hno).symm, rfl⟩
      · have ht : (t' == t) = false := by assumption
        go_round
        case rel =>
          refine ⟨k + 1, by omega, by go_num, fun j e hj he => ?_⟩
          rcases Nat.lt_succ_iff_lt_or_eq.1 hj with hj | rfl
          · exact hno j e hj he
          · rw [Hd.out] at he; injection he with he; subst he; simpa using ht
        case measure => simp [intOf]; omega
    · go_wp2
      go_ret
      exact ⟨ret_int (atI_miss (fun j e hj he => hno j e (by omega) he)).symm, rfl⟩

set_option maxHeartbeats 400000 in
theorem small_any (ao : Option Addr) (cap : Nat) (L : List Nd) (w : World) (B : Nat) (h : Needs w B ao L) (hl : L.length ≤ 9223372036854775807) (hon : ∀ d ∈ L, d.on.length ≤ 9223372036854775807) :
    Calls Try.prog 9 #[.slice ao L.length cap] w fun e w' => e = .returned (.bool (smallB L)) ∧ w = w' := by
  have Hon := Lib.hid hon
  clear hon
  go_enter Try.func9, Try.ntmps9
  go_wp2
  go_loop [3] (fun i => ∃ k : Nat, k ≤ L.length ∧ k ≤ 71 ∧ i = .int .i64 k ∧ Hid (∀ j d, j < k → L[j]? = some d → d.on.length ≤ 70)) (fun i => 71 - (intOf i).toNat)
  case atStart => exact ⟨0, Nat.zero_le _, by omega, rfl, fun j e hj => by omega⟩
  case round =>
    obtain ⟨k, hk, hk71, rfl, hno⟩ := hrel
    by_cases hlt : k < L.length
    · by_cases h71 : k < 71
      · obtain ⟨b, o, t', on, all, ai, ci, rfl, hbB, hd, h1, h2, h3, h4⟩ := h.get hlt
        have hol : on.length ≤ 9223372036854775807 := Hon.out _ (List.mem_of_getElem? hd)
        have Hd := Lib.hid hd
        clear hd
        go_wp2
        · have hlong : (70 : Int) < on.length := by assumption
          go_ret
          exact ⟨ret_bool (smallB_miss Hd.out (show 70 < on.length by omega)).symm, rfl⟩
        · have hshort : (on.length : Int) ≤ 70 := by assumption
          go_round
          case rel =>
            refine ⟨k + 1, by omega, by omega, by go_num, fun j e hj he => ?_⟩
            rcases Nat.lt_succ_iff_lt_or_eq.1 hj with hj | rfl
            · exact hno j e hj he
            · rw [Hd.out] at he; injection he with he; subst he; show on.length ≤ 70; omega
          case measure => simp [intOf]; omega
      · go_wp2
        go_ret
        exact ⟨ret_bool (by rw [smallB_long (by omega)]; simp; omega), rfl⟩
    · obtain rfl : k = L.length := by omega
      clear hlt
      go_wp2
      go_ret
      refine ⟨ret_bool ?_, rfl⟩
      by_cases h70 : L.length ≤ 70
      · rw [smallB_hit h70 (fun j d hj hd => hno j d hj hd)]; simp; omega
      · rw [smallB_long (by omega)]; simp; omega


theorem law3 : Keyed Try.prog 3 := int_keyed Try.underlying3
theorem zero52 (w : World) : (zeroValue 52).run Try.prog w = .ok (.agg #[]) w := by kernel_rfl
def Wf64 (x : Int) : Prop := (Lit.int .i64 x).wf = true
theorem key3 {x : Int} (h : Wf64 x) : keyOf Try.prog 3 (.int .i64 x) = some (.int .i64 x) := keyOf_int_mk Try.underlying3 h

/-- The set with these numbers, as the map reads. -/
def tset (l : List Int) : DataW Unit := Maps.setOf (.agg []) (l.map (Lit.int .i64))
theorem tset_nil : tset [] = .map [] := rfl
theorem tset_snoc (l : List Int) (x : Int) : tset (l ++ [x]) = (tset l).put (.int .i64 x) (.agg []) := by
  unfold tset; rw [List.map_append]; exact Maps.setOf_snoc _ _ _
theorem has_tset (l : List Int) (x : Int) : Maps.has (tset l) (.int .i64 x) = hasB l x := by
  unfold tset
  rw [Maps.has_setOf _ _ _ (by intro y hy; rw [List.mem_map] at hy; obtain ⟨z, _, rfl⟩ := hy; trivial)]
  rw [Bool.eq_iff_iff, hasB_iff]
  simp [List.any_eq_true, Lit.sameKey]

end Go.Proofs.Ytkcpblmcpgnofaa
