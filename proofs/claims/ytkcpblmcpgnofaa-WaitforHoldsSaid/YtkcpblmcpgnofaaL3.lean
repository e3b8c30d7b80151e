/- Walks: slices.Clone, Min, BinarySearch. -/
import Derived.Test.YtkcpblmcpgnofaaOwn
import Derived.Deep.DeepMust
namespace Go.Proofs.Ytkcpblmcpgnofaa
open Go.RowKit

theorem info3 : (Try.prog.info? 3).map (fun i => (i.zero, i.size, i.bytes)) = some (some (.int .i64 0), 1, 8) := by kernel_rfl
theorem ints_oneCell' (xs : List Int) : ∀ u ∈ xs.map (Value.int .i64), u.oneCell' = true := by
  intro u hu; rw [List.mem_map] at hu; obtain ⟨x, _, rfl⟩ := hu; rfl

/-- The result is a slice of ints of the call's own. -/
def RInts (w : World) (xs : List Int) (e : Ending) (w' : World) : Prop :=
  ∃ v, e = .returned v ∧ w'.ownsRow w.heap.size 3 1 v xs.length (xs.map (.int .i64)) ∧ Below w.heap.size w w'

set_option maxHeartbeats 400000 in
theorem clone_any (ao : Option Addr) (cap : Nat) (xs : List Int) (w : World) (B : Nat) (h : Ints w B ao xs) (hB : B ≤ w.heap.size) (hl : xs.length ≤ 1000000) :
    Calls Try.prog 47 #[.slice ao xs.length cap] w (RInts w xs) := by
  obtain ⟨i0, hi0, hz0, hz1, hz2⟩ := info_parts info3
  have hnil := fun (a : Option Addr) (n c : Nat) (W : World) => Lib.run_eql_slice_nil (P := Try.prog) W 27 3 a n c 0 0 Try.underlying27
  rcases ao with _ | ad
  · have hx : xs = [] := by
      rcases xs with _ | ⟨x, r⟩
      · rfl
      · obtain ⟨b, o, hh, _⟩ := h 0 (by simp); cases hh
    subst hx
    go_enter Try.func47, Try.ntmps47
    go_wp2
    go_ret
    exact ⟨_, rfl, World.ownsRow_nil _ _ _ _, Below.refl _ _⟩
  · go_enter Try.func47, Try.ntmps47
    go_wp2_with (at_builtin; go_must (refine wpList_append_cells _ rfl (.tmp 5) (.tmp 6) 27 rfl w.heap.size 3 i0 (.int .i64 0) 1 8 Try.underlying27 hi0 hz0 hz1 hz2 rfl (by omega) (.slice (some ⟨w.heap.size, 0, none⟩) 0 0) 0 [] rfl (World.ownsRow_made w #[] 0 (Nat.le_refl _) (Nat.zero_le _) rfl) B (some ad) xs.length cap (xs.map (.int .i64)) rfl (by simp) (h.cells.below ((Below.refl _ _).alloc hB _)) (ints_oneCell' _) (by unfold maxLen; omega) (by omega) (by simp) ?_); intro v1 w1 hown1 hg1 hat1)
    go_ret
    refine ⟨_, rfl, by simpa using hown1, ?_⟩
    exact ((Below.refl _ _).al _).gr hg1 (Nat.le_refl _)

/-- The least of a list that is not empty. -/
def minI : List Int → Int
  | [] => 0
  | x :: r => r.foldl min x
def foldMin (xs : List Int) (k : Nat) : Int := minI (xs.take k)
theorem minI_snoc {xs : List Int} {x : Int} (h : xs ≠ []) : minI (xs ++ [x]) = min (minI xs) x := by
  rcases xs with _ | ⟨y, r⟩
  · exact absurd rfl h
  · simp [minI, List.foldl_append]

theorem foldMin_step {xs : List Int} {k : Nat} {x : Int} (hk1 : 1 ≤ k) (hx : xs[k]? = some x) : (if x < foldMin xs k then x else foldMin xs k) = foldMin xs (k + 1) := by
  obtain ⟨hkl, he⟩ := List.getElem?_eq_some_iff.1 hx
  have hne : xs.take k ≠ [] := by
    intro e; have := congrArg List.length e; rw [List.length_take, List.length_nil] at this; omega
  unfold foldMin
  rw [List.take_succ_eq_append_getElem hkl, minI_snoc hne, he]
  omega

set_option maxHeartbeats 400000 in
theorem min_any (ao : Option Addr) (cap : Nat) (xs : List Int) (w : World) (B : Nat) (h : Ints w B ao xs) (h0 : 0 < xs.length) (hl : xs.length ≤ 1000000) :
    Calls Try.prog 45 #[.slice ao xs.length cap] w fun e w' => e = .returned (.int .i64 (minI xs)) ∧ w = w' := by
  obtain ⟨b, o, x0, rfl, hbB, hx0, hc0⟩ := h.get h0
  have hc0' : w.cell? ⟨b, o, none⟩ = some (.int .i64 x0) := by simpa using hc0
  have Hx0 := Lib.hid hx0
  clear hx0 hc0
  go_enter Try.func45, Try.ntmps45
  go_wp2
  go_loop [3, 4] (fun m i => ∃ k : Nat, 1 ≤ k ∧ k ≤ xs.length ∧ i = .int .i64 k ∧ m = .int .i64 (foldMin xs k)) (fun _ i => xs.length - (intOf i).toNat)
  case atStart => exact ⟨1, Nat.le_refl _, h0, rfl, by
    unfold foldMin; rw [show xs.take 1 = [x0] by
      rcases xs with _ | ⟨y, r⟩
      · simp at h0
      · have := Hx0.out; simp at this; simp [this]]; rfl⟩
  case round =>
    obtain ⟨k, hk1, hk, rfl, rfl⟩ := hrel
    by_cases hlt : k < xs.length
    · obtain ⟨b', o', x, hbo, hbB, hx, hc⟩ := h.get hlt
      injection hbo with hbo; injection hbo with hb1 ho1; subst hb1 ho1
      have Hx := Lib.hid hx
      clear hx
      go_wp2
      go_round
      case rel =>
        refine ⟨k + 1, by omega, by omega, by go_num, ?_⟩
        rw [foldMin_step hk1 Hx.out]
      case measure => simp [intOf]; omega
    · obtain rfl : k = xs.length := by omega
      go_wp2
      go_ret
      exact ⟨ret_int (by unfold foldMin; rw [List.take_length]), rfl⟩


/-- Strictly increasing. -/
def Inc (xs : List Int) : Prop := ∀ (i j : Nat) (x y : Int), i < j → xs[i]? = some x → xs[j]? = some y → x < y

theorem ret_found {i : Int} {b b' : Bool} (h : b = b') : Ending.returned (.tuple #[.int .i64 i, .bool b]) = .returned (.tuple #[.int .i64 i, .bool b']) := by rw [h]
/-- The second result says whether the number is there. -/
def RFound (w : World) (b : Bool) (e : Ending) (w' : World) : Prop := ∃ i : Int, e = .returned (.tuple #[.int .i64 i, .bool b]) ∧ w = w'

set_option maxHeartbeats 1000000 in
set_option maxRecDepth 100000 in
theorem bsearch_any (ao : Option Addr) (cap : Nat) (xs : List Int) (x : Int) (w : World) (B : Nat) (h : Ints w B ao xs) (hs : Inc xs) (hl : xs.length ≤ 1000000) :
    Calls Try.prog 39 #[.slice ao xs.length cap, .int .i64 x] w (RFound w (hasB xs x)) := by
  have Hs := Lib.hid hs
  clear hs
  go_enter Try.func39, Try.ntmps39
  go_wp2
  go_loop [7, 8] (fun i j => ∃ a b : Nat, a ≤ b ∧ b ≤ xs.length ∧ i = .int .i64 a ∧ j = .int .i64 b ∧ Hid (∀ k y, k < a → xs[k]? = some y → y < x) ∧ Hid (∀ k y, b ≤ k → xs[k]? = some y → x ≤ y)) (fun i j => (intOf j).toNat - (intOf i).toNat)
  case atStart => exact ⟨0, xs.length, Nat.zero_le _, Nat.le_refl _, rfl, rfl, fun k y hk => by omega, fun k y hk hy => by have := (List.getElem?_eq_some_iff.1 hy).1; omega⟩
  case round =>
    obtain ⟨a, b, hab, hb, rfl, rfl, hlow, hhigh⟩ := hrel
    by_cases hlt : a < b
    · have hm : (a + b) / 2 < xs.length := by omega
      obtain ⟨bb, o, y, rfl, hbB, hy, hc⟩ := h.get hm
      have Hy := Lib.hid hy
      clear hy
      go_wp2
      · have hyx : y < x := by assumption
        go_round
        case rel =>
          refine ⟨(a + b) / 2 + 1, b, by omega, hb, by go_num, rfl, fun k z hk hz => ?_, hhigh⟩
          rcases Nat.lt_succ_iff_lt_or_eq.1 hk with hk | rfl
          · have := Hs.out k _ z y hk hz Hy.out; omega
          · rw [Hy.out] at hz; injection hz with hz; omega
        case measure => simp [intOf]; omega
      · have hyx : ¬ y < x := by assumption
        go_round
        case rel =>
          refine ⟨a, (a + b) / 2, by omega, by omega, rfl, by go_num, hlow, fun k z hk hz => ?_⟩
          rcases Nat.lt_or_eq_of_le hk with hk | rfl
          · have := Hs.out _ k y z hk Hy.out hz; omega
          · rw [Hy.out] at hz; injection hz with hz; omega
        case measure => simp [intOf]; omega
    · obtain rfl : a = b := by omega
      by_cases hal : a < xs.length
      · obtain ⟨bb, o, y, rfl, hbB, hy, hc⟩ := h.get hal
        have Hy := Lib.hid hy
        clear hy
        by_cases hyx : y = x
        · subst hyx
          go_wp2
          go_ret2
          exact ⟨a, ret_found (hasB_hit Hy.out).symm, rfl⟩
        · have hb1 : (y == x) = false := beq_eq_false_iff_ne.2 hyx
          have Hyx := Lib.hid hyx
          clear hyx
          go_wp2
          go_ret2
          refine ⟨a, ret_found (hasB_miss (fun j hj he => ?_)).symm, rfl⟩
          rcases Nat.lt_trichotomy j a with hja | hja | hja
          · have := hlow j x hja he; omega
          · subst hja; rw [Hy.out] at he; injection he with he; exact Hyx.out he
          · have := Hs.out a j y x hja Hy.out he; have := hhigh a y (Nat.le_refl _) Hy.out; omega
      · go_wp2
        go_ret2
        exact ⟨a, ret_found (hasB_miss (fun j hj he => by have := hlow j x (by omega) he; omega)).symm, rfl⟩

end Go.Proofs.Ytkcpblmcpgnofaa
