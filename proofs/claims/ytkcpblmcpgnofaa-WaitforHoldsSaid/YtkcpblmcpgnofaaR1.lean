/- Walks: waitfor.Rounds, Stuck. -/
import Derived.Test.YtkcpblmcpgnofaaS2
import Derived.Test.YtkcpblmcpgnofaaK1
namespace Go.Proofs.Ytkcpblmcpgnofaa
open Go.RowKit Go.Maps

/-- A list of ints of the call's own, and an error. -/
def RIntsE (w : World) (p : List Int × Int) (e : Ending) (w' : World) : Prop :=
  ∃ v, e = .returned (.tuple #[v, .int .i64 p.2]) ∧ w'.ownsRow w.heap.size 3 1 v p.1.length (p.1.map (.int .i64)) ∧ Below w.heap.size w w'

/-- What the walks ask of a list of needs. -/
structure WfN (L : List Nd) : Prop where
  len : L.length ≤ 1000000
  task : ∀ d ∈ L, Wf64 d.task
  on : ∀ d ∈ L, d.on.length ≤ 1000000

def roundsE (n : Int) (L : List Nd) : List Int × Int := if vld n L then ((solveL n.toNat L).1, 0) else ([], 2)
def stuckE (n : Int) (L : List Nd) : List Int × Int := if vld n L then (sortI (solveL n.toNat L).2, 0) else ([], 2)

theorem solve_stuck_le (L : List Nd) (f : Nat) : ∀ (r : Int) (S R : List Int), (solveLoop L f r S R).2.length ≤ S.length := by
  induction f with
  | zero => intro r S R; exact Nat.le_refl _
  | succ f ih =>
    intro r S R
    unfold solveLoop
    split
    · exact Nat.le_refl _
    · exact Nat.le_trans (ih _ _ _) (length_rem_le _ _)
theorem solveL_stuck_le (n : Nat) (L : List Nd) : (solveL n L).2.length ≤ L.length := by
  unfold solveL; refine Nat.le_trans (solve_stuck_le _ _ _ _ _) ?_; simp [tasks]

theorem rounds_any (n : Int) (ao : Option Addr) (cap : Nat) (L : List Nd) (w : World) (h : Needs w w.heap.size ao L) (hw : WfN L) :
    Calls Try.prog 14 #[.int .i64 n, .slice ao L.length cap] w (RIntsE w (roundsE n L)) := by
  have Hvalid := Lib.hid (valid_any n ao cap L w h hw.task hw.len hw.on)
  by_cases hv : vld n L = true
  · have hV := vld_iff.1 hv
    obtain ⟨m, rfl⟩ := Int.eq_ofNat_of_zero_le hV.n0
    have he : roundsE m L = ((solveL m L).1, 0) := by unfold roundsE; rw [hv]; rfl
    rw [he]
    have Hv := Lib.hid hv
    have HV := Lib.hid hV
    clear hv hV he
    have Hs : Hid (∀ W, Below w.heap.size w W → Calls Try.prog 35 #[.int .i64 m, .slice ao L.length cap] W (RSolve W (solveL m L).1 (solveL m L).2)) :=
      fun W hb => solve_any m ao cap L W (h.up (Nat.le_refl _) hb) HV.out
    go_enter Try.func14, Try.ntmps14
    go_wp2_with (first
      | (go_at_call 11; go_must (refine Hvalid.out.mono ?_); rw [Hv.out]; rintro e w1 ⟨rfl, hb1⟩)
      | (go_at_call 35; go_must (refine (Hs.out _ hb1).mono ?_); rintro e w2 ⟨bm, c, D, rfl, hown, hmap, hset, hb2⟩))
    go_ret2
    exact ⟨_, rfl, ownsRow_base_a hown hb1.size, hb1.call hb2⟩
  · have he : roundsE n L = ([], 2) := by unfold roundsE; rw [if_neg hv]
    rw [he]
    have hvf : vld n L = false := by simpa using hv
    have Hv := Lib.hid hvf
    clear hv hvf he
    go_enter Try.func14, Try.ntmps14
    go_wp2_with (go_at_call 11; go_must (refine Hvalid.out.mono ?_); rw [Hv.out]; rintro e w1 ⟨rfl, hb1⟩)
    go_ret2
    exact ⟨_, rfl, World.ownsRow_nil _ _ _ _, hb1⟩

theorem stuck_any (n : Int) (ao : Option Addr) (cap : Nat) (L : List Nd) (w : World) (h : Needs w w.heap.size ao L) (hw : WfN L) :
    Calls Try.prog 15 #[.int .i64 n, .slice ao L.length cap] w (RIntsE w (stuckE n L)) := by
  have Hvalid := Lib.hid (valid_any n ao cap L w h hw.task hw.len hw.on)
  by_cases hv : vld n L = true
  · have hV := vld_iff.1 hv
    obtain ⟨m, rfl⟩ := Int.eq_ofNat_of_zero_le hV.n0
    have he : stuckE m L = (sortI (solveL m L).2, 0) := by unfold stuckE; rw [hv]; rfl
    rw [he]
    have hle : (solveL m L).2.length ≤ 1000000 := by have := solveL_stuck_le m L; have := hw.len; omega
    have Hv := Lib.hid hv
    have HV := Lib.hid hV
    clear hv hV he
    have Hs : Hid (∀ W, Below w.heap.size w W → Calls Try.prog 35 #[.int .i64 m, .slice ao L.length cap] W (RSolve W (solveL m L).1 (solveL m L).2)) :=
      fun W hb => solve_any m ao cap L W (h.up (Nat.le_refl _) hb) HV.out
    go_enter Try.func15, Try.ntmps15
    go_wp2_with (first
      | (go_at_call 11; go_must (refine Hvalid.out.mono ?_); rw [Hv.out]; rintro e w1 ⟨rfl, hb1⟩)
      | (go_at_call 35; go_must (refine (Hs.out _ hb1).mono ?_); rintro e w2 ⟨bm, c, D, rfl, hown, hmap, hset, hb2⟩; have Hk := Lib.hid (sorted_keys_any bm c D _ w2 hmap hset hle); have Hmap := Lib.hid hmap; clear hmap)
      | (go_at_call 37; go_must (refine (keys_any _ _).mono ?_); rintro e w3 ⟨rfl, rfl⟩)
      | (go_at_call 36; go_must (refine Hk.out.mono ?_); rintro e w4 ⟨v, rfl, hown4, hb4⟩))
    go_ret2
    exact ⟨_, rfl, ownsRow_base_a hown4 (hb1.call hb2).size, (hb1.call hb2).call hb4⟩
  · have he : stuckE n L = ([], 2) := by unfold stuckE; rw [if_neg hv]
    rw [he]
    have hvf : vld n L = false := by simpa using hv
    have Hv := Lib.hid hvf
    clear hv hvf he
    go_enter Try.func15, Try.ntmps15
    go_wp2_with (go_at_call 11; go_must (refine Hvalid.out.mono ?_); rw [Hv.out]; rintro e w1 ⟨rfl, hb1⟩)
    go_ret2
    exact ⟨_, rfl, World.ownsRow_nil _ _ _ _, hb1⟩
end Go.Proofs.Ytkcpblmcpgnofaa
