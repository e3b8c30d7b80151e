/- Walks: ref.Stuck. -/
import Derived.Test.YtkcpblmcpgnofaaR2
namespace Go.Proofs.Ytkcpblmcpgnofaa
open Go.RowKit

/-- The places that hold a number below 0. -/
def stkTo (R : List Int) (k : Nat) : List Int := ((List.range k).filter (fun i => decide (R.getD i 0 < 0))).map (fun i : Nat => (i : Int))
def stk (R : List Int) : List Int := stkTo R R.length
theorem stkTo_hit {R : List Int} {k : Nat} {x : Int} (hx : R[k]? = some x) (h : x < 0) : stkTo R (k + 1) = stkTo R k ++ [(k : Int)] := by
  unfold stkTo; rw [List.range_succ, List.filter_append, List.map_append]
  simp [hx, h]
theorem stkTo_miss {R : List Int} {k : Nat} {x : Int} (hx : R[k]? = some x) (h : ¬ x < 0) : stkTo R (k + 1) = stkTo R k := by
  unfold stkTo; rw [List.range_succ, List.filter_append, List.map_append]
  simp [hx]; omega
theorem stkTo_le (R : List Int) (k : Nat) : (stkTo R k).length ≤ k := by
  unfold stkTo; rw [List.length_map]; exact Nat.le_trans (List.length_filter_le _ _) (by simp)

theorem itR_len (n : Nat) (L : List Nd) : ∀ k, (itR n L k).1.length = n := by
  have key : ∀ (M : List Nd) (fr : List Bool) (r : Int) (p : List Int × List Bool), (M.foldl (rStep fr r) p).1.length = p.1.length := by
    intro M fr r
    induction M with
    | nil => intro p; rfl
    | cons d M ih =>
      intro p
      rw [List.foldl_cons, ih]
      unfold rStep
      split
      · simp [setAt]
      · rfl
  intro k
  induction k with
  | zero => exact length_outI n L n
  | succ k ih => show (rTo L _ _ _ _).1.length = n; unfold rTo; rw [key]; exact ih
theorem refRounds_len (n : Nat) (L : List Nd) : (refRounds n L).length = n := itR_len n L n

set_option maxHeartbeats 1000000 in
set_option maxRecDepth 100000 in
theorem refStuck_any (n : Nat) (ao : Option Addr) (cap : Nat) (L : List Nd) (w : World) (h : Needs w w.heap.size ao L) (hv : Vld n L) :
    Calls Try.prog 19 #[.int .i64 n, .slice ao L.length cap] w (RInts w (stk (refRounds n L))) := by
  have hn64 : n ≤ 64 := by have := hv.n1; omega
  obtain ⟨i3, h30, h31, h32, h33⟩ := info_parts info3
  have Hr := Lib.hid (refRounds_any n ao cap L w h hv)
  have hlen := refRounds_len n L
  generalize refRounds n L = R at Hr hlen
  have Hlen := Lib.hid hlen
  clear hlen hv
  go_enter Try.func19, Try.ntmps19
  go_wp2_with (go_at_call 18; go_must (refine Hr.out.mono ?_); rintro e w1 ⟨v, rfl, hown, hb1⟩; obtain ⟨ar, cr, rfl, hR⟩ := own_ints hown)
  go_loopw [5, 7] (fun o i wr => ∃ k : Nat, k ≤ n ∧ i = .int .i64 k ∧ wr.ownsRow w1.heap.size 3 1 o (stkTo R k).length ((stkTo R k).map (.int .i64)) ∧ Below w1.heap.size w1 wr) (fun _ i _ => n - (RowKit.intOf i).toNat)
  case atStart => exact ⟨0, Nat.zero_le _, rfl, World.ownsRow_nil _ _ _ _, Below.refl _ _⟩
  case round =>
    obtain ⟨k, hk, rfl, ho, hb⟩ := hrel
    have hle := stkTo_le R k
    by_cases hlt : k < n
    · obtain ⟨b, o, x, rfl, hbB, hx, hc⟩ := (hR.below hb).get (k := k) (by rw [Hlen.out]; exact hlt)
      have hkn : (k : Int) < n := by omega
      have hkR : (k : Int) < (R.length : Int) := by rw [Hlen.out]; exact hkn
      have Hx := Lib.hid hx
      clear hx
      have hsz := hb.size
      have hBw := hb1.size
      have Ho := Lib.hid ho
      clear ho
      by_cases hx0 : x < 0
      · go_wp2_with (at_builtin; go_must (refine wpList_append_cells _ rfl (.tmp 21) (.tmp 23) 27 rfl w1.heap.size 3 i3 (.int .i64 0) 1 8 Try.underlying27 h30 h31 h32 h33 rfl (by omega) u5 _ _ rfl (Ho.out.alloc _) (wr.heap.size + 1) (some ⟨wr.heap.size, 0, none⟩) 1 1 [.int .i64 k] rfl rfl (cells_new wr [.int .i64 k] 3) (ints_oneCell' [(k : Int)]) (by unfold maxLen; omega) (by omega) (by simp; omega) ?_); intro v4 w4 hown4 hg4 hat4)
        go_roundw
        case rel =>
          refine ⟨k + 1, by omega, by go_num, ?_, (hb.al _).grown hg4 (hb.al _).size (fun g hg => (Ho.out.lt g hg).1)⟩
          rw [stkTo_hit Hx.out hx0]
          simpa using hown4
        case measure => simp [RowKit.intOf]; omega
      · go_wp2_with fail
        go_roundw
        case rel =>
          refine ⟨k + 1, by omega, by go_num, ?_, hb⟩
          rw [stkTo_miss Hx.out hx0]
          exact Ho.out
        case measure => simp [RowKit.intOf]; omega
    · obtain rfl : n = k := by omega
      go_wp2_with fail
      go_ret
      refine ⟨_, rfl, ?_, hb1.call hb⟩
      have := ownsRow_base_a ho hb1.size
      unfold stk
      rw [Hlen.out]
      exact this
end Go.Proofs.Ytkcpblmcpgnofaa
