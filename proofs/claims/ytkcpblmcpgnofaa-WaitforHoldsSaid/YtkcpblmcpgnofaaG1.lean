/- Walks: law.within, sorted, given; the numbers of known. -/
import Derived.Test.YtkcpblmcpgnofaaF3
namespace Go.Proofs.Ytkcpblmcpgnofaa
open Go.RowKit Go.Maps

/-- The needs of the examples. -/
def LG : List Nd := [⟨0, [1, 2], false⟩, ⟨1, [0, 4], true⟩, ⟨2, [2], false⟩]

theorem g_rounds : roundsE 5 LG = ([-1, -1, -1, 0, 0], 0) := by decide +kernel
theorem g_S : stuckS 5 LG = [0, 1, 2] := by decide +kernel
theorem g_sort : sortI [0, 1, 2] = [0, 1, 2] := List.mergeSort_of_pairwise (by decide)
theorem g_v : vld 5 LG = true := by decide +kernel
theorem g_stuck : stuckE 5 LG = ([0, 1, 2], 0) := by
  unfold stuckE
  rw [g_v, if_pos rfl, show ((5 : Int)).toNat = 5 from rfl, show (solveL 5 LG).2 = [0, 1, 2] from g_S, g_sort]
theorem g_chk1 : chk 5 LG [0, 1, 2] = 0 := by decide +kernel
theorem g_chk2 : chk 5 LG [2] = 0 := by decide +kernel
theorem g_chk3 : chk 5 LG [0, 1] = 10 := by decide +kernel
theorem g_chk4 : chk 5 LG [3] = 10 := by decide +kernel
theorem g_cyc0 : cycL [0, 1, 2] LG = [0, 1] := by decide +kernel
theorem g_cycle : cycleE 5 LG = ([0, 1], 0) := by
  unfold cycleE
  rw [g_v, if_pos rfl, show ((5 : Int)).toNat = 5 from rfl, g_S, g_sort, if_neg (by decide), g_cyc0]
theorem g_br0 : brkTo 5 LG [0, 1, 2] 3 = (2, 0) := by decide +kernel
theorem g_break : breakE 5 LG = (2, 0, 0) := by
  unfold breakE
  rw [g_v, if_pos rfl, show ((5 : Int)).toNat = 5 from rfl, g_S, g_sort, if_neg (by decide), show ([0, 1, 2] : List Int).length = 3 from rfl, g_br0]
theorem g_rest : rest LG [2] = [⟨0, [1, 2], false⟩, ⟨1, [0, 4], true⟩] := by rfl
theorem g_free : freeE 5 LG [2] = ([⟨0, [1, 2], false⟩, ⟨1, [0, 4], true⟩], 0) := by
  unfold freeE
  rw [g_v, show srt 5 [2] = true by decide, if_pos (by decide), if_neg (by decide), g_rest]
theorem g_rounds2 : roundsE 5 [⟨0, [1, 2], false⟩, ⟨1, [0, 4], true⟩] = ([1, 2, 0, 0, 0], 0) := by decide +kernel
theorem g_free2 : freeE 5 LG [3] = ([], 9) := by
  unfold freeE
  rw [g_v, show srt 5 [3] = true by decide, if_pos (by decide), if_pos (by decide)]
theorem g_wf : WfN LG := by
  refine ⟨by decide, ?_, ?_⟩
  · intro d hd; simp [LG] at hd; rcases hd with rfl | rfl | rfl <;> exact wf64_small (by decide) (by decide)
  · intro d hd; simp [LG] at hd; rcases hd with rfl | rfl | rfl <;> decide

set_option maxHeartbeats 400000 in
theorem within_any (aa ab : Option Addr) (ca cb : Nat) (xs ys : List Int) (w : World) (B : Nat) (ha : Ints w B aa xs) (hb : Ints w B ab ys) (hla : xs.length ≤ 1000000) (hlb : ys.length ≤ 1000000) :
    Calls Try.prog 28 #[.slice aa xs.length ca, .slice ab ys.length cb] w fun e w' => e = .returned (.bool (xs.all (hasB ys))) ∧ w = w' := by
  have Hhas : Hid (∀ x, Calls Try.prog 29 #[.slice ab ys.length cb, .int .i64 x] w fun e w' => e = .returned (.bool (hasB ys x)) ∧ w = w') := fun x => has_any ab cb ys x w B hb hlb
  go_enter Try.func28, Try.ntmps28
  go_wp2
  go_loop [5] (fun i => ∃ k : Nat, k ≤ xs.length ∧ i = .int .i64 k ∧ Hid (∀ j x, j < k → xs[j]? = some x → hasB ys x = true)) (fun i => xs.length - (RowKit.intOf i).toNat)
  case atStart => exact ⟨0, Nat.zero_le _, rfl, fun j x hj => by omega⟩
  case round =>
    obtain ⟨k, hk, rfl, hno⟩ := hrel
    by_cases hlt : k < xs.length
    · obtain ⟨b, o, x, rfl, hbB, hx, hc⟩ := ha.get hlt
      have Hx := Lib.hid hx
      clear hx
      cases hh : hasB ys x
      · have Hh := Lib.hid hh
        clear hh
        go_wp2_with (go_at_call 29; go_must (refine (Hhas.out x).mono ?_); rw [Hh.out]; rintro e w' ⟨rfl, rfl⟩)
        go_ret
        exact ⟨ret_bool (Eq.symm (by rw [List.all_eq_false]; exact ⟨x, List.mem_of_getElem? Hx.out, by rw [Hh.out]; decide⟩)), rfl⟩
      · have Hh := Lib.hid hh
        clear hh
        go_wp2_with (go_at_call 29; go_must (refine (Hhas.out x).mono ?_); rw [Hh.out]; rintro e w' ⟨rfl, rfl⟩)
        go_round
        case rel =>
          refine ⟨k + 1, by omega, by go_num, fun j z hj hz => ?_⟩
          rcases Nat.lt_succ_iff_lt_or_eq.1 hj with hj | rfl
          · exact hno j z hj hz
          · rw [Hx.out] at hz; injection hz with hz; subst hz; exact Hh.out
        case measure => simp [RowKit.intOf]; omega
    · obtain rfl : k = xs.length := by omega
      go_wp2
      go_ret
      exact ⟨ret_bool (Eq.symm (by rw [List.all_eq_true]; intro x hx; obtain ⟨j, hj⟩ := List.mem_iff_getElem?.1 hx; exact hno j x (List.getElem?_eq_some_iff.1 hj).1 hj)), rfl⟩

/-- The numbers from 0 to k - 1 that a list has. -/
def sort64To (xs : List Int) (k : Nat) : List Int := ((List.range k).map (fun i : Nat => (i : Int))).filter (hasB xs)
theorem sort64To_step (xs : List Int) (k : Nat) : sort64To xs (k + 1) = sort64To xs k ++ (if hasB xs k then [(k : Int)] else []) := by
  unfold sort64To
  rw [List.range_succ, List.map_append, List.filter_append]
  cases h : hasB xs k <;> simp [h]
theorem sort64To_le (xs : List Int) (k : Nat) : (sort64To xs k).length ≤ k := by
  unfold sort64To; exact Nat.le_trans (List.length_filter_le _ _) (by simp)

set_option maxRecDepth 100000 in
set_option maxHeartbeats 400000 in
theorem sorted64_any (ao : Option Addr) (cap : Nat) (xs : List Int) (w : World) (h : Ints w w.heap.size ao xs) (hl : xs.length ≤ 1000000) :
    Calls Try.prog 30 #[.slice ao xs.length cap] w (RInts w (sort64To xs 64)) := by
  have Hhas : Hid (∀ W x, Below w.heap.size w W → Calls Try.prog 29 #[.slice ao xs.length cap, .int .i64 x] W fun e w' => e = .returned (.bool (hasB xs x)) ∧ W = w') := fun W x hb => has_any ao cap xs x W w.heap.size (h.below hb) hl
  obtain ⟨i3, h30, h31, h32, h33⟩ := info_parts info3
  go_enter Try.func30, Try.ntmps30
  go_wp2
  go_loopw [3, 4] (fun v i wr => ∃ k : Nat, k ≤ 64 ∧ i = .int .i64 k ∧ wr.ownsRow w.heap.size 3 1 v (sort64To xs k).length ((sort64To xs k).map (.int .i64)) ∧ Below w.heap.size w wr) (fun _ i _ => 64 - (RowKit.intOf i).toNat)
  case atStart => exact ⟨0, Nat.zero_le _, rfl, World.ownsRow_nil _ _ _ _, Below.refl _ _⟩
  case round =>
    obtain ⟨k, hk, rfl, hown, hb⟩ := hrel
    by_cases hlt : k < 64
    · have hle := sort64To_le xs k
      have hst := sort64To_step xs k
      have hsz := hb.size
      have Hown := Lib.hid hown
      clear hown
      cases hh : hasB xs k
      · rw [hh] at hst
        have Hh := Lib.hid hh
        have Hst := Lib.hid hst
        clear hh hst
        go_wp2_with (go_at_call 29; go_must (refine (Hhas.out _ k hb).mono ?_); rw [Hh.out]; rintro e w' ⟨rfl, rfl⟩)
        go_roundw
        case rel => exact ⟨k + 1, by omega, by go_num, by rw [Hst.out]; simpa using Hown.out, hb⟩
        case measure => simp [RowKit.intOf]; omega
      · rw [hh] at hst
        have Hh := Lib.hid hh
        have Hst := Lib.hid hst
        clear hh hst
        go_wp2_with (first
          | (go_at_call 29; go_must (refine (Hhas.out _ k hb).mono ?_); rw [Hh.out]; rintro e w' ⟨rfl, rfl⟩)
          | (at_builtin; go_must (refine wpList_append_cells _ rfl (.tmp 12) (.tmp 14) 27 rfl w.heap.size 3 i3 (.int .i64 0) 1 8 Try.underlying27 h30 h31 h32 h33 rfl (by omega) u3 _ _ rfl (Hown.out.alloc _) (wr.heap.size + 1) (some ⟨wr.heap.size, 0, none⟩) 1 1 [.int .i64 k] rfl rfl (cells_new wr [.int .i64 k] 3) (ints_oneCell' [(k : Int)]) (by unfold maxLen; omega) (by omega) (by simp; omega) ?_); intro v4 w4 hown4 hg4 hat4))
        go_roundw
        case rel => exact ⟨k + 1, by omega, by go_num, by rw [Hst.out]; simpa using hown4, (hb.al _).grown hg4 (hb.al _).size (fun g hg => (Hown.out.lt g hg).1)⟩
        case measure => simp [RowKit.intOf]; omega
    · obtain rfl : k = 64 := by omega
      go_wp2
      go_ret
      exact ⟨_, rfl, hown, hb⟩

/-- Needs that read. -/
def RNd (w : World) (L : List Nd) (e : Ending) (w' : World) : Prop :=
  ∃ ao cap, e = .returned (.slice ao L.length cap) ∧ Needs w' w'.heap.size ao L ∧ Below w.heap.size w w'

set_option maxHeartbeats 400000 in
theorem given_any (w : World) : Calls Try.prog 31 #[] w (RNd w LG) := by
  go_enter Try.func31, Try.ntmps31
  go_wp2
  go_ret
  refine ⟨some ⟨w.heap.size + 1 + 1 + 1, 0, none⟩, 3, rfl, ?_, (((Below.refl _ _).al _).al _).al _ |>.al _⟩
  have hi1 : ∀ (W : World) (a c : Int), Ints (W.alloc (.cells #[.int .i64 a, .int .i64 c] 3)) (W.heap.size + 1) (some ⟨W.heap.size, 0, none⟩) [a, c] := fun W a c =>
    (show Cells _ _ _ ([a, c].map (.int .i64)) from cells_new W [.int .i64 a, .int .i64 c] 3).ints
  have hi2 : ∀ (W : World) (a : Int), Ints (W.alloc (.cells #[.int .i64 a] 3)) (W.heap.size + 1) (some ⟨W.heap.size, 0, none⟩) [a] := fun W a =>
    (show Cells _ _ _ ([a].map (.int .i64)) from cells_new W [.int .i64 a] 3).ints
  have hup : ∀ (W : World) (o : Obj) (B : Nat) (a : Option Addr) (xs : List Int), Ints W B a xs → B ≤ W.heap.size → Ints (W.alloc o) (W.alloc o).heap.size a xs := fun W o B a xs h hB => (h.below ((Below.refl B W).alloc hB o)).mono (by simp; omega)
  have hup2 : ∀ (W : World) (o : Obj) (a : Option Addr) (xs : List Int), Ints W W.heap.size a xs → Ints (W.alloc o) (W.alloc o).heap.size a xs := fun W o a xs h => hup W o _ a xs h (Nat.le_refl _)
  generalize hW1 : w.alloc (.cells #[.int .i64 1, .int .i64 2] 3) = W1
  generalize hW2 : W1.alloc (.cells #[.int .i64 0, .int .i64 4] 3) = W2
  generalize hW3 : W2.alloc (.cells #[.int .i64 2] 3) = W3
  have s1 : W1.heap.size = w.heap.size + 1 := by rw [← hW1]; simp
  have s2 : W2.heap.size = w.heap.size + 1 + 1 := by rw [← hW2]; simp [s1]
  have s3 : W3.heap.size = w.heap.size + 1 + 1 + 1 := by rw [← hW3]; simp [s2]
  have a1 : Ints W1 W1.heap.size (some ⟨w.heap.size, 0, none⟩) [1, 2] := by rw [s1, ← hW1]; exact hi1 w 1 2
  have a2 : Ints W2 W2.heap.size (some ⟨w.heap.size, 0, none⟩) [1, 2] := by rw [← hW2]; exact hup2 _ _ _ _ a1
  have b2 : Ints W2 W2.heap.size (some ⟨w.heap.size + 1, 0, none⟩) [0, 4] := by rw [s2, ← s1, ← hW2]; exact hi1 W1 0 4
  have a3 : Ints W3 W3.heap.size (some ⟨w.heap.size, 0, none⟩) [1, 2] := by rw [← hW3]; exact hup2 _ _ _ _ a2
  have b3 : Ints W3 W3.heap.size (some ⟨w.heap.size + 1, 0, none⟩) [0, 4] := by rw [← hW3]; exact hup2 _ _ _ _ b2
  have c3 : Ints W3 W3.heap.size (some ⟨w.heap.size + 1 + 1, 0, none⟩) [2] := by rw [s3, ← s2, ← hW3]; exact hi2 W2 2
  have hcell := cells_new W3 [.int .i64 0, .slice (some ⟨w.heap.size, 0, none⟩) 2 2, .bool false, .int .i64 1, .slice (some ⟨w.heap.size + 1, 0, none⟩) 2 2, .bool true, .int .i64 2, .slice (some ⟨w.heap.size + 1 + 1, 0, none⟩) 1 1, .bool false] 42
  rw [← s3]
  have hnd : NdCells W3 W3.heap.size [.int .i64 0, .slice (some ⟨w.heap.size, 0, none⟩) 2 2, .bool false, .int .i64 1, .slice (some ⟨w.heap.size + 1, 0, none⟩) 2 2, .bool true, .int .i64 2, .slice (some ⟨w.heap.size + 1 + 1, 0, none⟩) 1 1, .bool false] LG :=
    (((NdCells.nil W3 W3.heap.size).snoc (t := 0) (all := false) (ci := 2) a3).snoc (t := 1) (all := true) (ci := 2) b3).snoc (t := 2) (all := false) (ci := 1) c3
  refine Needs.mono (NdCells.needs (B := W3.heap.size + 1) ?_ hcell) (by simp)
  exact (hnd.below ((Below.refl _ _).alloc (Nat.le_refl _) _)).mono (by omega)
end Go.Proofs.Ytkcpblmcpgnofaa
