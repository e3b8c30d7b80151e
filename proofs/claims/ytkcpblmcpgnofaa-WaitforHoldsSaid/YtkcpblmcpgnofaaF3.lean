/- Walks: waitfor.Breaker, ref.Breaker. -/
import Derived.Test.YtkcpblmcpgnofaaF2
import Derived.Test.YtkcpblmcpgnofaaY3
namespace Go.Proofs.Ytkcpblmcpgnofaa
open Go.RowKit Go.Maps

/-- How many stay stuck without x's need. -/
def leftOf (n : Nat) (L : List Nd) (x : Int) : Nat := (stuckS n (rest L [x])).length
def brkStep (n : Nat) (L : List Nd) (p : Int × Int) (x : Int) : Int × Int := if (leftOf n L x : Int) < p.2 then (x, leftOf n L x) else p
def brkTo (n : Nat) (L : List Nd) (low : List Int) (k : Nat) : Int × Int := (low.take k).foldl (brkStep n L) (0, (n : Int) + 1)
def breakE (n : Int) (L : List Nd) : Int × Int × Int :=
  if vld n L then (if (sortI (stuckS n.toNat L)).length = 0 then (0, 0, 9) else
    ((brkTo n.toNat L (sortI (stuckS n.toNat L)) (sortI (stuckS n.toNat L)).length).1, (brkTo n.toNat L (sortI (stuckS n.toNat L)) (sortI (stuckS n.toNat L)).length).2, 0)) else (0, 0, 2)
theorem brkTo_step {n : Nat} {L : List Nd} {low : List Int} {k : Nat} {x : Int} (hx : low[k]? = some x) : brkTo n L low (k + 1) = brkStep n L (brkTo n L low k) x := by
  obtain ⟨hk, he⟩ := List.getElem?_eq_some_iff.1 hx
  unfold brkTo; rw [List.take_succ_eq_append_getElem hk, List.foldl_append, he]; rfl
theorem leftOf_le (n : Nat) (L : List Nd) (x : Int) : leftOf n L x ≤ L.length := by
  unfold leftOf stuckS; exact Nat.le_trans (solveL_stuck_le _ _) (rest_le _ _)
theorem brkTo_range {n : Nat} {L : List Nd} {low : List Int} (hr : ∀ x ∈ low, 0 ≤ x ∧ x < n) (hL : L.length ≤ n) : ∀ k, k ≤ low.length → 0 ≤ (brkTo n L low k).1 ∧ (brkTo n L low k).1 ≤ n ∧ 0 ≤ (brkTo n L low k).2 ∧ (brkTo n L low k).2 ≤ (n : Int) + 1 := by
  intro k
  induction k with
  | zero => intro _; simp [brkTo]; omega
  | succ k ih =>
    intro hk
    have hx := List.getElem?_eq_getElem (l := low) (i := k) (by omega)
    have h1 := hr _ (List.getElem_mem (l := low) (n := k) (by omega))
    have h2 := ih (by omega)
    have h3 := leftOf_le n L low[k]
    rw [brkTo_step hx]
    unfold brkStep
    split
    · show 0 ≤ low[k] ∧ low[k] ≤ (n : Int) ∧ (0 : Int) ≤ (leftOf n L low[k] : Int) ∧ (leftOf n L low[k] : Int) ≤ (n : Int) + 1
      omega
    · exact h2
theorem freeE_one {n : Nat} {L : List Nd} (h : Vld n L) {d : Nd} (hd : d ∈ L) : freeE n L [d.task] = (rest L [d.task], 0) := by
  have hs : srt n [d.task] = true := by
    have := h.task d hd
    refine srt_hit (fun k hk => ?_)
    simp at hk
    subst hk
    exact srtAt_zero rfl this.1 this.2
  unfold freeE
  rw [vld_iff.2 h, hs]
  simp only [Bool.and_self, if_true]
  rw [if_neg]
  intro hh
  exact hh ((rest_all h (by simp)).2 (fun t ht => by simp at ht; exact ⟨d, hd, ht.symm⟩))
theorem WfN.rest {L : List Nd} (h : WfN L) (T : List Int) : WfN (rest L T) where
  len := Nat.le_trans (rest_le _ _) h.len
  task := fun d hd => h.task d (rest_sub hd)
  on := fun d hd => h.on d (rest_sub hd)

/-- Two ints and an error. -/
def RThree (w : World) (p : Int × Int × Int) (e : Ending) (w' : World) : Prop :=
  e = .returned (.tuple #[.int .i64 p.1, .int .i64 p.2.1, .int .i64 p.2.2]) ∧ Below w.heap.size w w'

theorem needs_own {w : World} {base : Nat} {v : Value} {cs : List Value} {L : List Nd} (hv : w.ownsRow base 42 3 v L.length cs) (hn : NdOwn w base cs L) : ∃ ao cap, v = .slice ao L.length cap ∧ Needs w w.heap.size ao L := by
  obtain ⟨ao, cap, rfl, hc⟩ := own_cells hv
  exact ⟨ao, cap, rfl, hn.cells.needs hc⟩

theorem ints_new (w : World) (x : Int) : Ints (w.alloc (.cells #[.int .i64 x] 3)) (w.alloc (.cells #[.int .i64 x] 3)).heap.size (some ⟨w.heap.size, 0, none⟩) [x] := by
  have := cells_new w [.int .i64 x] 3
  have h2 : Cells (w.alloc (.cells #[.int .i64 x] 3)) (w.heap.size + 1) (some ⟨w.heap.size, 0, none⟩) ([x].map (.int .i64)) := this
  exact h2.ints.mono (by simp)

set_option maxHeartbeats 1000000 in
set_option maxRecDepth 100000 in
theorem breaker_any (n : Int) (ao : Option Addr) (cap : Nat) (L : List Nd) (w : World) (h : Needs w w.heap.size ao L) (hw : WfN L) :
    Calls Try.prog 26 #[.int .i64 n, .slice ao L.length cap] w (RThree w (breakE n L)) := by
  have Hstuck := Lib.hid (stuck_any n ao cap L w h hw)
  cases hv : vld n L
  · have he : breakE n L = (0, 0, 2) := by unfold breakE; rw [hv]; rfl
    have he2 : stuckE n L = ([], 2) := by unfold stuckE; rw [hv]; rfl
    rw [he]
    rw [he2] at Hstuck
    clear hv he he2
    go_enter Try.func26, Try.ntmps26
    go_wp2_with (go_at_call 15; go_must (refine Hstuck.out.mono ?_); rintro e w1 ⟨v, rfl, hown, hb1⟩; obtain ⟨al, cl, rfl, hlow⟩ := own_ints hown)
    go_ret3
    exact ⟨rfl, hb1⟩
  have hV := vld_iff.1 hv
  obtain ⟨m, rfl⟩ := Int.eq_ofNat_of_zero_le hV.n0
  have hlowiff : ∀ x, x ∈ sortI (stuckS m L) ↔ x ∈ stuckS m L := fun x => (sortI_perm _).mem_iff
  have he2 : stuckE m L = (sortI (stuckS m L), 0) := by unfold stuckE; rw [hv]; rfl
  have he : breakE m L = if (sortI (stuckS m L)).length = 0 then (0, 0, 9) else ((brkTo m L (sortI (stuckS m L)) (sortI (stuckS m L)).length).1, (brkTo m L (sortI (stuckS m L)) (sortI (stuckS m L)).length).2, 0) := by unfold breakE; rw [hv]; rfl
  have hlen : (sortI (stuckS m L)).length ≤ 1000000 := by rw [sortI_length]; have := solveL_stuck_le m L; have := hw.len; unfold stuckS; omega
  rw [he]
  rw [he2] at Hstuck
  by_cases h0 : (sortI (stuckS m L)).length = 0
  · rw [if_pos h0]
    have h0b : (((sortI (stuckS m L)).length : Int) == 0) = true := beq_iff_eq.2 (by omega)
    generalize sortI (stuckS m L) = low at Hstuck h0 h0b
    have H0 := Lib.hid h0
    clear h0 he he2 hv hlowiff
    go_enter Try.func26, Try.ntmps26
    go_wp2_with (go_at_call 15; go_must (refine Hstuck.out.mono ?_); rintro e w1 ⟨v, rfl, hown, hb1⟩; obtain ⟨al, cl, rfl, hlow⟩ := own_ints hown)
    go_ret3
    exact ⟨rfl, hb1⟩
  rw [if_neg h0]
  have h0b : (((sortI (stuckS m L)).length : Int) == 0) = false := beq_eq_false_iff_ne.2 (by omega)
  have hfree : ∀ x ∈ sortI (stuckS m L), freeE m L [x] = (rest L [x], 0) := by
    intro x hx
    obtain ⟨d, hd, rfl⟩ := stuckS_task ((hlowiff x).1 hx)
    exact freeE_one hV hd
  have hrange : ∀ x ∈ sortI (stuckS m L), 0 ≤ x ∧ x < m := fun x hx => by
    obtain ⟨d, hd, rfl⟩ := stuckS_task ((hlowiff x).1 hx); exact hV.task d hd
  have hbr := brkTo_range (n := m) (L := L) (low := sortI (stuckS m L)) hrange (by have := hV.len; omega)
  generalize sortI (stuckS m L) = low at Hstuck h0 h0b hfree hrange hbr hlen ⊢
  have H0 := Lib.hid h0
  have Hfree := Lib.hid hfree
  have Hrange := Lib.hid hrange
  have Hbr := Lib.hid hbr
  have HV := Lib.hid hV
  have Hw := Lib.hid hw
  have hm64 : m ≤ 64 := by have := hV.n1; omega
  clear h0 he he2 hv hlowiff hfree hrange hV hw hbr
  go_enter Try.func26, Try.ntmps26
  go_wp2_with (go_at_call 15; go_must (refine Hstuck.out.mono ?_); rintro e w1 ⟨v, rfl, hown, hb1⟩; obtain ⟨al, cl, rfl, hlow⟩ := own_ints hown)
  go_loopw [4, 5, 30] (fun t l i wr => ∃ k : Nat, k ≤ low.length ∧ i = .int .i64 k ∧ t = .int .i64 (brkTo m L low k).1 ∧ l = .int .i64 (brkTo m L low k).2 ∧ Below w1.heap.size w1 wr) (fun _ _ i _ => low.length - (RowKit.intOf i).toNat)
  case atStart => exact ⟨0, Nat.zero_le _, rfl, rfl, by go_num, Below.refl _ _⟩
  case round =>
    obtain ⟨k, hk, rfl, rfl, rfl, hb2⟩ := hrel
    by_cases hlt : k < low.length
    · obtain ⟨b, o, x, rfl, hbB, hx, hcx⟩ := (hlow.below hb2).get hlt
      have hxm := List.mem_of_getElem? hx
      have Hx := Lib.hid hx
      have hF : ∀ W, Below w.heap.size w W → Ints W W.heap.size (some ⟨wr.heap.size, 0, none⟩) [x] → Calls Try.prog 24 #[.int .i64 m, .slice ao L.length cap, .slice (some ⟨wr.heap.size, 0, none⟩) 1 1] W (RNeedsE W (rest L [x], 0)) := by
        intro W hW hi
        have := free_any24 m ao (some ⟨wr.heap.size, 0, none⟩) cap 1 L [x] W (h.up (Nat.le_refl _) hW) hi Hw.out (by simp)
        rw [Hfree.out x hxm] at this
        exact this
      have HF := Lib.hid (hF _ ((hb1.call hb2).al (.cells #[.int .i64 x] 3)) (ints_new wr x))
      have Hsolve : Hid (∀ W a c, Needs W W.heap.size a (rest L [x]) → Calls Try.prog 35 #[.int .i64 m, .slice a (rest L [x]).length c] W (RSolve W (solveL m (rest L [x])).1 (solveL m (rest L [x])).2)) :=
        fun W a c hn => solve_any m a c (rest L [x]) W hn (HV.out.rest [x])
      have hbrk := Hbr.out k hk
      have hstep := brkTo_step (n := m) (L := L) Hx.out
      have hleft : (solveL m (rest L [x])).2.length = leftOf m L x := rfl
      have Hstep := Lib.hid hstep
      have Hleft := Lib.hid hleft
      clear hx hF hstep hleft
      generalize hp1 : (brkTo m L low k).1 = p1 at hbrk ⊢
      generalize hp2 : (brkTo m L low k).2 = p2 at hbrk ⊢
      have Hp1 := Lib.hid hp1
      have Hp2 := Lib.hid hp2
      clear hp1 hp2
      by_cases hlss : (leftOf m L x : Int) < p2
      · go_wp2_with (first
          | (go_at_call 24; go_must (refine HF.out.mono ?_); rintro e w3 ⟨v3, cs3, rfl, hown3, hnd3, hb3⟩; obtain ⟨a3, c3, rfl, hneeds3⟩ := needs_own hown3 hnd3)
          | (go_at_call 35; go_must (refine (Hsolve.out _ _ _ hneeds3).mono ?_); rintro e w4 ⟨bm, c4, D, rfl, hown4, hmap4, hset4, hb4⟩; have hsize := hset4.size; rw [Hleft.out] at hsize)
          | (at_len; go_must (refine wpList_len_own _ rfl _ 51 rfl 3 52 Try.underlying51 unitElem bm c4 D rfl hmap4 ?_); rw [hsize]))
        go_roundw
        case rel =>
          have hs := Hstep.out
          rw [show brkTo m L low k = (p1, p2) by rw [← Hp1.out, ← Hp2.out]] at hs
          unfold brkStep at hs
          rw [if_pos hlss] at hs
          refine ⟨k + 1, by omega, by go_num, ?_, ?_, ((hb2.al _).call hb3).call hb4⟩
          · rw [hs]
          · rw [hs]
        case measure => simp [RowKit.intOf]; omega
      · go_wp2_with (first
          | (go_at_call 24; go_must (refine HF.out.mono ?_); rintro e w3 ⟨v3, cs3, rfl, hown3, hnd3, hb3⟩; obtain ⟨a3, c3, rfl, hneeds3⟩ := needs_own hown3 hnd3)
          | (go_at_call 35; go_must (refine (Hsolve.out _ _ _ hneeds3).mono ?_); rintro e w4 ⟨bm, c4, D, rfl, hown4, hmap4, hset4, hb4⟩; have hsize := hset4.size; rw [Hleft.out] at hsize)
          | (at_len; go_must (refine wpList_len_own _ rfl _ 51 rfl 3 52 Try.underlying51 unitElem bm c4 D rfl hmap4 ?_); rw [hsize]))
        go_roundw
        case rel =>
          have hs := Hstep.out
          rw [show brkTo m L low k = (p1, p2) by rw [← Hp1.out, ← Hp2.out]] at hs
          unfold brkStep at hs
          rw [if_neg (Int.not_lt.2 hlss)] at hs
          refine ⟨k + 1, by omega, by go_num, ?_, ?_, ((hb2.al _).call hb3).call hb4⟩
          · rw [hs]
          · rw [hs]
        case measure => simp [RowKit.intOf]; omega
    · obtain rfl : k = low.length := by omega
      go_wp2_with fail
      go_ret3
      exact ⟨rfl, hb1.call hb2⟩

/-- The reference's best and left behind k tasks. -/
def rb (n : Nat) (L : List Nd) (low : List Int) (k : Nat) : Int × Int := if k = 0 then (-1, 0) else brkTo n L low k
theorem rb_step {n : Nat} {L : List Nd} {low : List Int} (hr : ∀ x ∈ low, 0 ≤ x ∧ x < n) (hL : L.length ≤ n) {k : Nat} {x : Int} (hx : low[k]? = some x) :
    rb n L low (k + 1) = if (rb n L low k).1 < 0 ∨ (leftOf n L x : Int) < (rb n L low k).2 then (x, (leftOf n L x : Int)) else rb n L low k := by
  have hk := (List.getElem?_eq_some_iff.1 hx).1
  unfold rb
  rw [if_neg (by omega), brkTo_step hx]
  by_cases h0 : k = 0
  · subst h0
    have := leftOf_le n L x
    rw [if_pos rfl, if_pos (.inl (by decide))]
    unfold brkStep brkTo
    rw [if_pos (by simp; omega)]
  · rw [if_neg h0]
    have h1 := brkTo_range hr hL k (by omega)
    unfold brkStep
    by_cases h2 : (leftOf n L x : Int) < (brkTo n L low k).2
    · rw [if_pos h2, if_pos (.inr h2)]
    · rw [if_neg h2, if_neg (by rintro (h3 | h3) <;> omega)]
theorem rb_range {n : Nat} {L : List Nd} {low : List Int} (hr : ∀ x ∈ low, 0 ≤ x ∧ x < n) (hL : L.length ≤ n) (k : Nat) (hk : k ≤ low.length) : -1 ≤ (rb n L low k).1 ∧ (rb n L low k).1 ≤ n ∧ 0 ≤ (rb n L low k).2 ∧ (rb n L low k).2 ≤ (n : Int) + 1 := by
  unfold rb
  split
  · simp; omega
  · have := brkTo_range hr hL k hk
    omega

set_option maxHeartbeats 1000000 in
set_option maxRecDepth 100000 in
theorem refBreaker_any (n : Int) (ao : Option Addr) (cap : Nat) (L : List Nd) (w : World) (h : Needs w w.heap.size ao L) (hw : WfN L) :
    Calls Try.prog 27 #[.int .i64 n, .slice ao L.length cap] w (RThree w (breakE n L)) := by
  have Hvalid := Lib.hid (refValid_any n ao cap L w w.heap.size h hw.len hw.on)
  cases hv : vld n L
  · have he : breakE n L = (0, 0, 2) := by unfold breakE; rw [hv]; rfl
    rw [he]
    have Hv := Lib.hid hv
    clear hv he
    go_enter Try.func27, Try.ntmps27
    go_wp2_with (go_at_call 12; go_must (refine Hvalid.out.mono ?_); rw [Hv.out]; rintro e w1 ⟨rfl, m, rfl⟩)
    go_ret3
    exact ⟨rfl, (Below.refl _ _).dn _⟩
  have hV := vld_iff.1 hv
  obtain ⟨m, rfl⟩ := Int.eq_ofNat_of_zero_le hV.n0
  have hlowiff : ∀ x, x ∈ sortI (stuckS m L) ↔ x ∈ stuckS m L := fun x => (sortI_perm _).mem_iff
  have Hstuck : Hid (∀ W, Below w.heap.size w W → Calls Try.prog 19 #[.int .i64 m, .slice ao L.length cap] W (RInts W (sortI (stuckS m L)))) := by
    intro W hb
    have := refStuck_any m ao cap L W (h.up (Nat.le_refl _) hb) hV
    rw [stk_eq hV] at this
    exact this
  have hlen : (sortI (stuckS m L)).length ≤ 1000000 := by rw [sortI_length]; have := solveL_stuck_le m L; have := hw.len; unfold stuckS; omega
  have he : breakE m L = if (sortI (stuckS m L)).length = 0 then (0, 0, 9) else ((rb m L (sortI (stuckS m L)) (sortI (stuckS m L)).length).1, (rb m L (sortI (stuckS m L)) (sortI (stuckS m L)).length).2, 0) := by
    unfold breakE
    rw [hv]
    simp only [if_true, Int.toNat_natCast]
    split
    · rfl
    · rename_i h0
      unfold rb
      rw [if_neg h0]
  have hfree : ∀ x ∈ sortI (stuckS m L), freeE m L [x] = (rest L [x], 0) := by
    intro x hx
    obtain ⟨d, hd, rfl⟩ := stuckS_task ((hlowiff x).1 hx)
    exact freeE_one hV hd
  have hrange : ∀ x ∈ sortI (stuckS m L), 0 ≤ x ∧ x < m := fun x hx => by
    obtain ⟨d, hd, rfl⟩ := stuckS_task ((hlowiff x).1 hx); exact hV.task d hd
  have hLm : L.length ≤ m := by have := hV.len; omega
  have hm64 : m ≤ 64 := by have := hV.n1; omega
  generalize sortI (stuckS m L) = low at Hstuck he hfree hrange hlen
  have He := Lib.hid he
  have Hfree := Lib.hid hfree
  have Hrange := Lib.hid hrange
  have HV := Lib.hid hV
  have Hw := Lib.hid hw
  have Hv := Lib.hid hv
  clear he hv hlowiff hfree hrange hV hw
  go_enter Try.func27, Try.ntmps27
  go_wp2_with (first
    | (go_at_call 12; go_must (refine Hvalid.out.mono ?_); rw [Hv.out]; rintro e w0 ⟨rfl, md, rfl⟩; have hb0 : Below w.heap.size w (w.drewN md) := (Below.refl _ _).dn _)
    | (go_at_call 19; go_must (refine (Hstuck.out _ hb0).mono ?_); rintro e w1 ⟨v, rfl, hown, hb1⟩; obtain ⟨al, cl, rfl, hlow⟩ := own_ints hown))
  have hb1' : Below w.heap.size w w1 := hb0.call hb1
  go_loopw [8, 9, 10] (fun t l i wr => ∃ k : Nat, k ≤ low.length ∧ i = .int .i64 k ∧ t = .int .i64 (rb m L low k).1 ∧ l = .int .i64 (rb m L low k).2 ∧ Below w1.heap.size w1 wr) (fun _ _ i _ => low.length - (RowKit.intOf i).toNat)
  case atStart => exact ⟨0, Nat.zero_le _, rfl, rfl, rfl, Below.refl _ _⟩
  case round =>
    obtain ⟨k, hk, rfl, rfl, rfl, hb2⟩ := hrel
    have hbrk := rb_range Hrange.out hLm k hk
    by_cases hlt : k < low.length
    · obtain ⟨b, o, x, rfl, hbB, hx, hcx⟩ := (hlow.below hb2).get hlt
      have hxm := List.mem_of_getElem? hx
      have Hx := Lib.hid hx
      have hF : ∀ W, Below w.heap.size w W → Ints W W.heap.size (some ⟨wr.heap.size, 0, none⟩) [x] → Calls Try.prog 25 #[.int .i64 m, .slice ao L.length cap, .slice (some ⟨wr.heap.size, 0, none⟩) 1 1] W (RReadN W (rest L [x], 0)) := by
        intro W hW hi
        have := refFree_any m ao (some ⟨wr.heap.size, 0, none⟩) cap 1 L [x] W (h.up (Nat.le_refl _) hW) hi Hw.out (by simp)
        rw [Hfree.out x hxm] at this
        exact this
      have HF := Lib.hid (hF _ ((hb1'.call hb2).al (.cells #[.int .i64 x] 3)) (ints_new wr x))
      have Hsolve : Hid (∀ W a c, Needs W W.heap.size a (rest L [x]) → Calls Try.prog 19 #[.int .i64 m, .slice a (rest L [x]).length c] W (RInts W (sortI (stuckS m (rest L [x]))))) := by
        intro W a c hn
        have := refStuck_any m a c (rest L [x]) W hn (HV.out.rest [x])
        rw [stk_eq (HV.out.rest [x])] at this
        exact this
      have hstep := rb_step Hrange.out hLm Hx.out
      have hleft : (sortI (stuckS m (rest L [x]))).length = leftOf m L x := sortI_length _
      generalize sortI (stuckS m (rest L [x])) = ST at Hsolve hleft
      have Hstep := Lib.hid hstep
      have Hleft := Lib.hid hleft
      clear hx hF hstep hleft
      generalize hp1 : (rb m L low k).1 = p1 at hbrk ⊢
      generalize hp2 : (rb m L low k).2 = p2 at hbrk ⊢
      have Hp1 := Lib.hid hp1
      have Hp2 := Lib.hid hp2
      clear hp1 hp2
      have hrel : ∀ W, Below w1.heap.size w1 W → ∀ t l : Int, rb m L low (k + 1) = (t, l) → ∃ k' : Nat, k' ≤ low.length ∧ Value.int .i64 ((k : Int) + 1) = .int .i64 k' ∧ Value.int .i64 t = .int .i64 (rb m L low k').1 ∧ Value.int .i64 l = .int .i64 (rb m L low k').2 ∧ Below w1.heap.size w1 W := by
        intro W hW t l htl
        exact ⟨k + 1, by omega, by go_num, by rw [htl], by rw [htl], hW⟩
      have Hrel := Lib.hid hrel
      clear hrel
      by_cases hneg : p1 < 0
      · go_wp2_with (first
          | (go_at_call 25; go_must (refine HF.out.mono ?_); rintro e w3 ⟨a3, c3, rfl, hneeds3, hb3⟩)
          | (go_at_call 19; go_must (refine (Hsolve.out _ _ _ hneeds3).mono ?_); rintro e w4 ⟨v4, rfl, hown4, hb4⟩; obtain ⟨a4, c4, rfl, hlow4⟩ := own_ints hown4; have hcx4 := ((((Below.refl w1.heap.size wr).alloc hb2.size (.cells #[.int .i64 x] 3)).trans (hb3.mono (Nat.le_trans hb2.size (by simp)))).trans (hb4.mono (Nat.le_trans (Nat.le_trans hb2.size (by simp)) hb3.size))).cell (p := ⟨b, o + k, none⟩) hbB |>.trans hcx))
        go_roundw
        case rel =>
          refine Hrel.out _ (((hb2.al _).call hb3).call hb4) _ _ ?_
          rw [Hstep.out, if_pos (.inl (by rw [Hp1.out]; exact hneg)), Hleft.out]
        case measure => simp [RowKit.intOf]; omega
      by_cases hlss : (ST.length : Int) < p2
      · go_wp2_with (first
          | (go_at_call 25; go_must (refine HF.out.mono ?_); rintro e w3 ⟨a3, c3, rfl, hneeds3, hb3⟩)
          | (go_at_call 19; go_must (refine (Hsolve.out _ _ _ hneeds3).mono ?_); rintro e w4 ⟨v4, rfl, hown4, hb4⟩; obtain ⟨a4, c4, rfl, hlow4⟩ := own_ints hown4; have hcx4 := ((((Below.refl w1.heap.size wr).alloc hb2.size (.cells #[.int .i64 x] 3)).trans (hb3.mono (Nat.le_trans hb2.size (by simp)))).trans (hb4.mono (Nat.le_trans (Nat.le_trans hb2.size (by simp)) hb3.size))).cell (p := ⟨b, o + k, none⟩) hbB |>.trans hcx))
        go_roundw
        case rel =>
          refine Hrel.out _ (((hb2.al _).call hb3).call hb4) _ _ ?_
          rw [Hstep.out, if_pos (.inr (by rw [Hp2.out, ← Hleft.out]; exact hlss)), Hleft.out]
        case measure => simp [RowKit.intOf]; omega
      · go_wp2_with (first
          | (go_at_call 25; go_must (refine HF.out.mono ?_); rintro e w3 ⟨a3, c3, rfl, hneeds3, hb3⟩)
          | (go_at_call 19; go_must (refine (Hsolve.out _ _ _ hneeds3).mono ?_); rintro e w4 ⟨v4, rfl, hown4, hb4⟩; obtain ⟨a4, c4, rfl, hlow4⟩ := own_ints hown4))
        go_roundw
        case rel =>
          refine Hrel.out _ (((hb2.al _).call hb3).call hb4) _ _ ?_
          rw [Hstep.out, if_neg (by rw [Hp1.out, Hp2.out, ← Hleft.out]; rintro (h3 | h3) <;> omega), ← Hp1.out, ← Hp2.out]
        case measure => simp [RowKit.intOf]; omega
    · obtain rfl : k = low.length := by omega
      have he := He.out
      generalize hq : rb m L low low.length = q at hbrk he ⊢
      have Hq := Lib.hid hq
      clear hq
      by_cases h0 : low.length = 0
      · have hq1 : q = (-1, 0) := by rw [← Hq.out, h0]; rfl
        subst hq1
        rw [if_pos h0] at he
        have He' := Lib.hid he
        clear he h0 
        go_wp2_with fail
        go_ret3
        rw [He'.out]
        exact ⟨rfl, hb1'.call hb2⟩
      · have hq0 : 0 ≤ q.1 := by
          rw [← Hq.out]
          unfold rb
          rw [if_neg h0]
          exact (brkTo_range Hrange.out hLm _ (Nat.le_refl _)).1
        rw [if_neg h0] at he
        have He' := Lib.hid he
        clear he h0
        obtain ⟨q1, q2⟩ := q
        simp only at hq0 hbrk ⊢
        go_wp2_with fail
        go_ret3
        rw [He'.out]
        exact ⟨rfl, hb1'.call hb2⟩
end Go.Proofs.Ytkcpblmcpgnofaa
