/- Walks: the laws WaitforRounds, WaitforChecks, WaitforCycles. -/
import Derived.Test.YtkcpblmcpgnofaaW1
namespace Go.Proofs.Ytkcpblmcpgnofaa
open Go.RowKit Go.Maps

theorem drewn_below {W w' : World} {P : Prop} (h : P ∧ Drewn W w') : P ∧ Below W.heap.size W w' := ⟨h.1, h.2.below⟩

theorem eqN_refl (L : List Nd) : eqN L L = true := eqN_iff.2 rfl

set_option maxHeartbeats 2000000 in
set_option maxRecDepth 100000 in
theorem law4_any (n : Int) (ao : Option Addr) (cap : Nat) (L : List Nd) (w : World) (h : Needs w w.heap.size ao L) (hw : WfIn L) :
    Calls Try.prog 4 #[.int .i64 n, .slice ao L.length cap] w (RTrue w) := by
  have Hsmall := Lib.hid (small_any ao cap L w _ h hw.len hw.on)
  have Hknown : Hid (∀ W, Calls Try.prog 10 #[] W (RTrue W)) := known_any
  cases hs : smallB L
  · have Hs := Lib.hid hs
    clear hs hw
    go_enter Try.func4, Try.ntmps4
    go_wp2_with (first
      | (go_at_call 9; go_must (refine Hsmall.out.mono ?_); rw [Hs.out]; rintro e w1 ⟨rfl, rfl⟩)
      | (go_at_call 10; go_must (refine (Hknown.out _).mono ?_); rintro e w2 ⟨rfl, hb2⟩))
    go_ret
    exact ⟨rfl, hb2⟩
  have hwn := hw.small hs
  have Hcopy := Lib.hid (copy_any ao cap L w h hwn.len hwn.on)
  have Hrounds : Hid (∀ W a c, Needs W W.heap.size a L → Calls Try.prog 14 #[.int .i64 n, .slice a L.length c] W (RIntsE W (roundsE n L))) := fun W a c hn => rounds_any n a c L W hn hwn
  have Hstuck : Hid (∀ W a c, Needs W W.heap.size a L → Calls Try.prog 15 #[.int .i64 n, .slice a L.length c] W (RIntsE W (stuckE n L))) := fun W a c hn => stuck_any n a c L W hn hwn
  have Hsame : Hid (∀ W a c, Needs W W.heap.size a L → Below w.heap.size w W → Calls Try.prog 16 #[.slice a L.length c, .slice ao L.length cap] W fun e w' => e = .returned (.bool true) ∧ Below W.heap.size W w') := by
    intro W a c hn hb
    have := sameNeeds_any a ao c cap L L W W.heap.size hn (h.up (Nat.le_refl _) hb) hwn.len hwn.len hwn.on hwn.on
    rw [eqN_refl] at this; exact this.mono fun _ _ h => drewn_below h
  have Hrv : Hid (∀ W, Below w.heap.size w W → Calls Try.prog 12 #[.int .i64 n, .slice ao L.length cap] W fun e w' => e = .returned (.bool (vld n L)) ∧ Below W.heap.size W w') :=
    fun W hb => (refValid_any n ao cap L W w.heap.size (h.below hb) hwn.len hwn.on).mono fun _ _ h => drewn_below h
  have Hs := Lib.hid hs
  clear hs hw
  cases hv : vld n L
  · have e1 : roundsE n L = ([], 2) := by unfold roundsE; rw [hv]; rfl
    have e2 : stuckE n L = ([], 2) := by unfold stuckE; rw [hv]; rfl
    rw [e1] at Hrounds
    rw [e2] at Hstuck
    rw [hv] at Hrv
    clear e1 e2 hv hwn
    go_enter Try.func4, Try.ntmps4
    go_wp2_with (first
      | (go_at_call 9; go_must (refine Hsmall.out.mono ?_); rw [Hs.out]; rintro e w1 ⟨rfl, rfl⟩)
      | (go_at_call 13; go_must (refine Hcopy.out.mono ?_); rintro e w1 ⟨v1, cs1, rfl, hown1, hnd1, hb1⟩; obtain ⟨a1, c1, rfl, hn1⟩ := needs_own hown1 hnd1)
      | (go_at_call 14; go_must (refine (Hrounds.out _ _ _ hn1).mono ?_); rintro e w2 ⟨v2, rfl, hown2, hb2⟩; obtain ⟨a2, c2, rfl, hi2⟩ := own_ints hown2; have hn2 := hn1.up (Nat.le_refl _) hb2; have hb12 := hb1.call hb2)
      | (go_at_call 15; go_must (refine (Hstuck.out _ _ _ hn2).mono ?_); rintro e w3 ⟨v3, rfl, hown3, hb3⟩; obtain ⟨a3, c3, rfl, hi3⟩ := own_ints hown3; have hn3 := hn2.up (Nat.le_refl _) hb3; have hb13 := hb12.call hb3)
      | (go_at_call 16; go_must (refine (Hsame.out _ _ _ hn3 hb13).mono ?_); rintro e w4 ⟨rfl, hb4⟩; have hb14 := hb13.call hb4)
      | (go_at_call 12; go_must (refine (Hrv.out _ hb14).mono ?_); rintro e w5 ⟨rfl, hb5⟩; have hb15 := hb14.call hb5)
      | (go_at_call 10; go_must (refine (Hknown.out _).mono ?_); rintro e w6 ⟨rfl, hb6⟩))
    go_ret
    exact ⟨rfl, hb15.call hb6⟩
  · have hV := vld_iff.1 hv
    obtain ⟨m, rfl⟩ := Int.eq_ofNat_of_zero_le hV.n0
    have e1 : roundsE m L = (refRounds m L, 0) := by unfold roundsE; rw [hv, refRounds_eq hV]; rfl
    have e2 : stuckE m L = (stk (refRounds m L), 0) := by unfold stuckE; rw [hv, stk_eq hV]; rfl
    have Hrr : Hid (∀ W, Below w.heap.size w W → Calls Try.prog 18 #[.int .i64 m, .slice ao L.length cap] W (RInts W (refRounds m L))) := fun W hb => refRounds_any m ao cap L W (h.up (Nat.le_refl _) hb) hV
    have Hrs : Hid (∀ W, Below w.heap.size w W → Calls Try.prog 19 #[.int .i64 m, .slice ao L.length cap] W (RInts W (stk (refRounds m L)))) := fun W hb => refStuck_any m ao cap L W (h.up (Nat.le_refl _) hb) hV
    have hlr : (refRounds m L).length ≤ 1000000 := by rw [refRounds_len]; have := hV.n1; omega
    have hls : (stk (refRounds m L)).length ≤ 1000000 := by have h1 := stkTo_le (refRounds m L) (refRounds m L).length; rw [refRounds_len] at h1; have := hV.n1; unfold stk; rw [refRounds_len]; omega
    rw [e1] at Hrounds
    rw [e2] at Hstuck
    rw [hv] at Hrv
    generalize stk (refRounds m L) = S at Hstuck Hrs hls
    generalize refRounds m L = R at Hrounds Hrr hlr
    have Heq : Hid (∀ W xs a b ca cb, Ints W W.heap.size a xs → Ints W W.heap.size b xs → xs.length ≤ 1000000 → Calls Try.prog 17 #[.slice a xs.length ca, .slice b xs.length cb] W fun e w' => e = .returned (.bool true) ∧ Below W.heap.size W w') := by
      intro W xs a b ca cb ha hb hl
      have := same_any a b ca cb xs xs W W.heap.size ha hb hl hl
      rw [eqB_refl] at this; exact this.mono fun _ _ h => drewn_below h
    clear e1 e2 hv hwn hV
    go_enter Try.func4, Try.ntmps4
    go_wp2_with (first
      | (go_at_call 9; go_must (refine Hsmall.out.mono ?_); rw [Hs.out]; rintro e w1 ⟨rfl, rfl⟩)
      | (go_at_call 13; go_must (refine Hcopy.out.mono ?_); rintro e w1 ⟨v1, cs1, rfl, hown1, hnd1, hb1⟩; obtain ⟨a1, c1, rfl, hn1⟩ := needs_own hown1 hnd1)
      | (go_at_call 14; go_must (refine (Hrounds.out _ _ _ hn1).mono ?_); rintro e w2 ⟨v2, rfl, hown2, hb2⟩; obtain ⟨a2, c2, rfl, hi2⟩ := own_ints hown2; have hn2 := hn1.up (Nat.le_refl _) hb2; have hb12 := hb1.call hb2)
      | (go_at_call 15; go_must (refine (Hstuck.out _ _ _ hn2).mono ?_); rintro e w3 ⟨v3, rfl, hown3, hb3⟩; obtain ⟨a3, c3, rfl, hi3⟩ := own_ints hown3; have hn3 := hn2.up (Nat.le_refl _) hb3; have hb13 := hb12.call hb3; have hi23 := hi2.up (Nat.le_refl _) hb3)
      | (go_at_call 16; go_must (refine (Hsame.out _ _ _ hn3 hb13).mono ?_); rintro e w4 ⟨rfl, hb4⟩; have hb14 := hb13.call hb4)
      | (go_at_call 12; go_must (refine (Hrv.out _ hb14).mono ?_); rintro e w5 ⟨rfl, hb5⟩; have hb15 := hb14.call hb5; have hi25 := Lib.hid ((hi23.up (Nat.le_refl _) hb4).up (Nat.le_refl _) hb5); have hi35 := Lib.hid ((hi3.up (Nat.le_refl _) hb4).up (Nat.le_refl _) hb5); clear hi2 hi3 hi23 hn1 hn2 hn3)
      | (go_at_call 18; go_must (refine (Hrr.out _ hb15).mono ?_); rintro e w6 ⟨v6, rfl, hown6, hb6⟩; obtain ⟨a6, c6, rfl, hi6⟩ := own_ints hown6; have hi26 := hi25.out.up (Nat.le_refl _) hb6; have hi36 := hi35.out.up (Nat.le_refl _) hb6; have hb16 := hb15.call hb6)
      | (go_at_call 17; refine (Heq.out _ R a2 a6 c2 c6 hi26 hi6 hlr).mono ?_; rintro e w7 ⟨rfl, hb7⟩; have hb17 := hb16.call hb7; have hi37 := Lib.hid (hi36.up (Nat.le_refl _) hb7); clear hi26)
      | (go_at_call 19; go_must (refine (Hrs.out _ hb17).mono ?_); rintro e w8 ⟨v8, rfl, hown8, hb8⟩; obtain ⟨a8, c8, rfl, hi8⟩ := own_ints hown8; have hi38 := hi37.out.up (Nat.le_refl _) hb8; have hb18 := hb17.call hb8)
      | (go_at_call 17; refine (Heq.out _ S a3 a8 c3 c8 hi38 hi8 hls).mono ?_; rintro e w9 ⟨rfl, hb9⟩; have hb19 := hb18.call hb9; clear hi38)
      | (go_at_call 10; go_must (refine (Hknown.out _).mono ?_); rintro e w10 ⟨rfl, hb10⟩)
      | fail)
    go_ret
    exact ⟨rfl, hb19.call hb10⟩

set_option maxHeartbeats 1000000 in
set_option maxRecDepth 100000 in
theorem law5_any (n : Int) (ao az : Option Addr) (cap cz : Nat) (L : List Nd) (S : List Int) (w : World) (h : Needs w w.heap.size ao L) (hw : WfIn L) (hS : Ints w w.heap.size az S) (hlS : S.length ≤ 9223372036854775807) :
    Calls Try.prog 5 #[.int .i64 n, .slice ao L.length cap, .slice az S.length cz] w (RTrue w) := by
  have Hsmall := Lib.hid (small_any ao cap L w _ h hw.len hw.on)
  have Hknown : Hid (∀ W, Calls Try.prog 10 #[] W (RTrue W)) := known_any
  cases hs : smallB L
  · have Hs := Lib.hid hs
    clear hs hw
    go_enter Try.func5, Try.ntmps5
    go_wp2_with (first
      | (go_at_call 9; go_must (refine Hsmall.out.mono ?_); rw [Hs.out]; rintro e w1 ⟨rfl, rfl⟩)
      | (go_at_call 10; go_must (refine (Hknown.out _).mono ?_); rintro e w2 ⟨rfl, hb2⟩))
    go_ret
    exact ⟨rfl, hb2⟩
  have hwn := hw.small hs
  by_cases h70 : (70 : Int) < S.length
  · have Hs := Lib.hid hs
    clear hs hw hwn
    go_enter Try.func5, Try.ntmps5
    go_wp2_with (first
      | (go_at_call 9; go_must (refine Hsmall.out.mono ?_); rw [Hs.out]; rintro e w1 ⟨rfl, rfl⟩)
      | (go_at_call 10; go_must (refine (Hknown.out _).mono ?_); rintro e w2 ⟨rfl, hb2⟩))
    go_ret
    exact ⟨rfl, hb2⟩
  have hl : S.length ≤ 1000000 := by omega
  have hck := check_any n ao az cap cz L S w h hS hwn hl
  have heq := chk_eq n L S (fun hh => inc_nodup (srt_inc hh))
  rw [heq] at hck
  have Hck := Lib.hid hck
  have Hrc : Hid (∀ W, Below w.heap.size w W → Calls Try.prog 21 #[.int .i64 n, .slice ao L.length cap, .slice az S.length cz] W fun e w' => e = .returned (.int .i64 (chkR n L S)) ∧ Drewn W w') :=
    fun W hb => refCheck_any n ao az cap cz L S W w.heap.size (h.below hb) (hS.below hb) hwn.len hl hwn.on
  have Hs := Lib.hid hs
  clear hs hw hwn hck heq
  generalize chkR n L S = x at Hck Hrc
  go_enter Try.func5, Try.ntmps5
  go_wp2_with (first
    | (go_at_call 9; go_must (refine Hsmall.out.mono ?_); rw [Hs.out]; rintro e w1 ⟨rfl, rfl⟩)
    | (go_at_call 20; go_must (refine Hck.out.mono ?_); rintro e w1 ⟨rfl, hb1⟩)
    | (go_at_call 21; go_must (refine (Hrc.out _ hb1).mono ?_); rintro e w2 ⟨rfl, m, rfl⟩)
    | (go_at_call 10; go_must (refine (Hknown.out _).mono ?_); rintro e w2 ⟨rfl, hb2⟩))
  go_ret
  exact ⟨rfl, (hb1.dn m).call hb2⟩

set_option maxHeartbeats 2000000 in
set_option maxRecDepth 100000 in
theorem law6_any (n : Int) (ao : Option Addr) (cap : Nat) (L : List Nd) (w : World) (h : Needs w w.heap.size ao L) (hw : WfIn L) :
    Calls Try.prog 6 #[.int .i64 n, .slice ao L.length cap] w (RTrue w) := by
  have Hsmall := Lib.hid (small_any ao cap L w _ h hw.len hw.on)
  have Hknown : Hid (∀ W, Calls Try.prog 10 #[] W (RTrue W)) := known_any
  cases hs : smallB L
  · have Hs := Lib.hid hs
    clear hs hw
    go_enter Try.func6, Try.ntmps6
    go_wp2_with (first
      | (go_at_call 9; go_must (refine Hsmall.out.mono ?_); rw [Hs.out]; rintro e w1 ⟨rfl, rfl⟩)
      | (go_at_call 10; go_must (refine (Hknown.out _).mono ?_); rintro e w2 ⟨rfl, hb2⟩))
    go_ret
    exact ⟨rfl, hb2⟩
  have hwn := hw.small hs
  have Hcyc := Lib.hid (cycle_any n ao cap L w h hwn)
  have Hrv : Hid (∀ W, Below w.heap.size w W → Calls Try.prog 12 #[.int .i64 n, .slice ao L.length cap] W fun e w' => e = .returned (.bool (vld n L)) ∧ Below W.heap.size W w') :=
    fun W hb => (refValid_any n ao cap L W w.heap.size (h.below hb) hwn.len hwn.on).mono fun _ _ h => drewn_below h
  have Hs := Lib.hid hs
  clear hs hw
  cases hv : vld n L
  · have e1 : cycleE n L = ([], 2) := by unfold cycleE; rw [hv]; rfl
    rw [e1] at Hcyc
    rw [hv] at Hrv
    clear e1 hv hwn
    go_enter Try.func6, Try.ntmps6
    go_wp2_with (first
      | (go_at_call 9; go_must (refine Hsmall.out.mono ?_); rw [Hs.out]; rintro e w1 ⟨rfl, rfl⟩)
      | (go_at_call 22; go_must (refine Hcyc.out.mono ?_); rintro e w1 ⟨a1, c1, rfl, hi1, hb1⟩)
      | (go_at_call 12; go_must (refine (Hrv.out _ hb1).mono ?_); rintro e w2 ⟨rfl, hb2'⟩)
      | (go_at_call 10; go_must (refine (Hknown.out _).mono ?_); rintro e w3 ⟨rfl, hb3⟩))
    go_ret
    exact ⟨rfl, (hb1.call hb2').call hb3⟩
  have hV := vld_iff.1 hv
  obtain ⟨m, rfl⟩ := Int.eq_ofNat_of_zero_le hV.n0
  have Hrc : Hid (∀ W, Below w.heap.size w W → Calls Try.prog 23 #[.int .i64 m, .slice ao L.length cap] W (RInts W (refCyc m L))) := fun W hb => refCycle_any m ao cap L W (h.up (Nat.le_refl _) hb) hV
  have e1 : cycleE m L = (refCyc m L, if (sortI (stuckS m L)).length = 0 then 9 else 0) := by
    unfold cycleE refCyc
    rw [hv]
    simp only [if_true, Int.toNat_natCast]
    split <;> rfl
  have hpos : (refCyc m L).length = 0 ↔ (sortI (stuckS m L)).length = 0 := by
    unfold refCyc
    by_cases h0 : (sortI (stuckS m L)).length = 0
    · rw [if_pos h0]; simp [h0]
    · rw [if_neg h0]
      refine ⟨fun hh => ?_, fun hh => absurd hh h0⟩
      exfalso
      have hlowiff : ∀ x, x ∈ sortI (stuckS m L) ↔ x ∈ stuckS m L := fun x => (sortI_perm _).mem_iff
      have hc := cycL_of (low := sortI (stuckS m L)) (L := L) (x0 := (sortI (stuckS m L)).headD 0) (m := (sortI (stuckS m L)).length) (fun t ht => nxM_low hV hlowiff ht) (by
        cases hq : sortI (stuckS m L) with
        | nil => rw [hq] at h0; simp at h0
        | cons a r => simp) rfl (Nat.le_refl _)
      have := hc.cyc.pos
      omega
  have hlen : (refCyc m L).length ≤ 1000000 := by
    by_cases h0 : (sortI (stuckS m L)).length = 0
    · have := hpos.2 h0; omega
    · have hlowiff : ∀ x, x ∈ sortI (stuckS m L) ↔ x ∈ stuckS m L := fun x => (sortI_perm _).mem_iff
      have hc := cycL_of (low := sortI (stuckS m L)) (L := L) (x0 := (sortI (stuckS m L)).headD 0) (m := (sortI (stuckS m L)).length) (fun t ht => nxM_low hV hlowiff ht) (by
        cases hq : sortI (stuckS m L) with
        | nil => rw [hq] at h0; simp at h0
        | cons a r => simp) rfl (Nat.le_refl _)
      have h1 := hc.cyc.nodup.length_le_of_subset hc.sub
      have h2 : (sortI (stuckS m L)).length ≤ m := by rw [sortI_length]; have := solveL_stuck_le m L; have := hV.len; unfold stuckS; omega
      have h3 := hV.n1
      unfold refCyc
      rw [if_neg h0]
      omega
  rw [e1] at Hcyc
  rw [hv] at Hrv
  have Heq : Hid (∀ W xs a b ca cb, Ints W W.heap.size a xs → Ints W W.heap.size b xs → xs.length ≤ 1000000 → Calls Try.prog 17 #[.slice a xs.length ca, .slice b xs.length cb] W fun e w' => e = .returned (.bool true) ∧ Below W.heap.size W w') := by
    intro W xs a b ca cb ha hb hl
    have := same_any a b ca cb xs xs W W.heap.size ha hb hl hl
    rw [eqB_refl] at this; exact this.mono fun _ _ h => drewn_below h
  generalize refCyc m L = C at Hcyc Hrc hpos hlen
  clear e1 hv hwn hV
  by_cases h0 : (sortI (stuckS m L)).length = 0
  · rw [if_pos h0] at Hcyc
    have hC : C = [] := List.eq_nil_of_length_eq_zero (hpos.2 h0)
    subst hC
    clear h0 hpos
    go_enter Try.func6, Try.ntmps6
    go_wp2_with (first
      | (go_at_call 9; go_must (refine Hsmall.out.mono ?_); rw [Hs.out]; rintro e w1 ⟨rfl, rfl⟩)
      | (go_at_call 22; go_must (refine Hcyc.out.mono ?_); rintro e w1 ⟨a1, c1, rfl, hi1, hb1⟩)
      | (go_at_call 12; go_must (refine (Hrv.out _ hb1).mono ?_); rintro e w2 ⟨rfl, hb2'⟩; have hb2 := hb1.call hb2')
      | (go_at_call 23; go_must (refine (Hrc.out _ hb2).mono ?_); rintro e w3 ⟨v3, rfl, hown3, hb3⟩; obtain ⟨a3, c3, rfl, hi3⟩ := own_ints hown3; have hb23 := hb2.call hb3)
      | (go_at_call 10; go_must (refine (Hknown.out _).mono ?_); rintro e w4 ⟨rfl, hb4⟩))
    go_ret
    exact ⟨rfl, hb23.call hb4⟩
  · rw [if_neg h0] at Hcyc
    have hCb : ((C.length : Int) == 0) = false := beq_eq_false_iff_ne.2 (by intro hh; exact h0 (hpos.1 (by omega)))
    clear h0 hpos
    go_enter Try.func6, Try.ntmps6
    go_wp2_with (first
      | (go_at_call 9; go_must (refine Hsmall.out.mono ?_); rw [Hs.out]; rintro e w1 ⟨rfl, rfl⟩)
      | (go_at_call 22; go_must (refine Hcyc.out.mono ?_); rintro e w1 ⟨a1, c1, rfl, hi1, hb1⟩)
      | (go_at_call 12; go_must (refine (Hrv.out _ hb1).mono ?_); rintro e w2 ⟨rfl, hb2'⟩; have hb2 := hb1.call hb2'; have hi2 := hi1.up (Nat.le_refl _) hb2')
      | (go_at_call 23; go_must (refine (Hrc.out _ hb2).mono ?_); rintro e w3 ⟨v3, rfl, hown3, hb3⟩; obtain ⟨a3, c3, rfl, hi3⟩ := own_ints hown3; have hb23 := hb2.call hb3; have hi13 := hi2.up (Nat.le_refl _) hb3)
      | (go_at_call 17; go_must (refine (Heq.out _ C a1 a3 c1 c3 hi13 hi3 hlen).mono ?_); rintro e w5 ⟨rfl, hb5⟩)
      | (go_at_call 10; go_must (refine (Hknown.out _).mono ?_); rintro e w4 ⟨rfl, hb4⟩))
    go_ret
    exact ⟨rfl, (hb23.call hb5).call hb4⟩
end Go.Proofs.Ytkcpblmcpgnofaa
