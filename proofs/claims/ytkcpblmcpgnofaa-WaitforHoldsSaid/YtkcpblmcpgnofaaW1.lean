/- Walks: the laws WaitforValid, WaitforRounds, WaitforChecks, WaitforCycles. -/
import Derived.Test.YtkcpblmcpgnofaaG2
import Derived.Test.YtkcpblmcpgnofaaC2
namespace Go.Proofs.Ytkcpblmcpgnofaa
open Go.RowKit Go.Maps

/-- What any list of needs is that came in. -/
structure WfIn (L : List Nd) : Prop where
  len : L.length ≤ 9223372036854775807
  task : ∀ d ∈ L, Wf64 d.task
  on : ∀ d ∈ L, d.on.length ≤ 9223372036854775807
theorem WfIn.small {L : List Nd} (h : WfIn L) (hs : smallB L = true) : WfN L := by
  have := smallB_iff.1 hs
  exact ⟨Nat.le_trans this.len (by decide), h.task, fun d hd => Nat.le_trans (this.on d hd) (by decide)⟩

theorem RTrue.after {w w1 : World} {e : Ending} {w' : World} (hb : Below w.heap.size w w1) (h : RTrue w1 e w') : RTrue w e w' := ⟨h.1, hb.call h.2⟩

set_option maxHeartbeats 1000000 in
set_option maxRecDepth 100000 in
theorem law3_any (n : Int) (ao : Option Addr) (cap : Nat) (L : List Nd) (w : World) (h : Needs w w.heap.size ao L) (hw : WfIn L) :
    Calls Try.prog 3 #[.int .i64 n, .slice ao L.length cap] w (RTrue w) := by
  have Hsmall := Lib.hid (small_any ao cap L w _ h hw.len hw.on)
  have Hknown : Hid (∀ W, Calls Try.prog 10 #[] W (RTrue W)) := known_any
  cases hs : smallB L
  · have Hs := Lib.hid hs
    clear hs hw
    go_enter Try.func3, Try.ntmps3
    go_wp2_with (first
      | (go_at_call 9; go_must (refine Hsmall.out.mono ?_); rw [Hs.out]; rintro e w1 ⟨rfl, rfl⟩)
      | (go_at_call 10; go_must (refine (Hknown.out _).mono ?_); rintro e w2 ⟨rfl, hb2⟩))
    go_ret
    exact ⟨rfl, hb2⟩
  · have hwn := hw.small hs
    have Hvalid := Lib.hid (valid_any n ao cap L w h hwn.task hwn.len hwn.on)
    have Hrv : Hid (∀ W, Below w.heap.size w W → Calls Try.prog 12 #[.int .i64 n, .slice ao L.length cap] W fun e w' => e = .returned (.bool (vld n L)) ∧ Drewn W w') :=
      fun W hb => refValid_any n ao cap L W w.heap.size (h.below hb) hwn.len hwn.on
    have Hs := Lib.hid hs
    clear hs hw hwn
    generalize vld n L = v at Hvalid Hrv
    cases v
    all_goals
      go_enter Try.func3, Try.ntmps3
      go_wp2_with (first
        | (go_at_call 9; go_must (refine Hsmall.out.mono ?_); rw [Hs.out]; rintro e w1 ⟨rfl, rfl⟩)
        | (go_at_call 11; go_must (refine Hvalid.out.mono ?_); rintro e w1 ⟨rfl, hb1⟩)
        | (go_at_call 12; go_must (refine (Hrv.out _ hb1).mono ?_); rintro e w2 ⟨rfl, m, rfl⟩)
        | (go_at_call 10; go_must (refine (Hknown.out _).mono ?_); rintro e w2 ⟨rfl, hb2⟩))
      go_ret
      exact ⟨rfl, (hb1.dn m).call hb2⟩
end Go.Proofs.Ytkcpblmcpgnofaa
