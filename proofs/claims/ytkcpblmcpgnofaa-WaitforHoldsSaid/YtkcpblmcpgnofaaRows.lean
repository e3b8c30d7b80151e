/-
  No cell of these rows narrows 'for every input' (looked for: loops, veiled, ifaces, maps, wideKeys, modest, calm, conditions, laid).
  DERIVED. THE GIVEN ROWS OF THIS SEAT. 6 by the template 'for every input the law returns true; each argument reads behind the call as it read before'; 0 by the template 'total and deterministic' (their statements: YtkcpblmcpgnofaaTotals.lean).
  GIVEN WITH THE SEED: the statements are not yours to turn. If you find one false, say at which input.
  Laid BY PROGRAM, IN A SANDBOX (cutbox-rows.mjs): the forced cells as the released guide's own fill.sh prints them over the translation f3b1474a925da3b9… (all of the seat's roots in one cut). By AI agents, Wed Nov 11 2026. No macro, syntax, notation, axiom, sorry.
-/
import Derived.Test.YtkcpblmcpgnofaaChecked
import GoSem.Claim
import GoSem.ClaimJoined
import GoSem.ClaimMapViews
import Derived.JoinedTies
import Derived.KernelRfl
namespace Go.Proofs.Ytkcpblmcpgnofaa
/- THE CELL 'sum', in the pinned program and in every row, IS THE sha256 OF THE DUMP (.gsa) THAT YtkcpblmcpgnofaaProg.lean LOADS. Nothing in Lean hashes anything: it is a label: what it is worth is what the hold of that sum in a sandbox is worth. -/
noncomputable def Try.pinned : Pinned := { name := "ytkcpblmcpgnofaa", sum := "f3b1474a925da3b99282cad38607c31973669cfe2fa89bcc3fdc4dc38c80b5f7", checked := Try.checked }
namespace Rows
def none {H : Type} : Left H := { results := [], args := [] }

/-- 'aqueductlaw32.WaitforValid': WHATEVER THE INPUT: true; the input reads as it did. -/
def waitforValidSpec : ChangeSpec := { name := "waitforValid", fn := fun _ => fun
  | [d1, d2] => { results := [.lit (.bool true)], args := [d1, d2] }
  | _ => none }
def waitforValidRow : OpenClaim := { program := "ytkcpblmcpgnofaa", sum := "f3b1474a925da3b99282cad38607c31973669cfe2fa89bcc3fdc4dc38c80b5f7", func := "aqueduct/aqueductlaw32.WaitforValid", spec := "waitforValid", unfollowed := true, recurses := true, apart := false }
def WaitforValidSaid : Prop := waitforValidRow.holds Try.pinned (OpenSpec.ofChange waitforValidSpec)

/-- ITS FALSE NEIGHBOUR: 'it returns false'. Refute it at one input. -/
def waitforValidWrong : ChangeSpec := { name := "waitforValid", fn := fun _ => fun
  | [d1, d2] => { results := [.lit (.bool false)], args := [d1, d2] }
  | _ => none }
def WaitforValidWrongFalsely : Prop := waitforValidRow.holds Try.pinned (OpenSpec.ofChange waitforValidWrong)

/-- 'aqueductlaw32.WaitforRounds': WHATEVER THE INPUT: true; the input reads as it did. -/
def waitforRoundsSpec : ChangeSpec := { name := "waitforRounds", fn := fun _ => fun
  | [d1, d2] => { results := [.lit (.bool true)], args := [d1, d2] }
  | _ => none }
def waitforRoundsRow : OpenClaim := { program := "ytkcpblmcpgnofaa", sum := "f3b1474a925da3b99282cad38607c31973669cfe2fa89bcc3fdc4dc38c80b5f7", func := "aqueduct/aqueductlaw32.WaitforRounds", spec := "waitforRounds", unfollowed := true, recurses := true, apart := false }
def WaitforRoundsSaid : Prop := waitforRoundsRow.holds Try.pinned (OpenSpec.ofChange waitforRoundsSpec)

/-- ITS FALSE NEIGHBOUR: 'it returns false'. Refute it at one input. -/
def waitforRoundsWrong : ChangeSpec := { name := "waitforRounds", fn := fun _ => fun
  | [d1, d2] => { results := [.lit (.bool false)], args := [d1, d2] }
  | _ => none }
def WaitforRoundsWrongFalsely : Prop := waitforRoundsRow.holds Try.pinned (OpenSpec.ofChange waitforRoundsWrong)

/-- 'aqueductlaw32.WaitforChecks': WHATEVER THE INPUT: true; the input reads as it did. -/
def waitforChecksSpec : ChangeSpec := { name := "waitforChecks", fn := fun _ => fun
  | [d1, d2, d3] => { results := [.lit (.bool true)], args := [d1, d2, d3] }
  | _ => none }
def waitforChecksRow : OpenClaim := { program := "ytkcpblmcpgnofaa", sum := "f3b1474a925da3b99282cad38607c31973669cfe2fa89bcc3fdc4dc38c80b5f7", func := "aqueduct/aqueductlaw32.WaitforChecks", spec := "waitforChecks", unfollowed := true, recurses := true, apart := false }
def WaitforChecksSaid : Prop := waitforChecksRow.holds Try.pinned (OpenSpec.ofChange waitforChecksSpec)

/-- ITS FALSE NEIGHBOUR: 'it returns false'. Refute it at one input. -/
def waitforChecksWrong : ChangeSpec := { name := "waitforChecks", fn := fun _ => fun
  | [d1, d2, d3] => { results := [.lit (.bool false)], args := [d1, d2, d3] }
  | _ => none }
def WaitforChecksWrongFalsely : Prop := waitforChecksRow.holds Try.pinned (OpenSpec.ofChange waitforChecksWrong)

/-- 'aqueductlaw32.WaitforCycles': WHATEVER THE INPUT: true; the input reads as it did. -/
def waitforCyclesSpec : ChangeSpec := { name := "waitforCycles", fn := fun _ => fun
  | [d1, d2] => { results := [.lit (.bool true)], args := [d1, d2] }
  | _ => none }
def waitforCyclesRow : OpenClaim := { program := "ytkcpblmcpgnofaa", sum := "f3b1474a925da3b99282cad38607c31973669cfe2fa89bcc3fdc4dc38c80b5f7", func := "aqueduct/aqueductlaw32.WaitforCycles", spec := "waitforCycles", unfollowed := true, recurses := true, apart := false }
def WaitforCyclesSaid : Prop := waitforCyclesRow.holds Try.pinned (OpenSpec.ofChange waitforCyclesSpec)

/-- ITS FALSE NEIGHBOUR: 'it returns false'. Refute it at one input. -/
def waitforCyclesWrong : ChangeSpec := { name := "waitforCycles", fn := fun _ => fun
  | [d1, d2] => { results := [.lit (.bool false)], args := [d1, d2] }
  | _ => none }
def WaitforCyclesWrongFalsely : Prop := waitforCyclesRow.holds Try.pinned (OpenSpec.ofChange waitforCyclesWrong)

/-- 'aqueductlaw32.WaitforFrees': WHATEVER THE INPUT: true; the input reads as it did. -/
def waitforFreesSpec : ChangeSpec := { name := "waitforFrees", fn := fun _ => fun
  | [d1, d2, d3] => { results := [.lit (.bool true)], args := [d1, d2, d3] }
  | _ => none }
def waitforFreesRow : OpenClaim := { program := "ytkcpblmcpgnofaa", sum := "f3b1474a925da3b99282cad38607c31973669cfe2fa89bcc3fdc4dc38c80b5f7", func := "aqueduct/aqueductlaw32.WaitforFrees", spec := "waitforFrees", unfollowed := true, recurses := true, apart := false }
def WaitforFreesSaid : Prop := waitforFreesRow.holds Try.pinned (OpenSpec.ofChange waitforFreesSpec)

/-- ITS FALSE NEIGHBOUR: 'it returns false'. Refute it at one input. -/
def waitforFreesWrong : ChangeSpec := { name := "waitforFrees", fn := fun _ => fun
  | [d1, d2, d3] => { results := [.lit (.bool false)], args := [d1, d2, d3] }
  | _ => none }
def WaitforFreesWrongFalsely : Prop := waitforFreesRow.holds Try.pinned (OpenSpec.ofChange waitforFreesWrong)

/-- 'aqueductlaw32.WaitforHolds': WHATEVER THE INPUT: true; the input reads as it did. -/
def waitforHoldsSpec : ChangeSpec := { name := "waitforHolds", fn := fun _ => fun
  | [d1, d2, d3, d4] => { results := [.lit (.bool true)], args := [d1, d2, d3, d4] }
  | _ => none }
def waitforHoldsRow : OpenClaim := { program := "ytkcpblmcpgnofaa", sum := "f3b1474a925da3b99282cad38607c31973669cfe2fa89bcc3fdc4dc38c80b5f7", func := "aqueduct/aqueductlaw32.WaitforHolds", spec := "waitforHolds", unfollowed := true, recurses := true, apart := false }
def WaitforHoldsSaid : Prop := waitforHoldsRow.holds Try.pinned (OpenSpec.ofChange waitforHoldsSpec)

/-- ITS FALSE NEIGHBOUR: 'it returns false'. Refute it at one input. -/
def waitforHoldsWrong : ChangeSpec := { name := "waitforHolds", fn := fun _ => fun
  | [d1, d2, d3, d4] => { results := [.lit (.bool false)], args := [d1, d2, d3, d4] }
  | _ => none }
def WaitforHoldsWrongFalsely : Prop := waitforHoldsRow.holds Try.pinned (OpenSpec.ofChange waitforHoldsWrong)

/- THE SECOND FORM. 'bulk': how many values and letters a reading holds, each counted each time it is reached (what is shared counts as often as it is met; a slice's spare places count too). A statement '..UptoSaid' is the law's where the arguments, and the package variables that the reading takes, are together of bulk at most 1048576: NARROWER than '..Said'. Prove '..Said' where nothing that the law and all that it calls make is longer than what came in: it says more and counts as full. Else prove '..UptoSaid'. A law counts once. -/
mutual
def uptoBulk {H : Type} : DataW H → Nat
  | .lit (.string bytes) => bytes.length + 1
  | .lit _ => 1
  | .nil => 1
  | .ptr d => uptoBulk d + 1
  | .slice elems spare => uptoBulkAll elems + uptoBulkAll spare + 1
  | .agg parts => uptoBulkAll parts + 1
  | .iface _ d => uptoBulk d + 1
  | .map entries => uptoBulkEntries entries + 1
  | .held _ => 1
def uptoBulkAll {H : Type} : List (DataW H) → Nat
  | [] => 0
  | d :: r => uptoBulk d + uptoBulkAll r
def uptoBulkEntries {H : Type} : List (Lit × DataW H) → Nat
  | [] => 0
  | x :: r => uptoBulkEntry x + uptoBulkEntries r
def uptoBulkEntry {H : Type} : Lit × DataW H → Nat
  | (.string bytes, d) => bytes.length + uptoBulk d + 1
  | (_, d) => uptoBulk d + 1
 end
def uptoSmall : (H : Type) → List (DataW H) → Bool := fun _ ds => decide (uptoBulkAll ds ≤ 1048576)
def OpenSpec.upto (s : _root_.Go.ChangeSpec) : _root_.Go.OpenSpec := { _root_.Go.OpenSpec.ofChange s with cond := some uptoSmall }

/-- 'aqueductlaw32.WaitforValid', WHERE WHAT IT READS IS OF BULK AT MOST 1048576: true; the input reads as it did. -/
def waitforValidUptoRow : OpenClaim := { program := "ytkcpblmcpgnofaa", sum := "f3b1474a925da3b99282cad38607c31973669cfe2fa89bcc3fdc4dc38c80b5f7", func := "aqueduct/aqueductlaw32.WaitforValid", spec := "waitforValid", unfollowed := true, recurses := true, apart := false, narrowed := true }
def WaitforValidUptoSaid : Prop := waitforValidUptoRow.holds Try.pinned (OpenSpec.upto waitforValidSpec)

/-- 'aqueductlaw32.WaitforRounds', WHERE WHAT IT READS IS OF BULK AT MOST 1048576: true; the input reads as it did. -/
def waitforRoundsUptoRow : OpenClaim := { program := "ytkcpblmcpgnofaa", sum := "f3b1474a925da3b99282cad38607c31973669cfe2fa89bcc3fdc4dc38c80b5f7", func := "aqueduct/aqueductlaw32.WaitforRounds", spec := "waitforRounds", unfollowed := true, recurses := true, apart := false, narrowed := true }
def WaitforRoundsUptoSaid : Prop := waitforRoundsUptoRow.holds Try.pinned (OpenSpec.upto waitforRoundsSpec)

/-- 'aqueductlaw32.WaitforChecks', WHERE WHAT IT READS IS OF BULK AT MOST 1048576: true; the input reads as it did. -/
def waitforChecksUptoRow : OpenClaim := { program := "ytkcpblmcpgnofaa", sum := "f3b1474a925da3b99282cad38607c31973669cfe2fa89bcc3fdc4dc38c80b5f7", func := "aqueduct/aqueductlaw32.WaitforChecks", spec := "waitforChecks", unfollowed := true, recurses := true, apart := false, narrowed := true }
def WaitforChecksUptoSaid : Prop := waitforChecksUptoRow.holds Try.pinned (OpenSpec.upto waitforChecksSpec)

/-- 'aqueductlaw32.WaitforCycles', WHERE WHAT IT READS IS OF BULK AT MOST 1048576: true; the input reads as it did. -/
def waitforCyclesUptoRow : OpenClaim := { program := "ytkcpblmcpgnofaa", sum := "f3b1474a925da3b99282cad38607c31973669cfe2fa89bcc3fdc4dc38c80b5f7", func := "aqueduct/aqueductlaw32.WaitforCycles", spec := "waitforCycles", unfollowed := true, recurses := true, apart := false, narrowed := true }
def WaitforCyclesUptoSaid : Prop := waitforCyclesUptoRow.holds Try.pinned (OpenSpec.upto waitforCyclesSpec)

/-- 'aqueductlaw32.WaitforFrees', WHERE WHAT IT READS IS OF BULK AT MOST 1048576: true; the input reads as it did. -/
def waitforFreesUptoRow : OpenClaim := { program := "ytkcpblmcpgnofaa", sum := "f3b1474a925da3b99282cad38607c31973669cfe2fa89bcc3fdc4dc38c80b5f7", func := "aqueduct/aqueductlaw32.WaitforFrees", spec := "waitforFrees", unfollowed := true, recurses := true, apart := false, narrowed := true }
def WaitforFreesUptoSaid : Prop := waitforFreesUptoRow.holds Try.pinned (OpenSpec.upto waitforFreesSpec)

/-- 'aqueductlaw32.WaitforHolds', WHERE WHAT IT READS IS OF BULK AT MOST 1048576: true; the input reads as it did. -/
def waitforHoldsUptoRow : OpenClaim := { program := "ytkcpblmcpgnofaa", sum := "f3b1474a925da3b99282cad38607c31973669cfe2fa89bcc3fdc4dc38c80b5f7", func := "aqueduct/aqueductlaw32.WaitforHolds", spec := "waitforHolds", unfollowed := true, recurses := true, apart := false, narrowed := true }
def WaitforHoldsUptoSaid : Prop := waitforHoldsUptoRow.holds Try.pinned (OpenSpec.upto waitforHoldsSpec)

end Rows
end Go.Proofs.Ytkcpblmcpgnofaa
