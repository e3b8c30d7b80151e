/- Memory readings for the walks: a slice value that reads as a list of ints. -/
import Derived.WalkKit
import Derived.WalkLawsBesides
import Derived.Deep.QuietTactic
import Derived.BigQuiet
import Derived.Lib.Hide
import Derived.Deep.LoopGhost
import Derived.Test.YtkcpblmcpgnofaaChecked
import Derived.Test.YtkcpblmcpgnofaaPlain
namespace Go.Proofs.Ytkcpblmcpgnofaa
open Go.RowKit

/-- Below block B, the slice with this address reads as these ints. -/
def Ints (w : World) (B : Nat) (ao : Option Addr) (xs : List Int) : Prop :=
  ∀ k, k < xs.length → ∃ b o, ao = some ⟨b, o, none⟩ ∧ b < B ∧ ∀ i x, xs[i]? = some x → w.cell? ⟨b, o + i, none⟩ = some (.int .i64 x)

theorem Ints.get {w : World} {B : Nat} {ao : Option Addr} {xs : List Int} (h : Ints w B ao xs) {k : Nat} (hk : k < xs.length) :
    ∃ b o x, ao = some ⟨b, o, none⟩ ∧ b < B ∧ xs[k]? = some x ∧ w.cell? ⟨b, o + k, none⟩ = some (.int .i64 x) := by
  obtain ⟨b, o, ha, hb, hc⟩ := h k hk
  exact ⟨b, o, xs[k], ha, hb, List.getElem?_eq_getElem hk, hc k _ (List.getElem?_eq_getElem hk)⟩

theorem Ints.below {w w' : World} {B : Nat} {ao : Option Addr} {xs : List Int} (h : Ints w B ao xs) (hb : Below B w w') : Ints w' B ao xs := by
  intro k hk
  obtain ⟨b, o, ha, hbB, hc⟩ := h k hk
  exact ⟨b, o, ha, hbB, fun i x hx => (hb.cell (p := ⟨b, o + i, none⟩) hbB).trans (hc i x hx)⟩

theorem Ints.mono {w : World} {B B' : Nat} {ao : Option Addr} {xs : List Int} (h : Ints w B ao xs) (hb : B ≤ B') : Ints w B' ao xs := by
  intro k hk
  obtain ⟨b, o, ha, hbB, hc⟩ := h k hk
  exact ⟨b, o, ha, by omega, hc⟩

/-- Below block B, the slice with this address reads as these needs (three cells each). -/
def Needs (w : World) (B : Nat) (ao : Option Addr) (L : List Nd) : Prop :=
  ∀ k, k < L.length → ∃ b o, ao = some ⟨b, o, none⟩ ∧ b < B ∧ ∀ i d, L[i]? = some d → ∃ ai ci, w.cell? ⟨b, o + i * 3, none⟩ = some (.int .i64 d.task) ∧
    w.cell? ⟨b, o + i * 3 + 1, none⟩ = some (.slice ai d.on.length ci) ∧ w.cell? ⟨b, o + i * 3 + 2, none⟩ = some (.bool d.all) ∧ Ints w B ai d.on

theorem Needs.get {w : World} {B : Nat} {ao : Option Addr} {L : List Nd} (h : Needs w B ao L) {k : Nat} (hk : k < L.length) :
    ∃ b o t on all ai ci, ao = some ⟨b, o, none⟩ ∧ b < B ∧ L[k]? = some ⟨t, on, all⟩ ∧ w.cell? ⟨b, o + k * 3, none⟩ = some (.int .i64 t) ∧
      w.cell? ⟨b, o + k * 3 + 1, none⟩ = some (.slice ai on.length ci) ∧ w.cell? ⟨b, o + k * 3 + 2, none⟩ = some (.bool all) ∧ Ints w B ai on := by
  obtain ⟨b, o, ha, hb, hc⟩ := h k hk
  obtain ⟨ai, ci, h1, h2, h3, h4⟩ := hc k L[k] (List.getElem?_eq_getElem hk)
  exact ⟨b, o, L[k].task, L[k].on, L[k].all, ai, ci, ha, hb, List.getElem?_eq_getElem hk, h1, h2, h3, h4⟩

theorem Needs.below {w w' : World} {B : Nat} {ao : Option Addr} {L : List Nd} (h : Needs w B ao L) (hb : Below B w w') : Needs w' B ao L := by
  intro k hk
  obtain ⟨b, o, ha, hbB, hc⟩ := h k hk
  refine ⟨b, o, ha, hbB, fun i d hd => ?_⟩
  obtain ⟨ai, ci, h1, h2, h3, h4⟩ := hc i d hd
  exact ⟨ai, ci, (hb.cell (p := ⟨b, o + i * 3, none⟩) hbB).trans h1, (hb.cell (p := ⟨b, o + i * 3 + 1, none⟩) hbB).trans h2, (hb.cell (p := ⟨b, o + i * 3 + 2, none⟩) hbB).trans h3, h4.below hb⟩
theorem Needs.mono {w : World} {B B' : Nat} {ao : Option Addr} {L : List Nd} (h : Needs w B ao L) (hb : B ≤ B') : Needs w B' ao L := by
  intro k hk
  obtain ⟨b, o, ha, hbB, hc⟩ := h k hk
  refine ⟨b, o, ha, by omega, fun i d hd => ?_⟩
  obtain ⟨ai, ci, h1, h2, h3, h4⟩ := hc i d hd
  exact ⟨ai, ci, h1, h2, h3, h4.mono hb⟩

theorem ret_bool {a b : Bool} (h : a = b) : Ending.returned (.bool a) = .returned (.bool b) := by rw [h]
theorem ret_int {k : IntKind} {a b : Int} (h : a = b) : Ending.returned (.int k a) = .returned (.int k b) := by rw [h]

/-- The world has only drawn. -/
def Drewn (w w' : World) : Prop := ∃ n, w' = w.drewN n
theorem Drewn.refl (w : World) : Drewn w w := ⟨0, rfl⟩
theorem Drewn.add {w : World} (n : Nat) : Drewn w (w.drewN n) := ⟨n, rfl⟩
theorem Drewn.add2 {w : World} (n m : Nat) : Drewn w ((w.drewN n).drewN m) := ⟨n + m, by rw [World.drewN_drewN]⟩
theorem Drewn.trans {a b c : World} (h : Drewn a b) (k : Drewn b c) : Drewn a c := by
  obtain ⟨n, rfl⟩ := h; obtain ⟨m, rfl⟩ := k; exact Drewn.add2 n m
theorem below_drewN {B : Nat} {a w : World} (h : Below B a w) (n : Nat) : Below B a (w.drewN n) := ⟨h.os, h.tape, h.output, h.size, h.block⟩
theorem Drewn.below {B : Nat} {a b : World} (h : Drewn a b) : Below B a b := by
  obtain ⟨n, rfl⟩ := h; exact below_drewN (Below.refl _ _) n
theorem Ints.drewN {w : World} {B : Nat} {ao : Option Addr} {xs : List Int} (h : Ints w B ao xs) (n : Nat) : Ints (w.drewN n) B ao xs := h.below (below_drewN (Below.refl _ _) n)

/-- Nothing that the call found has turned. -/
theorem _root_.Go.RowKit.Below.al {w a : World} (h : Below w.heap.size w a) (o : Obj) : Below w.heap.size w (a.alloc o) := h.alloc h.size o
theorem _root_.Go.RowKit.Below.dn {w a : World} (h : Below w.heap.size w a) (n : Nat) : Below w.heap.size w (a.drewN n) := below_drewN h n
theorem _root_.Go.RowKit.Below.call {w a b : World} (h : Below w.heap.size w a) (k : Below a.heap.size a b) : Below w.heap.size w b := h.trans (k.mono h.size)
theorem _root_.Go.RowKit.Below.gr {w a b : World} {g : Nat} (h : Below w.heap.size w a) (hg : a.grownBy b (some g)) (hlt : w.heap.size ≤ g) : Below w.heap.size w b :=
  h.grown hg h.size (fun k hk => by injection hk with hk; omega)

end Go.Proofs.Ytkcpblmcpgnofaa
