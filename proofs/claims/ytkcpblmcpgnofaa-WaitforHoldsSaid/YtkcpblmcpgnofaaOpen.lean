/- Opening the arguments: a slice of ints, a slice of needs. -/
import Derived.ProofKit
import Derived.Deep.Slices
import Derived.Deep.Fields
import Derived.Test.YtkcpblmcpgnofaaW1
namespace Go.Proofs.Ytkcpblmcpgnofaa
open Go.ChangeShapes Go.WideShapes Go.Deep Go.RowKit

theorem Try.own : ownKnob Try.prog.godebug = none := by kernel_rfl
theorem Try.laidOut : laidOutB Try.prog = true := by kernel_rfl
theorem Try.cells3 : Try.prog.cellsOf 3 = 1 := by kernel_rfl
theorem Try.cells42 : Try.prog.cellsOf 42 = 3 := by kernel_rfl

theorem cell_addr {w : World} {a : Addr} {k : Nat} {v : Value} (h : w.cell? (a.add k) = some v) (hs : w.cell? a ≠ none ∨ a.spot = none) : w.cell? ⟨a.block, a.off + k, none⟩ = some v := by
  have h0 : a.spot = none := by
    rcases hs with hs | hs
    · cases hsp : a.spot with
      | none => rfl
      | some x =>
        exfalso; apply hs
        unfold World.cell?
        split
        · simp [hsp]
        · rfl
    · exact hs
  rcases Nat.eq_zero_or_pos k with rfl | hk
  · obtain ⟨b, o, s⟩ := a
    simp only at h0
    subst h0
    simpa [Addr.add] using h
  · have : a.add k = ⟨a.block, a.off + k, none⟩ := by unfold Addr.add; rw [if_neg (by omega)]
    rw [this] at h; exact h
theorem cell_lt {w : World} {a : Addr} {v : Value} (h : w.cell? a = some v) : a.block < w.heap.size := by
  unfold World.cell? at h
  split at h
  · rename_i hb
    exact (Array.getElem?_eq_some_iff.1 hb).1
  · cases h

section
variable {H : Type} {enc : TypeId × Value → H} {w : World} {base : Nat}

/-- A slice of ints that came in, from its reading. -/
theorem open_ints_raw {fuel : Nat} {cs : List Value} {x : DataW H × List MemPlace} (h : DataW.trod enc Try.prog w base (fun _ => true) true fuel 27 cs = some x) :
    ∃ (ao : Option Addr) (cap : Nat) (xs : List Int), cs = [.slice ao xs.length cap] ∧ Ints w w.heap.size ao xs ∧ xs.length ≤ maxLen ∧ ∀ n ∈ xs, Wf64 n := by
  rcases open_ints Try.underlying27 Try.underlying3 Try.cells3 h with ⟨h0, _⟩ | ⟨a, len, cap, zs, hcs, _, hl, hm, hz, _, hcell, hwf⟩
  · exact ⟨none, 0, [], h0, fun k hk => by simp at hk, by simp [maxLen], by simp⟩
  · simp only [if_true] at hz
    refine ⟨some a, cap, zs.take len, ?_, ?_, ?_, fun n hn => hwf n (List.mem_of_mem_take hn)⟩
    · rw [List.length_take, Nat.min_eq_left (by omega)]; exact hcs
    · intro k hk
      rw [List.length_take] at hk
      have h0 := hcell 0 (by omega)
      have hsp : w.cell? a ≠ none := by
        have : a.add 0 = a := by simp [Addr.add]
        rw [this] at h0; rw [h0]; simp
      have hblk : a.block < w.heap.size := by
        have : a.add 0 = a := by simp [Addr.add]
        rw [this] at h0; exact cell_lt h0
      have haddr : a = ⟨a.block, a.off, none⟩ := by
        obtain ⟨b, o, s⟩ := a
        cases s with
        | none => rfl
        | some q =>
          exfalso; apply hsp
          unfold World.cell?
          split
          · simp
          · rfl
      refine ⟨a.block, a.off, by rw [← haddr], hblk, fun i y hy => ?_⟩
      have hi := (List.getElem?_eq_some_iff.1 hy).1
      rw [List.length_take] at hi
      have := cell_addr (hcell i (by omega)) (.inl hsp)
      rw [this]
      rw [List.getElem?_take, if_pos (by omega)] at hy
      rw [List.getD_eq_getElem?_getD, hy]; rfl
    · rw [List.length_take]; omega

theorem open_intsV {v : Value} {d : DataW H} {ps : List MemPlace} (hval : Value.okWide Try.prog w .any base 27 v) (h : DataW.Trod enc Try.prog w 0 (fun _ => true) true 27 v d ps) :
    ∃ (ao : Option Addr) (cap : Nat) (xs : List Int), v = .slice ao xs.length cap ∧ Ints w w.heap.size ao xs ∧ xs.length ≤ maxLen ∧ ∀ n ∈ xs, Wf64 n := by
  obtain ⟨ad, len, cap, rfl⟩ := okWide_slice Try.underlying27 hval
  obtain ⟨fuel, hf⟩ := h
  obtain ⟨ao, cap', xs, hcs, r⟩ := open_ints_raw hf
  simp [Value.cells] at hcs
  obtain ⟨rfl, rfl, rfl⟩ := hcs
  exact ⟨_, _, xs, rfl, r⟩

/-- What stands at place i of a list of needs that came in. -/
def NdAt (w : World) (b o i : Nat) (d : Nd) : Prop :=
  ∃ ai ci, w.cell? ⟨b, o + i * 3, none⟩ = some (.int .i64 d.task) ∧ w.cell? ⟨b, o + i * 3 + 1, none⟩ = some (.slice ai d.on.length ci) ∧ w.cell? ⟨b, o + i * 3 + 2, none⟩ = some (.bool d.all) ∧ Ints w w.heap.size ai d.on ∧
    Wf64 d.task ∧ d.on.length ≤ maxLen ∧ ∀ y ∈ d.on, Wf64 y

set_option maxRecDepth 10000 in
theorem open_needsV {v : Value} {d : DataW H} {ps : List MemPlace} (hval : Value.okWide Try.prog w .any base 22 v) (h : DataW.Trod enc Try.prog w 0 (fun _ => true) true 22 v d ps) :
    ∃ (ao : Option Addr) (cap : Nat) (L : List Nd), v = .slice ao L.length cap ∧ Needs w w.heap.size ao L ∧ WfIn L := by
  obtain ⟨ad, len, cap, rfl⟩ := okWide_slice Try.underlying22 hval
  obtain ⟨fuel, hf⟩ := h
  rcases open_slice Try.underlying22 hf with ⟨h0, _⟩ | ⟨a, len', cap', m, n, D, Pl, hcs, _, hl, hm, hmm, _, hi⟩
  · simp [Value.cells] at h0
    obtain ⟨rfl, rfl, rfl⟩ := h0
    exact ⟨none, 0, [], rfl, needs_nil _ _, ⟨by decide, by simp, by simp⟩⟩
  · simp [Value.cells] at hcs
    obtain ⟨h1, h2, h3⟩ := hcs
    subst h1 h2 h3
    simp only [if_true] at hmm
    rw [Try.cells42, hmm] at hi
    clear hmm
    have hat : ∀ i, i < len → ∃ d : Nd, NdAt w a.block a.off i d := by
      intro i hil
      obtain ⟨cs', hc, ht⟩ := hi i (by omega)
      obtain ⟨xs, n', _, _, hlen, _, hfl⟩ := DataW.trod_struct Try.underlying42 ht
      rw [Try.cells42] at hlen
      obtain ⟨_, _, hcell⟩ := World.cells?_some hc
      obtain ⟨c0, c1, c2, rfl⟩ : ∃ c0 c1 c2, cs' = [c0, c1, c2] := by
        match cs', hlen with
        | [c0, c1, c2], _ => exact ⟨c0, c1, c2, rfl⟩
      have f0 := hfl 0 _ rfl
      have f1 := hfl 1 _ rfl
      have f2 := hfl 2 _ rfl
      have e3 : Try.prog.cellsOf 3 = 1 := Try.cells3
      have e27 : Try.prog.cellsOf 27 = 1 := by kernel_rfl
      have e4 : Try.prog.cellsOf 4 = 1 := by kernel_rfl
      change DataW.trod enc Try.prog w 0 (fun _ => true) true n' 3 (([c0, c1, c2].drop 0).take (Try.prog.cellsOf 3)) = xs[0]? at f0
      change DataW.trod enc Try.prog w 0 (fun _ => true) true n' 27 (([c0, c1, c2].drop 1).take (Try.prog.cellsOf 27)) = xs[1]? at f1
      change DataW.trod enc Try.prog w 0 (fun _ => true) true n' 4 (([c0, c1, c2].drop 2).take (Try.prog.cellsOf 4)) = xs[2]? at f2
      rw [e3] at f0
      rw [e27] at f1
      rw [e4] at f2
      change DataW.trod enc Try.prog w 0 (fun _ => true) true n' 3 [c0] = xs[0]? at f0
      change DataW.trod enc Try.prog w 0 (fun _ => true) true n' 27 [c1] = xs[1]? at f1
      change DataW.trod enc Try.prog w 0 (fun _ => true) true n' 4 [c2] = xs[2]? at f2
      have hsome : ∀ j, j < 3 → ∃ y, xs[j]? = some y := fun j hj => ⟨xs[j]'(by simp_all), List.getElem?_eq_getElem _⟩
      obtain ⟨y0, hy0⟩ := hsome 0 (by omega)
      obtain ⟨y1, hy1⟩ := hsome 1 (by omega)
      obtain ⟨y2, hy2⟩ := hsome 2 (by omega)
      rw [hy0] at f0
      rw [hy1] at f1
      rw [hy2] at f2
      obtain ⟨t, ht0, _, hwt⟩ := DataW.trod_int Try.underlying3 f0
      obtain ⟨ao, cp, on, hon, hints, honl, honw⟩ := open_ints_raw f1
      obtain ⟨al, hal, _⟩ := DataW.trod_bool Try.underlying4 f2
      injection ht0 with ht0
      injection hon with hon
      injection hal with hal
      subst ht0 hon hal
      have g0 := hcell 0 (by omega)
      have g1 := hcell 1 (by omega)
      have g2 := hcell 2 (by omega)
      have hadd : ∀ j, (a.add (i * 3)).add j = a.add (i * 3 + j) := fun j => Go.Deep.add_add _ _ _
      rw [hadd] at g0 g1 g2
      have hspot : a.spot = none := by
        cases hsp : a.spot with
        | none => rfl
        | some q =>
          exfalso
          have h00 := hi 0 (by omega)
          obtain ⟨cs0, hc0, _⟩ := h00
          obtain ⟨_, _, hcell0⟩ := World.cells?_some hc0
          have := hcell0 0 (by omega)
          have e : (a.add (0 * 3)).add 0 = a := by simp [Addr.add]
          rw [e] at this
          have hlen0 : cs0.length = 3 := (World.cells?_some hc0).2.1
          have hnn : w.cell? a = none := by
            unfold World.cell?
            split
            · simp [hsp]
            · rfl
          rw [hnn] at this
          have := List.getElem?_eq_none_iff.1 this.symm
          omega
      refine ⟨⟨t, on, al⟩, ao, cp, ?_, ?_, ?_, hints, hwt, honl, honw⟩
      · have := cell_addr g0 (.inr hspot); simpa using this
      · have := cell_addr g1 (.inr hspot); rw [show a.off + (i * 3 + 1) = a.off + i * 3 + 1 by omega] at this; exact this
      · have := cell_addr g2 (.inr hspot); rw [show a.off + (i * 3 + 2) = a.off + i * 3 + 2 by omega] at this; exact this
    have hch : ∀ i, ∃ d : Nd, i < len → NdAt w a.block a.off i d := by
      intro i
      by_cases hil : i < len
      · obtain ⟨d, hd⟩ := hat i hil; exact ⟨d, fun _ => hd⟩
      · exact ⟨⟨0, [], false⟩, fun h => absurd h hil⟩
    obtain ⟨f, hf⟩ := Classical.axiomOfChoice hch
    have hget : ∀ i d, ((List.range len).map f)[i]? = some d → i < len ∧ d = f i := by
      intro i d hd
      rw [List.getElem?_map] at hd
      have hil : i < len := by
        rcases Nat.lt_or_ge i len with h | h
        · exact h
        · rw [List.getElem?_eq_none (by simpa using h)] at hd; cases hd
      rw [List.getElem?_range hil] at hd
      simp at hd
      exact ⟨hil, hd.symm⟩
    have hmem : ∀ d ∈ (List.range len).map f, ∃ i, i < len ∧ d = f i := by
      intro d hd
      obtain ⟨i, hi⟩ := List.mem_iff_getElem?.1 hd
      exact ⟨i, hget i d hi⟩
    refine ⟨some a, cap, (List.range len).map f, by simp, ?_, ⟨by simp; unfold maxLen at hm; omega, ?_, ?_⟩⟩
    · intro k hk
      rw [List.length_map, List.length_range] at hk
      obtain ⟨ai, ci, c0, c1, c2, hin, _⟩ := hf k hk
      have hblk : a.block < w.heap.size := cell_lt (a := ⟨a.block, _, none⟩) c0
      have hspot : a.spot = none := by
        cases hsp : a.spot with
        | none => rfl
        | some q =>
          exfalso
          obtain ⟨cs0, hc0, _⟩ := hi 0 (by omega)
          obtain ⟨_, hlen0, hcell0⟩ := World.cells?_some hc0
          have := hcell0 0 (by omega)
          have e : (a.add (0 * 3)).add 0 = a := by simp [Addr.add]
          rw [e] at this
          have hnn : w.cell? a = none := by
            unfold World.cell?
            split
            · simp [hsp]
            · rfl
          rw [hnn] at this
          have := List.getElem?_eq_none_iff.1 this.symm
          omega
      refine ⟨a.block, a.off, by obtain ⟨b, o, s⟩ := a; simp only at hspot; subst hspot; rfl, hblk, fun i d hd => ?_⟩
      obtain ⟨hil, rfl⟩ := hget i d hd
      obtain ⟨ai, ci, c0, c1, c2, hin, _⟩ := hf i hil
      exact ⟨ai, ci, c0, c1, c2, hin⟩
    · intro d hd
      obtain ⟨i, hil, rfl⟩ := hmem d hd
      obtain ⟨_, _, _, _, _, _, hwt, _⟩ := hf i hil
      exact hwt
    · intro d hd
      obtain ⟨i, hil, rfl⟩ := hmem d hd
      obtain ⟨_, _, _, _, _, _, _, hl', _⟩ := hf i hil
      unfold maxLen at hl'
      omega
end
end Go.Proofs.Ytkcpblmcpgnofaa
