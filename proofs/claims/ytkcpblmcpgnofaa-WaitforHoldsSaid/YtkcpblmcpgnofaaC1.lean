/- Walks: ref.Copy, ref.SameNeeds, ref.met. -/
import Derived.Test.YtkcpblmcpgnofaaN1
import Derived.Test.YtkcpblmcpgnofaaL3
import Derived.Deep.DeepMust
import Derived.Deep.RegionHeld3
namespace Go.Proofs.Ytkcpblmcpgnofaa
open Go.RowKit

theorem info42 : (Try.prog.info? 42).map (fun i => (i.zero, i.size, i.bytes)) = some (some (.agg #[.int .i64 0, .slice none 0 0, .bool false]), 3, 40) := by kernel_rfl

/-- The cells cs read as these needs. -/
def NdCells (w : World) (B : Nat) (cs : List Value) (L : List Nd) : Prop :=
  cs.length = L.length * 3 ∧ (∀ u ∈ cs, u.oneCell' = true) ∧ ∀ i d, L[i]? = some d → ∃ ai ci, cs[i * 3]? = some (.int .i64 d.task) ∧ cs[i * 3 + 1]? = some (.slice ai d.on.length ci) ∧ cs[i * 3 + 2]? = some (.bool d.all) ∧ Ints w B ai d.on

theorem NdCells.nil (w : World) (B : Nat) : NdCells w B [] [] := ⟨rfl, by simp, by simp⟩
theorem NdCells.snoc {w : World} {B : Nat} {cs : List Value} {L : List Nd} (h : NdCells w B cs L) {t : Int} {on : List Int} {all : Bool} {ai : Option Addr} {ci : Nat} (hi : Ints w B ai on) :
    NdCells w B (cs ++ [.int .i64 t, .slice ai on.length ci, .bool all]) (L ++ [⟨t, on, all⟩]) := by
  refine ⟨by simp [h.1]; omega, ?_, ?_⟩
  · intro u hu
    rw [List.mem_append] at hu
    rcases hu with hu | hu
    · exact h.2.1 u hu
    · simp at hu; rcases hu with rfl | rfl | rfl <;> rfl
  · intro i d hd
    rw [List.getElem?_append] at hd
    split at hd
    · rename_i hlt
      obtain ⟨a2, c2, h1, h2, h3, h4⟩ := h.2.2 i d hd
      have hl := h.1
      exact ⟨a2, c2, by rw [List.getElem?_append_left (by omega)]; exact h1, by rw [List.getElem?_append_left (by omega)]; exact h2, by rw [List.getElem?_append_left (by omega)]; exact h3, h4⟩
    · rename_i hge
      have hl := h.1
      have hi0 : i = L.length := by
        rcases Nat.lt_or_ge (i - L.length) 1 with h5 | h5
        · omega
        · rw [List.getElem?_eq_none (by simpa using h5)] at hd; cases hd
      subst hi0
      simp at hd
      subst hd
      exact ⟨ai, ci, by rw [List.getElem?_append_right (by omega)]; simp [hl], by rw [List.getElem?_append_right (by omega), show L.length * 3 + 1 - cs.length = 1 by omega]; rfl, by rw [List.getElem?_append_right (by omega), show L.length * 3 + 2 - cs.length = 2 by omega]; rfl, hi⟩
theorem NdCells.below {w w' : World} {B : Nat} {cs : List Value} {L : List Nd} (h : NdCells w B cs L) (hb : Below B w w') : NdCells w' B cs L :=
  ⟨h.1, h.2.1, fun i d hd => by obtain ⟨ai, ci, h1, h2, h3, h4⟩ := h.2.2 i d hd; exact ⟨ai, ci, h1, h2, h3, h4.below hb⟩⟩
theorem NdCells.mono {w : World} {B B' : Nat} {cs : List Value} {L : List Nd} (h : NdCells w B cs L) (hb : B ≤ B') : NdCells w B' cs L :=
  ⟨h.1, h.2.1, fun i d hd => by obtain ⟨ai, ci, h1, h2, h3, h4⟩ := h.2.2 i d hd; exact ⟨ai, ci, h1, h2, h3, h4.mono hb⟩⟩
theorem NdCells.needs {w : World} {B : Nat} {cs : List Value} {L : List Nd} {ao : Option Addr} (h : NdCells w B cs L) (hc : Cells w B ao cs) : Needs w B ao L := by
  intro k hk
  obtain ⟨b, o, ha, hb, hcell⟩ := hc (k * 3) (by rw [h.1]; omega)
  refine ⟨b, o, ha, hb, fun i d hd => ?_⟩
  obtain ⟨ai, ci, h1, h2, h3, h4⟩ := h.2.2 i d hd
  exact ⟨ai, ci, hcell _ _ h1, hcell _ _ h2, hcell _ _ h3, h4⟩

/-- Rows of different element types lie in different blocks. -/
theorem own_ne {w : World} {b1 b2 s1 s2 n1 n2 : Nat} {e1 e2 : TypeId} {v1 v2 : Value} {xs1 xs2 : List Value} (h1 : w.ownsRow b1 e1 s1 v1 n1 xs1) (h2 : w.ownsRow b2 e2 s2 v2 n2 xs2) (hne : e1 ≠ e2) :
    v1.ownBlock = none ∨ v1.ownBlock ≠ v2.ownBlock := by
  rcases h1.2 with ⟨rfl, _⟩ | ⟨g, cap, cur, rfl, _, hh, _⟩
  · exact .inl rfl
  rcases h2.2 with ⟨rfl, _⟩ | ⟨g', cap', cur', rfl, _, hh', _⟩
  · right; simp [Value.ownBlock]
  · right
    simp only [Value.ownBlock, ne_eq, Option.some.injEq]
    intro e
    subst e
    rw [hh] at hh'
    injection hh' with hh'; injection hh' with _ hh'
    exact hne hh'

/-- The cells cs read as these needs, whose lists the call owns. -/
def NdOwn (w : World) (base : Nat) (cs : List Value) (L : List Nd) : Prop :=
  cs.length = L.length * 3 ∧ (∀ u ∈ cs, u.oneCell' = true) ∧ ∀ i d, L[i]? = some d → ∃ vi, cs[i * 3]? = some (.int .i64 d.task) ∧ cs[i * 3 + 1]? = some vi ∧ cs[i * 3 + 2]? = some (.bool d.all) ∧ w.ownsRow base 3 1 vi d.on.length (d.on.map (.int .i64))
theorem NdOwn.nil (w : World) (B : Nat) : NdOwn w B [] [] := ⟨rfl, by simp, by simp⟩
theorem NdOwn.kept {w w' : World} {base b2 n2 : Nat} {cs : List Value} {L : List Nd} {v : Value} {xs : List Value} (h : NdOwn w base cs L) (hv : w.ownsRow b2 42 3 v n2 xs) (hg : w.grownBy w' v.ownBlock) : NdOwn w' base cs L :=
  ⟨h.1, h.2.1, fun i d hd => by obtain ⟨vi, h1, h2, h3, h4⟩ := h.2.2 i d hd; exact ⟨vi, h1, h2, h3, h4.kept hg (own_ne h4 hv (by decide))⟩⟩
theorem NdOwn.keptNone {w w' : World} {base : Nat} {cs : List Value} {L : List Nd} (h : NdOwn w base cs L) (hg : w.grownBy w' none) : NdOwn w' base cs L :=
  ⟨h.1, h.2.1, fun i d hd => by
    obtain ⟨vi, h1, h2, h3, h4⟩ := h.2.2 i d hd
    refine ⟨vi, h1, h2, h3, h4.kept hg ?_⟩
    cases hv : vi.ownBlock <;> simp⟩
theorem NdOwn.snoc {w : World} {B : Nat} {cs : List Value} {L : List Nd} (h : NdOwn w B cs L) {t : Int} {on : List Int} {all : Bool} {vi : Value} (hi : w.ownsRow B 3 1 vi on.length (on.map (.int .i64))) (h1' : vi.oneCell' = true) :
    NdOwn w B (cs ++ [.int .i64 t, vi, .bool all]) (L ++ [⟨t, on, all⟩]) := by
  refine ⟨by simp [h.1]; omega, ?_, ?_⟩
  · intro u hu
    rw [List.mem_append] at hu
    rcases hu with hu | hu
    · exact h.2.1 u hu
    · simp at hu; rcases hu with rfl | rfl | rfl
      · rfl
      · exact h1'
      · rfl
  · intro i d hd
    rw [List.getElem?_append] at hd
    split at hd
    · rename_i hlt
      obtain ⟨a2, h1, h2, h3, h4⟩ := h.2.2 i d hd
      have hl := h.1
      exact ⟨a2, by rw [List.getElem?_append_left (by omega)]; exact h1, by rw [List.getElem?_append_left (by omega)]; exact h2, by rw [List.getElem?_append_left (by omega)]; exact h3, h4⟩
    · rename_i hge
      have hl := h.1
      have hi0 : i = L.length := by
        rcases Nat.lt_or_ge (i - L.length) 1 with h5 | h5
        · omega
        · rw [List.getElem?_eq_none (by simpa using h5)] at hd; cases hd
      subst hi0
      simp at hd
      subst hd
      exact ⟨vi, by rw [List.getElem?_append_right (by omega)]; simp [hl], by rw [List.getElem?_append_right (by omega), show L.length * 3 + 1 - cs.length = 1 by omega]; rfl, by rw [List.getElem?_append_right (by omega), show L.length * 3 + 2 - cs.length = 2 by omega]; rfl, hi⟩
theorem NdOwn.cells {w : World} {base : Nat} {cs : List Value} {L : List Nd} (h : NdOwn w base cs L) : NdCells w w.heap.size cs L :=
  ⟨h.1, h.2.1, fun i d hd => by
    obtain ⟨vi, h1, h2, h3, h4⟩ := h.2.2 i d hd
    obtain ⟨ai, ci, rfl, hi⟩ := own_ints h4
    exact ⟨ai, ci, h1, h2, h3, hi⟩⟩

/-- A list of needs of the call's own, and the lists in them too. -/
def RNeeds (w : World) (L : List Nd) (e : Ending) (w' : World) : Prop :=
  ∃ v cs, e = .returned v ∧ w'.ownsRow w.heap.size 42 3 v L.length cs ∧ NdOwn w' w.heap.size cs L ∧ Below w.heap.size w w'

/-- One block of cells, read from its head. -/
theorem cells_block {w : World} {g : Nat} {cs : Array Value} {e : TypeId} {fr : Nat × Nat} (h : w.heap[g]? = some (.cells cs e fr)) : Cells w w.heap.size (some ⟨g, 0, none⟩) cs.toList := by
  intro k hk
  refine ⟨g, 0, rfl, (Array.getElem?_eq_some_iff.1 h).1, fun i v hv => ?_⟩
  rw [cell_of_row w g (0 + i) cs e fr h]
  simpa using hv

set_option maxRecDepth 100000 in
set_option maxHeartbeats 3200000 in
theorem copy_any (ao : Option Addr) (cap : Nat) (L : List Nd) (w : World) (h : Needs w w.heap.size ao L) (hl : L.length ≤ 1000000) (hon : ∀ d ∈ L, d.on.length ≤ 1000000) :
    Calls Try.prog 13 #[.slice ao L.length cap] w (RNeeds w L) := by
  have Hon := Lib.hid hon
  clear hon
  obtain ⟨i3, h30, h31, h32, h33⟩ := info_parts info3
  obtain ⟨i42, h40, h41, h42, h43⟩ := info_parts info42
  go_enter Try.func13, Try.ntmps13
  go_wp2
  go_loopw [3, 4] (fun out i wr => ∃ (k : Nat) (cs : List Value), k ≤ L.length ∧ i = .int .i64 k ∧ wr.ownsRow w.heap.size 42 3 out k cs ∧ NdOwn wr w.heap.size cs (L.take k) ∧ Below w.heap.size w wr) (fun _ i _ => L.length - (intOf i).toNat)
  case atStart => exact ⟨0, [], Nat.zero_le _, rfl, World.ownsRow_nil _ _ _ _, NdOwn.nil _ _, Below.refl _ _⟩
  case round =>
    obtain ⟨k, cs, hk, rfl, hown, hnd, hbel⟩ := hrel
    by_cases hlt : k < L.length
    · obtain ⟨b, o, t, on, all, ai, ci, rfl, hbB, hd, c1, c2, c3, hi⟩ := (h.below hbel).get hlt
      have hol : on.length ≤ 1000000 := Hon.out _ (List.mem_of_getElem? hd)
      have Hd := Lib.hid hd
      clear hd
      have hnn : ∀ W : World, W.ownsRow w.heap.size 3 1 (.slice none 0 0) 0 [] := fun W => World.ownsRow_nil _ _ _ _
      have hk0 : (0 : Int) ≤ (k : Int) := by omega
      have hk1 : (k : Int) < (L.length : Int) := by omega
      go_wp2
      go_region_held3 (fun w' => w'.cell? ⟨b, o + k * 3, none⟩ = some (.int .i64 t) ∧ w'.cell? ⟨b, o + k * 3 + 1, none⟩ = some (.slice ai on.length ci) ∧ w'.cell? ⟨b, o + k * 3 + 2, none⟩ = some (.bool all))
        (first
          | go_keep
          | exact ⟨hg1.cell c1 (by simp [Value.ownBlock]), hg1.cell c2 (by simp [Value.ownBlock]), hg1.cell c3 (by simp [Value.ownBlock])⟩
          | exact ⟨(hbF.cell (p := ⟨b, _, none⟩) hbB).trans c1, (hbF.cell (p := ⟨b, _, none⟩) hbB).trans c2, (hbF.cell (p := ⟨b, _, none⟩) hbB).trans c3⟩)
        (first
          | (refine step_append_cells _ (by rfl) (.const (.slice none 0 0)) (.tmp 21) 27 (by rfl) w.heap.size 3 i3 (.int .i64 0) 1 8 Try.underlying27 h30 h31 h32 h33 rfl (by omega) (.slice none 0 0) 0 [] (by rfl) (hnn _) w.heap.size ai on.length ci (on.map (.int .i64)) (by rfl) (by simp) (by exact hi.cells) (ints_oneCell' _) (by unfold maxLen; omega) (by omega) (by exact hbel.size) ?_; intro v1 w1 hown1 hg1 hat1; simp only [Nat.zero_add, List.nil_append] at hown1; obtain ⟨ao1, cap1, rfl, hc1⟩ := own_ints hown1; have hgA : wr.grownBy w1 none := ⟨hg1.os, hg1.tape, hg1.output, hg1.size, hg1.block⟩; have hownA := hown.kept hgA (by cases u3.ownBlock <;> simp); have hszA : ∀ o', w.heap.size ≤ (w1.alloc o').heap.size := fun o' => by have := hbel.size; have := hgA.size; simp; omega)
          | (refine step_append_cells _ (by rfl) (.tmp 11) (.tmp 29) 22 (by rfl) w.heap.size 42 i42 (.agg #[.int .i64 0, .slice none 0 0, .bool false]) 3 40 Try.underlying22 h40 h41 h42 h43 rfl (by omega) u3 k cs (by rfl) (hownA.alloc _) (w1.heap.size + 1) (some ⟨w1.heap.size, 0, none⟩) 1 1 [.int .i64 t, .slice ao1 on.length cap1, .bool all] (by rfl) (by rfl) (cells_new w1 [.int .i64 t, .slice ao1 on.length cap1, .bool all] 42) (by simp [Value.oneCell']) (by unfold maxLen; omega) (by omega) (hszA _) ?_; intro v2 w2 hown2 hg2 hat2; have hbF := (((Below.refl w.heap.size wr).grown hgA hbel.size (fun k hk => by cases hk)).alloc (Nat.le_trans hbel.size hgA.size) _).grown hg2 (hszA _) (fun g hg => (hown.lt g hg).1)))
      go_wp2
      have hnd1 := hnd.keptNone hgA
      have hown' := hownA
      have hown1' := (hown1.alloc (.cells #[.int .i64 t, .slice ao1 on.length cap1, .bool all] 42)).kept hg2 (own_ne hown1 hown' (by decide))
      have hnd2 := ((hnd1.keptNone (World.grownBy_alloc w1 (.cells #[.int .i64 t, .slice ao1 on.length cap1, .bool all] 42) none)).kept (hown'.alloc _) hg2).snoc (t := t) (all := all) hown1' rfl
      have hb1 : Below w.heap.size w w1 := hbel.grown hgA hbel.size (by intro k hk; cases hk)
      have hb2 : Below w.heap.size w w2 := (hb1.al _).grown hg2 (hb1.al _).size (fun g hg => (hown.lt g hg).1)
      go_roundw
      case rel =>
        refine ⟨k + 1, _, by omega, by go_num, hown2, ?_, hb2⟩
        rw [List.take_succ_eq_append_getElem hlt, show L[k] = ⟨t, on, all⟩ from (List.getElem?_eq_some_iff.1 Hd.out).2]
        exact hnd2
      case measure => simp [intOf]; omega
    · obtain rfl : k = L.length := by omega
      go_wp2
      go_ret
      exact ⟨_, cs, rfl, hown, by rw [List.take_length] at hnd; exact hnd, hbel⟩

end Go.Proofs.Ytkcpblmcpgnofaa
