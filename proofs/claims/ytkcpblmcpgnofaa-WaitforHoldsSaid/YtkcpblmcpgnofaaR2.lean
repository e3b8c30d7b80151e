/- Walks: ref.Rounds, ref.Stuck. -/
import Derived.Test.YtkcpblmcpgnofaaR1
import Derived.Deep.DeepCutAuto
namespace Go.Proofs.Ytkcpblmcpgnofaa
open Go.RowKit

/-! ### plain -/
def outI (n : Nat) (L : List Nd) (i : Nat) : List Int := (List.range n).map fun j => if j < i ∧ 0 ≤ atI L j then -1 else 0
def frI (n : Nat) (L : List Nd) (i : Nat) : List Bool := (List.range n).map fun j => decide (j < i) && decide (atI L j < 0)
theorem length_outI (n : Nat) (L : List Nd) (i : Nat) : (outI n L i).length = n := by simp [outI]
theorem length_frI (n : Nat) (L : List Nd) (i : Nat) : (frI n L i).length = n := by simp [frI]
theorem outI_zero (n : Nat) (L : List Nd) : outI n L 0 = List.replicate n 0 := by
  apply List.ext_getElem
  · simp [outI]
  · intro i h1 h2; simp [outI]
theorem frI_zero (n : Nat) (L : List Nd) : frI n L 0 = List.replicate n false := by
  apply List.ext_getElem
  · simp [frI]
  · intro i h1 h2; simp [frI]
theorem outI_hit {n : Nat} {L : List Nd} {i : Nat} (h : 0 ≤ atI L i) : outI n L (i + 1) = (outI n L i).set i (-1) := by
  apply List.ext_getElem
  · simp [outI]
  · intro j h1 h2
    simp only [outI, List.getElem_map, List.getElem_range, List.getElem_set]
    by_cases hj : i = j
    · subst hj; rw [if_pos ⟨by omega, h⟩, if_pos rfl]
    · rw [if_neg hj]
      by_cases hlt : j < i
      · by_cases ha : 0 ≤ atI L j
        · rw [if_pos ⟨by omega, ha⟩, if_pos ⟨hlt, ha⟩]
        · rw [if_neg (fun h => ha h.2), if_neg (fun h => ha h.2)]
      · rw [if_neg (fun h => by omega), if_neg (fun h => hlt h.1)]
theorem outI_miss {n : Nat} {L : List Nd} {i : Nat} (h : atI L i < 0) : outI n L (i + 1) = outI n L i := by
  apply List.ext_getElem
  · simp [outI]
  · intro j h1 h2
    simp only [outI, List.getElem_map, List.getElem_range]
    by_cases hj : j = i
    · subst hj; rw [if_neg (fun h' => by omega), if_neg (fun h' => by omega)]
    · by_cases hlt : j < i
      · by_cases ha : 0 ≤ atI L j
        · rw [if_pos ⟨by omega, ha⟩, if_pos ⟨hlt, ha⟩]
        · rw [if_neg (fun h => ha h.2), if_neg (fun h => ha h.2)]
      · rw [if_neg (fun h => by omega), if_neg (fun h => hlt h.1)]
theorem frI_step {n : Nat} {L : List Nd} {i : Nat} : frI n L (i + 1) = (frI n L i).set i (decide (atI L i < 0)) := by
  apply List.ext_getElem
  · simp [frI]
  · intro j h1 h2
    simp only [frI, List.getElem_map, List.getElem_range, List.getElem_set]
    by_cases hj : i = j
    · subst hj; simp
    · rw [if_neg hj]
      congr 1
      rw [decide_eq_decide]; omega

def rStep (fr : List Bool) (r : Int) (p : List Int × List Bool) (d : Nd) : List Int × List Bool :=
  if !frAt fr d.task && metL fr d then (setAt r p.1 d.task, p.2.set d.task.toNat true) else p
def rTo (L : List Nd) (fr : List Bool) (r : Int) (p : List Int × List Bool) (k : Nat) : List Int × List Bool := (L.take k).foldl (rStep fr r) p
def itR (n : Nat) (L : List Nd) : Nat → List Int × List Bool
  | 0 => (outI n L n, frI n L n)
  | r + 1 => rTo L (itR n L r).2 (r + 1 : Nat) (itR n L r) L.length
def refRounds (n : Nat) (L : List Nd) : List Int := (itR n L n).1
theorem rTo_step {L : List Nd} {fr : List Bool} {r : Int} {p : List Int × List Bool} {k : Nat} {d : Nd} (hd : L[k]? = some d) : rTo L fr r p (k + 1) = rStep fr r (rTo L fr r p k) d := by
  obtain ⟨hk, he⟩ := List.getElem?_eq_some_iff.1 hd
  unfold rTo; rw [List.take_succ_eq_append_getElem hk, List.foldl_append, he]; rfl

/-! ### the state in memory -/
structure RR (w wr : World) (n bo co bf cf : Nat) (out : List Int) (fr : List Bool) : Prop where
  out : wr.ownsRow w.heap.size 3 1 (.slice (some ⟨bo, 0, none⟩) n co) n (out.map (.int .i64))
  fr : wr.ownsRow w.heap.size 4 1 (.slice (some ⟨bf, 0, none⟩) n cf) n (fr.map .bool)
  below : Below w.heap.size w wr
theorem RR.ne {w wr : World} {n bo co bf cf : Nat} {out : List Int} {fr : List Bool} (h : RR w wr n bo co bf cf out fr) : bo ≠ bf := by
  rcases own_ne h.out h.fr (by decide) with h1 | h1
  · simp [Value.ownBlock] at h1
  · intro e; subst e; simp [Value.ownBlock] at h1
theorem RR.new {w wr w' : World} {n bo co bf cf : Nat} {out : List Int} {fr : List Bool} (h : RR w wr n bo co bf cf out fr) (hb : Below wr.heap.size wr w') : RR w w' n bo co bf cf out fr :=
  ⟨own_below h.out hb, own_below h.fr hb, h.below.call hb⟩
theorem RR.len {w wr : World} {n bo co bf cf : Nat} {out : List Int} {fr : List Bool} (h : RR w wr n bo co bf cf out fr) : out.length = n ∧ fr.length = n := ⟨by simpa using h.out.1, by simpa using h.fr.1⟩
theorem own_store_other {w : World} {base : Nat} {e : TypeId} {size n cap g : Nat} {xs : List Value} (h : w.ownsRow base e size (.slice (some ⟨g, 0, none⟩) n cap) n xs) {a : Addr} (ha : g ≠ a.block) (u : Value) : (w.setCell a u).ownsRow base e size (.slice (some ⟨g, 0, none⟩) n cap) n xs := by
  obtain ⟨h1, h2⟩ := h
  refine ⟨h1, ?_⟩
  rcases h2 with h2 | ⟨g', cap', cur, hv, hg, hh, r⟩
  · exact Or.inl h2
  · refine Or.inr ⟨g', cap', cur, hv, hg, ?_, r⟩
    injection hv with hv _ _; injection hv with hv; injection hv with hv _ _; subst hv
    rw [Below.heap_setCell _ _ _ _ ha]; exact hh
theorem RR.storeOut {w wr : World} {n bo co bf cf : Nat} {out : List Int} {fr : List Bool} (h : RR w wr n bo co bf cf out fr) (j : Nat) (x : Int) : RR w (wr.setCell ⟨bo, j, none⟩ (.int .i64 x)) n bo co bf cf (out.set j x) fr := by
  refine ⟨?_, own_store_other h.fr (Ne.symm h.ne) _, h.below.setCell ((h.out.lt bo rfl).1) _⟩
  have := (h.out.stored j (.int .i64 x)).1
  rw [← List.map_set] at this
  exact this
theorem RR.storeFr {w wr : World} {n bo co bf cf : Nat} {out : List Int} {fr : List Bool} (h : RR w wr n bo co bf cf out fr) (j : Nat) (x : Bool) : RR w (wr.setCell ⟨bf, j, none⟩ (.bool x)) n bo co bf cf out (fr.set j x) := by
  refine ⟨own_store_other h.out h.ne _, ?_, h.below.setCell ((h.fr.lt bf rfl).1) _⟩
  have := (h.fr.stored j (.bool x)).1
  rw [← List.map_set] at this
  exact this

theorem info4 : (Try.prog.info? 4).map (fun i => (i.zero, i.size, i.bytes)) = some (some (.bool false), 1, 1) := by kernel_rfl

theorem own_made {w : World} {base n : Nat} {e : TypeId} {z : Value} (hb : base ≤ w.heap.size) (hn : n ≤ maxLen) :
    (w.alloc (.cells (madeCells #[z] n) e)).ownsRow base e 1 (.slice (some ⟨w.heap.size, 0, none⟩) n n) n (List.replicate n z) := by
  refine ⟨by simp, .inr ⟨w.heap.size, n, _, rfl, hb, heap_alloc_new w _, Nat.le_refl _, hn, ?_, ?_⟩⟩
  · rw [size_madeCells]; omega
  · rw [toList_madeCells_one]; simp

/-- The two slices at the start, in whatever order they were made. -/
def RStart (w : World) (n : Nat) (o f : Value) (w' : World) : Prop :=
  ∃ bo bf, o = .slice (some ⟨bo, 0, none⟩) n n ∧ f = .slice (some ⟨bf, 0, none⟩) n n ∧ w'.ownsRow w.heap.size 3 1 (.slice (some ⟨bo, 0, none⟩) n n) n ((List.replicate n (0 : Int)).map (.int .i64)) ∧
    w'.ownsRow w.heap.size 4 1 (.slice (some ⟨bf, 0, none⟩) n n) n ((List.replicate n false).map .bool) ∧ Below w.heap.size w w'

theorem rstart_a (w : World) (n : Nat) (hn : n ≤ 64) : RStart w n (.slice (some ⟨w.heap.size, 0, none⟩) n n) (.slice (some ⟨w.heap.size + 1, 0, none⟩) n n) (((w.alloc (.cells (madeCells #[.int .i64 0] n) 3)).alloc (.cells (madeCells #[.bool false] n) 4)).drew) := by
  refine ⟨w.heap.size, w.heap.size + 1, rfl, rfl, ?_, ?_, (((Below.refl _ _).al _).al _).drew⟩
  · have := (own_made (w := w) (n := n) (e := 3) (z := .int .i64 0) (Nat.le_refl _) (by unfold maxLen; omega)).alloc (.cells (madeCells #[.bool false] n) 4)
    rw [List.map_replicate]; exact this
  · have := own_made (w := w.alloc (.cells (madeCells #[.int .i64 0] n) 3)) (base := w.heap.size) (n := n) (e := 4) (z := .bool false) (by simp) (by unfold maxLen; omega)
    rw [List.map_replicate]; simp only [World.size_alloc] at this; exact this
theorem rstart_b (w : World) (n : Nat) (hn : n ≤ 64) : RStart w n (.slice (some ⟨w.heap.size + 1, 0, none⟩) n n) (.slice (some ⟨w.heap.size, 0, none⟩) n n) (((w.alloc (.cells (madeCells #[.bool false] n) 4)).alloc (.cells (madeCells #[.int .i64 0] n) 3)).drew) := by
  refine ⟨w.heap.size + 1, w.heap.size, rfl, rfl, ?_, ?_, (((Below.refl _ _).al _).al _).drew⟩
  · have := own_made (w := w.alloc (.cells (madeCells #[.bool false] n) 4)) (base := w.heap.size) (n := n) (e := 3) (z := .int .i64 0) (by simp) (by unfold maxLen; omega)
    rw [List.map_replicate]; simp only [World.size_alloc] at this; exact this
  · have := (own_made (w := w) (n := n) (e := 4) (z := .bool false) (Nat.le_refl _) (by unfold maxLen; omega)).alloc (.cells (madeCells #[.int .i64 0] n) 3)
    rw [List.map_replicate]; exact this

theorem own_cell {w : World} {base n cap g : Nat} {e : TypeId} {xs : List Value} (h : w.ownsRow base e 1 (.slice (some ⟨g, 0, none⟩) n cap) n xs) {j : Nat} {v : Value} (hv : xs[j]? = some v) : w.cell? ⟨g, j, none⟩ = some v := by
  have hl := h.1
  rw [h.cellAt j (by have := (List.getElem?_eq_some_iff.1 hv).1; omega), hv]
theorem RR.cellO {w wr : World} {n bo co bf cf : Nat} {out : List Int} {fr : List Bool} (h : RR w wr n bo co bf cf out fr) {j : Nat} (hj : j < n) : ∃ x, wr.cell? ⟨bo, j, none⟩ = some (.int .i64 x) :=
  ⟨out[j]'(by rw [h.len.1]; exact hj), own_cell h.out (by simp [h.len.1, hj])⟩
theorem RR.cellF {w wr : World} {n bo co bf cf : Nat} {out : List Int} {fr : List Bool} (h : RR w wr n bo co bf cf out fr) {j : Nat} (hj : j < n) : wr.cell? ⟨bf, j, none⟩ = some (.bool (frAt fr j)) :=
  own_cell h.fr (by simp [frAt, h.len.2, hj])

/-- The state inside a round: the next row too. -/
structure R3 (w w2 wr : World) (n bo co bf cf g cg : Nat) (out : List Int) (fr nx : List Bool) : Prop where
  rr : RR w wr n bo co bf cf out fr
  nx : wr.ownsRow w2.heap.size 4 1 (.slice (some ⟨g, 0, none⟩) n cg) n (nx.map .bool)
  lo : bo < w2.heap.size
  lf : bf < w2.heap.size
  lw : w.heap.size ≤ w2.heap.size
theorem R3.new {w w2 wr w' : World} {n bo co bf cf g cg : Nat} {out : List Int} {fr nx : List Bool} (h : R3 w w2 wr n bo co bf cf g cg out fr nx) (hb : Below wr.heap.size wr w') : R3 w w2 w' n bo co bf cf g cg out fr nx :=
  ⟨h.rr.new hb, own_below h.nx hb, h.lo, h.lf, h.lw⟩
theorem R3.gne {w w2 wr : World} {n bo co bf cf g cg : Nat} {out : List Int} {fr nx : List Bool} (h : R3 w w2 wr n bo co bf cf g cg out fr nx) : g ≠ bo ∧ g ≠ bf := by
  have := (h.nx.lt g rfl).1; have := h.lo; have := h.lf; omega
theorem R3.store {w w2 wr : World} {n bo co bf cf g cg : Nat} {out : List Int} {fr nx : List Bool} (h : R3 w w2 wr n bo co bf cf g cg out fr nx) (j : Nat) (b : Bool) : R3 w w2 (wr.setCell ⟨g, j, none⟩ (.bool b)) n bo co bf cf g cg out fr (nx.set j b) := by
  refine ⟨⟨own_store_other h.rr.out (Ne.symm h.gne.1) _, own_store_other h.rr.fr (Ne.symm h.gne.2) _, h.rr.below.setCell (by have := (h.nx.lt g rfl).1; have := h.lw; show w.heap.size ≤ g; omega) _⟩, ?_, h.lo, h.lf, h.lw⟩
  have := (h.nx.stored j (.bool b)).1
  rw [← List.map_set] at this
  exact this
theorem R3.storeOut {w w2 wr : World} {n bo co bf cf g cg : Nat} {out : List Int} {fr nx : List Bool} (h : R3 w w2 wr n bo co bf cf g cg out fr nx) (j : Nat) (x : Int) : R3 w w2 (wr.setCell ⟨bo, j, none⟩ (.int .i64 x)) n bo co bf cf g cg (out.set j x) fr nx :=
  ⟨h.rr.storeOut j x, own_store_other h.nx h.gne.1 _, h.lo, h.lf, h.lw⟩
theorem R3.cellN {w w2 wr : World} {n bo co bf cf g cg : Nat} {out : List Int} {fr nx : List Bool} (h : R3 w w2 wr n bo co bf cf g cg out fr nx) {j : Nat} (hj : j < n) : ∃ b, wr.cell? ⟨g, j, none⟩ = some (.bool b) := by
  have hl : nx.length = n := by simpa using h.nx.1
  exact ⟨nx[j]'(by omega), own_cell h.nx (by simp [hl, hj])⟩

set_option maxHeartbeats 3200000 in
set_option maxRecDepth 100000 in
theorem refRounds_any (n : Nat) (ao : Option Addr) (cap : Nat) (L : List Nd) (w : World) (h : Needs w w.heap.size ao L) (hv : Vld n L) :
    Calls Try.prog 18 #[.int .i64 n, .slice ao L.length cap] w (RInts w (refRounds n L)) := by
  have hn64 : n ≤ 64 := by have := hv.n1; omega
  have hLn : L.length ≤ n := by have := hv.len; omega
  have Hv := Lib.hid hv
  clear hv
  obtain ⟨i4, h40, h41, h42, h43⟩ := info_parts info4
  have hmk := run_make_row' (P := Try.prog) 27 3 (.int .i64 0) 8 Try.underlying27 info3 rfl .i64 .i64 n (by omega) (by omega)
  have hmk2 := run_make_row' (P := Try.prog) 62 4 (.bool false) 1 Try.underlying62 info4 rfl .i64 .i64 n (by omega) (by omega)
  go_enter Try.func18, Try.ntmps18
  go_upto_region 1 with (fail)
  go_cut [5, 6] (fun o f wx => RStart w n o f wx)
  case first =>
    go_region
    all_goals (go_wp2_with fail; go_meet)
    · case rel => exact rstart_a w n hn64
    · case rel => exact rstart_b w n hn64
  case rest =>
    obtain ⟨bo, bf, rfl, rfl, hout0, hfr0, hbel0⟩ := hcut
    go_wp2_with fail
    have hR0 : RR w wc n bo n bf n (outI n L 0) (frI n L 0) := ⟨by rw [outI_zero]; exact hout0, by rw [frI_zero]; exact hfr0, hbel0⟩
    clear hout0 hfr0 hbel0
    go_loopw [7] (fun i wr => ∃ k : Nat, k ≤ n ∧ i = .int .i64 k ∧ RR w wr n bo n bf n (outI n L k) (frI n L k)) (fun i _ => n - (RowKit.intOf i).toNat)
    case atStart => exact ⟨0, Nat.zero_le _, rfl, hR0⟩
    case round =>
      obtain ⟨k, hk, rfl, hR⟩ := hrel
      by_cases hlt : k < n
      · have Hat := Lib.hid (at_any ao cap L k wr _ (h.below hR.below) (by omega))
        have hcf := hR.cellF hlt
        have hff := hR.fr.frozenAt k
        have hkn : (k : Int) < n := by omega
        by_cases hat : atI L k < 0
        · have hS1 := hR.storeFr k true
          have Hat0 := Lib.hid hat
          clear hat
          have hdec : decide (atI L k < 0) = true := by simpa using Hat0.out
          go_wp2_with (go_at_call 33; go_must (refine Hat.out.mono ?_); rintro e w' ⟨rfl, rfl⟩)
          go_roundw
          case rel =>
            refine ⟨k + 1, by omega, by go_num, ?_⟩
            rw [outI_miss Hat0.out, frI_step, show decide (atI L k < 0) = true from by simpa using Hat0.out]
            exact hS1
          case measure => simp [RowKit.intOf]; omega
        · have hS1 := hR.storeFr k false
          have hat' : 0 ≤ atI L k := by omega
          have Hat0 := Lib.hid hat
          clear hat
          have hdec : decide (atI L k < 0) = false := by simpa using Hat0.out
          obtain ⟨x0, hco⟩ := hS1.cellO hlt
          have hfo := hS1.out.frozenAt k
          go_wp2_with (go_at_call 33; go_must (refine Hat.out.mono ?_); rintro e w' ⟨rfl, rfl⟩)
          go_roundw
          case rel =>
            refine ⟨k + 1, by omega, by go_num, ?_⟩
            rw [outI_hit hat', frI_step, show decide (atI L k < 0) = false from by simpa using Hat0.out]
            exact hS1.storeOut k (-1)
          case measure => simp [RowKit.intOf]; omega
      · obtain rfl : n = k := by omega
        obtain ⟨w1, rfl⟩ : ∃ w1 : World, w1 = wr := ⟨_, rfl⟩
        go_wp2_with fail
        go_loopw [6, 8] (fun f r w2 => ∃ k bf cf : Nat, k ≤ n ∧ r = .int .i64 ((k : Int) + 1) ∧ f = .slice (some ⟨bf, 0, none⟩) n cf ∧ RR w w2 n bo n bf cf (itR n L k).1 (itR n L k).2) (fun _ r _ => n + 1 - (RowKit.intOf r).toNat)
        case atStart => exact ⟨0, bf, n, Nat.zero_le _, rfl, rfl, hR⟩
        case round =>
          obtain ⟨k, bf2, cf2, hk, rfl, rfl, hR2⟩ := hrel
          obtain ⟨w2, rfl⟩ : ∃ w2 : World, w2 = wr := ⟨_, rfl⟩
          by_cases hlt : k < n
          · have hkn : (k : Int) + 1 ≤ n := by omega
            have hnl : ∀ W : World, W.ownsRow w2.heap.size 4 1 (.slice none 0 0) 0 [] := fun W => World.ownsRow_nil _ _ _ _
            have hfl := hR2.len.2
            obtain ⟨fr, hfr⟩ : ∃ fr, (itR n L k).2 = fr := ⟨_, rfl⟩
            obtain ⟨out, hout⟩ : ∃ out, (itR n L k).1 = out := ⟨_, rfl⟩
            rw [hfr, hout] at hR2
            rw [hfr] at hfl
            have Hfr := Lib.hid hfr
            have Hout := Lib.hid hout
            have Hfl := Lib.hid hfl
            clear hfr hout hfl
            have Hsrc : Hid (Cells w2 w2.heap.size (some ⟨bf2, 0, none⟩) (fr.map .bool)) := by
              obtain ⟨a2, c2, hv, hc⟩ := own_cells hR2.fr
              injection hv with h1 _ _
              rw [h1]; exact hc
            go_wp2_with (at_builtin; go_must (refine wpList_append_cells _ rfl (.const (.slice none 0 0)) (.tmp 40) 62 rfl w2.heap.size 4 i4 (.bool false) 1 1 Try.underlying62 h40 h41 h42 h43 rfl (by omega) (.slice none 0 0) 0 [] rfl (hnl _) w2.heap.size (some ⟨bf2, 0, none⟩) n cf2 (fr.map .bool) rfl (by rw [List.length_map, Hfl.out, Nat.mul_one]) Hsrc.out (by intro u hu; rw [List.mem_map] at hu; obtain ⟨b, _, rfl⟩ := hu; rfl) (by unfold maxLen; omega) (by omega) (Nat.le_refl _) ?_); intro v1 w3 hown1 hg1 hat1; simp only [Nat.zero_add, List.nil_append] at hown1; obtain ⟨g, cg, rfl, _, hglt⟩ := hown1.form (by omega))
            have hg1' : Below w2.heap.size w2 w3 := (Below.refl _ _).grown hg1 (Nat.le_refl _) (by intro k hk; cases hk)
            have hR30 : R3 w w2 w3 n bo n bf2 cf2 g cg out fr fr := ⟨hR2.new hg1', hown1, (hR2.out.lt bo rfl).2, (hR2.fr.lt bf2 rfl).2, hR2.below.size⟩
            have Hin0 : Hid (rTo L fr ((k : Int) + 1) (out, fr) 0 = (out, fr)) := rfl
            go_loopw [10] (fun i w4 => ∃ (j : Nat) (o2 : List Int) (n2 : List Bool), j ≤ L.length ∧ i = .int .i64 j ∧ R3 w w2 w4 n bo n bf2 cf2 g cg o2 fr n2 ∧ Hid (rTo L fr ((k : Int) + 1) (out, fr) j = (o2, n2))) (fun i _ => L.length - (RowKit.intOf i).toNat)
            case atStart => exact ⟨0, out, fr, Nat.zero_le _, rfl, hR30, Hin0⟩
            case round =>
              obtain ⟨j, o2, n2, hj, rfl, hR4, hst⟩ := hrel
              by_cases hjl : j < L.length
              · obtain ⟨b, o, t, on, all, ai, ci, rfl, hbB, hd, c1, c2, c3, hi⟩ := (h.below hR4.rr.below).get hjl
                obtain ⟨ht0, ht1⟩ := Hv.out.task _ (List.mem_of_getElem? hd)
                obtain ⟨hon0, hons⟩ := Hv.out.on _ (List.mem_of_getElem? hd)
                simp only at ht0 ht1 hon0 hons
                obtain ⟨m, rfl⟩ := Int.eq_ofNat_of_zero_le ht0
                have hmn : m < n := by omega
                have hcF := hR4.rr.cellF hmn
                have Hd := Lib.hid hd
                clear hd
                have Hmet : Hid (Calls Try.prog 38 #[.agg #[.int .i64 m, .slice ai on.length ci, .bool all], .slice (some ⟨bf2, 0, none⟩) n cf2] wr fun e w' => e = .returned (.bool (metL fr ⟨m, on, all⟩)) ∧ Below wr.heap.size wr w') := by
                  have hcl := own_cells hR4.rr.fr
                  obtain ⟨a2, c2, hv, hc⟩ := hcl
                  injection hv with h1 _ _
                  have := met_any ⟨m, on, all⟩ ai (some ⟨bf2, 0, none⟩) ci cf2 fr wr (hi.mono hR4.rr.below.size) (by rw [h1]; exact hc) (by have := srt_len hons (by omega); simp only; omega) (by rw [Hfl.out]; omega) (fun y hy => by have := srt_mem hons hy; rw [Hfl.out]; exact this)
                  rw [Hfl.out] at this
                  exact this
                clear hons
                have hbw : b < wr.heap.size := Nat.lt_of_lt_of_le hbB hR4.rr.below.size
                have hbg : b ≠ g := by have := (hR4.nx.lt g rfl).1; have := hR4.lw; omega
                have Hd3 : Hid (∀ W, Below wr.heap.size wr W → W.cell? ⟨b, o + j * 3, none⟩ = some (.int .i64 m) ∧ W.cell? ⟨b, o + j * 3 + 1, none⟩ = some (.slice ai on.length ci) ∧ W.cell? ⟨b, o + j * 3 + 2, none⟩ = some (.bool all)) := fun W hW =>
                  ⟨(hW.cell (p := ⟨b, _, none⟩) hbw).trans c1, (hW.cell (p := ⟨b, _, none⟩) hbw).trans c2, (hW.cell (p := ⟨b, _, none⟩) hbw).trans c3⟩
                have Hd4 : Hid (∀ W : World, W.cell? ⟨b, o + j * 3, none⟩ = some (.int .i64 m) → (W.setCell ⟨g, m, none⟩ (.bool true)).cell? ⟨b, o + j * 3, none⟩ = some (.int .i64 m)) := fun W hW =>
                  (World.cell?_setCell_other W ⟨g, m, none⟩ ⟨b, o + j * 3, none⟩ _ (by intro e; injection e with e _ _; exact hbg e.symm)).trans hW
                cases hf : frAt fr m
                · rw [hf] at hcF
                  cases hm : metL fr ⟨m, on, all⟩
                  · have Hm := Lib.hid hm
                    have Hf := Lib.hid hf
                    clear hm hf
                    go_wp2_with (go_at_call 38; go_must (refine Hmet.out.mono ?_); rw [Hm.out]; rintro e w5 ⟨rfl, hb5⟩)
                    go_roundw
                    case rel =>
                      refine ⟨j + 1, o2, n2, by omega, by go_num, hR4.new hb5, ?_⟩
                      have := rTo_step (L := L) (fr := fr) (r := (k : Int) + 1) (p := (out, fr)) Hd.out
                      rw [hst.out] at this
                      unfold rStep at this
                      simp only [Hf.out, Hm.out] at this
                      exact this
                    case measure => simp [RowKit.intOf]; omega
                  · have Hm := Lib.hid hm
                    have Hf := Lib.hid hf
                    clear hm hf
                    go_wp2_with (go_at_call 38; go_must (refine Hmet.out.mono ?_); rw [Hm.out]; rintro e w5 ⟨rfl, hb5⟩; have hR5 := hR4.new hb5; obtain ⟨x5, hc5⟩ := hR5.cellN hmn; have hf5 := hR5.nx.frozenAt m; obtain ⟨d1, d2, d3⟩ := Hd3.out w5 hb5; have hR6 := hR5.store m true; obtain ⟨x6, hc6⟩ := hR6.rr.cellO hmn; have hf6 := hR6.rr.out.frozenAt m; have d4 := Hd4.out w5 d1)
                    go_roundw
                    case rel =>
                      refine ⟨j + 1, o2.set m ((k : Int) + 1), n2.set m true, by omega, by go_num, hR6.storeOut m ((k : Int) + 1), ?_⟩
                      have := rTo_step (L := L) (fr := fr) (r := (k : Int) + 1) (p := (out, fr)) Hd.out
                      rw [hst.out] at this
                      unfold rStep setAt at this
                      simp only [Hf.out, Hm.out] at this
                      exact this
                    case measure => simp [RowKit.intOf]; omega
                · rw [hf] at hcF
                  have Hf := Lib.hid hf
                  clear hf
                  go_wp2_with fail
                  go_roundw
                  case rel =>
                    refine ⟨j + 1, o2, n2, by omega, by go_num, hR4, ?_⟩
                    have := rTo_step (L := L) (fr := fr) (r := (k : Int) + 1) (p := (out, fr)) Hd.out
                    rw [hst.out] at this
                    unfold rStep at this
                    simp only [Hf.out] at this
                    exact this
                  case measure => simp [RowKit.intOf]; omega
              · obtain rfl : j = L.length := by omega
                go_wp2_with fail
                go_roundw
                case rel =>
                  refine ⟨k + 1, g, cg, by omega, by go_num, rfl, ?_⟩
                  have : itR n L (k + 1) = (o2, n2) := by
                    show rTo L (itR n L k).2 ((k + 1 : Nat) : Int) (itR n L k) L.length = _
                    have e1 : itR n L k = (out, fr) := by rw [← Hfr.out, ← Hout.out]
                    rw [e1]
                    exact hst.out
                  rw [this]
                  exact ⟨hR4.rr.out, ownsRow_base_a hR4.nx hR4.lw, hR4.rr.below⟩
                case measure => simp [RowKit.intOf]; omega
          · obtain rfl : n = k := by omega
            go_wp2_with fail
            go_ret
            exact ⟨_, rfl, by have := hR2.out; rw [show (refRounds n L).length = n from hR2.len.1]; exact this, hR2.below⟩
end Go.Proofs.Ytkcpblmcpgnofaa
