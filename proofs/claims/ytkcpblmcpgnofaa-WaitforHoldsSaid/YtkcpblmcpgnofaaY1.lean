/- append onto a full slice that is only read; the map of next tasks; waitfor.Cycle's closure. -/
import Derived.Test.YtkcpblmcpgnofaaS4
import Derived.Test.YtkcpblmcpgnofaaR1
import Derived.Maps.OwnOps
import Derived.StillTailTactics
namespace Go.Proofs.Ytkcpblmcpgnofaa
open Go.RowKit Go.Maps

section
variable {P : Program} (w : World)
/-- append onto a slice with no room: the old cells are only read. -/
theorem run_append_full (t ty e : TypeId) (i : TypeInfo) (z : Value) (bytes : Nat) (ht : P.underlying t = some (.slice e)) (hi : P.info? e = some i) (hz : i.zero = some z)
    (hsize : i.size = 1) (hby : i.bytes = bytes) (_hzs : z.cells.size = 1)
    (ad : Addr) (n : Nat) (xs : List Value) (hlx : xs.length = n) (_hn : 0 < n) (hcx : Cells w w.heap.size (some ad) xs)
    (ao : Option Addr) (m c : Nat) (news : List Value) (hl : news.length = m) (hr : Cells w w.heap.size ao news)
    (h63 : n + m ≤ maxLen) (hbytes : (n + m) * bytes ≤ 140737488355328) :
    ∃ ao' cap' w', (Builtin.append_ #[t, t] ty #[.slice (some ad) n n, .slice ao m c]).run P w = .ok (.slice ao' (n + m) cap') w' ∧ Cells w' w'.heap.size ao' (xs ++ news) ∧ Below w.heap.size w w' := by
  subst hby
  rcases Nat.eq_zero_or_pos m with h0 | h0
  · subst h0
    have hne : news = [] := List.eq_nil_of_length_eq_zero hl
    subst hne
    refine ⟨some ad, n, w, ?_, by simpa using hcx, Below.refl _ _⟩
    rcases ao with _ | a
    · simp [Builtin.append_, run_underlying ht, sizeOf, typeInfo, hi, Builtin.lenOf, Builtin.firstCells, storeCells]
    · simp [Builtin.append_, run_underlying ht, sizeOf, typeInfo, hi, Builtin.lenOf, Builtin.firstCells, loadCells, loadCellsFrom, storeCells]
  · have conv : ∀ (a : Addr) (cs : List Value), Cells w w.heap.size (some a) cs → ∀ j u, cs[j]? = some u → w.cell? (a.add j) = some u := by
      intro a cs hc j u hu
      obtain ⟨b, o, hh, _, hcc⟩ := hc j (List.getElem?_eq_some_iff.1 hu).1
      injection hh with hh
      subst hh
      have hj := hcc j u hu
      rcases Nat.eq_zero_or_pos j with rfl | hp
      · simpa [Addr.add] using hj
      · rw [show Addr.add ⟨b, o, none⟩ j = ⟨b, o + j, none⟩ by simp [Addr.add]; omega]; exact hj
    obtain ⟨_, _, rfl, _, _⟩ : ∃ b o, ao = some ⟨b, o, none⟩ ∧ True ∧ True := by
      obtain ⟨b, o, hh, _⟩ := hr 0 (by omega); exact ⟨b, o, hh, trivial, trivial⟩
    have hm63 : n + m ≤ 9223372036854775807 := by unfold maxLen at h63; omega
    have hrun := run_append_grow (P := P) w t ty e i z ht hi hz ad n n xs (by rw [hsize]; omega) (conv _ _ hcx) _ m c news (by rw [hsize]; omega) (conv _ _ hr) (by omega) (by omega) (growslice_fits (by omega) hbytes)
    refine ⟨_, _, _, hrun, ?_, (Below.refl _ _).drew.alloc (Nat.le_refl _) _⟩
    intro k hk
    refine ⟨w.heap.size, 0, rfl, by simp, fun j v hv => ?_⟩
    rw [cell_of_row _ w.heap.size (0 + j) _ e (0, 0) (heap_alloc_new w.drew _)]
    have hj := (List.getElem?_eq_some_iff.1 hv).1
    rw [List.length_append] at hj
    have h1 : ((xs.toArray ++ news.toArray) ++ Builtin.zeroCells z.cells (grownCap w (n + m) n e - (n + m)))[0 + j]? = (xs.toArray ++ news.toArray)[0 + j]? := Array.getElem?_append_left (by simp; omega)
    rw [h1]
    simpa using hv
theorem wp_append_full {o : Oper} {a : Act} {K : Act → World → Prop} {Q : Exit → Act → World → Prop} (s x : Operand) (t : TypeId)
    (ho : o.op = .call { callee := .builtin .append, args := #[s, x], argTypes := #[t, t] })
    (e : TypeId) (i : TypeInfo) (z : Value) (bytes : Nat) (ht : P.underlying t = some (.slice e)) (hi : P.info? e = some i) (hz : i.zero = some z)
    (hsize : i.size = 1) (hby : i.bytes = bytes) (hzs : z.cells.size = 1)
    (ad : Addr) (n : Nat) (xs : List Value) (hs : a.eval s = .slice (some ad) n n) (hlx : xs.length = n) (hn : 0 < n) (hcx : Cells w w.heap.size (some ad) xs)
    (ao : Option Addr) (m c : Nat) (news : List Value) (hx : a.eval x = .slice ao m c) (hl : news.length = m) (hr : Cells w w.heap.size ao news)
    (h63 : n + m ≤ maxLen) (hbytes : (n + m) * bytes ≤ 140737488355328)
    (h : ∀ ao' cap' w', Cells w' w'.heap.size ao' (xs ++ news) → Below w.heap.size w w' → K (a.put o.dst (.slice ao' (n + m) cap')) w') : o.wp P a w K Q := by
  obtain ⟨ao', cap', w', hrun, h2, h3⟩ := run_append_full (P := P) w t o.type e i z bytes ht hi hz hsize hby hzs ad n xs hlx hn hcx ao m c news hl hr h63 hbytes
  unfold Oper.wp execOp
  simp only [ho, resolve, invoke, builtin, Sem.run_bind, Sem.run_pure, Result.andThen_ok, List.map_toArray, List.map_cons, List.map_nil, hs, hx, hrun]
  exact h ao' cap' w' h2 h3
theorem wpList_append_full {ops : Array Oper} {rest : List Oper} {o : Oper} {a : Act} {Q : Exit → Act → World → Prop} (hgd : o.guard = none) (s x : Operand) (t : TypeId)
    (ho : o.op = .call { callee := .builtin .append, args := #[s, x], argTypes := #[t, t] })
    (e : TypeId) (i : TypeInfo) (z : Value) (bytes : Nat) (ht : P.underlying t = some (.slice e)) (hi : P.info? e = some i) (hz : i.zero = some z)
    (hsize : i.size = 1) (hby : i.bytes = bytes) (hzs : z.cells.size = 1)
    (ad : Addr) (n : Nat) (xs : List Value) (hs : a.eval s = .slice (some ad) n n) (hlx : xs.length = n) (hn : 0 < n) (hcx : Cells w w.heap.size (some ad) xs)
    (ao : Option Addr) (m c : Nat) (news : List Value) (hx : a.eval x = .slice ao m c) (hl : news.length = m) (hr : Cells w w.heap.size ao news)
    (h63 : n + m ≤ maxLen) (hbytes : (n + m) * bytes ≤ 140737488355328)
    (h : ∀ ao' cap' w', Cells w' w'.heap.size ao' (xs ++ news) → Below w.heap.size w w' → wpList P ops Q rest (a.put o.dst (.slice ao' (n + m) cap')) w') : wpList P ops Q (o :: rest) a w :=
  wpList_plain hgd fun _ hK => wp_append_full w s x t ho e i z bytes ht hi hz hsize hby hzs ad n xs hs hlx hn hcx ao m c news hx hl hr h63 hbytes fun ao' cap' w' h2 h3 => hK _ _ (h ao' cap' w' h2 h3)
theorem step_append_full {ops : Array Oper} {o : Oper} {a : Act} {K : Act → World → Prop} {Q : Exit → Act → World → Prop} {E : Prop} (hgd : o.guard = none) (s x : Operand) (t : TypeId)
    (ho : o.op = .call { callee := .builtin .append, args := #[s, x], argTypes := #[t, t] })
    (e : TypeId) (i : TypeInfo) (z : Value) (bytes : Nat) (ht : P.underlying t = some (.slice e)) (hi : P.info? e = some i) (hz : i.zero = some z)
    (hsize : i.size = 1) (hby : i.bytes = bytes) (hzs : z.cells.size = 1)
    (ad : Addr) (n : Nat) (xs : List Value) (hs : a.eval s = .slice (some ad) n n) (hlx : xs.length = n) (hn : 0 < n) (hcx : Cells w w.heap.size (some ad) xs)
    (ao : Option Addr) (m c : Nat) (news : List Value) (hx : a.eval x = .slice ao m c) (hl : news.length = m) (hr : Cells w w.heap.size ao news)
    (h63 : n + m ≤ maxLen) (hbytes : (n + m) * bytes ≤ 140737488355328)
    (h : ∀ ao' cap' w', Cells w' w'.heap.size ao' (xs ++ news) → Below w.heap.size w w' → K (a.put o.dst (.slice ao' (n + m) cap')) w') :
    if Region.wanted o (yielded ops a.tmps) = true then Oper.wp P o a w K Q else E := by
  have hw : Region.wanted o (yielded ops a.tmps) = true := by simp [Region.wanted, hgd]
  rw [if_pos hw]
  exact wp_append_full w s x t ho e i z bytes ht hi hz hsize hby hzs ad n xs hs hlx hn hcx ao m c news hx hl hr h63 hbytes h
end

theorem wf64_small {x : Int} (h0 : 0 ≤ x) (h1 : x ≤ 1000000) : Wf64 x := by
  have e1 : IntKind.i64.min = -9223372036854775808 := by decide
  have e2 : IntKind.i64.max = 9223372036854775807 := by decide
  show (decide (IntKind.i64.min ≤ x) && decide (x ≤ IntKind.i64.max)) = true
  rw [e1, e2]
  simp
  omega

/-- The map reads as the function. -/
def NxIs (D : DataW Unit) (f : Int → Int) : Prop := IsMap D ∧ ∀ x : Int, D.atKey (.int .i64 x) (.lit (.int .i64 0)) = .lit (.int .i64 (f x))
theorem NxIs.nil : NxIs (.map []) (fun _ => 0) := ⟨⟨[], rfl⟩, fun _ => rfl⟩
theorem NxIs.put {D : DataW Unit} {f : Int → Int} (h : NxIs D f) (t v : Int) : NxIs (D.put (.int .i64 t) (.lit (.int .i64 v))) (fun x => if x = t then v else f x) := by
  refine ⟨?_, fun x => ?_⟩
  · obtain ⟨es, rfl⟩ := h.1; exact ⟨_, rfl⟩
  · by_cases hx : x = t
    · subst hx
      rw [atKey_put_same h.1 (show WideAt.IsKeyLit (.int .i64 x) from trivial)]; simp
    · rw [atKey_put_other (by intro e; injection e with _ e; exact hx e), h.2]; simp [hx]

/-- The variable that holds the stuck tasks, and the list. -/
def LowVar (w : World) (b : Nat) (v : Value) : Prop := w.heap[b]? = some (.cells #[v] 27 (0, 0))
theorem LowVar.below {w w' : World} {b : Nat} {v : Value} (h : LowVar w b v) (hb : Below w.heap.size w w') : LowVar w' b v :=
  (hb.block b (Array.getElem?_eq_some_iff.1 h).1).trans h

theorem lowc_any (y : Int) (b : Nat) (ao : Option Addr) (cap : Nat) (low : List Int) (w : World) (B : Nat) (hv : LowVar w b (.slice ao low.length cap)) (hi : Ints w B ao low) (hs : Inc low) (hl : low.length ≤ 1000000) :
    Calls Try.prog 42 #[.int .i64 y, .pointer (some ⟨b, 0, none⟩)] w fun e w' => e = .returned (.bool (hasB low y)) ∧ Below w.heap.size w w' := by
  have hc := cell_of_one hv
  have Hb := Lib.hid (bsearch_any ao cap low y w B hi hs hl)
  go_enter Try.func42, Try.ntmps42
  go_wp2_with (go_at_call 39; go_must (refine Hb.out.mono ?_); rintro e w' ⟨ix, rfl, rfl⟩)
  go_ret
  exact ⟨rfl, Below.refl _ _⟩
end Go.Proofs.Ytkcpblmcpgnofaa
