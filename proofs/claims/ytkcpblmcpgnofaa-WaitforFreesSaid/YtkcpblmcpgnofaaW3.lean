/- Walk: the law WaitforFrees. -/
import Derived.Test.YtkcpblmcpgnofaaW2
namespace Go.Proofs.Ytkcpblmcpgnofaa
open Go.RowKit Go.Maps

/-- A slice of n ints, or more, in a block from base on. -/
def InnerOk (w : World) (base : Nat) (v : Value) (n : Nat) : Prop :=
  (v = .slice none 0 0 ∧ n = 0) ∨ ∃ g cap cur, v = .slice (some ⟨g, 0, none⟩) n cap ∧ base ≤ g ∧ w.heap[g]? = some (.cells cur 3 (0, 0)) ∧ n ≤ cur.size
theorem InnerOk.of_own {w : World} {base n : Nat} {v : Value} {xs : List Value} (h : w.ownsRow base 3 1 v n xs) : InnerOk w base v n := by
  rcases h.2 with ⟨hv, h0⟩ | ⟨g, cap, cur, hv, hb, hg, hn, hm, hs, ht⟩
  · exact .inl ⟨hv, h0⟩
  · exact .inr ⟨g, cap, cur, hv, hb, hg, by omega⟩
theorem InnerOk.new {w w' : World} {base n : Nat} {v : Value} (h : InnerOk w base v n) (hb : Below w.heap.size w w') : InnerOk w' base v n := by
  rcases h with h | ⟨g, cap, cur, hv, hbg, hg, hn⟩
  · exact .inl h
  · exact .inr ⟨g, cap, cur, hv, hbg, (hb.block g (Array.getElem?_eq_some_iff.1 hg).1).trans hg, hn⟩
theorem InnerOk.store {w : World} {base n : Nat} {v : Value} (h : InnerOk w base v n) (g j : Nat) (u : Value) : InnerOk (w.setCell ⟨g, j, none⟩ u) base v n := by
  rcases h with h | ⟨g', cap, cur, hv, hbg, hg, hn⟩
  · exact .inl h
  · by_cases he : g' = g
    · subst he
      refine .inr ⟨g', cap, cur.setIfInBounds j u, hv, hbg, ?_, by simpa using hn⟩
      simp only [World.setCell, Array.getElem?_modify, if_true, hg, Option.map_some]
      simp
    · exact .inr ⟨g', cap, cur, hv, hbg, by rw [Below.heap_setCell _ _ _ _ he]; exact hg, hn⟩

/-- The list that Free gave, while it is written. -/
structure Wr (w wr : World) (base : Nat) (v : Value) (n0 : Nat) (cs : List Value) (M : List Nd) : Prop where
  row : wr.ownsRow base 42 3 v n0 cs
  inner : ∀ i d, M[i]? = some d → ∃ vi, cs[i * 3 + 1]? = some vi ∧ InnerOk wr base vi d.on.length
  below : Below base w wr
theorem row_store {w : World} {base n : Nat} {v : Value} {xs : List Value} (h : w.ownsRow base 42 3 v n xs) {g j : Nat} {cur : Array Value} (hg : w.heap[g]? = some (.cells cur 3 (0, 0))) (u : Value) : (w.setCell ⟨g, j, none⟩ u).ownsRow base 42 3 v n xs := by
  obtain ⟨h1, h2⟩ := h
  refine ⟨h1, ?_⟩
  rcases h2 with h2 | ⟨g', cap', cur', hv, hb, hh, r⟩
  · exact Or.inl h2
  · refine Or.inr ⟨g', cap', cur', hv, hb, ?_, r⟩
    rw [Below.heap_setCell _ _ _ _ (by
      intro e
      simp only at e
      subst e
      rw [hh] at hg
      injection hg with hg
      injection hg with _ hg
      cases hg)]
    exact hh
theorem Wr.store {w wr : World} {base n0 : Nat} {v : Value} {cs : List Value} {M : List Nd} (h : Wr w wr base v n0 cs M) {g j : Nat} {cur : Array Value} (hg : wr.heap[g]? = some (.cells cur 3 (0, 0))) (hb : base ≤ g) (u : Value) :
    Wr w (wr.setCell ⟨g, j, none⟩ u) base v n0 cs M where
  row := row_store h.row hg u
  inner := fun i d hd => by obtain ⟨vi, h1, h2⟩ := h.inner i d hd; exact ⟨vi, h1, h2.store g j u⟩
  below := h.below.setCell hb _
theorem Wr.get {w wr : World} {base n0 c0 : Nat} {a : Option Addr} {cs : List Value} {M : List Nd} (h : Wr w wr base (.slice a n0 c0) n0 cs M) {i : Nat} {d : Nd} (hd : M[i]? = some d) :
    ∃ b o vi, a = some ⟨b, o, none⟩ ∧ wr.cell? ⟨b, o + i * 3 + 1, none⟩ = some vi ∧ InnerOk wr base vi d.on.length := by
  obtain ⟨vi, h1, h2⟩ := h.inner i d hd
  obtain ⟨ao, cap, hv, hc⟩ := own_cells h.row
  injection hv with hv _ _
  subst hv
  obtain ⟨b, o, ha, _, hcell⟩ := hc.get h1
  exact ⟨b, o, vi, ha, by rw [show o + i * 3 + 1 = o + (i * 3 + 1) by omega]; exact hcell, h2⟩

set_option maxHeartbeats 2000000 in
set_option maxRecDepth 100000 in
theorem law7_any (n : Int) (ao az : Option Addr) (cap cz : Nat) (L : List Nd) (T : List Int) (w : World) (h : Needs w w.heap.size ao L) (hw : WfIn L) (hT : Ints w w.heap.size az T) (hlT : T.length ≤ 9223372036854775807) :
    Calls Try.prog 7 #[.int .i64 n, .slice ao L.length cap, .slice az T.length cz] w (RTrue w) := by
  have Hsmall := Lib.hid (small_any ao cap L w _ h hw.len hw.on)
  have Hknown : Hid (∀ W, Calls Try.prog 10 #[] W (RTrue W)) := known_any
  cases hs : smallB L
  · have Hs := Lib.hid hs
    clear hs hw
    go_enter Try.func7, Try.ntmps7
    go_wp2_with (first
      | (go_at_call 9; go_must (refine Hsmall.out.mono ?_); rw [Hs.out]; rintro e w1 ⟨rfl, rfl⟩)
      | (go_at_call 10; go_must (refine (Hknown.out _).mono ?_); rintro e w2 ⟨rfl, hb2⟩))
    go_ret
    exact ⟨rfl, hb2⟩
  have hwn := hw.small hs
  by_cases h70 : (70 : Int) < T.length
  · have Hs := Lib.hid hs
    clear hs hw hwn
    go_enter Try.func7, Try.ntmps7
    go_wp2_with (first
      | (go_at_call 9; go_must (refine Hsmall.out.mono ?_); rw [Hs.out]; rintro e w1 ⟨rfl, rfl⟩)
      | (go_at_call 10; go_must (refine (Hknown.out _).mono ?_); rintro e w2 ⟨rfl, hb2⟩))
    go_ret
    exact ⟨rfl, hb2⟩
  have hl : T.length ≤ 1000000 := by omega
  have Hcopy := Lib.hid (copy_any ao cap L w h hwn.len hwn.on)
  have Hfree : Hid (∀ W a c, Needs W W.heap.size a L → Below w.heap.size w W → Calls Try.prog 24 #[.int .i64 n, .slice a L.length c, .slice az T.length cz] W (RNeedsE W (freeE n L T))) :=
    fun W a c hn hb => free_any24 n a az c cz L T W hn (hT.up (Nat.le_refl _) hb) hwn hl
  have Hrfree : Hid (∀ W, Below w.heap.size w W → Calls Try.prog 25 #[.int .i64 n, .slice ao L.length cap, .slice az T.length cz] W (RReadN W (freeE n L T))) :=
    fun W hb => refFree_any n ao az cap cz L T W (h.up (Nat.le_refl _) hb) (hT.up (Nat.le_refl _) hb) hwn hl
  have hM : WfN (freeE n L T).1 := by
    unfold freeE
    split
    · split
      · exact ⟨by decide, by simp, by simp⟩
      · exact hwn.rest T
    · exact ⟨by decide, by simp, by simp⟩
  have Hsame : Hid (∀ W a b ca cb (M : List Nd), WfN M → Needs W W.heap.size a M → Needs W W.heap.size b M → Calls Try.prog 16 #[.slice a M.length ca, .slice b M.length cb] W fun e w' => e = .returned (.bool true) ∧ Below W.heap.size W w') := by
    intro W a b ca cb M hM ha hb
    have := sameNeeds_any a b ca cb M M W W.heap.size ha hb hM.len hM.len hM.on hM.on
    rw [eqN_refl] at this; exact this.mono fun _ _ h => drewn_below h
  have Hbk : Hid (∀ W, Below w.heap.size w W → Calls Try.prog 26 #[.int .i64 n, .slice ao L.length cap] W (RThree W (breakE n L))) := fun W hb => breaker_any n ao cap L W (h.up (Nat.le_refl _) hb) hwn
  have Hrb : Hid (∀ W, Below w.heap.size w W → Calls Try.prog 27 #[.int .i64 n, .slice ao L.length cap] W (RThree W (breakE n L))) := fun W hb => refBreaker_any n ao cap L W (h.up (Nat.le_refl _) hb) hwn
  have Hn : Hid (∀ W, Below w.heap.size w W → Needs W W.heap.size ao L) := fun W hb => h.up (Nat.le_refl _) hb
  have Hs := Lib.hid hs
  have Hwn := Lib.hid hwn
  have HM := Lib.hid hM
  have hMl := hM.len
  clear hs hw hwn hM
  obtain ⟨bt, bl, be⟩ := breakE n L
  generalize hfe : freeE n L T = fe at Hfree Hrfree HM hMl
  obtain ⟨M, er⟩ := fe
  clear hfe
  simp only at HM hMl
  go_enter Try.func7, Try.ntmps7
  go_upto_region 8 with (first
    | (go_at_call 9; go_must (refine Hsmall.out.mono ?_); rw [Hs.out]; rintro e w1 ⟨rfl, rfl⟩)
    | (go_at_call 13; go_must (refine Hcopy.out.mono ?_); rintro e w1 ⟨v1, cs1, rfl, hown1, hnd1, hb1⟩; obtain ⟨a1, c1, rfl, hn1⟩ := needs_own hown1 hnd1)
    | (go_at_call 24; go_must (refine (Hfree.out _ _ _ hn1 hb1).mono ?_); rintro e w2 ⟨v2, cs2, rfl, hown2, hnd2, hb2⟩; obtain ⟨a2, c2, rfl, hn2⟩ := needs_own hown2 hnd2; have hb12 := hb1.call hb2)
    | (go_at_call 25; go_must (refine (Hrfree.out _ hb12).mono ?_); rintro e w3 ⟨a3, c3, rfl, hn3, hb3⟩; have hb13 := hb12.call hb3; have hn23 := hn2.up (Nat.le_refl _) hb3)
    | (go_at_call 16; go_must (refine (Hsame.out _ a2 a3 c2 c3 M HM.out hn23 hn3).mono ?_); rintro e w4 ⟨rfl, hb4⟩; have hb14 := hb13.call hb4))
  have hrow4 := own_below (own_below hown2 hb3) hb4
  have hnd4 := (hnd2.below hb3).below hb4
  have hwr : Wr w1 w4 w1.heap.size (.slice a2 M.length c2) M.length cs2 M :=
    ⟨hrow4, fun i d hd => by obtain ⟨vi, _, h1, _, h2⟩ := hnd4.2.2 i d hd; exact ⟨vi, h1, InnerOk.of_own h2⟩, (hb2.call hb3).call hb4⟩
  have Hw1 := Lib.hid hn1
  clear hown2 hnd2 hn2 hn23 hn3 hrow4 hnd4 hb2 hb3 hb4 hb12 hb13
  go_wp2_with fail
  go_loopw [12] (fun i wr => ∃ k : Nat, k ≤ M.length ∧ i = .int .i64 k ∧ Wr w1 wr w1.heap.size (.slice a2 M.length c2) M.length cs2 M) (fun i _ => M.length - (RowKit.intOf i).toNat)
  case atStart => exact ⟨0, Nat.zero_le _, rfl, hwr⟩
  case round =>
    obtain ⟨k, hk, rfl, hwk⟩ := hrel
    by_cases hlt : k < M.length
    · obtain ⟨w5, rfl⟩ : ∃ w5 : World, w5 = wr := ⟨_, rfl⟩
      have hd := List.getElem?_eq_getElem hlt
      have hol : M[k].on.length ≤ 1000000 := HM.out.on _ (List.getElem_mem hlt)
      generalize M[k] = d at hd hol
      have Hd := Lib.hid hd
      clear hd
      have hk0 : (0 : Int) ≤ (k : Int) := by omega
      have hk1 : (k : Int) < (M.length : Int) := by omega
      go_wp2_with fail
      go_loopw [13] (fun i wr => ∃ q : Nat, q ≤ d.on.length ∧ i = .int .i64 q ∧ Wr w1 wr w1.heap.size (.slice a2 M.length c2) M.length cs2 M) (fun i _ => d.on.length - (RowKit.intOf i).toNat)
      case atStart => exact ⟨0, Nat.zero_le _, rfl, hwk⟩
      case round =>
        obtain ⟨q, hq, rfl, hwq⟩ := hrel
        obtain ⟨b, o, vi, rfl, hc, hin⟩ := hwq.get Hd.out
        rcases hin with ⟨rfl, h0⟩ | ⟨g, cpi, cur, rfl, hbg, hg, hn⟩
        · rw [h0] at hq ⊢
          obtain rfl : q = 0 := by omega
          go_wp2_with fail
          go_roundw
          case rel => exact ⟨k + 1, by omega, by go_num, hwq⟩
          case measure => simp [RowKit.intOf]; omega
        · by_cases hlt2 : q < d.on.length
          · have hcq : wr.cell? ⟨g, q, none⟩ = some (cur[q]'(by omega)) := by
              have := cell_of_row wr g q cur 3 (0, 0) hg
              rw [this]
              exact Array.getElem?_eq_getElem (by omega)
            have hfq : wr.frozen? ⟨g, q, none⟩ = false := by simp [World.frozen?, hg]
            have hq0 : (q : Int) < (d.on.length : Int) := by omega
            go_wp2_with fail
            go_roundw
            case rel => exact ⟨q + 1, by omega, by go_num, hwq.store hg hbg _⟩
            case measure => simp [RowKit.intOf]; omega
          · obtain rfl : q = d.on.length := by omega
            go_wp2_with fail
            go_roundw
            case rel => exact ⟨k + 1, by omega, by go_num, hwq⟩
            case measure => simp [RowKit.intOf]; omega
    · obtain rfl : k = M.length := by omega
      have hb5 := hwk.below
      have hb15 : Below w.heap.size w wr := hb1.call hb5
      have hn5 : Needs wr wr.heap.size a1 L := Hw1.out.up (Nat.le_refl _) hb5
      have hl5 := Hn.out wr hb15
      go_wp2_with (first
        | (go_at_call 16; go_must (refine (Hsame.out _ a1 ao c1 cap L Hwn.out hn5 hl5).mono ?_); rintro e w6 ⟨rfl, hb6⟩; have hb16 := hb15.call hb6)
        | (go_at_call 26; go_must (refine (Hbk.out _ hb16).mono ?_); rintro e w7 ⟨rfl, hb7⟩; have hb17 := hb16.call hb7)
        | (go_at_call 27; go_must (refine (Hrb.out _ hb17).mono ?_); rintro e w8 ⟨rfl, hb8⟩; have hb18 := hb17.call hb8)
        | (go_at_call 10; go_must (refine (Hknown.out _).mono ?_); rintro e w9 ⟨rfl, hb9⟩))
      go_ret
      exact ⟨rfl, hb18.call hb9⟩
end Go.Proofs.Ytkcpblmcpgnofaa
