/- Walks: ref.Valid. -/
import Derived.Test.YtkcpblmcpgnofaaN1
import Derived.Deep.DeepMust
namespace Go.Proofs.Ytkcpblmcpgnofaa
open Go.RowKit

set_option maxHeartbeats 1000000 in
set_option maxRecDepth 100000 in
theorem refValid_any (n : Int) (ao : Option Addr) (cap : Nat) (L : List Nd) (w : World) (B : Nat) (h : Needs w B ao L) (hl : L.length ≤ 1000000) (hon : ∀ d ∈ L, d.on.length ≤ 1000000) :
    Calls Try.prog 12 #[.int .i64 n, .slice ao L.length cap] w fun e w' => e = .returned (.bool (vld n L)) ∧ Drewn w w' := by
  have Hon := Lib.hid hon
  clear hon
  by_cases h0 : n < 0
  · go_enter Try.func12, Try.ntmps12
    go_wp2
    go_ret
    exact ⟨ret_bool (vld_head (.inl h0)).symm, Drewn.refl _⟩
  by_cases h1 : 64 < n
  · go_enter Try.func12, Try.ntmps12
    go_wp2
    go_ret
    exact ⟨ret_bool (vld_head (.inr (.inl h1))).symm, Drewn.refl _⟩
  by_cases h2 : n < (L.length : Int)
  · go_enter Try.func12, Try.ntmps12
    go_wp2
    go_ret
    exact ⟨ret_bool (vld_head (.inr (.inr h2))).symm, Drewn.refl _⟩
  have hat : ∀ (m : Nat) (t : Int), Calls Try.prog 33 #[.slice ao L.length cap, .int .i64 t] (w.drewN m) fun e w' => e = .returned (.int .i64 (atI L t)) ∧ w.drewN m = w' :=
    fun m t => at_any ao cap L t _ B (h.below (below_drewN (Below.refl _ _) m)) hl
  have Hat := Lib.hid hat
  clear hat
  go_enter Try.func12, Try.ntmps12
  go_wp2
  go_loopw [5] (fun i wr => ∃ k : Nat, k ≤ L.length ∧ i = .int .i64 k ∧ Hid (∀ j, j < k → okAt n L j = true) ∧ Drewn w wr) (fun i _ => L.length - (intOf i).toNat)
  case atStart => exact ⟨0, Nat.zero_le _, rfl, fun j hj => by omega, Drewn.refl _⟩
  case round =>
    obtain ⟨k, hk, rfl, hno, nd, rfl⟩ := hrel
    by_cases hlt : k < L.length
    · obtain ⟨b, o, t, on, all, ai, ci, rfl, hbB, hd, c1, c2, c3, hi⟩ := h.get hlt
      have hol : on.length ≤ 1000000 := Hon.out _ (List.mem_of_getElem? hd)
      have Hd := Lib.hid hd
      clear hd
      by_cases ht0 : t < 0
      · go_wp2_with fail
        go_ret
        exact ⟨ret_bool (vld_miss hlt (by rw [okAt_eq Hd.out]; simp; omega)).symm, Drewn.add _⟩
      by_cases ht1 : n ≤ t
      · go_wp2_with fail
        go_ret
        exact ⟨ret_bool (vld_miss hlt (by rw [okAt_eq Hd.out]; simp; omega)).symm, Drewn.add _⟩
      by_cases hs : hasT (L.take k) t = true
      · have hne : (atI L t != (k : Int)) = true := by
          have := atI_at Hd.out; rw [hs] at this; simpa using this
        have Hs := Lib.hid hs
        clear hs
        go_wp2_with (go_at_call 33; go_must (refine (Hat.out _ _).mono ?_); rintro e w' ⟨rfl, rfl⟩)
        go_ret
        exact ⟨ret_bool (vld_miss hlt (by rw [okAt_eq Hd.out, Hs.out]; rfl)).symm, Drewn.add _⟩
      have hsf : hasT (L.take k) t = false := by simpa using hs
      have hne : (atI L t != (k : Int)) = false := by
        have := atI_at Hd.out; rw [hsf] at this; simpa using this
      have Hsf := Lib.hid hsf
      clear hs hsf
      by_cases hn0 : on.length = 0
      · have hb0 : ((on.length : Int) == 0) = true := beq_iff_eq.2 (by omega)
        have Hn0 := Lib.hid hn0
        clear hn0
        go_wp2_with (go_at_call 33; go_must (refine (Hat.out _ _).mono ?_); rintro e w' ⟨rfl, rfl⟩)
        go_ret
        exact ⟨ret_bool (vld_miss hlt (by rw [okAt_eq Hd.out]; simp [Hn0.out])).symm, Drewn.add _⟩
      have hb0 : ((on.length : Int) == 0) = false := beq_eq_false_iff_ne.2 (by omega)
      have hsorted : Calls Try.prog 34 #[.int .i64 n, .slice ai on.length ci] (w.drewN nd) fun e w' => e = .returned (.bool (srt n on)) ∧ Drewn (w.drewN nd) w' :=
        refSorted_any n ai ci on _ B (hi.drewN nd) hol
      have Hsorted := Lib.hid hsorted
      clear hsorted
      by_cases hsr : srt n on = true
      · have Hsr := Lib.hid hsr
        clear hsr
        go_wp2_with (first
          | (go_at_call 33; go_must (refine (Hat.out _ _).mono ?_); rintro e w' ⟨rfl, rfl⟩)
          | (go_at_call 34; go_must (refine Hsorted.out.mono ?_); rintro e w' ⟨rfl, m, rfl⟩; rw [Hsr.out]))
        go_roundw
        case rel =>
          refine ⟨k + 1, by omega, by go_num, fun j hj => ?_, Drewn.add _⟩
          rcases Nat.lt_succ_iff_lt_or_eq.1 hj with hj | rfl
          · exact hno j hj
          · rw [okAt_eq Hd.out, Hsf.out, Hsr.out]; simp; omega
        case measure => simp [intOf]; omega
      · have hsrf : srt n on = false := by simpa using hsr
        have Hsrf := Lib.hid hsrf
        clear hsr hsrf
        go_wp2_with (first
          | (go_at_call 33; go_must (refine (Hat.out _ _).mono ?_); rintro e w' ⟨rfl, rfl⟩)
          | (go_at_call 34; go_must (refine Hsorted.out.mono ?_); rintro e w' ⟨rfl, m, rfl⟩; rw [Hsrf.out]))
        go_ret
        exact ⟨ret_bool (vld_miss hlt (by rw [okAt_eq Hd.out]; simp [Hsrf.out])).symm, Drewn.add _⟩
    · go_wp2
      go_ret
      exact ⟨ret_bool (vld_hit (by omega) (by omega) (by omega) (fun j hj => hno j (by omega))).symm, Drewn.add _⟩
end Go.Proofs.Ytkcpblmcpgnofaa
