/- Walks: ref.next, ref.Cycle. -/
import Derived.Test.YtkcpblmcpgnofaaS6
namespace Go.Proofs.Ytkcpblmcpgnofaa
open Go.RowKit Go.Maps

theorem nxM_find {n : Nat} {L : List Nd} (h : Vld n L) {low : List Int} (hlow : ∀ x, x ∈ low ↔ x ∈ stuckS n L) {t : Int} (ht : t ∈ low) :
    ∃ (k : Nat) (d : Nd) (q : Nat) (y : Int), atI L t = k ∧ L[k]? = some d ∧ d.on[q]? = some y ∧ y = nxM low L t ∧ hasB low y = true ∧ ∀ j z, j < q → d.on[j]? = some z → hasB low z = false := by
  obtain ⟨d, hd, rfl⟩ := stuckS_task ((hlow t).1 ht)
  have hw := stuckS_waits h hd ((hlow _).1 ht)
  have he : hasB low = hasB (stuckS n L) := by
    funext x; rw [Bool.eq_iff_iff, hasB_iff, hasB_iff]; exact hlow x
  rw [← he] at hw
  obtain ⟨q, y, hq, hy, hp, hno⟩ := findI_ok hw
  obtain ⟨k, hk⟩ := List.mem_iff_getElem?.1 hd
  refine ⟨k, d, q, y, atI_hit hk rfl (fun j e hj hje het => by have := h.one j k e d hje hk het; omega), hk, hy, ?_, hp, hno⟩
  rw [nxTo_at h hd (hasB_iff.2 ht)]
  unfold nxVal
  rw [hq]
  simp [hy]

set_option maxHeartbeats 400000 in
theorem next_any (n : Nat) (ao al : Option Addr) (cap cl : Nat) (L : List Nd) (low : List Int) (t : Int) (w : World) (B : Nat) (h : Needs w B ao L) (hi : Ints w B al low) (hv : Vld n L) (hlow : ∀ x, x ∈ low ↔ x ∈ stuckS n L) (ht : t ∈ low)
    (hll : low.length ≤ 1000000) : Calls Try.prog 46 #[.slice ao L.length cap, .slice al low.length cl, .int .i64 t] w fun e w' => e = .returned (.int .i64 (nxM low L t)) ∧ w = w' := by
  have hL : L.length ≤ 1000000 := by have := hv.len; have := hv.n1; omega
  have Hat := Lib.hid (at_any ao cap L t w B h hL)
  have Hhas : Hid (∀ x, Calls Try.prog 29 #[.slice al low.length cl, .int .i64 x] w fun e w' => e = .returned (.bool (hasB low x)) ∧ w = w') := fun x => has_any al cl low x w B hi hll
  obtain ⟨k, d, q, y, hk, hd, hy, hyn, hyl, hno⟩ := nxM_find hv hlow ht
  obtain ⟨t', on, all⟩ := d
  simp only at hy hno
  obtain ⟨b, o, t2, on2, all2, ai, ci, rfl, hbB, hd2, c1, c2, c3, hi2⟩ := h.get (List.getElem?_eq_some_iff.1 hd).1
  rw [hd] at hd2
  injection hd2 with hd2
  injection hd2 with e1 e2 e3
  subst e1 e2 e3
  have hol : on.length ≤ 1000000 := by have := srt_len (hv.on _ (List.mem_of_getElem? hd)).2 hv.n0; have h1 := hv.n1; change (on.length : Int) ≤ n at this; omega
  have hkl := (List.getElem?_eq_some_iff.1 hd).1
  have hql := (List.getElem?_eq_some_iff.1 hy).1
  have hk0 : (0 : Int) ≤ k := by omega
  have hk1 : (k : Int) < (L.length : Int) := by omega
  rw [hk] at Hat
  rw [← hyn]
  have Hy := Lib.hid hy
  have Hyl := Lib.hid hyl
  have Hno := Lib.hid hno
  clear hd hy hyn hyl hno hv hlow ht hk h
  go_enter Try.func46, Try.ntmps46
  go_wp2_with (go_at_call 33; go_must (refine Hat.out.mono ?_); rintro e w' ⟨rfl, rfl⟩)
  go_loop [8] (fun i => ∃ j : Nat, j ≤ q ∧ i = .int .i64 j) (fun i => q - (RowKit.intOf i).toNat)
  case atStart => exact ⟨0, Nat.zero_le _, rfl⟩
  case round =>
    obtain ⟨j, hj, rfl⟩ := hrel
    obtain ⟨b3, o3, z, rfl, hbB3, hz, hcz⟩ := hi2.get (k := j) (by omega)
    have hjl : (j : Int) < (on.length : Int) := by omega
    by_cases hjq : j < q
    · have Hz := Lib.hid (Hno.out j z hjq hz)
      clear hz
      go_wp2_with (go_at_call 29; go_must (refine (Hhas.out z).mono ?_); rw [Hz.out]; rintro e w' ⟨rfl, rfl⟩)
      go_round
      case rel => exact ⟨j + 1, by omega, by go_num⟩
      case measure => simp [RowKit.intOf]; omega
    · obtain rfl : j = q := by omega
      rw [Hy.out] at hz
      injection hz with hz
      subst hz
      go_wp2_with (go_at_call 29; go_must (refine (Hhas.out y).mono ?_); rw [Hyl.out]; rintro e w' ⟨rfl, rfl⟩)
      go_ret
      exact ⟨rfl, rfl⟩

theorem nodup_ne {xs : List Int} (h : xs.Nodup) {i j : Nat} {a b : Int} (hij : i < j) (ha : xs[i]? = some a) (hb : xs[j]? = some b) : a ≠ b := by
  obtain ⟨hi, rfl⟩ := List.getElem?_eq_some_iff.1 ha
  obtain ⟨hj, rfl⟩ := List.getElem?_eq_some_iff.1 hb
  exact (List.pairwise_iff_getElem.1 (List.nodup_iff_pairwise_ne.1 h)) i j hi hj hij

/-- What ref.Cycle gives. -/
def refCyc (n : Nat) (L : List Nd) : List Int := if (sortI (stuckS n L)).length = 0 then [] else cycL (sortI (stuckS n L)) L

set_option maxHeartbeats 1000000 in
set_option maxRecDepth 100000 in
theorem refCycle_any (n : Nat) (ao : Option Addr) (cap : Nat) (L : List Nd) (w : World) (h : Needs w w.heap.size ao L) (hv : Vld n L) :
    Calls Try.prog 23 #[.int .i64 n, .slice ao L.length cap] w (RInts w (refCyc n L)) := by
  have Hstuck := Lib.hid (refStuck_any n ao cap L w h hv)
  rw [stk_eq hv] at Hstuck
  have hlowiff : ∀ x, x ∈ sortI (stuckS n L) ↔ x ∈ stuckS n L := fun x => (sortI_perm _).mem_iff
  have hllen : (sortI (stuckS n L)).length ≤ n := by rw [sortI_length]; have := solveL_stuck_le n L; have := hv.len; unfold stuckS; omega
  have hn64 : n ≤ 64 := by have := hv.n1; omega
  have hclosed : ∀ t, t ∈ sortI (stuckS n L) → nxM (sortI (stuckS n L)) L t ∈ sortI (stuckS n L) := fun t ht => nxM_low hv hlowiff ht
  have hrange : ∀ x ∈ sortI (stuckS n L), 0 ≤ x ∧ x < n := fun x hx => by
    obtain ⟨d, hd, rfl⟩ := stuckS_task ((hlowiff x).1 hx); exact hv.task d hd
  by_cases h0 : (sortI (stuckS n L)).length = 0
  · rw [show refCyc n L = [] by unfold refCyc; rw [if_pos h0]]
    have h0b : (((sortI (stuckS n L)).length : Int) == 0) = true := beq_iff_eq.2 (by omega)
    clear hlowiff hclosed hrange
    generalize sortI (stuckS n L) = low at Hstuck h0 h0b hllen
    have H0 := Lib.hid h0
    clear h0
    go_enter Try.func23, Try.ntmps23
    go_wp2_with (go_at_call 19; go_must (refine Hstuck.out.mono ?_); rintro e w1 ⟨v, rfl, hown, hb1⟩; obtain ⟨al, cl, rfl, hlow⟩ := own_ints hown)
    go_ret
    exact ⟨_, rfl, World.ownsRow_nil _ _ _ _, hb1⟩
  rw [show refCyc n L = cycL (sortI (stuckS n L)) L by unfold refCyc; rw [if_neg h0]]
  have h0b : (((sortI (stuckS n L)).length : Int) == 0) = false := beq_eq_false_iff_ne.2 (by omega)
  have hnext : ∀ (W : World) (B : Nat) (al : Option Addr) (cl : Nat) (t : Int), Needs W B ao L → Ints W B al (sortI (stuckS n L)) → t ∈ sortI (stuckS n L) →
      Calls Try.prog 46 #[.slice ao L.length cap, .slice al (sortI (stuckS n L)).length cl, .int .i64 t] W fun e w' => e = .returned (.int .i64 (nxM (sortI (stuckS n L)) L t)) ∧ W = w' :=
    fun W B al cl t h1 h2 h3 => next_any n ao al cap cl L _ t W B h1 h2 hv hlowiff h3 (by omega)
  have hcyc : ∀ x0, (sortI (stuckS n L))[0]? = some x0 → CycOf (nxM (sortI (stuckS n L)) L) x0 (sortI (stuckS n L)) n (cycL (sortI (stuckS n L)) L) := by
    intro x0 hx0
    refine cycL_of hclosed (List.mem_of_getElem? hx0) ?_ hllen
    generalize sortI (stuckS n L) = low at hx0
    cases low with
    | nil => simp at hx0
    | cons a r => simp at hx0; simp [hx0]
  generalize sortI (stuckS n L) = low at Hstuck h0 h0b hclosed hrange hllen hnext hcyc ⊢
  generalize cycL low L = out at hcyc ⊢
  have Hnext := Lib.hid hnext
  have Hclosed := Lib.hid hclosed
  have Hrange := Lib.hid hrange
  have Hcyc := Lib.hid hcyc
  have H0 := Lib.hid h0
  have hl0 : (0 : Int) < (low.length : Int) := by omega
  clear hnext hclosed hrange hcyc h0 hlowiff hv
  obtain ⟨i3, h30, h31, h32, h33⟩ := info_parts info3
  go_enter Try.func23, Try.ntmps23
  go_upto_region 5 with (go_at_call 19; go_must (refine Hstuck.out.mono ?_); rintro e w1 ⟨v, rfl, hown, hb1⟩; obtain ⟨al, cl, rfl, hlow⟩ := own_ints hown; obtain ⟨bl, ol, x0, rfl, hbl, hx0, hcl⟩ := hlow.get (k := 0) (by have := H0.out; omega); have hcl' : w1.cell? ⟨bl, ol, none⟩ = some (.int .i64 x0) := (by simpa using hcl); have Hx0 := Lib.hid hx0; have Hcl := Lib.hid hcl; clear hx0 hcl)
  go_wp2_with fail
  have Hnx : Hid (∀ W t, Below w1.heap.size w1 W → t ∈ low → Calls Try.prog 46 #[.slice ao L.length cap, .slice (some ⟨bl, ol, none⟩) low.length cl, .int .i64 t] W fun e w' => e = .returned (.int .i64 (nxM low L t)) ∧ W = w') :=
    fun W t hW ht => Hnext.out W _ _ _ t (h.up (Nat.le_refl _) (hb1.call hW)) (hlow.up (Nat.le_refl _) hW) ht
  have hx0m : x0 ∈ low := List.mem_of_getElem? Hx0.out
  go_loop [6, 7] (fun t i => ∃ k : Nat, k ≤ n ∧ i = .int .i64 k ∧ t = .int .i64 (itf (nxM low L) k x0)) (fun _ i => n - (RowKit.intOf i).toNat)
  case atStart => exact ⟨0, Nat.zero_le _, rfl, rfl⟩
  case round =>
    obtain ⟨k, hk, rfl, rfl⟩ := hrel
    have htm := itf_mem Hclosed.out hx0m k
    by_cases hlt : k < n
    · go_wp2_with (go_at_call 46; go_must (refine (Hnx.out _ _ (Below.refl _ _) htm).mono ?_); rintro e w' ⟨rfl, rfl⟩)
      go_round
      case rel => exact ⟨k + 1, by omega, by go_num, rfl⟩
      case measure => simp [RowKit.intOf]; omega
    · obtain rfl : n = k := by omega
      obtain ⟨hco, hcn, hcs, q, hqo, hq0, hqm, hqlen, hqs⟩ := Hcyc.out x0 Hx0.out
      generalize itf (nxM low L) n x0 = t0 at htm hq0 ⊢
      have hs0 := hqo.pos
      have hsle : q.length ≤ low.length := hqo.nodup.length_le_of_subset hqs
      have Hqo := Lib.hid hqo
      have Hq0 := Lib.hid hq0
      have Hqm := Lib.hid hqm
      have Hqs := Lib.hid hqs
      have Hco := Lib.hid hco
      have Hcn := Lib.hid hcn
      have Hcs := Lib.hid hcs
      clear hqo hq0 hqm hqs hco hcn hcs
      go_wp2_with (go_at_call 46; go_must (refine (Hnx.out _ _ (Below.refl _ _) htm).mono ?_); rintro e w' ⟨rfl, rfl⟩)
      go_loopg [8, 9] (q.length - 1) (fun g m x wr => ∃ (k : Nat) (y : Int), k + g = q.length ∧ 1 ≤ k ∧ x = .int .i64 y ∧ Hid (q[k % q.length]? = some y) ∧ m = .int .i64 (foldMin q k) ∧ wr = w1)
      case atStart =>
        refine ⟨1, nxM low L t0, by omega, Nat.le_refl _, rfl, ?_, ?_, rfl⟩
        · have := Hqo.out.next 0 t0 Hq0.out
          rw [Nat.zero_add] at this
          exact this
        · unfold foldMin
          rw [show q.take 1 = [t0] by
            cases q with
            | nil => simp at hs0
            | cons a r => have := Hq0.out; simp at this; simp [this]]
          rfl
      case round =>
        obtain ⟨k, y, hkg, hk1, rfl, hy, rfl, rfl⟩ := hrel
        have hym : y ∈ low := Hqs.out y (List.mem_of_getElem? hy.out)
        by_cases hlt : k < q.length
        · have hyk : q[k]? = some y := by rw [← hy.out, Nat.mod_eq_of_lt hlt]
          have hne : (y != t0) = true := by
            have := nodup_ne Hqo.out.nodup (show 0 < k by omega) Hq0.out hyk
            simpa using Ne.symm this
          have Hyk := Lib.hid hyk
          clear hyk
          go_wp2_with (go_at_call 46; go_must (refine (Hnx.out _ _ (Below.refl _ _) hym).mono ?_); rintro e w' ⟨rfl, rfl⟩)
          go_roundg (gk - 1)
          case measure => omega
          case rel =>
            refine ⟨k + 1, nxM low L y, by omega, by omega, rfl, ?_, ?_, rfl⟩
            · have := Hqo.out.next k y Hyk.out
              exact this
            · rw [show min (foldMin q k) y = if y < foldMin q k then y else foldMin q k by omega, foldMin_step hk1 Hyk.out]
        · obtain rfl : k = q.length := by omega
          obtain ⟨w2, rfl⟩ : ∃ w2 : World, w2 = wr := ⟨_, rfl⟩
          have hyt : y = t0 := by
            have h1 := hy.out
            rw [Nat.mod_self, Hq0.out] at h1
            injection h1 with h1; exact h1.symm
          have hne : (y != t0) = false := by simp [hyt]
          have hmq : foldMin q q.length = minI out := by unfold foldMin; rw [List.take_length, Hqm.out]
          rw [hmq]
          clear hmq
          obtain ⟨o0, ho0⟩ : ∃ o0, o0 = minI out := ⟨_, rfl⟩
          have hom : minI out ∈ low := Hcs.out _ (List.mem_of_getElem? Hcn.out)
          have Hcn2 := Hcn
          rw [← ho0] at hom Hcn2 ⊢
          clear ho0
          go_wp2_with (go_at_call 46; go_must (refine (Hnx.out _ _ ((Below.refl _ _).al _) hom).mono ?_); rintro e w' ⟨rfl, rfl⟩)
          have hs2 := Hco.out.pos
          have hown0 : (w2.alloc (.cells #[.int .i64 o0] 3)).ownsRow w2.heap.size 3 1 (.slice (some ⟨w2.heap.size, 0, none⟩) 1 1) 1 ([o0].map (.int .i64)) :=
            ⟨by simp, .inr ⟨w2.heap.size, 1, #[.int .i64 o0], rfl, Nat.le_refl _, heap_alloc_new w2 _, Nat.le_refl _, by unfold maxLen; omega, by simp, by simp⟩⟩
          have htk1 : out.take 1 = [o0] := by
            cases out with
            | nil => simp at hs2
            | cons a r => have := Hcn2.out; simp at this; simp [this]
          rw [← htk1] at hown0
          have Hown0 := Lib.hid hown0
          clear hown0 htk1
          obtain ⟨wq, hwq⟩ : ∃ wq : World, wq = w2.alloc (.cells #[.int .i64 o0] 3) := ⟨_, rfl⟩
          have Hbq : Hid (Below w2.heap.size w2 wq) := by rw [hwq]; exact (Below.refl _ _).al _
          rw [← hwq] at Hown0 ⊢
          clear hwq
          go_loopg [10, 11] (out.length - 1) (fun g v x wz => ∃ (k : Nat) (y : Int), k + g = out.length ∧ 1 ≤ k ∧ x = .int .i64 y ∧ Hid (out[k % out.length]? = some y) ∧ Hid (wz.ownsRow w2.heap.size 3 1 v k ((out.take k).map (.int .i64))) ∧ Hid (Below w2.heap.size w2 wz))
          case atStart =>
            refine ⟨1, nxM low L o0, by omega, Nat.le_refl _, rfl, ?_, Hown0.out, Hbq.out⟩
            have := Hco.out.next 0 o0 Hcn2.out
            rw [Nat.zero_add] at this
            exact this
          case round =>
            obtain ⟨k, y, hkg, hk1, rfl, hy, ho, hbz⟩ := hrel
            have hym : y ∈ low := Hcs.out y (List.mem_of_getElem? hy.out)
            by_cases hlt : k < out.length
            · have hyk : out[k]? = some y := by rw [← hy.out, Nat.mod_eq_of_lt hlt]
              have hne : (y != o0) = true := by
                have := nodup_ne Hco.out.nodup (show 0 < k by omega) Hcn2.out hyk
                simpa using Ne.symm this
              have Hyk := Lib.hid hyk
              clear hyk
              have hsz := hbz.out.size
              go_wp2_with (first
                | (at_builtin; go_must (refine wpList_append_cells _ rfl (.tmp 58) (.tmp 60) 27 rfl w2.heap.size 3 i3 (.int .i64 0) 1 8 Try.underlying27 h30 h31 h32 h33 rfl (by omega) u10 _ _ rfl (ho.out.alloc _) (wr.heap.size + 1) (some ⟨wr.heap.size, 0, none⟩) 1 1 [.int .i64 y] rfl rfl (cells_new wr [.int .i64 y] 3) (ints_oneCell' [y]) (by unfold maxLen; omega) (by omega) (by simp; omega) ?_); intro v4 w4 hown4 hg4 hat4; have Hb4 := Lib.hid ((hbz.out.al (.cells #[.int .i64 y] 3)).grown hg4 (hbz.out.al _).size (fun g hg => (ho.out.lt g hg).1)))
                | (go_at_call 46; go_must (refine (Hnx.out _ _ Hb4.out hym).mono ?_); rintro e w' ⟨rfl, rfl⟩))
              go_roundg (gk - 1)
              case measure => omega
              case rel =>
                refine ⟨k + 1, nxM low L y, by omega, by omega, rfl, ?_, ?_, Hb4.out⟩
                · exact Hco.out.next k y Hyk.out
                · obtain ⟨hkl, hke⟩ := List.getElem?_eq_some_iff.1 Hyk.out
                  rw [List.take_succ_eq_append_getElem hkl, hke, List.map_append]
                  exact hown4
            · obtain rfl : k = out.length := by omega
              have hyt : y = o0 := by
                have h1 := hy.out
                rw [Nat.mod_self, Hcn2.out] at h1
                injection h1 with h1; exact h1.symm
              have hne : (y != o0) = false := by simp [hyt]
              rw [List.take_length] at ho
              go_wp2_with fail
              go_ret
              exact ⟨_, rfl, ownsRow_base_a ho.out hb1.size, hb1.call hbz.out⟩
end Go.Proofs.Ytkcpblmcpgnofaa
