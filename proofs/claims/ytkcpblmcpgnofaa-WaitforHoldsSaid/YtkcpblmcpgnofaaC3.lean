/- Walks: waitfor.Check, ref.Knot, ref.Check. -/
import Derived.Test.YtkcpblmcpgnofaaP2
import Derived.Test.YtkcpblmcpgnofaaN2
import Derived.Test.YtkcpblmcpgnofaaN3
import Derived.Test.YtkcpblmcpgnofaaL3
import Derived.Test.YtkcpblmcpgnofaaR1
namespace Go.Proofs.Ytkcpblmcpgnofaa
open Go.RowKit

set_option maxHeartbeats 1000000 in
set_option maxRecDepth 100000 in
theorem knot_any (ao az : Option Addr) (cap cs : Nat) (L : List Nd) (S : List Int) (w : World) (B : Nat) (h : Needs w B ao L) (hs : Ints w B az S) (hl : L.length ≤ 1000000) (hls : S.length ≤ 1000000) (hon : ∀ d ∈ L, d.on.length ≤ 1000000) :
    Calls Try.prog 40 #[.slice ao L.length cap, .slice az S.length cs] w fun e w' => e = .returned (.bool (knot L S)) ∧ w = w' := by
  have Hon := Lib.hid hon
  clear hon
  have hat : ∀ (t : Int), Calls Try.prog 33 #[.slice ao L.length cap, .int .i64 t] w fun e w' => e = .returned (.int .i64 (atI L t)) ∧ w = w' :=
    fun t => at_any ao cap L t _ B h hl
  have Hat := Lib.hid hat
  clear hat
  have hhs : ∀ (t : Int), Calls Try.prog 29 #[.slice az S.length cs, .int .i64 t] w fun e w' => e = .returned (.bool (hasB S t)) ∧ w = w' :=
    fun t => has_any az cs S t _ B hs hls
  have Hhs := Lib.hid hhs
  clear hhs
  go_enter Try.func40, Try.ntmps40
  go_wp2
  go_loop [5] (fun i => ∃ k : Nat, k ≤ S.length ∧ i = .int .i64 k ∧ Hid (∀ j t, j < k → S[j]? = some t → knotAt L S t = true)) (fun i => S.length - (intOf i).toNat)
  case atStart => exact ⟨0, Nat.zero_le _, rfl, fun j t hj => by omega⟩
  case round =>
    obtain ⟨k, hk, rfl, hno⟩ := hrel
    by_cases hlt : k < S.length
    · obtain ⟨b, o, t, rfl, hbB, ht, hct⟩ := hs.get hlt
      have Ht := Lib.hid ht
      clear ht
      have hrc := Hat.out t
      by_cases hneg : atI L t < 0
      · have Hneg := Lib.hid (atI_none hneg)
        generalize atI L t = q at hneg hrc
        have Hq := Lib.hid hrc
        clear hrc
        go_wp2_with (go_at_call 33; go_must (refine Hq.out.mono ?_); rintro e w' ⟨rfl, rfl⟩)
        go_ret
        exact ⟨ret_bool (Eq.symm (by unfold knot; rw [List.all_eq_false]; exact ⟨t, List.mem_of_getElem? Ht.out, by unfold knotAt; rw [Hneg.out]; simp⟩)), rfl⟩
      · obtain ⟨m, ⟨t', on, all⟩, hm, hd, ht', hfind⟩ := atI_some rfl (show 0 ≤ atI L t by omega)
        simp only at ht'
        subst ht'
        rw [hm] at hrc
        clear hneg
        have hml : m < L.length := (List.getElem?_eq_some_iff.1 hd).1
        obtain ⟨b2, o2, t2, on2, all2, ai, ci, rfl, hbB2, hd2, c1, c2, c3, hi⟩ := h.get hml
        have hol : on.length ≤ 1000000 := Hon.out _ (List.mem_of_getElem? hd)
        rw [hd] at hd2
        injection hd2 with hd2
        injection hd2 with e1 e2 e3
        subst e1 e2 e3
        have hm0 : (0 : Int) ≤ m := by omega
        have hm1 : (m : Int) < (L.length : Int) := by omega
        have Hq := Lib.hid hrc
        have Hd := Lib.hid hd
        have Hfind := Lib.hid hfind
        clear hrc hd hfind hm
        go_wp2_with (go_at_call 33; go_must (refine Hq.out.mono ?_); rintro e w' ⟨rfl, rfl⟩)
        go_loop [7, 8] (fun c j => ∃ q : Nat, q ≤ on.length ∧ j = .int .i64 q ∧ c = .int .i64 (inTo S on q)) (fun _ j => on.length - (intOf j).toNat)
        case atStart => exact ⟨0, Nat.zero_le _, rfl, rfl⟩
        case round =>
          obtain ⟨q, hq, rfl, rfl⟩ := hrel
          have hle := inTo_le S on q
          by_cases hlt2 : q < on.length
          · obtain ⟨b3, o3, y, rfl, hbB3, hy, hcy⟩ := hi.get hlt2
            have Hy := Lib.hid hy
            clear hy
            by_cases hb : hasB S y = true
            · have Hb := Lib.hid hb
              clear hb
              go_wp2_with (go_at_call 29; go_must (refine (Hhs.out y).mono ?_); rw [Hb.out]; rintro e w' ⟨rfl, rfl⟩)
              go_round
              case rel =>
                refine ⟨q + 1, by omega, by go_num, ?_⟩
                rw [inTo_hit Hy.out Hb.out]; go_num
              case measure => simp [intOf]; omega
            · have Hb := Lib.hid (show hasB S y = false by simpa using hb)
              clear hb
              go_wp2_with (go_at_call 29; go_must (refine (Hhs.out y).mono ?_); rw [Hb.out]; rintro e w' ⟨rfl, rfl⟩)
              go_round
              case rel =>
                refine ⟨q + 1, by omega, by go_num, ?_⟩
                rw [inTo_miss Hy.out Hb.out]
              case measure => simp [intOf]; omega
          · obtain rfl : q = on.length := by omega
            have hbad : knotAt L S t' = !badC (inTo S on on.length) on.length all := by unfold knotAt; rw [Hfind.out]; rfl
            have Hbad := Lib.hid hbad
            clear hbad
            generalize inTo S on on.length = c at hle Hbad ⊢
            by_cases hc0 : c = 0
            · have hc0' : ((c : Int) == 0) = true := beq_iff_eq.2 (by omega)
              have Hc0 := Lib.hid hc0
              clear hc0
              go_wp2
              go_ret
              exact ⟨ret_bool (Eq.symm (by unfold knot; rw [List.all_eq_false]; exact ⟨t', List.mem_of_getElem? Ht.out, by rw [Hbad.out]; unfold badC; simp [Hc0.out]⟩)), rfl⟩
            · have hc0' : ((c : Int) == 0) = false := beq_eq_false_iff_ne.2 (by omega)
              by_cases hbb : all = false ∧ c < on.length
              · obtain ⟨rfl, hc1⟩ := hbb
                go_wp2
                go_ret
                exact ⟨ret_bool (Eq.symm (by unfold knot; rw [List.all_eq_false]; exact ⟨t', List.mem_of_getElem? Ht.out, by rw [Hbad.out]; unfold badC; simp; omega⟩)), rfl⟩
              · have hgood : knotAt L S t' = true := by
                  rw [Hbad.out]; unfold badC; cases all <;> simp <;> simp at hbb <;> omega
                have Hgood := Lib.hid hgood
                clear hgood
                have hnext : ∃ k2 : Nat, k2 ≤ S.length ∧ Value.int .i64 (k + 1 : Int) = .int .i64 (k2 : Int) ∧ Hid (∀ j t, j < k2 → S[j]? = some t → knotAt L S t = true) := by
                  refine ⟨k + 1, by omega, by go_num, fun j t hj he => ?_⟩
                  rcases Nat.lt_succ_iff_lt_or_eq.1 hj with hj | rfl
                  · exact hno j t hj he
                  · rw [Ht.out] at he; injection he with he; subst he; exact Hgood.out
                cases all
                · have hc1 : ¬ c < on.length := fun hh => hbb ⟨rfl, hh⟩
                  go_wp2
                  go_round
                  case rel => exact hnext
                  case measure => simp [intOf]; omega
                · go_wp2
                  go_round
                  case rel => exact hnext
                  case measure => simp [intOf]; omega
    · obtain rfl : k = S.length := by omega
      go_wp2
      go_ret
      exact ⟨ret_bool (Eq.symm (by unfold knot; rw [List.all_eq_true]; intro t ht; obtain ⟨j, hj⟩ := List.mem_iff_getElem?.1 ht; exact hno j t (List.getElem?_eq_some_iff.1 hj).1 hj)), rfl⟩

theorem srt_Inc {n : Int} {xs : List Int} (h : srt n xs = true) : Inc xs := srt_inc h

set_option maxHeartbeats 2000000 in
set_option maxRecDepth 100000 in
theorem check_any (n : Int) (ao az : Option Addr) (cap cs : Nat) (L : List Nd) (S : List Int) (w : World) (h : Needs w w.heap.size ao L) (hs : Ints w w.heap.size az S) (hw : WfN L) (hls : S.length ≤ 1000000) :
    Calls Try.prog 20 #[.int .i64 n, .slice ao L.length cap, .slice az S.length cs] w fun e w' => e = .returned (.int .i64 (chk n L S)) ∧ Below w.heap.size w w' := by
  have hl := hw.len
  have Hon := Lib.hid hw.on
  have Hvalid := Lib.hid (valid_any n ao cap L w h hw.task hw.len hw.on)
  have Hsort : Hid (∀ W, Below w.heap.size w W → Calls Try.prog 32 #[.int .i64 n, .slice az S.length cs] W fun e w' => e = .returned (.bool (srt n S)) ∧ W = w') :=
    fun W hb => sorted_any n az cs S _ w.heap.size (hs.below hb) hls
  clear hw
  cases hv : vld n L
  · have he : chk n L S = 2 := by unfold chk; rw [hv]; rfl
    rw [he]
    have Hv := Lib.hid hv
    clear hv he
    go_enter Try.func20, Try.ntmps20
    go_wp2_with (go_at_call 11; go_must (refine Hvalid.out.mono ?_); rw [Hv.out]; rintro e w1 ⟨rfl, hb1⟩)
    go_ret
    exact ⟨rfl, hb1⟩
  cases hsr : srt n S
  · have he : chk n L S = 2 := by unfold chk; rw [hv, hsr]; rfl
    rw [he]
    have Hv := Lib.hid hv
    have Hsr := Lib.hid hsr
    clear hv he hsr
    go_enter Try.func20, Try.ntmps20
    go_wp2_with (first
      | (go_at_call 11; go_must (refine Hvalid.out.mono ?_); rw [Hv.out]; rintro e w1 ⟨rfl, hb1⟩)
      | (go_at_call 32; go_must (refine (Hsort.out _ hb1).mono ?_); rw [Hsr.out]; rintro e w2 ⟨rfl, rfl⟩))
    go_ret
    exact ⟨rfl, hb1⟩
  have hV := vld_iff.1 hv
  have hn0 := hV.n0
  have hfull : (L.any (badAt S) = true ∨ fdC S L < S.length) → chk n L S = 10 := by
    intro hh
    unfold chk
    rw [hv, hsr]
    simp only [Bool.and_self, if_true]
    rw [if_pos]
    rw [Bool.or_eq_true, decide_eq_true_eq]
    exact hh
  have hfine : L.any (badAt S) = false → ¬ fdC S L < S.length → chk n L S = 0 := by
    intro h1 h2
    unfold chk
    rw [hv, hsr]
    simp only [Bool.and_self, if_true]
    rw [if_neg]
    rw [Bool.or_eq_true, decide_eq_true_eq, h1]
    rintro (h3 | h3)
    · cases h3
    · exact h2 h3
  have Hfull := Lib.hid hfull
  have Hfine := Lib.hid hfine
  have hinc := srt_Inc hsr
  have Hbs : Hid (∀ W (x : Int), Below w.heap.size w W → Calls Try.prog 39 #[.slice az S.length cs, .int .i64 x] W (RFound W (hasB S x))) :=
    fun W x hb => bsearch_any az cs S x W w.heap.size (hs.below hb) hinc hls
  have Hv := Lib.hid hv
  have Hsr := Lib.hid hsr
  clear hv hsr hfull hfine hV hinc
  go_enter Try.func20, Try.ntmps20
  go_wp2_with (first
    | (go_at_call 11; go_must (refine Hvalid.out.mono ?_); rw [Hv.out]; rintro e w1 ⟨rfl, hb1⟩)
    | (go_at_call 32; go_must (refine (Hsort.out _ hb1).mono ?_); rw [Hsr.out]; rintro e w2 ⟨rfl, rfl⟩))
  go_loopw [7, 29] (fun f i wr => ∃ k : Nat, k ≤ L.length ∧ i = .int .i64 k ∧ f = .int .i64 (fdTo S L k) ∧ Hid (∀ j d, j < k → L[j]? = some d → badAt S d = false) ∧ Below w.heap.size w wr) (fun _ i _ => L.length - (intOf i).toNat)
  case atStart => exact ⟨0, Nat.zero_le _, rfl, rfl, fun j d hj => by omega, hb1⟩
  case round =>
    obtain ⟨k, hk, rfl, rfl, hno, hbel⟩ := hrel
    have hfle := fdTo_le S L k
    by_cases hlt : k < L.length
    · obtain ⟨b, o, t, on, all, ai, ci, rfl, hbB, hd, c1, c2, c3, hi⟩ := (h.below hbel).get hlt
      have hol : on.length ≤ 1000000 := Hon.out _ (List.mem_of_getElem? hd)
      have Hd := Lib.hid hd
      clear hd
      by_cases ht : hasB S t = true
      · have Ht := Lib.hid ht
        clear ht
        go_wp2_with (go_at_call 39; go_must (refine (Hbs.out _ t (hbel.al _)).mono ?_); rw [Ht.out]; rintro e w' ⟨ix, rfl, rfl⟩)
        go_loop [12, 47] (fun c j => ∃ q : Nat, q ≤ on.length ∧ j = .int .i64 q ∧ c = .int .i64 (inTo S on q)) (fun _ j => on.length - (intOf j).toNat)
        case atStart => exact ⟨0, Nat.zero_le _, rfl, rfl⟩
        case round =>
          obtain ⟨q, hq, rfl, rfl⟩ := hrel
          have hle := inTo_le S on q
          by_cases hlt2 : q < on.length
          · obtain ⟨b3, o3, y, rfl, hbB3, hy, hcy⟩ := (hi.below ((Below.refl w.heap.size wr).alloc hbel.size (.cells #[.int .i64 t, .slice ai on.length ci, .bool all] 42))).get hlt2
            have Hy := Lib.hid hy
            clear hy
            by_cases hb : hasB S y = true
            · have Hb := Lib.hid hb
              clear hb
              go_wp2_with (go_at_call 39; go_must (refine (Hbs.out _ y (hbel.al _)).mono ?_); rw [Hb.out]; rintro e w' ⟨ix2, rfl, rfl⟩)
              go_round
              case rel =>
                refine ⟨q + 1, by omega, by go_num, ?_⟩
                rw [inTo_hit Hy.out Hb.out]; go_num
              case measure => simp [intOf]; omega
            · have Hb := Lib.hid (show hasB S y = false by simpa using hb)
              clear hb
              go_wp2_with (go_at_call 39; go_must (refine (Hbs.out _ y (hbel.al _)).mono ?_); rw [Hb.out]; rintro e w' ⟨ix2, rfl, rfl⟩)
              go_round
              case rel =>
                refine ⟨q + 1, by omega, by go_num, ?_⟩
                rw [inTo_miss Hy.out Hb.out]
              case measure => simp [intOf]; omega
          · obtain rfl : q = on.length := by omega
            have hbad : badAt S ⟨t, on, all⟩ = badC (inTo S on on.length) on.length all := by unfold badAt; rw [Ht.out]; rfl
            have Hbad := Lib.hid hbad
            clear hbad
            have hbadfull : badAt S ⟨t, on, all⟩ = true → chk n L S = 10 := fun hh => Hfull.out (.inl (List.any_eq_true.2 ⟨_, List.mem_of_getElem? Hd.out, hh⟩))
            have Hbf := Lib.hid hbadfull
            clear hbadfull
            generalize inTo S on on.length = c at hle Hbad ⊢
            by_cases hc0 : c = 0
            · have hc0' : ((c : Int) == 0) = true := beq_iff_eq.2 (by omega)
              have Hc0 := Lib.hid hc0
              clear hc0
              go_wp2
              go_ret
              exact ⟨ret_int (Hbf.out (by rw [Hbad.out]; unfold badC; simp [Hc0.out])).symm, hbel.al _⟩
            · have hc0' : ((c : Int) == 0) = false := beq_eq_false_iff_ne.2 (by omega)
              by_cases hbb : all = false ∧ c < on.length
              · obtain ⟨rfl, hc1⟩ := hbb
                go_wp2
                go_ret
                exact ⟨ret_int (Hbf.out (by rw [Hbad.out]; unfold badC; simp; omega)).symm, hbel.al _⟩
              · have hgood : badAt S ⟨t, on, all⟩ = false := by
                  rw [Hbad.out]; unfold badC; cases all <;> simp <;> simp at hbb <;> omega
                have Hgood := Lib.hid hgood
                clear hgood
                have hnext : ∀ o', ∃ k2 : Nat, k2 ≤ L.length ∧ Value.int .i64 (k + 1 : Int) = .int .i64 (k2 : Int) ∧ Value.int .i64 ((fdTo S L k : Int) + 1) = .int .i64 (fdTo S L k2 : Int) ∧ Hid (∀ j d, j < k2 → L[j]? = some d → badAt S d = false) ∧ Below w.heap.size w (wr.alloc o') := by
                  intro o'
                  refine ⟨k + 1, by omega, by go_num, ?_, fun j d hj he => ?_, hbel.al _⟩
                  · rw [fdTo_hit Hd.out Ht.out]; go_num
                  rcases Nat.lt_succ_iff_lt_or_eq.1 hj with hj | rfl
                  · exact hno j d hj he
                  · rw [Hd.out] at he; injection he with he; subst he; exact Hgood.out
                cases all
                · have hc1 : ¬ c < on.length := fun hh => hbb ⟨rfl, hh⟩
                  go_wp2
                  go_roundw
                  case rel => exact hnext _
                  case measure => simp [intOf]; omega
                · go_wp2
                  go_roundw
                  case rel => exact hnext _
                  case measure => simp [intOf]; omega
      · have Ht := Lib.hid (show hasB S t = false by simpa using ht)
        clear ht
        go_wp2_with (go_at_call 39; go_must (refine (Hbs.out _ t (hbel.al _)).mono ?_); rw [Ht.out]; rintro e w' ⟨ix, rfl, rfl⟩)
        go_roundw
        case rel =>
          refine ⟨k + 1, by omega, by go_num, ?_, fun j d hj he => ?_, hbel.al _⟩
          · rw [fdTo_miss Hd.out Ht.out]
          rcases Nat.lt_succ_iff_lt_or_eq.1 hj with hj | rfl
          · exact hno j d hj he
          · rw [Hd.out] at he; injection he with he; subst he; unfold badAt; rw [Ht.out]; rfl
        case measure => simp [intOf]; omega
    · obtain rfl : k = L.length := by omega
      have hfd : fdTo S L L.length = fdC S L := rfl
      rw [hfd] at hfle ⊢
      have hany : L.any (badAt S) = false := by
        rw [List.any_eq_false]; intro d hd; obtain ⟨j, hj⟩ := List.mem_iff_getElem?.1 hd
        rw [hno j d (List.getElem?_eq_some_iff.1 hj).1 hj]; simp
      have Hany := Lib.hid hany
      clear hany hfd
      by_cases hlt2 : fdC S L < S.length
      · go_wp2
        go_ret
        exact ⟨ret_int (Hfull.out (.inr hlt2)).symm, hbel⟩
      · go_wp2
        go_ret
        exact ⟨ret_int (Hfine.out Hany.out hlt2).symm, hbel⟩

theorem refCheck_any (n : Int) (ao az : Option Addr) (cap cs : Nat) (L : List Nd) (S : List Int) (w : World) (B : Nat) (h : Needs w B ao L) (hs : Ints w B az S) (hl : L.length ≤ 1000000) (hls : S.length ≤ 1000000) (hon : ∀ d ∈ L, d.on.length ≤ 1000000) :
    Calls Try.prog 21 #[.int .i64 n, .slice ao L.length cap, .slice az S.length cs] w fun e w' => e = .returned (.int .i64 (chkR n L S)) ∧ Drewn w w' := by
  have Hvalid := Lib.hid (refValid_any n ao cap L w B h hl hon)
  have Hsort : Hid (∀ m, Calls Try.prog 34 #[.int .i64 n, .slice az S.length cs] (w.drewN m) fun e w' => e = .returned (.bool (srt n S)) ∧ Drewn (w.drewN m) w') :=
    fun m => refSorted_any n az cs S _ B (hs.drewN m) hls
  have Hknot : Hid (∀ m, Calls Try.prog 40 #[.slice ao L.length cap, .slice az S.length cs] (w.drewN m) fun e w' => e = .returned (.bool (knot L S)) ∧ w.drewN m = w') :=
    fun m => knot_any ao az cap cs L S _ B (h.below (below_drewN (Below.refl _ _) m)) (hs.drewN m) hl hls hon
  cases hv : vld n L
  · have he : chkR n L S = 2 := by unfold chkR; rw [hv]; rfl
    rw [he]
    have Hv := Lib.hid hv
    clear hv he
    go_enter Try.func21, Try.ntmps21
    go_wp2_with (go_at_call 12; go_must (refine Hvalid.out.mono ?_); rw [Hv.out]; rintro e w1 ⟨rfl, m, rfl⟩)
    go_ret
    exact ⟨rfl, Drewn.add _⟩
  · cases hsr : srt n S
    · have he : chkR n L S = 2 := by unfold chkR; rw [hv, hsr]; rfl
      rw [he]
      have Hv := Lib.hid hv
      have Hsr := Lib.hid hsr
      clear hv he hsr
      go_enter Try.func21, Try.ntmps21
      go_wp2_with (first
        | (go_at_call 12; go_must (refine Hvalid.out.mono ?_); rw [Hv.out]; rintro e w1 ⟨rfl, m, rfl⟩)
        | (go_at_call 34; go_must (refine (Hsort.out _).mono ?_); rw [Hsr.out]; rintro e w1 ⟨rfl, m2, rfl⟩))
      go_ret
      exact ⟨rfl, Drewn.add _⟩
    · have he : chkR n L S = if knot L S then 0 else 10 := by unfold chkR; rw [hv, hsr]; rfl
      rw [he]
      have Hv := Lib.hid hv
      have Hsr := Lib.hid hsr
      clear hv he hsr
      generalize knot L S = kn at Hknot ⊢
      cases kn
      all_goals
        go_enter Try.func21, Try.ntmps21
        go_wp2_with (first
          | (go_at_call 12; go_must (refine Hvalid.out.mono ?_); rw [Hv.out]; rintro e w1 ⟨rfl, m, rfl⟩)
          | (go_at_call 34; go_must (refine (Hsort.out _).mono ?_); rw [Hsr.out]; rintro e w1 ⟨rfl, m2, rfl⟩; rw [World.drewN_drewN])
          | (go_at_call 40; go_must (refine (Hknot.out _).mono ?_); rintro e w1 ⟨rfl, rfl⟩))
        go_ret
        exact ⟨rfl, Drewn.add _⟩
end Go.Proofs.Ytkcpblmcpgnofaa
