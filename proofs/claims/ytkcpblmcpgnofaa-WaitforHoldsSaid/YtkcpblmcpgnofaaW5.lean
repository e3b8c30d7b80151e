/- Walk: the law WaitforHolds. -/
import Derived.Test.YtkcpblmcpgnofaaW4
import Derived.Deep.CutRange
import Derived.Deep.RegionHeld3
import Derived.BigQuiet
import Derived.Deep.QuietTactic
namespace Go.Proofs.Ytkcpblmcpgnofaa
open Go.RowKit Go.Maps

theorem chk_cases (n : Int) (L : List Nd) (S : List Int) : chk n L S = 0 ∨ chk n L S = 2 ∨ chk n L S = 10 := by
  unfold chk
  split
  · split
    · exact .inr (.inr rfl)
    · exact .inl rfl
  · exact .inr (.inl rfl)
theorem free_cases (n : Int) (L : List Nd) (T : List Int) : freeE n L T = (rest L T, 0) ∨ freeE n L T = ([], 9) ∨ freeE n L T = ([], 2) := by
  unfold freeE
  split
  · split
    · exact .inr (.inl rfl)
    · exact .inl rfl
  · exact .inr (.inr rfl)

/-- Has one of the first j needs this task, and waits for y? -/
def fndTo (L : List Nd) (t y : Int) (j : Nat) : Bool := (L.take j).any (fun d => decide (d.task = t) && hasB d.on y)
theorem fndTo_step {L : List Nd} {t y : Int} {j : Nat} {d : Nd} (hd : L[j]? = some d) : fndTo L t y (j + 1) = (fndTo L t y j || (decide (d.task = t) && hasB d.on y)) := by
  obtain ⟨hj, he⟩ := List.getElem?_eq_some_iff.1 hd
  unfold fndTo; rw [List.take_succ_eq_append_getElem hj, List.any_append, he]; simp

theorem within_low {n : Nat} {L : List Nd} {S : List Int} (hS : ∀ t ∈ S, t ∈ stuckS n L) : S.all (hasB (sortI (stuckS n L))) = true := by
  rw [List.all_eq_true]
  intro t ht
  rw [hasB_sortI]
  exact hasB_iff.2 (hS t ht)

set_option maxHeartbeats 4000000 in
set_option maxRecDepth 100000 in
theorem law8_main (m : Nat) (tn : Int) (ao az : Option Addr) (cap cz : Nat) (L : List Nd) (S : List Int) (w : World) (h : Needs w w.heap.size ao L) (hwn : WfN L) (hS : Ints w w.heap.size az S) (hl : S.length ≤ 70) (hs : smallB L = true) (hv : vld m L = true) (hcapL : L.length ≤ cap) (_hcap : cap ≤ maxLen) :
    Calls Try.prog 8 #[.int .i64 m, .slice ao L.length cap, .slice az S.length cz, .int .i64 tn] w (RTrue w) := by
  have hV := vld_iff.1 hv
  have hm64 : m ≤ 64 := by have := hV.n1; omega
  have hLm : L.length ≤ m := by have := hV.len; omega
  have Hsmall := Lib.hid (small_any ao cap L w _ h (by omega) (fun d hd => by have := hwn.on d hd; omega))
  have Hknown : Hid (∀ W, Calls Try.prog 10 #[] W (RTrue W)) := known_any
  have Hvalid := Lib.hid (valid_any m ao cap L w h hwn.task hwn.len hwn.on)
  have hlen : (sortI (stuckS m L)).length ≤ m := by rw [sortI_length]; have := solveL_stuck_le m L; unfold stuckS; omega
  have Hstuck : Hid (∀ W, Below w.heap.size w W → Calls Try.prog 15 #[.int .i64 m, .slice ao L.length cap] W (RIntsE W (sortI (stuckS m L), 0))) := by
    intro W hb
    have := stuck_any m ao cap L W (h.up (Nat.le_refl _) hb) hwn
    rw [show stuckE m L = (sortI (stuckS m L), 0) by unfold stuckE; rw [hv]; rfl] at this
    exact this
  have hRlen : (solveL m L).1.length = m := by rw [← refRounds_eq hV]; exact refRounds_len m L
  have hre : roundsE m L = ((solveL m L).1, 0) := by unfold roundsE; rw [hv]; rfl
  have Hrounds : Hid (∀ W, Below w.heap.size w W → Calls Try.prog 14 #[.int .i64 m, .slice ao L.length cap] W (RIntsE W ((solveL m L).1, 0))) := by
    intro W hb
    have := rounds_any m ao cap L W (h.up (Nat.le_refl _) hb) hwn
    rw [hre] at this
    exact this
  have Hck : Hid (∀ W a c, Below w.heap.size w W → Ints W W.heap.size a (sortI (stuckS m L)) → Calls Try.prog 20 #[.int .i64 m, .slice ao L.length cap, .slice a (sortI (stuckS m L)).length c] W fun e w' => e = .returned (.int .i64 0) ∧ Below W.heap.size W w') := by
    intro W a c hb hi
    have := check_any m ao a cap c L _ W (h.up (Nat.le_refl _) hb) hi hwn (by omega)
    rw [stuck_knot hV] at this
    exact this
  have Hset : Hid (∀ W, Below w.heap.size w W → Calls Try.prog 20 #[.int .i64 m, .slice ao L.length cap, .slice az S.length cz] W fun e w' => e = .returned (.int .i64 (chk m L S)) ∧ Below W.heap.size W w') :=
    fun W hb => check_any m ao az cap cz L S W (h.up (Nat.le_refl _) hb) (hS.up (Nat.le_refl _) hb) hwn (by omega)
  have hknot : chk m L S = 0 → S.all (hasB (sortI (stuckS m L))) = true := by
    intro h0
    refine within_low (knot_sub hV ?_)
    rw [chk_eq m L S (fun hh => inc_nodup (srt_inc hh))] at h0
    unfold chkR at h0
    split at h0
    · split at h0
      · assumption
      · cases h0
    · cases h0
  have Hwith : Hid (∀ W a b xs ys ca cb, Ints W W.heap.size a xs → Ints W W.heap.size b ys → xs.length ≤ 1000000 → ys.length ≤ 1000000 → Calls Try.prog 28 #[.slice a xs.length ca, .slice b ys.length cb] W fun e w' => e = .returned (.bool (xs.all (hasB ys))) ∧ W = w') :=
    fun W a b xs ys ca cb ha hb hla hlb => within_any a b ca cb xs ys W W.heap.size ha hb hla hlb
  have HSup : Hid (∀ W, Below w.heap.size w W → Ints W W.heap.size az S) := fun W hb => hS.up (Nat.le_refl _) hb
  have HNup : Hid (∀ W, Below w.heap.size w W → Needs W W.heap.size ao L) := fun W hb => h.up (Nat.le_refl _) hb
  have Hturn : Hid (∀ (t : Nat) W a c, Needs W W.heap.size a (L.drop t ++ L.take t) → Calls Try.prog 14 #[.int .i64 m, .slice a (L.drop t ++ L.take t).length c] W (RIntsE W ((solveL m L).1, 0))) := by
    intro t W a c hn
    have hp : L.Perm (L.drop t ++ L.take t) := by
      have : (L.drop t ++ L.take t).Perm (L.take t ++ L.drop t) := List.perm_append_comm
      rw [List.take_append_drop] at this
      exact this.symm
    have hw' : WfN (L.drop t ++ L.take t) := ⟨by rw [← hp.length_eq]; exact hwn.len, fun d hd => hwn.task d (hp.mem_iff.2 hd), fun d hd => hwn.on d (hp.mem_iff.2 hd)⟩
    have := rounds_any m a c _ W hn hw'
    rw [roundsE_perm hv hp, hre] at this
    exact this
  have Hsame : Hid (∀ W xs a b ca cb, Ints W W.heap.size a xs → Ints W W.heap.size b xs → xs.length ≤ 1000000 → Calls Try.prog 17 #[.slice a xs.length ca, .slice b xs.length cb] W fun e w' => e = .returned (.bool true) ∧ Below W.heap.size W w') := by
    intro W xs a b ca cb ha hb hl
    have := same_any a b ca cb xs xs W W.heap.size ha hb hl hl
    rw [eqB_refl] at this; exact this.mono fun _ _ h => drewn_below h
  have Hv := Lib.hid hv
  have HV := Lib.hid hV
  have Hwn := Lib.hid hwn
  have Hs := Lib.hid hs
  have HRlen := Lib.hid hRlen
  have Hknot := Lib.hid hknot
  have Hlow : Hid (∀ x, x ∈ sortI (stuckS m L) ↔ x ∈ stuckS m L) := fun x => (sortI_perm _).mem_iff
  have hck3 := chk_cases m L S
  generalize hx : chk m L S = x at Hset Hknot hck3
  clear hx
  have hlbnd : (sortI (stuckS m L)).length ≤ 1000000 := by omega
  have hRb : (solveL m L).1.length ≤ 1000000 := by rw [hRlen]; omega
  have hRm : (((solveL m L).1.length : Int) != (m : Int)) = false := by rw [hRlen]; simp
  clear hv hV hwn hs hknot hRlen hre h hS
  go_enter Try.func8, Try.ntmps8
  go_upto_region 7 with (first
    | (go_at_call 9; go_must (refine Hsmall.out.mono ?_); rw [Hs.out]; rintro e w0 ⟨rfl, rfl⟩)
    | (go_at_call 11; go_must (refine Hvalid.out.mono ?_); rw [Hv.out]; rintro e w1 ⟨rfl, hb1⟩)
    | (go_at_call 15; go_must (refine (Hstuck.out _ hb1).mono ?_); rintro e w2 ⟨v2, rfl, hown2, hb2⟩; obtain ⟨a2, c2, rfl, hi2⟩ := own_ints hown2; have hb12 := hb1.call hb2)
    | (go_at_call 14; go_must (refine (Hrounds.out _ hb12).mono ?_); rintro e w3 ⟨v3, rfl, hown3, hb3⟩; obtain ⟨a3, c3, rfl, hi3⟩ := own_ints hown3; have hb13 := hb12.call hb3; have hi23 := hi2.up (Nat.le_refl _) hb3)
    | (go_at_call 20; go_must (refine (Hck.out _ _ _ hb13 hi23).mono ?_); rintro e w4 ⟨rfl, hb4⟩; have hb14 := hb13.call hb4; have hi24 := hi23.up (Nat.le_refl _) hb4; have hi34 := hi3.up (Nat.le_refl _) hb4))
  clear hi2 hi3 hi23 hown2 hown3 hb1 hb2 hb3 hb4 hb12 hb13
  have Hi24 := Lib.hid hi24
  have Hi34 := Lib.hid hi34
  clear hi24 hi34
  go_cut [84] from 74 to 83 (fun c wx => c = .bool false ∧ Hid (Below w4.heap.size w4 wx))
  case first =>
    rcases hck3 with rfl | rfl | rfl
    · have Hall := Lib.hid (Hknot.out rfl)
      go_wp2_with (first
        | (go_at_call 20; go_must (refine (Hset.out _ hb14).mono ?_); rintro e w5 ⟨rfl, hb5⟩; have hb15 := hb14.call hb5)
        | (go_at_call 28; go_must (refine (Hwith.out _ az a2 S _ cz c2 (HSup.out _ hb15) (Hi24.out.up (Nat.le_refl _) hb5) (by omega) hlbnd).mono ?_); rw [Hall.out]; rintro e w6 ⟨rfl, rfl⟩))
      go_meet
      case rel => exact ⟨rfl, hb5⟩
    all_goals
      go_wp2_with (go_at_call 20; go_must (refine (Hset.out _ hb14).mono ?_); rintro e w5 ⟨rfl, hb5⟩)
      go_meet
      case rel => exact ⟨rfl, hb5⟩
  case rest =>
    obtain ⟨rfl, hb5⟩ := hcut
    obtain ⟨w5, rfl⟩ : ∃ w5 : World, w5 = wc := ⟨_, rfl⟩
    have hb15 := hb14.call hb5.out
    have Hi25 := Lib.hid (Hi24.out.up (Nat.le_refl _) hb5.out)
    have Hi35 := Lib.hid (Hi34.out.up (Nat.le_refl _) hb5.out)
    clear hb5 Hi24 Hi34 Hset Hknot hck3
    go_upto_region 9 with fail
    go_cut [92] from 85 to 91 (fun c wx => c = .bool (decide (0 < tn ∧ tn < (L.length : Int))) ∧ wx = w5)
    case first =>
      by_cases ht0 : 0 < tn
      · by_cases ht1 : tn < (L.length : Int)
        · have hb : decide (0 < tn ∧ tn < (L.length : Int)) = true := decide_eq_true ⟨ht0, ht1⟩
          have Hb := Lib.hid hb
          clear hb
          go_wp2_with fail
          go_meet
          case rel => exact ⟨by rw [Hb.out], rfl⟩
        · have hb : decide (0 < tn ∧ tn < (L.length : Int)) = false := decide_eq_false (fun hh => ht1 hh.2)
          have Hb := Lib.hid hb
          clear hb
          go_wp2_with fail
          go_meet
          case rel => exact ⟨by rw [Hb.out], rfl⟩
      · have hb : decide (0 < tn ∧ tn < (L.length : Int)) = false := decide_eq_false (fun hh => ht0 hh.1)
        have Hb := Lib.hid hb
        clear hb
        go_wp2_with fail
        go_meet
        case rel => exact ⟨by rw [Hb.out], rfl⟩
    case rest =>
    obtain ⟨rfl, rfl⟩ := hcut
    obtain ⟨w5, rfl⟩ : ∃ w5 : World, w5 = wc := ⟨_, rfl⟩
    go_upto_if 92 with fail
    go_cut [8, 13, 14] from 92 to 113 (fun c _ _ wx => c = .bool false ∧ Hid (Below w5.heap.size w5 wx))
    case first =>
      by_cases ht : 0 < tn ∧ tn < (L.length : Int)
      · rw [decide_eq_true ht]
        obtain ⟨ht0, ht1⟩ := ht
        obtain ⟨t, rfl⟩ := Int.eq_ofNat_of_zero_le (show 0 ≤ tn by omega)
        obtain ⟨cs, hcs, hcc⟩ := (HNup.out w5 hb15).cells
        have hcsl := hcs.1
        obtain ⟨b, o, hao, _, _⟩ := hcc 0 (by omega)
        subst hao
        have hcD := (hcc.drop (t * 3))
        have hcT := (hcc.take (t * 3))
        have hndT := (hcs.drop t).append (hcs.take t)
        have hone := hcs.2.1
        obtain ⟨i42, h40, h41, h42, h43⟩ := info_parts info42
        have hnn : ∀ W : World, W.ownsRow w5.heap.size 42 3 (.slice none 0 0) 0 [] := fun W => World.ownsRow_nil _ _ _ _
        have Hnd := Lib.hid hndT
        have HcD := Lib.hid hcD
        have HcT := Lib.hid hcT
        have hlD : (cs.drop (t * 3)).length = (L.length - t) * 3 := by rw [List.length_drop, hcsl]; omega
        have hlT : (cs.take (t * 3)).length = t * 3 := by rw [List.length_take, hcsl]; omega
        have hoD : ∀ u ∈ cs.drop (t * 3), u.oneCell' = true := fun u hu => hone u (List.mem_of_mem_drop hu)
        have hoT : ∀ u ∈ cs.take (t * 3), u.oneCell' = true := fun u hu => hone u (List.mem_of_mem_take hu)
        have hlen2 : (L.drop t ++ L.take t).length = (L.length - t) + t := by rw [List.length_append, List.length_drop, List.length_take]; omega
        have htu := Hturn.out t
        rw [hlen2] at htu
        have Htu := Lib.hid htu
        have HlD := Lib.hid hlD
        have HlT := Lib.hid hlT
        have HoD := Lib.hid hoD
        have HoT := Lib.hid hoT
        have Hlen2 := Lib.hid hlen2
        have htl : t < L.length := by omega
        have hne : ¬ L.length = t := by omega
        have hcapne : ¬ cap = t := by omega
        have ht2 : (t : Int) ≤ (cap : Int) := by omega
        have hcl : (L.length : Int) ≤ (cap : Int) := by omega
        have htl2 : (t : Int) ≤ (L.length : Int) := by omega
        clear hlD hlT hoD hoT hone hcsl hcs hcc hcD hcT hndT hlen2 htu
        go_upto_region 10 with fail
        go_region_held3 (fun w' => True) (exact trivial)
          (first
            | (refine step_append_cells _ (by rfl) (.const (.slice none 0 0)) (.tmp 97) 22 (by rfl) w5.heap.size 42 i42 (.agg #[.int .i64 0, .slice none 0 0, .bool false]) 3 40 Try.underlying22 h40 h41 h42 h43 rfl (by omega) (.slice none 0 0) 0 [] (by rfl) (hnn _) w5.heap.size (some ⟨b, o + t * 3, none⟩) (L.length - t) (cap - t) (cs.drop (t * 3)) (by rfl) HlD.out (by exact HcD.out) HoD.out (by unfold maxLen; omega) (by omega) (by exact Nat.le_refl _) ?_; intro v6 w6 hown6 hg6 hat6; simp only [Nat.zero_add, List.nil_append] at hown6; have hb6 : Below w5.heap.size w5 w6 := ⟨hg6.os, hg6.tape, hg6.output, hg6.size, fun k hk => hg6.block k hk (by simp [Value.ownBlock])⟩)
            | (refine step_append_cells _ (by rfl) (.tmp 98) (.tmp 101) 22 (by rfl) w5.heap.size 42 i42 (.agg #[.int .i64 0, .slice none 0 0, .bool false]) 3 40 Try.underlying22 h40 h41 h42 h43 rfl (by omega) v6 (L.length - t) (cs.drop (t * 3)) (by rfl) hown6 w5.heap.size (some ⟨b, o, none⟩) t cap (cs.take (t * 3)) (by rfl) HlT.out (by exact HcT.out.below hb6) HoT.out (by unfold maxLen; omega) (by omega) hb6.size ?_; intro v7 w7 hown7 hg7 hat7; have hb7 : Below w5.heap.size w5 w7 := hb6.grown hg7 hb6.size (fun g hg => (hown6.lt g hg).1); obtain ⟨a7, c7, rfl, hc7⟩ := own_cells hown7; have hn7 := ((Hnd.out.below hb7).mono hb7.size).needs hc7)
            | (go_at_call 14; refine (Htu.out _ a7 c7 hn7).mono ?_; rintro e w8 ⟨v8, rfl, hown8, hb8⟩; obtain ⟨a8, c8, rfl, hi8⟩ := own_ints hown8; have hb58 := hb7.call hb8)
            | fail)
        have Hi38 := Lib.hid (Hi35.out.up (Nat.le_refl _) hb58)
        go_wp2_with (first
          | (go_at_call 17; go_must (refine (Hsame.out _ _ a8 a3 c8 c3 hi8 Hi38.out hRb).mono ?_); rintro e w9 ⟨rfl, hb9⟩))
        go_meet
        case rel => exact ⟨rfl, hb58.call hb9⟩
      · rw [decide_eq_false ht]
        go_wp2_with fail
        go_meet
        case rel => exact ⟨rfl, Below.refl _ _⟩
    case rest =>
      obtain ⟨rfl, hb6⟩ := hcut
      obtain ⟨w6, rfl⟩ : ∃ w6 : World, w6 = wc := ⟨_, rfl⟩
      have hb16 := hb15.call hb6.out
      have Hi26 := Lib.hid (Hi25.out.up (Nat.le_refl _) hb6.out)
      clear hb6 Hi25 Hi35
      go_upto_region 13 with fail
      have Hfree : Hid (∀ W, Below w.heap.size w W → Calls Try.prog 24 #[.int .i64 m, .slice ao L.length cap, .slice az S.length cz] W (RNeedsE W (freeE m L S))) :=
        fun W hb => free_any24 m ao az cap cz L S W (HNup.out W hb) (HSup.out W hb) Hwn.out (by omega)
      have Hstuck2 : Hid (∀ W a c T, Needs W W.heap.size a (rest L T) → Calls Try.prog 15 #[.int .i64 m, .slice a (rest L T).length c] W (RIntsE W (sortI (stuckS m (rest L T)), 0))) := by
        intro W a c T hn
        have := stuck_any m a c (rest L T) W hn (Hwn.out.rest T)
        rw [show stuckE m (rest L T) = (sortI (stuckS m (rest L T)), 0) by unfold stuckE; rw [vld_iff.2 (HV.out.rest T)]; rfl] at this
        exact this
      have Hless : Hid (∀ T, (sortI (stuckS m (rest L T))).all (hasB (sortI (stuckS m L))) = true ∧ (sortI (stuckS m (rest L T))).length ≤ 1000000) := by
        intro T
        refine ⟨within_low (fun t ht => stuckS_mono HV.out (HV.out.rest T) (fun d hd => rest_sub hd) t ((sortI_perm _).mem_iff.1 ht)), ?_⟩
        rw [sortI_length]
        have h1 := solveL_stuck_le m (rest L T)
        have h2 := rest_le L T
        unfold stuckS
        omega
      go_upto_if 122 with (go_at_call 24; go_must (refine (Hfree.out _ hb16).mono ?_); rintro e w7 ⟨v7, cs7, rfl, hown7, hnd7, hb7⟩; obtain ⟨a7, c7, rfl, hn7⟩ := needs_own hown7 hnd7)
      have hb17 := hb16.call hb7
      have Hi27 := Lib.hid (Hi26.out.up (Nat.le_refl _) hb7)
      have Hn7 := Lib.hid hn7
      clear hown7 hnd7 hb7 hn7 Hi26
      go_cut [8, 15, 16, 17, 18] from 114 to 136 (fun c _ _ _ _ wx => c = .bool false ∧ Hid (Below w7.heap.size w7 wx))
      case first =>
        rcases free_cases m L S with hfc | hfc | hfc
        · rw [hfc] at Hn7 ⊢
          have Hst := Lib.hid (Hstuck2.out w7 a7 c7 S Hn7.out)
          obtain ⟨hal, hlb⟩ := Hless.out S
          have Hal := Lib.hid hal
          clear hal hfc
          go_wp2_with (first
            | (go_at_call 15; go_must (refine Hst.out.mono ?_); rintro e w8 ⟨v8, rfl, hown8, hb8⟩; obtain ⟨a8, c8, rfl, hi8⟩ := own_ints hown8)
            | (go_at_call 28; go_must (refine (Hwith.out _ a8 a2 _ _ c8 c2 hi8 (Hi27.out.up (Nat.le_refl _) hb8) hlb hlbnd).mono ?_); rw [Hal.out]; rintro e w9 ⟨rfl, rfl⟩))
          go_meet
          case rel => exact ⟨rfl, hb8⟩
        · rw [hfc] at Hn7 ⊢
          clear hfc
          go_wp2_with fail
          go_meet
          case rel => exact ⟨rfl, Below.refl _ _⟩
        · rw [hfc] at Hn7 ⊢
          clear hfc
          go_wp2_with fail
          go_meet
          case rel => exact ⟨rfl, Below.refl _ _⟩
      case rest =>
        obtain ⟨rfl, hb8⟩ := hcut
        obtain ⟨w8, rfl⟩ : ∃ w8 : World, w8 = wc := ⟨_, rfl⟩
        have hb18 := hb17.call hb8.out
        have Hi28 := Lib.hid (Hi27.out.up (Nat.le_refl _) hb8.out)
        clear hb8 Hi27 Hn7 Hfree
        have hlb : (sortI (stuckS m L)).length ≤ 64 := by omega
        have Hcyc : Hid (Calls Try.prog 22 #[.int .i64 m, .slice ao L.length cap] w8 (RReadE w8 (cycleE m L))) := cycle_any m ao cap L w8 (HNup.out w8 hb18) Hwn.out
        by_cases h0 : (sortI (stuckS m L)).length = 0
        · have hce : cycleE m L = ([], 9) := by unfold cycleE; rw [Hv.out, if_pos rfl, Int.toNat_natCast, if_pos h0]
          rw [hce] at Hcyc
          have h0b : (((sortI (stuckS m L)).length : Int) == 0) = true := beq_iff_eq.2 (by omega)
          clear h0 hce
          go_wp2_with (first
            | (go_at_call 22; go_must (refine Hcyc.out.mono ?_); rintro e w9 ⟨a9, c9, rfl, hi9, hb9⟩)
            | (go_at_call 10; go_must (refine (Hknown.out _).mono ?_); rintro e w10 ⟨rfl, hb10⟩))
          go_ret
          exact ⟨rfl, (hb18.call hb9).call hb10⟩
        have hce : cycleE m L = (cycL (sortI (stuckS m L)) L, 0) := by unfold cycleE; rw [Hv.out, if_pos rfl, Int.toNat_natCast, if_neg h0]
        have h0b : (((sortI (stuckS m L)).length : Int) == 0) = false := beq_eq_false_iff_ne.2 (by omega)
        have hcof := cycL_of (low := sortI (stuckS m L)) (L := L) (x0 := (sortI (stuckS m L)).headD 0) (m := (sortI (stuckS m L)).length) (fun t ht => nxM_low HV.out Hlow.out ht) (by
          cases hq : sortI (stuckS m L) with
          | nil => rw [hq] at h0; simp at h0
          | cons a r => simp) rfl (Nat.le_refl _)
        rw [hce] at Hcyc
        have hnxf : ∀ t ∈ sortI (stuckS m L), ∃ (k : Nat) (d : Nd), L[k]? = some d ∧ d.task = t ∧ hasB d.on (nxM (sortI (stuckS m L)) L t) = true := by
          intro t ht
          obtain ⟨k, d, q, y, hk, hd, hy, hyn, _, _⟩ := nxM_find HV.out Hlow.out ht
          obtain ⟨k', d', hk', hd', ht', _⟩ := atI_some hk (by omega)
          have : k' = k := by omega
          subst this
          rw [hd] at hd'
          injection hd' with hd'
          subst hd'
          exact ⟨k', d, hd, ht', by rw [← hyn]; exact hasB_iff.2 (List.mem_of_getElem? hy)⟩
        have hcsub : ∀ x ∈ cycL (sortI (stuckS m L)) L, x ∈ stuckS m L := fun x hx => (Hlow.out x).1 (hcof.sub x hx)
        have hclen := hcof.cyc.nodup.length_le_of_subset hcof.sub
        have hcpos := hcof.cyc.pos
        have hcw : (cycL (sortI (stuckS m L)) L).all (hasB (sortI (stuckS m L))) = true := within_low hcsub
        have hfree := free_cycle HV.out hcsub
        have hstrict : ∀ c0 ∈ cycL (sortI (stuckS m L)) L, (sortI (stuckS m (rest L (sort64To (cycL (sortI (stuckS m L)) L) 64)))).length < (sortI (stuckS m L)).length := by
          intro c0 hc0
          rw [sortI_length, sortI_length]
          have hr := hcsub c0 hc0
          obtain ⟨d, hd, he⟩ := stuckS_task hr
          have hdr := HV.out.task d hd
          rw [he] at hdr
          exact stuckS_less HV.out hr (sort64_mem hdr.1 (by omega) hc0)
        have hls := hstrict _ (List.getElem_mem hcpos)
        have hcyc := hcof.cyc
        have hcsub2 := hcof.sub
        obtain ⟨hal, hlb3⟩ := Hless.out (sort64To (cycL (sortI (stuckS m L)) L) 64)
        have Hstuck3 := Lib.hid (fun W a c => Hstuck2.out W a c (sort64To (cycL (sortI (stuckS m L)) L) 64))
        clear hcof hcsub hstrict hce
        generalize cycL (sortI (stuckS m L)) L = C at Hcyc hnxf hclen hcpos hcw hfree hls hcyc hcsub2 hal hlb3 Hstuck3
        have hs64 := sort64To_le C 64
        have Hcw := Lib.hid hcw
        have Hal := Lib.hid hal
        have Hnx := Lib.hid hnxf
        have HisC := Lib.hid hcyc
        have HCs := Lib.hid hcsub2
        have Hsort : Hid (∀ W a c, Ints W W.heap.size a C → Calls Try.prog 30 #[.slice a C.length c] W (RInts W (sort64To C 64))) := fun W a c hi => sorted64_any a c C W hi (by omega)
        have Hfree2 : Hid (∀ W a c, Below w.heap.size w W → Ints W W.heap.size a (sort64To C 64) → Calls Try.prog 24 #[.int .i64 m, .slice ao L.length cap, .slice a (sort64To C 64).length c] W (RNeedsE W (rest L (sort64To C 64), 0))) := by
          intro W a c hb hi
          have := free_any24 m ao a cap c L (sort64To C 64) W (HNup.out W hb) hi Hwn.out (by omega)
          rw [hfree] at this
          exact this
        have hCb : ((C.length : Int) == 0) = false := beq_eq_false_iff_ne.2 (by omega)
        have hls2 : ((sortI (stuckS m (rest L (sort64To C 64)))).length : Int) < ((sortI (stuckS m L)).length : Int) := by omega
        clear hcw hal hnxf hcyc hcsub2 hfree h0 hls
        go_upto_region 23 with (first
          | (go_at_call 22; go_must (refine Hcyc.out.mono ?_); rintro e w9 ⟨a9, c9, rfl, hi9, hb9⟩; have hb19 := hb18.call hb9)
          | (go_at_call 28; go_must (refine (Hwith.out _ a9 a2 C _ c9 c2 hi9 (Hi28.out.up (Nat.le_refl _) hb9) (by omega) hlbnd).mono ?_); rw [Hcw.out]; rintro e w10 ⟨rfl, rfl⟩))
        have Hi29 := Lib.hid (Hi28.out.up (Nat.le_refl _) hb9)
        have Hi9 := Lib.hid hi9
        clear hi9 Hi28
        go_wp2_with fail
        go_loopw [21] (fun i wx => ∃ k : Nat, k ≤ C.length ∧ i = .int .i64 k ∧ Hid (Below w9.heap.size w9 wx)) (fun i _ => C.length - (RowKit.intOf i).toNat)
        case atStart => exact ⟨0, Nat.zero_le _, rfl, Below.refl _ _⟩
        case round =>
          obtain ⟨k, hk, rfl, hbk⟩ := hrel
          obtain ⟨wk, rfl⟩ : ∃ wk : World, wk = wr := ⟨_, rfl⟩
          have hb1k := hb19.call hbk.out
          by_cases hlt : k < C.length
          · obtain ⟨bc, oc, t, rfl, hbc, htC, hct⟩ := (Hi9.out.up (Nat.le_refl _) hbk.out).get (k := k) hlt
            have hkm : (k + 1) % C.length < C.length := Nat.mod_lt _ hcpos
            obtain ⟨bc2, oc2, y, hbo, hbc2, hyC, hcy⟩ := (Hi9.out.up (Nat.le_refl _) hbk.out).get (k := (k + 1) % C.length) hkm
            injection hbo with hbo
            injection hbo with e1 e2
            subst e1 e2
            have hyt : y = nxM (sortI (stuckS m L)) L t := by
              have := HisC.out.next k t htC
              rw [hyC] at this
              injection this
            have htm : t ∈ sortI (stuckS m L) := HCs.out t (List.mem_of_getElem? htC)
            have hfull : fndTo L t y L.length = true := by
              obtain ⟨q, d, hd, hdt, hdy⟩ := Hnx.out t htm
              unfold fndTo
              rw [List.take_length, List.any_eq_true]
              exact ⟨d, List.mem_of_getElem? hd, by rw [hdt, hyt, hdy]; simp⟩
            have Hfull := Lib.hid hfull
            have hN := Lib.hid (HNup.out wk hb1k)
            have hsum : IntKind.i64.wrap ((k : Int) + 1) = (k : Int) + 1 := by rw [IntKind.wrap_i64]; omega
            have hmod : Int.tmod ((k : Int) + 1) (C.length : Int) = (((k + 1) % C.length : Nat) : Int) := by
              rw [Int.tmod_eq_emod_of_nonneg (by omega)]
              have := Int.natCast_emod (k + 1) C.length
              rw [this]
              rfl
            generalize hq : (k + 1) % C.length = q at hkm hcy hmod hyC
            have hq0 : (0 : Int) ≤ (q : Int) := by omega
            have hwq : IntKind.i64.wrap (q : Int) = (q : Int) := by rw [IntKind.wrap_i64]; omega
            have hcl0 : ((C.length : Int) == 0) = false := beq_eq_false_iff_ne.2 (by omega)
            have hq1 : (q : Int) < (C.length : Int) := by omega
            have hk0 : (0 : Int) ≤ (k : Int) := by omega
            have hk1 : (k : Int) < (C.length : Int) := by omega
            clear hq hyt htm hfull htC hyC
            go_wp2_with fail
            go_loopw [22, 23] (fun f i wx => ∃ j : Nat, j ≤ L.length ∧ i = .int .i64 j ∧ f = .bool (fndTo L t y j) ∧ Drewn wk wx) (fun _ i _ => L.length - (RowKit.intOf i).toNat)
            case atStart => exact ⟨0, Nat.zero_le _, rfl, by unfold fndTo; rw [List.take_zero]; rfl, Drewn.refl _⟩
            case round =>
              obtain ⟨j, hj, rfl, rfl, hdr⟩ := hrel
              have hbw : Below wk.heap.size wk wr := hdr.below
              have hct' : wr.cell? ⟨bc, oc + k, none⟩ = some (.int .i64 t) := (hbw.cell (p := ⟨bc, oc + k, none⟩) hbc).trans hct
              have hcy' : wr.cell? ⟨bc, oc + q, none⟩ = some (.int .i64 y) := (hbw.cell (p := ⟨bc, oc + q, none⟩) hbc).trans hcy
              by_cases hlt2 : j < L.length
              · obtain ⟨b, o, t2, on, all, ai, ci, hao, hbB, hd, c1, c2', c3', hi⟩ := (hN.out.below hbw).get hlt2
                subst hao
                have hol : on.length ≤ 1000000 := Hwn.out.on _ (List.mem_of_getElem? hd)
                have hst := fndTo_step (t := t) (y := y) hd
                have Hst := Lib.hid hst
                have Hq : Hid (∀ n', Calls Try.prog 29 #[.slice ai on.length ci, .int .i64 y] (wr.drewN n') fun e w'' => e = .returned (.bool (hasB on y)) ∧ ∃ m', w'' = wr.drewN m') :=
                  fun n' => (has_any ai ci on y _ wk.heap.size (hi.drewN n') hol).mono (by rintro e w'' ⟨rfl, rfl⟩; exact ⟨rfl, n', rfl⟩)
                have hj0 : (0 : Int) ≤ (j : Int) := by omega
                have hj1 : (j : Int) < (L.length : Int) := by omega
                clear hst hd
                have hnext : ∀ (b1 : Bool) (W : World), Drewn wk W → fndTo L t y (j + 1) = b1 → ∃ j' : Nat, j' ≤ L.length ∧ Value.int .i64 ((j : Int) + 1) = .int .i64 j' ∧ Value.bool b1 = .bool (fndTo L t y j') ∧ Drewn wk W :=
                  fun b1 W hW hb => ⟨j + 1, by omega, by go_num, by rw [hb], hW⟩
                have Hnext := Lib.hid hnext
                clear hnext
                generalize fndTo L t y j = f0 at Hst ⊢
                cases f0
                · by_cases htt : t2 = t
                  · have httb : (t2 == t) = true := by simp [htt]
                    have Htt := Lib.hid htt
                    clear htt
                    go_wp2_with fail
                    go_quiet ((go_at_call 29; refine (Hq.out _).mono ?_; exact fun _ _ h => h))
                    go_wp2_with fail
                    go_roundw
                    case rel => exact Hnext.out _ _ (hdr.trans (Drewn.add _)) (by rw [Hst.out]; simp [Htt.out])
                    case measure => simp [RowKit.intOf]; omega
                  · have httb : (t2 == t) = false := by simp [htt]
                    have Htt := Lib.hid htt
                    clear htt
                    go_wp2_with fail
                    go_quiet (fail)
                    go_wp2_with fail
                    go_roundw
                    case rel => exact Hnext.out _ _ (hdr.trans (Drewn.add _)) (by rw [Hst.out]; simp [Htt.out])
                    case measure => simp [RowKit.intOf]; omega
                · go_wp2_with fail
                  go_quiet (fail)
                  go_wp2_with fail
                  go_roundw
                  case rel => exact Hnext.out _ _ (hdr.trans (Drewn.add _)) (by rw [Hst.out]; rfl)
                  case measure => simp [RowKit.intOf]; omega
              · obtain rfl : j = L.length := by omega
                rw [Hfull.out]
                go_wp2_with fail
                go_roundw
                case rel => exact ⟨k + 1, by omega, by go_num, hbk.out.call hbw⟩
                case measure => simp [RowKit.intOf]; omega
          · obtain rfl : k = C.length := by omega
            have Hi2k := Lib.hid (Hi29.out.up (Nat.le_refl _) hbk.out)
            have Hi9k := Lib.hid (Hi9.out.up (Nat.le_refl _) hbk.out)
            go_wp2_with (first
              | (go_at_call 30; go_must (refine (Hsort.out _ a9 c9 Hi9k.out).mono ?_); rintro e wa ⟨va, rfl, howna, hba⟩; obtain ⟨aa, ca, rfl, hia⟩ := own_ints howna; have hb1a := hb1k.call hba)
              | (go_at_call 24; go_must (refine (Hfree2.out _ aa ca hb1a hia).mono ?_); rintro e wb ⟨vb, csb, rfl, hownb, hndb, hbb⟩; obtain ⟨ab, cb, rfl, hnb⟩ := needs_own hownb hndb; have hb1b := hb1a.call hbb)
              | (go_at_call 15; go_must (refine (Hstuck3.out _ ab cb hnb).mono ?_); rintro e wc2 ⟨vc, rfl, hownc, hbc⟩; obtain ⟨ac, cc, rfl, hic⟩ := own_ints hownc; have hb1c := hb1b.call hbc; have hi2c := ((Hi2k.out.up (Nat.le_refl _) hba).up (Nat.le_refl _) hbb).up (Nat.le_refl _) hbc)
              | (go_at_call 28; go_must (refine (Hwith.out _ ac a2 _ _ cc c2 hic hi2c hlb3 hlbnd).mono ?_); rw [Hal.out]; rintro e wd ⟨rfl, rfl⟩)
              | (go_at_call 10; go_must (refine (Hknown.out _).mono ?_); rintro e we ⟨rfl, hbe⟩))
            go_ret
            exact ⟨rfl, hb1c.call hbe⟩

set_option maxHeartbeats 1000000 in
set_option maxRecDepth 100000 in
theorem law8_any (n : Int) (ao az : Option Addr) (cap cz : Nat) (L : List Nd) (S : List Int) (tn : Int) (w : World) (h : Needs w w.heap.size ao L) (hw : WfIn L) (hS : Ints w w.heap.size az S) (hlS : S.length ≤ 9223372036854775807) (_wt : (Lit.int .i64 tn).wf = true) (hcapL : L.length ≤ cap) (hcap : cap ≤ maxLen) :
    Calls Try.prog 8 #[.int .i64 n, .slice ao L.length cap, .slice az S.length cz, .int .i64 tn] w (RTrue w) := by
  have Hsmall := Lib.hid (small_any ao cap L w _ h hw.len hw.on)
  have Hknown : Hid (∀ W, Calls Try.prog 10 #[] W (RTrue W)) := known_any
  cases hs : smallB L
  · have Hs := Lib.hid hs
    clear hs hw
    go_enter Try.func8, Try.ntmps8
    go_wp2_with (first
      | (go_at_call 9; go_must (refine Hsmall.out.mono ?_); rw [Hs.out]; rintro e w1 ⟨rfl, rfl⟩)
      | (go_at_call 10; go_must (refine (Hknown.out _).mono ?_); rintro e w2 ⟨rfl, hb2⟩))
    go_ret
    exact ⟨rfl, hb2⟩
  have hwn := hw.small hs
  by_cases h70 : (70 : Int) < S.length
  · have Hs := Lib.hid hs
    clear hs hw hwn
    go_enter Try.func8, Try.ntmps8
    go_wp2_with (first
      | (go_at_call 9; go_must (refine Hsmall.out.mono ?_); rw [Hs.out]; rintro e w1 ⟨rfl, rfl⟩)
      | (go_at_call 10; go_must (refine (Hknown.out _).mono ?_); rintro e w2 ⟨rfl, hb2⟩))
    go_ret
    exact ⟨rfl, hb2⟩
  cases hv : vld n L
  · have Hs := Lib.hid hs
    have Hvalid := Lib.hid (valid_any n ao cap L w h hwn.task hwn.len hwn.on)
    have Hv := Lib.hid hv
    clear hs hw hwn hv
    go_enter Try.func8, Try.ntmps8
    go_wp2_with (first
      | (go_at_call 9; go_must (refine Hsmall.out.mono ?_); rw [Hs.out]; rintro e w1 ⟨rfl, rfl⟩)
      | (go_at_call 11; go_must (refine Hvalid.out.mono ?_); rw [Hv.out]; rintro e w1 ⟨rfl, hb1⟩)
      | (go_at_call 10; go_must (refine (Hknown.out _).mono ?_); rintro e w2 ⟨rfl, hb2⟩))
    go_ret
    exact ⟨rfl, hb1.call hb2⟩
  obtain ⟨m, rfl⟩ := Int.eq_ofNat_of_zero_le (vld_iff.1 hv).n0
  exact law8_main m tn ao az cap cz L S w h hwn hS (by omega) hs hv hcapL hcap
end Go.Proofs.Ytkcpblmcpgnofaa
