/- Walk: law.known. -/
import Derived.Test.YtkcpblmcpgnofaaG1
namespace Go.Proofs.Ytkcpblmcpgnofaa
open Go.RowKit Go.Maps

/-- It returns true, and what the call found is as it was. -/
def RTrue (w : World) (e : Ending) (w' : World) : Prop := e = .returned (.bool true) ∧ Below w.heap.size w w'

theorem ints_row (w : World) (xs : List Int) : Ints (w.alloc (.cells (xs.map (Value.int .i64)).toArray 3)) (w.alloc (.cells (xs.map (Value.int .i64)).toArray 3)).heap.size (some ⟨w.heap.size, 0, none⟩) xs :=
  (cells_new w (xs.map (.int .i64)) 3).ints.mono (by simp)

theorem eqB_refl (xs : List Int) : eqB xs xs = true := by unfold eqB; simp
theorem same_lit (a : Option Addr) (c : Nat) (xs : List Int) (W : World) (h : Ints W W.heap.size a xs) (hl : xs.length ≤ 1000000) (cs : Array Value) (hcs : cs = (xs.map (Value.int .i64)).toArray) (n : Nat) (hn : n = xs.length) :
    Calls Try.prog 17 #[.slice a n c, .slice (some ⟨W.heap.size, 0, none⟩) n n] (W.alloc (.cells cs 3)) fun e w' => e = .returned (.bool true) ∧ Below W.heap.size W w' := by
  subst hcs hn
  refine (same_any a (some ⟨W.heap.size, 0, none⟩) c xs.length xs xs _ _ (h.up (Nat.le_refl _) ((Below.refl _ W).al _)) (ints_row W xs) hl hl).mono ?_
  rw [eqB_refl]
  rintro e w' ⟨rfl, m, rfl⟩
  exact ⟨rfl, ((Below.refl _ W).al _).dn m⟩

theorem chk_lit (a : Option Addr) (c : Nat) (L : List Nd) (S : List Int) (v : Int) (W : World) (h : Needs W W.heap.size a L) (hw : WfN L) (hl : S.length ≤ 1000000) (hv : chk 5 L S = v) (cs : Array Value) (hcs : cs = (S.map (Value.int .i64)).toArray) (n : Nat) (hn : n = S.length) :
    Calls Try.prog 20 #[.int .i64 5, .slice a L.length c, .slice (some ⟨W.heap.size, 0, none⟩) n n] (W.alloc (.cells cs 3)) fun e w' => e = .returned (.int .i64 v) ∧ Below W.heap.size W w' := by
  subst hcs hn
  refine (check_any 5 a (some ⟨W.heap.size, 0, none⟩) c S.length L S _ (h.up (Nat.le_refl _) ((Below.refl _ W).al _)) (ints_row W S) hw hl).mono ?_
  rw [hv]
  rintro e w' ⟨rfl, hb⟩
  exact ⟨rfl, ((Below.refl _ W).al _).call hb⟩
theorem free_lit (a : Option Addr) (c : Nat) (L : List Nd) (S : List Int) (M : List Nd) (x : Int) (W : World) (h : Needs W W.heap.size a L) (hw : WfN L) (hl : S.length ≤ 1000000) (hv : freeE 5 L S = (M, x)) (cs : Array Value) (hcs : cs = (S.map (Value.int .i64)).toArray) (n : Nat) (hn : n = S.length) :
    Calls Try.prog 24 #[.int .i64 5, .slice a L.length c, .slice (some ⟨W.heap.size, 0, none⟩) n n] (W.alloc (.cells cs 3)) fun e w' => ∃ am cm, e = .returned (.tuple #[.slice am M.length cm, .int .i64 x]) ∧ Needs w' w'.heap.size am M ∧ Below W.heap.size W w' := by
  subst hcs hn
  have := free_any24 5 a (some ⟨W.heap.size, 0, none⟩) c S.length L S _ (h.up (Nat.le_refl _) ((Below.refl _ W).al _)) (ints_row W S) hw hl
  rw [hv] at this
  refine this.mono ?_
  rintro e w' ⟨v, cs, rfl, hown, hnd, hb⟩
  obtain ⟨am, cm, rfl, hn⟩ := needs_own hown hnd
  exact ⟨am, cm, rfl, hn, ((Below.refl _ W).al _).call hb⟩

set_option maxHeartbeats 2000000 in
set_option maxRecDepth 100000 in
theorem known_any (w : World) : Calls Try.prog 10 #[] w (RTrue w) := by
  have Hgiven := Lib.hid (given_any w)
  go_enter Try.func10, Try.ntmps10
  go_upto_region 2 with (go_at_call 31; go_must (refine Hgiven.out.mono ?_); rintro e w1 ⟨ag, cg, rfl, hg, hb1⟩)
  have Hr : Hid (∀ W, Below w1.heap.size w1 W → Calls Try.prog 14 #[.int .i64 5, .slice ag 3 cg] W (RIntsE W ([-1, -1, -1, 0, 0], 0))) := by
    intro W hb
    have := rounds_any 5 ag cg LG W (hg.up (Nat.le_refl _) hb) g_wf
    rw [g_rounds] at this; exact this
  have Hs : Hid (∀ W, Below w1.heap.size w1 W → Calls Try.prog 15 #[.int .i64 5, .slice ag 3 cg] W (RIntsE W ([0, 1, 2], 0))) := by
    intro W hb
    have := stuck_any 5 ag cg LG W (hg.up (Nat.le_refl _) hb) g_wf
    rw [g_stuck] at this; exact this
  go_upto_region 4 with (first
    | (go_at_call 14; go_must (refine (Hr.out _ (Below.refl _ _)).mono ?_); rintro e w2 ⟨v2, rfl, hown2, hb2⟩; obtain ⟨a2, c2, rfl, hi2⟩ := own_ints hown2)
    | (go_at_call 15; go_must (refine (Hs.out _ hb2).mono ?_); rintro e w3 ⟨v3, rfl, hown3, hb3⟩; obtain ⟨a3, c3, rfl, hi3⟩ := own_ints hown3))
  have hb13 := hb2.call hb3
  have Hq1 : Hid (∀ W, Below w2.heap.size w2 W → Calls Try.prog 17 #[.slice a2 5 c2, .slice (some ⟨W.heap.size, 0, none⟩) 5 5] (W.alloc (.cells #[.int .i64 (-1), .int .i64 (-1), .int .i64 (-1), .int .i64 0, .int .i64 0] 3)) fun e w' => e = .returned (.bool true) ∧ Below W.heap.size W w') :=
    fun W hb => same_lit a2 c2 [-1, -1, -1, 0, 0] W (hi2.up (Nat.le_refl _) hb) (by decide) _ (by rfl) 5 rfl
  have Hq2 : Hid (∀ W, Below w3.heap.size w3 W → Calls Try.prog 17 #[.slice a3 3 c3, .slice (some ⟨W.heap.size, 0, none⟩) 3 3] (W.alloc (.cells #[.int .i64 0, .int .i64 1, .int .i64 2] 3)) fun e w' => e = .returned (.bool true) ∧ Below W.heap.size W w') :=
    fun W hb => same_lit a3 c3 [0, 1, 2] W (hi3.up (Nat.le_refl _) hb) (by decide) _ (by rfl) 3 rfl
  go_upto_region 6 with (first
    | (go_at_call 17; refine (Hq1.out _ hb3).mono ?_; rintro e w4 ⟨rfl, hb4⟩; clear Hq1)
    | (go_at_call 17; refine (Hq2.out _ hb4).mono ?_; rintro e w5 ⟨rfl, hb5⟩; clear Hq2)
    | fail)
  have hb15 := (hb13.call hb4).call hb5
  have Hc : Hid (∀ W, Below w1.heap.size w1 W →
      (Calls Try.prog 20 #[.int .i64 5, .slice ag 3 cg, .slice (some ⟨W.heap.size, 0, none⟩) 3 3] (W.alloc (.cells #[.int .i64 0, .int .i64 1, .int .i64 2] 3)) fun e w' => e = .returned (.int .i64 0) ∧ Below W.heap.size W w') ∧
      (Calls Try.prog 20 #[.int .i64 5, .slice ag 3 cg, .slice (some ⟨W.heap.size, 0, none⟩) 1 1] (W.alloc (.cells #[.int .i64 2] 3)) fun e w' => e = .returned (.int .i64 0) ∧ Below W.heap.size W w') ∧
      (Calls Try.prog 20 #[.int .i64 5, .slice ag 3 cg, .slice (some ⟨W.heap.size, 0, none⟩) 2 2] (W.alloc (.cells #[.int .i64 0, .int .i64 1] 3)) fun e w' => e = .returned (.int .i64 10) ∧ Below W.heap.size W w') ∧
      (Calls Try.prog 20 #[.int .i64 5, .slice ag 3 cg, .slice (some ⟨W.heap.size, 0, none⟩) 1 1] (W.alloc (.cells #[.int .i64 3] 3)) fun e w' => e = .returned (.int .i64 10) ∧ Below W.heap.size W w')) :=
    fun W hb => ⟨chk_lit ag cg LG [0, 1, 2] 0 W (hg.up (Nat.le_refl _) hb) g_wf (by decide) g_chk1 _ (by rfl) 3 rfl, chk_lit ag cg LG [2] 0 W (hg.up (Nat.le_refl _) hb) g_wf (by decide) g_chk2 _ (by rfl) 1 rfl,
      chk_lit ag cg LG [0, 1] 10 W (hg.up (Nat.le_refl _) hb) g_wf (by decide) g_chk3 _ (by rfl) 2 rfl, chk_lit ag cg LG [3] 10 W (hg.up (Nat.le_refl _) hb) g_wf (by decide) g_chk4 _ (by rfl) 1 rfl⟩
  have Hc1 := Lib.hid (Hc.out w5 hb15).1
  have Hc2 : Hid (∀ W, _) := fun W (hb : Below w1.heap.size w1 W) => (Hc.out W hb).2.1
  have Hc3 : Hid (∀ W, _) := fun W (hb : Below w1.heap.size w1 W) => (Hc.out W hb).2.2.1
  have Hc4 : Hid (∀ W, _) := fun W (hb : Below w1.heap.size w1 W) => (Hc.out W hb).2.2.2
  go_upto_region 8 with (first
    | (go_at_call 20; refine Hc1.out.mono ?_; rintro e w6 ⟨rfl, hb6⟩; clear Hc1; have hb16 := hb15.call hb6)
    | (go_at_call 20; refine (Hc2.out w6 hb16).mono ?_; rintro e w7 ⟨rfl, hb7⟩; clear Hc2; have hb17 := hb16.call hb7)
    | (go_at_call 20; refine (Hc3.out w7 hb17).mono ?_; rintro e w8 ⟨rfl, hb8⟩; clear Hc3; have hb18 := hb17.call hb8)
    | (go_at_call 20; refine (Hc4.out w8 hb18).mono ?_; rintro e w9 ⟨rfl, hb9⟩; clear Hc4; have hb19 := hb18.call hb9)
    | fail)
  clear Hc Hs hb2 hb3 hb4 hb5 hb6 hb7 hb8 hb9 hb16 hb17 hb18 hb15 hb13 hi2 hi3
  have Hcy : Hid (Calls Try.prog 22 #[.int .i64 5, .slice ag 3 cg] w9 (RReadE w9 ([0, 1], 0))) := by
    have := cycle_any 5 ag cg LG w9 (hg.up (Nat.le_refl _) hb19) g_wf
    rw [g_cycle] at this; exact this
  have Hbk : Hid (∀ W, Below w1.heap.size w1 W → Calls Try.prog 26 #[.int .i64 5, .slice ag 3 cg] W (RThree W (2, 0, 0))) := by
    intro W hb
    have := breaker_any 5 ag cg LG W (hg.up (Nat.le_refl _) hb) g_wf
    rw [g_break] at this; exact this
  go_upto_region 10 with (first
    | (go_at_call 22; go_must (refine Hcy.out.mono ?_); rintro e wa ⟨aa, ca, rfl, hia, hba⟩; have hb1a := hb19.call hba)
    | (go_at_call 26; go_must (refine (Hbk.out _ hb1a).mono ?_); rintro e wb ⟨rfl, hbb⟩; have hb1b := hb1a.call hbb))
  have Hq3 : Hid (∀ W, Below wa.heap.size wa W → Calls Try.prog 17 #[.slice aa 2 ca, .slice (some ⟨W.heap.size, 0, none⟩) 2 2] (W.alloc (.cells #[.int .i64 0, .int .i64 1] 3)) fun e w' => e = .returned (.bool true) ∧ Below W.heap.size W w') :=
    fun W hb => same_lit aa ca [0, 1] W (hia.up (Nat.le_refl _) hb) (by decide) _ (by rfl) 2 rfl
  go_upto_region 12 with (go_at_call 17; go_must (refine (Hq3.out _ hbb).mono ?_); rintro e wc ⟨rfl, hbc⟩; have hb1c := hb1b.call hbc)
  have Hf1 : Hid (Calls Try.prog 24 #[.int .i64 5, .slice ag 3 cg, .slice (some ⟨wc.heap.size, 0, none⟩) 1 1] (wc.alloc (.cells #[.int .i64 2] 3)) fun e w' => ∃ am cm, e = .returned (.tuple #[.slice am 2 cm, .int .i64 0]) ∧ Needs w' w'.heap.size am [⟨0, [1, 2], false⟩, ⟨1, [0, 4], true⟩] ∧ Below wc.heap.size wc w') :=
    free_lit ag cg LG [2] _ 0 wc (hg.up (Nat.le_refl _) hb1c) g_wf (by decide) g_free _ (by rfl) 1 rfl
  go_upto_region 13 with (go_at_call 24; go_must (refine Hf1.out.mono ?_); rintro e wd ⟨am, cm, rfl, hm, hbd⟩)
  have hb1d := hb1c.call hbd
  have Hr2 : Hid (Calls Try.prog 14 #[.int .i64 5, .slice am 2 cm] wd (RIntsE wd ([1, 2, 0, 0, 0], 0))) := by
    have := rounds_any 5 am cm [⟨0, [1, 2], false⟩, ⟨1, [0, 4], true⟩] wd hm (by
      have := g_wf.rest [2]; rw [g_rest] at this; exact this)
    rw [g_rounds2] at this; exact this
  go_upto_region 14 with (go_at_call 14; go_must (refine Hr2.out.mono ?_); rintro e we ⟨ve, rfl, howne, hbe⟩; obtain ⟨ae, ce, rfl, hie⟩ := own_ints howne)
  have hb1e := hb1d.call hbe
  have Hf2 : Hid (Calls Try.prog 24 #[.int .i64 5, .slice ag 3 cg, .slice (some ⟨we.heap.size, 0, none⟩) 1 1] (we.alloc (.cells #[.int .i64 3] 3)) fun e w' => ∃ am cm, e = .returned (.tuple #[.slice am 0 cm, .int .i64 9]) ∧ Needs w' w'.heap.size am [] ∧ Below we.heap.size we w') :=
    free_lit ag cg LG [3] _ 9 we (hg.up (Nat.le_refl _) hb1e) g_wf (by decide) g_free2 _ (by rfl) 1 rfl
  go_upto_region 15 with (go_at_call 24; go_must (refine Hf2.out.mono ?_); rintro e wf ⟨af, cf, rfl, hmf, hbf⟩)
  have Hq4 : Hid (∀ W, Below we.heap.size we W → Calls Try.prog 17 #[.slice ae 5 ce, .slice (some ⟨W.heap.size, 0, none⟩) 5 5] (W.alloc (.cells #[.int .i64 1, .int .i64 2, .int .i64 0, .int .i64 0, .int .i64 0] 3)) fun e w' => e = .returned (.bool true) ∧ Below W.heap.size W w') :=
    fun W hb => same_lit ae ce [1, 2, 0, 0, 0] W (hie.up (Nat.le_refl _) hb) (by decide) _ (by rfl) 5 rfl
  go_wp2_with (go_at_call 17; go_must (refine (Hq4.out _ hbf).mono ?_); rintro e wg ⟨rfl, hbg⟩)
  go_ret
  exact ⟨rfl, ((hb1.call hb1e).call hbf).call hbg⟩
end Go.Proofs.Ytkcpblmcpgnofaa
