/- Walk: ref.Free. -/
import Derived.Test.YtkcpblmcpgnofaaF1
namespace Go.Proofs.Ytkcpblmcpgnofaa
open Go.RowKit Go.Maps

theorem rest_sub {L : List Nd} {T : List Int} {d : Nd} (h : d ∈ rest L T) : d ∈ L := (List.mem_filter.1 h).1
theorem tasks_inj {L : List Nd} (h : (L.map Nd.task).Nodup) (k j : Nat) (d e : Nd) (hd : L[k]? = some d) (he : L[j]? = some e) (hde : d.task = e.task) : k = j := by
  have h1 : (L.map Nd.task)[k]? = some d.task := by rw [List.getElem?_map, hd]; rfl
  have h2 : (L.map Nd.task)[j]? = some d.task := by rw [List.getElem?_map, he, hde]; rfl
  rcases Nat.lt_trichotomy k j with hlt | rfl | hlt
  · obtain ⟨a1, a2⟩ := List.getElem?_eq_some_iff.1 h1
    obtain ⟨b1, b2⟩ := List.getElem?_eq_some_iff.1 h2
    exact absurd (a2.trans b2.symm) ((List.pairwise_iff_getElem.1 (List.nodup_iff_pairwise_ne.1 h)) k j a1 b1 hlt)
  · rfl
  · obtain ⟨a1, a2⟩ := List.getElem?_eq_some_iff.1 h1
    obtain ⟨b1, b2⟩ := List.getElem?_eq_some_iff.1 h2
    exact absurd (b2.trans a2.symm) ((List.pairwise_iff_getElem.1 (List.nodup_iff_pairwise_ne.1 h)) j k b1 a1 hlt)
theorem Vld.rest {n : Int} {L : List Nd} (h : Vld n L) (T : List Int) : Vld n (rest L T) where
  n0 := h.n0
  n1 := h.n1
  len := by have := rest_le L T; have := h.len; omega
  task := fun d hd => h.task d (rest_sub hd)
  on := fun d hd => h.on d (rest_sub hd)
  one := tasks_inj (by
    have : ((Ytkcpblmcpgnofaa.rest L T).map Nd.task).Sublist (L.map Nd.task) := (List.filter_sublist).map _
    exact (tasks_nodup h).sublist this)

theorem rest_all {n : Int} {L : List Nd} {T : List Int} (h : Vld n L) (hT : T.Nodup) : (rest L T).length + T.length = L.length ↔ ∀ t ∈ T, ∃ d ∈ L, d.task = t := by
  have h1 : (rest L T).length + fdC T L = L.length := by
    unfold rest fdC fdTo
    rw [List.take_length]
    have := List.length_eq_countP_add_countP (fun d : Nd => hasB T d.task) (l := L)
    rw [List.countP_eq_length_filter, List.countP_eq_length_filter] at this
    have e : (L.filter (fun d => decide (¬ hasB T d.task = true))) = L.filter (fun d => !hasB T d.task) := by
      congr 1; funext d; cases hasB T d.task <;> rfl
    rw [e] at this
    omega
  have h2 := fdC_full h hT
  have h3 : fdC T L ≤ T.length := by
    have hf : fdC T L = ((L.map Nd.task).filter (hasB T)).length := by
      unfold fdC fdTo
      rw [List.take_length, List.filter_map, List.length_map]
      rfl
    rw [hf]
    have hnf : ((L.map Nd.task).filter (hasB T)).Nodup := (tasks_nodup h).filter _
    exact hnf.length_le_of_subset (fun t ht => hasB_iff.1 (List.mem_filter.1 ht).2)
  constructor
  · intro he t ht
    apply Classical.byContradiction
    intro hn
    have := h2.2 ⟨t, ht, fun d hd e => hn ⟨d, hd, e⟩⟩
    omega
  · intro hall
    have : ¬ fdC T L < T.length := by
      intro hlt
      obtain ⟨t, ht, hno⟩ := h2.1 hlt
      obtain ⟨d, hd, e⟩ := hall t ht
      exact hno d hd e
    omega

/-- A list of needs that reads, and an error. -/
def RReadN (w : World) (p : List Nd × Int) (e : Ending) (w' : World) : Prop :=
  ∃ ao cap, e = .returned (.tuple #[.slice ao p.1.length cap, .int .i64 p.2]) ∧ Needs w' w'.heap.size ao p.1 ∧ Below w.heap.size w w'

theorem needs_nil (w : World) (B : Nat) : Needs w B none [] := fun k hk => by simp at hk

set_option maxRecDepth 100000 in
set_option maxHeartbeats 3200000 in
theorem refFree_any (n : Int) (ao az : Option Addr) (cap cz : Nat) (L : List Nd) (T : List Int) (w : World) (h : Needs w w.heap.size ao L) (hT : Ints w w.heap.size az T) (hw : WfN L) (hlT : T.length ≤ 1000000) :
    Calls Try.prog 25 #[.int .i64 n, .slice ao L.length cap, .slice az T.length cz] w (RReadN w (freeE n L T)) := by
  have hl := hw.len
  have Hvalid := Lib.hid (refValid_any n ao cap L w w.heap.size h hw.len hw.on)
  have Hsort : Hid (∀ m, Calls Try.prog 34 #[.int .i64 n, .slice az T.length cz] (w.drewN m) fun e w' => e = .returned (.bool (srt n T)) ∧ Drewn (w.drewN m) w') :=
    fun m => refSorted_any n az cz T _ w.heap.size (hT.drewN m) hlT
  clear hw
  cases hv : vld n L
  · have he : freeE n L T = ([], 2) := by unfold freeE; rw [hv]; rfl
    rw [he]
    have Hv := Lib.hid hv
    clear hv he
    go_enter Try.func25, Try.ntmps25
    go_wp2_with (go_at_call 12; go_must (refine Hvalid.out.mono ?_); rw [Hv.out]; rintro e w1 ⟨rfl, m, rfl⟩)
    go_ret2
    exact ⟨none, 0, rfl, needs_nil _ _, (Below.refl _ _).dn _⟩
  cases hsr : srt n T
  · have he : freeE n L T = ([], 2) := by unfold freeE; rw [hv, hsr]; rfl
    rw [he]
    have Hv := Lib.hid hv
    have Hsr := Lib.hid hsr
    clear hv he hsr
    go_enter Try.func25, Try.ntmps25
    go_wp2_with (first
      | (go_at_call 12; go_must (refine Hvalid.out.mono ?_); rw [Hv.out]; rintro e w1 ⟨rfl, m, rfl⟩)
      | (go_at_call 34; go_must (refine (Hsort.out _).mono ?_); rw [Hsr.out]; rintro e w1 ⟨rfl, m2, rfl⟩))
    go_ret2
    exact ⟨none, 0, rfl, needs_nil _ _, (Below.refl _ _).dn _⟩
  have hV := vld_iff.1 hv
  have hnd : T.Nodup := inc_nodup (srt_inc hsr)
  have he : freeE n L T = if (rest L T).length + T.length ≠ L.length then ([], 9) else (rest L T, 0) := by unfold freeE; rw [hv, hsr]; rfl
  have he9 : ∀ t ∈ T, atI L t < 0 → freeE n L T = ([], 9) := by
    intro t ht ha
    rw [he, if_pos]
    intro hh
    obtain ⟨d, hd, e⟩ := (rest_all hV hnd).1 hh t ht
    have := atI_none ha
    rw [List.find?_eq_none] at this
    exact this d hd (by simp [isT, e])
  have he0 : (∀ t ∈ T, 0 ≤ atI L t) → freeE n L T = (rest L T, 0) := by
    intro hall
    rw [he, if_neg]
    intro hh
    refine hh ((rest_all hV hnd).2 (fun t ht => ?_))
    obtain ⟨k, d, _, hd, e, _⟩ := atI_some rfl (hall t ht)
    exact ⟨d, List.mem_of_getElem? hd, e⟩
  have He9 := Lib.hid he9
  have He0 := Lib.hid he0
  have Hat : Hid (∀ W t, Below w.heap.size w W → Calls Try.prog 33 #[.slice ao L.length cap, .int .i64 t] W fun e w' => e = .returned (.int .i64 (atI L t)) ∧ W = w') :=
    fun W t hb => at_any ao cap L t W w.heap.size (h.below hb) hl
  have Hhas : Hid (∀ W t, Below w.heap.size w W → Calls Try.prog 29 #[.slice az T.length cz, .int .i64 t] W fun e w' => e = .returned (.bool (hasB T t)) ∧ W = w') :=
    fun W t hb => has_any az cz T t W w.heap.size (hT.below hb) hlT
  have Hv := Lib.hid hv
  have Hsr := Lib.hid hsr
  clear hv hsr he he9 he0 hV hnd
  obtain ⟨i42, h40, h41, h42, h43⟩ := info_parts info42
  go_enter Try.func25, Try.ntmps25
  go_wp2_with (first
    | (go_at_call 12; go_must (refine Hvalid.out.mono ?_); rw [Hv.out]; rintro e w1 ⟨rfl, m, rfl⟩)
    | (go_at_call 34; go_must (refine (Hsort.out _).mono ?_); rw [Hsr.out]; rintro e w1 ⟨rfl, m2, rfl⟩; rw [World.drewN_drewN]))
  have hbA : Below w.heap.size w (w.drewN (m + m2)) := (Below.refl _ _).dn _
  generalize w.drewN (m + m2) = wa at hbA ⊢
  go_loop [8] (fun i => ∃ k : Nat, k ≤ T.length ∧ i = .int .i64 k ∧ Hid (∀ j t, j < k → T[j]? = some t → 0 ≤ atI L t)) (fun i => T.length - (intOf i).toNat)
  case atStart => exact ⟨0, Nat.zero_le _, rfl, fun j t hj => by omega⟩
  case round =>
    obtain ⟨k, hk, rfl, hno⟩ := hrel
    by_cases hlt : k < T.length
    · obtain ⟨b, o, t, rfl, hbB, ht, hct⟩ := (hT.below hbA).get hlt
      have Ht := Lib.hid ht
      clear ht
      by_cases hneg : atI L t < 0
      · have Hneg := Lib.hid hneg
        have Hq := Lib.hid (Hat.out wa t hbA)
        have He := Lib.hid (He9.out t (List.mem_of_getElem? Ht.out) hneg)
        generalize atI L t = q at hneg Hq
        go_wp2_with (go_at_call 33; go_must (refine Hq.out.mono ?_); rintro e w' ⟨rfl, rfl⟩)
        go_ret2
        rw [He.out]
        exact ⟨none, 0, rfl, needs_nil _ _, hbA⟩
      · have Hneg := Lib.hid hneg
        have Hq := Lib.hid (Hat.out wa t hbA)
        generalize hqe : atI L t = q at hneg Hq
        have hq0 : 0 ≤ q := by omega
        have Hqe := Lib.hid hqe
        clear hneg Hneg hqe
        go_wp2_with (go_at_call 33; go_must (refine Hq.out.mono ?_); rintro e w' ⟨rfl, rfl⟩)
        go_round
        case rel =>
          refine ⟨k + 1, by omega, by go_num, fun j z hj hz => ?_⟩
          rcases Nat.lt_succ_iff_lt_or_eq.1 hj with hj | rfl
          · exact hno j z hj hz
          · rw [Ht.out] at hz; injection hz with hz; subst hz; rw [Hqe.out]; exact hq0
        case measure => simp [intOf]; omega
    · obtain rfl : k = T.length := by omega
      have He := Lib.hid (He0.out (fun t ht => by obtain ⟨j, hj⟩ := List.mem_iff_getElem?.1 ht; exact hno j t (List.getElem?_eq_some_iff.1 hj).1 hj))
      go_wp2_with fail
      go_loopw [9, 10] (fun out i wr => ∃ (k : Nat) (cs : List Value), k ≤ L.length ∧ i = .int .i64 k ∧ wr.ownsRow w.heap.size 42 3 out (rest (L.take k) T).length cs ∧ NdCells wr w.heap.size cs (rest (L.take k) T) ∧ Below w.heap.size w wr) (fun _ i _ => L.length - (intOf i).toNat)
      case atStart => exact ⟨0, [], Nat.zero_le _, rfl, World.ownsRow_nil _ _ _ _, NdCells.nil _ _, hbA⟩
      case round =>
        obtain ⟨k, cs, hk, rfl, hown, hnd, hbel⟩ := hrel
        have hrl := rest_take_le L T k
        by_cases hlt : k < L.length
        · obtain ⟨b, o, t, on, all, ai, ci, rfl, hbB, hd, c1, c2, c3, hi⟩ := (h.below hbel).get hlt
          have Hd := Lib.hid hd
          clear hd
          by_cases ht : hasB T t = true
          · have Ht := Lib.hid ht
            clear ht
            go_wp2_with (go_at_call 29; go_must (refine (Hhas.out _ t hbel).mono ?_); rw [Ht.out]; rintro e w' ⟨rfl, rfl⟩)
            go_roundw
            case rel =>
              refine ⟨k + 1, cs, by omega, by go_num, ?_, ?_, hbel⟩
              · rw [rest_step Hd.out, if_pos Ht.out, List.append_nil]; exact hown
              · rw [rest_step Hd.out, if_pos Ht.out, List.append_nil]; exact hnd
            case measure => simp [intOf]; omega
          · have Ht := Lib.hid (show hasB T t = false by simpa using ht)
            clear ht
            have hsz := hbel.size
            have Hown := Lib.hid hown
            clear hown
            go_wp2_with (first
              | (go_at_call 29; go_must (refine (Hhas.out _ t hbel).mono ?_); rw [Ht.out]; rintro e w' ⟨rfl, rfl⟩)
              | (at_builtin; go_must (refine wpList_append_cells _ rfl (.tmp 48) (.tmp 53) 22 rfl w.heap.size 42 i42 (.agg #[.int .i64 0, .slice none 0 0, .bool false]) 3 40 Try.underlying22 h40 h41 h42 h43 rfl (by omega) u9 _ _ rfl (Hown.out.alloc _) (wr.heap.size + 1) (some ⟨wr.heap.size, 0, none⟩) 1 1 [.int .i64 t, .slice ai on.length ci, .bool all] rfl rfl (cells_new wr [.int .i64 t, .slice ai on.length ci, .bool all] 42) (by simp [Value.oneCell']) (by unfold maxLen; omega) (by omega) (by simp; omega) ?_); intro v4 w4 hown4 hg4 hat4))
            have hb4 : Below w.heap.size w w4 := (hbel.al _).grown hg4 (hbel.al _).size (fun g hg => (Hown.out.lt g hg).1)
            have hbrw : Below w.heap.size wr w4 := ((Below.refl w.heap.size wr).alloc hbel.size _).grown hg4 (Nat.le_trans hbel.size (by simp)) (fun g hg => (Hown.out.lt g hg).1)
            go_roundw
            case rel =>
              refine ⟨k + 1, cs ++ [.int .i64 t, .slice ai on.length ci, .bool all], by omega, by go_num, ?_, ?_, hb4⟩
              · rw [rest_step Hd.out, if_neg (by rw [Ht.out]; decide), List.length_append]; exact hown4
              · rw [rest_step Hd.out, if_neg (by rw [Ht.out]; decide)]; exact (hnd.below hbrw).snoc (hi.below hbrw)
            case measure => simp [intOf]; omega
        · obtain rfl : k = L.length := by omega
          rw [List.take_length] at hown hnd hrl
          obtain ⟨ar, cr, rfl, hcr⟩ := own_cells hown
          go_wp2_with fail
          go_ret2
          rw [He.out]
          exact ⟨ar, cr, rfl, (hnd.mono hbel.size).needs hcr, hbel⟩
end Go.Proofs.Ytkcpblmcpgnofaa
