/- Walks: waitfor.Valid. -/
import Derived.Test.YtkcpblmcpgnofaaN1
import Derived.Deep.DeepMust
namespace Go.Proofs.Ytkcpblmcpgnofaa
open Go.RowKit Go.Maps

/-- The set of the tasks before place k stands in its block. -/
def Seen (w wr : World) (L : List Nd) (k : Nat) : Prop :=
  wr.ownsMap Try.prog 3 unitElem w.heap.size k (tset (tasks (L.take k))) ∧ Below w.heap.size w wr

set_option maxHeartbeats 1000000 in
set_option maxRecDepth 100000 in
theorem valid_any (n : Int) (ao : Option Addr) (cap : Nat) (L : List Nd) (w : World) (h : Needs w w.heap.size ao L) (hwf : ∀ d ∈ L, Wf64 d.task) (_hl : L.length ≤ 1000000) (hon : ∀ d ∈ L, d.on.length ≤ 1000000) :
    Calls Try.prog 11 #[.int .i64 n, .slice ao L.length cap] w fun e w' => e = .returned (.bool (vld n L)) ∧ Below w.heap.size w w' := by
  have Hwf := Lib.hid hwf
  have Hon := Lib.hid hon
  clear hwf hon
  have hmm := @run_makeMap Try.prog
  by_cases h0 : n < 0
  · go_enter Try.func11, Try.ntmps11
    go_wp2
    go_ret
    exact ⟨ret_bool (vld_head (.inl h0)).symm, Below.refl _ _⟩
  by_cases h1 : 64 < n
  · go_enter Try.func11, Try.ntmps11
    go_wp2
    go_ret
    exact ⟨ret_bool (vld_head (.inr (.inl h1))).symm, Below.refl _ _⟩
  by_cases h2 : n < (L.length : Int)
  · go_enter Try.func11, Try.ntmps11
    go_wp2
    go_ret
    exact ⟨ret_bool (vld_head (.inr (.inr h2))).symm, Below.refl _ _⟩
  go_enter Try.func11, Try.ntmps11
  go_wp2
  go_loopw [25] (fun i wr => ∃ k : Nat, k ≤ L.length ∧ i = .int .i64 k ∧ Hid (∀ j, j < k → okAt n L j = true) ∧ Seen w wr L k) (fun i _ => L.length - (intOf i).toNat)
  case atStart => exact ⟨0, Nat.zero_le _, rfl, fun j hj => by omega, World.ownsMap_made _ _ _ _, (Below.refl _ _).alloc (Nat.le_refl _) _⟩
  case round =>
    obtain ⟨k, hk, rfl, hno, hown, hbel⟩ := hrel
    by_cases hlt : k < L.length
    · obtain ⟨b, o, t, on, all, ai, ci, rfl, hbB, hd, c1, c2, c3, hi⟩ := (h.below hbel).get hlt
      have hwt : Wf64 t := Hwf.out _ (List.mem_of_getElem? hd)
      have hol : on.length ≤ 1000000 := Hon.out _ (List.mem_of_getElem? hd)
      have Hd := Lib.hid hd
      clear hd
      have hkey := key3 hwt
      by_cases hs : hasT (L.take k) t = true
      · have hhas : Maps.has (tset (tasks (L.take k))) (.int .i64 t) = true := by rw [has_tset, hasB_tasks, hs]
        clear hs
        go_wp2_with (at_lookup; go_must (refine wpList_lookup_own_unit _ rfl _ _ 51 rfl 3 52 law3 Try.underlying51 (zero52 _) w.heap.size k _ rfl (hown.alloc _) _ _ rfl hkey ?_))
        go_ret
        exact ⟨ret_bool (vld_miss hlt (by rw [okAt_eq Hd.out, ← hasB_tasks, ← has_tset, hhas]; rfl)).symm, (hbel.al _).al _⟩
      have hsf : hasT (L.take k) t = false := by simpa using hs
      have hhas : Maps.has (tset (tasks (L.take k))) (.int .i64 t) = false := by rw [has_tset, hasB_tasks, hsf]
      have Hsf := Lib.hid hsf
      clear hs hsf
      by_cases ht0 : t < 0
      · go_wp2_with (at_lookup; go_must (refine wpList_lookup_own_unit _ rfl _ _ 51 rfl 3 52 law3 Try.underlying51 (zero52 _) w.heap.size k _ rfl (hown.alloc _) _ _ rfl hkey ?_))
        go_ret
        exact ⟨ret_bool (vld_miss hlt (by rw [okAt_eq Hd.out]; simp; omega)).symm, (hbel.al _).al _⟩
      by_cases ht1 : n ≤ t
      · go_wp2_with (at_lookup; go_must (refine wpList_lookup_own_unit _ rfl _ _ 51 rfl 3 52 law3 Try.underlying51 (zero52 _) w.heap.size k _ rfl (hown.alloc _) _ _ rfl hkey ?_))
        go_ret
        exact ⟨ret_bool (vld_miss hlt (by rw [okAt_eq Hd.out]; simp; omega)).symm, (hbel.al _).al _⟩
      by_cases hn0 : on.length = 0
      · have hb0 : ((on.length : Int) == 0) = true := beq_iff_eq.2 (by omega)
        have Hn0 := Lib.hid hn0
        clear hn0
        go_wp2_with (at_lookup; go_must (refine wpList_lookup_own_unit _ rfl _ _ 51 rfl 3 52 law3 Try.underlying51 (zero52 _) w.heap.size k _ rfl (hown.alloc _) _ _ rfl hkey ?_))
        go_ret
        exact ⟨ret_bool (vld_miss hlt (by rw [okAt_eq Hd.out]; simp [Hn0.out])).symm, (hbel.al _).al _⟩
      have hb0 : ((on.length : Int) == 0) = false := beq_eq_false_iff_ne.2 (by omega)
      have hsorted : ∀ o1 o2, Calls Try.prog 32 #[.int .i64 n, .slice ai on.length ci] ((wr.alloc o1).alloc o2) fun e w' => e = .returned (.bool (srt n on)) ∧ (wr.alloc o1).alloc o2 = w' :=
        fun o1 o2 => sorted_any n ai ci on _ w.heap.size (hi.below (((Below.refl _ wr).alloc hbel.size _).alloc (by have := hbel.size; simp; omega) _)) hol
      have Hsorted := Lib.hid hsorted
      clear hsorted
      by_cases hsr : srt n on = true
      · have Hsr := Lib.hid hsr
        clear hsr
        go_wp2_with (first
          | (at_lookup; go_must (refine wpList_lookup_own_unit _ rfl _ _ 51 rfl 3 52 law3 Try.underlying51 (zero52 _) w.heap.size k _ rfl (hown.alloc _) _ _ rfl hkey ?_))
          | (go_at_call 32; go_must (refine (Hsorted.out _ _).mono ?_); rintro e w' ⟨rfl, rfl⟩; rw [Hsr.out])
          | (at_mapUpdate; go_must (refine wpList_mapUpdate_own _ rfl _ _ _ 51 rfl 3 52 law3 Try.underlying51 unitElem w.heap.size k _ rfl ((hown.alloc _).alloc _) (by unfold maxLen; omega) _ _ _ rfl rfl hkey (.agg []) [] unitElem_mk ?_); intro w1 hown1 hgrow1))
        go_roundw
        case rel =>
          refine ⟨k + 1, by omega, by go_num, fun j hj => ?_, ?_, ((hbel.al _).al _).gr hgrow1 (Nat.le_refl _)⟩
          · rcases Nat.lt_succ_iff_lt_or_eq.1 hj with hj | rfl
            · exact hno j hj
            · rw [okAt_eq Hd.out, Hsf.out, Hsr.out]; simp; omega
          · rw [tasks_take_snoc Hd.out, tset_snoc]; exact hown1
        case measure => simp [intOf]; omega
      · have hsrf : srt n on = false := by simpa using hsr
        have Hsrf := Lib.hid hsrf
        clear hsr hsrf
        go_wp2_with (first
          | (at_lookup; go_must (refine wpList_lookup_own_unit _ rfl _ _ 51 rfl 3 52 law3 Try.underlying51 (zero52 _) w.heap.size k _ rfl (hown.alloc _) _ _ rfl hkey ?_))
          | (go_at_call 32; go_must (refine (Hsorted.out _ _).mono ?_); rintro e w' ⟨rfl, rfl⟩; rw [Hsrf.out]))
        go_ret
        exact ⟨ret_bool (vld_miss hlt (by rw [okAt_eq Hd.out]; simp [Hsrf.out])).symm, (hbel.al _).al _⟩
    · go_wp2
      go_ret
      exact ⟨ret_bool (vld_hit (by omega) (by omega) (by omega) (fun j hj => hno j (by omega))).symm, hbel⟩
end Go.Proofs.Ytkcpblmcpgnofaa
