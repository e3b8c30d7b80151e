/- Walks: ref.SameNeeds, ref.met. -/
import Derived.Test.YtkcpblmcpgnofaaC1
namespace Go.Proofs.Ytkcpblmcpgnofaa
open Go.RowKit

/-- The needs are equal. -/
def eqN (L M : List Nd) : Bool := decide (L.length = M.length) && (List.range L.length).all (fun k => match L[k]?, M[k]? with
  | some d, some e => decide (d.task = e.task) && (d.all == e.all) && eqB d.on e.on
  | _, _ => false)
theorem eqN_len {L M : List Nd} (h : L.length ≠ M.length) : eqN L M = false := by unfold eqN; simp [h]
theorem eqN_miss {L M : List Nd} {k : Nat} {d e : Nd} (hd : L[k]? = some d) (he : M[k]? = some e) (h : (decide (d.task = e.task) && (d.all == e.all) && eqB d.on e.on) = false) : eqN L M = false := by
  unfold eqN
  rw [show (List.range L.length).all _ = false from ?_]
  · simp
  · rw [List.all_eq_false]; exact ⟨k, by simpa using (List.getElem?_eq_some_iff.1 hd).1, by simp only [hd, he]; rw [h]; simp⟩
theorem eqN_hit {L M : List Nd} (hl : L.length = M.length) (h : ∀ k d e, k < L.length → L[k]? = some d → M[k]? = some e → (decide (d.task = e.task) && (d.all == e.all) && eqB d.on e.on) = true) : eqN L M = true := by
  unfold eqN
  rw [show (List.range L.length).all _ = true from ?_]
  · simp [hl]
  · rw [List.all_eq_true]; intro k hk
    have hk' : k < L.length := by simpa using hk
    have h1 := List.getElem?_eq_getElem hk'
    have h2 := List.getElem?_eq_getElem (l := M) (i := k) (by omega)
    have := h k _ _ hk' h1 h2
    simp only [h1, h2]; exact this
theorem eqN_iff {L M : List Nd} : eqN L M = true ↔ L = M := by
  constructor
  · intro h
    unfold eqN at h
    simp only [Bool.and_eq_true, decide_eq_true_eq, List.all_eq_true, List.mem_range] at h
    apply List.ext_getElem? ; intro k
    by_cases hk : k < L.length
    · have h1 := List.getElem?_eq_getElem hk
      have h2 := List.getElem?_eq_getElem (l := M) (i := k) (by omega)
      have := h.2 k hk
      rw [h1, h2] at this
      simp only [Bool.and_eq_true, decide_eq_true_eq, beq_iff_eq] at this
      rw [h1, h2]
      obtain ⟨⟨h3, h4⟩, h5⟩ := this
      unfold eqB at h5
      rw [decide_eq_true_eq] at h5
      congr 1
      cases hL : L[k]; cases hM : M[k]; simp_all
    · rw [List.getElem?_eq_none (by omega), List.getElem?_eq_none (by omega)]
  · rintro rfl
    exact eqN_hit rfl (fun k d e _ hd he => by rw [hd] at he; injection he with he; subst he; simp [eqB])

set_option maxRecDepth 100000 in
set_option maxHeartbeats 3200000 in
theorem sameNeeds_any (ao ao' : Option Addr) (cap cap' : Nat) (L M : List Nd) (w : World) (B : Nat) (h : Needs w B ao L) (h' : Needs w B ao' M) (hl : L.length ≤ 1000000) (_hl' : M.length ≤ 1000000)
    (hon : ∀ d ∈ L, d.on.length ≤ 1000000) (hon' : ∀ d ∈ M, d.on.length ≤ 1000000) :
    Calls Try.prog 16 #[.slice ao L.length cap, .slice ao' M.length cap'] w fun e w' => e = .returned (.bool (eqN L M)) ∧ Drewn w w' := by
  have Hon := Lib.hid hon
  have Hon' := Lib.hid hon'
  clear hon hon'
  by_cases hne : L.length = M.length
  · have Hne := Lib.hid hne
    have hb : ((L.length : Int) != M.length) = false := by rw [hne]; simp
    have hle : L.length ≤ M.length := by omega
    have hle' : M.length ≤ L.length := by omega
    clear hne
    go_enter Try.func16, Try.ntmps16
    go_wp2
    go_loopw [5] (fun i wr => ∃ k : Nat, k ≤ L.length ∧ i = .int .i64 k ∧ Hid (∀ j d e, j < k → L[j]? = some d → M[j]? = some e → (decide (d.task = e.task) && (d.all == e.all) && eqB d.on e.on) = true) ∧ Drewn w wr) (fun i _ => L.length - (intOf i).toNat)
    case atStart => exact ⟨0, Nat.zero_le _, rfl, fun j d e hj => by omega, Drewn.refl _⟩
    case round =>
      obtain ⟨k, hk, rfl, hno, hdr⟩ := hrel
      by_cases hlt : k < L.length
      · obtain ⟨b, o, t, on, all, ai, ci, rfl, hbB, hd, c1, c2, c3, hi⟩ := (h.below hdr.below).get hlt
        obtain ⟨b', o', t', on', all', ai', ci', rfl, hbB', hd', c1', c2', c3', hi'⟩ := (h'.below hdr.below).get (k := k) (by omega)
        have hol : on.length ≤ 1000000 := Hon.out _ (List.mem_of_getElem? hd)
        have hol' : on'.length ≤ 1000000 := Hon'.out _ (List.mem_of_getElem? hd')
        have Hd := Lib.hid hd
        have Hd' := Lib.hid hd'
        clear hd hd'
        have hk0 : (0 : Int) ≤ (k : Int) := by omega
        have hk1 : (k : Int) < (L.length : Int) := by omega
        have hk2 : (k : Int) < (M.length : Int) := by omega
        by_cases ht : t = t'
        · have hbt : (t != t') = false := by rw [ht]; simp
          have Ht := Lib.hid ht
          clear ht
          by_cases ha : all = all'
          · have hba : (all != all') = false := by rw [ha]; simp
            have hbb : (all == all') = true := by rw [ha]; simp
            have Ha := Lib.hid ha
            clear ha
            have hq : ∀ n, Calls Try.prog 17 #[.slice ai on.length ci, .slice ai' on'.length ci'] (wr.drewN n) fun e w'' => e = .returned (.bool (eqB on on')) ∧ ∃ m, w'' = wr.drewN m :=
              fun n => (same_any ai ai' ci ci' on on' _ B (hi.drewN n) (hi'.drewN n) hol hol').mono (fun e w' ⟨h1, m, h2⟩ => ⟨h1, n + m, by rw [h2, World.drewN_drewN]⟩)
            have Hq := Lib.hid hq
            clear hq
            cases heq : eqB on on'
            · have Heq := Lib.hid heq
              clear heq
              go_wp2
              go_quiet ((go_at_call 17; refine (Hq.out _).mono ?_; rw [Heq.out]; exact fun _ _ h => h))
              go_wp2
              go_ret
              exact ⟨ret_bool (eqN_miss Hd.out Hd'.out (by simp [Heq.out])).symm, hdr.trans (Drewn.add _)⟩
            · have Heq := Lib.hid heq
              clear heq
              go_wp2
              go_quiet ((go_at_call 17; refine (Hq.out _).mono ?_; rw [Heq.out]; exact fun _ _ h => h))
              go_wp2
              go_roundw
              case rel =>
                refine ⟨k + 1, by omega, by go_num, fun j d e hj hd he => ?_, hdr.trans (Drewn.add _)⟩
                rcases Nat.lt_succ_iff_lt_or_eq.1 hj with hj | rfl
                · exact hno j d e hj hd he
                · rw [Hd.out] at hd; rw [Hd'.out] at he; injection hd with hd; injection he with he; subst hd he
                  simp [Heq.out, Ht.out, Ha.out]
              case measure => simp [intOf]; omega
          · have hba : (all != all') = true := by simpa using ha
            have hbb : (all == all') = false := by simpa using ha
            have Ha := Lib.hid ha
            clear ha
            go_wp2
            go_quiet (fail)
            go_wp2
            go_ret
            exact ⟨ret_bool (eqN_miss Hd.out Hd'.out (by simp [Ha.out])).symm, hdr.trans (Drewn.add _)⟩
        · have hbt : (t != t') = true := by simpa using ht
          have Ht := Lib.hid ht
          clear ht
          go_wp2
          go_quiet (fail)
          go_wp2
          go_ret
          exact ⟨ret_bool (eqN_miss Hd.out Hd'.out (by simp [Ht.out])).symm, hdr.trans (Drewn.add _)⟩
      · go_wp2
        go_ret
        exact ⟨ret_bool (eqN_hit Hne.out (fun j d e hj => hno j d e (by omega))).symm, hdr⟩
  · have hb : ((L.length : Int) != M.length) = true := by simp; omega
    have Hne := Lib.hid hne
    clear hne
    go_enter Try.func16, Try.ntmps16
    go_wp2
    go_ret
    exact ⟨ret_bool (eqN_len Hne.out).symm, Drewn.refl _⟩
end Go.Proofs.Ytkcpblmcpgnofaa
