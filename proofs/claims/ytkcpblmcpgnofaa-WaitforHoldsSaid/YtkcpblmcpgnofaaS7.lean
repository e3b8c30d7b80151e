/- Plain: the stuck tasks are the greatest knot; freeing; the order of the needs. -/
import Derived.Test.YtkcpblmcpgnofaaG1
namespace Go.Proofs.Ytkcpblmcpgnofaa

theorem stuckS_it2 {n : Nat} {L : List Nd} (hv : Vld n L) : stuckS n L = (it2 n L n).1 := by
  unfold stuckS; rw [solveL_it2 n L (by have := hv.len; omega)]

/-! ### a bigger set is harder -/
theorem metS_mono {S T : List Int} {d : Nd} (h : ∀ x ∈ d.on, x ∈ S → x ∈ T) (hm : metS T d = true) : metS S d = true := by
  unfold metS at hm ⊢
  split
  · rename_i ha
    rw [if_pos ha] at hm
    rw [Bool.not_eq_true', List.any_eq_false] at hm ⊢
    intro y hy hS
    exact hm y hy (hasB_iff.2 (h y hy (hasB_iff.1 hS)))
  · rename_i ha
    rw [if_neg ha] at hm
    rw [List.any_eq_true] at hm ⊢
    obtain ⟨y, hy, hT⟩ := hm
    refine ⟨y, hy, ?_⟩
    cases hS : hasB S y
    · rfl
    · rw [hasB_iff.2 (h y hy (hasB_iff.1 hS))] at hT; cases hT
theorem mem_nextOf {L : List Nd} {S : List Int} {t : Int} : t ∈ nextOf L S ↔ ∃ d ∈ L, d.task = t ∧ t ∈ S ∧ metS S d = true := by
  unfold nextOf
  rw [List.mem_map]
  constructor
  · rintro ⟨d, hd, rfl⟩
    rw [List.mem_filter] at hd
    have := hd.2
    unfold nextP at this
    rw [Bool.and_eq_true] at this
    exact ⟨d, hd.1, rfl, hasB_iff.1 this.1, this.2⟩
  · rintro ⟨d, hd, rfl, hS, hm⟩
    refine ⟨d, ?_, rfl⟩
    rw [List.mem_filter]
    refine ⟨hd, ?_⟩
    unfold nextP
    rw [hasB_iff.2 hS, hm]; rfl
theorem task_one {n : Int} {L : List Nd} (h : Vld n L) {d e : Nd} (hd : d ∈ L) (he : e ∈ L) (ht : d.task = e.task) : d = e := by
  obtain ⟨k, hk⟩ := List.mem_iff_getElem?.1 hd
  obtain ⟨j, hj⟩ := List.mem_iff_getElem?.1 he
  have := h.one k j d e hk hj ht
  subst this
  rw [hk] at hj
  injection hj

/-- Fewer needs leave fewer tasks stuck. -/
theorem it2_mono {n : Nat} {L M : List Nd} (hL : Vld n L) (hsub : ∀ d ∈ M, d ∈ L) : ∀ k, ∀ t ∈ (it2 n M k).1, t ∈ (it2 n L k).1 := by
  intro k
  induction k with
  | zero =>
    intro t ht
    show t ∈ tasks L
    have : t ∈ tasks M := ht
    unfold tasks at this ⊢
    rw [List.mem_map] at this ⊢
    obtain ⟨d, hd, e⟩ := this
    exact ⟨d, hsub d hd, e⟩
  | succ k ih =>
    intro t ht
    have ht' : t ∈ rem (it2 n M k).1 (nextOf M (it2 n M k).1) := ht
    show t ∈ rem (it2 n L k).1 (nextOf L (it2 n L k).1)
    rw [mem_rem] at ht' ⊢
    refine ⟨ih t ht'.1, fun hn => ht'.2 ?_⟩
    obtain ⟨d, hd, rfl, hS, hm⟩ := mem_nextOf.1 hn
    -- t has a need in M
    have hin : ∀ k, ∀ t ∈ (it2 n M k).1, ∃ d ∈ M, d.task = t := by
      intro k
      induction k with
      | zero =>
        intro t ht
        have : t ∈ tasks M := ht
        unfold tasks at this
        rw [List.mem_map] at this
        exact this
      | succ k ih =>
        intro t ht
        have : t ∈ rem (it2 n M k).1 (nextOf M (it2 n M k).1) := ht
        exact ih t (mem_rem.1 this).1
    obtain ⟨e, he, het⟩ := hin k _ ht'.1
    have hde := task_one hL (hsub e he) hd het
    subst hde
    exact mem_nextOf.2 ⟨e, he, rfl, ht'.1, metS_mono (fun x _ hx => ih x hx) hm⟩
theorem stuckS_mono {n : Nat} {L M : List Nd} (hL : Vld n L) (hM : Vld n M) (hsub : ∀ d ∈ M, d ∈ L) : ∀ t ∈ stuckS n M, t ∈ stuckS n L := by
  intro t ht
  rw [stuckS_it2 hM] at ht
  rw [stuckS_it2 hL]
  exact it2_mono hL hsub n t ht

/-! ### knots -/
theorem inC_pos {set on : List Int} (h : inC set on ≠ 0) : ∃ y ∈ on, y ∈ set := by
  unfold inC inTo at h
  rw [List.take_length] at h
  cases hf : on.filter (hasB set) with
  | nil => rw [hf] at h; simp at h
  | cons y r =>
    have : y ∈ on.filter (hasB set) := by rw [hf]; simp
    rw [List.mem_filter] at this
    exact ⟨y, this.1, hasB_iff.1 this.2⟩
theorem inC_pos' {set on : List Int} (h : ∃ y ∈ on, y ∈ set) : inC set on ≠ 0 := by
  obtain ⟨y, hy, hs⟩ := h
  unfold inC inTo
  rw [List.take_length]
  intro h0
  have : y ∈ on.filter (hasB set) := List.mem_filter.2 ⟨hy, hasB_iff.2 hs⟩
  rw [List.eq_nil_of_length_eq_zero h0] at this
  cases this
theorem inC_full {set on : List Int} : inC set on = on.length ↔ ∀ y ∈ on, y ∈ set := by
  unfold inC inTo
  rw [List.take_length, List.length_filter_eq_length_iff]
  exact ⟨fun h y hy => hasB_iff.1 (h y hy), fun h y hy => hasB_iff.2 (h y hy)⟩
theorem badB_iff {set : List Int} {d : Nd} : badB set d = false ↔ (∃ y ∈ d.on, y ∈ set) ∧ (d.all = false → ∀ y ∈ d.on, y ∈ set) := by
  unfold badB badC
  rw [Bool.or_eq_false_iff, decide_eq_false_iff_not, Bool.and_eq_false_iff]
  have hle := inC_le set d.on
  constructor
  · rintro ⟨h1, h2⟩
    refine ⟨inC_pos h1, fun ha => ?_⟩
    rcases h2 with h2 | h2
    · rw [ha] at h2; cases h2
    · rw [decide_eq_false_iff_not] at h2
      exact inC_full.1 (by omega)
  · rintro ⟨h1, h2⟩
    refine ⟨inC_pos' h1, ?_⟩
    cases ha : d.all
    · right
      rw [decide_eq_false_iff_not, inC_full.2 (h2 ha)]
      omega
    · left; rfl

/-- A need is not met while the set is not free, just if it does not break the knot (for needs that are not empty). -/
theorem met_bad {set : List Int} {d : Nd} (h : badB set d = false) : metS set d = false := by
  obtain ⟨h1, h2⟩ := badB_iff.1 h
  unfold metS
  split
  · rw [Bool.not_eq_false', List.any_eq_true]
    obtain ⟨y, hy, hs⟩ := h1
    exact ⟨y, hy, hasB_iff.2 hs⟩
  · rename_i ha
    rw [List.any_eq_false]
    intro y hy
    rw [hasB_iff.2 (h2 (by simpa using ha) y hy)]
    simp

theorem knot_sub {n : Nat} {L : List Nd} (hv : Vld n L) {set : List Int} (hk : knot L set = true) : ∀ t ∈ set, t ∈ stuckS n L := by
  have hk' := (knot_iff hv).1 hk
  have key : ∀ k, ∀ t ∈ set, t ∈ (it2 n L k).1 := by
    intro k
    induction k with
    | zero =>
      intro t ht
      obtain ⟨d, hd, he, _⟩ := hk' t ht
      show t ∈ tasks L
      unfold tasks
      rw [List.mem_map]
      exact ⟨d, hd, he⟩
    | succ k ih =>
      intro t ht
      show t ∈ rem (it2 n L k).1 (nextOf L (it2 n L k).1)
      rw [mem_rem]
      refine ⟨ih t ht, fun hn => ?_⟩
      obtain ⟨d, hd, rfl, _, hm⟩ := mem_nextOf.1 hn
      obtain ⟨e, he, het, hb⟩ := hk' d.task ht
      have := task_one hv he hd het
      subst this
      have h1 := metS_mono (S := set) (fun x _ hx => ih x hx) hm
      rw [met_bad hb] at h1
      cases h1
  intro t ht
  rw [stuckS_it2 hv]
  exact key n t ht

theorem stuck_srt {n : Nat} {L : List Nd} (hv : Vld n L) : srt n (sortI (stuckS n L)) = true := by
  have hinc := sortI_inc (stuckS_nodup hv)
  have hr : ∀ x ∈ sortI (stuckS n L), 0 ≤ x ∧ x < n := by
    intro x hx
    obtain ⟨d, hd, rfl⟩ := stuckS_task ((sortI_perm _).mem_iff.1 hx)
    exact hv.task d hd
  refine srt_hit (fun k hk => ?_)
  have hx := List.getElem?_eq_getElem hk
  have h1 := hr _ (List.getElem_mem hk)
  rcases k with _ | k
  · exact srtAt_zero hx h1.1 h1.2
  · have hy := List.getElem?_eq_getElem (l := sortI (stuckS n L)) (i := k) (by omega)
    exact srtAt_succ hx hy h1.1 h1.2 (hinc k (k + 1) _ _ (by omega) hy hx)

theorem stuck_knot {n : Nat} {L : List Nd} (hv : Vld n L) : chk n L (sortI (stuckS n L)) = 0 := by
  rw [chk_eq n L _ (fun h => inc_nodup (srt_inc h))]
  unfold chkR
  rw [vld_iff.2 hv, stuck_srt hv]
  simp only [Bool.and_self, if_true]
  rw [if_pos]
  rw [knot_iff hv]
  intro t ht
  have ht' := (sortI_perm _).mem_iff.1 ht
  obtain ⟨d, hd, rfl⟩ := stuckS_task ht'
  refine ⟨d, hd, rfl, ?_⟩
  rw [badB_iff]
  have hw := stuckS_waits hv hd ht'
  rw [List.any_eq_true] at hw
  obtain ⟨y, hy, hs⟩ := hw
  refine ⟨⟨y, hy, (sortI_perm _).mem_iff.2 (hasB_iff.1 hs)⟩, fun ha z hz => ?_⟩
  have hu := stuckS_unmet hd ht'
  unfold metS at hu
  rw [if_neg (by rw [ha]; decide), List.any_eq_false] at hu
  have := hu z hz
  exact (sortI_perm _).mem_iff.2 (hasB_iff.1 (by simpa using this))

/-! ### the order of the needs -/
theorem setAt_comm (v : Int) (R : List Int) (a b : Int) : setAt v (setAt v R a) b = setAt v (setAt v R b) a := by
  unfold setAt
  by_cases h : a.toNat = b.toNat
  · rw [h]
  · rw [List.set_comm _ _ h]
theorem setAll_perm {ts us : List Int} (h : ts.Perm us) : ∀ (R : List Int) (v : Int), setAll R ts v = setAll R us v := by
  induction h with
  | nil => intro R v; rfl
  | cons x _ ih => intro R v; exact ih (setAt v R x) v
  | swap x y l => intro R v; show setAll (setAt v (setAt v R y) x) l v = setAll (setAt v (setAt v R x) y) l v; rw [setAt_comm]
  | trans _ _ ih1 ih2 => intro R v; exact (ih1 R v).trans (ih2 R v)
theorem hasB_perm {S T : List Int} (h : S.Perm T) : hasB S = hasB T := by
  funext x; rw [Bool.eq_iff_iff, hasB_iff, hasB_iff]; exact h.mem_iff
theorem nextOf_perm {L M : List Nd} (h : L.Perm M) {S T : List Int} (hS : S.Perm T) : (nextOf L S).Perm (nextOf M T) := by
  have e : nextP S = nextP T := by
    funext d
    unfold nextP metS
    rw [hasB_perm hS]
  unfold nextOf
  rw [e]
  exact (h.filter _).map _
theorem rem_filter (S ts : List Int) : rem S ts = S.filter (fun y => !hasB ts y) := by
  unfold rem
  induction ts generalizing S with
  | nil =>
    simp only [List.foldl_nil]
    exact (List.filter_eq_self.2 (fun y _ => by simp [hasB])).symm
  | cons t r ih =>
    rw [List.foldl_cons, ih]
    unfold rem1
    rw [List.filter_filter]
    apply List.filter_congr
    intro y _
    rw [Bool.eq_iff_iff]
    simp [hasB]
    constructor
    · rintro ⟨h1, h2⟩; exact ⟨h2, h1⟩
    · rintro ⟨h1, h2⟩; exact ⟨h2, h1⟩
theorem rem_perm {S T ts us : List Int} (h : S.Perm T) (k : ts.Perm us) : (rem S ts).Perm (rem T us) := by
  rw [rem_filter, rem_filter, hasB_perm k]
  exact h.filter _
theorem it2_perm {n : Nat} {L M : List Nd} (h : L.Perm M) : ∀ k, (it2 n L k).1.Perm (it2 n M k).1 ∧ (it2 n L k).2 = (it2 n M k).2 := by
  intro k
  induction k with
  | zero =>
    refine ⟨h.map _, ?_⟩
    show R0 n L = R0 n M
    exact setAll_perm (h.map _) _ _
  | succ k ih =>
    have hn := nextOf_perm h ih.1
    refine ⟨rem_perm ih.1 hn, ?_⟩
    show setAll (it2 n L k).2 _ _ = setAll (it2 n M k).2 _ _
    rw [ih.2]
    exact setAll_perm hn _ _
theorem Vld.perm {n : Int} {L M : List Nd} (h : Vld n L) (hp : L.Perm M) : Vld n M where
  n0 := h.n0
  n1 := h.n1
  len := by rw [← hp.length_eq]; exact h.len
  task := fun d hd => h.task d (hp.mem_iff.2 hd)
  on := fun d hd => h.on d (hp.mem_iff.2 hd)
  one := tasks_inj ((hp.map _).nodup_iff.1 (tasks_nodup h))
theorem roundsE_perm {n : Int} {L M : List Nd} (hv : vld n L = true) (hp : L.Perm M) : roundsE n M = roundsE n L := by
  have hV := vld_iff.1 hv
  have hV2 := hV.perm hp
  unfold roundsE
  rw [hv, vld_iff.2 hV2, if_pos rfl, if_pos rfl]
  obtain ⟨m, rfl⟩ := Int.eq_ofNat_of_zero_le hV.n0
  have h1 : L.length ≤ m := by have := hV.len; omega
  have h2 : M.length ≤ m := by rw [← hp.length_eq]; exact h1
  simp only [Int.toNat_natCast]
  rw [solveL_it2 m L h1, solveL_it2 m M h2, (it2_perm hp m).2]

/-! ### freeing a cycle -/
theorem stuckS_less {n : Nat} {L : List Nd} (hv : Vld n L) {T : List Int} {c0 : Int} (hc : c0 ∈ stuckS n L) (hT : c0 ∈ T) : (stuckS n (rest L T)).length < (stuckS n L).length := by
  have hM := hv.rest T
  have hsub := stuckS_mono hv hM (fun d hd => rest_sub hd)
  have hno : c0 ∉ stuckS n (rest L T) := by
    intro h
    obtain ⟨d, hd, rfl⟩ := stuckS_task h
    have := (List.mem_filter.1 hd).2
    rw [hasB_iff.2 hT] at this
    cases this
  have hnd : (c0 :: stuckS n (rest L T)).Nodup := List.nodup_cons.2 ⟨hno, stuckS_nodup hM⟩
  have := hnd.length_le_of_subset (l₂ := stuckS n L) (by
    intro x hx
    rcases List.mem_cons.1 hx with rfl | hx
    · exact hc
    · exact hsub x hx)
  rw [List.length_cons] at this
  omega

theorem sort64_mem {c : List Int} {x : Int} (h0 : 0 ≤ x) (h1 : x < 64) (hx : x ∈ c) : x ∈ sort64To c 64 := by
  obtain ⟨m, rfl⟩ := Int.eq_ofNat_of_zero_le h0
  unfold sort64To
  rw [List.mem_filter, List.mem_map]
  exact ⟨⟨m, List.mem_range.2 (by omega), rfl⟩, hasB_iff.2 hx⟩
theorem sort64_sub {c : List Int} {x : Int} (h : x ∈ sort64To c 64) : x ∈ c := by
  unfold sort64To at h
  exact hasB_iff.1 (List.mem_filter.1 h).2
theorem sort64_srt {n : Int} {c : List Int} (h : ∀ x ∈ c, 0 ≤ x ∧ x < n) : srt n (sort64To c 64) = true := by
  have hp : (sort64To c 64).Pairwise (fun x y => x < y) := by
    unfold sort64To
    refine List.Pairwise.filter _ ?_
    rw [List.pairwise_map]
    refine List.Pairwise.imp ?_ List.pairwise_lt_range
    intro a b hab; omega
  refine srt_hit (fun k hk => ?_)
  have hx := List.getElem?_eq_getElem hk
  have h1 := h _ (sort64_sub (List.getElem_mem hk))
  rcases k with _ | k
  · exact srtAt_zero hx h1.1 h1.2
  · have hy := List.getElem?_eq_getElem (l := sort64To c 64) (i := k) (by omega)
    exact srtAt_succ hx hy h1.1 h1.2 (List.pairwise_iff_getElem.1 hp k (k + 1) (by omega) hk (by omega))
theorem free_cycle {n : Nat} {L : List Nd} (hv : Vld n L) {c : List Int} (hc : ∀ x ∈ c, x ∈ stuckS n L) : freeE n L (sort64To c 64) = (rest L (sort64To c 64), 0) := by
  have hr : ∀ x ∈ c, 0 ≤ x ∧ x < n := by
    intro x hx
    obtain ⟨d, hd, rfl⟩ := stuckS_task (hc x hx)
    exact hv.task d hd
  have hs := sort64_srt hr
  unfold freeE
  rw [vld_iff.2 hv, hs]
  simp only [Bool.and_self, if_true]
  rw [if_neg]
  intro hh
  exact hh ((rest_all hv (inc_nodup (srt_inc hs))).2 (fun t ht => stuckS_task (hc t (sort64_sub ht))))
end Go.Proofs.Ytkcpblmcpgnofaa
