/- Walk: waitfor.Cycle. -/
import Derived.Test.YtkcpblmcpgnofaaY1
namespace Go.Proofs.Ytkcpblmcpgnofaa
open Go.RowKit Go.Maps

/-- A list of ints that reads, and an error. -/
def RReadE (w : World) (p : List Int × Int) (e : Ending) (w' : World) : Prop :=
  ∃ ao cap, e = .returned (.tuple #[.slice ao p.1.length cap, .int .i64 p.2]) ∧ Ints w' w'.heap.size ao p.1 ∧ Below w.heap.size w w'

/-- The number of elements of a slice. -/
def lenV : Value → Nat
  | .slice _ n _ => n
  | _ => 0

/-- The state of Cycle behind the call of Stuck. -/
structure CycSt (w1 wr : World) (c : Nat) (D : DataW Unit) (f : Int → Int) (v : Value) : Prop where
  var : LowVar wr w1.heap.size v
  map : wr.ownsMap Try.prog 3 (plainElem Try.prog 3) (w1.heap.size + 1) c D
  nx : NxIs D f
  below : Below w1.heap.size w1 wr
  size : w1.heap.size + 2 ≤ wr.heap.size
theorem CycSt.new {w1 wr w' : World} {c : Nat} {D : DataW Unit} {f : Int → Int} {v : Value} (h : CycSt w1 wr c D f v) (hb : Below wr.heap.size wr w') : CycSt w1 w' c D f v where
  var := h.var.below hb
  map := h.map.kept (row := none) ⟨hb.os, hb.tape, hb.output, hb.size, fun k hk _ => hb.block k hk⟩ (by simp)
  nx := h.nx
  below := h.below.call hb
  size := Nat.le_trans h.size hb.size
theorem CycSt.start (w1 : World) (v : Value) : CycSt w1 ((w1.alloc (.cells #[v] 27)).alloc (.map #[] 0)) 0 (.map []) (fun _ => 0) v where
  var := by
    unfold LowVar
    rw [Below.heap_alloc _ _ _ (by simp), heap_alloc_new w1]
  map := by
    have := World.ownsMap_made (H := Unit) (w1.alloc (.cells #[v] 27)) Try.prog 3 (plainElem Try.prog 3)
    simpa using this
  nx := NxIs.nil
  below := ((Below.refl _ _).al _).al _
  size := by simp
theorem CycSt.upd {w1 wr w' : World} {c c' : Nat} {D : DataW Unit} {f : Int → Int} {v : Value} (h : CycSt w1 wr c D f v) {t x : Int} (hg : wr.grownBy w' (some (w1.heap.size + 1)))
    (hm : w'.ownsMap Try.prog 3 (plainElem Try.prog 3) (w1.heap.size + 1) c' (D.put (.int .i64 t) (.lit (.int .i64 x)))) : CycSt w1 w' c' (D.put (.int .i64 t) (.lit (.int .i64 x))) (fun y => if y = t then x else f y) v where
  var := (hg.block _ (by have := h.size; omega) (by simp)).trans h.var
  map := hm
  nx := h.nx.put t x
  below := h.below.gr hg (by omega)
  size := Nat.le_trans h.size hg.size

theorem CycSt.grown {w1 wr w' : World} {c : Nat} {D : DataW Unit} {f : Int → Int} {v : Value} {row : Option Nat} (h : CycSt w1 wr c D f v) (hg : wr.grownBy w' row) (hr : ∀ g, row = some g → w1.heap.size + 2 ≤ g) : CycSt w1 w' c D f v where
  var := (hg.block _ (by have := h.size; omega) (by intro e; have := hr _ e.symm; omega)).trans h.var
  map := h.map.kept hg (by intro e; have := hr _ e.symm; omega)
  nx := h.nx
  below := h.below.grown hg h.below.size (fun g hg => by have := hr g hg; omega)
  size := Nat.le_trans h.size hg.size

theorem sortI_inc {S : List Int} (h : S.Nodup) : Inc (sortI S) := by
  have hp : (sortI S).Pairwise (fun x y => decide (x ≤ y) = true) := List.pairwise_mergeSort (by intro a b c; simp; omega) (by intro a b; simp; omega) S
  have hn : (sortI S).Nodup := (sortI_perm S).nodup_iff.2 h
  intro i j x y hij hx hy
  obtain ⟨hi, rfl⟩ := List.getElem?_eq_some_iff.1 hx
  obtain ⟨hj, rfl⟩ := List.getElem?_eq_some_iff.1 hy
  have h1 := (List.pairwise_iff_getElem.1 hp) i j hi hj hij
  have h2 := (List.pairwise_iff_getElem.1 (List.nodup_iff_pairwise_ne.1 hn)) i j hi hj hij
  simp at h1
  omega

theorem own_form {w : World} {base : Nat} {e : TypeId} {size : Nat} {v : Value} {n : Nat} {xs : List Value} (h : w.ownsRow base e size v n xs) (hn : 0 < n) :
    ∃ g cap, v = .slice (some ⟨g, 0, none⟩) n cap ∧ n ≤ cap ∧ cap ≤ maxLen := by
  rcases h.2 with ⟨_, h0⟩ | ⟨g, cap, cur, hv, hb, hg, hnc, hcm, _⟩
  · omega
  · exact ⟨g, cap, hv, hnc, hcm⟩

theorem Ints.drop {w : World} {B b o : Nat} {xs : List Int} (h : Ints w B (some ⟨b, o, none⟩) xs) (j : Nat) : Ints w B (some ⟨b, o + j, none⟩) (xs.drop j) := by
  intro k hk
  rw [List.length_drop] at hk
  obtain ⟨b', o', ha, hb, hc⟩ := h k (by omega)
  injection ha with ha; injection ha with e1 e2; subst e1 e2
  refine ⟨b, o + j, rfl, hb, fun i x hx => ?_⟩
  rw [List.getElem?_drop] at hx
  have := hc _ _ hx
  rw [show o + j + i = o + (j + i) by omega]; exact this
theorem Ints.take {w : World} {B : Nat} {ao : Option Addr} {xs : List Int} (h : Ints w B ao xs) (j : Nat) : Ints w B ao (xs.take j) := by
  intro k hk
  rw [List.length_take] at hk
  obtain ⟨b, o, ha, hb, hc⟩ := h k (by omega)
  refine ⟨b, o, ha, hb, fun i x hx => ?_⟩
  rw [List.getElem?_take] at hx
  split at hx
  · exact hc _ _ hx
  · cases hx
theorem idxI_ok {xs : List Int} {x : Int} (h : hasB xs x = true) : ∃ k : Nat, idxI xs x = k ∧ k < xs.length ∧ xs[k]? = some x := by
  unfold idxI
  cases hf : xs.idxOf? x with
  | none =>
    unfold List.idxOf? at hf
    rw [List.findIdx?_eq_none_iff] at hf
    have := hf x (hasB_iff.1 h)
    simp at this
  | some k =>
    unfold List.idxOf? at hf
    rw [List.findIdx?_eq_some_iff_getElem] at hf
    obtain ⟨hk, hp, _⟩ := hf
    exact ⟨k, rfl, hk, by rw [List.getElem?_eq_getElem hk]; simpa using hp⟩

theorem minI_mem {xs : List Int} (h : xs ≠ []) : minI xs ∈ xs := by
  rcases xs with _ | ⟨x, r⟩
  · exact absurd rfl h
  · show r.foldl min x ∈ x :: r
    induction r generalizing x with
    | nil => simp
    | cons y r ih =>
      rw [List.foldl_cons]
      have := ih (min x y) (by simp)
      rcases List.mem_cons.1 this with h1 | h1
      · rw [h1]
        rcases Int.le_total x y with h2 | h2
        · rw [Int.min_eq_left h2]; simp
        · rw [Int.min_eq_right h2]; simp
      · simp [h1]

theorem zero3 (w : World) : (zeroValue 3).run Try.prog w = .ok (.int .i64 0) w := by kernel_rfl

set_option maxHeartbeats 2000000 in
set_option maxRecDepth 100000 in
theorem cycle_any (n : Int) (ao : Option Addr) (cap : Nat) (L : List Nd) (w : World) (h : Needs w w.heap.size ao L) (hw : WfN L) :
    Calls Try.prog 22 #[.int .i64 n, .slice ao L.length cap] w (RReadE w (cycleE n L)) := by
  have Hstuck := Lib.hid (stuck_any n ao cap L w h hw)
  have hmm := @run_makeMap Try.prog
  cases hv : vld n L
  · have he : cycleE n L = ([], 2) := by unfold cycleE; rw [hv]; rfl
    have he2 : stuckE n L = ([], 2) := by unfold stuckE; rw [hv]; rfl
    rw [he]
    rw [he2] at Hstuck
    clear hv he he2
    go_enter Try.func22, Try.ntmps22
    go_wp2_with (go_at_call 15; go_must (refine Hstuck.out.mono ?_); rintro e w1 ⟨v, rfl, hown, hb1⟩; obtain ⟨al, cl, rfl, hlow⟩ := own_ints hown)
    go_ret2
    exact ⟨none, 0, rfl, fun k hk => by simp at hk, hb1.al _⟩
  have hV := vld_iff.1 hv
  obtain ⟨m, rfl⟩ := Int.eq_ofNat_of_zero_le hV.n0
  have hlowiff : ∀ x, x ∈ sortI (stuckS m L) ↔ x ∈ stuckS m L := fun x => (sortI_perm _).mem_iff
  have hnd : (sortI (stuckS m L)).Nodup := (sortI_perm _).nodup_iff.2 (stuckS_nodup hV)
  have he2 : stuckE m L = (sortI (stuckS m L), 0) := by unfold stuckE; rw [hv]; rfl
  have he : cycleE m L = if (sortI (stuckS m L)).length = 0 then ([], 9) else (cycL (sortI (stuckS m L)) L, 0) := by unfold cycleE; rw [hv]; rfl
  have hlen : (sortI (stuckS m L)).length ≤ 1000000 := by rw [sortI_length]; have := solveL_stuck_le m L; have := hw.len; unfold stuckS; omega
  rw [he]
  rw [he2] at Hstuck
  by_cases h0 : (sortI (stuckS m L)).length = 0
  · rw [if_pos h0]
    have h0b : (((sortI (stuckS m L)).length : Int) == 0) = true := beq_iff_eq.2 (by omega)
    generalize sortI (stuckS m L) = low at Hstuck h0 h0b
    have H0 := Lib.hid h0
    clear h0 he he2 hv hlowiff hnd
    go_enter Try.func22, Try.ntmps22
    go_wp2_with (go_at_call 15; go_must (refine Hstuck.out.mono ?_); rintro e w1 ⟨v, rfl, hown, hb1⟩; obtain ⟨al, cl, rfl, hlow⟩ := own_ints hown)
    go_ret2
    exact ⟨none, 0, rfl, fun k hk => by simp at hk, hb1.al _⟩
  rw [if_neg h0]
  have h0b : (((sortI (stuckS m L)).length : Int) == 0) = false := beq_eq_false_iff_ne.2 (by omega)
  have hclosed : ∀ t, t ∈ sortI (stuckS m L) → nxM (sortI (stuckS m L)) L t ∈ sortI (stuckS m L) := fun t ht => nxM_low hV hlowiff ht
  have hwaits : ∀ d ∈ L, d.task ∈ sortI (stuckS m L) → d.on.any (hasB (sortI (stuckS m L))) = true := by
    intro d hd ht
    rw [show hasB (sortI (stuckS m L)) = hasB (stuckS m L) from funext fun x => hasB_sortI _ _]
    exact stuckS_waits hV hd ((hlowiff _).1 ht)
  have hinc : Inc (sortI (stuckS m L)) := sortI_inc (stuckS_nodup hV)
  have hrange : ∀ x ∈ sortI (stuckS m L), 0 ≤ x ∧ x < m := fun x hx => by
    obtain ⟨d, hd, rfl⟩ := stuckS_task ((hlowiff x).1 hx); exact hV.task d hd
  generalize sortI (stuckS m L) = low at Hstuck h0 h0b hclosed hwaits hinc hrange hlen hnd ⊢
  have H0 := Lib.hid h0
  have Hclosed := Lib.hid hclosed
  have Hwaits := Lib.hid hwaits
  have Hrange := Lib.hid hrange
  have Hnd := Lib.hid hnd
  have Hinc := Lib.hid hinc
  have HV := Lib.hid hV
  have hm64 : m ≤ 64 := by have := hV.n1; omega
  have hLm : L.length ≤ m := by have := hV.len; omega
  clear h0 he he2 hv hlowiff hnd hclosed hwaits hrange hinc hV hw
  obtain ⟨i3, h30, h31, h32, h33⟩ := info_parts info3
  go_enter Try.func22, Try.ntmps22
  go_wp2_with (go_at_call 15; go_must (refine Hstuck.out.mono ?_); rintro e w1 ⟨v, rfl, hown, hb1⟩; obtain ⟨al, cl, rfl, hlow⟩ := own_ints hown)
  go_loopw [32] (fun i wr => ∃ (k : Nat) (D : DataW Unit), k ≤ L.length ∧ i = .int .i64 k ∧ CycSt w1 wr k D (nxTo low L k) (.slice al low.length cl)) (fun i _ => L.length - (RowKit.intOf i).toNat)
  case atStart => exact ⟨0, _, Nat.zero_le _, rfl, CycSt.start _ _⟩
  case round =>
    obtain ⟨k, D, hk, rfl, hst⟩ := hrel
    by_cases hlt : k < L.length
    · obtain ⟨b, o, t, on, all, ai, ci, rfl, hbB, hd, c1, c2, c3, hi⟩ := (h.below (hb1.call hst.below)).get hlt
      obtain ⟨ht0, ht1⟩ := HV.out.task _ (List.mem_of_getElem? hd)
      obtain ⟨hon0, hons⟩ := HV.out.on _ (List.mem_of_getElem? hd)
      simp only at ht0 ht1 hon0 hons
      have hwt : Wf64 t := WalkArith.wf_i64 (by omega)
      have hkey := key3 hwt
      have hol : on.length ≤ 1000000 := by have := srt_len hons (by omega); omega
      have Hd := Lib.hid hd
      have Hons := Lib.hid hons
      clear hd hons
      have hst1 := hst.new ((Below.refl _ wr).al (.cells #[.int .i64 t, .slice ai on.length ci, .bool all] 42))
      have hv1 := cell_of_one hst1.var
      have Hbs : Hid (∀ W, Below (wr.alloc (.cells #[.int .i64 t, .slice ai on.length ci, .bool all] 42)).heap.size (wr.alloc (.cells #[.int .i64 t, .slice ai on.length ci, .bool all] 42)) W → Calls Try.prog 39 #[.slice al low.length cl, .int .i64 t] W (RFound W (hasB low t))) :=
        fun W hb => bsearch_any al cl low t W w1.heap.size (hlow.below (hst1.below.trans (hb.mono hst1.below.size))) Hinc.out hlen
      have Hst1 := Lib.hid hst1
      clear hst1
      cases hs : hasB low t
      · have Hs := Lib.hid hs
        clear hs
        go_wp2_with (go_at_call 39; go_must (refine (Hbs.out _ (Below.refl _ _)).mono ?_); rw [Hs.out]; rintro e w' ⟨ix, rfl, rfl⟩)
        go_roundw
        case rel =>
          refine ⟨k + 1, D, by omega, by go_num, ?_⟩
          rw [nxTo_step Hd.out]
          unfold nxStep
          rw [if_neg (by rw [Hs.out]; decide)]
          have := Hst1.out
          exact ⟨this.var, this.map.mono (by omega), this.nx, this.below, this.size⟩
        case measure => simp [RowKit.intOf]; omega
      · have hany := Hwaits.out _ (List.mem_of_getElem? Hd.out) (hasB_iff.1 hs)
        simp only at hany
        obtain ⟨q, y, hq, hy, hyl, _⟩ := findI_ok hany
        have hql := (List.getElem?_eq_some_iff.1 hy).1
        obtain ⟨b3, o3, y', rfl, hbB3, hy', hcy⟩ := hi.get hql
        rw [hy] at hy'
        injection hy' with hy'
        subst hy'
        have hyr := Hrange.out y (hasB_iff.1 hyl)
        have hwy : Wf64 y := WalkArith.wf_i64 (by omega)
        have hplain := plainElem_int (H := Unit) Try.underlying3 hwy
        have H41 : Hid (Calls Try.prog 41 #[.slice (some ⟨b3, o3, none⟩) on.length ci, .func (.func 42) #[] #[.pointer (some ⟨w1.heap.size, 0, none⟩)]] (wr.alloc (.cells #[.int .i64 t, .slice (some ⟨b3, o3, none⟩) on.length ci, .bool all] 42)) fun e w' => e = .returned (.int .i64 q) ∧ Below (wr.alloc (.cells #[.int .i64 t, .slice (some ⟨b3, o3, none⟩) on.length ci, .bool all] 42)).heap.size (wr.alloc (.cells #[.int .i64 t, .slice (some ⟨b3, o3, none⟩) on.length ci, .bool all] 42)) w') := by
          have := indexFunc42_any (hasB low) (.pointer (some ⟨w1.heap.size, 0, none⟩)) (some ⟨b3, o3, none⟩) ci on (wr.alloc (.cells #[.int .i64 t, .slice (some ⟨b3, o3, none⟩) on.length ci, .bool all] 42)) (hi.up (hb1.call hst.below).size ((Below.refl _ wr).al _)) hol
            (fun z W _ hb => lowc_any z w1.heap.size al cl low W w1.heap.size ((Hst1.out.new hb).var) (hlow.below (Hst1.out.new hb).below) Hinc.out hlen)
          rw [hq] at this
          exact this
        have hnxv : nxVal low ⟨t, on, all⟩ = y := by
          unfold nxVal
          rw [hq]
          simp [hy]
        have hxs : ∀ W, Below (wr.alloc (.cells #[.int .i64 t, .slice (some ⟨b3, o3, none⟩) on.length ci, .bool all] 42)).heap.size (wr.alloc (.cells #[.int .i64 t, .slice (some ⟨b3, o3, none⟩) on.length ci, .bool all] 42)) W →
            W.cell? ⟨wr.heap.size, 0, none⟩ = some (.int .i64 t) ∧ W.cell? ⟨wr.heap.size, 0 + 1, none⟩ = some (.slice (some ⟨b3, o3, none⟩) on.length ci) ∧ W.cell? ⟨b3, o3 + q, none⟩ = some (.int .i64 y) := fun W hW =>
          ⟨new_cells (cs := [.int .i64 t, .slice (some ⟨b3, o3, none⟩) on.length ci, .bool all]) hW rfl, new_cells (cs := [.int .i64 t, .slice (some ⟨b3, o3, none⟩) on.length ci, .bool all]) hW rfl,
           ((((Below.refl _ wr).al _).call hW).cell (p := ⟨b3, o3 + q, none⟩) (by have := (hb1.call hst.below).size; simp only; omega)).trans hcy⟩
        have Hxs := Lib.hid hxs
        have Hnxv := Lib.hid hnxv
        have Hs := Lib.hid hs
        have hq0 : (0 : Int) ≤ (q : Int) := by omega
        have hq1 : (q : Int) < (on.length : Int) := by omega
        clear hs hany hq hy hyl hxs hnxv hcy hi
        go_wp2_with (first
          | (go_at_call 39; go_must (refine (Hbs.out _ (Below.refl _ _)).mono ?_); rw [Hs.out]; rintro e w' ⟨ix, rfl, rfl⟩)
          | (go_at_call 41; go_must (refine H41.out.mono ?_); rintro e w2 ⟨rfl, hb2⟩; obtain ⟨x0, x1, x2⟩ := Hxs.out w2 hb2; have Hst2 := Lib.hid (Hst1.out.new hb2)))
        go_still_tail 8, (by kernel_rfl)
        change wpList _ _ _ _ _ w2.drew
        have hst3 := Hst2.out.new (Below.refl _ _).drew
        obtain ⟨w3, rfl⟩ : ∃ w3 : World, w3 = w2.drew := ⟨_, rfl⟩
        go_wp2_with (at_mapUpdate; go_must (refine wpList_mapUpdate_own _ rfl _ _ _ 67 rfl 3 3 law3 Try.underlying67 (plainElem Try.prog 3) (w1.heap.size + 1) k D rfl hst3.map (by unfold maxLen; omega) _ _ _ rfl rfl hkey (.lit (.int .i64 y)) [] hplain ?_); intro w4 hown4 hgrow4)
        go_roundw
        case rel =>
          refine ⟨k + 1, D.put (.int .i64 t) (.lit (.int .i64 y)), by omega, by go_num, ?_⟩
          rw [nxTo_step Hd.out]
          unfold nxStep
          rw [if_pos Hs.out, Hnxv.out]
          exact hst3.upd hgrow4 hown4
        case measure => simp [RowKit.intOf]; omega
    · obtain rfl : k = L.length := by omega
      have hnx : nxTo low L L.length = nxM low L := rfl
      rw [hnx] at hst
      clear hnx
      obtain ⟨x0, hx0⟩ : ∃ x0, low[0]? = some x0 := ⟨_, List.getElem?_eq_getElem (by have := H0.out; omega)⟩
      have hhead : low.headD 0 = x0 := by cases low with
        | nil => simp at hx0
        | cons a r => simp at hx0; simp [hx0]
      obtain ⟨bl, ol, x0', rfl, hbl, hx0', hcl⟩ := (hlow.below hst.below).get (k := 0) (by have := H0.out; omega)
      rw [hx0] at hx0'
      injection hx0' with hx0'
      subst hx0'
      have hcl' : wr.cell? ⟨bl, ol, none⟩ = some (.int .i64 x0) := by simpa using hcl
      have hv1 := cell_of_one hst.var
      have hx0m : x0 ∈ low := List.mem_of_getElem? hx0
      have Hx0m := Lib.hid hx0m
      have Hhead := Lib.hid hhead
      clear hx0 hcl hx0m hhead
      obtain ⟨w2, rfl⟩ : ∃ w2 : World, w2 = wr := ⟨_, rfl⟩
      have hl0 : (0 : Int) < (low.length : Int) := by have := H0.out; omega
      go_wp2_with fail
      go_loopw [14, 15] (fun v i wr => ∃ (p : List Int) (t : Int) (g : Nat), i = .int .i64 t ∧ t ∈ low ∧ (∀ x ∈ p, x ∈ low) ∧ p.Nodup ∧ g + p.length = low.length + 1 ∧ Hid (pathL (nxM low L) g p t = pathL (nxM low L) (low.length + 1) [] x0) ∧
        wr.ownsRow w2.heap.size 3 1 v p.length (p.map (.int .i64)) ∧ Below w2.heap.size w2 wr) (fun v _ _ => low.length + 1 - lenV v)
      case atStart => exact ⟨[], x0, low.length + 1, rfl, Hx0m.out, by simp, List.nodup_nil, rfl, rfl, World.ownsRow_nil _ _ _ _, Below.refl _ _⟩
      case round =>
        obtain ⟨p, t, g, rfl, htl, hpl, hpn, hg, hrest, hown2, hb2⟩ := hrel
        have hple : p.length ≤ low.length := hpn.length_le_of_subset hpl
        have hst2 := hst.new hb2
        obtain ⟨ap, cp, rfl, hpi⟩ := own_ints hown2
        have Hcont := Lib.hid (contains_any ap cp p t wr wr.heap.size hpi (by omega))
        have hgs : g = (g - 1) + 1 := by omega
        rw [hgs] at hrest
        have Hown2 := Lib.hid hown2
        have Hpl := Lib.hid hpl
        have Hpn := Lib.hid hpn
        have hsz := hb2.size
        clear hown2 hpl hpn
        cases ht : hasB p t
        · have Ht := Lib.hid ht
          have htr := Hrange.out t htl
          have hwt : Wf64 t := WalkArith.wf_i64 (by omega)
          have hkey := key3 hwt
          clear ht
          go_wp2_with (first
            | (go_at_call 43; go_must (refine Hcont.out.mono ?_); rw [Ht.out]; rintro e w' ⟨rfl, rfl⟩)
            | (at_builtin; go_must (refine wpList_append_cells _ rfl (.tmp 65) (.tmp 67) 27 rfl w2.heap.size 3 i3 (.int .i64 0) 1 8 Try.underlying27 h30 h31 h32 h33 rfl (by omega) _ _ _ rfl (Hown2.out.alloc _) (wr.heap.size + 1) (some ⟨wr.heap.size, 0, none⟩) 1 1 [.int .i64 t] rfl rfl (cells_new wr [.int .i64 t] 3) (ints_oneCell' [t]) (by unfold maxLen; omega) (by omega) (by simp; omega) ?_); intro v4 w4 hown4 hg4 hat4; have hst4 := (hst2.new ((Below.refl _ _).al (.cells #[.int .i64 t] 3))).grown hg4 (fun gg hg5 => by have := (Hown2.out.lt gg hg5).1; have := hst.size; omega))
            | (at_lookup; go_must (refine wpList_lookup_own_int _ rfl _ _ 67 rfl 3 3 .i64 law3 Try.underlying67 Try.underlying3 (zero3 _) (w1.heap.size + 1) L.length D rfl hst4.map _ _ rfl hkey ?_); intro cx hat hwc))
          have hcx : cx = nxM low L t := by
            have := hst4.nx.2 t
            rw [hat] at this
            injection this with this
            injection this
          subst hcx
          go_roundw
          case rel =>
            refine ⟨p ++ [t], nxM low L t, g - 1, rfl, Hclosed.out t htl, ?_, ?_, by simp; omega, ?_, by simpa using hown4, (hb2.al _).grown hg4 (hb2.al _).size (fun gg hg5 => (Hown2.out.lt gg hg5).1)⟩
            · intro x hx
              rcases List.mem_append.1 hx with hx | hx
              · exact Hpl.out x hx
              · simp at hx; rw [hx]; exact htl
            · rw [List.nodup_append]
              refine ⟨Hpn.out, by simp, fun a ha b hb => ?_⟩
              simp at hb
              subst hb
              rintro rfl
              have := hasB_iff.2 ha
              rw [Ht.out] at this; cases this
            · have := hrest
              unfold pathL at this
              rw [if_neg (by rw [Ht.out]; decide)] at this
              exact this
          case measure =>
            obtain ⟨ao4, cap4, rfl, _⟩ := own_cells hown4
            simp only [lenV]
            omega
        · have hpath : pathL (nxM low L) (low.length + 1) [] x0 = (p, t) := by
            rw [← hrest.out]; unfold pathL; rw [if_pos ht]
          have hcyc : cycL low L = rot (tailOf p t) := by unfold cycL; rw [Hhead.out, hpath]
          clear hpath hrest
          obtain ⟨j, hj, hjl, hjt⟩ := idxI_ok ht
          obtain ⟨gp, cap5, hv5, hlc, hcm⟩ := own_form Hown2.out (by omega)
          injection hv5 with ha5 _ hc5
          subst ha5 hc5
          have hqi := hpi.drop j
          rw [Nat.zero_add] at hqi
          have htail : tailOf p t = p.drop j := by unfold tailOf; rw [hj]; rfl
          rw [htail] at hcyc
          have hql : (p.drop j).length = p.length - j := by simp
          have Hidx := Lib.hid (index_any (some ⟨gp, 0, none⟩) cp p t wr wr.heap.size hpi (by omega))
          rw [hj] at Hidx
          generalize p.drop j = q at hqi hql hcyc
          have hq0 : 0 < q.length := by omega
          have hmin : minI q ∈ q := minI_mem (by intro e; rw [e] at hq0; simp at hq0)
          obtain ⟨k, hk, hkl, _⟩ := idxI_ok (hasB_iff.2 hmin)
          have hmin1 := min_any (some ⟨gp, j, none⟩) (cp - j) q wr wr.heap.size hqi hq0 (by omega)
          have hidx2 := index_any (some ⟨gp, j, none⟩) (cp - j) q (minI q) wr wr.heap.size hqi (by omega)
          rw [hk] at hidx2
          rw [hql] at hmin1 hidx2
          have Hmin := Lib.hid hmin1
          have Hidx2 := Lib.hid hidx2
          have hrot : rot q = q.drop k ++ q.take k := by unfold rot; rw [hk]; rfl
          rw [hrot] at hcyc
          have Hcyc := Lib.hid hcyc
          have Ht := Lib.hid ht
          have Hql := Lib.hid hql
          clear ht hmin hmin1 hidx2 hrot hql hpi hcyc
          go_upto_region 20 with (first
            | (go_at_call 43; go_must (refine Hcont.out.mono ?_); rw [Ht.out]; rintro e w' ⟨rfl, rfl⟩))
          go_upto_region 21 with (go_at_call 44; go_must (refine Hidx.out.mono ?_); rintro e w' ⟨rfl, rfl⟩)
          have hNC : p.length - j ≤ cp - j := by omega
          have hkN : k < p.length - j := by have := Hql.out; omega
          have hNm : p.length - j ≤ 1000000 := by omega
          generalize p.length - j = N at Hmin Hidx2 Hql hNC hkN hNm ⊢
          generalize cp - j = C at Hmin Hidx2 hNC ⊢
          have hk1 : (k : Int) ≤ (N : Int) := by omega
          have hk2 : (N : Int) ≤ (C : Int) := by omega
          have hk3 : (k : Int) ≤ (C : Int) := by omega
          clear Hcont Hidx Hown2
          go_upto_region 22 with (first
            | (go_at_call 45; go_must (refine Hmin.out.mono ?_); rintro e w' ⟨rfl, rfl⟩)
            | (go_at_call 44; go_must (refine Hidx2.out.mono ?_); rintro e w' ⟨rfl, rfl⟩))
          go_still_tail 10, (by kernel_rfl)
          change wpList _ _ _ _ _ wr.drew
          have hA : Ints wr.drew wr.drew.heap.size (some ⟨gp, j + k, none⟩) (q.drop k) := (hqi.drop k).below (Below.refl _ _).drew
          have hB : Ints wr.drew wr.drew.heap.size (some ⟨gp, j, none⟩) (q.take k) := (hqi.take k).below (Below.refl _ _).drew
          have hlA : ((q.drop k).map (Value.int .i64)).length = N - k := by rw [List.length_map, List.length_drop, Hql.out]
          have hlB : ((q.take k).map (Value.int .i64)).length = k := by rw [List.length_map, List.length_take, Hql.out]; omega
          obtain ⟨w3, hw3⟩ : ∃ w3 : World, w3 = wr.drew := ⟨_, rfl⟩
          have hb3 : Below w2.heap.size w2 w3 := by rw [hw3]; exact hb2.drew
          rw [← hw3] at hA hB ⊢
          clear hw3
          rw [if_neg (show ¬ N = k by omega)]
          go_wp2_with (at_builtin; go_must (refine wpList_append_full w3 rfl (.tmp 87) (.tmp 90) 27 rfl 3 i3 (.int .i64 0) 8 Try.underlying27 h30 h31 h32 h33 rfl ⟨gp, j + k, none⟩ (N - k) ((q.drop k).map (Value.int .i64)) rfl hlA (by omega) hA.cells (some ⟨gp, j, none⟩) k C ((q.take k).map (Value.int .i64)) rfl hlB hB.cells (by unfold maxLen; omega) (by omega) ?_); intro ao4 cap4 w4 hc4 hb4)
          go_ret2
          refine ⟨ao4, cap4, ?_, ?_, ((hb1.call hst.below).call hb3).call hb4⟩
          · show Ending.returned (.tuple #[.slice ao4 (N - k + k) cap4, .int .i64 0]) = _
            rw [show N - k + k = (cycL low L).length by rw [Hcyc.out, List.length_append, List.length_drop, List.length_take, Hql.out]; omega]
          · rw [← List.map_append, ← Hcyc.out] at hc4
            exact hc4.ints
end Go.Proofs.Ytkcpblmcpgnofaa
