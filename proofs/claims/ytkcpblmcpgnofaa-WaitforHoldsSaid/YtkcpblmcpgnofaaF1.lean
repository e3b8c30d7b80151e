/- Walk: waitfor.Free. -/
import Derived.Test.YtkcpblmcpgnofaaC1
import Derived.Test.YtkcpblmcpgnofaaC3
import Derived.Test.YtkcpblmcpgnofaaY2
namespace Go.Proofs.Ytkcpblmcpgnofaa
open Go.RowKit Go.Maps

/-- The needs of the tasks that are not in T. -/
def rest (L : List Nd) (T : List Int) : List Nd := L.filter (fun d => !hasB T d.task)
theorem rest_step {L : List Nd} {T : List Int} {k : Nat} {d : Nd} (hd : L[k]? = some d) : rest (L.take (k + 1)) T = rest (L.take k) T ++ (if hasB T d.task then [] else [d]) := by
  obtain ⟨hk, he⟩ := List.getElem?_eq_some_iff.1 hd
  unfold rest
  rw [List.take_succ_eq_append_getElem hk, List.filter_append, he]
  cases h : hasB T d.task <;> simp [h]
theorem rest_le (L : List Nd) (T : List Int) : (rest L T).length ≤ L.length := List.length_filter_le _ _
theorem rest_take_le (L : List Nd) (T : List Int) (k : Nat) : (rest (L.take k) T).length ≤ L.length := Nat.le_trans (rest_le _ _) (by rw [List.length_take]; omega)
def freeE (n : Int) (L : List Nd) (T : List Int) : List Nd × Int :=
  if vld n L && srt n T then (if (rest L T).length + T.length ≠ L.length then ([], 9) else (rest L T, 0)) else ([], 2)

/-- A list of needs of the call's own, the lists in them too; and an error. -/
def RNeedsE (w : World) (p : List Nd × Int) (e : Ending) (w' : World) : Prop :=
  ∃ v cs, e = .returned (.tuple #[v, .int .i64 p.2]) ∧ w'.ownsRow w.heap.size 42 3 v p.1.length cs ∧ NdOwn w' w.heap.size cs p.1 ∧ Below w.heap.size w w'

theorem NdOwn.below {w w' : World} {base : Nat} {cs : List Value} {L : List Nd} (h : NdOwn w base cs L) (hb : Below w.heap.size w w') : NdOwn w' base cs L :=
  h.keptNone ⟨hb.os, hb.tape, hb.output, hb.size, fun k hk _ => hb.block k hk⟩

set_option maxRecDepth 100000 in
set_option maxHeartbeats 3200000 in
theorem free_any24 (n : Int) (ao az : Option Addr) (cap cz : Nat) (L : List Nd) (T : List Int) (w : World) (h : Needs w w.heap.size ao L) (hT : Ints w w.heap.size az T) (hw : WfN L) (hlT : T.length ≤ 1000000) :
    Calls Try.prog 24 #[.int .i64 n, .slice ao L.length cap, .slice az T.length cz] w (RNeedsE w (freeE n L T)) := by
  have hl := hw.len
  have Hon := Lib.hid hw.on
  have Hvalid := Lib.hid (valid_any n ao cap L w h hw.task hw.len hw.on)
  have Hsort : Hid (∀ W, Below w.heap.size w W → Calls Try.prog 32 #[.int .i64 n, .slice az T.length cz] W fun e w' => e = .returned (.bool (srt n T)) ∧ W = w') :=
    fun W hb => sorted_any n az cz T _ w.heap.size (hT.below hb) hlT
  clear hw
  cases hv : vld n L
  · have he : freeE n L T = ([], 2) := by unfold freeE; rw [hv]; rfl
    rw [he]
    have Hv := Lib.hid hv
    clear hv he
    go_enter Try.func24, Try.ntmps24
    go_wp2_with (go_at_call 11; go_must (refine Hvalid.out.mono ?_); rw [Hv.out]; rintro e w1 ⟨rfl, hb1⟩)
    go_ret2
    exact ⟨_, [], rfl, World.ownsRow_nil _ _ _ _, NdOwn.nil _ _, hb1⟩
  cases hsr : srt n T
  · have he : freeE n L T = ([], 2) := by unfold freeE; rw [hv, hsr]; rfl
    rw [he]
    have Hv := Lib.hid hv
    have Hsr := Lib.hid hsr
    clear hv he hsr
    go_enter Try.func24, Try.ntmps24
    go_wp2_with (first
      | (go_at_call 11; go_must (refine Hvalid.out.mono ?_); rw [Hv.out]; rintro e w1 ⟨rfl, hb1⟩)
      | (go_at_call 32; go_must (refine (Hsort.out _ hb1).mono ?_); rw [Hsr.out]; rintro e w2 ⟨rfl, rfl⟩))
    go_ret2
    exact ⟨_, [], rfl, World.ownsRow_nil _ _ _ _, NdOwn.nil _ _, hb1⟩
  have he : freeE n L T = if (rest L T).length + T.length ≠ L.length then ([], 9) else (rest L T, 0) := by unfold freeE; rw [hv, hsr]; rfl
  have Hbs : Hid (∀ W (x : Int), Below w.heap.size w W → Calls Try.prog 39 #[.slice az T.length cz, .int .i64 x] W (RFound W (hasB T x))) :=
    fun W x hb => bsearch_any az cz T x W w.heap.size (hT.below hb) (srt_Inc hsr) hlT
  have Hv := Lib.hid hv
  have Hsr := Lib.hid hsr
  have He := Lib.hid he
  clear hv hsr he
  obtain ⟨i42, h40, h41, h42, h43⟩ := info_parts info42
  go_enter Try.func24, Try.ntmps24
  go_wp2_with (first
    | (go_at_call 11; go_must (refine Hvalid.out.mono ?_); rw [Hv.out]; rintro e w1 ⟨rfl, hb1⟩)
    | (go_at_call 32; go_must (refine (Hsort.out _ hb1).mono ?_); rw [Hsr.out]; rintro e w2 ⟨rfl, rfl⟩))
  go_loopw [8, 25] (fun out i wr => ∃ (k : Nat) (cs : List Value), k ≤ L.length ∧ i = .int .i64 k ∧ wr.ownsRow w.heap.size 42 3 out (rest (L.take k) T).length cs ∧ NdOwn wr w.heap.size cs (rest (L.take k) T) ∧ Below w.heap.size w wr) (fun _ i _ => L.length - (intOf i).toNat)
  case atStart => exact ⟨0, [], Nat.zero_le _, rfl, World.ownsRow_nil _ _ _ _, NdOwn.nil _ _, hb1⟩
  case round =>
    obtain ⟨k, cs, hk, rfl, hown, hnd, hbel⟩ := hrel
    have hrl := rest_take_le L T k
    by_cases hlt : k < L.length
    · obtain ⟨b, o, t, on, all, ai, ci, rfl, hbB, hd, c1, c2, c3, hi⟩ := (h.below hbel).get hlt
      have hol : on.length ≤ 1000000 := Hon.out _ (List.mem_of_getElem? hd)
      have Hd := Lib.hid hd
      clear hd
      by_cases ht : hasB T t = true
      · have Ht := Lib.hid ht
        clear ht
        go_wp2_with (go_at_call 39; go_must (refine (Hbs.out _ t (hbel.al _)).mono ?_); rw [Ht.out]; rintro e w' ⟨ix, rfl, rfl⟩)
        go_roundw
        case rel =>
          refine ⟨k + 1, cs, by omega, by go_num, ?_, ?_, hbel.al _⟩
          · rw [rest_step Hd.out, if_pos Ht.out, List.append_nil]; exact hown.alloc _
          · rw [rest_step Hd.out, if_pos Ht.out, List.append_nil]; exact hnd.below ((Below.refl _ _).al _)
        case measure => simp [intOf]; omega
      · have Ht := Lib.hid (show hasB T t = false by simpa using ht)
        clear ht
        go_wp2_with (go_at_call 39; go_must (refine (Hbs.out _ t (hbel.al _)).mono ?_); rw [Ht.out]; rintro e w' ⟨ix, rfl, rfl⟩)
        have hownA := hown.alloc (.cells #[.int .i64 t, .slice ai on.length ci, .bool all] 42)
        have hndA := hnd.below ((Below.refl _ _).al (.cells #[.int .i64 t, .slice ai on.length ci, .bool all] 42))
        have hbelA := hbel.al (.cells #[.int .i64 t, .slice ai on.length ci, .bool all] 42)
        have hiA : Ints (wr.alloc (.cells #[.int .i64 t, .slice ai on.length ci, .bool all] 42)) w.heap.size ai on := hi.below ((Below.refl w.heap.size wr).alloc hbel.size _)
        have x0 : (wr.alloc (.cells #[.int .i64 t, .slice ai on.length ci, .bool all] 42)).cell? ⟨wr.heap.size, 0, none⟩ = some (.int .i64 t) := by simp
        have x1 : (wr.alloc (.cells #[.int .i64 t, .slice ai on.length ci, .bool all] 42)).cell? ⟨wr.heap.size, 1, none⟩ = some (.slice ai on.length ci) := by simp
        have x2 : (wr.alloc (.cells #[.int .i64 t, .slice ai on.length ci, .bool all] 42)).cell? ⟨wr.heap.size, 2, none⟩ = some (.bool all) := by simp
        have hgsz : wr.heap.size < (wr.alloc (.cells #[.int .i64 t, .slice ai on.length ci, .bool all] 42)).heap.size := by simp
        have hgw : w.heap.size ≤ wr.heap.size := hbel.size
        have hne0 : some wr.heap.size ≠ u8.ownBlock := by intro e; have := (hown.lt _ e.symm).2; omega
        generalize wr.alloc (.cells #[.int .i64 t, .slice ai on.length ci, .bool all] 42) = wa at hownA hndA hbelA hiA x0 x1 x2 hgsz ⊢
        generalize wr.heap.size = g0 at x0 x1 x2 hgsz hgw hne0 ⊢
        clear hown hnd hbel hi c1 c2 c3
        have HownA := Lib.hid hownA
        have HndA := Lib.hid hndA
        have HbelA := Lib.hid hbelA
        have hiA' := Lib.hid hiA
        clear hownA hndA hbelA hiA
        go_region_held3 (fun w' => w'.cell? ⟨g0, 0, none⟩ = some (.int .i64 t) ∧ w'.cell? ⟨g0, 1, none⟩ = some (.slice ai on.length ci) ∧ w'.cell? ⟨g0, 2, none⟩ = some (.bool all))
          (first
            | go_keep
            | exact ⟨z0, z1, z2⟩
            | exact ⟨y0, y1, y2⟩)
          (first
            | (go_at_call 47; refine (clone_any ai ci on _ w.heap.size (by exact hiA'.out) (by exact HbelA.out.size) hol).mono ?_; rintro e w1 ⟨v1, rfl, hown1, hb1'⟩; obtain ⟨ao1, cap1, rfl, hc1⟩ := own_ints hown1; have hbE : Below wa.heap.size wa w1 := ⟨hb1'.os, hb1'.tape, hb1'.output, hb1'.size, hb1'.block⟩; have hownB := own_below HownA.out hbE; have y0 := (hbE.cell (p := ⟨g0, 0, none⟩) hgsz).trans x0; have y1 := (hbE.cell (p := ⟨g0, 1, none⟩) hgsz).trans x1; have y2 := (hbE.cell (p := ⟨g0, 2, none⟩) hgsz).trans x2; have hszA : ∀ o', w.heap.size ≤ (w1.alloc o').heap.size := fun o' => by have := HbelA.out.size; have := hbE.size; simp; omega)
            | (refine step_append_cells _ (by rfl) (.tmp 38) (.tmp 47) 22 (by rfl) w.heap.size 42 i42 (.agg #[.int .i64 0, .slice none 0 0, .bool false]) 3 40 Try.underlying22 h40 h41 h42 h43 rfl (by omega) u8 (rest (L.take k) T).length cs (by rfl) (hownB.alloc _) (w1.heap.size + 1) (some ⟨w1.heap.size, 0, none⟩) 1 1 [.int .i64 t, .slice ao1 on.length cap1, .bool all] (by rfl) (by rfl) (cells_new w1 [.int .i64 t, .slice ao1 on.length cap1, .bool all] 42) (by simp [Value.oneCell']) (by unfold maxLen; omega) (by omega) (hszA _) ?_; intro v2 w2 hown2 hg2 hat2; have hlt1 := Nat.lt_of_lt_of_le hgsz hbE.size; have z0 := hg2.cell (((Below.refl w1.heap.size w1).alloc (Nat.le_refl _) _).cell (p := ⟨g0, 0, none⟩) hlt1 ▸ y0) hne0; have z1 := hg2.cell (((Below.refl w1.heap.size w1).alloc (Nat.le_refl _) _).cell (p := ⟨g0, 1, none⟩) hlt1 ▸ y1) hne0; have z2 := hg2.cell (((Below.refl w1.heap.size w1).alloc (Nat.le_refl _) _).cell (p := ⟨g0, 2, none⟩) hlt1 ▸ y2) hne0)
            | fail)
        go_wp2
        have hownv : w1.ownsRow w.heap.size 3 1 (.slice ao1 on.length cap1) on.length (on.map (.int .i64)) := ownsRow_base_a hown1 HbelA.out.size
        have hown1' := (hownv.alloc (.cells #[.int .i64 t, .slice ao1 on.length cap1, .bool all] 42)).kept hg2 (own_ne hownv hownB (by decide))
        have hnd1 := HndA.out.below hbE
        have hnd2 := ((hnd1.below ((Below.refl _ _).al (.cells #[.int .i64 t, .slice ao1 on.length cap1, .bool all] 42))).kept (hownB.alloc _) hg2).snoc (t := t) (all := all) hown1' rfl
        have hb1w : Below w.heap.size w w1 := HbelA.out.call hbE
        have hb2w : Below w.heap.size w w2 := (hb1w.al _).grown hg2 (hb1w.al _).size (fun g hg => (HownA.out.lt g hg).1)
        go_roundw
        case rel =>
          refine ⟨k + 1, cs ++ [.int .i64 t, .slice ao1 on.length cap1, .bool all], by omega, by go_num, ?_, ?_, hb2w⟩
          · rw [rest_step Hd.out, if_neg (by rw [Ht.out]; decide), List.length_append]; exact hown2
          · rw [rest_step Hd.out, if_neg (by rw [Ht.out]; decide)]; exact hnd2
        case measure => simp [intOf]; omega
    · obtain rfl : k = L.length := by omega
      rw [List.take_length] at hown hnd hrl
      by_cases hlen : (rest L T).length + T.length ≠ L.length
      · have hb9 : (((rest L T).length : Int) + (T.length : Int) != (L.length : Int)) = true := by simp; omega
        have He9 := Lib.hid (show freeE n L T = ([], 9) by rw [He.out, if_pos hlen])
        clear hlen
        obtain ⟨ar, cr, rfl, _⟩ := own_cells hown
        go_wp2
        go_ret2
        rw [He9.out]
        exact ⟨_, [], rfl, World.ownsRow_nil _ _ _ _, NdOwn.nil _ _, hbel⟩
      · have hb9 : (((rest L T).length : Int) + (T.length : Int) != (L.length : Int)) = false := by simp; omega
        have He9 := Lib.hid (show freeE n L T = (rest L T, 0) by rw [He.out, if_neg hlen])
        clear hlen
        obtain ⟨ar, cr, rfl, _⟩ := own_cells hown
        go_wp2
        go_ret2
        rw [He9.out]
        exact ⟨_, cs, rfl, hown, hnd, hbel⟩
end Go.Proofs.Ytkcpblmcpgnofaa
