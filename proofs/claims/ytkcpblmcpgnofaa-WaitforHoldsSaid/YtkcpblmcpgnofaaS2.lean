/- Walk: waitfor.solve. -/
import Derived.Test.YtkcpblmcpgnofaaM2
import Derived.Test.YtkcpblmcpgnofaaL3
import Derived.Deep.OwnRows
import Derived.Deep.LoopGhost
namespace Go.Proofs.Ytkcpblmcpgnofaa
open Go.RowKit Go.Maps

/-- What solve has made: the rounds (block N), the map of stuck tasks (N + 1), the variable that holds it (N + 2). -/
structure Sol (w wr : World) (n : Nat) (S R : List Int) (c : Nat) (D : DataW Unit) : Prop where
  rounds : wr.heap[w.heap.size]? = some (.cells (R.map (Value.int .i64)).toArray 3 (0, 0))
  len : R.length = n
  stuck : StuckAt wr (w.heap.size + 2) (w.heap.size + 1) c D
  set : SetIs D S
  below : Below w.heap.size w wr
  size : w.heap.size + 3 ≤ wr.heap.size

theorem Sol.new {w wr w' : World} {n c : Nat} {S R : List Int} {D : DataW Unit} (h : Sol w wr n S R c D) (hb : Below wr.heap.size wr w') : Sol w w' n S R c D where
  rounds := (hb.block _ (by have := h.size; omega)).trans h.rounds
  len := h.len
  stuck := h.stuck.below hb
  set := h.set
  below := h.below.call hb
  size := Nat.le_trans h.size hb.size

theorem Sol.map {w wr w' : World} {n c c' : Nat} {S R S' : List Int} {D D' : DataW Unit} (h : Sol w wr n S R c D) (hg : wr.grownBy w' (some (w.heap.size + 1))) (hm : w'.ownsMap Try.prog 3 unitElem (w.heap.size + 1) c' D') (hs : SetIs D' S') :
    Sol w w' n S' R c' D' where
  rounds := (hg.block _ (by have := h.size; omega) (by simp)).trans h.rounds
  len := h.len
  stuck := ⟨(hg.block _ (by have := h.size; omega) (by simp)).trans h.stuck.var, hm⟩
  set := hs
  below := h.below.gr hg (by omega)
  size := Nat.le_trans h.size hg.size

theorem Sol.store {w wr : World} {n c : Nat} {S R : List Int} {D : DataW Unit} (h : Sol w wr n S R c D) (m : Nat) (v : Int) : Sol w (wr.setCell ⟨w.heap.size, m, none⟩ (.int .i64 v)) n S (setAt v R m) c D where
  rounds := by
    have h1 := h.rounds
    simp only [World.setCell, Array.getElem?_modify, if_true, h1, Option.map_some]
    simp [setAt, List.map_set]
  len := by rw [length_setAt]; exact h.len
  stuck := ⟨(Below.heap_setCell _ _ _ _ (by simp)).trans h.stuck.var, h.stuck.map.setCell (by simp) _⟩
  set := h.set
  below := h.below.setCell (Nat.le_refl _) _
  size := by simpa [World.setCell] using h.size

theorem Sol.cell {w wr : World} {n c : Nat} {S R : List Int} {D : DataW Unit} (h : Sol w wr n S R c D) {m : Nat} (hm : m < n) : ∃ x, wr.cell? ⟨w.heap.size, m, none⟩ = some (.int .i64 x) := by
  refine ⟨R[m]'(by rw [h.len]; exact hm), ?_⟩
  rw [cell_of_row wr w.heap.size m _ 3 (0, 0) h.rounds]
  simp [h.len, hm]
theorem Sol.frozen {w wr : World} {n c : Nat} {S R : List Int} {D : DataW Unit} (h : Sol w wr n S R c D) (m : Nat) : wr.frozen? ⟨w.heap.size, m, none⟩ = false := by
  simp [World.frozen?, h.rounds]

theorem Sol.var {w wr : World} {n c : Nat} {S R : List Int} {D : DataW Unit} (h : Sol w wr n S R c D) : wr.cell? ⟨w.heap.size + 1 + 1, 0, none⟩ = some (.map (some (w.heap.size + 1))) := cell_of_one h.stuck.var
theorem Sol.alloc {w wr : World} {n c : Nat} {S R : List Int} {D : DataW Unit} (h : Sol w wr n S R c D) (o : Obj) : Sol w (wr.alloc o) n S R c D := h.new ((Below.refl _ _).al o)

/-- solve's two results. -/
def RSolve (w : World) (R S : List Int) (e : Ending) (w' : World) : Prop :=
  ∃ bm c D, e = .returned (.tuple #[.slice (some ⟨w.heap.size, 0, none⟩) R.length R.length, .map (some bm)]) ∧ w'.ownsRow w.heap.size 3 1 (.slice (some ⟨w.heap.size, 0, none⟩) R.length R.length) R.length (R.map (.int .i64)) ∧
    w'.ownsMap Try.prog 3 unitElem bm c D ∧ SetIs D S ∧ Below w.heap.size w w'

theorem Sol.ret {w wr : World} {n c : Nat} {S R : List Int} {D : DataW Unit} {p : List Int × List Int} (h : Sol w wr n S R c D) (hp : p = (R, S)) (hn : n ≤ 64) :
    RSolve w p.1 p.2 (.returned (.tuple #[.slice (some ⟨w.heap.size, 0, none⟩) n n, .map (some (w.heap.size + 1))])) wr := by
  subst hp
  obtain rfl := h.len
  refine ⟨w.heap.size + 1, c, D, rfl, ⟨by simp, .inr ⟨w.heap.size, R.length, _, rfl, Nat.le_refl _, h.rounds, Nat.le_refl _, by unfold maxLen; omega, by simp, by rw [Nat.mul_one]; exact List.take_of_length_le (by simp)⟩⟩, h.stuck.map, h.set, h.below⟩

theorem Sol.start (w : World) (n : Nat) (o : Obj) (ho : o = .cells #[.map (some (w.heap.size + 1))] 51 (0, 0)) (L : List Nd) :
    Sol w (((w.alloc (.cells (madeCells #[.int .i64 0] n) 3)).alloc (.map #[] 0)).alloc o) n (tasks (L.take 0)) (R0 n (L.take 0)) 0 (.map []) := by
  subst ho
  have e1 : (w.alloc (.cells (madeCells #[.int .i64 0] n) 3)).heap.size = w.heap.size + 1 := by simp
  have e2 : ((w.alloc (.cells (madeCells #[.int .i64 0] n) 3)).alloc (.map #[] 0)).heap.size = w.heap.size + 2 := by simp
  refine ⟨?_, ?_, ⟨?_, ?_⟩, SetIs.nil, (((Below.refl _ _).al _).al _).al _, by simp⟩
  · rw [Below.heap_alloc _ _ _ (by simp; omega), Below.heap_alloc _ _ _ (by simp), heap_alloc_new w]
    have : madeCells #[.int .i64 0] n = ((R0 n (L.take 0)).map (Value.int .i64)).toArray := by
      apply Array.toList_inj.1
      rw [toList_madeCells_one]
      simp [R0, tasks, setAll]
    rw [this]
  · rw [length_R0]
  · have := heap_alloc_new ((w.alloc (.cells (madeCells #[.int .i64 0] n) 3)).alloc (.map #[] 0)) (.cells #[.map (some (w.heap.size + 1))] 51 (0, 0))
    rw [e2] at this
    exact this
  · have := World.ownsMap_made (H := Unit) (w.alloc (.cells (madeCells #[.int .i64 0] n) 3)) Try.prog 3 unitElem
    rw [e1] at this
    exact this.alloc _

theorem Ints.up {w W : World} {B : Nat} {ao : Option Addr} {xs : List Int} (h : Ints w B ao xs) (hB : B ≤ w.heap.size) (hb : Below w.heap.size w W) : Ints W W.heap.size ao xs := (h.below (hb.mono hB)).mono (Nat.le_trans hB hb.size)
theorem Needs.up {w W : World} {B : Nat} {ao : Option Addr} {xs : List Nd} (h : Needs w B ao xs) (hB : B ≤ w.heap.size) (hb : Below w.heap.size w W) : Needs W W.heap.size ao xs := (h.below (hb.mono hB)).mono (Nat.le_trans hB hb.size)
theorem own_below {a b : World} {base : Nat} {e : TypeId} {size n : Nat} {v : Value} {xs : List Value} (h : a.ownsRow base e size v n xs) (hb : Below a.heap.size a b) : b.ownsRow base e size v n xs := by
  refine h.kept (row := none) ⟨hb.os, hb.tape, hb.output, hb.size, fun k hk _ => hb.block k hk⟩ ?_
  cases v.ownBlock <;> simp
theorem own_ints_at {w : World} {base n cap : Nat} {e : TypeId} {ao : Option Addr} {xs : List Int} (h : w.ownsRow base e 1 (.slice ao n cap) n (xs.map (.int .i64))) : Ints w w.heap.size ao xs := by
  obtain ⟨a2, c2, hv, hi⟩ := own_ints h
  injection hv with h1 h2 h3
  rw [h1]; exact hi
theorem new_cells {wr W : World} {cs : List Value} {e : TypeId} (hb : Below (wr.alloc (.cells cs.toArray e)).heap.size (wr.alloc (.cells cs.toArray e)) W) {i : Nat} {v : Value} (hv : cs[i]? = some v) : W.cell? ⟨wr.heap.size, i, none⟩ = some v := by
  rw [hb.cell (p := ⟨wr.heap.size, i, none⟩) (by simp)]
  simpa using hv
theorem nextOf_le (L : List Nd) (S : List Int) : (nextOf L S).length ≤ L.length := by unfold nextOf; rw [List.length_map]; exact List.length_filter_le _ _
theorem nextOf_take_le (L : List Nd) (S : List Int) (k : Nat) : (nextOf (L.take k) S).length ≤ L.length := Nat.le_trans (nextOf_le _ _) (by rw [List.length_take]; omega)

set_option maxHeartbeats 3200000 in
set_option maxRecDepth 100000 in
theorem solve_any (n : Nat) (ao : Option Addr) (cap : Nat) (L : List Nd) (w : World) (h : Needs w w.heap.size ao L) (hv : Vld n L) :
    Calls Try.prog 35 #[.int .i64 n, .slice ao L.length cap] w (RSolve w (solveL n L).1 (solveL n L).2) := by
  have hn64 : n ≤ 64 := by have := hv.n1; omega
  have hLn : L.length ≤ n := by have := hv.len; omega
  have Hv := Lib.hid hv
  clear hv
  obtain ⟨i3, h30, h31, h32, h33⟩ := info_parts info3
  have hmk := run_make_row' (P := Try.prog) 27 3 (.int .i64 0) 8 Try.underlying27 info3 rfl .i64 .i64 n (by omega) (by omega)
  have hmm := @run_makeMap Try.prog
  go_enter Try.func35, Try.ntmps35
  go_wp2_with fail
  go_step3
  go_wp2_with fail
  go_loopw [23] (fun i wr => ∃ (k : Nat) (D : DataW Unit), k ≤ L.length ∧ i = .int .i64 k ∧ Sol w wr n (tasks (L.take k)) (R0 n (L.take k)) k D) (fun i _ => L.length - (intOf i).toNat)
  case atStart => exact ⟨0, _, Nat.zero_le _, rfl, Sol.start w n _ rfl L⟩
  case round =>
    obtain ⟨k, D, hk, rfl, hsol⟩ := hrel
    by_cases hlt : k < L.length
    · obtain ⟨b, o, t, on, all, ai, ci, rfl, hbB, hd, c1, c2, c3, hi⟩ := (h.below hsol.below).get hlt
      obtain ⟨ht0, ht1⟩ := Hv.out.task _ (List.mem_of_getElem? hd)
      simp only at ht0 ht1
      obtain ⟨m, rfl⟩ := Int.eq_ofNat_of_zero_le ht0
      have hwt : Wf64 (m : Int) := WalkArith.wf_i64 (by omega)
      have Hd := Lib.hid hd
      clear hd
      have hkey := key3 hwt
      have hS1 := hsol.alloc (.cells #[.int .i64 m, .slice ai on.length ci, .bool all] 42)
      have hvar := hS1.var
      have Hx0 := Lib.hid (show (wr.alloc (.cells #[.int .i64 m, .slice ai on.length ci, .bool all] 42)).cell? ⟨wr.heap.size, 0, none⟩ = some (.int .i64 m) by simp)
      have hne0 : some wr.heap.size ≠ some (w.heap.size + 1) := by have := hsol.size; simp; omega
      have hnew : hasB (tasks (L.take k)) m = false := by
        rw [hasB_tasks]
        cases hh : hasT (L.take k) m
        · rfl
        · obtain ⟨j, e, hj, he, het⟩ := hasT_take.1 hh
          have := Hv.out.one j k e _ he Hd.out het
          omega
      have Hnew := Lib.hid hnew
      have hmn : (m : Int) < n := by omega
      clear hnew
      go_wp2_with (at_mapUpdate; go_must (refine wpList_mapUpdate_own _ rfl _ _ _ 51 rfl 3 52 law3 Try.underlying51 unitElem (w.heap.size + 1) k D rfl hS1.stuck.map (by unfold maxLen; omega) _ _ _ rfl rfl hkey (.agg []) [] unitElem_mk ?_); intro w1 hown1 hgrow1; have hS2 := hS1.map hgrow1 hown1 (hS1.set.put Hnew.out); have hx1 := hgrow1.cell Hx0.out hne0; have hf1 := hS2.frozen m; obtain ⟨x1, hc1⟩ := hS2.cell (m := m) (by omega))
      go_roundw
      case rel =>
        refine ⟨k + 1, D.put (.int .i64 m) (.agg []), by omega, by go_num, ?_⟩
        rw [tasks_take_snoc Hd.out, R0_step Hd.out]
        exact hS2.store m (-1)
      case measure => simp [RowKit.intOf]; omega
    · obtain rfl : k = L.length := by omega
      rw [List.take_length] at hsol
      have hvarf := fun o => (hsol.alloc o).var
      obtain ⟨wo, rfl⟩ : ∃ wo : World, wo = wr := ⟨_, rfl⟩
      have hS0 := hsol.alloc (.cells #[.func (.func 48) #[] #[.pointer (some ⟨w.heap.size + 1 + 1, 0, none⟩)]] 69)
      have hF0 : FreeVar (wo.alloc (.cells #[.func (.func 48) #[] #[.pointer (some ⟨w.heap.size + 1 + 1, 0, none⟩)]] 69)) wo.heap.size (w.heap.size + 1 + 1) := heap_alloc_new wo _
      have hFN : w.heap.size + 3 ≤ wo.heap.size := hsol.size
      go_wp2_with fail
      go_step3
      go_wp2_with fail
      go_loopg [12] (L.length) (fun g rnd wr2 => ∃ (round : Nat) (S R : List Int) (D : DataW Unit), rnd = .int .i64 round ∧ 1 ≤ round ∧ round + g ≤ L.length + 1 ∧ S.length ≤ g ∧ Sol w wr2 n S R L.length D ∧ FreeVar wr2 wo.heap.size (w.heap.size + 1 + 1) ∧ Hid (solveLoop L (g + 1) round S R = solveL n L))
      case atStart => exact ⟨1, _, _, D, rfl, by omega, by omega, by simp [tasks], hS0, hF0, rfl⟩
      case round =>
        obtain ⟨round, S, R, D2, rfl, hr1, hr2, hSg, hsol2, hfv2, hrest⟩ := hrel
        obtain ⟨w2, rfl⟩ : ∃ w2 : World, w2 = wr := ⟨_, rfl⟩
        go_wp2_with fail
        go_loopw [13, 42] (fun v i w3 => ∃ k : Nat, k ≤ L.length ∧ i = .int .i64 k ∧ w3.ownsRow w2.heap.size 3 1 v (nextOf (L.take k) S).length ((nextOf (L.take k) S).map (.int .i64)) ∧ Below w2.heap.size w2 w3) (fun _ i _ => L.length - (RowKit.intOf i).toNat)
        case atStart => exact ⟨0, Nat.zero_le _, rfl, World.ownsRow_nil _ _ _ _, Below.refl _ _⟩
        case round =>
          obtain ⟨k, hk, rfl, hown, hb3⟩ := hrel
          by_cases hlt : k < L.length
          · have hsol3 := hsol2.new hb3
            have hfv3 := hfv2.below hb3
            obtain ⟨b, o, t, on, all, ai, ci, rfl, hbB, hd, c1, c2, c3, hi⟩ := (h.below hsol3.below).get hlt
            obtain ⟨ht0, ht1⟩ := Hv.out.task _ (List.mem_of_getElem? hd)
            obtain ⟨hon0, hons⟩ := Hv.out.on _ (List.mem_of_getElem? hd)
            simp only at ht0 ht1 hon0 hons
            have hwt : Wf64 t := WalkArith.wf_i64 (by omega)
            have hwo : ∀ y ∈ on, Wf64 y := fun y hy => by have := srt_mem hons hy; exact WalkArith.wf_i64 (by omega)
            have hol : on.length ≤ 1000000 := by have := srt_len hons (by omega); omega
            have Hd := Lib.hid hd
            have Hwo := Lib.hid hwo
            clear hd hwo hons
            have hsA := hsol3.alloc (.cells #[.int .i64 t, .slice ai on.length ci, .bool all] 42)
            have hfA := hfv3.below ((Below.refl _ wr).al (.cells #[.int .i64 t, .slice ai on.length ci, .bool all] 42))
            have hfc := cell_of_one hfA
            have HsA := Lib.hid hsA
            have HfA := Lib.hid hfA
            have H48 : Hid (Calls Try.prog 48 #[.int .i64 t, .pointer (some ⟨w.heap.size + 1 + 1, 0, none⟩)] (wr.alloc (.cells #[.int .i64 t, .slice ai on.length ci, .bool all] 42)) fun e w' => e = .returned (.bool (!hasB S t)) ∧ Below (wr.alloc (.cells #[.int .i64 t, .slice ai on.length ci, .bool all] 42)).heap.size (wr.alloc (.cells #[.int .i64 t, .slice ai on.length ci, .bool all] 42)) w') := by
              have := free_any t _ _ _ _ _ hsA.stuck hwt
              rw [hsA.set.has] at this
              exact this
            have hxs : ∀ W, Below (wr.alloc (.cells #[.int .i64 t, .slice ai on.length ci, .bool all] 42)).heap.size (wr.alloc (.cells #[.int .i64 t, .slice ai on.length ci, .bool all] 42)) W →
                W.cell? ⟨wr.heap.size, 0, none⟩ = some (.int .i64 t) ∧ W.cell? ⟨wr.heap.size, 0 + 1, none⟩ = some (.slice ai on.length ci) ∧ W.cell? ⟨wr.heap.size, 0 + 2, none⟩ = some (.bool all) ∧ W.cell? ⟨wo.heap.size, 0, none⟩ = some (.func (.func 48) #[] #[.pointer (some ⟨w.heap.size + 1 + 1, 0, none⟩)]) := fun W hW =>
              ⟨new_cells (cs := [.int .i64 t, .slice ai on.length ci, .bool all]) hW rfl, new_cells (cs := [.int .i64 t, .slice ai on.length ci, .bool all]) hW rfl, new_cells (cs := [.int .i64 t, .slice ai on.length ci, .bool all]) hW rfl, cell_of_one (HfA.out.below hW)⟩
            have Hxs := Lib.hid hxs
            clear hsA hfA hxs
            by_cases hs : hasB S t = true
            · have Hs := Lib.hid hs
              clear hs
              have hnl := nextOf_take_le L S k
              have Hi := Lib.hid hi
              have H50a : Hid (∀ W, Below (wr.alloc (.cells #[.int .i64 t, .slice ai on.length ci, .bool all] 42)).heap.size (wr.alloc (.cells #[.int .i64 t, .slice ai on.length ci, .bool all] 42)) W → Calls Try.prog 50 #[.slice ai on.length ci, .func (.func 49) #[] #[.pointer (some ⟨wo.heap.size, 0, none⟩)]] W fun e w' => e = .returned (.bool (on.any (hasB S))) ∧ Below W.heap.size W w') := by
                intro W hW
                refine containsFunc49_any (hasB S) _ ai ci on W ?_ hol (fun y W' hy hb => ?_)
                · exact Hi.out.up hsol3.below.size (((Below.refl _ wr).al (.cells #[.int .i64 t, .slice ai on.length ci, .bool all] 42)).call hW)
                · have := held_any y _ _ _ _ _ W' ((HsA.out.stuck.below hW).below hb) ((HfA.out.below hW).below hb) (Hwo.out y hy)
                  rw [HsA.out.set.has] at this
                  exact this
              have H50b : Hid (∀ W, Below (wr.alloc (.cells #[.int .i64 t, .slice ai on.length ci, .bool all] 42)).heap.size (wr.alloc (.cells #[.int .i64 t, .slice ai on.length ci, .bool all] 42)) W → Calls Try.prog 50 #[.slice ai on.length ci, .func (.func 48) #[] #[.pointer (some ⟨w.heap.size + 1 + 1, 0, none⟩)]] W fun e w' => e = .returned (.bool (on.any (fun y => !hasB S y))) ∧ Below W.heap.size W w') := by
                intro W hW
                refine containsFunc48_any (fun y => !hasB S y) _ ai ci on W ?_ hol (fun y W' hy hb => ?_)
                · exact Hi.out.up hsol3.below.size (((Below.refl _ wr).al (.cells #[.int .i64 t, .slice ai on.length ci, .bool all] 42)).call hW)
                · have := free_any y _ _ _ _ W' ((HsA.out.stuck.below hW).below hb) (Hwo.out y hy)
                  rw [HsA.out.set.has] at this
                  exact this
              have Hown := Lib.hid hown
              clear hown hi
              cases all
              · cases hany : on.any (fun y => !hasB S y)
                · have Hany := Lib.hid hany
                  clear hany
                  go_wp2_with (first
                    | (go_at_call 48; go_must (refine H48.out.mono ?_); rw [Hs.out]; rintro e w' ⟨rfl, hb48⟩; obtain ⟨x0, x1, x2, x3⟩ := Hxs.out w' hb48)
                    | (go_at_call 50; go_must (refine (H50b.out _ hb48).mono ?_); rw [Hany.out]; rintro e w'' ⟨rfl, hb50⟩))
                  go_roundw
                  case rel =>
                    refine ⟨k + 1, by omega, by go_num, ?_, ((hb3.al _).call hb48).call hb50⟩
                    rw [nextOf_step Hd.out, show nextP S ⟨t, on, false⟩ = false by unfold nextP metS; simp only [Hs.out, Hany.out]; rfl]
                    simpa using own_below (own_below (Hown.out.alloc _) hb48) hb50
                  case measure => simp [RowKit.intOf]; omega
                · have Hany := Lib.hid hany
                  clear hany
                  go_wp2_with (first
                    | (go_at_call 48; go_must (refine H48.out.mono ?_); rw [Hs.out]; rintro e w' ⟨rfl, hb48⟩; obtain ⟨x0, x1, x2, x3⟩ := Hxs.out w' hb48)
                    | (go_at_call 50; go_must (refine (H50b.out _ hb48).mono ?_); rw [Hany.out]; rintro e w'' ⟨rfl, hb50⟩; obtain ⟨y0, y1, y2, y3⟩ := Hxs.out w'' (hb48.call hb50); have Hown2 := Lib.hid (own_below (own_below (Hown.out.alloc _) hb48) hb50); have hsz2 := (((hb3.al (.cells #[.int .i64 t, .slice ai on.length ci, .bool false] 42)).call hb48).call hb50).size)
                    | (at_builtin; go_must (refine wpList_append_cells _ rfl (.tmp 70) (.tmp 73) 27 rfl w2.heap.size 3 i3 (.int .i64 0) 1 8 Try.underlying27 h30 h31 h32 h33 rfl (by omega) u13 _ _ rfl (Hown2.out.alloc _) (w''.heap.size + 1) (some ⟨w''.heap.size, 0, none⟩) 1 1 [.int .i64 t] rfl rfl (cells_new w'' [.int .i64 t] 3) (ints_oneCell' [t]) (by unfold maxLen; omega) (by omega) (by simp; omega) ?_); intro v4 w4 hown4 hg4 hat4))
                  go_roundw
                  case rel =>
                    refine ⟨k + 1, by omega, by go_num, ?_, ((((hb3.al _).call hb48).call hb50).al _).grown hg4 ((((hb3.al _).call hb48).call hb50).al _).size (fun g hg => (Hown.out.lt g hg).1)⟩
                    rw [nextOf_step Hd.out, show nextP S ⟨t, on, false⟩ = true by unfold nextP metS; simp only [Hs.out, Hany.out]; rfl]
                    simpa using hown4
                  case measure => simp [RowKit.intOf]; omega
              · cases hany : on.any (hasB S)
                · have Hany := Lib.hid hany
                  clear hany
                  go_wp2_with (first
                    | (go_at_call 48; go_must (refine H48.out.mono ?_); rw [Hs.out]; rintro e w' ⟨rfl, hb48⟩; obtain ⟨x0, x1, x2, x3⟩ := Hxs.out w' hb48)
                    | (go_at_call 50; go_must (refine (H50a.out _ hb48).mono ?_); rw [Hany.out]; rintro e w'' ⟨rfl, hb50⟩; obtain ⟨y0, y1, y2, y3⟩ := Hxs.out w'' (hb48.call hb50); have Hown2 := Lib.hid (own_below (own_below (Hown.out.alloc _) hb48) hb50); have hsz2 := (((hb3.al (.cells #[.int .i64 t, .slice ai on.length ci, .bool true] 42)).call hb48).call hb50).size)
                    | (at_builtin; go_must (refine wpList_append_cells _ rfl (.tmp 70) (.tmp 73) 27 rfl w2.heap.size 3 i3 (.int .i64 0) 1 8 Try.underlying27 h30 h31 h32 h33 rfl (by omega) u13 _ _ rfl (Hown2.out.alloc _) (w''.heap.size + 1) (some ⟨w''.heap.size, 0, none⟩) 1 1 [.int .i64 t] rfl rfl (cells_new w'' [.int .i64 t] 3) (ints_oneCell' [t]) (by unfold maxLen; omega) (by omega) (by simp; omega) ?_); intro v4 w4 hown4 hg4 hat4))
                  go_roundw
                  case rel =>
                    refine ⟨k + 1, by omega, by go_num, ?_, ((((hb3.al _).call hb48).call hb50).al _).grown hg4 ((((hb3.al _).call hb48).call hb50).al _).size (fun g hg => (Hown.out.lt g hg).1)⟩
                    rw [nextOf_step Hd.out, show nextP S ⟨t, on, true⟩ = true by unfold nextP metS; simp only [Hs.out, Hany.out]; rfl]
                    simpa using hown4
                  case measure => simp [RowKit.intOf]; omega
                · have Hany := Lib.hid hany
                  clear hany
                  go_wp2_with (first
                    | (go_at_call 48; go_must (refine H48.out.mono ?_); rw [Hs.out]; rintro e w' ⟨rfl, hb48⟩; obtain ⟨x0, x1, x2, x3⟩ := Hxs.out w' hb48)
                    | (go_at_call 50; go_must (refine (H50a.out _ hb48).mono ?_); rw [Hany.out]; rintro e w'' ⟨rfl, hb50⟩; obtain ⟨y0, y1, y2, y3⟩ := Hxs.out w'' (hb48.call hb50)))
                  go_roundw
                  case rel =>
                    refine ⟨k + 1, by omega, by go_num, ?_, ((hb3.al _).call hb48).call hb50⟩
                    rw [nextOf_step Hd.out, show nextP S ⟨t, on, true⟩ = false by unfold nextP metS; simp only [Hs.out, Hany.out]; rfl]
                    simpa using own_below (own_below (Hown.out.alloc _) hb48) hb50
                  case measure => simp [RowKit.intOf]; omega
            · have hsf : hasB S t = false := by simpa using hs
              have Hsf := Lib.hid hsf
              clear hs hsf
              go_wp2_with (go_at_call 48; go_must (refine H48.out.mono ?_); rw [Hsf.out]; rintro e w' ⟨rfl, hb48⟩)
              go_roundw
              case rel =>
                refine ⟨k + 1, by omega, by go_num, ?_, (hb3.al _).call hb48⟩
                rw [nextOf_step Hd.out, show nextP S ⟨t, on, all⟩ = false by unfold nextP; simp [Hsf.out]]
                simpa using own_below (hown.alloc _) hb48
              case measure => simp [RowKit.intOf]; omega
          · obtain rfl : k = L.length := by omega
            rw [List.take_length] at hown
            obtain ⟨w3, rfl⟩ : ∃ w3 : World, w3 = wr := ⟨_, rfl⟩
            have hsol3 := hsol2.new hb3
            have hfv3 := hfv2.below hb3
            have hvar3 := hsol3.var
            have hnl := nextOf_le L S
            have Hmem : Hid (∀ t ∈ nextOf L S, 0 ≤ t ∧ t < n) := fun t ht => by
              obtain ⟨d, hd, rfl⟩ := nextOf_sub ht
              exact Hv.out.task d hd
            have Hrest := hrest
            clear hrest
            have Hstep : Hid ((nextOf L S).length ≠ 0 → (rem S (nextOf L S)).length < S.length) := length_rem_lt
            generalize hnx : nextOf L S = nx at hown hnl Hmem Hstep
            have Hnx := Lib.hid hnx
            clear hnx
            obtain ⟨an, cn, rfl, _⟩ := own_ints hown
            by_cases h0 : nx.length = 0
            · have hb0 : ((nx.length : Int) == 0) = true := beq_iff_eq.2 (by omega)
              have H0 := Lib.hid h0
              clear h0
              have hres : solveL n L = (R, S) := by
                rw [← Hrest.out]
                unfold solveLoop
                rw [Hnx.out, if_pos H0.out]
              have Hres := Lib.hid hres
              clear hres
              go_wp2_with fail
              go_quiet (fail)
              go_wp2_with fail
              rw [Exit.noGoto_ret]
              go_ret2
              exact Sol.ret (hsol3.new (below_drewN (Below.refl _ _) _)) Hres.out hn64
            · have hb0 : ((nx.length : Int) == 0) = false := beq_eq_false_iff_ne.2 (by omega)
              go_wp2_with fail
              go_loopw [81] (fun i w4 => ∃ (j : Nat) (D4 : DataW Unit), j ≤ nx.length ∧ i = .int .i64 j ∧ Sol w w4 n (rem S (nx.take j)) (setAll R (nx.take j) round) L.length D4 ∧ FreeVar w4 wo.heap.size (w.heap.size + 1 + 1) ∧ w4.ownsRow w2.heap.size 3 1 (.slice an nx.length cn) nx.length (nx.map (.int .i64))) (fun i _ => nx.length - (RowKit.intOf i).toNat)
              case atStart => exact ⟨0, D2, Nat.zero_le _, rfl, hsol3, hfv3, hown⟩
              case round =>
                obtain ⟨j, D4, hj, rfl, hsol4, hfv4, hown4⟩ := hrel
                by_cases hlt : j < nx.length
                · obtain ⟨bn, on_, t, hae, hbn, hx, hcx⟩ := (own_ints_at hown4).get hlt
                  have hae' := hae
                  subst hae'
                  obtain ⟨ht0, ht1⟩ := Hmem.out t (List.mem_of_getElem? hx)
                  obtain ⟨m, rfl⟩ := Int.eq_ofNat_of_zero_le ht0
                  have hkey := key3 (show Wf64 (m : Int) from WalkArith.wf_i64 (by omega))
                  have Hx := Lib.hid hx
                  clear hx hae
                  have hS5 := hsol4.store m round
                  have hvar5 := hS5.var
                  have hf4 := hsol4.frozen m
                  obtain ⟨x1, hc1⟩ := hsol4.cell (m := m) (by omega)
                  go_wp2_with (at_delete; go_must (refine wpList_delete_own _ rfl _ _ 51 3 rfl 52 law3 Try.underlying51 _ (w.heap.size + 1) L.length D4 rfl hS5.stuck.map _ _ rfl hkey ?_); intro w5 hown5 hturn5)
                  have hF5 : FreeVar w5 wo.heap.size (w.heap.size + 1 + 1) := (hturn5.grown.block wo.heap.size (by have := (Array.getElem?_eq_some_iff.1 hfv4).1; simpa [World.setCell] using this) (by simp; omega)).trans ((Below.heap_setCell _ _ _ _ (by simp; omega)).trans hfv4)
                  have hs2 := hsol2.size
                  have hO5 := (ownsRow_setCell_below hown4 (a := ⟨w.heap.size, m, none⟩) (by simp; omega) (.int .i64 round)).kept hturn5.grown (by right; simp [Value.ownBlock]; intro e; have := (hown4.lt bn rfl).1; omega)
                  go_roundw
                  case rel =>
                    refine ⟨j + 1, D4.del (.int .i64 m), by omega, by go_num, ?_, hF5, hO5⟩
                    rw [List.take_succ_eq_append_getElem hlt, (List.getElem?_eq_some_iff.1 Hx.out).2, rem_snoc, setAll_snoc]
                    exact hS5.map hturn5.grown hown5 (hS5.set.del m)
                  case measure => simp [RowKit.intOf]; omega
                · obtain rfl : j = nx.length := by omega
                  rw [List.take_length] at hsol4
                  go_wp2_with fail
                  go_roundg (gk - 1)
                  case measure =>
                    have := Hstep.out (by omega)
                    omega
                  case rel =>
                    have h1 := Hstep.out (by omega)
                    refine ⟨round + 1, rem S nx, setAll R nx round, D4, by go_num, by omega, by omega, by omega, hsol4, hfv4, ?_⟩
                    have h2 := Hrest.out
                    unfold solveLoop at h2
                    rw [Hnx.out, if_neg (by omega)] at h2
                    rw [show gk - 1 + 1 = gk by omega]
                    exact h2
end Go.Proofs.Ytkcpblmcpgnofaa
