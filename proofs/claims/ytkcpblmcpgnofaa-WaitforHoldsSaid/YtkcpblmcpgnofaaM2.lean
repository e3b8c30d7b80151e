/- Walks: the closures of solve; slices.IndexFunc and ContainsFunc at them. -/
import Derived.Test.YtkcpblmcpgnofaaM1
import Derived.Test.YtkcpblmcpgnofaaN2
import Derived.Laws.EntriesVeiled
namespace Go.Proofs.Ytkcpblmcpgnofaa
open Go.RowKit Go.Maps

/-- The variable that holds the map of stuck tasks, and the map: block bs, block bm. -/
structure StuckAt (w : World) (bs bm n : Nat) (D : DataW Unit) : Prop where
  var : w.heap[bs]? = some (.cells #[.map (some bm)] 51 (0, 0))
  map : w.ownsMap Try.prog 3 unitElem bm n D

theorem StuckAt.below {w w' : World} {bs bm n : Nat} {D : DataW Unit} (h : StuckAt w bs bm n D) (hb : Below w.heap.size w w') : StuckAt w' bs bm n D := by
  have h1 := h.map.lt
  have h2 := (Array.getElem?_eq_some_iff.1 h.var).1
  refine ⟨(hb.block bs h2).trans h.var, ?_⟩
  obtain ⟨es, clock, hm, r⟩ := h.map
  exact ⟨es, clock, (hb.block bm h1).trans hm, r⟩

set_option maxHeartbeats 400000 in
theorem free_any (y : Int) (bs bm n : Nat) (D : DataW Unit) (w : World) (h : StuckAt w bs bm n D) (hy : Wf64 y) :
    Calls Try.prog 48 #[.int .i64 y, .pointer (some ⟨bs, 0, none⟩)] w fun e w' => e = .returned (.bool (!Maps.has D (.int .i64 y))) ∧ Below w.heap.size w w' := by
  have hc := cell_of_one h.var
  have hkey := key3 hy
  go_enter Try.func48, Try.ntmps48
  go_wp2_with (at_lookup; go_must (refine wpList_lookup_own_unit _ rfl _ _ 51 rfl 3 52 law3 Try.underlying51 (zero52 _) bm n D rfl h.map _ _ rfl hkey ?_))
  go_ret
  exact ⟨rfl, (Below.refl _ _).al _⟩

/-- The variable that holds the closure 'free'. -/
def FreeVar (w : World) (bf bs : Nat) : Prop := w.heap[bf]? = some (.cells #[.func (.func 48) #[] #[.pointer (some ⟨bs, 0, none⟩)]] 69 (0, 0))
theorem FreeVar.below {w w' : World} {bf bs : Nat} (h : FreeVar w bf bs) (hb : Below w.heap.size w w') : FreeVar w' bf bs :=
  (hb.block bf (Array.getElem?_eq_some_iff.1 h).1).trans h

set_option maxHeartbeats 400000 in
theorem held_any (y : Int) (bf bs bm n : Nat) (D : DataW Unit) (w : World) (h : StuckAt w bs bm n D) (hf : FreeVar w bf bs) (hy : Wf64 y) :
    Calls Try.prog 49 #[.int .i64 y, .pointer (some ⟨bf, 0, none⟩)] w fun e w' => e = .returned (.bool (Maps.has D (.int .i64 y))) ∧ Below w.heap.size w w' := by
  have hc := cell_of_one hf
  have H := Lib.hid (free_any y bs bm n D w h hy)
  go_enter Try.func49, Try.ntmps49
  go_wp2_with (go_at_call 48; go_must (refine H.out.mono ?_); rintro e w' ⟨rfl, hb⟩)
  go_ret
  exact ⟨ret_bool (by simp), hb⟩

/-- The first index at which p holds, or -1. -/
def findI (p : Int → Bool) (xs : List Int) : Int := match xs.findIdx? p with | some k => k | none => -1
theorem findI_hit {p : Int → Bool} {xs : List Int} {k : Nat} {y : Int} (hy : xs[k]? = some y) (hp : p y = true) (hno : ∀ j z, j < k → xs[j]? = some z → p z = false) : findI p xs = k := by
  have : xs.findIdx? p = some k := by
    rw [List.findIdx?_eq_some_iff_getElem]
    obtain ⟨hk, he⟩ := List.getElem?_eq_some_iff.1 hy
    refine ⟨hk, by rw [he]; exact hp, fun j hj => ?_⟩
    have := hno j _ hj (List.getElem?_eq_getElem (by omega))
    simp [this]
  unfold findI; rw [this]
theorem findI_miss {p : Int → Bool} {xs : List Int} (hno : ∀ j z, j < xs.length → xs[j]? = some z → p z = false) : findI p xs = -1 := by
  have : xs.findIdx? p = none := by
    rw [List.findIdx?_eq_none_iff]
    intro y hy
    obtain ⟨j, hj, he⟩ := List.getElem_of_mem hy
    exact hno j y hj (by rw [List.getElem?_eq_getElem hj, he])
  unfold findI; rw [this]
theorem findI_any {p : Int → Bool} {xs : List Int} : decide (0 ≤ findI p xs) = xs.any p := by
  unfold findI
  cases h : xs.findIdx? p with
  | none =>
    rw [List.findIdx?_eq_none_iff] at h
    rw [show xs.any p = false by rw [List.any_eq_false]; intro x hx; simp [h x hx]]; decide
  | some k =>
    rw [List.findIdx?_eq_some_iff_getElem] at h
    obtain ⟨hk, hp, _⟩ := h
    rw [show xs.any p = true by rw [List.any_eq_true]; exact ⟨_, List.getElem_mem hk, hp⟩]; simp

set_option maxHeartbeats 400000 in
theorem indexFunc48_any (p : Int → Bool) (c : Value) (ao : Option Addr) (cap : Nat) (xs : List Int) (w : World) (h : Ints w w.heap.size ao xs) (hl : xs.length ≤ 1000000)
    (hf : ∀ y W, y ∈ xs → Below w.heap.size w W → Calls Try.prog 48 #[.int .i64 y, c] W fun e w' => e = .returned (.bool (p y)) ∧ Below W.heap.size W w') :
    Calls Try.prog 41 #[.slice ao xs.length cap, .func (.func 48) #[] #[c]] w fun e w' => e = .returned (.int .i64 (findI p xs)) ∧ Below w.heap.size w w' := by
  have Hf := Lib.hid hf
  clear hf
  go_enter Try.func41, Try.ntmps41
  go_wp2_with fail
  go_loopw [8] (fun i wr => ∃ k : Nat, k ≤ xs.length ∧ i = .int .i64 k ∧ Hid (∀ j y, j < k → xs[j]? = some y → p y = false) ∧ Below w.heap.size w wr) (fun i _ => xs.length - (intOf i).toNat)
  case atStart => exact ⟨0, Nat.zero_le _, rfl, fun j y hj => by omega, Below.refl _ _⟩
  case round =>
    obtain ⟨k, hk, rfl, hno, hbel⟩ := hrel
    by_cases hlt : k < xs.length
    · obtain ⟨b, o, y, rfl, hbB, hy, hc⟩ := (h.below hbel).get hlt
      have Hc := Lib.hid (Hf.out y wr (List.mem_of_getElem? hy) hbel)
      have Hy := Lib.hid hy
      clear hy
      cases hp : p y
      · have Hp := Lib.hid hp
        clear hp
        go_wp2_with (go_at_call 48; go_must (refine Hc.out.mono ?_); rw [Hp.out]; rintro e w' ⟨rfl, hb⟩)
        go_roundw
        case rel =>
          refine ⟨k + 1, by omega, by go_num, fun j z hj hz => ?_, hbel.call hb⟩
          rcases Nat.lt_succ_iff_lt_or_eq.1 hj with hj | rfl
          · exact hno j z hj hz
          · rw [Hy.out] at hz; injection hz with hz; subst hz; exact Hp.out
        case measure => simp [intOf]; omega
      · have Hp := Lib.hid hp
        clear hp
        go_wp2_with (go_at_call 48; go_must (refine Hc.out.mono ?_); rw [Hp.out]; rintro e w' ⟨rfl, hb⟩)
        go_ret
        exact ⟨ret_int (findI_hit Hy.out Hp.out hno).symm, hbel.call hb⟩
    · go_wp2_with fail
      go_ret
      exact ⟨ret_int (findI_miss (fun j y hj hy => hno j y (by omega) hy)).symm, hbel⟩

set_option maxHeartbeats 400000 in
theorem indexFunc49_any (p : Int → Bool) (c : Value) (ao : Option Addr) (cap : Nat) (xs : List Int) (w : World) (h : Ints w w.heap.size ao xs) (hl : xs.length ≤ 1000000)
    (hf : ∀ y W, y ∈ xs → Below w.heap.size w W → Calls Try.prog 49 #[.int .i64 y, c] W fun e w' => e = .returned (.bool (p y)) ∧ Below W.heap.size W w') :
    Calls Try.prog 41 #[.slice ao xs.length cap, .func (.func 49) #[] #[c]] w fun e w' => e = .returned (.int .i64 (findI p xs)) ∧ Below w.heap.size w w' := by
  have Hf := Lib.hid hf
  clear hf
  go_enter Try.func41, Try.ntmps41
  go_wp2_with fail
  go_loopw [8] (fun i wr => ∃ k : Nat, k ≤ xs.length ∧ i = .int .i64 k ∧ Hid (∀ j y, j < k → xs[j]? = some y → p y = false) ∧ Below w.heap.size w wr) (fun i _ => xs.length - (intOf i).toNat)
  case atStart => exact ⟨0, Nat.zero_le _, rfl, fun j y hj => by omega, Below.refl _ _⟩
  case round =>
    obtain ⟨k, hk, rfl, hno, hbel⟩ := hrel
    by_cases hlt : k < xs.length
    · obtain ⟨b, o, y, rfl, hbB, hy, hc⟩ := (h.below hbel).get hlt
      have Hc := Lib.hid (Hf.out y wr (List.mem_of_getElem? hy) hbel)
      have Hy := Lib.hid hy
      clear hy
      cases hp : p y
      · have Hp := Lib.hid hp
        clear hp
        go_wp2_with (go_at_call 49; go_must (refine Hc.out.mono ?_); rw [Hp.out]; rintro e w' ⟨rfl, hb⟩)
        go_roundw
        case rel =>
          refine ⟨k + 1, by omega, by go_num, fun j z hj hz => ?_, hbel.call hb⟩
          rcases Nat.lt_succ_iff_lt_or_eq.1 hj with hj | rfl
          · exact hno j z hj hz
          · rw [Hy.out] at hz; injection hz with hz; subst hz; exact Hp.out
        case measure => simp [intOf]; omega
      · have Hp := Lib.hid hp
        clear hp
        go_wp2_with (go_at_call 49; go_must (refine Hc.out.mono ?_); rw [Hp.out]; rintro e w' ⟨rfl, hb⟩)
        go_ret
        exact ⟨ret_int (findI_hit Hy.out Hp.out hno).symm, hbel.call hb⟩
    · go_wp2_with fail
      go_ret
      exact ⟨ret_int (findI_miss (fun j y hj hy => hno j y (by omega) hy)).symm, hbel⟩

set_option maxHeartbeats 400000 in
theorem indexFunc42_any (p : Int → Bool) (c : Value) (ao : Option Addr) (cap : Nat) (xs : List Int) (w : World) (h : Ints w w.heap.size ao xs) (hl : xs.length ≤ 1000000)
    (hf : ∀ y W, y ∈ xs → Below w.heap.size w W → Calls Try.prog 42 #[.int .i64 y, c] W fun e w' => e = .returned (.bool (p y)) ∧ Below W.heap.size W w') :
    Calls Try.prog 41 #[.slice ao xs.length cap, .func (.func 42) #[] #[c]] w fun e w' => e = .returned (.int .i64 (findI p xs)) ∧ Below w.heap.size w w' := by
  have Hf := Lib.hid hf
  clear hf
  go_enter Try.func41, Try.ntmps41
  go_wp2_with fail
  go_loopw [8] (fun i wr => ∃ k : Nat, k ≤ xs.length ∧ i = .int .i64 k ∧ Hid (∀ j y, j < k → xs[j]? = some y → p y = false) ∧ Below w.heap.size w wr) (fun i _ => xs.length - (intOf i).toNat)
  case atStart => exact ⟨0, Nat.zero_le _, rfl, fun j y hj => by omega, Below.refl _ _⟩
  case round =>
    obtain ⟨k, hk, rfl, hno, hbel⟩ := hrel
    by_cases hlt : k < xs.length
    · obtain ⟨b, o, y, rfl, hbB, hy, hc⟩ := (h.below hbel).get hlt
      have Hc := Lib.hid (Hf.out y wr (List.mem_of_getElem? hy) hbel)
      have Hy := Lib.hid hy
      clear hy
      cases hp : p y
      · have Hp := Lib.hid hp
        clear hp
        go_wp2_with (go_at_call 42; go_must (refine Hc.out.mono ?_); rw [Hp.out]; rintro e w' ⟨rfl, hb⟩)
        go_roundw
        case rel =>
          refine ⟨k + 1, by omega, by go_num, fun j z hj hz => ?_, hbel.call hb⟩
          rcases Nat.lt_succ_iff_lt_or_eq.1 hj with hj | rfl
          · exact hno j z hj hz
          · rw [Hy.out] at hz; injection hz with hz; subst hz; exact Hp.out
        case measure => simp [intOf]; omega
      · have Hp := Lib.hid hp
        clear hp
        go_wp2_with (go_at_call 42; go_must (refine Hc.out.mono ?_); rw [Hp.out]; rintro e w' ⟨rfl, hb⟩)
        go_ret
        exact ⟨ret_int (findI_hit Hy.out Hp.out hno).symm, hbel.call hb⟩
    · go_wp2_with fail
      go_ret
      exact ⟨ret_int (findI_miss (fun j y hj hy => hno j y (by omega) hy)).symm, hbel⟩

set_option maxHeartbeats 400000 in
theorem containsFunc48_any (p : Int → Bool) (c : Value) (ao : Option Addr) (cap : Nat) (xs : List Int) (w : World) (h : Ints w w.heap.size ao xs) (hl : xs.length ≤ 1000000)
    (hf : ∀ y W, y ∈ xs → Below w.heap.size w W → Calls Try.prog 48 #[.int .i64 y, c] W fun e w' => e = .returned (.bool (p y)) ∧ Below W.heap.size W w') :
    Calls Try.prog 50 #[.slice ao xs.length cap, .func (.func 48) #[] #[c]] w fun e w' => e = .returned (.bool (xs.any p)) ∧ Below w.heap.size w w' := by
  have H := Lib.hid (indexFunc48_any p c ao cap xs w h hl hf)
  clear hf
  go_enter Try.func50, Try.ntmps50
  go_wp2_with (go_at_call 41; go_must (refine H.out.mono ?_); rintro e w' ⟨rfl, hb⟩)
  go_ret
  exact ⟨ret_bool findI_any, hb⟩

set_option maxHeartbeats 400000 in
theorem containsFunc49_any (p : Int → Bool) (c : Value) (ao : Option Addr) (cap : Nat) (xs : List Int) (w : World) (h : Ints w w.heap.size ao xs) (hl : xs.length ≤ 1000000)
    (hf : ∀ y W, y ∈ xs → Below w.heap.size w W → Calls Try.prog 49 #[.int .i64 y, c] W fun e w' => e = .returned (.bool (p y)) ∧ Below W.heap.size W w') :
    Calls Try.prog 50 #[.slice ao xs.length cap, .func (.func 49) #[] #[c]] w fun e w' => e = .returned (.bool (xs.any p)) ∧ Below w.heap.size w w' := by
  have H := Lib.hid (indexFunc49_any p c ao cap xs w h hl hf)
  clear hf
  go_enter Try.func50, Try.ntmps50
  go_wp2_with (go_at_call 41; go_must (refine H.out.mono ?_); rintro e w' ⟨rfl, hb⟩)
  go_ret
  exact ⟨ret_bool findI_any, hb⟩

end Go.Proofs.Ytkcpblmcpgnofaa
