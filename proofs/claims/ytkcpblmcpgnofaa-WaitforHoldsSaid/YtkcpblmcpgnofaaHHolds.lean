/- For every input aqueductlaw32.WaitforHolds returns true, and each argument reads afterwards as it read before. No condition. -/
import Derived.Test.YtkcpblmcpgnofaaRows
import Derived.Test.YtkcpblmcpgnofaaOpen
import Derived.Test.YtkcpblmcpgnofaaW5
namespace Go.Proofs.Ytkcpblmcpgnofaa
open Go.ChangeShapes Go.WideShapes Go.ChangeAt Go.RowKit

theorem open_capV {H : Type} {enc : TypeId × Value → H} {w : World} {base : Nat} {v : Value} {d : DataW H} {ps : List MemPlace} (hval : Value.okWide Try.prog w .any base 22 v) (h : DataW.Trod enc Try.prog w 0 (fun _ => true) true 22 v d ps) :
    ∀ ao n cap, v = .slice ao n cap → n ≤ cap ∧ cap ≤ maxLen := by
  intro ao n cap hv
  obtain ⟨ad, len, cap', rfl⟩ := okWide_slice Try.underlying22 hval
  injection hv with e1 e2 e3
  subst e1 e2 e3
  obtain ⟨fuel, hf⟩ := h
  rcases Go.Deep.open_slice Try.underlying22 hf with ⟨h0, _⟩ | ⟨a, len', cap', m, n, D, Pl, hcs, _, hl, hm, _⟩
  · simp [Value.cells] at h0
    obtain ⟨_, h1, h2⟩ := h0
    subst h1 h2
    exact ⟨Nat.le_refl _, Nat.zero_le _⟩
  · simp [Value.cells] at hcs
    obtain ⟨_, h1, h2⟩ := hcs
    subst h1 h2
    exact ⟨hl, hm⟩

set_option maxRecDepth 100000 in
theorem waitforHolds_lifted (os : Os) (started : os.Started) (H : Type) (enc : TypeId × Value → H) :
    ReturnsInHanded {} Try.checked os 8 .any (Rows.waitforHoldsSpec.pre6 enc Try.prog Try.f8 Rows.waitforHoldsRow.domain false) (Rows.waitforHoldsSpec.post enc Try.prog Try.f8 false true false false) := by
  refine returnsInHanded_of_change (C := Try.checked) Try.own started (by kernel_rfl) Try.func8
    (ChangeSpec.witness6 (enc := enc) (C := Try.checked) false ⟨#[], #[.int .i64 0, .slice none 0 0, .slice none 0 0, .int .i64 0], []⟩ 8 (by kernel_rfl) (by kernel_rfl) (by kernel_rfl) (by kernel_rfl)) ?_
  intro W base args ds gs before hval0 hW hcnd _
  have hval : ∀ (j : Nat) t v, Try.f8.params[j]? = some t → args[j]? = some v → Value.okWide Try.prog W .any base t v := hval0
  have hW' := hW
  obtain ⟨p, q, hA0, hV, rfl, hfz, hnd⟩ := hW
  have hA : DataW.TrodAll enc Try.prog W 0 (fun _ => true) true Try.f8.params.toList args.toList ds p := hA0
  rw [Try.params8] at hA hval
  obtain ⟨v0, v1, v2, v3, d0, d1, d2, d3, p0, p1, p2, p3, rfl, rfl, rfl, h0, h1, h2, h3⟩ := trodAll_four hA
  obtain ⟨rfl, rfl⟩ := trodVars_none hV
  obtain ⟨a, rfl, rfl, rfl, wa⟩ := open_int Try.underlying3 (hval 0 3 v0 rfl rfl) h0
  obtain ⟨ao, cap, L, rfl, hn, hwf⟩ := open_needsV (hval 1 22 v1 rfl rfl) h1
  have hcp := open_capV (hval 1 22 _ rfl rfl) h1 ao L.length cap rfl
  obtain ⟨az, cz, S, rfl, hS, hlS, hwS⟩ := open_intsV (hval 2 27 v2 rfl rfl) h2
  obtain ⟨tn, rfl, rfl, rfl, wt⟩ := open_int Try.underlying3 (hval 3 3 v3 rfl rfl) h3
  clear hA0 hval0
  simp only [List.append_nil] at hW'
  have hlt : ∀ x ∈ p1, x.block < W.heap.size := fun x hx => by simpa using hW'.lt x (by simp [hx])
  have hlt2 : ∀ x ∈ p2, x.block < W.heap.size := fun x hx => by simpa using hW'.lt x (by simp [hx])
  have hlS2 : S.length ≤ 9223372036854775807 := by unfold maxLen at hlS; omega
  refine (law8_any a ao az cap cz L S tn W hn hwf hS hlS2 wt hcp.1 hcp.2).mono fun e W' ⟨he, hb⟩ => ?_
  subst he
  exact ⟨_, rfl, _, _, _, [], _, [], hW', trodAll_mk1 (shut_bool Try.underlying4 true), trodAll_mk4 (shut_int Try.underlying3 wa) (Below.trod Try.laidOut (by kernel_rfl) (of_decide_eq_true (by kernel_rfl)) h1 hb hlt) (Below.trod Try.laidOut (by kernel_rfl) (of_decide_eq_true (by kernel_rfl)) h2 hb hlt2) (shut_int Try.underlying3 wt), rfl, hb.frame _, fun h => by cases h⟩

theorem waitforHolds_holds : Rows.WaitforHoldsSaid :=
  OpenClaim.holds_of_wide 8 Try.f8 rfl rfl rfl rfl rfl rfl rfl ⟨rfl, rfl, rfl, rfl, rfl⟩ rfl rfl rfl rfl rfl (by kernel_rfl) Try.func8 (by kernel_rfl)
    (of_decide_eq_true (by kernel_rfl)) (by unfold Func.isWrapper; first | (rw [if_pos (by decide +kernel)]; kernel_rfl) | (rw [if_neg (by decide +kernel)]; exact ⟨rfl, rfl⟩))
    (fun os started H enc _ => waitforHolds_lifted os started H enc)

#print axioms waitforHolds_holds
end Go.Proofs.Ytkcpblmcpgnofaa
