/- For all inputs the law FnExactOpenLeads answers true, and no call of it panics. -/
import Derived.Test.YtknphliohoklfaaRows
import Derived.Test.YtknphliohoklfaaQO4
namespace Go.Proofs.Ytknphliohoklfaa.fnExactOpenLeads
open Go.ChangeShapes Go.WideShapes Go.ChangeAt Go.RowKit Opens
open Go.ChangeMaps (open_string shut_string)
open Go.Proofs.YtknphliohoklfaaW.PrintWords
set_option linter.unusedVariables false
theorem own : ownKnob Try.prog.godebug = none := by kernel_rfl
theorem laidOut : laidOutB Try.prog = true := by kernel_rfl
set_option maxRecDepth 100000 in
theorem lifted (os : Os) (started : os.Started) (H : Type) (enc : TypeId × Value → H) :
    ReturnsInHanded {} Try.checked os 4 .any (Rows.fnExactOpenLeadsSpec.pre6 enc Try.prog Try.f4 Rows.fnExactOpenLeadsRow.domain false) (Rows.fnExactOpenLeadsSpec.post enc Try.prog Try.f4 false true false false) := by
  refine returnsInHanded_of_change_sized (C := Try.checked) own started (by kernel_rfl) Try.func4
    (ChangeSpec.witness6 (enc := enc) (C := Try.checked) false ⟨#[], #[.agg #[.slice none 0 0, .slice none 0 0, .slice none 0 0, .int .i64 0, .int .i64 0]], []⟩ 8 (by kernel_rfl) (by kernel_rfl) (by kernel_rfl) (by kernel_rfl)) ?_
  intro W base args ds gs before hval0 hW hcnd hsz0 _
  have hval : ∀ (j : Nat) t v, Try.f4.params[j]? = some t → args[j]? = some v → Value.okWide Try.prog W .any base t v := hval0
  have hW' := hW
  obtain ⟨p, q, hA0, hV, rfl, hfz, hnd⟩ := hW
  have hA : DataW.TrodAll enc Try.prog W 0 (fun _ => true) true Try.f4.params.toList args.toList ds p := hA0
  rw [Try.params4] at hA hval
  obtain ⟨v0, vs0, d0, ds0, p0, q0, hargs, rfl, rfl, h0, r0⟩ := trodAll_cons hA
  obtain ⟨rfl, rfl, rfl⟩ := trodAll_nil r0
  obtain rfl : args = #[v0] := by cases args; simp_all
  obtain ⟨rfl, rfl⟩ := trodVars_none hV
  obtain ⟨cs, rfl, _⟩ := okWide_struct Try.underlying50 (hval 0 50 v0 rfl rfl)
  have k0 := h0
  have lt0 : ∀ x ∈ p0, x.block < W.heap.size := by obtain ⟨m, hm⟩ := k0; exact DataW.trod_lt m _ _ _ hm
  obtain ⟨A0, A1, A2, c0, c1, c2, l0, l1, l2, i3, i4, rfl, ⟨hc0, hr0⟩, ⟨hc1, hr1⟩, ⟨hc2, hr2⟩⟩ := OpX.open50 h0
  clear hA0 hval0 hsz0
  obtain ⟨k, hk⟩ := Pu.FnExactOpenLeads l0 l1 l2 i3 i4 (by have := hr0.2.1; omega) (by have := hr1.2.1; omega) (by have := hr2.2.1; omega)
  refine (P.laws_FnExactOpenLeads.calls k A0 c0 l0 A1 c1 l1 A2 c2 l2 i3 i4 true W hr0 hc0 hr1 hc1 hr2 hc2 hk).mono fun e W' ⟨he, bel⟩ => ?_
  subst he
  exact ⟨_, rfl, _, _, _, [], _, [], hW', trodAll_mk1 (shut_bool Try.underlying4 _),
    (trodAll_cons_mk (Below.trod laidOut (by kernel_rfl) (of_decide_eq_true (by kernel_rfl)) k0 bel lt0) trodAll_mk0), rfl, bel.frame _, fun h => by cases h⟩
theorem over : Rows.fnExactOpenLeadsRow.holds Try.pinned (OpenSpec.ofChange Rows.fnExactOpenLeadsSpec) :=
  OpenClaim.holds_of_wide 4 Try.f4 rfl rfl rfl rfl rfl rfl rfl ⟨rfl, rfl, rfl, rfl, rfl⟩ rfl rfl rfl rfl rfl (by kernel_rfl) Try.func4 (by kernel_rfl)
    (of_decide_eq_true (by kernel_rfl)) (by unfold Func.isWrapper; first | (rw [if_pos (by decide +kernel)]; kernel_rfl) | (rw [if_neg (by decide +kernel)]; exact ⟨rfl, rfl⟩))
    (fun os started H enc _ => lifted os started H enc)
theorem proved : Rows.FnExactOpenLeadsSaid := over
#print axioms proved
end Go.Proofs.Ytknphliohoklfaa.fnExactOpenLeads
namespace Go.Proofs.Ytknphliohoklfaa
theorem fnExactOpenLeads_holds : Rows.FnExactOpenLeadsSaid := fnExactOpenLeads.proved
end Go.Proofs.Ytknphliohoklfaa
