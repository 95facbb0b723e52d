/- For all inputs the law FnExactOpenSpans answers true, and no call of it panics. -/
import Derived.Test.YtldifiededjgjaaRows
import Derived.Test.YtldifiededjgjaaQP3
namespace Go.Proofs.Ytldifiededjgjaa.fnExactOpenSpans
open Go.ChangeShapes Go.WideShapes Go.ChangeAt Go.RowKit Opens
open Go.ChangeMaps (open_string shut_string)
open Go.Proofs.YtldifiededjgjaaW.PrintWords
set_option linter.unusedVariables false
theorem own : ownKnob Try.prog.godebug = none := by kernel_rfl
theorem laidOut : laidOutB Try.prog = true := by kernel_rfl
section
variable {H : Type} {enc : TypeId × Value → H} {w : World}
theorem op93 : Opn enc Try.prog w 93 P.k93 (fun _ => True) :=
  op_imp (op_iso (op_struct Try.underlying93 (by kernel_rfl) (opf_cons (op_int Try.underlying3) rfl (by kernel_rfl) (opf_one (op_int Try.underlying3) rfl (by kernel_rfl)) (by decide)))
    (fun x : P.S93 => (x.f0, x.f1)) (fun y => ⟨y.1, y.2⟩) (fun _ => rfl)) (fun _ _ => trivial)
theorem op38 : Opn enc Try.prog w 38 P.k38 (fun _ => True) :=
  op_imp (op_iso (op_struct Try.underlying38 (by kernel_rfl) (opf_cons (op_int Try.underlying3) rfl (by kernel_rfl) (opf_cons (op_int Try.underlying3) rfl (by kernel_rfl) (opf_one (op_int Try.underlying3) rfl (by kernel_rfl)) (by decide)) (by decide)))
    (fun x : P.S38 => (x.f0, x.f1, x.f2)) (fun y => ⟨y.1, y.2.1, y.2.2⟩) (fun _ => rfl)) (fun _ _ => trivial)
theorem op36 : Opn enc Try.prog w 36 (Kd.slice 93 P.k93) (fun ys => ys.length ≤ maxLen ∧ ∀ y ∈ ys, True) := op_slice Try.underlying36 (by kernel_rfl) op93
theorem op51 : Opn enc Try.prog w 51 (Kd.slice 38 P.k38) (fun ys => ys.length ≤ maxLen ∧ ∀ y ∈ ys, True) := op_slice Try.underlying51 (by kernel_rfl) op38
end
set_option maxRecDepth 100000 in
theorem lifted (os : Os) (started : os.Started) (H : Type) (enc : TypeId × Value → H) :
    ReturnsInHanded {} Try.checked os 4 .any (Rows.fnExactOpenSpansSpec.pre6 enc Try.prog Try.f4 Rows.fnExactOpenSpansRow.domain false) (Rows.fnExactOpenSpansSpec.post enc Try.prog Try.f4 false true false false) := by
  refine returnsInHanded_of_change_sized (C := Try.checked) own started (by kernel_rfl) Try.func4
    (ChangeSpec.witness6 (enc := enc) (C := Try.checked) false ⟨#[], #[.slice none 0 0, .agg #[.int .i64 0, .int .i64 0, .int .i64 0]], []⟩ 8 (by kernel_rfl) (by kernel_rfl) (by kernel_rfl) (by kernel_rfl)) ?_
  intro W base args ds gs before hval0 hW hcnd hsz0 _
  have hsz : (DataW.weightsEach Try.prog (Try.f4.params.toList ++ Rows.fnExactOpenSpansSpec.plain.varTypes Try.prog) (ds ++ gs)).all (· ≤ reachBytes) = true := hsz0
  have hval : ∀ (j : Nat) t v, Try.f4.params[j]? = some t → args[j]? = some v → Value.okWide Try.prog W .any base t v := hval0
  have hW' := hW
  obtain ⟨p, q, hA0, hV, rfl, hfz, hnd⟩ := hW
  have hA : DataW.TrodAll enc Try.prog W 0 (fun _ => true) true Try.f4.params.toList args.toList ds p := hA0
  rw [Try.params4] at hA hval hsz
  obtain ⟨v0, vs0, d0, ds0, p0, q0, hargs, rfl, rfl, h0, r0⟩ := trodAll_cons hA
  obtain ⟨v1, vs1, d1, ds1, p1, q1, rfl, rfl, rfl, h1, r1⟩ := trodAll_cons r0
  obtain ⟨rfl, rfl, rfl⟩ := trodAll_nil r1
  obtain rfl : args = #[v0, v1] := by cases args; simp_all
  obtain ⟨rfl, rfl⟩ := trodVars_none hV
  obtain ⟨a0, len0, cap0, rfl⟩ := okWide_slice Try.underlying36 (hval 0 36 v0 rfl rfl)
  obtain ⟨cs1, rfl, _⟩ := okWide_struct Try.underlying38 (hval 1 38 v1 rfl rfl)
  have k0 := h0
  have k1 := h1
  have lt0 : ∀ x ∈ p0, x.block < W.heap.size := by obtain ⟨m, hm⟩ := k0; exact DataW.trod_lt m _ _ _ hm
  have lt1 : ∀ x ∈ p1, x.block < W.heap.size := by obtain ⟨m, hm⟩ := k1; exact DataW.trod_lt m _ _ _ hm
  have y0 : len0 * 16 ≤ 140737488351232 := sized_row hsz (j := 0) (t := 36) rfl rfl Try.underlying36 (by kernel_rfl) h0
  obtain ⟨l0, rfl, hc0, hr0⟩ : ∃ l0 : List P.S93, len0 = l0.length ∧ l0.length ≤ cap0 ∧ Kd.C P.k93 W a0 l0.length l0 := by
    obtain ⟨fuel, hf⟩ := h0
    obtain ⟨ys, ⟨A, c, e, hc, hC⟩, _⟩ := op36 fuel _ _ hf
    simp [Value.cells] at e
    obtain ⟨rfl, rfl, rfl⟩ := e
    exact ⟨ys, rfl, hc, hC⟩
  obtain ⟨b0, b1, b2, rfl⟩ : ∃ b0 b1 b2 : Int, cs1 = #[.int .i64 b0, .int .i64 b1, .int .i64 b2] := by
    obtain ⟨fuel, hf⟩ := h1
    obtain ⟨y, hy, _⟩ := op38 fuel _ _ hf
    have e := P.k38_open hy
    exact ⟨y.f0, y.f1, y.f2, by cases cs1; simpa [Value.cells] using e⟩
  clear hA0 hval0 hsz0 hsz
  have call : Calls Try.prog 4 #[.slice a0 l0.length cap0, .agg #[.int .i64 b0, .int .i64 b1, .int .i64 b2]] W fun e W' => e = .returned (.bool true) ∧ Below W.heap.size W W' := by
    obtain ⟨z, hz, hk⟩ := Pu.FnExactOpenSpans l0 b0 b1 b2 (by omega)
    by_cases hn : z < 0
    · exact P.laws_FnExactOpenSpans.small a0 cap0 l0 b0 b1 b2 z W hr0 hc0 hn hz
    · obtain ⟨k, x, y, ok, m0, xm, m, ym, e1, e2, e3, e4, e5, e6, e7, e8, e9, e10, e11⟩ := hk hn
      exact P.laws_FnExactOpenSpans.calls k a0 cap0 l0 b0 b1 b2 z x b0 b1 b2 y ok m0 m xm ym W hr0 hc0 hz hn e1 e2 e3 e4 e5 e6 e7 e8 e9 e10 e11
  refine call.mono fun e W' ⟨he, bel⟩ => ?_
  subst he
  exact ⟨_, rfl, _, _, _, [], _, [], hW', trodAll_mk1 (shut_bool Try.underlying4 _),
    (trodAll_cons_mk (Below.trod laidOut (by kernel_rfl) (of_decide_eq_true (by kernel_rfl)) k0 bel lt0) (trodAll_cons_mk (Below.trod laidOut (by kernel_rfl) (of_decide_eq_true (by kernel_rfl)) k1 bel lt1) trodAll_mk0)), rfl, bel.frame _, fun h => by cases h⟩
theorem over : Rows.fnExactOpenSpansRow.holds Try.pinned (OpenSpec.ofChange Rows.fnExactOpenSpansSpec) :=
  OpenClaim.holds_of_wide 4 Try.f4 rfl rfl rfl rfl rfl rfl rfl ⟨rfl, rfl, rfl, rfl, rfl⟩ rfl rfl rfl rfl rfl (by kernel_rfl) Try.func4 (by kernel_rfl)
    (of_decide_eq_true (by kernel_rfl)) (by unfold Func.isWrapper; first | (rw [if_pos (by decide +kernel)]; kernel_rfl) | (rw [if_neg (by decide +kernel)]; exact ⟨rfl, rfl⟩))
    (fun os started H enc _ => lifted os started H enc)
theorem proved : Rows.FnExactOpenSpansSaid := over
#print axioms proved
end Go.Proofs.Ytldifiededjgjaa.fnExactOpenSpans
namespace Go.Proofs.Ytldifiededjgjaa
theorem fnExactOpenSpans_holds : Rows.FnExactOpenSpansSaid := fnExactOpenSpans.proved
end Go.Proofs.Ytldifiededjgjaa
