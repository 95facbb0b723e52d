/- FnExactOpenFor: the program answers as the reference. -/
import Derived.Test.YtldifiededjgjaaRows
import Derived.Test.YtldifiededjgjaaQF4
namespace Go.Proofs.Ytldifiededjgjaa.fnExactOpenFor
open Go.ChangeShapes Go.WideShapes Go.ChangeAt Go.RowKit Opens
open Go.ChangeMaps (open_string shut_string)
open Go.Proofs.YtldifiededjgjaaW.PrintWords
set_option linter.unusedVariables false
theorem own : ownKnob Try.prog.godebug = none := by kernel_rfl
theorem laidOut : laidOutB Try.prog = true := by kernel_rfl
section
variable {H : Type} {enc : TypeId × Value → H} {w : World}
theorem op93 : Opn enc Try.prog w 93 P.k93 (fun _ => True) :=
  op_imp (op_iso (op_struct Try.underlying93 (by kernel_rfl) (opf_cons (op_int Try.underlying3) rfl (by kernel_rfl) (opf_one (op_int Try.underlying3) rfl (by kernel_rfl)) (by decide)))
    (fun x : P.S93 => (x.f0, x.f1)) (fun y => ⟨y.1, y.2⟩) (fun _ => rfl)) (fun _ _ => trivial)
theorem op38 : Opn enc Try.prog w 38 P.k38 (fun _ => True) :=
  op_imp (op_iso (op_struct Try.underlying38 (by kernel_rfl) (opf_cons (op_int Try.underlying3) rfl (by kernel_rfl) (opf_cons (op_int Try.underlying3) rfl (by kernel_rfl) (opf_one (op_int Try.underlying3) rfl (by kernel_rfl)) (by decide)) (by decide)))
    (fun x : P.S38 => (x.f0, x.f1, x.f2)) (fun y => ⟨y.1, y.2.1, y.2.2⟩) (fun _ => rfl)) (fun _ _ => trivial)
theorem op36 : Opn enc Try.prog w 36 (Kd.slice 93 P.k93) (fun ys => ys.length ≤ maxLen ∧ ∀ y ∈ ys, True) := op_slice Try.underlying36 (by kernel_rfl) op93
theorem op51 : Opn enc Try.prog w 51 (Kd.slice 38 P.k38) (fun ys => ys.length ≤ maxLen ∧ ∀ y ∈ ys, True) := op_slice Try.underlying51 (by kernel_rfl) op38
end
set_option maxRecDepth 100000 in
theorem lifted (os : Os) (started : os.Started) (H : Type) (enc : TypeId × Value → H) :
    ReturnsInHanded {} Try.checked os 5 .any (Rows.fnExactOpenForSpec.pre6 enc Try.prog Try.f5 Rows.fnExactOpenForRow.domain false) (Rows.fnExactOpenForSpec.post enc Try.prog Try.f5 false true false false) := by
  refine returnsInHanded_of_change_sized (C := Try.checked) own started (by kernel_rfl) Try.func5
    (ChangeSpec.witness6 (enc := enc) (C := Try.checked) false ⟨#[], #[.slice none 0 0, .slice none 0 0, .int .i64 0], []⟩ 8 (by kernel_rfl) (by kernel_rfl) (by kernel_rfl) (by kernel_rfl)) ?_
  intro W base args ds gs before hval0 hW hcnd hsz0 _
  have hsz : (DataW.weightsEach Try.prog (Try.f5.params.toList ++ Rows.fnExactOpenForSpec.plain.varTypes Try.prog) (ds ++ gs)).all (· ≤ reachBytes) = true := hsz0
  have hval : ∀ (j : Nat) t v, Try.f5.params[j]? = some t → args[j]? = some v → Value.okWide Try.prog W .any base t v := hval0
  have hW' := hW
  obtain ⟨p, q, hA0, hV, rfl, hfz, hnd⟩ := hW
  have hA : DataW.TrodAll enc Try.prog W 0 (fun _ => true) true Try.f5.params.toList args.toList ds p := hA0
  rw [Try.params5] at hA hval hsz
  obtain ⟨v0, vs0, d0, ds0, p0, q0, hargs, rfl, rfl, h0, r0⟩ := trodAll_cons hA
  obtain ⟨v1, vs1, d1, ds1, p1, q1, rfl, rfl, rfl, h1, r1⟩ := trodAll_cons r0
  obtain ⟨v2, vs2, d2, ds2, p2, q2, rfl, rfl, rfl, h2, r2⟩ := trodAll_cons r1
  obtain ⟨rfl, rfl, rfl⟩ := trodAll_nil r2
  obtain rfl : args = #[v0, v1, v2] := by cases args; simp_all
  obtain ⟨rfl, rfl⟩ := trodVars_none hV
  obtain ⟨a0, len0, cap0, rfl⟩ := okWide_slice Try.underlying36 (hval 0 36 v0 rfl rfl)
  obtain ⟨a1, len1, cap1, rfl⟩ := okWide_slice Try.underlying51 (hval 1 51 v1 rfl rfl)
  obtain ⟨n2, rfl⟩ := okWide_int Try.underlying3 (hval 2 3 v2 rfl rfl)
  have k0 := h0
  have k1 := h1
  have k2 := h2
  have lt0 : ∀ x ∈ p0, x.block < W.heap.size := by obtain ⟨m, hm⟩ := k0; exact DataW.trod_lt m _ _ _ hm
  have lt1 : ∀ x ∈ p1, x.block < W.heap.size := by obtain ⟨m, hm⟩ := k1; exact DataW.trod_lt m _ _ _ hm
  have lt2 : ∀ x ∈ p2, x.block < W.heap.size := by obtain ⟨m, hm⟩ := k2; exact DataW.trod_lt m _ _ _ hm
  have y0 : len0 * 16 ≤ 140737488351232 := sized_row hsz (j := 0) (t := 36) rfl rfl Try.underlying36 (by kernel_rfl) h0
  have y1 : len1 * 24 ≤ 140737488351232 := sized_row hsz (j := 1) (t := 51) rfl rfl Try.underlying51 (by kernel_rfl) h1
  obtain ⟨l0, rfl, hc0, hr0⟩ : ∃ l0 : List P.S93, len0 = l0.length ∧ l0.length ≤ cap0 ∧ Kd.C P.k93 W a0 l0.length l0 := by
    obtain ⟨fuel, hf⟩ := h0
    obtain ⟨ys, ⟨A, c, e, hc, hC⟩, _⟩ := op36 fuel _ _ hf
    simp [Value.cells] at e
    obtain ⟨rfl, rfl, rfl⟩ := e
    exact ⟨ys, rfl, hc, hC⟩
  obtain ⟨l1, rfl, hc1, hr1⟩ : ∃ l1 : List P.S38, len1 = l1.length ∧ l1.length ≤ cap1 ∧ Kd.C P.k38 W a1 l1.length l1 := by
    obtain ⟨fuel, hf⟩ := h1
    obtain ⟨ys, ⟨A, c, e, hc, hC⟩, _⟩ := op51 fuel _ _ hf
    simp [Value.cells] at e
    obtain ⟨rfl, rfl, rfl⟩ := e
    exact ⟨ys, rfl, hc, hC⟩
  clear hA0 hval0 hsz0 hsz
  obtain ⟨k, hk⟩ := Pu.FnExactOpenFor l0 l1 n2 (by omega) (by omega)
  refine (P.laws_FnExactOpenFor.calls k a0 cap0 l0 a1 cap1 l1 n2 true W hr0 hc0 hr1 hc1 hk).mono fun e W' ⟨he, bel⟩ => ?_
  subst he
  exact ⟨_, rfl, _, _, _, [], _, [], hW', trodAll_mk1 (shut_bool Try.underlying4 _),
    (trodAll_cons_mk (Below.trod laidOut (by kernel_rfl) (of_decide_eq_true (by kernel_rfl)) k0 bel lt0) (trodAll_cons_mk (Below.trod laidOut (by kernel_rfl) (of_decide_eq_true (by kernel_rfl)) k1 bel lt1)
      (trodAll_cons_mk (Below.trod laidOut (by kernel_rfl) (of_decide_eq_true (by kernel_rfl)) k2 bel lt2) trodAll_mk0))), rfl, bel.frame _, fun h => by cases h⟩
theorem over : Rows.fnExactOpenForRow.holds Try.pinned (OpenSpec.ofChange Rows.fnExactOpenForSpec) :=
  OpenClaim.holds_of_wide 5 Try.f5 rfl rfl rfl rfl rfl rfl rfl ⟨rfl, rfl, rfl, rfl, rfl⟩ rfl rfl rfl rfl rfl (by kernel_rfl) Try.func5 (by kernel_rfl)
    (of_decide_eq_true (by kernel_rfl)) (by unfold Func.isWrapper; first | (rw [if_pos (by decide +kernel)]; kernel_rfl) | (rw [if_neg (by decide +kernel)]; exact ⟨rfl, rfl⟩))
    (fun os started H enc _ => lifted os started H enc)
theorem proved : Rows.FnExactOpenForSaid := over
#print axioms proved
end Go.Proofs.Ytldifiededjgjaa.fnExactOpenFor
namespace Go.Proofs.Ytldifiededjgjaa
theorem fnExactOpenFor_holds : Rows.FnExactOpenForSaid := fnExactOpenFor.proved
end Go.Proofs.Ytldifiededjgjaa
