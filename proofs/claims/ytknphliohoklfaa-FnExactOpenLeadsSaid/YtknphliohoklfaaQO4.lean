/- For all inputs the law FnExactOpenLeads answers true, and no call of it panics. -/
import Derived.Test.YtknphliohoklfaaQO3
namespace Go.Proofs.Ytknphliohoklfaa.P
open Go.RowKit Go.Proofs.YtknphliohoklfaaW.PrintWords Go.Proofs.YtknphliohoklfaaW.PrintLast Go.Proofs.YtknphliohoklfaaW.PrintMore
attribute [local go_sem] max2_int min2_int max_two min_two max_three min_three max_four min_four
set_option linter.unusedVariables false
set_option linter.unusedSimpArgs false
mutual
def laws_FnExactOpenLeads.j0 : Nat → List Int → Bool → List Int → Bool → Bool → List (S60) → List Bool → List Bool → Int → Int → List (S29) → List Bool → List Bool → Int → Int → Option (Bool)
  | 0, _, _, _, _, _, _, _, _, _, _, _, _, _, _, _ => none
  | k + 1, x4, x5, x7, x8, x40, x275000, x275001, x275002, x275003, x275004, x303000, x303001, x303002, x303003, x303004 => if x40 = true then (some false) else ((laws_toExploration.f k x275000 x275001 x275002 x275003 x275004).bind fun bt308 => ((laws_eqExploration.f k x303000 x303001 x303002 x303003 x303004 bt308.1 bt308.2.1 bt308.2.2.1 bt308.2.2.2.1 bt308.2.2.2.2).bind fun t319 => (if t319 = true then ((laws_markExploration.f k x303000 x303001 x303002 x303003 x303004 1).bind fun bt320 => (if bt320.1 < 0 then (laws_FnExactOpenLeads.j1 k x4 x5 x7 true x275000 x275001 x275002 x275003 x275004) else ((laws_eqIntS.f k x7 x4).bind fun t324 => (if t324 = true then (laws_FnExactOpenLeads.j1 k x4 x5 x7 (x8 != x5) x275000 x275001 x275002 x275003 x275004) else (laws_FnExactOpenLeads.j1 k x4 x5 x7 true x275000 x275001 x275002 x275003 x275004))))) else (some false))))
def laws_FnExactOpenLeads.j1 : Nat → List Int → Bool → List Int → Bool → List (S60) → List Bool → List Bool → Int → Int → Option (Bool)
  | 0, _, _, _, _, _, _, _, _, _ => none
  | k + 1, x4, x5, x7, x61, x275000, x275001, x275002, x275003, x275004 => if x61 = true then (some false) else ((laws_markIntS.f k x7 1).bind fun bt325 => ((laws_heldIntS.f k bt325.2 1).bind fun t327 => (if t327 < 0 then (some false) else (if t327 = bt325.1 then ((laws_toExploration.f k x275000 x275001 x275002 x275003 x275004).bind fun bt328 => ((impl_OpenLeads.f k bt328.1 bt328.2.1 bt328.2.2.1 bt328.2.2.2.1 bt328.2.2.2.2).bind fun bt339 => ((laws_eqIntS.f k bt339.1 x4).bind fun t343 => (if t343 = true then (laws_FnExactOpenLeads.j2 k bt325.2 bt325.1 (bt339.2 != x5)) else (laws_FnExactOpenLeads.j2 k bt325.2 bt325.1 true))))) else (some false)))))
def laws_FnExactOpenLeads.j2 : Nat → List Int → Int → Bool → Option (Bool)
  | 0, _, _, _ => none
  | k + 1, x7, x10, x87 => if x87 = true then (some false) else ((laws_heldIntS.f k x7 1).bind fun t344 => (if t344 < 0 then (some false) else (if t344 = x10 then (some true) else (some false))))
end
def laws_FnExactOpenLeads.f (k : Nat) (l0_0 : List (S60)) (l0_1 : List Bool) (l0_2 : List Bool) (a0_3 : Int) (a0_4 : Int) : Option (Bool) := (laws_szExploration.f l0_0 l0_1 l0_2 a0_3 a0_4 1048576).bind fun t275 => (if t275 < 0 then (some true) else ((laws_toExploration.f k l0_0 l0_1 l0_2 a0_3 a0_4).bind fun bt276 => ((spec_OpenLeads.f k bt276.1 bt276.2.1 bt276.2.2.1 bt276.2.2.2.1 bt276.2.2.2.2).bind fun bt287 => ((laws_toExploration.f k l0_0 l0_1 l0_2 a0_3 a0_4).bind fun bt291 => ((impl_OpenLeads.f k bt291.1 bt291.2.1 bt291.2.2.1 bt291.2.2.2.1 bt291.2.2.2.2).bind fun bt303 => ((laws_eqIntS.f k bt303.1 bt287.1).bind fun t307 => (if t307 = true then (laws_FnExactOpenLeads.j0 k bt287.1 bt287.2 bt303.1 bt303.2 (bt303.2 != bt287.2) l0_0 l0_1 l0_2 a0_3 a0_4 bt291.1 bt291.2.1 bt291.2.2.1 bt291.2.2.2.1 bt291.2.2.2.2) else (laws_FnExactOpenLeads.j0 k bt287.1 bt287.2 bt303.1 bt303.2 true l0_0 l0_1 l0_2 a0_3 a0_4 bt291.1 bt291.2.1 bt291.2.2.1 bt291.2.2.2.1 bt291.2.2.2.2))))))))
theorem laws_FnExactOpenLeads.mono_l : ∀ k, (∀ y0 y1 y2 y3 y4 y5 y6 y7 y8 y9 y10 y11 y12 y13 y14, LeO (laws_FnExactOpenLeads.j0 k y0 y1 y2 y3 y4 y5 y6 y7 y8 y9 y10 y11 y12 y13 y14) (laws_FnExactOpenLeads.j0 (k + 1) y0 y1 y2 y3 y4 y5 y6 y7 y8 y9 y10 y11 y12 y13 y14)) ∧ (∀ y0 y1 y2 y3 y4 y5 y6 y7 y8, LeO (laws_FnExactOpenLeads.j1 k y0 y1 y2 y3 y4 y5 y6 y7 y8) (laws_FnExactOpenLeads.j1 (k + 1) y0 y1 y2 y3 y4 y5 y6 y7 y8)) ∧ (∀ y0 y1 y2, LeO (laws_FnExactOpenLeads.j2 k y0 y1 y2) (laws_FnExactOpenLeads.j2 (k + 1) y0 y1 y2))
  | 0 => ⟨fun _ _ _ _ _ _ _ _ _ _ _ _ _ _ _ r h => by simp [laws_FnExactOpenLeads.j0] at h, fun _ _ _ _ _ _ _ _ _ r h => by simp [laws_FnExactOpenLeads.j1] at h, fun _ _ _ r h => by simp [laws_FnExactOpenLeads.j2] at h⟩
  | k + 1 => by
    obtain ⟨ih0, ih1, ih2⟩ := laws_FnExactOpenLeads.mono_l k
    refine ⟨?_, ?_, ?_⟩
    · intro y0 y1 y2 y3 y4 y5 y6 y7 y8 y9 y10 y11 y12 y13 y14
      unfold laws_FnExactOpenLeads.j0
      repeat' first
      | (with_reducible exact ih0 _ _ _ _ _ _ _ _ _ _ _ _ _ _ _)
      | (with_reducible exact ih1 _ _ _ _ _ _ _ _ _)
      | (with_reducible exact ih2 _ _ _)
      | (with_reducible exact impl_OpenLeads.mono _ _ _ _ _ _)
      | (with_reducible exact laws_eqExploration.mono _ _ _ _ _ _ _ _ _ _ _)
      | (with_reducible exact laws_eqIntS.mono _ _ _)
      | (with_reducible exact laws_heldIntS.mono _ _ _)
      | (with_reducible exact laws_markExploration.mono _ _ _ _ _ _ _)
      | (with_reducible exact laws_markIntS.mono _ _ _)
      | (with_reducible exact laws_toExploration.mono _ _ _ _ _ _)
      | (with_reducible exact spec_OpenLeads.mono _ _ _ _ _ _)
      | (with_reducible exact LeO.refl _)
      | (with_reducible exact LeO.none _)
      | (with_reducible refine LeO.ite ?_ ?_)
      | (with_reducible refine LeO.bind ?_ (fun _ => ?_))
      | exact ih0 _ _ _ _ _ _ _ _ _ _ _ _ _ _ _
      | exact ih1 _ _ _ _ _ _ _ _ _
      | exact ih2 _ _ _
      | exact impl_OpenLeads.mono _ _ _ _ _ _
      | exact laws_eqExploration.mono _ _ _ _ _ _ _ _ _ _ _
      | exact laws_eqIntS.mono _ _ _
      | exact laws_heldIntS.mono _ _ _
      | exact laws_markExploration.mono _ _ _ _ _ _ _
      | exact laws_markIntS.mono _ _ _
      | exact laws_toExploration.mono _ _ _ _ _ _
      | exact spec_OpenLeads.mono _ _ _ _ _ _
      | exact LeO.none _
      | refine LeO.ite ?_ ?_
      | refine LeO.bind ?_ (fun _ => ?_)
    · intro y0 y1 y2 y3 y4 y5 y6 y7 y8
      unfold laws_FnExactOpenLeads.j1
      repeat' first
      | (with_reducible exact ih0 _ _ _ _ _ _ _ _ _ _ _ _ _ _ _)
      | (with_reducible exact ih1 _ _ _ _ _ _ _ _ _)
      | (with_reducible exact ih2 _ _ _)
      | (with_reducible exact impl_OpenLeads.mono _ _ _ _ _ _)
      | (with_reducible exact laws_eqExploration.mono _ _ _ _ _ _ _ _ _ _ _)
      | (with_reducible exact laws_eqIntS.mono _ _ _)
      | (with_reducible exact laws_heldIntS.mono _ _ _)
      | (with_reducible exact laws_markExploration.mono _ _ _ _ _ _ _)
      | (with_reducible exact laws_markIntS.mono _ _ _)
      | (with_reducible exact laws_toExploration.mono _ _ _ _ _ _)
      | (with_reducible exact spec_OpenLeads.mono _ _ _ _ _ _)
      | (with_reducible exact LeO.refl _)
      | (with_reducible exact LeO.none _)
      | (with_reducible refine LeO.ite ?_ ?_)
      | (with_reducible refine LeO.bind ?_ (fun _ => ?_))
      | exact ih0 _ _ _ _ _ _ _ _ _ _ _ _ _ _ _
      | exact ih1 _ _ _ _ _ _ _ _ _
      | exact ih2 _ _ _
      | exact impl_OpenLeads.mono _ _ _ _ _ _
      | exact laws_eqExploration.mono _ _ _ _ _ _ _ _ _ _ _
      | exact laws_eqIntS.mono _ _ _
      | exact laws_heldIntS.mono _ _ _
      | exact laws_markExploration.mono _ _ _ _ _ _ _
      | exact laws_markIntS.mono _ _ _
      | exact laws_toExploration.mono _ _ _ _ _ _
      | exact spec_OpenLeads.mono _ _ _ _ _ _
      | exact LeO.none _
      | refine LeO.ite ?_ ?_
      | refine LeO.bind ?_ (fun _ => ?_)
    · intro y0 y1 y2
      unfold laws_FnExactOpenLeads.j2
      repeat' first
      | (with_reducible exact ih0 _ _ _ _ _ _ _ _ _ _ _ _ _ _ _)
      | (with_reducible exact ih1 _ _ _ _ _ _ _ _ _)
      | (with_reducible exact ih2 _ _ _)
      | (with_reducible exact impl_OpenLeads.mono _ _ _ _ _ _)
      | (with_reducible exact laws_eqExploration.mono _ _ _ _ _ _ _ _ _ _ _)
      | (with_reducible exact laws_eqIntS.mono _ _ _)
      | (with_reducible exact laws_heldIntS.mono _ _ _)
      | (with_reducible exact laws_markExploration.mono _ _ _ _ _ _ _)
      | (with_reducible exact laws_markIntS.mono _ _ _)
      | (with_reducible exact laws_toExploration.mono _ _ _ _ _ _)
      | (with_reducible exact spec_OpenLeads.mono _ _ _ _ _ _)
      | (with_reducible exact LeO.refl _)
      | (with_reducible exact LeO.none _)
      | (with_reducible refine LeO.ite ?_ ?_)
      | (with_reducible refine LeO.bind ?_ (fun _ => ?_))
      | exact ih0 _ _ _ _ _ _ _ _ _ _ _ _ _ _ _
      | exact ih1 _ _ _ _ _ _ _ _ _
      | exact ih2 _ _ _
      | exact impl_OpenLeads.mono _ _ _ _ _ _
      | exact laws_eqExploration.mono _ _ _ _ _ _ _ _ _ _ _
      | exact laws_eqIntS.mono _ _ _
      | exact laws_heldIntS.mono _ _ _
      | exact laws_markExploration.mono _ _ _ _ _ _ _
      | exact laws_markIntS.mono _ _ _
      | exact laws_toExploration.mono _ _ _ _ _ _
      | exact spec_OpenLeads.mono _ _ _ _ _ _
      | exact LeO.none _
      | refine LeO.ite ?_ ?_
      | refine LeO.bind ?_ (fun _ => ?_)
theorem laws_FnExactOpenLeads.mono : ∀ a0 a1 a2 a3 a4 k, LeO (laws_FnExactOpenLeads.f k a0 a1 a2 a3 a4) (laws_FnExactOpenLeads.f (k + 1) a0 a1 a2 a3 a4) := by
  intro a0 a1 a2 a3 a4 k
  obtain ⟨ih0, ih1, ih2⟩ := laws_FnExactOpenLeads.mono_l k
  unfold laws_FnExactOpenLeads.f
  repeat' first
      | (with_reducible exact ih0 _ _ _ _ _ _ _ _ _ _ _ _ _ _ _)
      | (with_reducible exact ih1 _ _ _ _ _ _ _ _ _)
      | (with_reducible exact ih2 _ _ _)
      | (with_reducible exact impl_OpenLeads.mono _ _ _ _ _ _)
      | (with_reducible exact laws_eqExploration.mono _ _ _ _ _ _ _ _ _ _ _)
      | (with_reducible exact laws_eqIntS.mono _ _ _)
      | (with_reducible exact laws_heldIntS.mono _ _ _)
      | (with_reducible exact laws_markExploration.mono _ _ _ _ _ _ _)
      | (with_reducible exact laws_markIntS.mono _ _ _)
      | (with_reducible exact laws_toExploration.mono _ _ _ _ _ _)
      | (with_reducible exact spec_OpenLeads.mono _ _ _ _ _ _)
      | (with_reducible exact LeO.refl _)
      | (with_reducible exact LeO.none _)
      | (with_reducible refine LeO.ite ?_ ?_)
      | (with_reducible refine LeO.bind ?_ (fun _ => ?_))
      | exact ih0 _ _ _ _ _ _ _ _ _ _ _ _ _ _ _
      | exact ih1 _ _ _ _ _ _ _ _ _
      | exact ih2 _ _ _
      | exact impl_OpenLeads.mono _ _ _ _ _ _
      | exact laws_eqExploration.mono _ _ _ _ _ _ _ _ _ _ _
      | exact laws_eqIntS.mono _ _ _
      | exact laws_heldIntS.mono _ _ _
      | exact laws_markExploration.mono _ _ _ _ _ _ _
      | exact laws_markIntS.mono _ _ _
      | exact laws_toExploration.mono _ _ _ _ _ _
      | exact spec_OpenLeads.mono _ _ _ _ _ _
      | exact LeO.none _
      | refine LeO.ite ?_ ?_
      | refine LeO.bind ?_ (fun _ => ?_)
set_option maxHeartbeats 8000000 in
set_option maxRecDepth 100000 in
theorem laws_FnExactOpenLeads.calls (k : Nat) (A0_0 : Option Addr) (c0_0 : Nat) (l0_0 : List (S60)) (A0_1 : Option Addr) (c0_1 : Nat) (l0_1 : List Bool) (A0_2 : Option Addr) (c0_2 : Nat) (l0_2 : List Bool) (a0_3 : Int) (a0_4 : Int) (r : Bool) (w : World) (hr0_0 : Kd.C k60 w A0_0 l0_0.length l0_0) (hc0_0 : l0_0.length ≤ c0_0) (hr0_1 : Kd.C Kd.bool w A0_1 l0_1.length l0_1) (hc0_1 : l0_1.length ≤ c0_1) (hr0_2 : Kd.C Kd.bool w A0_2 l0_2.length l0_2) (hc0_2 : l0_2.length ≤ c0_2) (h : laws_FnExactOpenLeads.f k l0_0 l0_1 l0_2 a0_3 a0_4 = some r) :
    Calls Try.prog 4 #[.agg #[.slice A0_0 l0_0.length c0_0, .slice A0_1 l0_1.length c0_1, .slice A0_2 l0_2.length c0_2, .int .i64 a0_3, .int .i64 a0_4]] w fun e w' => e = .returned (.bool r) ∧ Below w.heap.size w w' := by
  have hu50 := Try.underlying50
  have hu27 := Try.underlying27
  have HR0_0 := Aside0.mk hr0_0
  have HC0_0 := Aside0.mk hc0_0
  clear hr0_0 hc0_0
  have HR0_1 := Aside0.mk hr0_1
  have HC0_1 := Aside0.mk hc0_1
  clear hr0_1 hc0_1
  have HR0_2 := Aside0.mk hr0_2
  have HC0_2 := Aside0.mk hc0_2
  clear hr0_2 hc0_2
  have HB := Aside0.mk (Below.refl w.heap.size w)
  have H : ((laws_szExploration.f l0_0 l0_1 l0_2 a0_3 a0_4 1048576).bind fun t275 => (if t275 < 0 then (some true) else ((laws_toExploration.f k l0_0 l0_1 l0_2 a0_3 a0_4).bind fun bt276 => ((spec_OpenLeads.f k bt276.1 bt276.2.1 bt276.2.2.1 bt276.2.2.2.1 bt276.2.2.2.2).bind fun bt287 => ((laws_toExploration.f k l0_0 l0_1 l0_2 a0_3 a0_4).bind fun bt291 => ((impl_OpenLeads.f k bt291.1 bt291.2.1 bt291.2.2.1 bt291.2.2.2.1 bt291.2.2.2.2).bind fun bt303 => ((laws_eqIntS.f k bt303.1 bt287.1).bind fun t307 => (if t307 = true then (laws_FnExactOpenLeads.j0 k bt287.1 bt287.2 bt303.1 bt303.2 (bt303.2 != bt287.2) l0_0 l0_1 l0_2 a0_3 a0_4 bt291.1 bt291.2.1 bt291.2.2.1 bt291.2.2.2.1 bt291.2.2.2.2) else (laws_FnExactOpenLeads.j0 k bt287.1 bt287.2 bt303.1 bt303.2 true l0_0 l0_1 l0_2 a0_3 a0_4 bt291.1 bt291.2.1 bt291.2.2.1 bt291.2.2.2.1 bt291.2.2.2.2))))))))) = some r := h
  clear h
  replace H := Option.bind_eq_some_iff.mp H
  obtain ⟨t275, A20, H⟩ := H
  replace H : (if t275 < 0 then (some true) else ((laws_toExploration.f k l0_0 l0_1 l0_2 a0_3 a0_4).bind fun bt276 => ((spec_OpenLeads.f k bt276.1 bt276.2.1 bt276.2.2.1 bt276.2.2.2.1 bt276.2.2.2.2).bind fun bt287 => ((laws_toExploration.f k l0_0 l0_1 l0_2 a0_3 a0_4).bind fun bt291 => ((impl_OpenLeads.f k bt291.1 bt291.2.1 bt291.2.2.1 bt291.2.2.2.1 bt291.2.2.2.2).bind fun bt303 => ((laws_eqIntS.f k bt303.1 bt287.1).bind fun t307 => (if t307 = true then (laws_FnExactOpenLeads.j0 k bt287.1 bt287.2 bt303.1 bt303.2 (bt303.2 != bt287.2) l0_0 l0_1 l0_2 a0_3 a0_4 bt291.1 bt291.2.1 bt291.2.2.1 bt291.2.2.2.1 bt291.2.2.2.2) else (laws_FnExactOpenLeads.j0 k bt287.1 bt287.2 bt303.1 bt303.2 true l0_0 l0_1 l0_2 a0_3 a0_4 bt291.1 bt291.2.1 bt291.2.2.1 bt291.2.2.2.1 bt291.2.2.2.2)))))))) = some r := H
  have A2 := Aside0.mk A20
  clear A20
  by_cases c3 : t275 < 0
  · rw [if_pos c3] at H
    have c3b0 : decide (t275 < 0) = true := decide_eq_true c3
    clear c3
    obtain rfl := Option.some.inj H
    go_enter Try.func4, Try.ntmps4
    go_wp2_with (first | ((with_reducible refine gate_dst (N := 1) rfl ?_); refine box_event ?hg (N := 1) ?hd (cs := #[.slice A0_0 l0_0.length c0_0, .slice A0_1 l0_1.length c0_1, .slice A0_2 l0_2.length c0_2, .int .i64 a0_3, .int .i64 a0_4]) (t := 50) ?hr ?_; (case hd => rfl); (case hg => rfl); (case hr => first | (go_simp; done) | (go_simp; rfl)); intro gb274 hg w4 hbox hb; have n0_ := Aside0.mk (below_step (by repeat (first | (with_reducible first | exact HB.out | apply below_alloc | apply pw_below_drewN | apply below_drew1) | exact HB.out)) hb); have n1_ := Aside0.mk (hbox); have n2_ := Aside0.mk ((by rw [hg]; exact (below_size (by repeat (first | (with_reducible first | exact HB.out | apply below_alloc | apply pw_below_drewN | apply below_drew1) | exact HB.out))) : w.heap.size ≤ gb274)); have n3_ := Aside0.mk ((by rw [hg]; exact (below_size (by repeat (first | (with_reducible first | exact HB.out | apply below_alloc | apply pw_below_drewN | apply below_drew1) | exact HB.out))) : w.heap.size ≤ gb274)); clear HB; have HB := n0_; have BK274 := n1_; have GW274 := n2_; have GE274 := n3_; clear n0_ n1_ n2_ n3_; clear hb hbox hg; have hcz5_0 : w4.cell? ⟨gb274, 0, none⟩ = some (.slice A0_0 l0_0.length c0_0) := (blk_cell BK274.out 0).trans rfl; have hcz5_1 : w4.cell? ⟨gb274, 1, none⟩ = some (.slice A0_1 l0_1.length c0_1) := (blk_cell BK274.out 1).trans rfl; have hcz5_2 : w4.cell? ⟨gb274, 2, none⟩ = some (.slice A0_2 l0_2.length c0_2) := (blk_cell BK274.out 2).trans rfl; have hcz5_3 : w4.cell? ⟨gb274, 3, none⟩ = some (.int .i64 a0_3) := (blk_cell BK274.out 3).trans rfl; have hcz5_4 : w4.cell? ⟨gb274, 4, none⟩ = some (.int .i64 a0_4) := (blk_cell BK274.out 4).trans rfl; have hfz5_0 := blk_frozen BK274.out 0; have hfz5_1 := blk_frozen BK274.out 1; have hfz5_2 := blk_frozen BK274.out 2; have hfz5_3 := blk_frozen BK274.out 3; have hfz5_4 := blk_frozen BK274.out 4) | ((with_reducible refine gate_callee (f := 24) rfl ?_); refine goesL_ (some 16) rfl rfl Try.func24 (by kernel_rfl) rfl #[.agg #[.slice A0_0 l0_0.length c0_0, .slice A0_1 l0_1.length c0_1, .slice A0_2 l0_2.length c0_2, .int .i64 a0_3, .int .i64 a0_4], .int .i64 1048576] rfl (by (try simp only [List.map_toArray, List.map_cons, List.map_nil]); first | done | rfl | (simp only [List.length_drop, List.length_take]; rfl)) ?_; (with_reducible refine (laws_szExploration.calls _ _ l0_0 _ _ l0_1 _ _ l0_2 a0_3 a0_4 1048576 t275 _ ?side1 ?side2 ?side3 ?side4 ?side5 ?side6 A2.out).mono ?_); (case side1 => repeat (first | exact (Kd.C_below HR0_0.out HB.out) | (with_reducible refine Kd.C_alloc ?_ _) | (with_reducible refine Kd.C_drewN ?_ _) | (with_reducible refine Kd.C_drew ?_))); (case side2 => exact HC0_0.out); (case side3 => repeat (first | exact (Kd.C_below HR0_1.out HB.out) | (with_reducible refine Kd.C_alloc ?_ _) | (with_reducible refine Kd.C_drewN ?_ _) | (with_reducible refine Kd.C_drew ?_))); (case side4 => exact HC0_1.out); (case side5 => repeat (first | exact (Kd.C_below HR0_2.out HB.out) | (with_reducible refine Kd.C_alloc ?_ _) | (with_reducible refine Kd.C_drewN ?_ _) | (with_reducible refine Kd.C_drew ?_))); (case side6 => exact HC0_2.out); rintro e w6 ⟨rfl, hb⟩; refine ⟨_, rfl, ?_⟩; have n0_ := Aside0.mk (blk_below (g := gb274) (o := .cells #[.slice A0_0 l0_0.length c0_0, .slice A0_1 l0_1.length c0_1, .slice A0_2 l0_2.length c0_2, .int .i64 a0_3, .int .i64 a0_4] 50 (0, 0)) (by (with_reducible repeat (first | refine blk_drewN ?_ _ | refine blk_drew ?_ | refine blk_alloc ?_ _)); exact BK274.out) hb); have n1_ := Aside0.mk (below_step (by repeat (first | (with_reducible first | exact HB.out | apply below_alloc | apply pw_below_drewN | apply below_drew1 | refine below_set ?_ GE274.out) | exact HB.out)) hb); clear BK274; clear HB; have BK274 := n0_; have HB := n1_; clear n0_ n1_; (try clear hb); (try clear hb2); (try clear hk); (try clear hi)))
    go_ret
    exact ⟨by first | rfl | (simp [errW_none, errW_some] <;> rfl) | (simp [*, errW_none, errW_some] <;> rfl), by repeat (first | (with_reducible first | exact HB.out | apply below_alloc | apply pw_below_drewN | apply below_drew1 | refine below_set ?_ GE274.out) | exact HB.out)⟩
  · rw [if_neg c3] at H
    have c3b0 : decide (t275 < 0) = false := decide_eq_false c3
    clear c3
    replace H := Option.bind_eq_some_iff.mp H
    obtain ⟨⟨t276, t279, t282, t285, t286⟩, A70, H⟩ := H
    replace H : ((spec_OpenLeads.f k t276 t279 t282 t285 t286).bind fun bt287 => ((laws_toExploration.f k l0_0 l0_1 l0_2 a0_3 a0_4).bind fun bt291 => ((impl_OpenLeads.f k bt291.1 bt291.2.1 bt291.2.2.1 bt291.2.2.2.1 bt291.2.2.2.2).bind fun bt303 => ((laws_eqIntS.f k bt303.1 bt287.1).bind fun t307 => (if t307 = true then (laws_FnExactOpenLeads.j0 k bt287.1 bt287.2 bt303.1 bt303.2 (bt303.2 != bt287.2) l0_0 l0_1 l0_2 a0_3 a0_4 bt291.1 bt291.2.1 bt291.2.2.1 bt291.2.2.2.1 bt291.2.2.2.2) else (laws_FnExactOpenLeads.j0 k bt287.1 bt287.2 bt303.1 bt303.2 true l0_0 l0_1 l0_2 a0_3 a0_4 bt291.1 bt291.2.1 bt291.2.2.1 bt291.2.2.2.1 bt291.2.2.2.2)))))) = some r := H
    have A7 := Aside0.mk A70
    clear A70
    replace H := Option.bind_eq_some_iff.mp H
    obtain ⟨⟨t287, t290⟩, A80, H⟩ := H
    replace H : ((laws_toExploration.f k l0_0 l0_1 l0_2 a0_3 a0_4).bind fun bt291 => ((impl_OpenLeads.f k bt291.1 bt291.2.1 bt291.2.2.1 bt291.2.2.2.1 bt291.2.2.2.2).bind fun bt303 => ((laws_eqIntS.f k bt303.1 t287).bind fun t307 => (if t307 = true then (laws_FnExactOpenLeads.j0 k t287 t290 bt303.1 bt303.2 (bt303.2 != t290) l0_0 l0_1 l0_2 a0_3 a0_4 bt291.1 bt291.2.1 bt291.2.2.1 bt291.2.2.2.1 bt291.2.2.2.2) else (laws_FnExactOpenLeads.j0 k t287 t290 bt303.1 bt303.2 true l0_0 l0_1 l0_2 a0_3 a0_4 bt291.1 bt291.2.1 bt291.2.2.1 bt291.2.2.2.1 bt291.2.2.2.2))))) = some r := H
    have A8 := Aside0.mk A80
    clear A80
    replace H := Option.bind_eq_some_iff.mp H
    obtain ⟨⟨t291, t294, t297, t300, t301⟩, A90, H⟩ := H
    replace H : ((impl_OpenLeads.f k t291 t294 t297 t300 t301).bind fun bt303 => ((laws_eqIntS.f k bt303.1 t287).bind fun t307 => (if t307 = true then (laws_FnExactOpenLeads.j0 k t287 t290 bt303.1 bt303.2 (bt303.2 != t290) l0_0 l0_1 l0_2 a0_3 a0_4 t291 t294 t297 t300 t301) else (laws_FnExactOpenLeads.j0 k t287 t290 bt303.1 bt303.2 true l0_0 l0_1 l0_2 a0_3 a0_4 t291 t294 t297 t300 t301)))) = some r := H
    have A9 := Aside0.mk A90
    clear A90
    replace H := Option.bind_eq_some_iff.mp H
    obtain ⟨⟨t303, t306⟩, A100, H⟩ := H
    replace H : ((laws_eqIntS.f k t303 t287).bind fun t307 => (if t307 = true then (laws_FnExactOpenLeads.j0 k t287 t290 t303 t306 (t306 != t290) l0_0 l0_1 l0_2 a0_3 a0_4 t291 t294 t297 t300 t301) else (laws_FnExactOpenLeads.j0 k t287 t290 t303 t306 true l0_0 l0_1 l0_2 a0_3 a0_4 t291 t294 t297 t300 t301))) = some r := H
    have A10 := Aside0.mk A100
    clear A100
    have HC11 := Aside0.mk H
    clear H
    go_enter Try.func4, Try.ntmps4
    go_upto_region 8 with (first | ((with_reducible refine gate_dst (N := 1) rfl ?_); refine box_event ?hg (N := 1) ?hd (cs := #[.slice A0_0 l0_0.length c0_0, .slice A0_1 l0_1.length c0_1, .slice A0_2 l0_2.length c0_2, .int .i64 a0_3, .int .i64 a0_4]) (t := 50) ?hr ?_; (case hd => rfl); (case hg => rfl); (case hr => first | (go_simp; done) | (go_simp; rfl)); intro gb274 hg w12 hbox hb; have n0_ := Aside0.mk (below_step (by repeat (first | (with_reducible first | exact HB.out | apply below_alloc | apply pw_below_drewN | apply below_drew1) | exact HB.out)) hb); have n1_ := Aside0.mk (hbox); have n2_ := Aside0.mk ((by rw [hg]; exact (below_size (by repeat (first | (with_reducible first | exact HB.out | apply below_alloc | apply pw_below_drewN | apply below_drew1) | exact HB.out))) : w.heap.size ≤ gb274)); have n3_ := Aside0.mk ((by rw [hg]; exact (below_size (by repeat (first | (with_reducible first | exact HB.out | apply below_alloc | apply pw_below_drewN | apply below_drew1) | exact HB.out))) : w.heap.size ≤ gb274)); clear HB; have HB := n0_; have BK274 := n1_; have GW274 := n2_; have GE274 := n3_; clear n0_ n1_ n2_ n3_; clear hb hbox hg; have hcz13_0 : w12.cell? ⟨gb274, 0, none⟩ = some (.slice A0_0 l0_0.length c0_0) := (blk_cell BK274.out 0).trans rfl; have hcz13_1 : w12.cell? ⟨gb274, 1, none⟩ = some (.slice A0_1 l0_1.length c0_1) := (blk_cell BK274.out 1).trans rfl; have hcz13_2 : w12.cell? ⟨gb274, 2, none⟩ = some (.slice A0_2 l0_2.length c0_2) := (blk_cell BK274.out 2).trans rfl; have hcz13_3 : w12.cell? ⟨gb274, 3, none⟩ = some (.int .i64 a0_3) := (blk_cell BK274.out 3).trans rfl; have hcz13_4 : w12.cell? ⟨gb274, 4, none⟩ = some (.int .i64 a0_4) := (blk_cell BK274.out 4).trans rfl; have hfz13_0 := blk_frozen BK274.out 0; have hfz13_1 := blk_frozen BK274.out 1; have hfz13_2 := blk_frozen BK274.out 2; have hfz13_3 := blk_frozen BK274.out 3; have hfz13_4 := blk_frozen BK274.out 4) | ((with_reducible refine gate_callee (f := 24) rfl ?_); refine goesL_ (some 16) rfl rfl Try.func24 (by kernel_rfl) rfl #[.agg #[.slice A0_0 l0_0.length c0_0, .slice A0_1 l0_1.length c0_1, .slice A0_2 l0_2.length c0_2, .int .i64 a0_3, .int .i64 a0_4], .int .i64 1048576] rfl (by (try simp only [List.map_toArray, List.map_cons, List.map_nil]); first | done | rfl | (simp only [List.length_drop, List.length_take]; rfl)) ?_; (with_reducible refine (laws_szExploration.calls _ _ l0_0 _ _ l0_1 _ _ l0_2 a0_3 a0_4 1048576 t275 _ ?side1 ?side2 ?side3 ?side4 ?side5 ?side6 A2.out).mono ?_); (case side1 => repeat (first | exact (Kd.C_below HR0_0.out HB.out) | (with_reducible refine Kd.C_alloc ?_ _) | (with_reducible refine Kd.C_drewN ?_ _) | (with_reducible refine Kd.C_drew ?_))); (case side2 => exact HC0_0.out); (case side3 => repeat (first | exact (Kd.C_below HR0_1.out HB.out) | (with_reducible refine Kd.C_alloc ?_ _) | (with_reducible refine Kd.C_drewN ?_ _) | (with_reducible refine Kd.C_drew ?_))); (case side4 => exact HC0_1.out); (case side5 => repeat (first | exact (Kd.C_below HR0_2.out HB.out) | (with_reducible refine Kd.C_alloc ?_ _) | (with_reducible refine Kd.C_drewN ?_ _) | (with_reducible refine Kd.C_drew ?_))); (case side6 => exact HC0_2.out); rintro e w14 ⟨rfl, hb⟩; refine ⟨_, rfl, ?_⟩; have n0_ := Aside0.mk (blk_below (g := gb274) (o := .cells #[.slice A0_0 l0_0.length c0_0, .slice A0_1 l0_1.length c0_1, .slice A0_2 l0_2.length c0_2, .int .i64 a0_3, .int .i64 a0_4] 50 (0, 0)) (by (with_reducible repeat (first | refine blk_drewN ?_ _ | refine blk_drew ?_ | refine blk_alloc ?_ _)); exact BK274.out) hb); have n1_ := Aside0.mk (below_step (by repeat (first | (with_reducible first | exact HB.out | apply below_alloc | apply pw_below_drewN | apply below_drew1 | refine below_set ?_ GE274.out) | exact HB.out)) hb); clear BK274; clear HB; have BK274 := n0_; have HB := n1_; clear n0_ n1_; (try clear hb); (try clear hb2); (try clear hk); (try clear hi); have hcz15_0 : w14.cell? ⟨gb274, 0, none⟩ = some (.slice A0_0 l0_0.length c0_0) := (blk_cell BK274.out 0).trans rfl; have hcz15_1 : w14.cell? ⟨gb274, 1, none⟩ = some (.slice A0_1 l0_1.length c0_1) := (blk_cell BK274.out 1).trans rfl; have hcz15_2 : w14.cell? ⟨gb274, 2, none⟩ = some (.slice A0_2 l0_2.length c0_2) := (blk_cell BK274.out 2).trans rfl; have hcz15_3 : w14.cell? ⟨gb274, 3, none⟩ = some (.int .i64 a0_3) := (blk_cell BK274.out 3).trans rfl; have hcz15_4 : w14.cell? ⟨gb274, 4, none⟩ = some (.int .i64 a0_4) := (blk_cell BK274.out 4).trans rfl; have hfz15_0 := blk_frozen BK274.out 0; have hfz15_1 := blk_frozen BK274.out 1; have hfz15_2 := blk_frozen BK274.out 2; have hfz15_3 := blk_frozen BK274.out 3; have hfz15_4 := blk_frozen BK274.out 4) | ((with_reducible refine gate_callee (f := 26) rfl ?_); refine goesL_ (some 21) rfl rfl Try.func26 (by kernel_rfl) rfl #[.agg #[.slice A0_0 l0_0.length c0_0, .slice A0_1 l0_1.length c0_1, .slice A0_2 l0_2.length c0_2, .int .i64 a0_3, .int .i64 a0_4]] rfl (by (try simp only [List.map_toArray, List.map_cons, List.map_nil]); first | done | rfl | (simp only [List.length_drop, List.length_take]; rfl)) ?_; (with_reducible refine (laws_toExploration.calls k _ _ l0_0 _ _ l0_1 _ _ l0_2 a0_3 a0_4 t276 t279 t282 t285 t286 _ ?side1 ?side2 ?side3 ?side4 ?side5 ?side6 A7.out).mono ?_); (case side1 => repeat (first | exact (Kd.C_below HR0_0.out HB.out) | (with_reducible refine Kd.C_alloc ?_ _) | (with_reducible refine Kd.C_drewN ?_ _) | (with_reducible refine Kd.C_drew ?_))); (case side2 => exact HC0_0.out); (case side3 => repeat (first | exact (Kd.C_below HR0_1.out HB.out) | (with_reducible refine Kd.C_alloc ?_ _) | (with_reducible refine Kd.C_drewN ?_ _) | (with_reducible refine Kd.C_drew ?_))); (case side4 => exact HC0_1.out); (case side5 => repeat (first | exact (Kd.C_below HR0_2.out HB.out) | (with_reducible refine Kd.C_alloc ?_ _) | (with_reducible refine Kd.C_drewN ?_ _) | (with_reducible refine Kd.C_drew ?_))); (case side6 => exact HC0_2.out); rintro e w16 ⟨v277, v280, v283, rfl, ho0, ho1, ho2, hb⟩; refine ⟨_, rfl, ?_⟩; have n0_ := Aside0.mk (Kd.R_lower ho0 (below_size (by repeat (first | (with_reducible first | exact HB.out | apply below_alloc | apply pw_below_drewN | apply below_drew1 | refine below_set ?_ GE274.out) | exact HB.out)))); have n1_ := Aside0.mk (Kd.R_lower ho1 (below_size (by repeat (first | (with_reducible first | exact HB.out | apply below_alloc | apply pw_below_drewN | apply below_drew1 | refine below_set ?_ GE274.out) | exact HB.out)))); have n2_ := Aside0.mk (Kd.R_lower ho2 (below_size (by repeat (first | (with_reducible first | exact HB.out | apply below_alloc | apply pw_below_drewN | apply below_drew1 | refine below_set ?_ GE274.out) | exact HB.out)))); have n3_ := Aside0.mk (blk_below (g := gb274) (o := .cells #[.slice A0_0 l0_0.length c0_0, .slice A0_1 l0_1.length c0_1, .slice A0_2 l0_2.length c0_2, .int .i64 a0_3, .int .i64 a0_4] 50 (0, 0)) (by (with_reducible repeat (first | refine blk_drewN ?_ _ | refine blk_drew ?_ | refine blk_alloc ?_ _)); exact BK274.out) hb); have n4_ := Aside0.mk (below_step (by repeat (first | (with_reducible first | exact HB.out | apply below_alloc | apply pw_below_drewN | apply below_drew1 | refine below_set ?_ GE274.out) | exact HB.out)) hb); clear BK274; clear HB; have HO278 := n0_; have HO281 := n1_; have HO284 := n2_; have BK274 := n3_; have HB := n4_; clear n0_ n1_ n2_ n3_ n4_; (try clear hb); (try clear hb2); (try clear hk); (try clear hi); (try clear ho0); (try clear ho1); (try clear ho2); obtain ⟨Ao17, co17, eo17⟩ := Kd.R_slice HO278.out; subst eo17; obtain ⟨Ao18, co18, eo18⟩ := Kd.R_slice HO281.out; subst eo18; obtain ⟨Ao19, co19, eo19⟩ := Kd.R_slice HO284.out; subst eo19) | ((with_reducible refine gate_callee (f := 25) rfl ?_); refine goesL_ (some 22) rfl rfl Try.func25 (by kernel_rfl) rfl #[.agg #[.slice Ao17 t276.length co17, .slice Ao18 t279.length co18, .slice Ao19 t282.length co19, .int .i64 t285, .int .i64 t286]] rfl (by (try simp only [List.map_toArray, List.map_cons, List.map_nil]); first | done | rfl | (simp only [List.length_drop, List.length_take]; rfl)) ?_; (with_reducible refine (spec_OpenLeads.calls k _ _ t276 _ _ t279 _ _ t282 t285 t286 t287 t290 _ ?side1 ?side2 ?side3 ?side4 ?side5 ?side6 A8.out).mono ?_); (case side1 => repeat (first | exact (Kd.R_reads' HO278.out).2.2 | (with_reducible refine Kd.C_alloc ?_ _) | (with_reducible refine Kd.C_drewN ?_ _) | (with_reducible refine Kd.C_drew ?_))); (case side2 => exact (Kd.R_reads' HO278.out).2.1); (case side3 => repeat (first | exact (Kd.R_reads' HO281.out).2.2 | (with_reducible refine Kd.C_alloc ?_ _) | (with_reducible refine Kd.C_drewN ?_ _) | (with_reducible refine Kd.C_drew ?_))); (case side4 => exact (Kd.R_reads' HO281.out).2.1); (case side5 => repeat (first | exact (Kd.R_reads' HO284.out).2.2 | (with_reducible refine Kd.C_alloc ?_ _) | (with_reducible refine Kd.C_drewN ?_ _) | (with_reducible refine Kd.C_drew ?_))); (case side6 => exact (Kd.R_reads' HO284.out).2.1); rintro e w20 ⟨v288, rfl, ho0, hb⟩; refine ⟨_, rfl, ?_⟩; have n0_ := Aside0.mk (Kd.R_below (by (with_reducible repeat (first | apply Kd.R_alloc | apply Kd.R_drewN | apply Kd.R_drew)); exact HO278.out) hb); have n1_ := Aside0.mk (Kd.R_below (by (with_reducible repeat (first | apply Kd.R_alloc | apply Kd.R_drewN | apply Kd.R_drew)); exact HO281.out) hb); have n2_ := Aside0.mk (Kd.R_below (by (with_reducible repeat (first | apply Kd.R_alloc | apply Kd.R_drewN | apply Kd.R_drew)); exact HO284.out) hb); have n3_ := Aside0.mk (Kd.R_lower ho0 (below_size (by repeat (first | (with_reducible first | exact HB.out | apply below_alloc | apply pw_below_drewN | apply below_drew1 | refine below_set ?_ GE274.out) | exact HB.out)))); have n4_ := Aside0.mk (blk_below (g := gb274) (o := .cells #[.slice A0_0 l0_0.length c0_0, .slice A0_1 l0_1.length c0_1, .slice A0_2 l0_2.length c0_2, .int .i64 a0_3, .int .i64 a0_4] 50 (0, 0)) (by (with_reducible repeat (first | refine blk_drewN ?_ _ | refine blk_drew ?_ | refine blk_alloc ?_ _)); exact BK274.out) hb); have n5_ := Aside0.mk (below_step (by repeat (first | (with_reducible first | exact HB.out | apply below_alloc | apply pw_below_drewN | apply below_drew1 | refine below_set ?_ GE274.out) | exact HB.out)) hb); clear HO278; clear HO281; clear HO284; clear BK274; clear HB; have HO278 := n0_; have HO281 := n1_; have HO284 := n2_; have HO289 := n3_; have BK274 := n4_; have HB := n5_; clear n0_ n1_ n2_ n3_ n4_ n5_; (try clear hb); (try clear hb2); (try clear hk); (try clear hi); (try clear ho0); have hcz21_0 : w20.cell? ⟨gb274, 0, none⟩ = some (.slice A0_0 l0_0.length c0_0) := (blk_cell BK274.out 0).trans rfl; have hcz21_1 : w20.cell? ⟨gb274, 1, none⟩ = some (.slice A0_1 l0_1.length c0_1) := (blk_cell BK274.out 1).trans rfl; have hcz21_2 : w20.cell? ⟨gb274, 2, none⟩ = some (.slice A0_2 l0_2.length c0_2) := (blk_cell BK274.out 2).trans rfl; have hcz21_3 : w20.cell? ⟨gb274, 3, none⟩ = some (.int .i64 a0_3) := (blk_cell BK274.out 3).trans rfl; have hcz21_4 : w20.cell? ⟨gb274, 4, none⟩ = some (.int .i64 a0_4) := (blk_cell BK274.out 4).trans rfl; have hfz21_0 := blk_frozen BK274.out 0; have hfz21_1 := blk_frozen BK274.out 1; have hfz21_2 := blk_frozen BK274.out 2; have hfz21_3 := blk_frozen BK274.out 3; have hfz21_4 := blk_frozen BK274.out 4) | ((with_reducible refine gate_callee (f := 26) rfl ?_); refine goesL_ (some 26) rfl rfl Try.func26 (by kernel_rfl) rfl #[.agg #[.slice A0_0 l0_0.length c0_0, .slice A0_1 l0_1.length c0_1, .slice A0_2 l0_2.length c0_2, .int .i64 a0_3, .int .i64 a0_4]] rfl (by (try simp only [List.map_toArray, List.map_cons, List.map_nil]); first | done | rfl | (simp only [List.length_drop, List.length_take]; rfl)) ?_; (with_reducible refine (laws_toExploration.calls k _ _ l0_0 _ _ l0_1 _ _ l0_2 a0_3 a0_4 t291 t294 t297 t300 t301 _ ?side1 ?side2 ?side3 ?side4 ?side5 ?side6 A9.out).mono ?_); (case side1 => repeat (first | exact (Kd.C_below HR0_0.out HB.out) | (with_reducible refine Kd.C_alloc ?_ _) | (with_reducible refine Kd.C_drewN ?_ _) | (with_reducible refine Kd.C_drew ?_))); (case side2 => exact HC0_0.out); (case side3 => repeat (first | exact (Kd.C_below HR0_1.out HB.out) | (with_reducible refine Kd.C_alloc ?_ _) | (with_reducible refine Kd.C_drewN ?_ _) | (with_reducible refine Kd.C_drew ?_))); (case side4 => exact HC0_1.out); (case side5 => repeat (first | exact (Kd.C_below HR0_2.out HB.out) | (with_reducible refine Kd.C_alloc ?_ _) | (with_reducible refine Kd.C_drewN ?_ _) | (with_reducible refine Kd.C_drew ?_))); (case side6 => exact HC0_2.out); rintro e w22 ⟨v292, v295, v298, rfl, ho0, ho1, ho2, hb⟩; refine ⟨_, rfl, ?_⟩; have n0_ := Aside0.mk (Kd.R_elder' (by (with_reducible repeat (first | apply Kd.R_alloc | apply Kd.R_drewN | apply Kd.R_drew)); exact HO278.out) (Kd.R_base ho0) hb); have n1_ := Aside0.mk (Kd.R_mono (Kd.R_told (Kd.R_told (Kd.R_old (by (with_reducible repeat (first | apply Kd.R_alloc | apply Kd.R_drewN | apply Kd.R_drew)); exact HO281.out) hb) (Kd.R_base ho1)) (Kd.R_base ho2)) (fun _ h_ => h_.1)); have n2_ := Aside0.mk (Kd.R_mono (Kd.R_told (Kd.R_told (Kd.R_old (by (with_reducible repeat (first | apply Kd.R_alloc | apply Kd.R_drewN | apply Kd.R_drew)); exact HO284.out) hb) (Kd.R_base ho1)) (Kd.R_base ho2)) (fun _ h_ => h_.1)); have n3_ := Aside0.mk (Kd.R_below (by (with_reducible repeat (first | apply Kd.R_alloc | apply Kd.R_drewN | apply Kd.R_drew)); exact HO289.out) hb); have n4_ := Aside0.mk (Kd.R_lower (Kd.R_new' ho0 (Kd.R_lt (by (with_reducible repeat (first | apply Kd.R_alloc | apply Kd.R_drewN | apply Kd.R_drew)); exact HO278.out))) (below_size (by repeat (first | (with_reducible first | exact HB.out | apply below_alloc | apply pw_below_drewN | apply below_drew1 | refine below_set ?_ GE274.out) | exact HB.out)))); have n5_ := Aside0.mk (Kd.R_lower (Kd.R_new' (Kd.R_new' ho1 (Kd.R_lt (by (with_reducible repeat (first | apply Kd.R_alloc | apply Kd.R_drewN | apply Kd.R_drew)); exact HO281.out))) (Kd.R_lt (by (with_reducible repeat (first | apply Kd.R_alloc | apply Kd.R_drewN | apply Kd.R_drew)); exact HO284.out))) (below_size (by repeat (first | (with_reducible first | exact HB.out | apply below_alloc | apply pw_below_drewN | apply below_drew1 | refine below_set ?_ GE274.out) | exact HB.out)))); have n6_ := Aside0.mk (Kd.R_lower (Kd.R_new' (Kd.R_new' ho2 (Kd.R_lt (by (with_reducible repeat (first | apply Kd.R_alloc | apply Kd.R_drewN | apply Kd.R_drew)); exact HO281.out))) (Kd.R_lt (by (with_reducible repeat (first | apply Kd.R_alloc | apply Kd.R_drewN | apply Kd.R_drew)); exact HO284.out))) (below_size (by repeat (first | (with_reducible first | exact HB.out | apply below_alloc | apply pw_below_drewN | apply below_drew1 | refine below_set ?_ GE274.out) | exact HB.out)))); have n7_ := Aside0.mk (blk_below (g := gb274) (o := .cells #[.slice A0_0 l0_0.length c0_0, .slice A0_1 l0_1.length c0_1, .slice A0_2 l0_2.length c0_2, .int .i64 a0_3, .int .i64 a0_4] 50 (0, 0)) (by (with_reducible repeat (first | refine blk_drewN ?_ _ | refine blk_drew ?_ | refine blk_alloc ?_ _)); exact BK274.out) hb); have n8_ := Aside0.mk (below_step (by repeat (first | (with_reducible first | exact HB.out | apply below_alloc | apply pw_below_drewN | apply below_drew1 | refine below_set ?_ GE274.out) | exact HB.out)) hb); clear HO278; clear HO281; clear HO284; clear HO289; clear BK274; clear HB; have HO278 := n0_; have HO281 := n1_; have HO284 := n2_; have HO289 := n3_; have HO293 := n4_; have HO296 := n5_; have HO299 := n6_; have BK274 := n7_; have HB := n8_; clear n0_ n1_ n2_ n3_ n4_ n5_ n6_ n7_ n8_; (try clear hb); (try clear hb2); (try clear hk); (try clear hi); (try clear ho0); (try clear ho1); (try clear ho2)) | ((with_reducible refine gate_dst (N := 6) rfl ?_); refine box_event ?hg (N := 6) ?hd (cs := #[.slice none 0 0, .slice none 0 0, .slice none 0 0, .int .i64 0, .int .i64 0]) (t := 27) ?hr ?_; (case hd => rfl); (case hg => rfl); (case hr => first | (go_simp; done) | (go_simp; rfl)); intro gb302 hg w23 hbox hb; have n0_ := Aside0.mk (Kd.R_below (by (with_reducible repeat (first | apply Kd.R_alloc | apply Kd.R_drewN | apply Kd.R_drew)); exact HO278.out) hb); have n1_ := Aside0.mk (Kd.R_below (by (with_reducible repeat (first | apply Kd.R_alloc | apply Kd.R_drewN | apply Kd.R_drew)); exact HO281.out) hb); have n2_ := Aside0.mk (Kd.R_below (by (with_reducible repeat (first | apply Kd.R_alloc | apply Kd.R_drewN | apply Kd.R_drew)); exact HO284.out) hb); have n3_ := Aside0.mk (Kd.R_below (by (with_reducible repeat (first | apply Kd.R_alloc | apply Kd.R_drewN | apply Kd.R_drew)); exact HO289.out) hb); have n4_ := Aside0.mk (Kd.R_below (by (with_reducible repeat (first | apply Kd.R_alloc | apply Kd.R_drewN | apply Kd.R_drew)); exact HO293.out) hb); have n5_ := Aside0.mk (Kd.R_below (by (with_reducible repeat (first | apply Kd.R_alloc | apply Kd.R_drewN | apply Kd.R_drew)); exact HO296.out) hb); have n6_ := Aside0.mk (Kd.R_below (by (with_reducible repeat (first | apply Kd.R_alloc | apply Kd.R_drewN | apply Kd.R_drew)); exact HO299.out) hb); have n7_ := Aside0.mk (blk_below (g := gb274) (o := .cells #[.slice A0_0 l0_0.length c0_0, .slice A0_1 l0_1.length c0_1, .slice A0_2 l0_2.length c0_2, .int .i64 a0_3, .int .i64 a0_4] 50 (0, 0)) (by (with_reducible repeat (first | refine blk_drewN ?_ _ | refine blk_drew ?_ | refine blk_alloc ?_ _)); exact BK274.out) hb); have n8_ := Aside0.mk (below_step (by repeat (first | (with_reducible first | exact HB.out | apply below_alloc | apply pw_below_drewN | apply below_drew1 | refine below_set ?_ GE274.out) | exact HB.out)) hb); have n9_ := Aside0.mk (hbox); have n10_ := Aside0.mk ((by rw [hg]; exact (below_size (by repeat (first | (with_reducible first | exact HB.out | apply below_alloc | apply pw_below_drewN | apply below_drew1 | refine below_set ?_ GE274.out) | exact HB.out))) : w.heap.size ≤ gb302)); have n11_ := Aside0.mk ((by rw [hg]; exact (below_size (by repeat (first | (with_reducible first | exact HB.out | apply below_alloc | apply pw_below_drewN | apply below_drew1 | refine below_set ?_ GE274.out) | exact HB.out))) : w.heap.size ≤ gb302)); have n12_ := Aside0.mk ((by rw [hg]; exact Nat.ne_of_lt (blk_lt (g := gb274) (o := .cells #[.slice A0_0 l0_0.length c0_0, .slice A0_1 l0_1.length c0_1, .slice A0_2 l0_2.length c0_2, .int .i64 a0_3, .int .i64 a0_4] 50 (0, 0)) (by (with_reducible repeat (first | refine blk_drewN ?_ _ | refine blk_drew ?_ | refine blk_alloc ?_ _)); exact BK274.out)) : gb274 ≠ gb302)); have n13_ := Aside0.mk ((by rw [hg]; exact Nat.ne_of_gt (blk_lt (g := gb274) (o := .cells #[.slice A0_0 l0_0.length c0_0, .slice A0_1 l0_1.length c0_1, .slice A0_2 l0_2.length c0_2, .int .i64 a0_3, .int .i64 a0_4] 50 (0, 0)) (by (with_reducible repeat (first | refine blk_drewN ?_ _ | refine blk_drew ?_ | refine blk_alloc ?_ _)); exact BK274.out)) : gb302 ≠ gb274)); clear HO278; clear HO281; clear HO284; clear HO289; clear HO293; clear HO296; clear HO299; clear BK274; clear HB; have HO278 := n0_; have HO281 := n1_; have HO284 := n2_; have HO289 := n3_; have HO293 := n4_; have HO296 := n5_; have HO299 := n6_; have BK274 := n7_; have HB := n8_; have BK302 := n9_; have GW302 := n10_; have GE302 := n11_; have NB274_302 := n12_; have NB302_274 := n13_; clear n0_ n1_ n2_ n3_ n4_ n5_ n6_ n7_ n8_ n9_ n10_ n11_ n12_ n13_; clear hb hbox hg; obtain ⟨Ao24, co24, eo24⟩ := Kd.R_slice HO293.out; subst eo24; have hnb25 := NB302_274.out; have hnc25 := NB274_302.out; have hcz26_0 : w23.cell? ⟨gb302, 0, none⟩ = some (.slice none 0 0) := (blk_cell BK302.out 0).trans rfl; have hcz26_1 : w23.cell? ⟨gb302, 1, none⟩ = some (.slice none 0 0) := (blk_cell BK302.out 1).trans rfl; have hcz26_2 : w23.cell? ⟨gb302, 2, none⟩ = some (.slice none 0 0) := (blk_cell BK302.out 2).trans rfl; have hcz26_3 : w23.cell? ⟨gb302, 3, none⟩ = some (.int .i64 0) := (blk_cell BK302.out 3).trans rfl; have hcz26_4 : w23.cell? ⟨gb302, 4, none⟩ = some (.int .i64 0) := (blk_cell BK302.out 4).trans rfl; have hfz26_0 := blk_frozen BK302.out 0; have hfz26_1 := blk_frozen BK302.out 1; have hfz26_2 := blk_frozen BK302.out 2; have hfz26_3 := blk_frozen BK302.out 3; have hfz26_4 := blk_frozen BK302.out 4; obtain ⟨Ao27, co27, eo27⟩ := Kd.R_slice HO296.out; subst eo27; obtain ⟨Ao28, co28, eo28⟩ := Kd.R_slice HO299.out; subst eo28) | ((with_reducible refine gate_callee (f := 27) rfl ?_); refine goesL_ (some 29) rfl rfl Try.func27 (by kernel_rfl) rfl #[.agg #[.slice Ao24 t291.length co24, .slice Ao27 t294.length co27, .slice Ao28 t297.length co28, .int .i64 t300, .int .i64 t301]] rfl (by (try simp only [List.map_toArray, List.map_cons, List.map_nil]); first | done | rfl | (simp only [List.length_drop, List.length_take]; rfl)) ?_; (with_reducible refine (impl_OpenLeads.calls k _ _ t291 _ _ t294 _ _ t297 t300 t301 t303 t306 _ ?side1 ?side2 ?side3 ?side4 ?side5 ?side6 A10.out).mono ?_); (case side1 => refine (Kd.R_reads' (e := 29) (base := w.heap.size) (ok := fun k_ => (True ∧ some k_ ≠ (.slice Ao17 t276.length co17 : Value).ownBlock)) (n := t291.length) (c := co24) ?_).2.2; exact (by (with_reducible repeat (first | apply Kd.R_alloc | apply Kd.R_drewN | apply Kd.R_drew)); exact (Kd.R_mono (Kd.R_far (p := ⟨gb302, 4, none⟩) (Kd.R_far (p := ⟨gb302, 3, none⟩) (Kd.R_far (p := ⟨gb302, 2, none⟩) (Kd.R_far (p := ⟨gb302, 1, none⟩) (Kd.R_far (p := ⟨gb302, 0, none⟩) (Kd.R_types HO293.out BK302.out (by decide)) (fun _ hk => hk.2) (.slice Ao24 t291.length co24)) (fun _ hk => hk.2) (.slice Ao27 t294.length co27)) (fun _ hk => hk.2) (.slice Ao28 t297.length co28)) (fun _ hk => hk.2) (.int .i64 t300)) (fun _ hk => hk.2) (.int .i64 t301)) (fun _ h_ => h_.1)))); (case side2 => exact (Kd.R_reads' HO293.out).2.1); (case side3 => refine (Kd.R_reads' (e := 4) (base := w.heap.size) (ok := fun k_ => ((some k_ ≠ (.slice Ao28 t297.length co28 : Value).ownBlock ∧ some k_ ≠ (.slice Ao18 t279.length co18 : Value).ownBlock) ∧ some k_ ≠ (.slice Ao19 t282.length co19 : Value).ownBlock)) (n := t294.length) (c := co27) ?_).2.2; exact (by (with_reducible repeat (first | apply Kd.R_alloc | apply Kd.R_drewN | apply Kd.R_drew)); exact (Kd.R_mono (Kd.R_far (p := ⟨gb302, 4, none⟩) (Kd.R_far (p := ⟨gb302, 3, none⟩) (Kd.R_far (p := ⟨gb302, 2, none⟩) (Kd.R_far (p := ⟨gb302, 1, none⟩) (Kd.R_far (p := ⟨gb302, 0, none⟩) (Kd.R_types HO296.out BK302.out (by decide)) (fun _ hk => hk.2) (.slice Ao24 t291.length co24)) (fun _ hk => hk.2) (.slice Ao27 t294.length co27)) (fun _ hk => hk.2) (.slice Ao28 t297.length co28)) (fun _ hk => hk.2) (.int .i64 t300)) (fun _ hk => hk.2) (.int .i64 t301)) (fun _ h_ => h_.1)))); (case side4 => exact (Kd.R_reads' HO296.out).2.1); (case side5 => refine (Kd.R_reads' (e := 4) (base := w.heap.size) (ok := fun k_ => ((some k_ ≠ (.slice Ao27 t294.length co27 : Value).ownBlock ∧ some k_ ≠ (.slice Ao18 t279.length co18 : Value).ownBlock) ∧ some k_ ≠ (.slice Ao19 t282.length co19 : Value).ownBlock)) (n := t297.length) (c := co28) ?_).2.2; exact (by (with_reducible repeat (first | apply Kd.R_alloc | apply Kd.R_drewN | apply Kd.R_drew)); exact (Kd.R_mono (Kd.R_far (p := ⟨gb302, 4, none⟩) (Kd.R_far (p := ⟨gb302, 3, none⟩) (Kd.R_far (p := ⟨gb302, 2, none⟩) (Kd.R_far (p := ⟨gb302, 1, none⟩) (Kd.R_far (p := ⟨gb302, 0, none⟩) (Kd.R_types HO299.out BK302.out (by decide)) (fun _ hk => hk.2) (.slice Ao24 t291.length co24)) (fun _ hk => hk.2) (.slice Ao27 t294.length co27)) (fun _ hk => hk.2) (.slice Ao28 t297.length co28)) (fun _ hk => hk.2) (.int .i64 t300)) (fun _ hk => hk.2) (.int .i64 t301)) (fun _ h_ => h_.1)))); (case side6 => exact (Kd.R_reads' HO299.out).2.1); rintro e w29 ⟨v304, rfl, ho0, hb⟩; refine ⟨_, rfl, ?_⟩; have n0_ := Aside0.mk (Kd.R_below (by (with_reducible repeat (first | apply Kd.R_alloc | apply Kd.R_drewN | apply Kd.R_drew)); exact (Kd.R_mono (Kd.R_far (p := ⟨gb302, 4, none⟩) (Kd.R_far (p := ⟨gb302, 3, none⟩) (Kd.R_far (p := ⟨gb302, 2, none⟩) (Kd.R_far (p := ⟨gb302, 1, none⟩) (Kd.R_far (p := ⟨gb302, 0, none⟩) (Kd.R_types HO278.out BK302.out (by decide)) (fun _ hk => hk.2) (.slice Ao24 t291.length co24)) (fun _ hk => hk.2) (.slice Ao27 t294.length co27)) (fun _ hk => hk.2) (.slice Ao28 t297.length co28)) (fun _ hk => hk.2) (.int .i64 t300)) (fun _ hk => hk.2) (.int .i64 t301)) (fun _ h_ => h_.1))) hb); have n1_ := Aside0.mk (Kd.R_below (by (with_reducible repeat (first | apply Kd.R_alloc | apply Kd.R_drewN | apply Kd.R_drew)); exact (Kd.R_mono (Kd.R_far (p := ⟨gb302, 4, none⟩) (Kd.R_far (p := ⟨gb302, 3, none⟩) (Kd.R_far (p := ⟨gb302, 2, none⟩) (Kd.R_far (p := ⟨gb302, 1, none⟩) (Kd.R_far (p := ⟨gb302, 0, none⟩) (Kd.R_types HO281.out BK302.out (by decide)) (fun _ hk => hk.2) (.slice Ao24 t291.length co24)) (fun _ hk => hk.2) (.slice Ao27 t294.length co27)) (fun _ hk => hk.2) (.slice Ao28 t297.length co28)) (fun _ hk => hk.2) (.int .i64 t300)) (fun _ hk => hk.2) (.int .i64 t301)) (fun _ h_ => h_.1))) hb); have n2_ := Aside0.mk (Kd.R_below (by (with_reducible repeat (first | apply Kd.R_alloc | apply Kd.R_drewN | apply Kd.R_drew)); exact (Kd.R_mono (Kd.R_far (p := ⟨gb302, 4, none⟩) (Kd.R_far (p := ⟨gb302, 3, none⟩) (Kd.R_far (p := ⟨gb302, 2, none⟩) (Kd.R_far (p := ⟨gb302, 1, none⟩) (Kd.R_far (p := ⟨gb302, 0, none⟩) (Kd.R_types HO284.out BK302.out (by decide)) (fun _ hk => hk.2) (.slice Ao24 t291.length co24)) (fun _ hk => hk.2) (.slice Ao27 t294.length co27)) (fun _ hk => hk.2) (.slice Ao28 t297.length co28)) (fun _ hk => hk.2) (.int .i64 t300)) (fun _ hk => hk.2) (.int .i64 t301)) (fun _ h_ => h_.1))) hb); have n3_ := Aside0.mk (Kd.R_elder' (by (with_reducible repeat (first | apply Kd.R_alloc | apply Kd.R_drewN | apply Kd.R_drew)); exact (Kd.R_mono (Kd.R_far (p := ⟨gb302, 4, none⟩) (Kd.R_far (p := ⟨gb302, 3, none⟩) (Kd.R_far (p := ⟨gb302, 2, none⟩) (Kd.R_far (p := ⟨gb302, 1, none⟩) (Kd.R_far (p := ⟨gb302, 0, none⟩) (Kd.R_types HO289.out BK302.out (by decide)) (fun _ hk => hk.2) (.slice Ao24 t291.length co24)) (fun _ hk => hk.2) (.slice Ao27 t294.length co27)) (fun _ hk => hk.2) (.slice Ao28 t297.length co28)) (fun _ hk => hk.2) (.int .i64 t300)) (fun _ hk => hk.2) (.int .i64 t301)) (fun _ h_ => h_.1))) (Kd.R_base ho0) hb); have n4_ := Aside0.mk (Kd.R_below (by (with_reducible repeat (first | apply Kd.R_alloc | apply Kd.R_drewN | apply Kd.R_drew)); exact (Kd.R_mono (Kd.R_far (p := ⟨gb302, 4, none⟩) (Kd.R_far (p := ⟨gb302, 3, none⟩) (Kd.R_far (p := ⟨gb302, 2, none⟩) (Kd.R_far (p := ⟨gb302, 1, none⟩) (Kd.R_far (p := ⟨gb302, 0, none⟩) (Kd.R_types HO293.out BK302.out (by decide)) (fun _ hk => hk.2) (.slice Ao24 t291.length co24)) (fun _ hk => hk.2) (.slice Ao27 t294.length co27)) (fun _ hk => hk.2) (.slice Ao28 t297.length co28)) (fun _ hk => hk.2) (.int .i64 t300)) (fun _ hk => hk.2) (.int .i64 t301)) (fun _ h_ => h_.1))) hb); have n5_ := Aside0.mk (Kd.R_below (by (with_reducible repeat (first | apply Kd.R_alloc | apply Kd.R_drewN | apply Kd.R_drew)); exact (Kd.R_mono (Kd.R_far (p := ⟨gb302, 4, none⟩) (Kd.R_far (p := ⟨gb302, 3, none⟩) (Kd.R_far (p := ⟨gb302, 2, none⟩) (Kd.R_far (p := ⟨gb302, 1, none⟩) (Kd.R_far (p := ⟨gb302, 0, none⟩) (Kd.R_types HO296.out BK302.out (by decide)) (fun _ hk => hk.2) (.slice Ao24 t291.length co24)) (fun _ hk => hk.2) (.slice Ao27 t294.length co27)) (fun _ hk => hk.2) (.slice Ao28 t297.length co28)) (fun _ hk => hk.2) (.int .i64 t300)) (fun _ hk => hk.2) (.int .i64 t301)) (fun _ h_ => h_.1))) hb); have n6_ := Aside0.mk (Kd.R_below (by (with_reducible repeat (first | apply Kd.R_alloc | apply Kd.R_drewN | apply Kd.R_drew)); exact (Kd.R_mono (Kd.R_far (p := ⟨gb302, 4, none⟩) (Kd.R_far (p := ⟨gb302, 3, none⟩) (Kd.R_far (p := ⟨gb302, 2, none⟩) (Kd.R_far (p := ⟨gb302, 1, none⟩) (Kd.R_far (p := ⟨gb302, 0, none⟩) (Kd.R_types HO299.out BK302.out (by decide)) (fun _ hk => hk.2) (.slice Ao24 t291.length co24)) (fun _ hk => hk.2) (.slice Ao27 t294.length co27)) (fun _ hk => hk.2) (.slice Ao28 t297.length co28)) (fun _ hk => hk.2) (.int .i64 t300)) (fun _ hk => hk.2) (.int .i64 t301)) (fun _ h_ => h_.1))) hb); have n7_ := Aside0.mk (Kd.R_lower (Kd.R_new' ho0 (Kd.R_lt (by (with_reducible repeat (first | apply Kd.R_alloc | apply Kd.R_drewN | apply Kd.R_drew)); exact (Kd.R_mono (Kd.R_far (p := ⟨gb302, 4, none⟩) (Kd.R_far (p := ⟨gb302, 3, none⟩) (Kd.R_far (p := ⟨gb302, 2, none⟩) (Kd.R_far (p := ⟨gb302, 1, none⟩) (Kd.R_far (p := ⟨gb302, 0, none⟩) (Kd.R_types HO289.out BK302.out (by decide)) (fun _ hk => hk.2) (.slice Ao24 t291.length co24)) (fun _ hk => hk.2) (.slice Ao27 t294.length co27)) (fun _ hk => hk.2) (.slice Ao28 t297.length co28)) (fun _ hk => hk.2) (.int .i64 t300)) (fun _ hk => hk.2) (.int .i64 t301)) (fun _ h_ => h_.1))))) (below_size (by repeat (first | (with_reducible first | exact HB.out | apply below_alloc | apply pw_below_drewN | apply below_drew1 | refine below_set ?_ GE274.out | refine below_set ?_ GE302.out) | exact HB.out)))); have n8_ := Aside0.mk (blk_below (g := gb274) (o := .cells #[.slice A0_0 l0_0.length c0_0, .slice A0_1 l0_1.length c0_1, .slice A0_2 l0_2.length c0_2, .int .i64 a0_3, .int .i64 a0_4] 50 (0, 0)) (by (with_reducible repeat (first | refine blk_drewN ?_ _ | refine blk_drew ?_ | refine blk_alloc ?_ _)); refine blk_far ?_ NB274_302.out _; (with_reducible repeat (first | refine blk_drewN ?_ _ | refine blk_drew ?_ | refine blk_alloc ?_ _)); refine blk_far ?_ NB274_302.out _; (with_reducible repeat (first | refine blk_drewN ?_ _ | refine blk_drew ?_ | refine blk_alloc ?_ _)); refine blk_far ?_ NB274_302.out _; (with_reducible repeat (first | refine blk_drewN ?_ _ | refine blk_drew ?_ | refine blk_alloc ?_ _)); refine blk_far ?_ NB274_302.out _; (with_reducible repeat (first | refine blk_drewN ?_ _ | refine blk_drew ?_ | refine blk_alloc ?_ _)); refine blk_far ?_ NB274_302.out _; (with_reducible repeat (first | refine blk_drewN ?_ _ | refine blk_drew ?_ | refine blk_alloc ?_ _)); exact BK274.out) hb); have n9_ := Aside0.mk (blk_below (g := gb302) (o := .cells #[.slice Ao24 t291.length co24, .slice Ao27 t294.length co27, .slice Ao28 t297.length co28, .int .i64 t300, .int .i64 t301] 27 (0, 0)) (by (with_reducible repeat (first | refine blk_drewN ?_ _ | refine blk_drew ?_ | refine blk_alloc ?_ _)); refine blk_put (cs := #[.slice Ao24 t291.length co24, .slice Ao27 t294.length co27, .slice Ao28 t297.length co28, .int .i64 t300, .int .i64 0]) ?_ 4 _ rfl; (with_reducible repeat (first | refine blk_drewN ?_ _ | refine blk_drew ?_ | refine blk_alloc ?_ _)); refine blk_put (cs := #[.slice Ao24 t291.length co24, .slice Ao27 t294.length co27, .slice Ao28 t297.length co28, .int .i64 0, .int .i64 0]) ?_ 3 _ rfl; (with_reducible repeat (first | refine blk_drewN ?_ _ | refine blk_drew ?_ | refine blk_alloc ?_ _)); refine blk_put (cs := #[.slice Ao24 t291.length co24, .slice Ao27 t294.length co27, .slice none 0 0, .int .i64 0, .int .i64 0]) ?_ 2 _ rfl; (with_reducible repeat (first | refine blk_drewN ?_ _ | refine blk_drew ?_ | refine blk_alloc ?_ _)); refine blk_put (cs := #[.slice Ao24 t291.length co24, .slice none 0 0, .slice none 0 0, .int .i64 0, .int .i64 0]) ?_ 1 _ rfl; (with_reducible repeat (first | refine blk_drewN ?_ _ | refine blk_drew ?_ | refine blk_alloc ?_ _)); refine blk_put (cs := #[.slice none 0 0, .slice none 0 0, .slice none 0 0, .int .i64 0, .int .i64 0]) ?_ 0 _ rfl; (with_reducible repeat (first | refine blk_drewN ?_ _ | refine blk_drew ?_ | refine blk_alloc ?_ _)); exact BK302.out) hb); have n10_ := Aside0.mk (below_step (by repeat (first | (with_reducible first | exact HB.out | apply below_alloc | apply pw_below_drewN | apply below_drew1 | refine below_set ?_ GE274.out | refine below_set ?_ GE302.out) | exact HB.out)) hb); clear HO278; clear HO281; clear HO284; clear HO289; clear HO293; clear HO296; clear HO299; clear BK274; clear BK302; clear HB; have HO278 := n0_; have HO281 := n1_; have HO284 := n2_; have HO289 := n3_; have HO293 := n4_; have HO296 := n5_; have HO299 := n6_; have HO305 := n7_; have BK274 := n8_; have BK302 := n9_; have HB := n10_; clear n0_ n1_ n2_ n3_ n4_ n5_ n6_ n7_ n8_ n9_ n10_; (try clear hb); (try clear hb2); (try clear hk); (try clear hi); (try clear ho0)))
    (try simp only [Act.put, List.setIfInBounds_toArray, List.set_cons_zero, List.set_cons_succ])
    go_cut [40] (fun v40 wc => ∃ (kq : Nat) (x40_10 : Bool), v40 = .bool x40_10 ∧ Aside0 (laws_FnExactOpenLeads.j0 kq t287 t290 t303 t306 x40_10 l0_0 l0_1 l0_2 a0_3 a0_4 t291 t294 t297 t300 t301 = some r) ∧ Aside0 (kq ≤ k) ∧ Aside0 (Kd.R (Kd.int .i64) 3 wc w.heap.size (fun k_ => some k_ ≠ (v304 : Value).ownBlock) v288 t287) ∧ Aside0 (Kd.R (Kd.int .i64) 3 wc w.heap.size (fun k_ => some k_ ≠ (v288 : Value).ownBlock) v304 t303) ∧ Aside0 (Kd.R k29 29 wc w.heap.size (fun _ => True) (.slice Ao24 t291.length co24) t291) ∧ Aside0 (Kd.R Kd.bool 4 wc w.heap.size (fun k_ => some k_ ≠ ((.slice Ao28 t297.length co28) : Value).ownBlock) (.slice Ao27 t294.length co27) t294) ∧ Aside0 (Kd.R Kd.bool 4 wc w.heap.size (fun k_ => some k_ ≠ ((.slice Ao27 t294.length co27) : Value).ownBlock) (.slice Ao28 t297.length co28) t297) ∧ Aside0 (wc.heap[gb274]? = some (.cells #[(.slice A0_0 l0_0.length c0_0), (.slice A0_1 l0_1.length c0_1), (.slice A0_2 l0_2.length c0_2), .int .i64 a0_3, .int .i64 a0_4] 50 (0, 0))) ∧ Aside0 (wc.heap[gb302]? = some (.cells #[(.slice Ao24 t291.length co24), (.slice Ao27 t294.length co27), (.slice Ao28 t297.length co28), .int .i64 t300, .int .i64 t301] 27 (0, 0))) ∧ Aside0 (Below w.heap.size w wc))
    case first =>
      have H := HC11.out
      clear HC11
      replace H := Option.bind_eq_some_iff.mp H
      obtain ⟨t307, A300, H⟩ := H
      replace H : (if t307 = true then (laws_FnExactOpenLeads.j0 k t287 t290 t303 t306 (t306 != t290) l0_0 l0_1 l0_2 a0_3 a0_4 t291 t294 t297 t300 t301) else (laws_FnExactOpenLeads.j0 k t287 t290 t303 t306 true l0_0 l0_1 l0_2 a0_3 a0_4 t291 t294 t297 t300 t301)) = some r := H
      have A30 := Aside0.mk A300
      clear A300
      by_cases c31 : t307 = true
      · subst c31
        have H1 : (laws_FnExactOpenLeads.j0 k t287 t290 t303 t306 (t306 != t290) l0_0 l0_1 l0_2 a0_3 a0_4 t291 t294 t297 t300 t301) = some r := by rw [if_pos rfl] at H; exact H
        clear H
        have H := H1
        clear H1
        have H' := Aside0.mk H
        clear H
        obtain ⟨Ao32, co32, eo32⟩ := Kd.R_slice HO305.out
        subst eo32
        obtain ⟨Ao33, co33, eo33⟩ := Kd.R_slice HO289.out
        subst eo33
        go_wp2_with (first | ((with_reducible refine gate_callee (f := 28) rfl ?_); refine goesL_ (some 34) rfl rfl Try.func28 (by kernel_rfl) rfl #[.slice Ao32 t303.length co32, .slice Ao33 t287.length co33] rfl (by (try simp only [List.map_toArray, List.map_cons, List.map_nil]); first | done | rfl | (simp only [List.length_drop, List.length_take]; rfl)) ?_; (with_reducible refine (laws_eqIntS.calls k _ _ t303 _ _ t287 true _ ?side1 ?side2 ?side3 ?side4 A30.out).mono ?_); (case side1 => repeat (first | exact (Kd.R_reads' HO305.out).2.2 | (with_reducible refine Kd.C_alloc ?_ _) | (with_reducible refine Kd.C_drewN ?_ _) | (with_reducible refine Kd.C_drew ?_))); (case side2 => exact (Kd.R_reads' HO305.out).2.1); (case side3 => repeat (first | exact (Kd.R_reads' HO289.out).2.2 | (with_reducible refine Kd.C_alloc ?_ _) | (with_reducible refine Kd.C_drewN ?_ _) | (with_reducible refine Kd.C_drew ?_))); (case side4 => exact (Kd.R_reads' HO289.out).2.1); rintro e w' ⟨rfl, ⟨nd, rfl⟩⟩; refine ⟨_, rfl, ?_⟩))
        go_meet
        case rel => exact ⟨_, ((t306 != t290)), (by first | rfl | (simp; done) | (simp [*]; done)), H', ⟨by first | omega | exact Nat.le_refl _⟩, ⟨by (with_reducible repeat (first | apply Kd.R_alloc | apply Kd.R_drewN | apply Kd.R_drew)); exact Kd.R_mono HO289.out (fun _ hk => hk.2)⟩, ⟨by (with_reducible repeat (first | apply Kd.R_alloc | apply Kd.R_drewN | apply Kd.R_drew)); exact Kd.R_mono HO305.out (fun _ hk => hk.2)⟩, ⟨by (with_reducible repeat (first | apply Kd.R_alloc | apply Kd.R_drewN | apply Kd.R_drew)); exact Kd.R_mono HO293.out (fun _ hk => trivial)⟩, ⟨by (with_reducible repeat (first | apply Kd.R_alloc | apply Kd.R_drewN | apply Kd.R_drew)); exact Kd.R_mono HO296.out (fun _ hk => hk.1.1)⟩, ⟨by (with_reducible repeat (first | apply Kd.R_alloc | apply Kd.R_drewN | apply Kd.R_drew)); exact Kd.R_mono HO299.out (fun _ hk => hk.1.1)⟩, ⟨by (with_reducible repeat (first | refine blk_drewN ?_ _ | refine blk_drew ?_ | refine blk_alloc ?_ _)); exact BK274.out⟩, ⟨by (with_reducible repeat (first | refine blk_drewN ?_ _ | refine blk_drew ?_ | refine blk_alloc ?_ _)); exact BK302.out⟩, ⟨by repeat (first | (with_reducible first | exact HB.out | apply below_alloc | apply pw_below_drewN | apply below_drew1 | refine below_set ?_ GE274.out | refine below_set ?_ GE302.out) | exact HB.out)⟩⟩
      · replace c31 := Bool.eq_false_iff.mpr c31
        subst c31
        have H1 : (laws_FnExactOpenLeads.j0 k t287 t290 t303 t306 true l0_0 l0_1 l0_2 a0_3 a0_4 t291 t294 t297 t300 t301) = some r := by rw [if_neg (show ¬ (false = true) by decide)] at H; exact H
        clear H
        have H := H1
        clear H1
        have H' := Aside0.mk H
        clear H
        obtain ⟨Ao34, co34, eo34⟩ := Kd.R_slice HO305.out
        subst eo34
        obtain ⟨Ao35, co35, eo35⟩ := Kd.R_slice HO289.out
        subst eo35
        go_wp2_with (first | ((with_reducible refine gate_callee (f := 28) rfl ?_); refine goesL_ (some 34) rfl rfl Try.func28 (by kernel_rfl) rfl #[.slice Ao34 t303.length co34, .slice Ao35 t287.length co35] rfl (by (try simp only [List.map_toArray, List.map_cons, List.map_nil]); first | done | rfl | (simp only [List.length_drop, List.length_take]; rfl)) ?_; (with_reducible refine (laws_eqIntS.calls k _ _ t303 _ _ t287 false _ ?side1 ?side2 ?side3 ?side4 A30.out).mono ?_); (case side1 => repeat (first | exact (Kd.R_reads' HO305.out).2.2 | (with_reducible refine Kd.C_alloc ?_ _) | (with_reducible refine Kd.C_drewN ?_ _) | (with_reducible refine Kd.C_drew ?_))); (case side2 => exact (Kd.R_reads' HO305.out).2.1); (case side3 => repeat (first | exact (Kd.R_reads' HO289.out).2.2 | (with_reducible refine Kd.C_alloc ?_ _) | (with_reducible refine Kd.C_drewN ?_ _) | (with_reducible refine Kd.C_drew ?_))); (case side4 => exact (Kd.R_reads' HO289.out).2.1); rintro e w' ⟨rfl, ⟨nd, rfl⟩⟩; refine ⟨_, rfl, ?_⟩))
        go_meet
        case rel => exact ⟨_, (true), (by first | rfl | (simp; done) | (simp [*]; done)), H', ⟨by first | omega | exact Nat.le_refl _⟩, ⟨by (with_reducible repeat (first | apply Kd.R_alloc | apply Kd.R_drewN | apply Kd.R_drew)); exact Kd.R_mono HO289.out (fun _ hk => hk.2)⟩, ⟨by (with_reducible repeat (first | apply Kd.R_alloc | apply Kd.R_drewN | apply Kd.R_drew)); exact Kd.R_mono HO305.out (fun _ hk => hk.2)⟩, ⟨by (with_reducible repeat (first | apply Kd.R_alloc | apply Kd.R_drewN | apply Kd.R_drew)); exact Kd.R_mono HO293.out (fun _ hk => trivial)⟩, ⟨by (with_reducible repeat (first | apply Kd.R_alloc | apply Kd.R_drewN | apply Kd.R_drew)); exact Kd.R_mono HO296.out (fun _ hk => hk.1.1)⟩, ⟨by (with_reducible repeat (first | apply Kd.R_alloc | apply Kd.R_drewN | apply Kd.R_drew)); exact Kd.R_mono HO299.out (fun _ hk => hk.1.1)⟩, ⟨by (with_reducible repeat (first | refine blk_drewN ?_ _ | refine blk_drew ?_ | refine blk_alloc ?_ _)); exact BK274.out⟩, ⟨by (with_reducible repeat (first | refine blk_drewN ?_ _ | refine blk_drew ?_ | refine blk_alloc ?_ _)); exact BK302.out⟩, ⟨by repeat (first | (with_reducible first | exact HB.out | apply below_alloc | apply pw_below_drewN | apply below_drew1 | refine below_set ?_ GE274.out | refine below_set ?_ GE302.out) | exact HB.out)⟩⟩
    case rest =>
      clear HC11
      try clear c2
      try clear p2
      try clear c3
      try clear c3b0
      try clear c4
      try clear c24
      try clear c25
      try clear c26
      try clear c27
      try clear c28
      try clear c31
      try clear hcz13_0
      try clear hcz13_1
      try clear hcz13_2
      try clear hcz13_3
      try clear hcz13_4
      try clear hcz15_0
      try clear hcz15_1
      try clear hcz15_2
      try clear hcz15_3
      try clear hcz15_4
      try clear hcz21_0
      try clear hcz21_1
      try clear hcz21_2
      try clear hcz21_3
      try clear hcz21_4
      try clear hcz26_0
      try clear hcz26_1
      try clear hcz26_2
      try clear hcz26_3
      try clear hcz26_4
      try clear hcz5_0
      try clear hcz5_1
      try clear hcz5_2
      try clear hcz5_3
      try clear hcz5_4
      try clear hfz13_0
      try clear hfz13_1
      try clear hfz13_2
      try clear hfz13_3
      try clear hfz13_4
      try clear hfz15_0
      try clear hfz15_1
      try clear hfz15_2
      try clear hfz15_3
      try clear hfz15_4
      try clear hfz21_0
      try clear hfz21_1
      try clear hfz21_2
      try clear hfz21_3
      try clear hfz21_4
      try clear hfz26_0
      try clear hfz26_1
      try clear hfz26_2
      try clear hfz26_3
      try clear hfz26_4
      try clear hfz5_0
      try clear hfz5_1
      try clear hfz5_2
      try clear hfz5_3
      try clear hfz5_4
      obtain ⟨kq, x40_10, rfl, HA, HJ10, HO_4, HO_7, HO_303000, HO_303001, HO_303002, BK274, BK302, HB⟩ := hcut
      cases kq with
      | zero => exact absurd HA.out (by simp [laws_FnExactOpenLeads.j0])
      | succ kj10 =>
        have H := HA.out
        clear HA
        simp only [laws_FnExactOpenLeads.j0] at H
        by_cases c36 : x40_10 = true
        · subst c36
          have H1 : (some false) = some r := by rw [if_pos rfl] at H; exact H
          clear H
          have H := H1
          clear H1
          obtain rfl := Option.some.inj H
          go_wp2
          go_ret
          exact ⟨by first | rfl | (simp [errW_none, errW_some] <;> rfl) | (simp [*, errW_none, errW_some] <;> rfl), by repeat (first | (with_reducible first | exact HB.out | apply below_alloc | apply pw_below_drewN | apply below_drew1 | refine below_set ?_ GE274.out | refine below_set ?_ GE302.out) | exact HB.out)⟩
        · replace c36 := Bool.eq_false_iff.mpr c36
          subst c36
          have H1 : ((laws_toExploration.f kj10 l0_0 l0_1 l0_2 a0_3 a0_4).bind fun bt308 => ((laws_eqExploration.f kj10 t291 t294 t297 t300 t301 bt308.1 bt308.2.1 bt308.2.2.1 bt308.2.2.2.1 bt308.2.2.2.2).bind fun t319 => (if t319 = true then ((laws_markExploration.f kj10 t291 t294 t297 t300 t301 1).bind fun bt320 => (if bt320.1 < 0 then (laws_FnExactOpenLeads.j1 kj10 t287 t290 t303 true l0_0 l0_1 l0_2 a0_3 a0_4) else ((laws_eqIntS.f kj10 t303 t287).bind fun t324 => (if t324 = true then (laws_FnExactOpenLeads.j1 kj10 t287 t290 t303 (t306 != t290) l0_0 l0_1 l0_2 a0_3 a0_4) else (laws_FnExactOpenLeads.j1 kj10 t287 t290 t303 true l0_0 l0_1 l0_2 a0_3 a0_4))))) else (some false)))) = some r := by rw [if_neg (show ¬ (false = true) by decide)] at H; exact H
          clear H
          have H := H1
          clear H1
          replace H := Option.bind_eq_some_iff.mp H
          obtain ⟨⟨t308, t311, t314, t317, t318⟩, A370, H⟩ := H
          replace H : ((laws_eqExploration.f kj10 t291 t294 t297 t300 t301 t308 t311 t314 t317 t318).bind fun t319 => (if t319 = true then ((laws_markExploration.f kj10 t291 t294 t297 t300 t301 1).bind fun bt320 => (if bt320.1 < 0 then (laws_FnExactOpenLeads.j1 kj10 t287 t290 t303 true l0_0 l0_1 l0_2 a0_3 a0_4) else ((laws_eqIntS.f kj10 t303 t287).bind fun t324 => (if t324 = true then (laws_FnExactOpenLeads.j1 kj10 t287 t290 t303 (t306 != t290) l0_0 l0_1 l0_2 a0_3 a0_4) else (laws_FnExactOpenLeads.j1 kj10 t287 t290 t303 true l0_0 l0_1 l0_2 a0_3 a0_4))))) else (some false))) = some r := H
          have A37 := Aside0.mk A370
          clear A370
          replace H := Option.bind_eq_some_iff.mp H
          obtain ⟨t319, A380, H⟩ := H
          replace H : (if t319 = true then ((laws_markExploration.f kj10 t291 t294 t297 t300 t301 1).bind fun bt320 => (if bt320.1 < 0 then (laws_FnExactOpenLeads.j1 kj10 t287 t290 t303 true l0_0 l0_1 l0_2 a0_3 a0_4) else ((laws_eqIntS.f kj10 t303 t287).bind fun t324 => (if t324 = true then (laws_FnExactOpenLeads.j1 kj10 t287 t290 t303 (t306 != t290) l0_0 l0_1 l0_2 a0_3 a0_4) else (laws_FnExactOpenLeads.j1 kj10 t287 t290 t303 true l0_0 l0_1 l0_2 a0_3 a0_4))))) else (some false)) = some r := H
          have A38 := Aside0.mk A380
          clear A380
          by_cases c39 : t319 = true
          · subst c39
            have H1 : ((laws_markExploration.f kj10 t291 t294 t297 t300 t301 1).bind fun bt320 => (if bt320.1 < 0 then (laws_FnExactOpenLeads.j1 kj10 t287 t290 t303 true l0_0 l0_1 l0_2 a0_3 a0_4) else ((laws_eqIntS.f kj10 t303 t287).bind fun t324 => (if t324 = true then (laws_FnExactOpenLeads.j1 kj10 t287 t290 t303 (t306 != t290) l0_0 l0_1 l0_2 a0_3 a0_4) else (laws_FnExactOpenLeads.j1 kj10 t287 t290 t303 true l0_0 l0_1 l0_2 a0_3 a0_4))))) = some r := by rw [if_pos rfl] at H; exact H
            clear H
            have H := H1
            clear H1
            replace H := Option.bind_eq_some_iff.mp H
            obtain ⟨⟨t320, t321, t322, t323⟩, A400, H⟩ := H
            replace H : (if t320 < 0 then (laws_FnExactOpenLeads.j1 kj10 t287 t290 t303 true l0_0 l0_1 l0_2 a0_3 a0_4) else ((laws_eqIntS.f kj10 t303 t287).bind fun t324 => (if t324 = true then (laws_FnExactOpenLeads.j1 kj10 t287 t290 t303 (t306 != t290) l0_0 l0_1 l0_2 a0_3 a0_4) else (laws_FnExactOpenLeads.j1 kj10 t287 t290 t303 true l0_0 l0_1 l0_2 a0_3 a0_4)))) = some r := H
            have A40 := Aside0.mk A400
            clear A400
            have HC41 := Aside0.mk H
            clear H
            try go_wp2
            have n0_ := Aside0.mk (Kd.R_drew HO_4.out)
            have n1_ := Aside0.mk (Kd.R_drew HO_7.out)
            have n2_ := Aside0.mk (Kd.R_drew HO_303000.out)
            have n3_ := Aside0.mk (Kd.R_drew HO_303001.out)
            have n4_ := Aside0.mk (Kd.R_drew HO_303002.out)
            have n5_ := Aside0.mk (blk_drew BK274.out)
            have n6_ := Aside0.mk (blk_drew BK302.out)
            have n7_ := Aside0.mk (below_drew1 HB.out)
            clear HO_4
            clear HO_7
            clear HO_303000
            clear HO_303001
            clear HO_303002
            clear BK274
            clear BK302
            clear HB
            have HO_4 := n0_
            have HO_7 := n1_
            have HO_303000 := n2_
            have HO_303001 := n3_
            have HO_303002 := n4_
            have BK274 := n5_
            have BK302 := n6_
            have HB := n7_
            clear n0_ n1_ n2_ n3_ n4_ n5_ n6_ n7_
            refine start_ (n := 5) (S := fun w' => w'.cell? ⟨gb302, 0, none⟩ = some (.slice Ao24 t291.length co24) ∧ w'.cell? ⟨gb302, 1, none⟩ = some (.slice Ao27 t294.length co27) ∧ w'.cell? ⟨gb302, 2, none⟩ = some (.slice Ao28 t297.length co28) ∧ w'.cell? ⟨gb302, 3, none⟩ = some (.int .i64 t300) ∧ w'.cell? ⟨gb302, 4, none⟩ = some (.int .i64 t301) ∧ w'.cell? ⟨gb274, 0, none⟩ = some (.slice A0_0 l0_0.length c0_0) ∧ w'.cell? ⟨gb274, 1, none⟩ = some (.slice A0_1 l0_1.length c0_1) ∧ w'.cell? ⟨gb274, 2, none⟩ = some (.slice A0_2 l0_2.length c0_2) ∧ w'.cell? ⟨gb274, 3, none⟩ = some (.int .i64 a0_3) ∧ w'.cell? ⟨gb274, 4, none⟩ = some (.int .i64 a0_4)) (ds := []) #[false, false, false, false, false] (by kernel_rfl) rfl rfl ⟨(blk_cell BK302.out 0).trans rfl, (blk_cell BK302.out 1).trans rfl, (blk_cell BK302.out 2).trans rfl, (blk_cell BK302.out 3).trans rfl, (blk_cell BK302.out 4).trans rfl, (blk_cell BK274.out 0).trans rfl, (blk_cell BK274.out 1).trans rfl, (blk_cell BK274.out 2).trans rfl, (blk_cell BK274.out 3).trans rfl, (blk_cell BK274.out 4).trans rfl⟩ (fun hHeld => ?_)
            generalize wc.drew = w42 at HO_4 HO_7 HO_303000 HO_303001 HO_303002 BK274 BK302 HB hHeld ⊢
            refine take_ (i := 0) (N := some 41) (v := ?_) (a' := ?_) #[true, false, false, false, false] rfl rfl (by kernel_rfl) (fun _ _ _ h => h) (Or.inl ⟨by rfl, ?_⟩) hHeld ?_ ?_
            rotate_left
            · rintro w' ⟨s0, s1, s2, s3, s4, s5, s6, s7, s8, s9⟩
              go_simp
              with_reducible rfl
            rotate_left
            · simp only [Act.put, List.setIfInBounds_toArray, List.set_cons_zero, List.set_cons_succ, i64_w, i32_w]
              rfl
            refine take_ (i := 1) (N := some 42) (v := ?_) (a' := ?_) #[true, true, false, false, false] rfl rfl (by kernel_rfl) (fun _ _ _ h => h) (Or.inl ⟨by rfl, ?_⟩) hHeld ?_ ?_
            rotate_left
            · rintro w' ⟨s0, s1, s2, s3, s4, s5, s6, s7, s8, s9⟩
              go_simp
              with_reducible rfl
            rotate_left
            · simp only [Act.put, List.setIfInBounds_toArray, List.set_cons_zero, List.set_cons_succ, i64_w, i32_w]
              rfl
            refine one_ (i := 2) (N := some 43) #[true, true, true, false, false] rfl rfl (by kernel_rfl) (by decide) (fun K hK => ?_)
            refine goes_ Try.func26 (by kernel_rfl) rfl #[.agg #[.slice A0_0 l0_0.length c0_0, .slice A0_1 l0_1.length c0_1, .slice A0_2 l0_2.length c0_2, .int .i64 a0_3, .int .i64 a0_4]] (by rfl) rfl rfl (by (try simp only [List.map_toArray, List.map_cons, List.map_nil]); first | done | rfl | (simp only [List.length_drop, List.length_take]; rfl)) ?_
            with_reducible refine (laws_toExploration.calls kj10 _ _ l0_0 _ _ l0_1 _ _ l0_2 a0_3 a0_4 t308 t311 t314 t317 t318 _ ?side1 ?side2 ?side3 ?side4 ?side5 ?side6 A37.out).mono ?_
            (case side1 => repeat (first | exact (Kd.C_below HR0_0.out HB.out) | (with_reducible refine Kd.C_alloc ?_ _) | (with_reducible refine Kd.C_drewN ?_ _) | (with_reducible refine Kd.C_drew ?_)))
            (case side2 => exact HC0_0.out)
            (case side3 => repeat (first | exact (Kd.C_below HR0_1.out HB.out) | (with_reducible refine Kd.C_alloc ?_ _) | (with_reducible refine Kd.C_drewN ?_ _) | (with_reducible refine Kd.C_drew ?_)))
            (case side4 => exact HC0_1.out)
            (case side5 => repeat (first | exact (Kd.C_below HR0_2.out HB.out) | (with_reducible refine Kd.C_alloc ?_ _) | (with_reducible refine Kd.C_drewN ?_ _) | (with_reducible refine Kd.C_drew ?_)))
            (case side6 => exact HC0_2.out)
            rintro e w43 ⟨v309, v312, v315, rfl, ho0, ho1, ho2, hb⟩
            refine ⟨_, rfl, ?_⟩
            have n0_ := Aside0.mk (Kd.R_below (by (with_reducible repeat (first | apply Kd.R_alloc | apply Kd.R_drewN | apply Kd.R_drew)); exact HO_4.out) hb)
            have n1_ := Aside0.mk (Kd.R_below (by (with_reducible repeat (first | apply Kd.R_alloc | apply Kd.R_drewN | apply Kd.R_drew)); exact HO_7.out) hb)
            have n2_ := Aside0.mk (Kd.R_elder' (by (with_reducible repeat (first | apply Kd.R_alloc | apply Kd.R_drewN | apply Kd.R_drew)); exact HO_303000.out) (Kd.R_base ho0) hb)
            have n3_ := Aside0.mk (Kd.R_mono (Kd.R_told (Kd.R_told (Kd.R_old (by (with_reducible repeat (first | apply Kd.R_alloc | apply Kd.R_drewN | apply Kd.R_drew)); exact HO_303001.out) hb) (Kd.R_base ho1)) (Kd.R_base ho2)) (fun _ h_ => h_.1))
            have n4_ := Aside0.mk (Kd.R_mono (Kd.R_told (Kd.R_told (Kd.R_old (by (with_reducible repeat (first | apply Kd.R_alloc | apply Kd.R_drewN | apply Kd.R_drew)); exact HO_303002.out) hb) (Kd.R_base ho1)) (Kd.R_base ho2)) (fun _ h_ => h_.1))
            have n5_ := Aside0.mk (Kd.R_lower (Kd.R_new' ho0 (Kd.R_lt (by (with_reducible repeat (first | apply Kd.R_alloc | apply Kd.R_drewN | apply Kd.R_drew)); exact HO_303000.out))) (below_size (by repeat (first | (with_reducible first | exact HB.out | apply below_alloc | apply pw_below_drewN | apply below_drew1 | refine below_set ?_ GE274.out | refine below_set ?_ GE302.out) | exact HB.out))))
            have n6_ := Aside0.mk (Kd.R_lower (Kd.R_new' (Kd.R_new' ho1 (Kd.R_lt (by (with_reducible repeat (first | apply Kd.R_alloc | apply Kd.R_drewN | apply Kd.R_drew)); exact HO_303001.out))) (Kd.R_lt (by (with_reducible repeat (first | apply Kd.R_alloc | apply Kd.R_drewN | apply Kd.R_drew)); exact HO_303002.out))) (below_size (by repeat (first | (with_reducible first | exact HB.out | apply below_alloc | apply pw_below_drewN | apply below_drew1 | refine below_set ?_ GE274.out | refine below_set ?_ GE302.out) | exact HB.out))))
            have n7_ := Aside0.mk (Kd.R_lower (Kd.R_new' (Kd.R_new' ho2 (Kd.R_lt (by (with_reducible repeat (first | apply Kd.R_alloc | apply Kd.R_drewN | apply Kd.R_drew)); exact HO_303001.out))) (Kd.R_lt (by (with_reducible repeat (first | apply Kd.R_alloc | apply Kd.R_drewN | apply Kd.R_drew)); exact HO_303002.out))) (below_size (by repeat (first | (with_reducible first | exact HB.out | apply below_alloc | apply pw_below_drewN | apply below_drew1 | refine below_set ?_ GE274.out | refine below_set ?_ GE302.out) | exact HB.out))))
            have n8_ := Aside0.mk (blk_below (g := gb274) (o := .cells #[.slice A0_0 l0_0.length c0_0, .slice A0_1 l0_1.length c0_1, .slice A0_2 l0_2.length c0_2, .int .i64 a0_3, .int .i64 a0_4] 50 (0, 0)) (by (with_reducible repeat (first | refine blk_drewN ?_ _ | refine blk_drew ?_ | refine blk_alloc ?_ _)); exact BK274.out) hb)
            have n9_ := Aside0.mk (blk_below (g := gb302) (o := .cells #[.slice Ao24 t291.length co24, .slice Ao27 t294.length co27, .slice Ao28 t297.length co28, .int .i64 t300, .int .i64 t301] 27 (0, 0)) (by (with_reducible repeat (first | refine blk_drewN ?_ _ | refine blk_drew ?_ | refine blk_alloc ?_ _)); exact BK302.out) hb)
            have n10_ := Aside0.mk (below_step (by repeat (first | (with_reducible first | exact HB.out | apply below_alloc | apply pw_below_drewN | apply below_drew1 | refine below_set ?_ GE274.out | refine below_set ?_ GE302.out) | exact HB.out)) hb)
            clear HO_4
            clear HO_7
            clear HO_303000
            clear HO_303001
            clear HO_303002
            clear BK274
            clear BK302
            clear HB
            have HO_4 := n0_
            have HO_7 := n1_
            have HO_303000 := n2_
            have HO_303001 := n3_
            have HO_303002 := n4_
            have HO310 := n5_
            have HO313 := n6_
            have HO316 := n7_
            have BK274 := n8_
            have BK302 := n9_
            have HB := n10_
            clear n0_ n1_ n2_ n3_ n4_ n5_ n6_ n7_ n8_ n9_ n10_
            (try clear hb)
            (try clear hb2)
            (try clear hk)
            (try clear hi)
            (try clear ho0)
            (try clear ho1)
            (try clear ho2)
            obtain ⟨Ao44, co44, eo44⟩ := Kd.R_slice HO310.out
            (first | subst eo44 | (injection eo44 with f1_ f2_ f3_; have f4_ := f1_.symm; have f5_ := f3_.symm; clear f1_ f2_ f3_; subst f4_; subst f5_))
            obtain ⟨Ao45, co45, eo45⟩ := Kd.R_slice HO313.out
            (first | subst eo45 | (injection eo45 with f1_ f2_ f3_; have f4_ := f1_.symm; have f5_ := f3_.symm; clear f1_ f2_ f3_; subst f4_; subst f5_))
            obtain ⟨Ao46, co46, eo46⟩ := Kd.R_slice HO316.out
            (first | subst eo46 | (injection eo46 with f1_ f2_ f3_; have f4_ := f1_.symm; have f5_ := f3_.symm; clear f1_ f2_ f3_; subst f4_; subst f5_))
            refine hK.out _ _ ⟨(blk_cell BK302.out 0).trans rfl, (blk_cell BK302.out 1).trans rfl, (blk_cell BK302.out 2).trans rfl, (blk_cell BK302.out 3).trans rfl, (blk_cell BK302.out 4).trans rfl, (blk_cell BK274.out 0).trans rfl, (blk_cell BK274.out 1).trans rfl, (blk_cell BK274.out 2).trans rfl, (blk_cell BK274.out 3).trans rfl, (blk_cell BK274.out 4).trans rfl⟩ (fun hHeld => ?_)
            clear hK K
            refine norm_ (a' := ?_) ?_ ?_
            rotate_left
            · show Act.put _ (some 43) _ = _
              simp only [Act.put, List.setIfInBounds_toArray, List.set_cons_zero, List.set_cons_succ, i64_w, i32_w]
              rfl
            refine one_ (i := 3) (N := some 44) #[true, true, true, true, false] rfl rfl (by kernel_rfl) (by decide) (fun K hK => ?_)
            refine goes_ Try.func29 (by kernel_rfl) rfl #[.agg #[.slice Ao24 t291.length co24, .slice Ao27 t294.length co27, .slice Ao28 t297.length co28, .int .i64 t300, .int .i64 t301], .agg #[.slice Ao44 t308.length co44, .slice Ao45 t311.length co45, .slice Ao46 t314.length co46, .int .i64 t317, .int .i64 t318]] (by rfl) rfl rfl (by (try simp only [List.map_toArray, List.map_cons, List.map_nil]); first | done | rfl | (simp only [List.length_drop, List.length_take]; rfl)) ?_
            with_reducible refine (laws_eqExploration.calls kj10 _ _ t291 _ _ t294 _ _ t297 t300 t301 _ _ t308 _ _ t311 _ _ t314 t317 t318 true _ ?side1 ?side2 ?side3 ?side4 ?side5 ?side6 ?side7 ?side8 ?side9 ?side10 ?side11 ?side12 A38.out).mono ?_
            (case side1 => repeat (first | exact (Kd.R_reads' HO_303000.out).2.2 | (with_reducible refine Kd.C_alloc ?_ _) | (with_reducible refine Kd.C_drewN ?_ _) | (with_reducible refine Kd.C_drew ?_)))
            (case side2 => exact (Kd.R_reads' HO_303000.out).2.1)
            (case side3 => repeat (first | exact (Kd.R_reads' HO_303001.out).2.2 | (with_reducible refine Kd.C_alloc ?_ _) | (with_reducible refine Kd.C_drewN ?_ _) | (with_reducible refine Kd.C_drew ?_)))
            (case side4 => exact (Kd.R_reads' HO_303001.out).2.1)
            (case side5 => repeat (first | exact (Kd.R_reads' HO_303002.out).2.2 | (with_reducible refine Kd.C_alloc ?_ _) | (with_reducible refine Kd.C_drewN ?_ _) | (with_reducible refine Kd.C_drew ?_)))
            (case side6 => exact (Kd.R_reads' HO_303002.out).2.1)
            (case side7 => repeat (first | exact (Kd.R_reads' HO310.out).2.2 | (with_reducible refine Kd.C_alloc ?_ _) | (with_reducible refine Kd.C_drewN ?_ _) | (with_reducible refine Kd.C_drew ?_)))
            (case side8 => exact (Kd.R_reads' HO310.out).2.1)
            (case side9 => repeat (first | exact (Kd.R_reads' HO313.out).2.2 | (with_reducible refine Kd.C_alloc ?_ _) | (with_reducible refine Kd.C_drewN ?_ _) | (with_reducible refine Kd.C_drew ?_)))
            (case side10 => exact (Kd.R_reads' HO313.out).2.1)
            (case side11 => repeat (first | exact (Kd.R_reads' HO316.out).2.2 | (with_reducible refine Kd.C_alloc ?_ _) | (with_reducible refine Kd.C_drewN ?_ _) | (with_reducible refine Kd.C_drew ?_)))
            (case side12 => exact (Kd.R_reads' HO316.out).2.1)
            rintro e w47 ⟨rfl, hb⟩
            refine ⟨_, rfl, ?_⟩
            have n0_ := Aside0.mk (Kd.R_below (by (with_reducible repeat (first | apply Kd.R_alloc | apply Kd.R_drewN | apply Kd.R_drew)); exact HO_4.out) hb)
            have n1_ := Aside0.mk (Kd.R_below (by (with_reducible repeat (first | apply Kd.R_alloc | apply Kd.R_drewN | apply Kd.R_drew)); exact HO_7.out) hb)
            have n2_ := Aside0.mk (Kd.R_below (by (with_reducible repeat (first | apply Kd.R_alloc | apply Kd.R_drewN | apply Kd.R_drew)); exact HO_303000.out) hb)
            have n3_ := Aside0.mk (Kd.R_below (by (with_reducible repeat (first | apply Kd.R_alloc | apply Kd.R_drewN | apply Kd.R_drew)); exact HO_303001.out) hb)
            have n4_ := Aside0.mk (Kd.R_below (by (with_reducible repeat (first | apply Kd.R_alloc | apply Kd.R_drewN | apply Kd.R_drew)); exact HO_303002.out) hb)
            have n5_ := Aside0.mk (Kd.R_below (by (with_reducible repeat (first | apply Kd.R_alloc | apply Kd.R_drewN | apply Kd.R_drew)); exact HO310.out) hb)
            have n6_ := Aside0.mk (Kd.R_below (by (with_reducible repeat (first | apply Kd.R_alloc | apply Kd.R_drewN | apply Kd.R_drew)); exact HO313.out) hb)
            have n7_ := Aside0.mk (Kd.R_below (by (with_reducible repeat (first | apply Kd.R_alloc | apply Kd.R_drewN | apply Kd.R_drew)); exact HO316.out) hb)
            have n8_ := Aside0.mk (blk_below (g := gb274) (o := .cells #[.slice A0_0 l0_0.length c0_0, .slice A0_1 l0_1.length c0_1, .slice A0_2 l0_2.length c0_2, .int .i64 a0_3, .int .i64 a0_4] 50 (0, 0)) (by (with_reducible repeat (first | refine blk_drewN ?_ _ | refine blk_drew ?_ | refine blk_alloc ?_ _)); exact BK274.out) hb)
            have n9_ := Aside0.mk (blk_below (g := gb302) (o := .cells #[.slice Ao24 t291.length co24, .slice Ao27 t294.length co27, .slice Ao28 t297.length co28, .int .i64 t300, .int .i64 t301] 27 (0, 0)) (by (with_reducible repeat (first | refine blk_drewN ?_ _ | refine blk_drew ?_ | refine blk_alloc ?_ _)); exact BK302.out) hb)
            have n10_ := Aside0.mk (below_step (by repeat (first | (with_reducible first | exact HB.out | apply below_alloc | apply pw_below_drewN | apply below_drew1 | refine below_set ?_ GE274.out | refine below_set ?_ GE302.out) | exact HB.out)) hb)
            clear HO_4
            clear HO_7
            clear HO_303000
            clear HO_303001
            clear HO_303002
            clear HO310
            clear HO313
            clear HO316
            clear BK274
            clear BK302
            clear HB
            have HO_4 := n0_
            have HO_7 := n1_
            have HO_303000 := n2_
            have HO_303001 := n3_
            have HO_303002 := n4_
            have HO310 := n5_
            have HO313 := n6_
            have HO316 := n7_
            have BK274 := n8_
            have BK302 := n9_
            have HB := n10_
            clear n0_ n1_ n2_ n3_ n4_ n5_ n6_ n7_ n8_ n9_ n10_
            (try clear hb)
            (try clear hb2)
            (try clear hk)
            (try clear hi)
            refine hK.out _ _ ⟨(blk_cell BK302.out 0).trans rfl, (blk_cell BK302.out 1).trans rfl, (blk_cell BK302.out 2).trans rfl, (blk_cell BK302.out 3).trans rfl, (blk_cell BK302.out 4).trans rfl, (blk_cell BK274.out 0).trans rfl, (blk_cell BK274.out 1).trans rfl, (blk_cell BK274.out 2).trans rfl, (blk_cell BK274.out 3).trans rfl, (blk_cell BK274.out 4).trans rfl⟩ (fun hHeld => ?_)
            clear hK K
            refine norm_ (a' := ?_) ?_ ?_
            rotate_left
            · show Act.put _ (some 44) _ = _
              simp only [Act.put, List.setIfInBounds_toArray, List.set_cons_zero, List.set_cons_succ, i64_w, i32_w]
              rfl
            refine pure_ (i := 4) (N := some 45) (v := ?_) (a' := ?_) #[true, true, true, true, true] rfl rfl (by kernel_rfl) (fun _ _ _ h => h) (Or.inl ⟨by rfl, ?_⟩) ?_ ?_
            rotate_left
            · intro w'
              go_simp
              with_reducible rfl
            rotate_left
            · simp only [Act.put, List.setIfInBounds_toArray, List.set_cons_zero, List.set_cons_succ, i64_w, i32_w]
              rfl
            refine done_ (by kernel_rfl) ?_
            have hnb48 := NB302_274.out
            have hnc48 := NB274_302.out
            have hcz49_0 : w47.cell? ⟨gb302, 0, none⟩ = some (.slice Ao24 t291.length co24) := (blk_cell BK302.out 0).trans rfl
            have hcz49_1 : w47.cell? ⟨gb302, 1, none⟩ = some (.slice Ao27 t294.length co27) := (blk_cell BK302.out 1).trans rfl
            have hcz49_2 : w47.cell? ⟨gb302, 2, none⟩ = some (.slice Ao28 t297.length co28) := (blk_cell BK302.out 2).trans rfl
            have hcz49_3 : w47.cell? ⟨gb302, 3, none⟩ = some (.int .i64 t300) := (blk_cell BK302.out 3).trans rfl
            have hcz49_4 : w47.cell? ⟨gb302, 4, none⟩ = some (.int .i64 t301) := (blk_cell BK302.out 4).trans rfl
            have hfz49_0 := blk_frozen BK302.out 0
            have hfz49_1 := blk_frozen BK302.out 1
            have hfz49_2 := blk_frozen BK302.out 2
            have hfz49_3 := blk_frozen BK302.out 3
            have hfz49_4 := blk_frozen BK302.out 4
            go_upto_region 14 with (first | ((with_reducible refine gate_callee (f := 30) rfl ?_); refine goesL_ (some 48) rfl rfl Try.func30 (by kernel_rfl) rfl #[.agg #[.slice Ao24 t291.length co24, .slice Ao27 t294.length co27, .slice Ao28 t297.length co28, .int .i64 t300, .int .i64 t301], .int .i64 1] rfl (by (try simp only [List.map_toArray, List.map_cons, List.map_nil]); first | done | rfl | (simp only [List.length_drop, List.length_take]; rfl)) ?_; (with_reducible refine (laws_markExploration.calls kj10 (fun k_ => some k_ = (.slice Ao24 t291.length co24 : Value).ownBlock) (.slice Ao24 t291.length co24) t291 (fun k_ => some k_ = (.slice Ao27 t294.length co27 : Value).ownBlock) (.slice Ao27 t294.length co27) t294 (fun k_ => some k_ = (.slice Ao28 t297.length co28 : Value).ownBlock) (.slice Ao28 t297.length co28) t297 t300 t301 1 t320 t321 t322 t323 w _ ?side1 ?side2 ?side3 ?side4 ?side5 ?side6 A40.out).mono ?_); (case side1 => repeat (first | (with_reducible first | exact HB.out | apply below_alloc | apply pw_below_drewN | apply below_drew1 | refine below_set ?_ GE274.out | refine below_set ?_ GE302.out) | exact HB.out)); (case side2 => exact Kd.R_tight rfl HO_303000.out); (case side3 => exact Kd.R_tight rfl HO_303001.out); (case side4 => exact fun k_ e_ => (HO_303001.out.1 k_ e_.symm).1.1); (case side5 => exact Kd.R_tight rfl HO_303002.out); (case side6 => exact fun k_ e_ => (HO_303002.out.1 k_ e_.symm).1.1); rintro e w50 ⟨rfl, hy0, hy1, hy2, hb, hkp⟩; refine ⟨_, rfl, ?_⟩; have n0_ := Aside0.mk (Kd.R_mono (ok' := fun k_ => some k_ ≠ (v304 : Value).ownBlock) (Kd.R_keptB ((Kd.R_apart' (Kd.R_apart' (Kd.R_apart' HO_4.out (Kd.R_typed HO_303000.out) (by decide)) (Kd.R_typed HO_303001.out) (by decide)) (Kd.R_typed HO_303002.out) (by decide))) hkp (fun k_ hk_ hs_ => Or.elim hs_ (fun e_ => (hk_.1.1.2) e_) (fun e_ => Or.elim e_ (fun e_ => (hk_.1.2) e_) (fun e_ => (hk_.2) e_)))) (fun k_ hk_ => hk_.1.1.1.1)); have n1_ := Aside0.mk (Kd.R_mono (ok' := fun k_ => some k_ ≠ (v288 : Value).ownBlock) (Kd.R_keptB ((Kd.R_apart' (Kd.R_apart' (Kd.R_apart' HO_7.out (Kd.R_typed HO_303000.out) (by decide)) (Kd.R_typed HO_303001.out) (by decide)) (Kd.R_typed HO_303002.out) (by decide))) hkp (fun k_ hk_ hs_ => Or.elim hs_ (fun e_ => (hk_.1.1.2) e_) (fun e_ => Or.elim e_ (fun e_ => (hk_.1.2) e_) (fun e_ => (hk_.2) e_)))) (fun k_ hk_ => hk_.1.1.1.1)); have n2_ := Aside0.mk (Kd.R_reok rfl hy0 (fun k_ e_ => HO_303000.out.1 k_ e_)); have n3_ := Aside0.mk (Kd.R_reok rfl hy1 (fun k_ e_ => HO_303001.out.1 k_ e_)); have n4_ := Aside0.mk (Kd.R_reok rfl hy2 (fun k_ e_ => HO_303002.out.1 k_ e_)); have n5_ := Aside0.mk (blk_kept (by (with_reducible repeat (first | refine blk_drewN ?_ _ | refine blk_drew ?_ | refine blk_alloc ?_ _)); exact BK274.out) hkp (fun hs_ => Or.elim hs_ (fun e_ => (fun e_ => (Kd.R_ne HO_303000.out BK274.out (by decide)) e_) e_) (fun e_ => Or.elim e_ (fun e_ => (fun e_ => (Kd.R_ne HO_303001.out BK274.out (by decide)) e_) e_) (fun e_ => (fun e_ => (Kd.R_ne HO_303002.out BK274.out (by decide)) e_) e_)))); have n6_ := Aside0.mk (blk_kept (by (with_reducible repeat (first | refine blk_drewN ?_ _ | refine blk_drew ?_ | refine blk_alloc ?_ _)); exact BK302.out) hkp (fun hs_ => Or.elim hs_ (fun e_ => (fun e_ => (Kd.R_ne HO_303000.out BK302.out (by decide)) e_) e_) (fun e_ => Or.elim e_ (fun e_ => (fun e_ => (Kd.R_ne HO_303001.out BK302.out (by decide)) e_) e_) (fun e_ => (fun e_ => (Kd.R_ne HO_303002.out BK302.out (by decide)) e_) e_)))); have n7_ := Aside0.mk (Kd.R_mono (ok' := fun k_ => some k_ ≠ (.slice Ao24 t291.length co24 : Value).ownBlock) (Kd.R_keptB ((Kd.R_apart' (Kd.R_apart' HO310.out (Kd.R_typed HO_303001.out) (by decide)) (Kd.R_typed HO_303002.out) (by decide))) hkp (fun k_ hk_ hs_ => Or.elim hs_ (fun e_ => (hk_.1.1.2) e_) (fun e_ => Or.elim e_ (fun e_ => (hk_.1.2) e_) (fun e_ => (hk_.2) e_)))) (fun k_ hk_ => hk_.1.1.1.2)); have n8_ := Aside0.mk (Kd.R_mono (ok' := fun k_ => some k_ ≠ (.slice Ao27 t294.length co27 : Value).ownBlock ∧ some k_ ≠ (.slice Ao28 t297.length co28 : Value).ownBlock ∧ some k_ ≠ (.slice Ao46 t314.length co46 : Value).ownBlock) (Kd.R_keptB ((Kd.R_apart' HO313.out (Kd.R_typed HO_303000.out) (by decide))) hkp (fun k_ hk_ hs_ => Or.elim hs_ (fun e_ => (hk_.2) e_) (fun e_ => Or.elim e_ (fun e_ => (hk_.1.1.2) e_) (fun e_ => (hk_.1.2) e_)))) (fun k_ hk_ => ⟨hk_.1.1.1.2, hk_.1.1.2, hk_.1.1.1.1⟩)); have n9_ := Aside0.mk (Kd.R_mono (ok' := fun k_ => some k_ ≠ (.slice Ao27 t294.length co27 : Value).ownBlock ∧ some k_ ≠ (.slice Ao28 t297.length co28 : Value).ownBlock ∧ some k_ ≠ (.slice Ao45 t311.length co45 : Value).ownBlock) (Kd.R_keptB ((Kd.R_apart' HO316.out (Kd.R_typed HO_303000.out) (by decide))) hkp (fun k_ hk_ hs_ => Or.elim hs_ (fun e_ => (hk_.2) e_) (fun e_ => Or.elim e_ (fun e_ => (hk_.1.1.2) e_) (fun e_ => (hk_.1.2) e_)))) (fun k_ hk_ => ⟨hk_.1.1.1.2, hk_.1.1.2, hk_.1.1.1.1⟩)); have n10_ := Aside0.mk (hb); clear HO_4; clear HO_7; clear HO_303000; clear HO_303001; clear HO_303002; clear BK274; clear BK302; clear HO310; clear HO313; clear HO316; clear HB; have HO_4 := n0_; have HO_7 := n1_; have HO_303000 := n2_; have HO_303001 := n3_; have HO_303002 := n4_; have BK274 := n5_; have BK302 := n6_; have HO310 := n7_; have HO313 := n8_; have HO316 := n9_; have HB := n10_; clear n0_ n1_ n2_ n3_ n4_ n5_ n6_ n7_ n8_ n9_ n10_; (try clear hb); (try clear hkp); (try clear hy0); (try clear hy1); (try clear hy2)))
            (try simp only [Act.put, List.setIfInBounds_toArray, List.set_cons_zero, List.set_cons_succ])
            go_cut [61] (fun v61 wc => ∃ (kq : Nat) (x61_40 : Bool), v61 = .bool x61_40 ∧ Aside0 (laws_FnExactOpenLeads.j1 kq t287 t290 t303 x61_40 l0_0 l0_1 l0_2 a0_3 a0_4 = some r) ∧ Aside0 (kq ≤ kj10) ∧ Aside0 (Kd.R (Kd.int .i64) 3 wc w.heap.size (fun k_ => some k_ ≠ (v304 : Value).ownBlock) v288 t287) ∧ Aside0 (Kd.R (Kd.int .i64) 3 wc w.heap.size (fun k_ => some k_ ≠ (v288 : Value).ownBlock) v304 t303) ∧ Aside0 (Kd.R k29 29 wc w.heap.size (fun _ => True) (.slice Ao24 t291.length co24) t321) ∧ Aside0 (Kd.R Kd.bool 4 wc w.heap.size (fun k_ => some k_ ≠ ((.slice Ao28 t297.length co28) : Value).ownBlock) (.slice Ao27 t294.length co27) t322) ∧ Aside0 (Kd.R Kd.bool 4 wc w.heap.size (fun k_ => some k_ ≠ ((.slice Ao27 t294.length co27) : Value).ownBlock) (.slice Ao28 t297.length co28) t323) ∧ Aside0 (wc.heap[gb274]? = some (.cells #[(.slice A0_0 l0_0.length c0_0), (.slice A0_1 l0_1.length c0_1), (.slice A0_2 l0_2.length c0_2), .int .i64 a0_3, .int .i64 a0_4] 50 (0, 0))) ∧ Aside0 (wc.heap[gb302]? = some (.cells #[(.slice Ao24 t291.length co24), (.slice Ao27 t294.length co27), (.slice Ao28 t297.length co28), .int .i64 t300, .int .i64 t301] 27 (0, 0))) ∧ Aside0 (Below w.heap.size w wc))
            case first =>
              have H := HC41.out
              clear HC41
              by_cases c51 : t320 < 0
              · rw [if_pos c51] at H
                have c51b0 : decide (t320 < 0) = true := decide_eq_true c51
                clear c51
                (first | rw [c51b0] | (simp only [i64_w, i32_w]; rw [c51b0]) | skip)
                have H' := Aside0.mk H
                clear H
                go_wp2
                go_meet
                case rel => exact ⟨_, (true), (by first | rfl | (simp; done) | (simp [*]; done)), H', ⟨by have := HJ10.out; first | omega | exact Nat.le_refl _⟩, ⟨by (with_reducible repeat (first | apply Kd.R_alloc | apply Kd.R_drewN | apply Kd.R_drew)); exact HO_4.out⟩, ⟨by (with_reducible repeat (first | apply Kd.R_alloc | apply Kd.R_drewN | apply Kd.R_drew)); exact HO_7.out⟩, ⟨by (with_reducible repeat (first | apply Kd.R_alloc | apply Kd.R_drewN | apply Kd.R_drew)); exact Kd.R_mono HO_303000.out (fun _ hk => trivial)⟩, ⟨by (with_reducible repeat (first | apply Kd.R_alloc | apply Kd.R_drewN | apply Kd.R_drew)); exact Kd.R_mono HO_303001.out (fun _ hk => hk.1.1)⟩, ⟨by (with_reducible repeat (first | apply Kd.R_alloc | apply Kd.R_drewN | apply Kd.R_drew)); exact Kd.R_mono HO_303002.out (fun _ hk => hk.1.1)⟩, ⟨by (with_reducible repeat (first | refine blk_drewN ?_ _ | refine blk_drew ?_ | refine blk_alloc ?_ _)); exact BK274.out⟩, ⟨by (with_reducible repeat (first | refine blk_drewN ?_ _ | refine blk_drew ?_ | refine blk_alloc ?_ _)); exact BK302.out⟩, ⟨by repeat (first | (with_reducible first | exact HB.out | apply below_alloc | apply pw_below_drewN | apply below_drew1 | refine below_set ?_ GE274.out | refine below_set ?_ GE302.out) | exact HB.out)⟩⟩
              · rw [if_neg c51] at H
                have c51b0 : decide (t320 < 0) = false := decide_eq_false c51
                clear c51
                (first | rw [c51b0] | (simp only [i64_w, i32_w]; rw [c51b0]) | skip)
                replace H := Option.bind_eq_some_iff.mp H
                obtain ⟨t324, A520, H⟩ := H
                replace H : (if t324 = true then (laws_FnExactOpenLeads.j1 kj10 t287 t290 t303 (t306 != t290) l0_0 l0_1 l0_2 a0_3 a0_4) else (laws_FnExactOpenLeads.j1 kj10 t287 t290 t303 true l0_0 l0_1 l0_2 a0_3 a0_4)) = some r := H
                have A52 := Aside0.mk A520
                clear A520
                by_cases c53 : t324 = true
                · subst c53
                  have H1 : (laws_FnExactOpenLeads.j1 kj10 t287 t290 t303 (t306 != t290) l0_0 l0_1 l0_2 a0_3 a0_4) = some r := by rw [if_pos rfl] at H; exact H
                  clear H
                  have H := H1
                  clear H1
                  have H' := Aside0.mk H
                  clear H
                  obtain ⟨Ao54, co54, eo54⟩ := Kd.R_slice HO_7.out
                  subst eo54
                  obtain ⟨Ao55, co55, eo55⟩ := Kd.R_slice HO_4.out
                  subst eo55
                  go_wp2_with (first | (go_at_call 28; (with_reducible refine (laws_eqIntS.calls kj10 _ _ t303 _ _ t287 true _ ?side1 ?side2 ?side3 ?side4 A52.out).mono ?_); (case side1 => repeat (first | exact (Kd.R_reads' HO_7.out).2.2 | (with_reducible refine Kd.C_alloc ?_ _) | (with_reducible refine Kd.C_drewN ?_ _) | (with_reducible refine Kd.C_drew ?_))); (case side2 => exact (Kd.R_reads' HO_7.out).2.1); (case side3 => repeat (first | exact (Kd.R_reads' HO_4.out).2.2 | (with_reducible refine Kd.C_alloc ?_ _) | (with_reducible refine Kd.C_drewN ?_ _) | (with_reducible refine Kd.C_drew ?_))); (case side4 => exact (Kd.R_reads' HO_4.out).2.1); rintro e w' ⟨rfl, ⟨nd, rfl⟩⟩))
                  go_meet
                  case rel => exact ⟨_, ((t306 != t290)), (by first | rfl | (simp; done) | (simp [*]; done)), H', ⟨by have := HJ10.out; first | omega | exact Nat.le_refl _⟩, ⟨by (with_reducible repeat (first | apply Kd.R_alloc | apply Kd.R_drewN | apply Kd.R_drew)); exact HO_4.out⟩, ⟨by (with_reducible repeat (first | apply Kd.R_alloc | apply Kd.R_drewN | apply Kd.R_drew)); exact HO_7.out⟩, ⟨by (with_reducible repeat (first | apply Kd.R_alloc | apply Kd.R_drewN | apply Kd.R_drew)); exact Kd.R_mono HO_303000.out (fun _ hk => trivial)⟩, ⟨by (with_reducible repeat (first | apply Kd.R_alloc | apply Kd.R_drewN | apply Kd.R_drew)); exact Kd.R_mono HO_303001.out (fun _ hk => hk.1.1)⟩, ⟨by (with_reducible repeat (first | apply Kd.R_alloc | apply Kd.R_drewN | apply Kd.R_drew)); exact Kd.R_mono HO_303002.out (fun _ hk => hk.1.1)⟩, ⟨by (with_reducible repeat (first | refine blk_drewN ?_ _ | refine blk_drew ?_ | refine blk_alloc ?_ _)); exact BK274.out⟩, ⟨by (with_reducible repeat (first | refine blk_drewN ?_ _ | refine blk_drew ?_ | refine blk_alloc ?_ _)); exact BK302.out⟩, ⟨by repeat (first | (with_reducible first | exact HB.out | apply below_alloc | apply pw_below_drewN | apply below_drew1 | refine below_set ?_ GE274.out | refine below_set ?_ GE302.out) | exact HB.out)⟩⟩
                · replace c53 := Bool.eq_false_iff.mpr c53
                  subst c53
                  have H1 : (laws_FnExactOpenLeads.j1 kj10 t287 t290 t303 true l0_0 l0_1 l0_2 a0_3 a0_4) = some r := by rw [if_neg (show ¬ (false = true) by decide)] at H; exact H
                  clear H
                  have H := H1
                  clear H1
                  have H' := Aside0.mk H
                  clear H
                  obtain ⟨Ao56, co56, eo56⟩ := Kd.R_slice HO_7.out
                  subst eo56
                  obtain ⟨Ao57, co57, eo57⟩ := Kd.R_slice HO_4.out
                  subst eo57
                  go_wp2_with (first | (go_at_call 28; (with_reducible refine (laws_eqIntS.calls kj10 _ _ t303 _ _ t287 false _ ?side1 ?side2 ?side3 ?side4 A52.out).mono ?_); (case side1 => repeat (first | exact (Kd.R_reads' HO_7.out).2.2 | (with_reducible refine Kd.C_alloc ?_ _) | (with_reducible refine Kd.C_drewN ?_ _) | (with_reducible refine Kd.C_drew ?_))); (case side2 => exact (Kd.R_reads' HO_7.out).2.1); (case side3 => repeat (first | exact (Kd.R_reads' HO_4.out).2.2 | (with_reducible refine Kd.C_alloc ?_ _) | (with_reducible refine Kd.C_drewN ?_ _) | (with_reducible refine Kd.C_drew ?_))); (case side4 => exact (Kd.R_reads' HO_4.out).2.1); rintro e w' ⟨rfl, ⟨nd, rfl⟩⟩))
                  go_meet
                  case rel => exact ⟨_, (true), (by first | rfl | (simp; done) | (simp [*]; done)), H', ⟨by have := HJ10.out; first | omega | exact Nat.le_refl _⟩, ⟨by (with_reducible repeat (first | apply Kd.R_alloc | apply Kd.R_drewN | apply Kd.R_drew)); exact HO_4.out⟩, ⟨by (with_reducible repeat (first | apply Kd.R_alloc | apply Kd.R_drewN | apply Kd.R_drew)); exact HO_7.out⟩, ⟨by (with_reducible repeat (first | apply Kd.R_alloc | apply Kd.R_drewN | apply Kd.R_drew)); exact Kd.R_mono HO_303000.out (fun _ hk => trivial)⟩, ⟨by (with_reducible repeat (first | apply Kd.R_alloc | apply Kd.R_drewN | apply Kd.R_drew)); exact Kd.R_mono HO_303001.out (fun _ hk => hk.1.1)⟩, ⟨by (with_reducible repeat (first | apply Kd.R_alloc | apply Kd.R_drewN | apply Kd.R_drew)); exact Kd.R_mono HO_303002.out (fun _ hk => hk.1.1)⟩, ⟨by (with_reducible repeat (first | refine blk_drewN ?_ _ | refine blk_drew ?_ | refine blk_alloc ?_ _)); exact BK274.out⟩, ⟨by (with_reducible repeat (first | refine blk_drewN ?_ _ | refine blk_drew ?_ | refine blk_alloc ?_ _)); exact BK302.out⟩, ⟨by repeat (first | (with_reducible first | exact HB.out | apply below_alloc | apply pw_below_drewN | apply below_drew1 | refine below_set ?_ GE274.out | refine below_set ?_ GE302.out) | exact HB.out)⟩⟩
            case rest =>
              clear HC41
              try clear c2
              try clear p2
              try clear c3
              try clear c3b0
              try clear c4
              try clear c5
              try clear c24
              try clear c25
              try clear c26
              try clear c27
              try clear c28
              try clear c29
              try clear c30
              try clear c31
              try clear c36
              try clear c39
              try clear c48
              try clear c51
              try clear c51b0
              try clear c53
              try clear hcz13_0
              try clear hcz13_1
              try clear hcz13_2
              try clear hcz13_3
              try clear hcz13_4
              try clear hcz15_0
              try clear hcz15_1
              try clear hcz15_2
              try clear hcz15_3
              try clear hcz15_4
              try clear hcz21_0
              try clear hcz21_1
              try clear hcz21_2
              try clear hcz21_3
              try clear hcz21_4
              try clear hcz26_0
              try clear hcz26_1
              try clear hcz26_2
              try clear hcz26_3
              try clear hcz26_4
              try clear hcz49_0
              try clear hcz49_1
              try clear hcz49_2
              try clear hcz49_3
              try clear hcz49_4
              try clear hcz5_0
              try clear hcz5_1
              try clear hcz5_2
              try clear hcz5_3
              try clear hcz5_4
              try clear hfz13_0
              try clear hfz13_1
              try clear hfz13_2
              try clear hfz13_3
              try clear hfz13_4
              try clear hfz15_0
              try clear hfz15_1
              try clear hfz15_2
              try clear hfz15_3
              try clear hfz15_4
              try clear hfz21_0
              try clear hfz21_1
              try clear hfz21_2
              try clear hfz21_3
              try clear hfz21_4
              try clear hfz26_0
              try clear hfz26_1
              try clear hfz26_2
              try clear hfz26_3
              try clear hfz26_4
              try clear hfz49_0
              try clear hfz49_1
              try clear hfz49_2
              try clear hfz49_3
              try clear hfz49_4
              try clear hfz5_0
              try clear hfz5_1
              try clear hfz5_2
              try clear hfz5_3
              try clear hfz5_4
              try clear p2
              obtain ⟨kq, x61_40, rfl, HA, HJ40, HO_4, HO_7, HO_303000, HO_303001, HO_303002, BK274, BK302, HB⟩ := hcut
              have hl303000_40 := (Kd.R_reads' HO_303000.out).1
              rw [hl303000_40] at HO_303000
              (try simp only [hl303000_40])
              (try simp only [hl303000_40] at BK274)
              (try simp only [hl303000_40] at BK302)
              (try simp only [hl303000_40] at HO_4)
              (try simp only [hl303000_40] at HO_7)
              (try simp only [hl303000_40] at HO_303001)
              (try simp only [hl303000_40] at HO_303002)
              have hl303001_40 := (Kd.R_reads' HO_303001.out).1
              rw [hl303001_40] at HO_303001
              (try simp only [hl303001_40])
              (try simp only [hl303001_40] at BK274)
              (try simp only [hl303001_40] at BK302)
              (try simp only [hl303001_40] at HO_4)
              (try simp only [hl303001_40] at HO_7)
              (try simp only [hl303001_40] at HO_303000)
              (try simp only [hl303001_40] at HO_303002)
              have hl303002_40 := (Kd.R_reads' HO_303002.out).1
              rw [hl303002_40] at HO_303002
              (try simp only [hl303002_40])
              (try simp only [hl303002_40] at BK274)
              (try simp only [hl303002_40] at BK302)
              (try simp only [hl303002_40] at HO_4)
              (try simp only [hl303002_40] at HO_7)
              (try simp only [hl303002_40] at HO_303000)
              (try simp only [hl303002_40] at HO_303001)
              cases kq with
              | zero => exact absurd HA.out (by simp [laws_FnExactOpenLeads.j1])
              | succ kj40 =>
                have H := HA.out
                clear HA
                simp only [laws_FnExactOpenLeads.j1] at H
                by_cases c58 : x61_40 = true
                · subst c58
                  have H1 : (some false) = some r := by rw [if_pos rfl] at H; exact H
                  clear H
                  have H := H1
                  clear H1
                  obtain rfl := Option.some.inj H
                  go_wp2
                  go_ret
                  exact ⟨by first | rfl | (simp [errW_none, errW_some] <;> rfl) | (simp [*, errW_none, errW_some] <;> rfl), by repeat (first | (with_reducible first | exact HB.out | apply below_alloc | apply pw_below_drewN | apply below_drew1 | refine below_set ?_ GE274.out | refine below_set ?_ GE302.out) | exact HB.out)⟩
                · replace c58 := Bool.eq_false_iff.mpr c58
                  subst c58
                  have H1 : ((laws_markIntS.f kj40 t303 1).bind fun bt325 => ((laws_heldIntS.f kj40 bt325.2 1).bind fun t327 => (if t327 < 0 then (some false) else (if t327 = bt325.1 then ((laws_toExploration.f kj40 l0_0 l0_1 l0_2 a0_3 a0_4).bind fun bt328 => ((impl_OpenLeads.f kj40 bt328.1 bt328.2.1 bt328.2.2.1 bt328.2.2.2.1 bt328.2.2.2.2).bind fun bt339 => ((laws_eqIntS.f kj40 bt339.1 t287).bind fun t343 => (if t343 = true then (laws_FnExactOpenLeads.j2 kj40 bt325.2 bt325.1 (bt339.2 != t290)) else (laws_FnExactOpenLeads.j2 kj40 bt325.2 bt325.1 true))))) else (some false))))) = some r := by rw [if_neg (show ¬ (false = true) by decide)] at H; exact H
                  clear H
                  have H := H1
                  clear H1
                  replace H := Option.bind_eq_some_iff.mp H
                  obtain ⟨⟨t325, t326⟩, A590, H⟩ := H
                  replace H : ((laws_heldIntS.f kj40 t326 1).bind fun t327 => (if t327 < 0 then (some false) else (if t327 = t325 then ((laws_toExploration.f kj40 l0_0 l0_1 l0_2 a0_3 a0_4).bind fun bt328 => ((impl_OpenLeads.f kj40 bt328.1 bt328.2.1 bt328.2.2.1 bt328.2.2.2.1 bt328.2.2.2.2).bind fun bt339 => ((laws_eqIntS.f kj40 bt339.1 t287).bind fun t343 => (if t343 = true then (laws_FnExactOpenLeads.j2 kj40 t326 t325 (bt339.2 != t290)) else (laws_FnExactOpenLeads.j2 kj40 t326 t325 true))))) else (some false)))) = some r := H
                  have A59 := Aside0.mk A590
                  clear A590
                  replace H := Option.bind_eq_some_iff.mp H
                  obtain ⟨t327, A600, H⟩ := H
                  replace H : (if t327 < 0 then (some false) else (if t327 = t325 then ((laws_toExploration.f kj40 l0_0 l0_1 l0_2 a0_3 a0_4).bind fun bt328 => ((impl_OpenLeads.f kj40 bt328.1 bt328.2.1 bt328.2.2.1 bt328.2.2.2.1 bt328.2.2.2.2).bind fun bt339 => ((laws_eqIntS.f kj40 bt339.1 t287).bind fun t343 => (if t343 = true then (laws_FnExactOpenLeads.j2 kj40 t326 t325 (bt339.2 != t290)) else (laws_FnExactOpenLeads.j2 kj40 t326 t325 true))))) else (some false))) = some r := H
                  have A60 := Aside0.mk A600
                  clear A600
                  by_cases c61 : t327 < 0
                  · rw [if_pos c61] at H
                    have c61b0 : decide (t327 < 0) = true := decide_eq_true c61
                    clear c61
                    obtain rfl := Option.some.inj H
                    obtain ⟨Ao62, co62, eo62⟩ := Kd.R_slice HO_7.out
                    subst eo62
                    go_wp2_with (first | ((with_reducible refine gate_callee (f := 31) rfl ?_); refine goesL_ (some 64) rfl rfl Try.func31 (by kernel_rfl) rfl #[.slice Ao62 t303.length co62, .int .i64 1] rfl (by (try simp only [List.map_toArray, List.map_cons, List.map_nil]); first | done | rfl | (simp only [List.length_drop, List.length_take]; rfl)) ?_; (with_reducible refine (laws_markIntS.calls kj40 (fun k_ => some k_ = (.slice Ao62 t303.length co62 : Value).ownBlock) (.slice Ao62 t303.length co62) t303 1 t325 t326 w _ ?side1 ?side2 A59.out).mono ?_); (case side1 => repeat (first | (with_reducible first | exact HB.out | apply below_alloc | apply pw_below_drewN | apply below_drew1 | refine below_set ?_ GE274.out | refine below_set ?_ GE302.out) | exact HB.out)); (case side2 => exact Kd.R_tight rfl HO_7.out); rintro e w63 ⟨rfl, hy0, hb, hkp⟩; refine ⟨_, rfl, ?_⟩; have n0_ := Aside0.mk (Kd.R_mono (ok' := fun k_ => some k_ ≠ (.slice Ao62 t303.length co62 : Value).ownBlock) (Kd.R_keptB (HO_4.out) hkp (fun k_ hk_ hs_ => (hk_) hs_)) (fun k_ hk_ => hk_.1)); have n1_ := Aside0.mk (Kd.R_reok rfl hy0 (fun k_ e_ => HO_7.out.1 k_ e_)); have n2_ := Aside0.mk (Kd.R_mono (ok' := fun k_ => True) (Kd.R_keptB ((Kd.R_apart' HO_303000.out (Kd.R_typed HO_7.out) (by decide))) hkp (fun k_ hk_ hs_ => (hk_.2) hs_)) (fun k_ hk_ => trivial)); have n3_ := Aside0.mk (Kd.R_mono (ok' := fun k_ => some k_ ≠ (.slice Ao28 t323.length co28 : Value).ownBlock) (Kd.R_keptB ((Kd.R_apart' HO_303001.out (Kd.R_typed HO_7.out) (by decide))) hkp (fun k_ hk_ hs_ => (hk_.2) hs_)) (fun k_ hk_ => hk_.1.1)); have n4_ := Aside0.mk (Kd.R_mono (ok' := fun k_ => some k_ ≠ (.slice Ao27 t322.length co27 : Value).ownBlock) (Kd.R_keptB ((Kd.R_apart' HO_303002.out (Kd.R_typed HO_7.out) (by decide))) hkp (fun k_ hk_ hs_ => (hk_.2) hs_)) (fun k_ hk_ => hk_.1.1)); have n5_ := Aside0.mk (blk_kept (by (with_reducible repeat (first | refine blk_drewN ?_ _ | refine blk_drew ?_ | refine blk_alloc ?_ _)); exact BK274.out) hkp (fun hs_ => (fun e_ => (Kd.R_ne HO_7.out BK274.out (by decide)) e_) hs_)); have n6_ := Aside0.mk (blk_kept (by (with_reducible repeat (first | refine blk_drewN ?_ _ | refine blk_drew ?_ | refine blk_alloc ?_ _)); exact BK302.out) hkp (fun hs_ => (fun e_ => (Kd.R_ne HO_7.out BK302.out (by decide)) e_) hs_)); have n7_ := Aside0.mk (hb); clear HO_4; clear HO_7; clear HO_303000; clear HO_303001; clear HO_303002; clear BK274; clear BK302; clear HB; have HO_4 := n0_; have HO_7 := n1_; have HO_303000 := n2_; have HO_303001 := n3_; have HO_303002 := n4_; have BK274 := n5_; have BK302 := n6_; have HB := n7_; clear n0_ n1_ n2_ n3_ n4_ n5_ n6_ n7_; (try clear hb); (try clear hkp); (try clear hy0)) | ((with_reducible refine gate_callee (f := 32) rfl ?_); refine goesL_ (some 67) rfl rfl Try.func32 (by kernel_rfl) rfl #[.slice Ao62 t326.length co62, .int .i64 1] rfl (by (try simp only [List.map_toArray, List.map_cons, List.map_nil]); first | done | (rw [show t326.length = t303.length from (Kd.R_reads' HO_7.out).1.symm] <;> rfl) | rfl | (simp only [List.length_drop, List.length_take]; rfl)) ?_; (with_reducible refine (laws_heldIntS.calls kj40 _ _ t326 1 t327 _ ?side1 ?side2 A60.out).mono ?_); (case side1 => repeat (first | exact (Kd.R_reads' HO_7.out).2.2 | (with_reducible refine Kd.C_alloc ?_ _) | (with_reducible refine Kd.C_drewN ?_ _) | (with_reducible refine Kd.C_drew ?_))); (case side2 => rw [show t326.length = t303.length from (Kd.R_reads' HO_7.out).1.symm]; exact (Kd.R_reads' HO_7.out).2.1); rintro e w' ⟨rfl, ⟨nd, rfl⟩⟩; refine ⟨_, rfl, ?_⟩))
                    go_ret
                    exact ⟨by first | rfl | (simp [errW_none, errW_some] <;> rfl) | (simp [*, errW_none, errW_some] <;> rfl), by repeat (first | (with_reducible first | exact HB.out | apply below_alloc | apply pw_below_drewN | apply below_drew1 | refine below_set ?_ GE274.out | refine below_set ?_ GE302.out) | exact HB.out)⟩
                  · rw [if_neg c61] at H
                    have c61b0 : decide (t327 < 0) = false := decide_eq_false c61
                    clear c61
                    by_cases c64 : t327 = t325
                    · rw [if_pos c64] at H
                      have c64b0 : (t327 == t325) = true := beq_iff_eq.mpr c64
                      have c64b1 : (t327 != t325) = false := bne_eq_false_iff_eq.mpr c64
                      clear c64
                      replace H := Option.bind_eq_some_iff.mp H
                      obtain ⟨⟨t328, t331, t334, t337, t338⟩, A650, H⟩ := H
                      replace H : ((impl_OpenLeads.f kj40 t328 t331 t334 t337 t338).bind fun bt339 => ((laws_eqIntS.f kj40 bt339.1 t287).bind fun t343 => (if t343 = true then (laws_FnExactOpenLeads.j2 kj40 t326 t325 (bt339.2 != t290)) else (laws_FnExactOpenLeads.j2 kj40 t326 t325 true)))) = some r := H
                      have A65 := Aside0.mk A650
                      clear A650
                      replace H := Option.bind_eq_some_iff.mp H
                      obtain ⟨⟨t339, t342⟩, A660, H⟩ := H
                      replace H : ((laws_eqIntS.f kj40 t339 t287).bind fun t343 => (if t343 = true then (laws_FnExactOpenLeads.j2 kj40 t326 t325 (t342 != t290)) else (laws_FnExactOpenLeads.j2 kj40 t326 t325 true))) = some r := H
                      have A66 := Aside0.mk A660
                      clear A660
                      have HC67 := Aside0.mk H
                      clear H
                      obtain ⟨Ao68, co68, eo68⟩ := Kd.R_slice HO_7.out
                      subst eo68
                      go_upto_region 25 with (first | ((with_reducible refine gate_callee (f := 31) rfl ?_); refine goesL_ (some 64) rfl rfl Try.func31 (by kernel_rfl) rfl #[.slice Ao68 t303.length co68, .int .i64 1] rfl (by (try simp only [List.map_toArray, List.map_cons, List.map_nil]); first | done | rfl | (simp only [List.length_drop, List.length_take]; rfl)) ?_; (with_reducible refine (laws_markIntS.calls kj40 (fun k_ => some k_ = (.slice Ao68 t303.length co68 : Value).ownBlock) (.slice Ao68 t303.length co68) t303 1 t325 t326 w _ ?side1 ?side2 A59.out).mono ?_); (case side1 => repeat (first | (with_reducible first | exact HB.out | apply below_alloc | apply pw_below_drewN | apply below_drew1 | refine below_set ?_ GE274.out | refine below_set ?_ GE302.out) | exact HB.out)); (case side2 => exact Kd.R_tight rfl HO_7.out); rintro e w69 ⟨rfl, hy0, hb, hkp⟩; refine ⟨_, rfl, ?_⟩; have n0_ := Aside0.mk (Kd.R_mono (ok' := fun k_ => some k_ ≠ (.slice Ao68 t303.length co68 : Value).ownBlock) (Kd.R_keptB (HO_4.out) hkp (fun k_ hk_ hs_ => (hk_) hs_)) (fun k_ hk_ => hk_.1)); have n1_ := Aside0.mk (Kd.R_reok rfl hy0 (fun k_ e_ => HO_7.out.1 k_ e_)); have n2_ := Aside0.mk (Kd.R_mono (ok' := fun k_ => True) (Kd.R_keptB ((Kd.R_apart' HO_303000.out (Kd.R_typed HO_7.out) (by decide))) hkp (fun k_ hk_ hs_ => (hk_.2) hs_)) (fun k_ hk_ => trivial)); have n3_ := Aside0.mk (Kd.R_mono (ok' := fun k_ => some k_ ≠ (.slice Ao28 t323.length co28 : Value).ownBlock) (Kd.R_keptB ((Kd.R_apart' HO_303001.out (Kd.R_typed HO_7.out) (by decide))) hkp (fun k_ hk_ hs_ => (hk_.2) hs_)) (fun k_ hk_ => hk_.1.1)); have n4_ := Aside0.mk (Kd.R_mono (ok' := fun k_ => some k_ ≠ (.slice Ao27 t322.length co27 : Value).ownBlock) (Kd.R_keptB ((Kd.R_apart' HO_303002.out (Kd.R_typed HO_7.out) (by decide))) hkp (fun k_ hk_ hs_ => (hk_.2) hs_)) (fun k_ hk_ => hk_.1.1)); have n5_ := Aside0.mk (blk_kept (by (with_reducible repeat (first | refine blk_drewN ?_ _ | refine blk_drew ?_ | refine blk_alloc ?_ _)); exact BK274.out) hkp (fun hs_ => (fun e_ => (Kd.R_ne HO_7.out BK274.out (by decide)) e_) hs_)); have n6_ := Aside0.mk (blk_kept (by (with_reducible repeat (first | refine blk_drewN ?_ _ | refine blk_drew ?_ | refine blk_alloc ?_ _)); exact BK302.out) hkp (fun hs_ => (fun e_ => (Kd.R_ne HO_7.out BK302.out (by decide)) e_) hs_)); have n7_ := Aside0.mk (hb); clear HO_4; clear HO_7; clear HO_303000; clear HO_303001; clear HO_303002; clear BK274; clear BK302; clear HB; have HO_4 := n0_; have HO_7 := n1_; have HO_303000 := n2_; have HO_303001 := n3_; have HO_303002 := n4_; have BK274 := n5_; have BK302 := n6_; have HB := n7_; clear n0_ n1_ n2_ n3_ n4_ n5_ n6_ n7_; (try clear hb); (try clear hkp); (try clear hy0)) | ((with_reducible refine gate_callee (f := 32) rfl ?_); refine goesL_ (some 67) rfl rfl Try.func32 (by kernel_rfl) rfl #[.slice Ao68 t326.length co68, .int .i64 1] rfl (by (try simp only [List.map_toArray, List.map_cons, List.map_nil]); first | done | (rw [show t326.length = t303.length from (Kd.R_reads' HO_7.out).1.symm] <;> rfl) | rfl | (simp only [List.length_drop, List.length_take]; rfl)) ?_; (with_reducible refine (laws_heldIntS.calls kj40 _ _ t326 1 t327 _ ?side1 ?side2 A60.out).mono ?_); (case side1 => repeat (first | exact (Kd.R_reads' HO_7.out).2.2 | (with_reducible refine Kd.C_alloc ?_ _) | (with_reducible refine Kd.C_drewN ?_ _) | (with_reducible refine Kd.C_drew ?_))); (case side2 => rw [show t326.length = t303.length from (Kd.R_reads' HO_7.out).1.symm]; exact (Kd.R_reads' HO_7.out).2.1); rintro e w' ⟨rfl, ⟨nd, rfl⟩⟩; refine ⟨_, rfl, ?_⟩; have hnb70 := NB274_302.out; have hnc70 := NB302_274.out; have hcz71_0 : w69.cell? ⟨gb274, 0, none⟩ = some (.slice A0_0 l0_0.length c0_0) := (blk_cell BK274.out 0).trans rfl; have hcz71_1 : w69.cell? ⟨gb274, 1, none⟩ = some (.slice A0_1 l0_1.length c0_1) := (blk_cell BK274.out 1).trans rfl; have hcz71_2 : w69.cell? ⟨gb274, 2, none⟩ = some (.slice A0_2 l0_2.length c0_2) := (blk_cell BK274.out 2).trans rfl; have hcz71_3 : w69.cell? ⟨gb274, 3, none⟩ = some (.int .i64 a0_3) := (blk_cell BK274.out 3).trans rfl; have hcz71_4 : w69.cell? ⟨gb274, 4, none⟩ = some (.int .i64 a0_4) := (blk_cell BK274.out 4).trans rfl; have hfz71_0 := blk_frozen BK274.out 0; have hfz71_1 := blk_frozen BK274.out 1; have hfz71_2 := blk_frozen BK274.out 2; have hfz71_3 := blk_frozen BK274.out 3; have hfz71_4 := blk_frozen BK274.out 4) | ((with_reducible refine gate_callee (f := 26) rfl ?_); refine goesL_ (some 75) rfl rfl Try.func26 (by kernel_rfl) rfl #[.agg #[.slice A0_0 l0_0.length c0_0, .slice A0_1 l0_1.length c0_1, .slice A0_2 l0_2.length c0_2, .int .i64 a0_3, .int .i64 a0_4]] rfl (by (try simp only [List.map_toArray, List.map_cons, List.map_nil]); first | done | rfl | (simp only [List.length_drop, List.length_take]; rfl)) ?_; (with_reducible refine (laws_toExploration.calls kj40 _ _ l0_0 _ _ l0_1 _ _ l0_2 a0_3 a0_4 t328 t331 t334 t337 t338 _ ?side1 ?side2 ?side3 ?side4 ?side5 ?side6 A65.out).mono ?_); (case side1 => repeat (first | exact (Kd.C_below HR0_0.out (by repeat (first | (with_reducible first | exact HB.out | apply below_alloc | apply pw_below_drewN | apply below_drew1 | refine below_set ?_ GE274.out | refine below_set ?_ GE302.out) | exact HB.out))) | (with_reducible refine Kd.C_alloc ?_ _) | (with_reducible refine Kd.C_drewN ?_ _) | (with_reducible refine Kd.C_drew ?_))); (case side2 => exact HC0_0.out); (case side3 => repeat (first | exact (Kd.C_below HR0_1.out (by repeat (first | (with_reducible first | exact HB.out | apply below_alloc | apply pw_below_drewN | apply below_drew1 | refine below_set ?_ GE274.out | refine below_set ?_ GE302.out) | exact HB.out))) | (with_reducible refine Kd.C_alloc ?_ _) | (with_reducible refine Kd.C_drewN ?_ _) | (with_reducible refine Kd.C_drew ?_))); (case side4 => exact HC0_1.out); (case side5 => repeat (first | exact (Kd.C_below HR0_2.out (by repeat (first | (with_reducible first | exact HB.out | apply below_alloc | apply pw_below_drewN | apply below_drew1 | refine below_set ?_ GE274.out | refine below_set ?_ GE302.out) | exact HB.out))) | (with_reducible refine Kd.C_alloc ?_ _) | (with_reducible refine Kd.C_drewN ?_ _) | (with_reducible refine Kd.C_drew ?_))); (case side6 => exact HC0_2.out); rintro e w72 ⟨v329, v332, v335, rfl, ho0, ho1, ho2, hb⟩; refine ⟨_, rfl, ?_⟩; have n0_ := Aside0.mk (Kd.R_below (by (with_reducible repeat (first | apply Kd.R_alloc | apply Kd.R_drewN | apply Kd.R_drew)); exact HO_4.out) hb); have n1_ := Aside0.mk (Kd.R_below (by (with_reducible repeat (first | apply Kd.R_alloc | apply Kd.R_drewN | apply Kd.R_drew)); exact HO_7.out) hb); have n2_ := Aside0.mk (Kd.R_elder' (by (with_reducible repeat (first | apply Kd.R_alloc | apply Kd.R_drewN | apply Kd.R_drew)); exact HO_303000.out) (Kd.R_base ho0) hb); have n3_ := Aside0.mk (Kd.R_mono (Kd.R_told (Kd.R_told (Kd.R_old (by (with_reducible repeat (first | apply Kd.R_alloc | apply Kd.R_drewN | apply Kd.R_drew)); exact HO_303001.out) hb) (Kd.R_base ho1)) (Kd.R_base ho2)) (fun _ h_ => h_.1)); have n4_ := Aside0.mk (Kd.R_mono (Kd.R_told (Kd.R_told (Kd.R_old (by (with_reducible repeat (first | apply Kd.R_alloc | apply Kd.R_drewN | apply Kd.R_drew)); exact HO_303002.out) hb) (Kd.R_base ho1)) (Kd.R_base ho2)) (fun _ h_ => h_.1)); have n5_ := Aside0.mk (Kd.R_lower (Kd.R_new' ho0 (Kd.R_lt (by (with_reducible repeat (first | apply Kd.R_alloc | apply Kd.R_drewN | apply Kd.R_drew)); exact HO_303000.out))) (below_size (by repeat (first | (with_reducible first | exact HB.out | apply below_alloc | apply pw_below_drewN | apply below_drew1 | refine below_set ?_ GE274.out | refine below_set ?_ GE302.out) | exact HB.out)))); have n6_ := Aside0.mk (Kd.R_lower (Kd.R_new' (Kd.R_new' ho1 (Kd.R_lt (by (with_reducible repeat (first | apply Kd.R_alloc | apply Kd.R_drewN | apply Kd.R_drew)); exact HO_303001.out))) (Kd.R_lt (by (with_reducible repeat (first | apply Kd.R_alloc | apply Kd.R_drewN | apply Kd.R_drew)); exact HO_303002.out))) (below_size (by repeat (first | (with_reducible first | exact HB.out | apply below_alloc | apply pw_below_drewN | apply below_drew1 | refine below_set ?_ GE274.out | refine below_set ?_ GE302.out) | exact HB.out)))); have n7_ := Aside0.mk (Kd.R_lower (Kd.R_new' (Kd.R_new' ho2 (Kd.R_lt (by (with_reducible repeat (first | apply Kd.R_alloc | apply Kd.R_drewN | apply Kd.R_drew)); exact HO_303001.out))) (Kd.R_lt (by (with_reducible repeat (first | apply Kd.R_alloc | apply Kd.R_drewN | apply Kd.R_drew)); exact HO_303002.out))) (below_size (by repeat (first | (with_reducible first | exact HB.out | apply below_alloc | apply pw_below_drewN | apply below_drew1 | refine below_set ?_ GE274.out | refine below_set ?_ GE302.out) | exact HB.out)))); have n8_ := Aside0.mk (blk_below (g := gb274) (o := .cells #[.slice A0_0 l0_0.length c0_0, .slice A0_1 l0_1.length c0_1, .slice A0_2 l0_2.length c0_2, .int .i64 a0_3, .int .i64 a0_4] 50 (0, 0)) (by (with_reducible repeat (first | refine blk_drewN ?_ _ | refine blk_drew ?_ | refine blk_alloc ?_ _)); exact BK274.out) hb); have n9_ := Aside0.mk (blk_below (g := gb302) (o := .cells #[.slice Ao24 t321.length co24, .slice Ao27 t322.length co27, .slice Ao28 t323.length co28, .int .i64 t300, .int .i64 t301] 27 (0, 0)) (by (with_reducible repeat (first | refine blk_drewN ?_ _ | refine blk_drew ?_ | refine blk_alloc ?_ _)); exact BK302.out) hb); have n10_ := Aside0.mk (below_step (by repeat (first | (with_reducible first | exact HB.out | apply below_alloc | apply pw_below_drewN | apply below_drew1 | refine below_set ?_ GE274.out | refine below_set ?_ GE302.out) | exact HB.out)) hb); clear HO_4; clear HO_7; clear HO_303000; clear HO_303001; clear HO_303002; clear BK274; clear BK302; clear HB; have HO_4 := n0_; have HO_7 := n1_; have HO_303000 := n2_; have HO_303001 := n3_; have HO_303002 := n4_; have HO330 := n5_; have HO333 := n6_; have HO336 := n7_; have BK274 := n8_; have BK302 := n9_; have HB := n10_; clear n0_ n1_ n2_ n3_ n4_ n5_ n6_ n7_ n8_ n9_ n10_; (try clear hb); (try clear hb2); (try clear hk); (try clear hi); (try clear ho0); (try clear ho1); (try clear ho2); obtain ⟨Ao73, co73, eo73⟩ := Kd.R_slice HO330.out; subst eo73; obtain ⟨Ao74, co74, eo74⟩ := Kd.R_slice HO333.out; subst eo74; obtain ⟨Ao75, co75, eo75⟩ := Kd.R_slice HO336.out; subst eo75) | ((with_reducible refine gate_callee (f := 27) rfl ?_); refine goesL_ (some 76) rfl rfl Try.func27 (by kernel_rfl) rfl #[.agg #[.slice Ao73 t328.length co73, .slice Ao74 t331.length co74, .slice Ao75 t334.length co75, .int .i64 t337, .int .i64 t338]] rfl (by (try simp only [List.map_toArray, List.map_cons, List.map_nil]); first | done | rfl | (simp only [List.length_drop, List.length_take]; rfl)) ?_; (with_reducible refine (impl_OpenLeads.calls kj40 _ _ t328 _ _ t331 _ _ t334 t337 t338 t339 t342 _ ?side1 ?side2 ?side3 ?side4 ?side5 ?side6 A66.out).mono ?_); (case side1 => repeat (first | exact (Kd.R_reads' HO330.out).2.2 | (with_reducible refine Kd.C_alloc ?_ _) | (with_reducible refine Kd.C_drewN ?_ _) | (with_reducible refine Kd.C_drew ?_))); (case side2 => exact (Kd.R_reads' HO330.out).2.1); (case side3 => repeat (first | exact (Kd.R_reads' HO333.out).2.2 | (with_reducible refine Kd.C_alloc ?_ _) | (with_reducible refine Kd.C_drewN ?_ _) | (with_reducible refine Kd.C_drew ?_))); (case side4 => exact (Kd.R_reads' HO333.out).2.1); (case side5 => repeat (first | exact (Kd.R_reads' HO336.out).2.2 | (with_reducible refine Kd.C_alloc ?_ _) | (with_reducible refine Kd.C_drewN ?_ _) | (with_reducible refine Kd.C_drew ?_))); (case side6 => exact (Kd.R_reads' HO336.out).2.1); rintro e w76 ⟨v340, rfl, ho0, hb⟩; refine ⟨_, rfl, ?_⟩; have n0_ := Aside0.mk (Kd.R_elder' (by (with_reducible repeat (first | apply Kd.R_alloc | apply Kd.R_drewN | apply Kd.R_drew)); exact HO_4.out) (Kd.R_base ho0) hb); have n1_ := Aside0.mk (Kd.R_elder' (by (with_reducible repeat (first | apply Kd.R_alloc | apply Kd.R_drewN | apply Kd.R_drew)); exact HO_7.out) (Kd.R_base ho0) hb); have n2_ := Aside0.mk (Kd.R_below (by (with_reducible repeat (first | apply Kd.R_alloc | apply Kd.R_drewN | apply Kd.R_drew)); exact HO_303000.out) hb); have n3_ := Aside0.mk (Kd.R_below (by (with_reducible repeat (first | apply Kd.R_alloc | apply Kd.R_drewN | apply Kd.R_drew)); exact HO_303001.out) hb); have n4_ := Aside0.mk (Kd.R_below (by (with_reducible repeat (first | apply Kd.R_alloc | apply Kd.R_drewN | apply Kd.R_drew)); exact HO_303002.out) hb); have n5_ := Aside0.mk (Kd.R_below (by (with_reducible repeat (first | apply Kd.R_alloc | apply Kd.R_drewN | apply Kd.R_drew)); exact HO330.out) hb); have n6_ := Aside0.mk (Kd.R_below (by (with_reducible repeat (first | apply Kd.R_alloc | apply Kd.R_drewN | apply Kd.R_drew)); exact HO333.out) hb); have n7_ := Aside0.mk (Kd.R_below (by (with_reducible repeat (first | apply Kd.R_alloc | apply Kd.R_drewN | apply Kd.R_drew)); exact HO336.out) hb); have n8_ := Aside0.mk (Kd.R_lower (Kd.R_new' (Kd.R_new' ho0 (Kd.R_lt (by (with_reducible repeat (first | apply Kd.R_alloc | apply Kd.R_drewN | apply Kd.R_drew)); exact HO_4.out))) (Kd.R_lt (by (with_reducible repeat (first | apply Kd.R_alloc | apply Kd.R_drewN | apply Kd.R_drew)); exact HO_7.out))) (below_size (by repeat (first | (with_reducible first | exact HB.out | apply below_alloc | apply pw_below_drewN | apply below_drew1 | refine below_set ?_ GE274.out | refine below_set ?_ GE302.out) | exact HB.out)))); have n9_ := Aside0.mk (blk_below (g := gb274) (o := .cells #[.slice A0_0 l0_0.length c0_0, .slice A0_1 l0_1.length c0_1, .slice A0_2 l0_2.length c0_2, .int .i64 a0_3, .int .i64 a0_4] 50 (0, 0)) (by (with_reducible repeat (first | refine blk_drewN ?_ _ | refine blk_drew ?_ | refine blk_alloc ?_ _)); exact BK274.out) hb); have n10_ := Aside0.mk (blk_below (g := gb302) (o := .cells #[.slice Ao24 t321.length co24, .slice Ao27 t322.length co27, .slice Ao28 t323.length co28, .int .i64 t300, .int .i64 t301] 27 (0, 0)) (by (with_reducible repeat (first | refine blk_drewN ?_ _ | refine blk_drew ?_ | refine blk_alloc ?_ _)); exact BK302.out) hb); have n11_ := Aside0.mk (below_step (by repeat (first | (with_reducible first | exact HB.out | apply below_alloc | apply pw_below_drewN | apply below_drew1 | refine below_set ?_ GE274.out | refine below_set ?_ GE302.out) | exact HB.out)) hb); clear HO_4; clear HO_7; clear HO_303000; clear HO_303001; clear HO_303002; clear HO330; clear HO333; clear HO336; clear BK274; clear BK302; clear HB; have HO_4 := n0_; have HO_7 := n1_; have HO_303000 := n2_; have HO_303001 := n3_; have HO_303002 := n4_; have HO330 := n5_; have HO333 := n6_; have HO336 := n7_; have HO341 := n8_; have BK274 := n9_; have BK302 := n10_; have HB := n11_; clear n0_ n1_ n2_ n3_ n4_ n5_ n6_ n7_ n8_ n9_ n10_ n11_; (try clear hb); (try clear hb2); (try clear hk); (try clear hi); (try clear ho0)))
                      (try simp only [Act.put, List.setIfInBounds_toArray, List.set_cons_zero, List.set_cons_succ])
                      go_cut [87] (fun v87 wc => ∃ (kq : Nat) (x87_66 : Bool), v87 = .bool x87_66 ∧ Aside0 (laws_FnExactOpenLeads.j2 kq t326 t325 x87_66 = some r) ∧ Aside0 (kq ≤ kj40) ∧ Aside0 (Kd.R (Kd.int .i64) 3 wc w.heap.size (fun _ => True) (.slice Ao68 t303.length co68) t326) ∧ Aside0 (Kd.R k29 29 wc w.heap.size (fun _ => True) (.slice Ao24 t321.length co24) t321) ∧ Aside0 (Kd.R Kd.bool 4 wc w.heap.size (fun k_ => some k_ ≠ ((.slice Ao28 t323.length co28) : Value).ownBlock) (.slice Ao27 t322.length co27) t322) ∧ Aside0 (Kd.R Kd.bool 4 wc w.heap.size (fun k_ => some k_ ≠ ((.slice Ao27 t322.length co27) : Value).ownBlock) (.slice Ao28 t323.length co28) t323) ∧ Aside0 (wc.heap[gb274]? = some (.cells #[(.slice A0_0 l0_0.length c0_0), (.slice A0_1 l0_1.length c0_1), (.slice A0_2 l0_2.length c0_2), .int .i64 a0_3, .int .i64 a0_4] 50 (0, 0))) ∧ Aside0 (wc.heap[gb302]? = some (.cells #[(.slice Ao24 t321.length co24), (.slice Ao27 t322.length co27), (.slice Ao28 t323.length co28), .int .i64 t300, .int .i64 t301] 27 (0, 0))) ∧ Aside0 (Below w.heap.size w wc))
                      case first =>
                        have H := HC67.out
                        clear HC67
                        replace H := Option.bind_eq_some_iff.mp H
                        obtain ⟨t343, A770, H⟩ := H
                        replace H : (if t343 = true then (laws_FnExactOpenLeads.j2 kj40 t326 t325 (t342 != t290)) else (laws_FnExactOpenLeads.j2 kj40 t326 t325 true)) = some r := H
                        have A77 := Aside0.mk A770
                        clear A770
                        by_cases c78 : t343 = true
                        · subst c78
                          have H1 : (laws_FnExactOpenLeads.j2 kj40 t326 t325 (t342 != t290)) = some r := by rw [if_pos rfl] at H; exact H
                          clear H
                          have H := H1
                          clear H1
                          have H' := Aside0.mk H
                          clear H
                          obtain ⟨Ao79, co79, eo79⟩ := Kd.R_slice HO341.out
                          subst eo79
                          obtain ⟨Ao80, co80, eo80⟩ := Kd.R_slice HO_4.out
                          subst eo80
                          go_wp2_with (first | ((with_reducible refine gate_callee (f := 28) rfl ?_); refine goesL_ (some 81) rfl rfl Try.func28 (by kernel_rfl) rfl #[.slice Ao79 t339.length co79, .slice Ao80 t287.length co80] rfl (by (try simp only [List.map_toArray, List.map_cons, List.map_nil]); first | done | rfl | (simp only [List.length_drop, List.length_take]; rfl)) ?_; (with_reducible refine (laws_eqIntS.calls kj40 _ _ t339 _ _ t287 true _ ?side1 ?side2 ?side3 ?side4 A77.out).mono ?_); (case side1 => repeat (first | exact (Kd.R_reads' HO341.out).2.2 | (with_reducible refine Kd.C_alloc ?_ _) | (with_reducible refine Kd.C_drewN ?_ _) | (with_reducible refine Kd.C_drew ?_))); (case side2 => exact (Kd.R_reads' HO341.out).2.1); (case side3 => repeat (first | exact (Kd.R_reads' HO_4.out).2.2 | (with_reducible refine Kd.C_alloc ?_ _) | (with_reducible refine Kd.C_drewN ?_ _) | (with_reducible refine Kd.C_drew ?_))); (case side4 => exact (Kd.R_reads' HO_4.out).2.1); rintro e w' ⟨rfl, ⟨nd, rfl⟩⟩; refine ⟨_, rfl, ?_⟩))
                          go_meet
                          case rel => exact ⟨_, ((t342 != t290)), (by first | rfl | (simp; done) | (simp [*]; done)), H', ⟨by have := HJ10.out; have := HJ40.out; first | omega | exact Nat.le_refl _⟩, ⟨by (try simp only [hl303000_40]); (try simp only [hl303001_40]); (try simp only [hl303002_40]); (with_reducible repeat (first | apply Kd.R_alloc | apply Kd.R_drewN | apply Kd.R_drew)); exact Kd.R_mono HO_7.out (fun _ hk => trivial)⟩, ⟨by (try simp only [hl303000_40]); (try simp only [hl303001_40]); (try simp only [hl303002_40]); (with_reducible repeat (first | apply Kd.R_alloc | apply Kd.R_drewN | apply Kd.R_drew)); exact Kd.R_mono HO_303000.out (fun _ hk => trivial)⟩, ⟨by (try simp only [hl303000_40]); (try simp only [hl303001_40]); (try simp only [hl303002_40]); (with_reducible repeat (first | apply Kd.R_alloc | apply Kd.R_drewN | apply Kd.R_drew)); exact Kd.R_mono HO_303001.out (fun _ hk => hk.1.1)⟩, ⟨by (try simp only [hl303000_40]); (try simp only [hl303001_40]); (try simp only [hl303002_40]); (with_reducible repeat (first | apply Kd.R_alloc | apply Kd.R_drewN | apply Kd.R_drew)); exact Kd.R_mono HO_303002.out (fun _ hk => hk.1.1)⟩, ⟨by (try simp only [hl303000_40]); (try simp only [hl303001_40]); (try simp only [hl303002_40]); (with_reducible repeat (first | refine blk_drewN ?_ _ | refine blk_drew ?_ | refine blk_alloc ?_ _)); exact BK274.out⟩, ⟨by (try simp only [hl303000_40]); (try simp only [hl303001_40]); (try simp only [hl303002_40]); (with_reducible repeat (first | refine blk_drewN ?_ _ | refine blk_drew ?_ | refine blk_alloc ?_ _)); exact BK302.out⟩, ⟨by repeat (first | (with_reducible first | exact HB.out | apply below_alloc | apply pw_below_drewN | apply below_drew1 | refine below_set ?_ GE274.out | refine below_set ?_ GE302.out) | exact HB.out)⟩⟩
                        · replace c78 := Bool.eq_false_iff.mpr c78
                          subst c78
                          have H1 : (laws_FnExactOpenLeads.j2 kj40 t326 t325 true) = some r := by rw [if_neg (show ¬ (false = true) by decide)] at H; exact H
                          clear H
                          have H := H1
                          clear H1
                          have H' := Aside0.mk H
                          clear H
                          obtain ⟨Ao81, co81, eo81⟩ := Kd.R_slice HO341.out
                          subst eo81
                          obtain ⟨Ao82, co82, eo82⟩ := Kd.R_slice HO_4.out
                          subst eo82
                          go_wp2_with (first | ((with_reducible refine gate_callee (f := 28) rfl ?_); refine goesL_ (some 81) rfl rfl Try.func28 (by kernel_rfl) rfl #[.slice Ao81 t339.length co81, .slice Ao82 t287.length co82] rfl (by (try simp only [List.map_toArray, List.map_cons, List.map_nil]); first | done | rfl | (simp only [List.length_drop, List.length_take]; rfl)) ?_; (with_reducible refine (laws_eqIntS.calls kj40 _ _ t339 _ _ t287 false _ ?side1 ?side2 ?side3 ?side4 A77.out).mono ?_); (case side1 => repeat (first | exact (Kd.R_reads' HO341.out).2.2 | (with_reducible refine Kd.C_alloc ?_ _) | (with_reducible refine Kd.C_drewN ?_ _) | (with_reducible refine Kd.C_drew ?_))); (case side2 => exact (Kd.R_reads' HO341.out).2.1); (case side3 => repeat (first | exact (Kd.R_reads' HO_4.out).2.2 | (with_reducible refine Kd.C_alloc ?_ _) | (with_reducible refine Kd.C_drewN ?_ _) | (with_reducible refine Kd.C_drew ?_))); (case side4 => exact (Kd.R_reads' HO_4.out).2.1); rintro e w' ⟨rfl, ⟨nd, rfl⟩⟩; refine ⟨_, rfl, ?_⟩))
                          go_meet
                          case rel => exact ⟨_, (true), (by first | rfl | (simp; done) | (simp [*]; done)), H', ⟨by have := HJ10.out; have := HJ40.out; first | omega | exact Nat.le_refl _⟩, ⟨by (try simp only [hl303000_40]); (try simp only [hl303001_40]); (try simp only [hl303002_40]); (with_reducible repeat (first | apply Kd.R_alloc | apply Kd.R_drewN | apply Kd.R_drew)); exact Kd.R_mono HO_7.out (fun _ hk => trivial)⟩, ⟨by (try simp only [hl303000_40]); (try simp only [hl303001_40]); (try simp only [hl303002_40]); (with_reducible repeat (first | apply Kd.R_alloc | apply Kd.R_drewN | apply Kd.R_drew)); exact Kd.R_mono HO_303000.out (fun _ hk => trivial)⟩, ⟨by (try simp only [hl303000_40]); (try simp only [hl303001_40]); (try simp only [hl303002_40]); (with_reducible repeat (first | apply Kd.R_alloc | apply Kd.R_drewN | apply Kd.R_drew)); exact Kd.R_mono HO_303001.out (fun _ hk => hk.1.1)⟩, ⟨by (try simp only [hl303000_40]); (try simp only [hl303001_40]); (try simp only [hl303002_40]); (with_reducible repeat (first | apply Kd.R_alloc | apply Kd.R_drewN | apply Kd.R_drew)); exact Kd.R_mono HO_303002.out (fun _ hk => hk.1.1)⟩, ⟨by (try simp only [hl303000_40]); (try simp only [hl303001_40]); (try simp only [hl303002_40]); (with_reducible repeat (first | refine blk_drewN ?_ _ | refine blk_drew ?_ | refine blk_alloc ?_ _)); exact BK274.out⟩, ⟨by (try simp only [hl303000_40]); (try simp only [hl303001_40]); (try simp only [hl303002_40]); (with_reducible repeat (first | refine blk_drewN ?_ _ | refine blk_drew ?_ | refine blk_alloc ?_ _)); exact BK302.out⟩, ⟨by repeat (first | (with_reducible first | exact HB.out | apply below_alloc | apply pw_below_drewN | apply below_drew1 | refine below_set ?_ GE274.out | refine below_set ?_ GE302.out) | exact HB.out)⟩⟩
                      case rest =>
                        clear HC67
                        try clear c2
                        try clear p2
                        try clear c3
                        try clear c3b0
                        try clear c4
                        try clear c5
                        try clear c6
                        try clear c7
                        try clear c24
                        try clear c25
                        try clear c26
                        try clear c27
                        try clear c28
                        try clear c29
                        try clear c30
                        try clear c31
                        try clear c32
                        try clear c36
                        try clear c39
                        try clear c48
                        try clear c51
                        try clear c51b0
                        try clear c53
                        try clear c58
                        try clear c61
                        try clear c61b0
                        try clear c64
                        try clear c64b0
                        try clear c64b1
                        try clear c70
                        try clear c78
                        try clear hcz13_0
                        try clear hcz13_1
                        try clear hcz13_2
                        try clear hcz13_3
                        try clear hcz13_4
                        try clear hcz15_0
                        try clear hcz15_1
                        try clear hcz15_2
                        try clear hcz15_3
                        try clear hcz15_4
                        try clear hcz21_0
                        try clear hcz21_1
                        try clear hcz21_2
                        try clear hcz21_3
                        try clear hcz21_4
                        try clear hcz26_0
                        try clear hcz26_1
                        try clear hcz26_2
                        try clear hcz26_3
                        try clear hcz26_4
                        try clear hcz49_0
                        try clear hcz49_1
                        try clear hcz49_2
                        try clear hcz49_3
                        try clear hcz49_4
                        try clear hcz5_0
                        try clear hcz5_1
                        try clear hcz5_2
                        try clear hcz5_3
                        try clear hcz5_4
                        try clear hcz71_0
                        try clear hcz71_1
                        try clear hcz71_2
                        try clear hcz71_3
                        try clear hcz71_4
                        try clear hfz13_0
                        try clear hfz13_1
                        try clear hfz13_2
                        try clear hfz13_3
                        try clear hfz13_4
                        try clear hfz15_0
                        try clear hfz15_1
                        try clear hfz15_2
                        try clear hfz15_3
                        try clear hfz15_4
                        try clear hfz21_0
                        try clear hfz21_1
                        try clear hfz21_2
                        try clear hfz21_3
                        try clear hfz21_4
                        try clear hfz26_0
                        try clear hfz26_1
                        try clear hfz26_2
                        try clear hfz26_3
                        try clear hfz26_4
                        try clear hfz49_0
                        try clear hfz49_1
                        try clear hfz49_2
                        try clear hfz49_3
                        try clear hfz49_4
                        try clear hfz5_0
                        try clear hfz5_1
                        try clear hfz5_2
                        try clear hfz5_3
                        try clear hfz5_4
                        try clear hfz71_0
                        try clear hfz71_1
                        try clear hfz71_2
                        try clear hfz71_3
                        try clear hfz71_4
                        try clear p2
                        obtain ⟨kq, x87_66, rfl, HA, HJ66, HO_7, HO_303000, HO_303001, HO_303002, BK274, BK302, HB⟩ := hcut
                        have hl7_66 := (Kd.R_reads' HO_7.out).1
                        rw [hl7_66] at HO_7
                        (try simp only [hl7_66])
                        (try simp only [hl7_66] at BK274)
                        (try simp only [hl7_66] at BK302)
                        (try simp only [hl7_66] at HO_303000)
                        (try simp only [hl7_66] at HO_303001)
                        (try simp only [hl7_66] at HO_303002)
                        cases kq with
                        | zero => exact absurd HA.out (by simp [laws_FnExactOpenLeads.j2])
                        | succ kj66 =>
                          have H := HA.out
                          clear HA
                          simp only [laws_FnExactOpenLeads.j2] at H
                          by_cases c83 : x87_66 = true
                          · subst c83
                            have H1 : (some false) = some r := by rw [if_pos rfl] at H; exact H
                            clear H
                            have H := H1
                            clear H1
                            obtain rfl := Option.some.inj H
                            go_wp2
                            go_ret
                            exact ⟨by first | rfl | (simp [errW_none, errW_some] <;> rfl) | (simp [*, errW_none, errW_some] <;> rfl), by repeat (first | (with_reducible first | exact HB.out | apply below_alloc | apply pw_below_drewN | apply below_drew1 | refine below_set ?_ GE274.out | refine below_set ?_ GE302.out) | exact HB.out)⟩
                          · replace c83 := Bool.eq_false_iff.mpr c83
                            subst c83
                            have H1 : ((laws_heldIntS.f kj66 t326 1).bind fun t344 => (if t344 < 0 then (some false) else (if t344 = t325 then (some true) else (some false)))) = some r := by rw [if_neg (show ¬ (false = true) by decide)] at H; exact H
                            clear H
                            have H := H1
                            clear H1
                            replace H := Option.bind_eq_some_iff.mp H
                            obtain ⟨t344, A840, H⟩ := H
                            replace H : (if t344 < 0 then (some false) else (if t344 = t325 then (some true) else (some false))) = some r := H
                            have A84 := Aside0.mk A840
                            clear A840
                            by_cases c85 : t344 < 0
                            · rw [if_pos c85] at H
                              have c85b0 : decide (t344 < 0) = true := decide_eq_true c85
                              clear c85
                              obtain rfl := Option.some.inj H
                              go_wp2_with (first | ((with_reducible refine gate_callee (f := 32) rfl ?_); refine goesL_ (some 90) rfl rfl Try.func32 (by kernel_rfl) rfl #[.slice Ao68 t326.length co68, .int .i64 1] rfl (by (try simp only [List.map_toArray, List.map_cons, List.map_nil]); first | done | rfl | (simp only [List.length_drop, List.length_take]; rfl)) ?_; (with_reducible refine (laws_heldIntS.calls kj66 _ _ t326 1 t344 _ ?side1 ?side2 A84.out).mono ?_); (case side1 => repeat (first | exact (Kd.R_reads' HO_7.out).2.2 | (with_reducible refine Kd.C_alloc ?_ _) | (with_reducible refine Kd.C_drewN ?_ _) | (with_reducible refine Kd.C_drew ?_))); (case side2 => exact (Kd.R_reads' HO_7.out).2.1); rintro e w' ⟨rfl, ⟨nd, rfl⟩⟩; refine ⟨_, rfl, ?_⟩))
                              go_ret
                              exact ⟨by first | rfl | (simp [errW_none, errW_some] <;> rfl) | (simp [*, errW_none, errW_some] <;> rfl), by repeat (first | (with_reducible first | exact HB.out | apply below_alloc | apply pw_below_drewN | apply below_drew1 | refine below_set ?_ GE274.out | refine below_set ?_ GE302.out) | exact HB.out)⟩
                            · rw [if_neg c85] at H
                              have c85b0 : decide (t344 < 0) = false := decide_eq_false c85
                              clear c85
                              by_cases c86 : t344 = t325
                              · rw [if_pos c86] at H
                                have c86b0 : (t344 == t325) = true := beq_iff_eq.mpr c86
                                have c86b1 : (t344 != t325) = false := bne_eq_false_iff_eq.mpr c86
                                clear c86
                                obtain rfl := Option.some.inj H
                                go_wp2_with (first | ((with_reducible refine gate_callee (f := 32) rfl ?_); refine goesL_ (some 90) rfl rfl Try.func32 (by kernel_rfl) rfl #[.slice Ao68 t326.length co68, .int .i64 1] rfl (by (try simp only [List.map_toArray, List.map_cons, List.map_nil]); first | done | rfl | (simp only [List.length_drop, List.length_take]; rfl)) ?_; (with_reducible refine (laws_heldIntS.calls kj66 _ _ t326 1 t344 _ ?side1 ?side2 A84.out).mono ?_); (case side1 => repeat (first | exact (Kd.R_reads' HO_7.out).2.2 | (with_reducible refine Kd.C_alloc ?_ _) | (with_reducible refine Kd.C_drewN ?_ _) | (with_reducible refine Kd.C_drew ?_))); (case side2 => exact (Kd.R_reads' HO_7.out).2.1); rintro e w' ⟨rfl, ⟨nd, rfl⟩⟩; refine ⟨_, rfl, ?_⟩))
                                go_ret
                                exact ⟨by first | rfl | (simp [errW_none, errW_some] <;> rfl) | (simp [*, errW_none, errW_some] <;> rfl), by repeat (first | (with_reducible first | exact HB.out | apply below_alloc | apply pw_below_drewN | apply below_drew1 | refine below_set ?_ GE274.out | refine below_set ?_ GE302.out) | exact HB.out)⟩
                              · rw [if_neg c86] at H
                                have c86b0 : (t344 == t325) = false := beq_eq_false_iff_ne.mpr c86
                                have c86b1 : (t344 != t325) = true := bne_iff_ne.mpr c86
                                obtain rfl := Option.some.inj H
                                go_wp2_with (first | ((with_reducible refine gate_callee (f := 32) rfl ?_); refine goesL_ (some 90) rfl rfl Try.func32 (by kernel_rfl) rfl #[.slice Ao68 t326.length co68, .int .i64 1] rfl (by (try simp only [List.map_toArray, List.map_cons, List.map_nil]); first | done | rfl | (simp only [List.length_drop, List.length_take]; rfl)) ?_; (with_reducible refine (laws_heldIntS.calls kj66 _ _ t326 1 t344 _ ?side1 ?side2 A84.out).mono ?_); (case side1 => repeat (first | exact (Kd.R_reads' HO_7.out).2.2 | (with_reducible refine Kd.C_alloc ?_ _) | (with_reducible refine Kd.C_drewN ?_ _) | (with_reducible refine Kd.C_drew ?_))); (case side2 => exact (Kd.R_reads' HO_7.out).2.1); rintro e w' ⟨rfl, ⟨nd, rfl⟩⟩; refine ⟨_, rfl, ?_⟩))
                                go_ret
                                exact ⟨by first | rfl | (simp [errW_none, errW_some] <;> rfl) | (simp [*, errW_none, errW_some] <;> rfl), by repeat (first | (with_reducible first | exact HB.out | apply below_alloc | apply pw_below_drewN | apply below_drew1 | refine below_set ?_ GE274.out | refine below_set ?_ GE302.out) | exact HB.out)⟩
                    · rw [if_neg c64] at H
                      have c64b0 : (t327 == t325) = false := beq_eq_false_iff_ne.mpr c64
                      have c64b1 : (t327 != t325) = true := bne_iff_ne.mpr c64
                      obtain rfl := Option.some.inj H
                      obtain ⟨Ao87, co87, eo87⟩ := Kd.R_slice HO_7.out
                      subst eo87
                      go_wp2_with (first | ((with_reducible refine gate_callee (f := 31) rfl ?_); refine goesL_ (some 64) rfl rfl Try.func31 (by kernel_rfl) rfl #[.slice Ao87 t303.length co87, .int .i64 1] rfl (by (try simp only [List.map_toArray, List.map_cons, List.map_nil]); first | done | rfl | (simp only [List.length_drop, List.length_take]; rfl)) ?_; (with_reducible refine (laws_markIntS.calls kj40 (fun k_ => some k_ = (.slice Ao87 t303.length co87 : Value).ownBlock) (.slice Ao87 t303.length co87) t303 1 t325 t326 w _ ?side1 ?side2 A59.out).mono ?_); (case side1 => repeat (first | (with_reducible first | exact HB.out | apply below_alloc | apply pw_below_drewN | apply below_drew1 | refine below_set ?_ GE274.out | refine below_set ?_ GE302.out) | exact HB.out)); (case side2 => exact Kd.R_tight rfl HO_7.out); rintro e w88 ⟨rfl, hy0, hb, hkp⟩; refine ⟨_, rfl, ?_⟩; have n0_ := Aside0.mk (Kd.R_mono (ok' := fun k_ => some k_ ≠ (.slice Ao87 t303.length co87 : Value).ownBlock) (Kd.R_keptB (HO_4.out) hkp (fun k_ hk_ hs_ => (hk_) hs_)) (fun k_ hk_ => hk_.1)); have n1_ := Aside0.mk (Kd.R_reok rfl hy0 (fun k_ e_ => HO_7.out.1 k_ e_)); have n2_ := Aside0.mk (Kd.R_mono (ok' := fun k_ => True) (Kd.R_keptB ((Kd.R_apart' HO_303000.out (Kd.R_typed HO_7.out) (by decide))) hkp (fun k_ hk_ hs_ => (hk_.2) hs_)) (fun k_ hk_ => trivial)); have n3_ := Aside0.mk (Kd.R_mono (ok' := fun k_ => some k_ ≠ (.slice Ao28 t323.length co28 : Value).ownBlock) (Kd.R_keptB ((Kd.R_apart' HO_303001.out (Kd.R_typed HO_7.out) (by decide))) hkp (fun k_ hk_ hs_ => (hk_.2) hs_)) (fun k_ hk_ => hk_.1.1)); have n4_ := Aside0.mk (Kd.R_mono (ok' := fun k_ => some k_ ≠ (.slice Ao27 t322.length co27 : Value).ownBlock) (Kd.R_keptB ((Kd.R_apart' HO_303002.out (Kd.R_typed HO_7.out) (by decide))) hkp (fun k_ hk_ hs_ => (hk_.2) hs_)) (fun k_ hk_ => hk_.1.1)); have n5_ := Aside0.mk (blk_kept (by (with_reducible repeat (first | refine blk_drewN ?_ _ | refine blk_drew ?_ | refine blk_alloc ?_ _)); exact BK274.out) hkp (fun hs_ => (fun e_ => (Kd.R_ne HO_7.out BK274.out (by decide)) e_) hs_)); have n6_ := Aside0.mk (blk_kept (by (with_reducible repeat (first | refine blk_drewN ?_ _ | refine blk_drew ?_ | refine blk_alloc ?_ _)); exact BK302.out) hkp (fun hs_ => (fun e_ => (Kd.R_ne HO_7.out BK302.out (by decide)) e_) hs_)); have n7_ := Aside0.mk (hb); clear HO_4; clear HO_7; clear HO_303000; clear HO_303001; clear HO_303002; clear BK274; clear BK302; clear HB; have HO_4 := n0_; have HO_7 := n1_; have HO_303000 := n2_; have HO_303001 := n3_; have HO_303002 := n4_; have BK274 := n5_; have BK302 := n6_; have HB := n7_; clear n0_ n1_ n2_ n3_ n4_ n5_ n6_ n7_; (try clear hb); (try clear hkp); (try clear hy0)) | ((with_reducible refine gate_callee (f := 32) rfl ?_); refine goesL_ (some 67) rfl rfl Try.func32 (by kernel_rfl) rfl #[.slice Ao87 t326.length co87, .int .i64 1] rfl (by (try simp only [List.map_toArray, List.map_cons, List.map_nil]); first | done | (rw [show t326.length = t303.length from (Kd.R_reads' HO_7.out).1.symm] <;> rfl) | rfl | (simp only [List.length_drop, List.length_take]; rfl)) ?_; (with_reducible refine (laws_heldIntS.calls kj40 _ _ t326 1 t327 _ ?side1 ?side2 A60.out).mono ?_); (case side1 => repeat (first | exact (Kd.R_reads' HO_7.out).2.2 | (with_reducible refine Kd.C_alloc ?_ _) | (with_reducible refine Kd.C_drewN ?_ _) | (with_reducible refine Kd.C_drew ?_))); (case side2 => rw [show t326.length = t303.length from (Kd.R_reads' HO_7.out).1.symm]; exact (Kd.R_reads' HO_7.out).2.1); rintro e w' ⟨rfl, ⟨nd, rfl⟩⟩; refine ⟨_, rfl, ?_⟩))
                      go_ret
                      exact ⟨by first | rfl | (simp [errW_none, errW_some] <;> rfl) | (simp [*, errW_none, errW_some] <;> rfl), by repeat (first | (with_reducible first | exact HB.out | apply below_alloc | apply pw_below_drewN | apply below_drew1 | refine below_set ?_ GE274.out | refine below_set ?_ GE302.out) | exact HB.out)⟩
          · replace c39 := Bool.eq_false_iff.mpr c39
            subst c39
            have H1 : (some false) = some r := by rw [if_neg (show ¬ (false = true) by decide)] at H; exact H
            clear H
            have H := H1
            clear H1
            obtain rfl := Option.some.inj H
            try go_wp2
            have n0_ := Aside0.mk (Kd.R_drew HO_4.out)
            have n1_ := Aside0.mk (Kd.R_drew HO_7.out)
            have n2_ := Aside0.mk (Kd.R_drew HO_303000.out)
            have n3_ := Aside0.mk (Kd.R_drew HO_303001.out)
            have n4_ := Aside0.mk (Kd.R_drew HO_303002.out)
            have n5_ := Aside0.mk (blk_drew BK274.out)
            have n6_ := Aside0.mk (blk_drew BK302.out)
            have n7_ := Aside0.mk (below_drew1 HB.out)
            clear HO_4
            clear HO_7
            clear HO_303000
            clear HO_303001
            clear HO_303002
            clear BK274
            clear BK302
            clear HB
            have HO_4 := n0_
            have HO_7 := n1_
            have HO_303000 := n2_
            have HO_303001 := n3_
            have HO_303002 := n4_
            have BK274 := n5_
            have BK302 := n6_
            have HB := n7_
            clear n0_ n1_ n2_ n3_ n4_ n5_ n6_ n7_
            refine start_ (n := 5) (S := fun w' => w'.cell? ⟨gb302, 0, none⟩ = some (.slice Ao24 t291.length co24) ∧ w'.cell? ⟨gb302, 1, none⟩ = some (.slice Ao27 t294.length co27) ∧ w'.cell? ⟨gb302, 2, none⟩ = some (.slice Ao28 t297.length co28) ∧ w'.cell? ⟨gb302, 3, none⟩ = some (.int .i64 t300) ∧ w'.cell? ⟨gb302, 4, none⟩ = some (.int .i64 t301) ∧ w'.cell? ⟨gb274, 0, none⟩ = some (.slice A0_0 l0_0.length c0_0) ∧ w'.cell? ⟨gb274, 1, none⟩ = some (.slice A0_1 l0_1.length c0_1) ∧ w'.cell? ⟨gb274, 2, none⟩ = some (.slice A0_2 l0_2.length c0_2) ∧ w'.cell? ⟨gb274, 3, none⟩ = some (.int .i64 a0_3) ∧ w'.cell? ⟨gb274, 4, none⟩ = some (.int .i64 a0_4)) (ds := []) #[false, false, false, false, false] (by kernel_rfl) rfl rfl ⟨(blk_cell BK302.out 0).trans rfl, (blk_cell BK302.out 1).trans rfl, (blk_cell BK302.out 2).trans rfl, (blk_cell BK302.out 3).trans rfl, (blk_cell BK302.out 4).trans rfl, (blk_cell BK274.out 0).trans rfl, (blk_cell BK274.out 1).trans rfl, (blk_cell BK274.out 2).trans rfl, (blk_cell BK274.out 3).trans rfl, (blk_cell BK274.out 4).trans rfl⟩ (fun hHeld => ?_)
            generalize wc.drew = w89 at HO_4 HO_7 HO_303000 HO_303001 HO_303002 BK274 BK302 HB hHeld ⊢
            refine take_ (i := 0) (N := some 41) (v := ?_) (a' := ?_) #[true, false, false, false, false] rfl rfl (by kernel_rfl) (fun _ _ _ h => h) (Or.inl ⟨by rfl, ?_⟩) hHeld ?_ ?_
            rotate_left
            · rintro w' ⟨s0, s1, s2, s3, s4, s5, s6, s7, s8, s9⟩
              go_simp
              with_reducible rfl
            rotate_left
            · simp only [Act.put, List.setIfInBounds_toArray, List.set_cons_zero, List.set_cons_succ, i64_w, i32_w]
              rfl
            refine take_ (i := 1) (N := some 42) (v := ?_) (a' := ?_) #[true, true, false, false, false] rfl rfl (by kernel_rfl) (fun _ _ _ h => h) (Or.inl ⟨by rfl, ?_⟩) hHeld ?_ ?_
            rotate_left
            · rintro w' ⟨s0, s1, s2, s3, s4, s5, s6, s7, s8, s9⟩
              go_simp
              with_reducible rfl
            rotate_left
            · simp only [Act.put, List.setIfInBounds_toArray, List.set_cons_zero, List.set_cons_succ, i64_w, i32_w]
              rfl
            refine one_ (i := 2) (N := some 43) #[true, true, true, false, false] rfl rfl (by kernel_rfl) (by decide) (fun K hK => ?_)
            refine goes_ Try.func26 (by kernel_rfl) rfl #[.agg #[.slice A0_0 l0_0.length c0_0, .slice A0_1 l0_1.length c0_1, .slice A0_2 l0_2.length c0_2, .int .i64 a0_3, .int .i64 a0_4]] (by rfl) rfl rfl (by (try simp only [List.map_toArray, List.map_cons, List.map_nil]); first | done | rfl | (simp only [List.length_drop, List.length_take]; rfl)) ?_
            with_reducible refine (laws_toExploration.calls kj10 _ _ l0_0 _ _ l0_1 _ _ l0_2 a0_3 a0_4 t308 t311 t314 t317 t318 _ ?side1 ?side2 ?side3 ?side4 ?side5 ?side6 A37.out).mono ?_
            (case side1 => repeat (first | exact (Kd.C_below HR0_0.out HB.out) | (with_reducible refine Kd.C_alloc ?_ _) | (with_reducible refine Kd.C_drewN ?_ _) | (with_reducible refine Kd.C_drew ?_)))
            (case side2 => exact HC0_0.out)
            (case side3 => repeat (first | exact (Kd.C_below HR0_1.out HB.out) | (with_reducible refine Kd.C_alloc ?_ _) | (with_reducible refine Kd.C_drewN ?_ _) | (with_reducible refine Kd.C_drew ?_)))
            (case side4 => exact HC0_1.out)
            (case side5 => repeat (first | exact (Kd.C_below HR0_2.out HB.out) | (with_reducible refine Kd.C_alloc ?_ _) | (with_reducible refine Kd.C_drewN ?_ _) | (with_reducible refine Kd.C_drew ?_)))
            (case side6 => exact HC0_2.out)
            rintro e w90 ⟨v309, v312, v315, rfl, ho0, ho1, ho2, hb⟩
            refine ⟨_, rfl, ?_⟩
            have n0_ := Aside0.mk (Kd.R_below (by (with_reducible repeat (first | apply Kd.R_alloc | apply Kd.R_drewN | apply Kd.R_drew)); exact HO_4.out) hb)
            have n1_ := Aside0.mk (Kd.R_below (by (with_reducible repeat (first | apply Kd.R_alloc | apply Kd.R_drewN | apply Kd.R_drew)); exact HO_7.out) hb)
            have n2_ := Aside0.mk (Kd.R_elder' (by (with_reducible repeat (first | apply Kd.R_alloc | apply Kd.R_drewN | apply Kd.R_drew)); exact HO_303000.out) (Kd.R_base ho0) hb)
            have n3_ := Aside0.mk (Kd.R_mono (Kd.R_told (Kd.R_told (Kd.R_old (by (with_reducible repeat (first | apply Kd.R_alloc | apply Kd.R_drewN | apply Kd.R_drew)); exact HO_303001.out) hb) (Kd.R_base ho1)) (Kd.R_base ho2)) (fun _ h_ => h_.1))
            have n4_ := Aside0.mk (Kd.R_mono (Kd.R_told (Kd.R_told (Kd.R_old (by (with_reducible repeat (first | apply Kd.R_alloc | apply Kd.R_drewN | apply Kd.R_drew)); exact HO_303002.out) hb) (Kd.R_base ho1)) (Kd.R_base ho2)) (fun _ h_ => h_.1))
            have n5_ := Aside0.mk (Kd.R_lower (Kd.R_new' ho0 (Kd.R_lt (by (with_reducible repeat (first | apply Kd.R_alloc | apply Kd.R_drewN | apply Kd.R_drew)); exact HO_303000.out))) (below_size (by repeat (first | (with_reducible first | exact HB.out | apply below_alloc | apply pw_below_drewN | apply below_drew1 | refine below_set ?_ GE274.out | refine below_set ?_ GE302.out) | exact HB.out))))
            have n6_ := Aside0.mk (Kd.R_lower (Kd.R_new' (Kd.R_new' ho1 (Kd.R_lt (by (with_reducible repeat (first | apply Kd.R_alloc | apply Kd.R_drewN | apply Kd.R_drew)); exact HO_303001.out))) (Kd.R_lt (by (with_reducible repeat (first | apply Kd.R_alloc | apply Kd.R_drewN | apply Kd.R_drew)); exact HO_303002.out))) (below_size (by repeat (first | (with_reducible first | exact HB.out | apply below_alloc | apply pw_below_drewN | apply below_drew1 | refine below_set ?_ GE274.out | refine below_set ?_ GE302.out) | exact HB.out))))
            have n7_ := Aside0.mk (Kd.R_lower (Kd.R_new' (Kd.R_new' ho2 (Kd.R_lt (by (with_reducible repeat (first | apply Kd.R_alloc | apply Kd.R_drewN | apply Kd.R_drew)); exact HO_303001.out))) (Kd.R_lt (by (with_reducible repeat (first | apply Kd.R_alloc | apply Kd.R_drewN | apply Kd.R_drew)); exact HO_303002.out))) (below_size (by repeat (first | (with_reducible first | exact HB.out | apply below_alloc | apply pw_below_drewN | apply below_drew1 | refine below_set ?_ GE274.out | refine below_set ?_ GE302.out) | exact HB.out))))
            have n8_ := Aside0.mk (blk_below (g := gb274) (o := .cells #[.slice A0_0 l0_0.length c0_0, .slice A0_1 l0_1.length c0_1, .slice A0_2 l0_2.length c0_2, .int .i64 a0_3, .int .i64 a0_4] 50 (0, 0)) (by (with_reducible repeat (first | refine blk_drewN ?_ _ | refine blk_drew ?_ | refine blk_alloc ?_ _)); exact BK274.out) hb)
            have n9_ := Aside0.mk (blk_below (g := gb302) (o := .cells #[.slice Ao24 t291.length co24, .slice Ao27 t294.length co27, .slice Ao28 t297.length co28, .int .i64 t300, .int .i64 t301] 27 (0, 0)) (by (with_reducible repeat (first | refine blk_drewN ?_ _ | refine blk_drew ?_ | refine blk_alloc ?_ _)); exact BK302.out) hb)
            have n10_ := Aside0.mk (below_step (by repeat (first | (with_reducible first | exact HB.out | apply below_alloc | apply pw_below_drewN | apply below_drew1 | refine below_set ?_ GE274.out | refine below_set ?_ GE302.out) | exact HB.out)) hb)
            clear HO_4
            clear HO_7
            clear HO_303000
            clear HO_303001
            clear HO_303002
            clear BK274
            clear BK302
            clear HB
            have HO_4 := n0_
            have HO_7 := n1_
            have HO_303000 := n2_
            have HO_303001 := n3_
            have HO_303002 := n4_
            have HO310 := n5_
            have HO313 := n6_
            have HO316 := n7_
            have BK274 := n8_
            have BK302 := n9_
            have HB := n10_
            clear n0_ n1_ n2_ n3_ n4_ n5_ n6_ n7_ n8_ n9_ n10_
            (try clear hb)
            (try clear hb2)
            (try clear hk)
            (try clear hi)
            (try clear ho0)
            (try clear ho1)
            (try clear ho2)
            obtain ⟨Ao91, co91, eo91⟩ := Kd.R_slice HO310.out
            (first | subst eo91 | (injection eo91 with f1_ f2_ f3_; have f4_ := f1_.symm; have f5_ := f3_.symm; clear f1_ f2_ f3_; subst f4_; subst f5_))
            obtain ⟨Ao92, co92, eo92⟩ := Kd.R_slice HO313.out
            (first | subst eo92 | (injection eo92 with f1_ f2_ f3_; have f4_ := f1_.symm; have f5_ := f3_.symm; clear f1_ f2_ f3_; subst f4_; subst f5_))
            obtain ⟨Ao93, co93, eo93⟩ := Kd.R_slice HO316.out
            (first | subst eo93 | (injection eo93 with f1_ f2_ f3_; have f4_ := f1_.symm; have f5_ := f3_.symm; clear f1_ f2_ f3_; subst f4_; subst f5_))
            refine hK.out _ _ ⟨(blk_cell BK302.out 0).trans rfl, (blk_cell BK302.out 1).trans rfl, (blk_cell BK302.out 2).trans rfl, (blk_cell BK302.out 3).trans rfl, (blk_cell BK302.out 4).trans rfl, (blk_cell BK274.out 0).trans rfl, (blk_cell BK274.out 1).trans rfl, (blk_cell BK274.out 2).trans rfl, (blk_cell BK274.out 3).trans rfl, (blk_cell BK274.out 4).trans rfl⟩ (fun hHeld => ?_)
            clear hK K
            refine norm_ (a' := ?_) ?_ ?_
            rotate_left
            · show Act.put _ (some 43) _ = _
              simp only [Act.put, List.setIfInBounds_toArray, List.set_cons_zero, List.set_cons_succ, i64_w, i32_w]
              rfl
            refine one_ (i := 3) (N := some 44) #[true, true, true, true, false] rfl rfl (by kernel_rfl) (by decide) (fun K hK => ?_)
            refine goes_ Try.func29 (by kernel_rfl) rfl #[.agg #[.slice Ao24 t291.length co24, .slice Ao27 t294.length co27, .slice Ao28 t297.length co28, .int .i64 t300, .int .i64 t301], .agg #[.slice Ao91 t308.length co91, .slice Ao92 t311.length co92, .slice Ao93 t314.length co93, .int .i64 t317, .int .i64 t318]] (by rfl) rfl rfl (by (try simp only [List.map_toArray, List.map_cons, List.map_nil]); first | done | rfl | (simp only [List.length_drop, List.length_take]; rfl)) ?_
            with_reducible refine (laws_eqExploration.calls kj10 _ _ t291 _ _ t294 _ _ t297 t300 t301 _ _ t308 _ _ t311 _ _ t314 t317 t318 false _ ?side1 ?side2 ?side3 ?side4 ?side5 ?side6 ?side7 ?side8 ?side9 ?side10 ?side11 ?side12 A38.out).mono ?_
            (case side1 => repeat (first | exact (Kd.R_reads' HO_303000.out).2.2 | (with_reducible refine Kd.C_alloc ?_ _) | (with_reducible refine Kd.C_drewN ?_ _) | (with_reducible refine Kd.C_drew ?_)))
            (case side2 => exact (Kd.R_reads' HO_303000.out).2.1)
            (case side3 => repeat (first | exact (Kd.R_reads' HO_303001.out).2.2 | (with_reducible refine Kd.C_alloc ?_ _) | (with_reducible refine Kd.C_drewN ?_ _) | (with_reducible refine Kd.C_drew ?_)))
            (case side4 => exact (Kd.R_reads' HO_303001.out).2.1)
            (case side5 => repeat (first | exact (Kd.R_reads' HO_303002.out).2.2 | (with_reducible refine Kd.C_alloc ?_ _) | (with_reducible refine Kd.C_drewN ?_ _) | (with_reducible refine Kd.C_drew ?_)))
            (case side6 => exact (Kd.R_reads' HO_303002.out).2.1)
            (case side7 => repeat (first | exact (Kd.R_reads' HO310.out).2.2 | (with_reducible refine Kd.C_alloc ?_ _) | (with_reducible refine Kd.C_drewN ?_ _) | (with_reducible refine Kd.C_drew ?_)))
            (case side8 => exact (Kd.R_reads' HO310.out).2.1)
            (case side9 => repeat (first | exact (Kd.R_reads' HO313.out).2.2 | (with_reducible refine Kd.C_alloc ?_ _) | (with_reducible refine Kd.C_drewN ?_ _) | (with_reducible refine Kd.C_drew ?_)))
            (case side10 => exact (Kd.R_reads' HO313.out).2.1)
            (case side11 => repeat (first | exact (Kd.R_reads' HO316.out).2.2 | (with_reducible refine Kd.C_alloc ?_ _) | (with_reducible refine Kd.C_drewN ?_ _) | (with_reducible refine Kd.C_drew ?_)))
            (case side12 => exact (Kd.R_reads' HO316.out).2.1)
            rintro e w94 ⟨rfl, hb⟩
            refine ⟨_, rfl, ?_⟩
            have n0_ := Aside0.mk (Kd.R_below (by (with_reducible repeat (first | apply Kd.R_alloc | apply Kd.R_drewN | apply Kd.R_drew)); exact HO_4.out) hb)
            have n1_ := Aside0.mk (Kd.R_below (by (with_reducible repeat (first | apply Kd.R_alloc | apply Kd.R_drewN | apply Kd.R_drew)); exact HO_7.out) hb)
            have n2_ := Aside0.mk (Kd.R_below (by (with_reducible repeat (first | apply Kd.R_alloc | apply Kd.R_drewN | apply Kd.R_drew)); exact HO_303000.out) hb)
            have n3_ := Aside0.mk (Kd.R_below (by (with_reducible repeat (first | apply Kd.R_alloc | apply Kd.R_drewN | apply Kd.R_drew)); exact HO_303001.out) hb)
            have n4_ := Aside0.mk (Kd.R_below (by (with_reducible repeat (first | apply Kd.R_alloc | apply Kd.R_drewN | apply Kd.R_drew)); exact HO_303002.out) hb)
            have n5_ := Aside0.mk (Kd.R_below (by (with_reducible repeat (first | apply Kd.R_alloc | apply Kd.R_drewN | apply Kd.R_drew)); exact HO310.out) hb)
            have n6_ := Aside0.mk (Kd.R_below (by (with_reducible repeat (first | apply Kd.R_alloc | apply Kd.R_drewN | apply Kd.R_drew)); exact HO313.out) hb)
            have n7_ := Aside0.mk (Kd.R_below (by (with_reducible repeat (first | apply Kd.R_alloc | apply Kd.R_drewN | apply Kd.R_drew)); exact HO316.out) hb)
            have n8_ := Aside0.mk (blk_below (g := gb274) (o := .cells #[.slice A0_0 l0_0.length c0_0, .slice A0_1 l0_1.length c0_1, .slice A0_2 l0_2.length c0_2, .int .i64 a0_3, .int .i64 a0_4] 50 (0, 0)) (by (with_reducible repeat (first | refine blk_drewN ?_ _ | refine blk_drew ?_ | refine blk_alloc ?_ _)); exact BK274.out) hb)
            have n9_ := Aside0.mk (blk_below (g := gb302) (o := .cells #[.slice Ao24 t291.length co24, .slice Ao27 t294.length co27, .slice Ao28 t297.length co28, .int .i64 t300, .int .i64 t301] 27 (0, 0)) (by (with_reducible repeat (first | refine blk_drewN ?_ _ | refine blk_drew ?_ | refine blk_alloc ?_ _)); exact BK302.out) hb)
            have n10_ := Aside0.mk (below_step (by repeat (first | (with_reducible first | exact HB.out | apply below_alloc | apply pw_below_drewN | apply below_drew1 | refine below_set ?_ GE274.out | refine below_set ?_ GE302.out) | exact HB.out)) hb)
            clear HO_4
            clear HO_7
            clear HO_303000
            clear HO_303001
            clear HO_303002
            clear HO310
            clear HO313
            clear HO316
            clear BK274
            clear BK302
            clear HB
            have HO_4 := n0_
            have HO_7 := n1_
            have HO_303000 := n2_
            have HO_303001 := n3_
            have HO_303002 := n4_
            have HO310 := n5_
            have HO313 := n6_
            have HO316 := n7_
            have BK274 := n8_
            have BK302 := n9_
            have HB := n10_
            clear n0_ n1_ n2_ n3_ n4_ n5_ n6_ n7_ n8_ n9_ n10_
            (try clear hb)
            (try clear hb2)
            (try clear hk)
            (try clear hi)
            refine hK.out _ _ ⟨(blk_cell BK302.out 0).trans rfl, (blk_cell BK302.out 1).trans rfl, (blk_cell BK302.out 2).trans rfl, (blk_cell BK302.out 3).trans rfl, (blk_cell BK302.out 4).trans rfl, (blk_cell BK274.out 0).trans rfl, (blk_cell BK274.out 1).trans rfl, (blk_cell BK274.out 2).trans rfl, (blk_cell BK274.out 3).trans rfl, (blk_cell BK274.out 4).trans rfl⟩ (fun hHeld => ?_)
            clear hK K
            refine norm_ (a' := ?_) ?_ ?_
            rotate_left
            · show Act.put _ (some 44) _ = _
              simp only [Act.put, List.setIfInBounds_toArray, List.set_cons_zero, List.set_cons_succ, i64_w, i32_w]
              rfl
            refine pure_ (i := 4) (N := some 45) (v := ?_) (a' := ?_) #[true, true, true, true, true] rfl rfl (by kernel_rfl) (fun _ _ _ h => h) (Or.inl ⟨by rfl, ?_⟩) ?_ ?_
            rotate_left
            · intro w'
              go_simp
              with_reducible rfl
            rotate_left
            · simp only [Act.put, List.setIfInBounds_toArray, List.set_cons_zero, List.set_cons_succ, i64_w, i32_w]
              rfl
            refine done_ (by kernel_rfl) ?_
            try go_wp2
            go_ret
            exact ⟨by first | rfl | (simp [errW_none, errW_some] <;> rfl) | (simp [*, errW_none, errW_some] <;> rfl), by repeat (first | (with_reducible first | exact HB.out | apply below_alloc | apply pw_below_drewN | apply below_drew1 | refine below_set ?_ GE274.out | refine below_set ?_ GE302.out) | exact HB.out)⟩
end Go.Proofs.Ytknphliohoklfaa.P
namespace Go.Proofs.Ytknphliohoklfaa.Pu
open Go.RowKit Go.Proofs.Ytknphliohoklfaa.P Go.Proofs.YtknphliohoklfaaW.PrintWords
theorem wr {x : Int} (h : -9223372036854775808 ≤ x) (h' : x ≤ 9223372036854775807) : wrap64 x = x := by unfold wrap64; omega
theorem Ev.pos {α : Type} {c : Prop} [Decidable c] {a b : Nat → Option α} {r : α} (h : c) (k : Ev a r) : Ev (fun n => if c then a n else b n) r := by
  simpa only [if_pos h] using k
theorem Ev.neg {α : Type} {c : Prop} [Decidable c] {a b : Nat → Option α} {r : α} (h : ¬ c) (k : Ev b r) : Ev (fun n => if c then a n else b n) r := by
  simpa only [if_neg h] using k
theorem Ev.bindS {α β : Type} {g : Option α} {f : Nat → α → Option β} {a : α} {r : β} (h : g = some a) (k : Ev (fun n => f n a) r) : Ev (fun n => g.bind (f n)) r := by
  subst h; exact k
theorem Ev.someb {α β : Type} {a : α} {f : Nat → α → Option β} {r : β} (k : Ev (fun n => f n a) r) : Ev (fun n => (some a).bind (f n)) r := k
theorem Ev.to {α : Type} {g : Nat → Option α} {r r' : α} (k : Ev g r') (h : r' = r) : Ev g r := h ▸ k
def up : Int → Nat → List Int
  | _, 0 => []
  | a, n + 1 => a :: up (a + 1) n
theorem up_len : ∀ (n : Nat) (a : Int), (up a n).length = n := by
  intro n
  induction n with
  | zero => intro a; rfl
  | succ n ih => intro a; simp [up, ih]
theorem rd_mid (M L : List Int) (s i : Int) (hi : i = M.length) : rd (M ++ s :: L) i = s := by
  unfold rd
  rw [hi, Int.toNat_natCast]
  simp [List.getD_eq_getElem?_getD]
theorem set_at {α : Type} (M L : List α) (s y : α) (i : Int) (hi : i = M.length) : (M ++ s :: L).set i.toNat y = (M ++ [y]) ++ L := by
  rw [hi, Int.toNat_natCast, List.set_append_right _ _ (Nat.le_refl _), Nat.sub_self]
  simp
theorem mark_l0 : ∀ (L M : List Int) (a i : Int), i = M.length → (M.length : Int) + L.length ≤ 4000000000000000 → 0 ≤ a → a + L.length ≤ 8000000000000000000 →
    Ev (fun k => laws_markIntS.l0 k (M ++ L) a i) (a + L.length, M ++ up a L.length) := by
  intro L
  induction L with
  | nil =>
    intro M a i hi hl h0 h1
    refine Ev.step (fun k => laws_markIntS.l0.eq_2 _ _ _ k) (Ev.neg (by simp; omega) (Ev.to (Ev.now _) (by simp [up])))
  | cons s L ih =>
    intro M a i hi hl h0 h1
    simp only [List.length_cons] at hl h1
    have w : wrap64 (i + 1) = i + 1 := wr (by omega) (by omega)
    have w1 : wrap64 (a + 1) = a + 1 := wr (by omega) (by omega)
    refine Ev.step (fun k => laws_markIntS.l0.eq_2 _ _ _ k) (Ev.pos (by simp; omega) (Ev.pos (by omega) ?_))
    rw [w, w1, set_at _ _ _ _ _ hi]
    refine Ev.to (ih (M ++ [a]) (a + 1) (i + 1) (by simp; omega) (by simp; omega) (by omega) (by omega)) ?_
    simp only [List.length_cons, up, List.append_assoc, List.cons_append, List.nil_append, Prod.mk.injEq, and_true]
    omega
theorem mark_ok (L : List Int) (a : Int) (hl : (L.length : Int) ≤ 4000000000000000) (h0 : 0 ≤ a) (h1 : a + L.length ≤ 8000000000000000000) : Ev (fun k => laws_markIntS.f k L a) (a + L.length, up a L.length) := by
  exact mark_l0 L [] a 0 rfl (by simpa using hl) h0 h1
theorem held_l0 : ∀ (n : Nat) (M : List Int) (a i : Int), i = M.length → (M.length : Int) + n ≤ 4000000000000000 → 0 ≤ a → a + n ≤ 8000000000000000000 →
    Ev (fun k => laws_heldIntS.l0 k (M ++ up a n) a i) (a + n) := by
  intro n
  induction n with
  | zero =>
    intro M a i hi hl h0 h1
    refine Ev.step (fun k => laws_heldIntS.l0.eq_2 _ _ _ k) (Ev.neg (by simp [up]; omega) (Ev.to (Ev.now _) (by simp)))
  | succ n ih =>
    intro M a i hi hl h0 h1
    have w : wrap64 (i + 1) = i + 1 := wr (by omega) (by omega)
    have w1 : wrap64 (a + 1) = a + 1 := wr (by omega) (by omega)
    refine Ev.step (fun k => laws_heldIntS.l0.eq_2 _ _ _ k) (Ev.pos (by simp [up_len]; omega) (Ev.pos (by omega) (Ev.pos (rd_mid _ _ _ _ hi) ?_)))
    rw [w, w1]
    have := ih (M ++ [a]) (a + 1) (i + 1) (by simp; omega) (by simp; omega) (by omega) (by omega)
    rw [List.append_assoc] at this
    exact Ev.to this (by omega)
theorem held_ok (n : Nat) (a : Int) (hl : (n : Int) ≤ 4000000000000000) (h0 : 0 ≤ a) (h1 : a + n ≤ 8000000000000000000) : Ev (fun k => laws_heldIntS.f k (up a n) a) (a + n) := by
  exact held_l0 n [] a 0 rfl (by simpa using hl) h0 h1
theorem eqI_l0 (l : List Int) (hl : (l.length : Int) ≤ 4000000000000000) : ∀ (d : Nat) (i : Int), 0 ≤ i → (l.length : Int) - i = d → Ev (fun k => laws_eqIntS.l0 k l l i) true := by
  intro d
  induction d with
  | zero => intro i h0 hd; exact Ev.step (fun k => laws_eqIntS.l0.eq_2 l l i k) (Ev.neg (by omega) (Ev.now _))
  | succ d ih =>
    intro i h0 hd
    have w : wrap64 (i + 1) = i + 1 := wr (by omega) (by omega)
    refine Ev.step (fun k => laws_eqIntS.l0.eq_2 l l i k) (Ev.pos (by omega) (Ev.pos (by omega) (Ev.pos (by omega) (Ev.pos rfl ?_))))
    rw [w]
    exact ih (i + 1) (by omega) (by omega)
theorem eqI (l : List Int) (hl : (l.length : Int) ≤ 4000000000000000) : Ev (fun k => laws_eqIntS.f k l l) true := by
  unfold laws_eqIntS.f
  exact Ev.pos rfl (eqI_l0 l hl l.length 0 (Int.le_refl _) (by omega))
def cv29 (x : S60) : S29 := ⟨x.f0, x.f1, x.f2, x.f3, x.f4⟩
theorem set_mid {α : Type} (M : List α) (z y : α) (n : Nat) (i : Int) (hi : i = M.length) : (M ++ List.replicate (n + 1) z).set i.toNat y = (M ++ [y]) ++ List.replicate n z := by
  rw [hi, Int.toNat_natCast, List.set_append_right _ _ (Nat.le_refl _), Nat.sub_self, List.replicate_succ]
  simp
theorem to29_l0 (l : List S60) (hl : (l.length : Int) ≤ 1000000000000) : ∀ (L M : List S60) (i : Int), i = M.length → M ++ L = l → Ev (fun k => laws_toLegS.l0 k l (M.map cv29 ++ List.replicate L.length z29) i) (l.map cv29) := by
  intro L
  induction L with
  | nil =>
    intro M i hi e
    rw [List.append_nil] at e
    subst e
    refine Ev.step (fun k => laws_toLegS.l0.eq_2 _ _ i k) (Ev.neg (by omega) (Ev.to (Ev.now _) (by simp)))
  | cons s L ih =>
    intro M i hi e
    have len := congrArg List.length e
    simp at len
    have w : wrap64 (i + 1) = i + 1 := wr (by omega) (by omega)
    have rd0 : rd_T60 l i = s := by
      unfold rd_T60
      rw [← e, hi, Int.toNat_natCast]
      simp [List.getD_eq_getElem?_getD]
    refine Ev.step (fun k => laws_toLegS.l0.eq_2 _ _ i k) (Ev.pos (by omega) (Ev.pos (by omega) (Ev.bindS rfl (Ev.pos (by simp; omega) ?_))))
    simp only [rd0, w, List.length_cons]
    rw [set_mid _ _ _ _ _ (by simp [hi])]
    have := ih (M ++ [s]) (i + 1) (by simp; omega) (by rw [← e]; simp)
    rw [List.map_append] at this
    exact this
theorem to29 (l : List S60) (hl : (l.length : Int) ≤ 1000000000000) : Ev (fun k => laws_toLegS.f k l) (l.map cv29) := by
  unfold laws_toLegS.f
  refine Ev.pos (by omega) (Ev.pos (by rw [Int.toNat_natCast]; omega) ?_)
  rw [Int.toNat_natCast]
  exact to29_l0 l hl l [] 0 rfl rfl
theorem toB_l0 (l : List Bool) (hl : (l.length : Int) ≤ 1000000000000) : ∀ (L M : List Bool) (i : Int), i = M.length → M ++ L = l → Ev (fun k => laws_toBoolS.l0 k l (M ++ List.replicate L.length false) i) l := by
  intro L
  induction L with
  | nil =>
    intro M i hi e
    rw [List.append_nil] at e
    subst e
    refine Ev.step (fun k => laws_toBoolS.l0.eq_2 _ _ i k) (Ev.neg (by omega) (Ev.to (Ev.now _) (by simp)))
  | cons s L ih =>
    intro M i hi e
    have len := congrArg List.length e
    simp at len
    have w : wrap64 (i + 1) = i + 1 := wr (by omega) (by omega)
    have rd0 : rdOf false l i = s := by
      unfold rdOf
      rw [← e, hi, Int.toNat_natCast]
      simp [List.getD_eq_getElem?_getD]
    refine Ev.step (fun k => laws_toBoolS.l0.eq_2 _ _ i k) (Ev.pos (by omega) (Ev.pos (by omega) (Ev.pos (by simp; omega) ?_)))
    simp only [rd0, w, List.length_cons]
    rw [set_mid _ _ _ _ _ hi]
    exact ih (M ++ [s]) (i + 1) (by simp; omega) (by rw [← e]; simp)
theorem toB (l : List Bool) (hl : (l.length : Int) ≤ 1000000000000) : Ev (fun k => laws_toBoolS.f k l) l := by
  unfold laws_toBoolS.f
  refine Ev.pos (by omega) (Ev.pos (by rw [Int.toNat_natCast]; omega) ?_)
  rw [Int.toNat_natCast]
  exact toB_l0 l hl l [] 0 rfl rfl
theorem eq29_l0 (l : List S29) (hl : (l.length : Int) ≤ 1000000000000) : ∀ (d : Nat) (i : Int), 0 ≤ i → (l.length : Int) - i = d → Ev (fun k => laws_eqLegS.l0 k l l i) true := by
  intro d
  induction d with
  | zero => intro i h0 hd; exact Ev.step (fun k => laws_eqLegS.l0.eq_2 l l i k) (Ev.neg (by omega) (Ev.now _))
  | succ d ih =>
    intro i h0 hd
    have w : wrap64 (i + 1) = i + 1 := wr (by omega) (by omega)
    refine Ev.step (fun k => laws_eqLegS.l0.eq_2 l l i k) (Ev.pos (by omega) (Ev.pos (by omega) (Ev.pos (by omega) (Ev.bindS (a := true) (by unfold laws_eqLeg.f; simp) (Ev.pos rfl ?_)))))
    rw [w]
    exact ih (i + 1) (by omega) (by omega)
theorem eq29 (l : List S29) (hl : (l.length : Int) ≤ 1000000000000) : Ev (fun k => laws_eqLegS.f k l l) true := Ev.pos rfl (eq29_l0 l hl l.length 0 (Int.le_refl _) (by omega))
theorem eqB_l0 (l : List Bool) (hl : (l.length : Int) ≤ 1000000000000) : ∀ (d : Nat) (i : Int), 0 ≤ i → (l.length : Int) - i = d → Ev (fun k => laws_eqBoolS.l0 k l l i) true := by
  intro d
  induction d with
  | zero => intro i h0 hd; exact Ev.step (fun k => laws_eqBoolS.l0.eq_2 l l i k) (Ev.neg (by omega) (Ev.now _))
  | succ d ih =>
    intro i h0 hd
    have w : wrap64 (i + 1) = i + 1 := wr (by omega) (by omega)
    refine Ev.step (fun k => laws_eqBoolS.l0.eq_2 l l i k) (Ev.pos (by omega) (Ev.pos (by omega) (Ev.pos (by omega) (Ev.neg (by simp) ?_))))
    rw [w]
    exact ih (i + 1) (by omega) (by omega)
theorem eqB (l : List Bool) (hl : (l.length : Int) ≤ 1000000000000) : Ev (fun k => laws_eqBoolS.f k l l) true := Ev.pos rfl (eqB_l0 l hl l.length 0 (Int.le_refl _) (by omega))
theorem mkL_l0 : ∀ (d : Nat) (l : List S29) (a i : Int), (l.length : Int) ≤ 1000000000000 → 0 ≤ i → (l.length : Int) - i = d → 0 ≤ a → a + 5 * d ≤ 8000000000000000000 →
    ∃ r, Ev (fun k => laws_markLegS.l0 k l a i) r ∧ r.1 = a + 5 * d := by
  intro d
  induction d with
  | zero => intro l a i hl h0 hd ha hb; exact ⟨_, Ev.step (fun k => laws_markLegS.l0.eq_2 _ _ _ k) (Ev.neg (by omega) (Ev.now _)), by omega⟩
  | succ d ih =>
    intro l a i hl h0 hd ha hb
    have w : wrap64 (i + 1) = i + 1 := wr (by omega) (by omega)
    have w1 : wrap64 (a + 1) = a + 1 := wr (by omega) (by omega)
    have w2 : wrap64 (a + 1 + 1) = a + 1 + 1 := wr (by omega) (by omega)
    have w3 : wrap64 (a + 1 + 1 + 1) = a + 1 + 1 + 1 := wr (by omega) (by omega)
    have w4 : wrap64 (a + 1 + 1 + 1 + 1) = a + 1 + 1 + 1 + 1 := wr (by omega) (by omega)
    have w5 : wrap64 (a + 1 + 1 + 1 + 1 + 1) = a + 1 + 1 + 1 + 1 + 1 := wr (by omega) (by omega)
    have go : ∀ l' : List S29, l'.length = l.length → ∃ r, Ev (fun k => laws_markLegS.l0 k l' (a + 1 + 1 + 1 + 1 + 1) (i + 1)) r ∧ r.1 = a + 5 * ((d + 1 : Nat) : Int) := fun l' h' => by
      obtain ⟨r, hr, h⟩ := ih l' (a + 1 + 1 + 1 + 1 + 1) (i + 1) (by omega) (by omega) (by omega) (by omega) (by omega)
      exact ⟨r, hr, by rw [h]; omega⟩
    obtain ⟨r, hr, h⟩ := go _ (show (List.set (List.set (List.set (List.set (List.set l i.toNat (⟨a, (rd_T29 l i).f1, (rd_T29 l i).f2, (rd_T29 l i).f3, (rd_T29 l i).f4⟩ : S29)) i.toNat _) i.toNat _) i.toNat _) i.toNat _).length = l.length by simp)
    refine ⟨r, Ev.step (fun k => laws_markLegS.l0.eq_2 _ _ _ k) (Ev.pos (by omega) (Ev.pos (by omega) (Ev.someb (Ev.someb (Ev.someb (Ev.someb ?_)))))), h⟩
    rw [w1, w2, w3, w4, w5, w]
    exact hr
theorem mkB_l0 : ∀ (d : Nat) (l : List Bool) (a i : Int), (l.length : Int) ≤ 1000000000000 → 0 ≤ i → (l.length : Int) - i = d → 0 ≤ a → a + d ≤ 8000000000000000000 →
    ∃ r, Ev (fun k => laws_markBoolS.l0 k l a i) r ∧ r.1 = a + d := by
  intro d
  induction d with
  | zero => intro l a i hl h0 hd ha hb; exact ⟨_, Ev.step (fun k => laws_markBoolS.l0.eq_2 _ _ _ k) (Ev.neg (by omega) (Ev.now _)), by omega⟩
  | succ d ih =>
    intro l a i hl h0 hd ha hb
    have w : wrap64 (i + 1) = i + 1 := wr (by omega) (by omega)
    have w1 : wrap64 (a + 1) = a + 1 := wr (by omega) (by omega)
    obtain ⟨r, hr, h⟩ := ih (l.set i.toNat ((Int.tmod a 3) == 0)) (a + 1) (i + 1) (by simpa using hl) (by omega) (by simp; omega) (by omega) (by omega)
    refine ⟨r, Ev.step (fun k => laws_markBoolS.l0.eq_2 _ _ _ k) (Ev.pos (by omega) (Ev.pos (by omega) ?_)), by rw [h]; omega⟩
    rw [w1, w]
    exact hr
theorem toX (legs : List S60) (vis leads : List Bool) (at_ light : Int) (h0 : (legs.length : Int) ≤ 1000000000000) (h1 : (vis.length : Int) ≤ 1000000000000) (h2 : (leads.length : Int) ≤ 1000000000000) :
    Ev (fun k => laws_toExploration.f k legs vis leads at_ light) (legs.map cv29, vis, leads, at_, light) := by
  unfold laws_toExploration.f
  exact Ev.bind (to29 legs h0) (Ev.bind (toB vis h1) (Ev.bind (toB leads h2) (Ev.now _)))
theorem eqX (legs : List S29) (vis leads : List Bool) (at_ light : Int) (h0 : (legs.length : Int) ≤ 1000000000000) (h1 : (vis.length : Int) ≤ 1000000000000) (h2 : (leads.length : Int) ≤ 1000000000000) :
    Ev (fun k => laws_eqExploration.f k legs vis leads at_ light legs vis leads at_ light) true := by
  unfold laws_eqExploration.f
  exact Ev.bind (eq29 legs h0) (Ev.pos rfl (Ev.bind (eqB vis h1) (Ev.pos rfl (Ev.bind (eqB leads h2) (Ev.pos rfl (Ev.pos rfl (Ev.pos rfl (Ev.now _))))))))
theorem mkX (legs : List S29) (vis leads : List Bool) (at_ light : Int) (h0 : (legs.length : Int) ≤ 1000000000000) (h1 : (vis.length : Int) ≤ 1000000000000) (h2 : (leads.length : Int) ≤ 1000000000000) :
    ∃ r, Ev (fun k => laws_markExploration.f k legs vis leads at_ light 1) r ∧ 0 ≤ r.1 := by
  unfold laws_markExploration.f
  obtain ⟨r0, e0, q0⟩ := mkL_l0 legs.length legs 1 0 h0 (Int.le_refl _) (by omega) (by omega) (by omega)
  obtain ⟨r1, e1, q1⟩ := mkB_l0 vis.length vis r0.1 0 h1 (Int.le_refl _) (by omega) (by omega) (by omega)
  obtain ⟨r2, e2, q2⟩ := mkB_l0 leads.length leads r1.1 0 h2 (Int.le_refl _) (by omega) (by omega) (by omega)
  exact ⟨(r2.1, r0.2, r1.2, r2.2), Ev.bind e0 (Ev.bind e1 (Ev.bind e2 (Ev.now _))), by show 0 ≤ r2.1; omega⟩
theorem szX (legs : List S60) (vis leads : List Bool) (at_ light : Int) (h0 : (legs.length : Int) ≤ 9223372036854775807) (h1 : (vis.length : Int) ≤ 9223372036854775807) (h2 : (leads.length : Int) ≤ 9223372036854775807) :
    ∃ z, laws_szExploration.f legs vis leads at_ light 1048576 = some z ∧ (¬ z < 0 → (legs.length : Int) ≤ 1048576 ∧ (vis.length : Int) ≤ 1048576 ∧ (leads.length : Int) ≤ 1048576) := by
  unfold laws_szExploration.f laws_szLegS.f laws_szBoolS.f
  have e0 : wrap64 (1048576 - (legs.length : Int)) = 1048576 - (legs.length : Int) := wr (by omega) (by omega)
  rw [e0]
  by_cases b0 : 1048576 - (legs.length : Int) < 0
  · rw [if_pos b0]
    exact ⟨-1, by simp, fun h => absurd (show (-1 : Int) < 0 by omega) h⟩
  rw [if_neg b0, Option.bind_some, if_neg b0]
  have e1 : wrap64 (1048576 - (legs.length : Int) - (vis.length : Int)) = 1048576 - (legs.length : Int) - (vis.length : Int) := wr (by omega) (by omega)
  rw [e1]
  by_cases b1 : 1048576 - (legs.length : Int) - (vis.length : Int) < 0
  · rw [if_pos b1]
    exact ⟨-1, by simp, fun h => absurd (show (-1 : Int) < 0 by omega) h⟩
  rw [if_neg b1, Option.bind_some, if_neg b1]
  have e2 : wrap64 (1048576 - (legs.length : Int) - (vis.length : Int) - (leads.length : Int)) = 1048576 - (legs.length : Int) - (vis.length : Int) - (leads.length : Int) := wr (by omega) (by omega)
  rw [e2]
  by_cases b2 : 1048576 - (legs.length : Int) - (vis.length : Int) - (leads.length : Int) < 0
  · rw [if_pos b2]
    exact ⟨-1, by simp, fun h => absurd (show (-1 : Int) < 0 by omega) h⟩
  rw [if_neg b2, Option.bind_some, if_neg b2]
  exact ⟨_, rfl, fun _ => by omega⟩
theorem rd_set (l : List Int) (i j v : Int) (h0 : 0 ≤ i) (h1 : i < l.length) (h2 : 0 ≤ j) : rd (l.set i.toNat v) j = if j = i then v else rd l j := by
  unfold rd
  rw [List.getD_eq_getElem?_getD, List.getD_eq_getElem?_getD, List.getElem?_set]
  by_cases c : j = i
  · subst c; rw [if_pos rfl, if_pos rfl, if_pos (by omega)]; rfl
  · rw [if_neg c, if_neg (by omega)]
theorem rd_same (l : List Int) (i v : Int) (h0 : 0 ≤ i) (h1 : i < l.length) : rd (l.set i.toNat v) i = v := by rw [rd_set l i i v h0 h1 h0, if_pos rfl]
theorem rd_other (l : List Int) (i j v : Int) (h0 : 0 ≤ i) (h1 : i < l.length) (h2 : 0 ≤ j) (h : j ≠ i) : rd (l.set i.toNat v) j = rd l j := by rw [rd_set l i j v h0 h1 h2, if_neg h]
def sm (f : Int → Nat) : List Int → Nat
  | [] => 0
  | x :: l => f x + sm f l
theorem sm_set (f : Int → Nat) : ∀ (l : List Int) (i : Nat) (v : Int), i < l.length → sm f (l.set i v) + f (l.getD i 0) = sm f l + f v
  | [], i, v, h => absurd h (by simp)
  | x :: l, 0, v, _ => by simp only [List.set_cons_zero, sm, List.getD_cons_zero]; omega
  | x :: l, i + 1, v, h => by
    have := sm_set f l i v (by simpa using h)
    simp only [List.set_cons_succ, sm, List.getD_cons_succ]
    omega
theorem sm_at (f : Int → Nat) (l : List Int) (i v : Int) (h0 : 0 ≤ i) (h1 : i < l.length) : sm f (l.set i.toNat v) + f (rd l i) = sm f l + f v := sm_set f l i.toNat v (by omega)
theorem sm_le (f g : Int → Nat) : ∀ l : List Int, (∀ x ∈ l, f x ≤ g x) → sm f l ≤ sm g l
  | [], _ => Nat.le_refl _
  | x :: l, h => by
    have h1 := h x List.mem_cons_self
    have h2 := sm_le f g l (fun y hy => h y (List.mem_cons_of_mem _ hy))
    simp only [sm]; omega
theorem sm_lt (f g : Int → Nat) : ∀ l : List Int, (∀ x ∈ l, f x ≤ g x) → ∀ y ∈ l, f y < g y → sm f l < sm g l
  | [], _, y, hy, _ => absurd hy List.not_mem_nil
  | x :: l, h, y, hy, hlt => by
    have h1 := h x List.mem_cons_self
    have h2 := sm_le f g l (fun y hy => h y (List.mem_cons_of_mem _ hy))
    simp only [sm]
    rcases List.mem_cons.mp hy with rfl | hy
    · omega
    · have := sm_lt f g l (fun y hy => h y (List.mem_cons_of_mem _ hy)) y hy hlt
      omega
theorem sm_one : ∀ l : List Int, sm (fun _ => 1) l = l.length
  | [] => rfl
  | x :: l => by simp only [sm, sm_one l, List.length_cons]; omega
theorem rd_in (l : List Int) (i : Int) (h0 : 0 ≤ i) (h1 : i < l.length) : rd l i ∈ l := by
  unfold rd
  rw [List.getD_eq_getElem?_getD, List.getElem?_eq_getElem (show i.toNat < l.length by omega)]
  exact List.getElem_mem _
def Lg (l : S29) : Prop := (0 ≤ l.f0 ∧ l.f0 ≤ 7) ∧ (0 ≤ l.f1 ∧ l.f1 ≤ 7) ∧ l.f0 ≠ l.f1 ∧ 1 ≤ l.f2 ∧ l.f2 ≤ 500
def Us (vis : List Bool) (l : S29) : Prop := rdOf false vis l.f0 = true ∧ rdOf false vis l.f1 = true
instance (vis : List Bool) (l : S29) : Decidable (Us vis l) := by unfold Us; infer_instance
def Ed (legs : List S29) (vis : List Bool) (a b w : Int) : Prop := ∃ l ∈ legs, Us vis l ∧ ((l.f0 = a ∧ l.f1 = b) ∨ (l.f0 = b ∧ l.f1 = a)) ∧ l.f2 = w
def ng (x : Int) : Nat := if x < 0 then 1 else 0
def ph (x : Int) : Nat := if x < 0 then 5001 else x.toNat
structure Inv (legs : List S29) (vis : List Bool) (F : List Int) : Prop where
  len : F.length = 8
  zero : rd F 0 = 0
  bnd : ∀ s, 0 ≤ s → s < 8 → rd F s + 500 * (sm ng F : Int) ≤ 4000
  tight : ∀ s, 0 < s → s < 8 → 0 ≤ rd F s → ∃ p w, (0 ≤ p ∧ p < 8) ∧ 1 ≤ w ∧ Ed legs vis p s w ∧ 0 ≤ rd F p ∧ rd F p + w ≤ rd F s
def up1 (F : List Int) (a b w : Int) : List Int × Bool := if 0 ≤ rd F a ∧ (rd F b < 0 ∨ rd F a + w < rd F b) then (F.set b.toNat (rd F a + w), true) else (F, false)
theorem Inv.up {legs : List S29} {vis : List Bool} {F : List Int} (h : Inv legs vis F) {a b w : Int} (e : Ed legs vis a b w) (ha : 0 ≤ a ∧ a < 8) (hb : 0 ≤ b ∧ b < 8) (hab : a ≠ b) (hw : 1 ≤ w ∧ w ≤ 500) :
    Inv legs vis (up1 F a b w).1 ∧ ((up1 F a b w).2 = true → sm ph (up1 F a b w).1 < sm ph F) ∧ ((up1 F a b w).2 = false → (up1 F a b w).1 = F ∧ (0 ≤ rd F a → 0 ≤ rd F b ∧ rd F b ≤ rd F a + w)) := by
  unfold up1
  by_cases c : 0 ≤ rd F a ∧ (rd F b < 0 ∨ rd F a + w < rd F b)
  · rw [if_pos c]
    have l8 := h.len
    have hb0 : b ≠ 0 := fun e0 => by have := h.zero; rw [e0] at c; omega
    have hbl : b < F.length := by omega
    have n1 := sm_at ng F b (rd F a + w) hb.1 hbl
    have p1 := sm_at ph F b (rd F a + w) hb.1 hbl
    have ba := h.bnd a ha.1 ha.2
    have bb := h.bnd b hb.1 hb.2
    have g1 : ng (rd F a + w) = 0 := by unfold ng; rw [if_neg (by omega)]
    have g2 : ph (rd F a + w) = (rd F a + w).toNat := by unfold ph; rw [if_neg (by omega)]
    rw [g1] at n1
    rw [g2] at p1
    refine ⟨⟨by simpa using h.len, ?_, fun s s0 s8 => ?_, fun s s0 s8 hs => ?_⟩, fun _ => ?_, fun x => by cases x⟩
    · rw [rd_other F b 0 _ hb.1 hbl (Int.le_refl _) (Ne.symm hb0)]; exact h.zero
    · have bs := h.bnd s s0 s8
      show rd (F.set b.toNat (rd F a + w)) s + 500 * (sm ng (F.set b.toNat (rd F a + w)) : Int) ≤ 4000
      by_cases q : rd F b < 0
      · have : ng (rd F b) = 1 := by unfold ng; rw [if_pos q]
        by_cases e1 : s = b
        · rw [e1, rd_same F b _ hb.1 hbl]; omega
        · rw [rd_other F b s _ hb.1 hbl s0 e1]; omega
      · have : ng (rd F b) = 0 := by unfold ng; rw [if_neg q]
        by_cases e1 : s = b
        · rw [e1, rd_same F b _ hb.1 hbl]; omega
        · rw [rd_other F b s _ hb.1 hbl s0 e1]; omega
    · by_cases e1 : s = b
      · subst e1
        exact ⟨a, w, ha, hw.1, e, by rw [rd_other F s a _ hb.1 hbl ha.1 hab]; exact c.1, by rw [rd_other F s a _ hb.1 hbl ha.1 hab, rd_same F s _ hb.1 hbl]; omega⟩
      · rw [rd_other F b s _ hb.1 hbl (by omega) e1] at hs ⊢
        obtain ⟨p, w', hp, hw', ep, h0, h1⟩ := h.tight s s0 s8 hs
        by_cases e2 : p = b
        · subst e2
          exact ⟨p, w', hp, hw', ep, by rw [rd_same F p _ hp.1 hbl]; omega, by rw [rd_same F p _ hp.1 hbl]; omega⟩
        · exact ⟨p, w', hp, hw', ep, by rw [rd_other F b p _ hb.1 hbl hp.1 e2]; exact h0, by rw [rd_other F b p _ hb.1 hbl hp.1 e2]; exact h1⟩
    · show sm ph (F.set b.toNat (rd F a + w)) < sm ph F
      by_cases q : rd F b < 0
      · have : ph (rd F b) = 5001 := by unfold ph; rw [if_pos q]
        omega
      · have : ph (rd F b) = (rd F b).toNat := by unfold ph; rw [if_neg q]
        omega
  · rw [if_neg c]
    exact ⟨h, fun x => (by cases x), fun _ => ⟨rfl, fun hh => by omega⟩⟩
def leg1 (vis : List Bool) (st : List Int × Bool) (l : S29) : List Int × Bool :=
  if Us vis l then ((up1 (up1 st.1 l.f0 l.f1 l.f2).1 l.f1 l.f0 l.f2).1, (st.2 || (up1 st.1 l.f0 l.f1 l.f2).2) || (up1 (up1 st.1 l.f0 l.f1 l.f2).1 l.f1 l.f0 l.f2).2) else st
def pass (vis : List Bool) (L : List S29) (st : List Int × Bool) : List Int × Bool := L.foldl (leg1 vis) st
def Shut1 (vis : List Bool) (F : List Int) (l : S29) : Prop := Us vis l → (0 ≤ rd F l.f0 → 0 ≤ rd F l.f1 ∧ rd F l.f1 ≤ rd F l.f0 + l.f2) ∧ (0 ≤ rd F l.f1 → 0 ≤ rd F l.f0 ∧ rd F l.f0 ≤ rd F l.f1 + l.f2)
theorem leg_inv {legs : List S29} {vis : List Bool} {F : List Int} (h : Inv legs vis F) (ag : Bool) {l : S29} (hl : l ∈ legs) (g : Lg l) :
    Inv legs vis (leg1 vis (F, ag) l).1 ∧ ((leg1 vis (F, ag) l).2 = true → (ag = true ∧ sm ph (leg1 vis (F, ag) l).1 ≤ sm ph F) ∨ sm ph (leg1 vis (F, ag) l).1 < sm ph F) ∧
      ((leg1 vis (F, ag) l).2 = false → ag = false ∧ (leg1 vis (F, ag) l).1 = F ∧ Shut1 vis F l) := by
  unfold leg1
  obtain ⟨g0, g1, g2, g3⟩ := g
  by_cases u : Us vis l
  · rw [if_pos u]
    have e0 : Ed legs vis l.f0 l.f1 l.f2 := ⟨l, hl, u, .inl ⟨rfl, rfl⟩, rfl⟩
    have e1 : Ed legs vis l.f1 l.f0 l.f2 := ⟨l, hl, u, .inr ⟨rfl, rfl⟩, rfl⟩
    obtain ⟨i1, t1, f1⟩ := h.up e0 ⟨g0.1, by omega⟩ ⟨g1.1, by omega⟩ g2 g3
    obtain ⟨i2, t2, f2⟩ := i1.up e1 ⟨g1.1, by omega⟩ ⟨g0.1, by omega⟩ (Ne.symm g2) g3
    refine ⟨i2, fun hh => ?_, fun hh => ?_⟩
    · cases q1 : (up1 F l.f0 l.f1 l.f2).2 <;> cases q2 : (up1 (up1 F l.f0 l.f1 l.f2).1 l.f1 l.f0 l.f2).2
      · have r1 := (f1 q1).1
        have r2 := (f2 q2).1
        rw [q1, q2] at hh
        refine .inl ⟨by simpa using hh, ?_⟩
        show sm ph (up1 (up1 F l.f0 l.f1 l.f2).1 l.f1 l.f0 l.f2).1 ≤ _
        rw [r2, r1]; exact Nat.le_refl _
      · have r1 := (f1 q1).1
        have r2 := t2 q2
        rw [r1] at r2
        exact .inr (by show sm ph (up1 (up1 F l.f0 l.f1 l.f2).1 l.f1 l.f0 l.f2).1 < _; rw [r1]; exact r2)
      · have r1 := t1 q1
        have r2 := (f2 q2).1
        exact .inr (by show sm ph (up1 (up1 F l.f0 l.f1 l.f2).1 l.f1 l.f0 l.f2).1 < _; rw [r2]; exact r1)
      · have r1 := t1 q1
        have r2 := t2 q2
        exact .inr (Nat.lt_trans r2 r1)
    · simp only [Bool.or_eq_false_iff] at hh
      obtain ⟨⟨a1, a2⟩, a3⟩ := hh
      obtain ⟨r1, s1⟩ := f1 a2
      rw [r1] at a3 f2
      obtain ⟨r2, s2⟩ := f2 a3
      exact ⟨a1, by show (up1 (up1 F l.f0 l.f1 l.f2).1 l.f1 l.f0 l.f2).1 = F; rw [r1, r2], fun _ => ⟨s1, s2⟩⟩
  · rw [if_neg u]
    exact ⟨h, fun hh => .inl ⟨hh, Nat.le_refl _⟩, fun hh => ⟨hh, rfl, fun u' => absurd u' u⟩⟩
theorem pass_inv {legs : List S29} {vis : List Bool} (hg : ∀ l ∈ legs, Lg l) : ∀ (L : List S29), (∀ l ∈ L, l ∈ legs) → ∀ (F : List Int) (ag : Bool), Inv legs vis F →
    Inv legs vis (pass vis L (F, ag)).1 ∧ ((pass vis L (F, ag)).2 = true → (ag = true ∧ sm ph (pass vis L (F, ag)).1 ≤ sm ph F) ∨ sm ph (pass vis L (F, ag)).1 < sm ph F) ∧
      ((pass vis L (F, ag)).2 = false → ag = false ∧ (pass vis L (F, ag)).1 = F ∧ ∀ l ∈ L, Shut1 vis F l) := by
  intro L
  induction L with
  | nil => intro _ F ag h; exact ⟨h, fun hh => .inl ⟨hh, Nat.le_refl _⟩, fun hh => ⟨hh, rfl, fun l hl => absurd hl List.not_mem_nil⟩⟩
  | cons l L ih =>
    intro hs F ag h
    have hl := hs l List.mem_cons_self
    obtain ⟨i1, t1, f1⟩ := leg_inv h ag hl (hg l hl)
    obtain ⟨i2, t2, f2⟩ := ih (fun x hx => hs x (List.mem_cons_of_mem _ hx)) (leg1 vis (F, ag) l).1 (leg1 vis (F, ag) l).2 i1
    show Inv legs vis (pass vis L (leg1 vis (F, ag) l)).1 ∧ ((pass vis L (leg1 vis (F, ag) l)).2 = true → (ag = true ∧ sm ph (pass vis L (leg1 vis (F, ag) l)).1 ≤ sm ph F) ∨ sm ph (pass vis L (leg1 vis (F, ag) l)).1 < sm ph F) ∧
      ((pass vis L (leg1 vis (F, ag) l)).2 = false → ag = false ∧ (pass vis L (leg1 vis (F, ag) l)).1 = F ∧ ∀ x ∈ l :: L, Shut1 vis F x)
    refine ⟨i2, fun hh => ?_, fun hh => ?_⟩
    · rcases t2 hh with ⟨a, b⟩ | b
      · rcases t1 a with ⟨a', b'⟩ | b'
        · exact .inl ⟨a', Nat.le_trans b b'⟩
        · exact .inr (Nat.lt_of_le_of_lt b b')
      · cases q : (leg1 vis (F, ag) l).2
        · exact .inr (Nat.lt_of_lt_of_eq b (congrArg (sm ph) (f1 q).2.1))
        · rcases t1 q with ⟨a', b'⟩ | b'
          · exact .inr (Nat.lt_of_lt_of_le b b')
          · exact .inr (Nat.lt_trans b b')
    · obtain ⟨a, b, c⟩ := f2 hh
      obtain ⟨a', b', c'⟩ := f1 a
      refine ⟨a', b.trans b', fun x hx => ?_⟩
      rcases List.mem_cons.mp hx with rfl | hx
      · exact c'
      · have := c x hx
        rw [b'] at this
        exact this
theorem rd29_mid (M L : List S29) (s : S29) (i : Int) (hi : i = M.length) : rd_T29 (M ++ s :: L) i = s := by
  unfold rd_T29
  rw [hi, Int.toNat_natCast]
  simp [List.getD_eq_getElem?_getD]
section
variable {legs : List S29} {vis : List Bool} {at_ : Int}
theorem j6_run {F : List Int} {ag : Bool} {i a n : Int} {c : Bool} {r : Int} (hl : F.length = 8) (ha : 0 ≤ a ∧ a < 8) (k : Ev (fun k => spec_l25Out.l2 k legs vis at_ (if c = true then F.set a.toNat n else F) (ag || c) (wrap64 (i + 1))) r) :
    Ev (fun k => spec_l25Out.j6 k legs vis at_ F ag i a n c) r := by
  cases c with
  | true => exact Ev.step (fun k => spec_l25Out.j6.eq_2 _ _ _ _ _ _ _ _ _ k) (Ev.pos rfl (Ev.pos ha.1 (Ev.pos (by omega) (by simpa using k))))
  | false => exact Ev.step (fun k => spec_l25Out.j6.eq_2 _ _ _ _ _ _ _ _ _ k) (Ev.neg (by simp) (by simpa using k))
theorem up1_text (F : List Int) (a b w : Int) : up1 F a b w = (if decide (0 ≤ rd F a ∧ (rd F b < 0 ∨ rd F a + w < rd F b)) = true then F.set b.toNat (rd F a + w) else F, decide (0 ≤ rd F a ∧ (rd F b < 0 ∨ rd F a + w < rd F b))) := by
  unfold up1
  by_cases c : 0 ≤ rd F a ∧ (rd F b < 0 ∨ rd F a + w < rd F b)
  · rw [if_pos c, decide_eq_true c]; rfl
  · rw [if_neg c, decide_eq_false c]; rfl
theorem j5_run {F : List Int} {ag : Bool} {i a b : Int} {r : Int} (hl : F.length = 8) (hF : ∀ s, 0 ≤ s → s < 8 → rd F s ≤ 4000) (hi : 0 ≤ i ∧ i < legs.length) (ha : 0 ≤ a ∧ a < 8) (hb : 0 ≤ b ∧ b < 8) (hw : 1 ≤ (rd_T29 legs i).f2 ∧ (rd_T29 legs i).f2 ≤ 500)
    (k : Ev (fun k => spec_l25Out.l2 k legs vis at_ (up1 F b a (rd_T29 legs i).f2).1 (ag || (up1 F b a (rd_T29 legs i).f2).2) (wrap64 (i + 1))) r) :
    Ev (fun k => spec_l25Out.j5 k legs vis at_ F ag i a b) r := by
  rw [up1_text] at k
  have hn := hF b hb.1 hb.2
  refine Ev.step (fun k => spec_l25Out.j5.eq_2 _ _ _ _ _ _ _ _ k) (Ev.pos hb.1 (Ev.pos (by omega) (Ev.pos hi.1 (Ev.pos hi.2 ?_))))
  by_cases c0 : rd F b ≥ 0
  · have w0 : wrap64 (rd F b + (rd_T29 legs i).f2) = rd F b + (rd_T29 legs i).f2 := wr (by omega) (by omega)
    refine Ev.pos c0 (Ev.pos ha.1 (Ev.pos (by omega) ?_))
    rw [w0]
    by_cases c1 : rd F a < 0
    · refine Ev.pos c1 (j6_run hl ha ?_)
      rw [decide_eq_true (show 0 ≤ rd F b ∧ (rd F a < 0 ∨ rd F b + (rd_T29 legs i).f2 < rd F a) from ⟨c0, .inl c1⟩)] at k
      exact k
    · refine Ev.neg c1 (j6_run hl ha ?_)
      have : decide (0 ≤ rd F b ∧ (rd F a < 0 ∨ rd F b + (rd_T29 legs i).f2 < rd F a)) = decide (rd F b + (rd_T29 legs i).f2 < rd F a) := by
        apply decide_eq_decide.mpr; constructor
        · rintro ⟨_, h | h⟩ <;> omega
        · intro h; exact ⟨c0, .inr h⟩
      rw [this] at k
      exact k
  · refine Ev.neg c0 (j6_run hl ha ?_)
    rw [decide_eq_false (show ¬ (0 ≤ rd F b ∧ (rd F a < 0 ∨ rd F b + (rd_T29 legs i).f2 < rd F a)) from fun h => c0 h.1)] at k
    exact k
theorem j4_run {F : List Int} {ag : Bool} {i a b n : Int} {c : Bool} {r : Int} (hl : F.length = 8) (hb : 0 ≤ b ∧ b < 8) (k : Ev (fun k => spec_l25Out.j5 k legs vis at_ (if c = true then F.set b.toNat n else F) (ag || c) i a b) r) :
    Ev (fun k => spec_l25Out.j4 k legs vis at_ F ag i a b n c) r := by
  cases c with
  | true => exact Ev.step (fun k => spec_l25Out.j4.eq_2 _ _ _ _ _ _ _ _ _ _ k) (Ev.pos rfl (Ev.pos hb.1 (Ev.pos (by omega) (by simpa using k))))
  | false => exact Ev.step (fun k => spec_l25Out.j4.eq_2 _ _ _ _ _ _ _ _ _ _ k) (Ev.neg (by simp) (by simpa using k))
theorem j3_run {F : List Int} {ag : Bool} {i a b : Int} {r : Int} (hl : F.length = 8) (hF : ∀ s, 0 ≤ s → s < 8 → rd F s ≤ 4000) (hi : 0 ≤ i ∧ i < legs.length) (ha : 0 ≤ a ∧ a < 8) (hb : 0 ≤ b ∧ b < 8) (hw : 1 ≤ (rd_T29 legs i).f2 ∧ (rd_T29 legs i).f2 ≤ 500)
    (k : Ev (fun k => spec_l25Out.j5 k legs vis at_ (up1 F a b (rd_T29 legs i).f2).1 (ag || (up1 F a b (rd_T29 legs i).f2).2) i a b) r) :
    Ev (fun k => spec_l25Out.j3 k legs vis at_ F ag i a b false) r := by
  rw [up1_text] at k
  have hn := hF a ha.1 ha.2
  refine Ev.step (fun k => spec_l25Out.j3.eq_2 _ _ _ _ _ _ _ _ _ k) (Ev.neg (by simp) (Ev.pos ha.1 (Ev.pos (by omega) (Ev.pos hi.1 (Ev.pos hi.2 ?_)))))
  by_cases c0 : rd F a ≥ 0
  · have w0 : wrap64 (rd F a + (rd_T29 legs i).f2) = rd F a + (rd_T29 legs i).f2 := wr (by omega) (by omega)
    refine Ev.pos c0 (Ev.pos hb.1 (Ev.pos (by omega) ?_))
    rw [w0]
    by_cases c1 : rd F b < 0
    · refine Ev.pos c1 (j4_run hl hb ?_)
      rw [decide_eq_true (show 0 ≤ rd F a ∧ (rd F b < 0 ∨ rd F a + (rd_T29 legs i).f2 < rd F b) from ⟨c0, .inl c1⟩)] at k
      exact k
    · refine Ev.neg c1 (j4_run hl hb ?_)
      have : decide (0 ≤ rd F a ∧ (rd F b < 0 ∨ rd F a + (rd_T29 legs i).f2 < rd F b)) = decide (rd F a + (rd_T29 legs i).f2 < rd F b) := by
        apply decide_eq_decide.mpr; constructor
        · rintro ⟨_, h | h⟩ <;> omega
        · intro h; exact ⟨c0, .inr h⟩
      rw [this] at k
      exact k
  · refine Ev.neg c0 (j4_run hl hb ?_)
    rw [decide_eq_false (show ¬ (0 ≤ rd F a ∧ (rd F b < 0 ∨ rd F a + (rd_T29 legs i).f2 < rd F b)) from fun h => c0 h.1)] at k
    exact k
theorem Inv.small {F : List Int} (h : Inv legs vis F) : ∀ s, 0 ≤ s → s < 8 → rd F s ≤ 4000 := fun s h0 h1 => by have := h.bnd s h0 h1; omega
theorem l2_leg (hv : vis.length = 8) (hlen : (legs.length : Int) ≤ 1000000000000) {F : List Int} {ag : Bool} {i : Int} {r : Int} (h : Inv legs vis F) (hi : 0 ≤ i ∧ i < legs.length) (hm : rd_T29 legs i ∈ legs) (g : Lg (rd_T29 legs i))
    (k : Ev (fun k => spec_l25Out.l2 k legs vis at_ (leg1 vis (F, ag) (rd_T29 legs i)).1 (leg1 vis (F, ag) (rd_T29 legs i)).2 (i + 1)) r) :
    Ev (fun k => spec_l25Out.l2 k legs vis at_ F ag i) r := by
  have w : wrap64 (i + 1) = i + 1 := wr (by omega) (by omega)
  have g' := g
  obtain ⟨g0, g1, g2, g3⟩ := g
  refine Ev.step (fun k => spec_l25Out.l2.eq_2 _ _ _ _ _ _ k) (Ev.pos hi.2 (Ev.pos hi.1 (Ev.pos g0.1 (Ev.pos (by omega) ?_))))
  unfold leg1 at k
  by_cases u : Us vis (rd_T29 legs i)
  · rw [if_pos u] at k
    refine Ev.pos u.1 (Ev.pos g1.1 (Ev.pos (by omega) ?_))
    rw [u.2]
    have e0 : Ed legs vis (rd_T29 legs i).f0 (rd_T29 legs i).f1 (rd_T29 legs i).f2 := ⟨_, hm, u, .inl ⟨rfl, rfl⟩, rfl⟩
    obtain ⟨i1, _, _⟩ := h.up e0 ⟨g0.1, by omega⟩ ⟨g1.1, by omega⟩ g2 g3
    refine j3_run h.len h.small hi ⟨g0.1, by omega⟩ ⟨g1.1, by omega⟩ g3 (j5_run i1.len i1.small hi ⟨g0.1, by omega⟩ ⟨g1.1, by omega⟩ g3 ?_)
    rw [w]
    exact k
  · rw [if_neg u] at k
    by_cases u0 : rdOf false vis (rd_T29 legs i).f0 = true
    · have u1 : rdOf false vis (rd_T29 legs i).f1 = false := by
        cases q : rdOf false vis (rd_T29 legs i).f1
        · rfl
        · exact absurd ⟨u0, q⟩ u
      refine Ev.pos u0 (Ev.pos g1.1 (Ev.pos (by omega) ?_))
      rw [u1]
      exact Ev.step (fun k => spec_l25Out.j3.eq_2 _ _ _ _ _ _ _ _ _ k) (Ev.pos rfl (by rw [w]; exact k))
    · exact Ev.neg u0 (Ev.step (fun k => spec_l25Out.j3.eq_2 _ _ _ _ _ _ _ _ _ k) (Ev.pos rfl (by rw [w]; exact k)))
theorem l2_run (hv : vis.length = 8) (hlen : (legs.length : Int) ≤ 1000000000000) (hg : ∀ l ∈ legs, Lg l) {r : Int} : ∀ (L M : List S29) (i : Int) (F : List Int) (ag : Bool), i = M.length → M ++ L = legs → Inv legs vis F →
    Ev (fun k => spec_l25Out.l1 k legs vis at_ (pass vis L (F, ag)).1 (pass vis L (F, ag)).2) r → Ev (fun k => spec_l25Out.l2 k legs vis at_ F ag i) r := by
  intro L
  induction L with
  | nil =>
    intro M i F ag hi e h k
    have len := congrArg List.length e
    simp at len
    exact Ev.step (fun k => spec_l25Out.l2.eq_2 _ _ _ _ _ _ k) (Ev.neg (by omega) k)
  | cons l L ih =>
    intro M i F ag hi e h k
    have len := congrArg List.length e
    simp at len
    have e1 : rd_T29 legs i = l := by rw [← e]; exact rd29_mid M L l i hi
    have hm : l ∈ legs := by rw [← e]; simp
    refine l2_leg hv hlen h ⟨by omega, by omega⟩ (by rw [e1]; exact hm) (by rw [e1]; exact hg l hm) ?_
    rw [e1]
    obtain ⟨i1, _, _⟩ := leg_inv h ag hm (hg l hm)
    exact ih (M ++ [l]) (i + 1) _ _ (by simp; omega) (by rw [← e]; simp) i1 k
end
def Closed (legs : List S29) (vis : List Bool) (F : List Int) : Prop := ∀ l ∈ legs, Shut1 vis F l
theorem l1_run {legs : List S29} {vis : List Bool} (hv : vis.length = 8) (hlen : (legs.length : Int) ≤ 1000000000000) (hg : ∀ l ∈ legs, Lg l) : ∀ (n : Nat) (F : List Int), sm ph F ≤ n → Inv legs vis F →
    ∃ G, Inv legs vis G ∧ Closed legs vis G ∧ ∀ at_, 0 ≤ at_ → at_ < 8 → Ev (fun k => spec_l25Out.l1 k legs vis at_ F true) (rd G at_) := by
  intro n
  induction n with
  | zero =>
    intro F hn h
    obtain ⟨i1, t1, f1⟩ := pass_inv hg legs (fun l hl => hl) F false h
    cases q : (pass vis legs (F, false)).2
    · obtain ⟨_, b, c⟩ := f1 q
      refine ⟨F, h, c, fun at_ a0 a8 => Ev.step (fun k => spec_l25Out.l1.eq_2 _ _ _ _ _ k) (Ev.pos rfl (l2_run hv hlen hg legs [] 0 F false rfl rfl h ?_))⟩
      rw [q, b]
      exact Ev.step (fun k => spec_l25Out.l1.eq_2 _ _ _ _ _ k) (Ev.neg (by simp) (Ev.pos a0 (Ev.pos (by have := h.len; omega) (Ev.now _))))
    · rcases t1 q with ⟨a, _⟩ | a
      · cases a
      · omega
  | succ n ih =>
    intro F hn h
    obtain ⟨i1, t1, f1⟩ := pass_inv hg legs (fun l hl => hl) F false h
    cases q : (pass vis legs (F, false)).2
    · obtain ⟨_, b, c⟩ := f1 q
      refine ⟨F, h, c, fun at_ a0 a8 => Ev.step (fun k => spec_l25Out.l1.eq_2 _ _ _ _ _ k) (Ev.pos rfl (l2_run hv hlen hg legs [] 0 F false rfl rfl h ?_))⟩
      rw [q, b]
      exact Ev.step (fun k => spec_l25Out.l1.eq_2 _ _ _ _ _ k) (Ev.neg (by simp) (Ev.pos a0 (Ev.pos (by have := h.len; omega) (Ev.now _))))
    · rcases t1 q with ⟨a, _⟩ | a
      · cases a
      · obtain ⟨G, ig, cg, eg⟩ := ih _ (by omega) i1
        refine ⟨G, ig, cg, fun at_ a0 a8 => Ev.step (fun k => spec_l25Out.l1.eq_2 _ _ _ _ _ k) (Ev.pos rfl (l2_run hv hlen hg legs [] 0 F false rfl rfl h ?_))⟩
        rw [q]
        exact eg at_ a0 a8
theorem inv0 (legs : List S29) (vis : List Bool) : Inv legs vis [0, -1, -1, -1, -1, -1, -1, -1] := by
  refine ⟨rfl, rfl, fun s h0 h8 => ?_, fun s h0 h8 hs => ?_⟩
  · have : sm ng [0, -1, -1, -1, -1, -1, -1, -1] = 7 := rfl
    rw [this]
    obtain rfl | rfl | rfl | rfl | rfl | rfl | rfl | rfl : s = 0 ∨ s = 1 ∨ s = 2 ∨ s = 3 ∨ s = 4 ∨ s = 5 ∨ s = 6 ∨ s = 7 := by omega
    all_goals decide
  · exfalso
    obtain rfl | rfl | rfl | rfl | rfl | rfl | rfl : s = 1 ∨ s = 2 ∨ s = 3 ∨ s = 4 ∨ s = 5 ∨ s = 6 ∨ s = 7 := by omega
    all_goals exact absurd hs (by decide)
theorem l25Out_run {legs : List S29} {vis : List Bool} (hv : vis.length = 8) (hlen : (legs.length : Int) ≤ 1000000000000) (hg : ∀ l ∈ legs, Lg l) :
    ∃ G, Inv legs vis G ∧ Closed legs vis G ∧ ∀ at_, 0 ≤ at_ → at_ < 8 → Ev (fun k => spec_l25Out.f k legs vis at_) (rd G at_) := by
  obtain ⟨G, ig, cg, eg⟩ := l1_run hv hlen hg (sm ph [0, -1, -1, -1, -1, -1, -1, -1]) _ (Nat.le_refl _) (inv0 legs vis)
  refine ⟨G, ig, cg, fun at_ a0 a8 => ?_⟩
  have w : ∀ n : Nat, n < 8 → wrap64 ((n : Int) + 1) = ((n + 1 : Nat) : Int) := fun n hn => by rw [wr (by omega) (by omega)]; omega
  have fill : ∀ (d n : Nat), n + d = 8 → Ev (fun k => spec_l25Out.l0 k legs vis at_ (List.replicate n (-1)) (n : Int)) (rd G at_) := by
    intro d
    induction d with
    | zero =>
      intro n hn
      obtain rfl : n = 8 := by omega
      exact Ev.step (fun k => spec_l25Out.l0.eq_2 _ _ _ _ _ k) (Ev.neg (by omega) (Ev.pos (by decide) (eg at_ a0 a8)))
    | succ d ih =>
      intro n hn
      refine Ev.step (fun k => spec_l25Out.l0.eq_2 _ _ _ _ _ k) (Ev.pos (by omega) (Ev.pos (by simp; omega) ?_))
      rw [w n (by omega)]
      have := ih (n + 1) (by omega)
      rw [List.replicate_succ' (n := n)] at this
      exact this
  exact fill 8 0 rfl
def Gd (F : List Int) (s : Int) : Int := if 0 ≤ rd F s then rd F s else 1073741824
def cnt (x : Int) (y : Int) : Nat := if 0 ≤ y ∧ y < x then 1 else 0
def rk (F : List Int) (x : Int) : Nat := sm (cnt x) F
theorem rk_lt (F : List Int) (x y : Int) (hy : y ∈ F) (h0 : 0 ≤ y) (h : y < x) : rk F y < rk F x := by
  refine sm_lt _ _ F (fun z _ => ?_) y hy ?_
  · unfold cnt; split <;> split <;> omega
  · unfold cnt; rw [if_neg (by omega), if_pos ⟨h0, h⟩]; omega
theorem rk_le (F : List Int) (x : Int) (hx : x ∈ F) (hl : F.length = 8) : rk F x ≤ 7 := by
  have := sm_lt (cnt x) (fun _ => 1) F (fun z _ => by unfold cnt; split <;> omega) x hx (by unfold cnt; rw [if_neg (by omega)]; omega)
  rw [sm_one, hl] at this
  show sm (cnt x) F ≤ 7
  omega
def dn (d : List Int) (i v : Int) : List Int := d.set i.toNat (mn (rd d i) v)
structure D (F : List Int) (d : List Int) : Prop where
  len : d.length = 8
  lo : ∀ s, 0 ≤ s → s < 8 → Gd F s ≤ rd d s
  hi : ∀ s, 0 ≤ s → s < 8 → rd d s ≤ 1073741824
theorem dn_le {d : List Int} {i v : Int} (hl : d.length = 8) (hi : 0 ≤ i ∧ i < 8) : (∀ s, 0 ≤ s → s < 8 → rd (dn d i v) s ≤ rd d s) ∧ rd (dn d i v) i ≤ v ∧ (dn d i v).length = 8 := by
  refine ⟨fun s s0 s8 => ?_, ?_, by unfold dn; simpa using hl⟩
  · unfold dn
    rw [rd_set d i s _ hi.1 (by omega) s0]
    by_cases e : s = i
    · rw [if_pos e, e]; unfold mn; split <;> omega
    · rw [if_neg e]; exact Int.le_refl _
  · unfold dn
    rw [rd_same d i _ hi.1 (by omega)]; unfold mn; split <;> omega
theorem D.dn {F d : List Int} (h : D F d) {i v : Int} (hi : 0 ≤ i ∧ i < 8) (hv : Gd F i ≤ v) : D F (dn d i v) := by
  obtain ⟨a, b, c⟩ := dn_le (v := v) h.len hi
  refine ⟨c, fun s s0 s8 => ?_, fun s s0 s8 => Int.le_trans (a s s0 s8) (h.hi s s0 s8)⟩
  unfold Pu.dn
  rw [rd_set d i s _ hi.1 (by have := h.len; omega) s0]
  by_cases e : s = i
  · rw [if_pos e]; subst e; have := h.lo s s0 s8; unfold mn; split <;> omega
  · rw [if_neg e]; exact h.lo s s0 s8
def leg2 (vis : List Bool) (d : List Int) (l : S29) : List Int := if Us vis l then dn (dn d l.f0 (rd d l.f1 + l.f2)) l.f1 (rd (dn d l.f0 (rd d l.f1 + l.f2)) l.f0 + l.f2) else d
def pass2 (vis : List Bool) (L : List S29) (d : List Int) : List Int := L.foldl (leg2 vis) d
theorem Gd_leg {legs : List S29} {vis : List Bool} {F : List Int} (h : Inv legs vis F) (c : Closed legs vis F) {l : S29} (hl : l ∈ legs) (g : Lg l) (u : Us vis l) : Gd F l.f0 ≤ Gd F l.f1 + l.f2 ∧ Gd F l.f1 ≤ Gd F l.f0 + l.f2 := by
  obtain ⟨c0, c1⟩ := c l hl u
  have b0 := h.small l.f0 g.1.1 (by have := g.1.2; omega)
  have b1 := h.small l.f1 g.2.1.1 (by have := g.2.1.2; omega)
  have w := g.2.2.2
  unfold Gd
  by_cases e0 : 0 ≤ rd F l.f0 <;> by_cases e1 : 0 ≤ rd F l.f1
  · have := c0 e0; have := c1 e1; rw [if_pos e0, if_pos e1]; omega
  · exact absurd (c0 e0).1 e1
  · exact absurd (c1 e1).1 e0
  · rw [if_neg e0, if_neg e1]; omega
theorem leg2_ok {legs : List S29} {vis : List Bool} {F : List Int} (h : Inv legs vis F) (c : Closed legs vis F) {l : S29} (hl : l ∈ legs) (g : Lg l) {d : List Int} (hd : D F d) :
    D F (leg2 vis d l) ∧ (∀ s, 0 ≤ s → s < 8 → rd (leg2 vis d l) s ≤ rd d s) ∧ (Us vis l → rd (leg2 vis d l) l.f0 ≤ rd d l.f1 + l.f2 ∧ rd (leg2 vis d l) l.f1 ≤ rd d l.f0 + l.f2) := by
  unfold leg2
  have a0 : 0 ≤ l.f0 ∧ l.f0 < 8 := ⟨g.1.1, by have := g.1.2; omega⟩
  have a1 : 0 ≤ l.f1 ∧ l.f1 < 8 := ⟨g.2.1.1, by have := g.2.1.2; omega⟩
  by_cases u : Us vis l
  · rw [if_pos u]
    obtain ⟨g0, g1⟩ := Gd_leg h c hl g u
    have d1 : D F (dn d l.f0 (rd d l.f1 + l.f2)) := hd.dn a0 (by have := hd.lo l.f1 a1.1 a1.2; omega)
    obtain ⟨m1, n1, _⟩ := dn_le (v := rd d l.f1 + l.f2) hd.len a0
    have d2 : D F (dn (dn d l.f0 (rd d l.f1 + l.f2)) l.f1 (rd (dn d l.f0 (rd d l.f1 + l.f2)) l.f0 + l.f2)) := d1.dn a1 (by have := d1.lo l.f0 a0.1 a0.2; omega)
    obtain ⟨m2, n2, _⟩ := dn_le (v := rd (dn d l.f0 (rd d l.f1 + l.f2)) l.f0 + l.f2) d1.len a1
    refine ⟨d2, fun s s0 s8 => Int.le_trans (m2 s s0 s8) (m1 s s0 s8), fun _ => ⟨Int.le_trans (m2 l.f0 a0.1 a0.2) n1, ?_⟩⟩
    have := m1 l.f0 a0.1 a0.2
    omega
  · rw [if_neg u]
    exact ⟨hd, fun s _ _ => Int.le_refl _, fun u' => absurd u' u⟩
theorem pass2_ok {legs : List S29} {vis : List Bool} {F : List Int} (h : Inv legs vis F) (c : Closed legs vis F) (hg : ∀ l ∈ legs, Lg l) : ∀ (L : List S29), (∀ l ∈ L, l ∈ legs) → ∀ d, D F d →
    D F (pass2 vis L d) ∧ (∀ s, 0 ≤ s → s < 8 → rd (pass2 vis L d) s ≤ rd d s) ∧ (∀ l ∈ L, Us vis l → rd (pass2 vis L d) l.f0 ≤ rd d l.f1 + l.f2 ∧ rd (pass2 vis L d) l.f1 ≤ rd d l.f0 + l.f2) := by
  intro L
  induction L with
  | nil => intro _ d hd; exact ⟨hd, fun s _ _ => Int.le_refl _, fun l hl => absurd hl List.not_mem_nil⟩
  | cons l L ih =>
    intro hs d hd
    have hl := hs l List.mem_cons_self
    obtain ⟨d1, m1, u1⟩ := leg2_ok h c hl (hg l hl) hd
    obtain ⟨d2, m2, u2⟩ := ih (fun x hx => hs x (List.mem_cons_of_mem _ hx)) (leg2 vis d l) d1
    refine ⟨d2, fun s s0 s8 => Int.le_trans (m2 s s0 s8) (m1 s s0 s8), fun x hx u => ?_⟩
    have gx := hg x (hs x hx)
    have a0 : 0 ≤ x.f0 ∧ x.f0 < 8 := ⟨gx.1.1, by have := gx.1.2; omega⟩
    have a1 : 0 ≤ x.f1 ∧ x.f1 < 8 := ⟨gx.2.1.1, by have := gx.2.1.2; omega⟩
    rcases List.mem_cons.mp hx with rfl | hx
    · obtain ⟨p, q⟩ := u1 u
      exact ⟨Int.le_trans (m2 x.f0 a0.1 a0.2) p, Int.le_trans (m2 x.f1 a1.1 a1.2) q⟩
    · obtain ⟨p, q⟩ := u2 x hx u
      have p' := m1 x.f0 a0.1 a0.2
      have q' := m1 x.f1 a1.1 a1.2
      show rd (pass2 vis L (leg2 vis d l)) x.f0 ≤ _ ∧ rd (pass2 vis L (leg2 vis d l)) x.f1 ≤ _
      exact ⟨by omega, by omega⟩
def Set_ (F : List Int) (j : Nat) (d : List Int) : Prop := ∀ s, 0 ≤ s → s < 8 → (0 ≤ rd F s → rk F (rd F s) ≤ j) → rd d s ≤ Gd F s
theorem round {legs : List S29} {vis : List Bool} {F : List Int} (h : Inv legs vis F) (c : Closed legs vis F) (hg : ∀ l ∈ legs, Lg l) {d : List Int} (hd : D F d) {j : Nat} (hj : Set_ F j d) : Set_ F (j + 1) (pass2 vis legs d) := by
  obtain ⟨_, m, u⟩ := pass2_ok h c hg legs (fun l hl => hl) d hd
  intro s s0 s8 hr
  by_cases e : 0 ≤ rd F s
  · by_cases ez : s = 0
    · subst ez
      refine Int.le_trans (m 0 s0 s8) (hj 0 s0 s8 (fun _ => ?_))
      rw [h.zero]
      have : rk F 0 = 0 := by
        have := sm_le (cnt 0) (fun _ => 0) F (fun x _ => by unfold cnt; rw [if_neg (by omega)]; exact Nat.le_refl _)
        have z : ∀ l : List Int, sm (fun _ => 0) l = 0 := by
          intro l
          induction l with
          | nil => rfl
          | cons x l ih => simp only [sm, ih]
        rw [z] at this
        exact Nat.le_zero.mp this
      omega
    · obtain ⟨p, w, hp, hw, ⟨l, hl, us, ends, ew⟩, f0, f1⟩ := h.tight s (by omega) s8 e
      have lt := rk_lt F (rd F s) (rd F p) (rd_in F p hp.1 (by have := h.len; omega)) f0 (by omega)
      have hp' := hj p hp.1 hp.2 (fun _ => by have := hr e; omega)
      have gp : Gd F p = rd F p := by unfold Gd; rw [if_pos f0]
      have gs : Gd F s = rd F s := by unfold Gd; rw [if_pos e]
      obtain ⟨q0, q1⟩ := u l hl us
      rw [gs]
      rcases ends with ⟨e0, e1⟩ | ⟨e0, e1⟩
      · rw [e1, e0, ew] at q1; omega
      · rw [e0, e1, ew] at q0; omega
  · obtain ⟨hd', _, _⟩ := pass2_ok h c hg legs (fun l hl => hl) d hd
    have := hd'.hi s s0 s8
    unfold Gd
    rw [if_neg e]
    exact this
section
variable {legs vs : List S29} {vis leads : List Bool} {at_ light : Int}
theorem w1_run (hv : vis.length = 8) (hlen : (legs.length : Int) ≤ 1000000000000) (hg : ∀ l ∈ legs, Lg l) {F : List Int} (h : Inv legs vis F) (c : Closed legs vis F) {x : Int} {r : Int × Bool} : ∀ (L M : List S29) (i : Int) (d : List Int), i = M.length → M ++ L = legs → D F d →
    Ev (fun k => impl_Exploration_wayOut.l0 k (pass2 vis L d) (wrap64 (x + 1)) vs vis leads at_ light) r → Ev (fun k => impl_Exploration_wayOut.l1 k d x legs (legs.length : Int) i vs vis leads at_ light) r := by
  intro L
  induction L with
  | nil =>
    intro M i d hi e hd k
    have len := congrArg List.length e
    simp at len
    exact Ev.step (fun k => impl_Exploration_wayOut.l1.eq_2 _ _ _ _ _ _ _ _ _ _ k) (Ev.neg (by omega) k)
  | cons l L ih =>
    intro M i d hi e hd k
    have len := congrArg List.length e
    simp at len
    have e1 : rd_T29 legs i = l := by rw [← e]; exact rd29_mid M L l i hi
    have hm : l ∈ legs := by rw [← e]; simp
    have g := hg l hm
    have w : wrap64 (i + 1) = i + 1 := wr (by omega) (by omega)
    obtain ⟨d1, _, _⟩ := leg2_ok h c hm g hd
    have a0 : 0 ≤ l.f0 ∧ l.f0 < 8 := ⟨g.1.1, by have := g.1.2; omega⟩
    have a1 : 0 ≤ l.f1 ∧ l.f1 < 8 := ⟨g.2.1.1, by have := g.2.1.2; omega⟩
    have go := ih (M ++ [l]) (i + 1) (leg2 vis d l) (by simp; omega) (by rw [← e]; simp) d1 k
    refine Ev.step (fun k => impl_Exploration_wayOut.l1.eq_2 _ _ _ _ _ _ _ _ _ _ k) (Ev.pos (by omega) (Ev.pos (by omega) (Ev.pos (by omega) ?_)))
    rw [e1, w]
    refine Ev.pos a0.1 (Ev.pos (by omega) ?_)
    unfold leg2 at go d1
    by_cases u : Us vis l
    · rw [if_pos u] at go d1
      have b0 := hd.hi l.f0 a0.1 a0.2
      have b1 := hd.hi l.f1 a1.1 a1.2
      have n0 : 0 ≤ rd d l.f0 := by have := hd.lo l.f0 a0.1 a0.2; unfold Gd at this; split at this <;> omega
      have n1 : 0 ≤ rd d l.f1 := by have := hd.lo l.f1 a1.1 a1.2; unfold Gd at this; split at this <;> omega
      have g2 := g.2.2.2
      have w0 : wrap64 (rd d l.f1 + l.f2) = rd d l.f1 + l.f2 := wr (by omega) (by omega)
      refine Ev.pos u.1 (Ev.pos a1.1 (Ev.pos (by omega) (Ev.pos u.2 (Ev.pos (by have := hd.len; omega) (Ev.pos (by have := hd.len; omega) (Ev.someb ?_))))))
      rw [w0]
      have dd : D F (dn d l.f0 (rd d l.f1 + l.f2)) := hd.dn a0 (by have := Gd_leg h c hm g u; have := hd.lo l.f1 a1.1 a1.2; omega)
      have b2 := dd.hi l.f0 a0.1 a0.2
      have n2 : 0 ≤ rd (dn d l.f0 (rd d l.f1 + l.f2)) l.f0 := by have := dd.lo l.f0 a0.1 a0.2; unfold Gd at this; split at this <;> omega
      have w1 : wrap64 (rd (dn d l.f0 (rd d l.f1 + l.f2)) l.f0 + l.f2) = rd (dn d l.f0 (rd d l.f1 + l.f2)) l.f0 + l.f2 := wr (by omega) (by omega)
      show Ev (fun k => impl_Exploration_wayOut.l1 k ((dn d l.f0 (rd d l.f1 + l.f2)).set l.f1.toNat (mn (rd (dn d l.f0 (rd d l.f1 + l.f2)) l.f1) (wrap64 (rd (dn d l.f0 (rd d l.f1 + l.f2)) l.f0 + l.f2)))) x legs (legs.length : Int) (i + 1) vs vis leads at_ light) r
      rw [w1]
      exact go
    · rw [if_neg u] at go
      by_cases u0 : rdOf false vis l.f0 = true
      · exact Ev.pos u0 (Ev.pos a1.1 (Ev.pos (by omega) (Ev.neg (fun u1 => u ⟨u0, u1⟩) go)))
      · exact Ev.neg u0 go
theorem w0_run (hv : vis.length = 8) (hlen : (legs.length : Int) ≤ 1000000000000) (hg : ∀ l ∈ legs, Lg l) {F : List Int} (h : Inv legs vis F) (c : Closed legs vis F) (a0 : 0 ≤ at_) (a8 : at_ < 8) : ∀ (m j : Nat) (x : Int) (d : List Int), x + m = 8 → j = x → D F d → Set_ F j d →
    Ev (fun k => impl_Exploration_wayOut.l0 k d x legs vis leads at_ light) (Gd F at_, decide (Gd F at_ < 1073741824)) := by
  intro m
  induction m with
  | zero =>
    intro j x d hx hj hd hs
    refine Ev.step (fun k => impl_Exploration_wayOut.l0.eq_2 _ _ _ _ _ _ _ k) (Ev.neg (by omega) (Ev.pos a0 (Ev.pos (by have := hd.len; omega) (Ev.to (Ev.now _) ?_))))
    have : rd d at_ = Gd F at_ := Int.le_antisymm (hs at_ a0 a8 (fun _ => by have := rk_le F (rd F at_) (rd_in F at_ a0 (by have := h.len; omega)) h.len; omega)) (hd.lo at_ a0 a8)
    rw [this]
  | succ m ih =>
    intro j x d hx hj hd hs
    have w : wrap64 (x + 1) = x + 1 := wr (by omega) (by omega)
    obtain ⟨hd', _, _⟩ := pass2_ok h c hg legs (fun l hl => hl) d hd
    refine Ev.step (fun k => impl_Exploration_wayOut.l0.eq_2 _ _ _ _ _ _ _ k) (Ev.pos (by omega) (w1_run hv hlen hg h c legs [] 0 d rfl rfl hd ?_))
    rw [w]
    exact ih (j + 1) (x + 1) _ (by omega) (by omega) hd' (round h c hg hd hs)
theorem rd8 (s : Int) (h0 : 0 ≤ s) (h8 : s < 8) : rd [0, 1073741824, 1073741824, 1073741824, 1073741824, 1073741824, 1073741824, 1073741824] s = if s = 0 then 0 else 1073741824 := by
  obtain rfl | rfl | rfl | rfl | rfl | rfl | rfl | rfl : s = 0 ∨ s = 1 ∨ s = 2 ∨ s = 3 ∨ s = 4 ∨ s = 5 ∨ s = 6 ∨ s = 7 := by omega
  all_goals rfl
theorem wayOut_run (hv : vis.length = 8) (hlen : (legs.length : Int) ≤ 1000000000000) (hg : ∀ l ∈ legs, Lg l) {F : List Int} (h : Inv legs vis F) (c : Closed legs vis F) (a0 : 0 ≤ at_) (a8 : at_ < 8) :
    Ev (fun k => impl_Exploration_wayOut.f k legs vis leads at_ light) (Gd F at_, decide (Gd F at_ < 1073741824)) := by
  unfold impl_Exploration_wayOut.f
  refine Ev.bindS (a := List.replicate 8 1073741824) rfl (Ev.pos (by decide) ?_)
  show Ev (fun k => impl_Exploration_wayOut.l0 k [0, 1073741824, 1073741824, 1073741824, 1073741824, 1073741824, 1073741824, 1073741824] 0 legs vis leads at_ light) _
  have hd : D F [0, 1073741824, 1073741824, 1073741824, 1073741824, 1073741824, 1073741824, 1073741824] := by
    refine ⟨rfl, fun s s0 s8 => ?_, fun s s0 s8 => ?_⟩
    · rw [rd8 s s0 s8]
      have b := h.small s s0 s8
      unfold Gd
      by_cases e : s = 0
      · subst e; rw [if_pos rfl, h.zero]; decide
      · rw [if_neg e]; split <;> omega
    · rw [rd8 s s0 s8]; split <;> omega
  refine w0_run hv hlen hg h c a0 a8 8 0 0 _ rfl rfl hd (fun s s0 s8 hr => ?_)
  rw [rd8 s s0 s8]
  by_cases e : s = 0
  · subst e; rw [if_pos rfl]; unfold Gd; rw [h.zero]; decide
  · rw [if_neg e]
    unfold Gd
    by_cases q : 0 ≤ rd F s
    · exfalso
      obtain ⟨p, w, hp, hw, _, f0, f1⟩ := h.tight s (by omega) s8 q
      have := rk_lt F (rd F s) (rd F p) (rd_in F p hp.1 (by have := h.len; omega)) f0 (by omega)
      have := hr q
      omega
    · rw [if_neg q]; exact Int.le_refl _
end
def inB (a b x : Int) : Bool := decide (b ≤ a ∧ a ≤ x)
theorem inB_spec (a b c : Int) : spec_l1In.f a b c = some (inB a b c) := by
  unfold spec_l1In.f inB
  by_cases h : b ≤ a
  · rw [if_pos h]; congr 1; apply decide_eq_decide.mpr; omega
  · rw [if_neg h]; congr 1; symm; apply decide_eq_false; omega
theorem inB_impl (a b c : Int) : impl_within.f a b c = some (inB a b c) := by
  unfold impl_within.f inB
  by_cases h : b ≤ a
  · rw [if_pos h]; congr 1; apply decide_eq_decide.mpr; omega
  · rw [if_neg h]; congr 1; symm; apply decide_eq_false; omega
theorem inB_of {a b c : Int} (h : inB a b c = true) : b ≤ a ∧ a ≤ c := of_decide_eq_true h
theorem inB_no {a b c : Int} (h : ¬ inB a b c = true) : ¬ (b ≤ a ∧ a ≤ c) := fun g => h (decide_eq_true g)
theorem station_spec (a : Int) : spec_l4Station.f a = some (inB a 0 7) := by unfold spec_l4Station.f; rw [inB_spec]; rfl
theorem station_impl (a : Int) : impl_isStation.f a = some (inB a 0 7) := by unfold impl_isStation.f; rw [inB_impl]; rfl
theorem bearing_spec (a : Int) : spec_l2Bearing.f a = some (inB a 0 359) := by unfold spec_l2Bearing.f; rw [inB_spec]; rfl
theorem bearing_impl (a : Int) : impl_isBearing.f a = some (inB a 0 359) := by unfold impl_isBearing.f; rw [inB_impl]; rfl
def legB (a b c d e : Int) : Bool := inB a 0 7 && inB b 0 7 && !decide (a = b) && inB c 1 500 && inB d 0 359 && inB e (-90) 90
theorem leg_spec (a b c d e : Int) : spec_l4Leg.f a b c d e = some (legB a b c d e) := by
  unfold spec_l4Leg.f legB
  simp only [station_spec, bearing_spec, inB_spec, Option.bind_some]
  cases inB a 0 7 <;> cases inB b 0 7 <;> by_cases h : a = b <;> cases inB c 1 500 <;> cases inB d 0 359 <;> simp [h]
theorem leg_impl (a b c d e : Int) : impl_IsLeg.f a b c d e = some (legB a b c d e) := by
  unfold impl_IsLeg.f legB
  simp only [station_impl, bearing_impl, inB_impl, Option.bind_some]
  cases inB a 0 7 <;> cases inB b 0 7 <;> by_cases h : a = b <;> cases inB c 1 500 <;> cases inB d 0 359 <;> simp [h]
def legOk (l : S29) : Bool := legB l.f0 l.f1 l.f2 l.f3 l.f4
theorem legOk_Lg {l : S29} (h : legOk l = true) : Lg l := by
  unfold legOk legB at h
  simp only [Bool.and_eq_true, Bool.not_eq_true', decide_eq_false_iff_not] at h
  obtain ⟨⟨⟨⟨⟨h0, h1⟩, h2⟩, h3⟩, _⟩, _⟩ := h
  exact ⟨inB_of h0, inB_of h1, h2, inB_of h3⟩
def legsB (l : List S29) : Bool := l.all legOk && decide ((l.length : Int) ≤ 12)
theorem legs_spec_l0 (legs : List S29) (hlen : (legs.length : Int) ≤ 1000000000000) : ∀ (L M : List S29) (i : Int), i = M.length → M ++ L = legs → Ev (fun k => spec_l4Legs.l0 k legs i) (L.all legOk && decide ((legs.length : Int) ≤ 12)) := by
  intro L
  induction L with
  | nil =>
    intro M i hi e
    have len := congrArg List.length e
    simp at len
    exact Ev.step (fun k => spec_l4Legs.l0.eq_2 _ _ k) (Ev.neg (by omega) (Ev.to (Ev.now _) (by simp)))
  | cons l L ih =>
    intro M i hi e
    have len := congrArg List.length e
    simp at len
    have e1 : rd_T29 legs i = l := by rw [← e]; exact rd29_mid M L l i hi
    have w : wrap64 (i + 1) = i + 1 := wr (by omega) (by omega)
    refine Ev.step (fun k => spec_l4Legs.l0.eq_2 _ _ k) (Ev.pos (by omega) (Ev.pos (by omega) ?_))
    rw [e1, w]
    refine Ev.bindS (leg_spec _ _ _ _ _) ?_
    have go := ih (M ++ [l]) (i + 1) (by simp; omega) (by rw [← e]; simp)
    by_cases c : legB l.f0 l.f1 l.f2 l.f3 l.f4 = true
    · refine Ev.pos c (Ev.to go ?_)
      rw [List.all_cons, show legOk l = true from c, Bool.true_and]
    · refine Ev.neg c (Ev.to (Ev.now _) ?_)
      rw [List.all_cons, show legOk l = false from Bool.eq_false_iff.mpr c]; rfl
theorem legs_impl_l0 (legs : List S29) (hlen : (legs.length : Int) ≤ 1000000000000) : ∀ (L M : List S29) (i : Int), i = M.length → M ++ L = legs → Ev (fun k => impl_areLegs.l0 k legs legs (legs.length : Int) i) (L.all legOk && decide ((legs.length : Int) ≤ 12)) := by
  intro L
  induction L with
  | nil =>
    intro M i hi e
    have len := congrArg List.length e
    simp at len
    exact Ev.step (fun k => impl_areLegs.l0.eq_2 _ _ _ _ k) (Ev.neg (by omega) (Ev.to (Ev.now _) (by simp)))
  | cons l L ih =>
    intro M i hi e
    have len := congrArg List.length e
    simp at len
    have e1 : rd_T29 legs i = l := by rw [← e]; exact rd29_mid M L l i hi
    have w : wrap64 (i + 1) = i + 1 := wr (by omega) (by omega)
    refine Ev.step (fun k => impl_areLegs.l0.eq_2 _ _ _ _ k) (Ev.pos (by omega) (Ev.pos (by omega) (Ev.pos (by omega) ?_)))
    rw [e1, w]
    refine Ev.bindS (leg_impl _ _ _ _ _) ?_
    have go := ih (M ++ [l]) (i + 1) (by simp; omega) (by rw [← e]; simp)
    by_cases c : legB l.f0 l.f1 l.f2 l.f3 l.f4 = true
    · refine Ev.pos c (Ev.to go ?_)
      rw [List.all_cons, show legOk l = true from c, Bool.true_and]
    · refine Ev.neg c (Ev.to (Ev.now _) ?_)
      rw [List.all_cons, show legOk l = false from Bool.eq_false_iff.mpr c]; rfl
theorem legs_spec (legs : List S29) (hlen : (legs.length : Int) ≤ 1000000000000) : Ev (fun k => spec_l4Legs.f k legs) (legsB legs) := legs_spec_l0 legs hlen legs [] 0 rfl rfl
theorem legs_impl (legs : List S29) (hlen : (legs.length : Int) ≤ 1000000000000) : Ev (fun k => impl_areLegs.f k legs) (legsB legs) := legs_impl_l0 legs hlen legs [] 0 rfl rfl
structure Xp (legs : List S29) (vis leads : List Bool) (at_ light : Int) (F : List Int) : Prop where
  hlegs : legsB legs = true
  hvis : vis.length = 8
  hleads : leads.length = 8
  at0 : 0 ≤ at_
  at8 : at_ ≤ 7
  light0 : 0 ≤ light
  light1 : light ≤ 100000
  zero : rdOf false vis 0 = true
  here : rdOf false vis at_ = true
  inv : Inv legs vis F
  shut : Closed legs vis F
  out0 : 0 ≤ rd F at_
  out1 : rd F at_ ≤ light
theorem legsB_Lg {legs : List S29} (h : legsB legs = true) : (∀ l ∈ legs, Lg l) ∧ (legs.length : Int) ≤ 12 := by
  unfold legsB at h
  rw [Bool.and_eq_true, List.all_eq_true] at h
  exact ⟨fun l hl => legOk_Lg (h.1 l hl), of_decide_eq_true h.2⟩
theorem dec_false {p : Prop} [Decidable p] (h : ¬ p) : decide p = false := decide_eq_false h
theorem good_both (legs : List S29) (vis leads : List Bool) (at_ light : Int) (hlen : (legs.length : Int) ≤ 1000000000000) :
    ∃ b, Ev (fun k => spec_l25Good.f k legs vis leads at_ light) b ∧ Ev (fun k => impl_IsExploration.f k legs vis leads at_ light) b ∧ (b = true → ∃ F, Xp legs vis leads at_ light F) := by
  have s0 : Ev (fun k => spec_l25Good.j0 k true legs vis leads at_ light) false := Ev.step (fun k => spec_l25Good.j0.eq_2 _ _ _ _ _ _ k) (Ev.pos rfl (Ev.now _))
  have i0 : Ev (fun k => impl_IsExploration.j0 k true legs vis leads at_ light) false := Ev.step (fun k => impl_IsExploration.j0.eq_2 _ _ _ _ _ _ k) (Ev.pos rfl (Ev.now _))
  by_cases c0 : legsB legs = true
  case neg =>
    exact ⟨false, Ev.bind (legs_spec legs hlen) (Ev.neg c0 s0), Ev.bind (legs_impl legs hlen) (Ev.neg c0 i0), fun h => by cases h⟩
  by_cases c1 : (vis.length : Int) = 8
  case neg =>
    exact ⟨false, Ev.bind (legs_spec legs hlen) (Ev.pos c0 (Ev.neg c1 s0)), Ev.bind (legs_impl legs hlen) (Ev.pos c0 (Ev.neg c1 i0)), fun h => by cases h⟩
  by_cases c2 : (leads.length : Int) = 8
  case neg =>
    exact ⟨false, Ev.bind (legs_spec legs hlen) (Ev.pos c0 (Ev.pos c1 (Ev.neg c2 s0))), Ev.bind (legs_impl legs hlen) (Ev.pos c0 (Ev.pos c1 (Ev.neg c2 i0))), fun h => by cases h⟩
  by_cases c3 : inB at_ 0 7 = true
  case neg =>
    exact ⟨false, Ev.bind (legs_spec legs hlen) (Ev.pos c0 (Ev.pos c1 (Ev.pos c2 (Ev.bindS (station_spec _) (Ev.neg c3 s0))))), Ev.bind (legs_impl legs hlen) (Ev.pos c0 (Ev.pos c1 (Ev.pos c2 (Ev.bindS (station_impl _) (Ev.neg c3 i0))))), fun h => by cases h⟩
  by_cases c4 : inB light 0 100000 = true
  case neg =>
    have c4' : inB light 0 100000 = false := Bool.eq_false_iff.mpr c4
    exact ⟨false, Ev.bind (legs_spec legs hlen) (Ev.pos c0 (Ev.pos c1 (Ev.pos c2 (Ev.bindS (station_spec _) (Ev.pos c3 (Ev.bindS (inB_spec _ _ _) (by rw [c4']; exact s0))))))), Ev.bind (legs_impl legs hlen) (Ev.pos c0 (Ev.pos c1 (Ev.pos c2 (Ev.bindS (station_impl _) (Ev.pos c3 (Ev.bindS (inB_impl _ _ _) (by rw [c4']; exact i0))))))), fun h => by cases h⟩
  have a3 := inB_of c3
  have a4 := inB_of c4
  obtain ⟨hg, h12⟩ := legsB_Lg c0
  obtain ⟨F, hi, hc, he⟩ := l25Out_run (vis := vis) (by omega) hlen hg
  have hw := wayOut_run (leads := leads) (light := light) (at_ := at_) (by omega) hlen hg hi hc a3.1 (by omega)
  have s1 : ∀ b, Ev (fun k => spec_l25Good.j0 k false legs vis leads at_ light) b → Ev (fun k => spec_l25Good.f k legs vis leads at_ light) b := fun b h =>
    Ev.bind (legs_spec legs hlen) (Ev.pos c0 (Ev.pos c1 (Ev.pos c2 (Ev.bindS (station_spec _) (Ev.pos c3 (Ev.bindS (inB_spec _ _ _) (by rw [c4]; exact h)))))))
  have i1 : ∀ b, Ev (fun k => impl_IsExploration.j0 k false legs vis leads at_ light) b → Ev (fun k => impl_IsExploration.f k legs vis leads at_ light) b := fun b h =>
    Ev.bind (legs_impl legs hlen) (Ev.pos c0 (Ev.pos c1 (Ev.pos c2 (Ev.bindS (station_impl _) (Ev.pos c3 (Ev.bindS (inB_impl _ _ _) (by rw [c4]; exact h)))))))
  by_cases c5 : rdOf false vis 0 = true
  case neg =>
    exact ⟨false, s1 _ (Ev.step (fun k => spec_l25Good.j0.eq_2 _ _ _ _ _ _ k) (Ev.neg (by simp) (Ev.pos (by omega) (Ev.neg c5 (Ev.now _))))),
      i1 _ (Ev.step (fun k => impl_IsExploration.j0.eq_2 _ _ _ _ _ _ k) (Ev.neg (by simp) (Ev.pos (by omega) (Ev.neg c5 (Ev.now _))))), fun h => by cases h⟩
  by_cases c6 : rdOf false vis at_ = true
  case neg =>
    exact ⟨false, s1 _ (Ev.step (fun k => spec_l25Good.j0.eq_2 _ _ _ _ _ _ k) (Ev.neg (by simp) (Ev.pos (by omega) (Ev.pos c5 (Ev.pos a3.1 (Ev.pos (by omega) (Ev.neg c6 (Ev.now _)))))))),
      i1 _ (Ev.step (fun k => impl_IsExploration.j0.eq_2 _ _ _ _ _ _ k) (Ev.neg (by simp) (Ev.pos (by omega) (Ev.pos c5 (Ev.pos a3.1 (Ev.pos (by omega) (Ev.neg c6 (Ev.now _)))))))), fun h => by cases h⟩
  have s2 : ∀ b, Ev (fun k => if rd F at_ ≥ 0 then some (decide (rd F at_ ≤ light)) else some false) b → Ev (fun k => spec_l25Good.f k legs vis leads at_ light) b := fun b h =>
    s1 _ (Ev.step (fun k => spec_l25Good.j0.eq_2 _ _ _ _ _ _ k) (Ev.neg (by simp) (Ev.pos (by omega) (Ev.pos c5 (Ev.pos a3.1 (Ev.pos (by omega) (Ev.pos c6 (Ev.bind (he at_ a3.1 (by omega)) h))))))))
  have i2 : ∀ b, Ev (fun k => if decide (Gd F at_ < 1073741824) = true then some (decide (Gd F at_ ≤ light)) else some false) b → Ev (fun k => impl_IsExploration.f k legs vis leads at_ light) b := fun b h =>
    i1 _ (Ev.step (fun k => impl_IsExploration.j0.eq_2 _ _ _ _ _ _ k) (Ev.neg (by simp) (Ev.pos (by omega) (Ev.pos c5 (Ev.pos a3.1 (Ev.pos (by omega) (Ev.pos c6 (Ev.bind hw h))))))))
  have small := hi.small at_ a3.1 (by omega)
  by_cases c7 : 0 ≤ rd F at_
  case neg =>
    have g : Gd F at_ = 1073741824 := by unfold Gd; rw [if_neg c7]
    exact ⟨false, s2 _ (Ev.neg c7 (Ev.now _)), i2 _ (Ev.neg (by rw [g]; decide) (Ev.now _)), fun h => by cases h⟩
  have g : Gd F at_ = rd F at_ := by unfold Gd; rw [if_pos c7]
  refine ⟨decide (rd F at_ ≤ light), s2 _ (Ev.pos c7 (Ev.now _)), i2 _ (Ev.pos (by rw [g]; exact decide_eq_true (by omega)) (by rw [g]; exact Ev.now _)), fun h => ⟨F, c0, by omega, by omega, a3.1, a3.2, a4.1, a4.2, c5, c6, hi, hc, c7, of_decide_eq_true h⟩⟩
def bad (vis : List Bool) (s : Int) (l : S29) : Bool := (decide (l.f0 = s) && !rdOf false vis l.f1) || (decide (l.f1 = s) && !rdOf false vis l.f0)
def qual (legs : List S29) (vis leads : List Bool) (s : Int) : Bool := rdOf false leads s && !legs.any (bad vis s)
def tl (legs : List S29) (vis leads : List Bool) : Int → Nat → List Int
  | _, 0 => []
  | s, d + 1 => (if qual legs vis leads s = true then [s] else []) ++ tl legs vis leads (s + 1) d
section
variable {legs : List S29} {vis leads : List Bool} {at_ light : Int}
theorem lead_j2 {out : List Int} {s i : Int} {o b : Bool} {r : List Int × Bool} (k : Ev (fun k => spec_OpenLeads.l1 k out s (o && !b) (wrap64 (i + 1)) legs vis leads at_ light) r) : Ev (fun k => spec_OpenLeads.j2 k out s o i b legs vis leads at_ light) r := by
  cases b with
  | true => exact Ev.step (fun k => spec_OpenLeads.j2.eq_2 _ _ _ _ _ _ _ _ _ _ k) (Ev.pos rfl (by simpa using k))
  | false => exact Ev.step (fun k => spec_OpenLeads.j2.eq_2 _ _ _ _ _ _ _ _ _ _ k) (Ev.neg (by simp) (by simpa using k))
theorem lead_l1 (hv : vis.length = 8) (hlen : (legs.length : Int) ≤ 1000000000000) (hg : ∀ l ∈ legs, Lg l) {out : List Int} {s : Int} {r : List Int × Bool} (hs : 0 ≤ s ∧ s < 8) (ho : (out.length : Int) ≤ 100) : ∀ (L M : List S29) (i : Int) (o : Bool), i = M.length → M ++ L = legs →
    Ev (fun k => spec_OpenLeads.l0 k (if (o && !L.any (bad vis s)) = true then out ++ [s] else out) (s + 1) legs vis leads at_ light) r → Ev (fun k => spec_OpenLeads.l1 k out s o i legs vis leads at_ light) r := by
  intro L
  induction L with
  | nil =>
    intro M i o hi e k
    have len := congrArg List.length e
    simp at len
    have w : wrap64 (s + 1) = s + 1 := wr (by omega) (by omega)
    refine Ev.step (fun k => spec_OpenLeads.l1.eq_2 _ _ _ _ _ _ _ _ _ k) (Ev.neg (by omega) ?_)
    rw [w]
    cases o with
    | true => exact Ev.pos rfl (Ev.pos (by omega) (by simpa using k))
    | false => exact Ev.neg (by simp) (by simpa using k)
  | cons l L ih =>
    intro M i o hi e k
    have len := congrArg List.length e
    simp at len
    have e1 : rd_T29 legs i = l := by rw [← e]; exact rd29_mid M L l i hi
    have g := hg l (by rw [← e]; simp)
    have w : wrap64 (i + 1) = i + 1 := wr (by omega) (by omega)
    have go := ih (M ++ [l]) (i + 1) (o && !bad vis s l) (by simp; omega) (by rw [← e]; simp) (by
      rw [List.any_cons] at k
      have : (o && !(bad vis s l || L.any (bad vis s))) = ((o && !bad vis s l) && !L.any (bad vis s)) := by cases o <;> cases bad vis s l <;> simp
      rw [this] at k; exact k)
    obtain ⟨g0, g1, g2, _⟩ := g
    have jb : ∀ b, b = bad vis s l → Ev (fun k => spec_OpenLeads.j2 k out s o i b legs vis leads at_ light) r := fun b hb => lead_j2 (by rw [hb, w]; exact go)
    refine Ev.step (fun k => spec_OpenLeads.l1.eq_2 _ _ _ _ _ _ _ _ _ k) (Ev.pos (by omega) (Ev.pos (by omega) ?_))
    rw [e1]
    by_cases c0 : l.f0 = s
    · have c1 : ¬ l.f1 = s := fun h => g2 (c0.trans h.symm)
      refine Ev.pos c0 (Ev.pos g1.1 (Ev.pos (by omega) ?_))
      by_cases v1 : rdOf false vis l.f1 = true
      · exact Ev.pos v1 (Ev.neg c1 (jb _ (by unfold bad; rw [v1, dec_false c1]; simp)))
      · exact Ev.neg v1 (jb _ (by unfold bad; rw [Bool.eq_false_iff.mpr v1, decide_eq_true c0]; simp))
    · refine Ev.neg c0 ?_
      by_cases c1 : l.f1 = s
      · refine Ev.pos c1 (Ev.pos g0.1 (Ev.pos (by omega) (jb _ ?_)))
        unfold bad; rw [dec_false c0, decide_eq_true c1]; simp
      · exact Ev.neg c1 (jb _ (by unfold bad; rw [dec_false c0, dec_false c1]; simp))
theorem lead_l0 (hv : vis.length = 8) (hd : leads.length = 8) (hlen : (legs.length : Int) ≤ 1000000000000) (hg : ∀ l ∈ legs, Lg l) : ∀ (d : Nat) (s : Int) (out : List Int), 0 ≤ s → s + d = 8 → (out.length : Int) ≤ s →
    Ev (fun k => spec_OpenLeads.l0 k out s legs vis leads at_ light) (out ++ tl legs vis leads s d, true) := by
  intro d
  induction d with
  | zero => intro s out h0 h8 ho; exact Ev.step (fun k => spec_OpenLeads.l0.eq_2 _ _ _ _ _ _ _ k) (Ev.neg (by omega) (Ev.to (Ev.now _) (by simp [tl])))
  | succ d ih =>
    intro s out h0 h8 ho
    refine Ev.step (fun k => spec_OpenLeads.l0.eq_2 _ _ _ _ _ _ _ k) (Ev.pos (by omega) (Ev.pos h0 (lead_l1 hv hlen hg ⟨h0, by omega⟩ (by omega) legs [] 0 _ rfl rfl ?_)))
    have q : (rdOf false leads s && !legs.any (bad vis s)) = qual legs vis leads s := rfl
    rw [q]
    refine Ev.to (ih (s + 1) _ (by omega) (by omega) ?_) ?_
    · split
      · rw [List.length_append]; simp; omega
      · omega
    · simp only [tl]
      split <;> simp
theorem lead_clo (hv : vis.length = 8) {l : S29} (g : Lg l) {s : Int} (hs : 0 ≤ s ∧ s < 8) : impl_OpenLeads_1.f l.f0 l.f1 l.f2 l.f3 l.f4 s legs vis leads at_ light = some (bad vis s l) := by
  obtain ⟨g0, g1, g2, _⟩ := g
  have w0 : wrap64 (l.f0 + l.f1) = l.f0 + l.f1 := wr (by omega) (by omega)
  have w1 : wrap64 (l.f0 + l.f1 - s) = l.f0 + l.f1 - s := wr (by omega) (by omega)
  unfold impl_OpenLeads_1.f bad
  rw [w0, w1]
  by_cases c0 : l.f0 = s
  · have c1 : ¬ l.f1 = s := fun h => g2 (c0.trans h.symm)
    have e : l.f0 + l.f1 - s = l.f1 := by omega
    rw [if_pos c0, e, if_pos (by omega), if_pos (by omega), decide_eq_true c0, dec_false c1]; simp
  · rw [if_neg c0]
    by_cases c1 : l.f1 = s
    · have e : l.f0 + l.f1 - s = l.f0 := by omega
      rw [if_pos c1, e, if_pos (by omega), if_pos (by omega), decide_eq_true c1, dec_false c0]; simp
    · rw [if_neg c1, dec_false c0, dec_false c1]; rfl
theorem find_l0 (hlen : (legs.length : Int) ≤ 1000000000000) {p : S29 → Option Bool} {b : S29 → Bool} (hp : ∀ l ∈ legs, p l = some (b l)) : ∀ (L M : List S29) (i : Int), i = M.length → M ++ L = legs →
    ∃ r, Ev (fun k => impl_Leg_102.l0 k legs p (legs.length : Int) i) r ∧ decide (r ≥ 0) = L.any b := by
  intro L
  induction L with
  | nil =>
    intro M i hi e
    have len := congrArg List.length e
    simp at len
    exact ⟨-1, Ev.step (fun k => impl_Leg_102.l0.eq_2 _ _ _ _ k) (Ev.neg (by omega) (Ev.now _)), by simp⟩
  | cons l L ih =>
    intro M i hi e
    have len := congrArg List.length e
    simp at len
    have e1 : rd_T29 legs i = l := by rw [← e]; exact rd29_mid M L l i hi
    have w : wrap64 (i + 1) = i + 1 := wr (by omega) (by omega)
    have hl := hp l (by rw [← e]; simp)
    by_cases c : b l = true
    · refine ⟨i, Ev.step (fun k => impl_Leg_102.l0.eq_2 _ _ _ _ k) (Ev.pos (by omega) (Ev.pos (by omega) (Ev.pos (by omega) ?_))), ?_⟩
      · rw [e1]; exact Ev.bindS hl (Ev.pos c (Ev.now _))
      · rw [List.any_cons, c, Bool.true_or]; exact decide_eq_true (by omega)
    · obtain ⟨r, hr, hd⟩ := ih (M ++ [l]) (i + 1) (by simp; omega) (by rw [← e]; simp)
      refine ⟨r, Ev.step (fun k => impl_Leg_102.l0.eq_2 _ _ _ _ k) (Ev.pos (by omega) (Ev.pos (by omega) (Ev.pos (by omega) ?_))), ?_⟩
      · rw [e1, w]; exact Ev.bindS hl (Ev.neg c hr)
      · rw [List.any_cons, Bool.eq_false_iff.mpr c, Bool.false_or]; exact hd
theorem has_any (hlen : (legs.length : Int) ≤ 1000000000000) {p : S29 → Option Bool} {b : S29 → Bool} (hp : ∀ l ∈ legs, p l = some (b l)) : Ev (fun k => impl_Leg_73.f k legs p) (legs.any b) := by
  obtain ⟨r, hr, hd⟩ := find_l0 hlen hp legs [] 0 rfl rfl
  exact Ev.bind (show Ev (fun k => impl_Leg_102.f k legs p) r from hr) (Ev.to (Ev.now _) hd)
theorem ilead_l0 (hv : vis.length = 8) (hd : leads.length = 8) (hlen : (legs.length : Int) ≤ 1000000000000) (hg : ∀ l ∈ legs, Lg l) : ∀ (d : Nat) (s : Int) (out : List Int), 0 ≤ s → s + d = 8 → (out.length : Int) ≤ s →
    Ev (fun k => impl_OpenLeads.l0 k out leads (leads.length : Int) s legs vis leads at_ light) (out ++ tl legs vis leads s d, true) := by
  intro d
  induction d with
  | zero => intro s out h0 h8 ho; exact Ev.step (fun k => impl_OpenLeads.l0.eq_2 _ _ _ _ _ _ _ _ _ k) (Ev.neg (by omega) (Ev.to (Ev.now _) (by simp [tl])))
  | succ d ih =>
    intro s out h0 h8 ho
    have w : wrap64 (s + 1) = s + 1 := wr (by omega) (by omega)
    have an := has_any hlen (p := fun x_ : S29 => impl_OpenLeads_1.f x_.f0 x_.f1 x_.f2 x_.f3 x_.f4 s legs vis leads at_ light) (b := bad vis s) (fun l hl => lead_clo hv (hg l hl) ⟨h0, by omega⟩)
    refine Ev.step (fun k => impl_OpenLeads.l0.eq_2 _ _ _ _ _ _ _ _ _ k) (Ev.pos (by omega) (Ev.pos h0 (Ev.pos (by omega) (Ev.bind an ?_))))
    rw [w]
    have y := ih (s + 1) (out ++ [s]) (by omega) (by omega) (by rw [List.length_append]; simp; omega)
    have n := ih (s + 1) out (by omega) (by omega) (by omega)
    by_cases c0 : rdOf false leads s = true
    · refine Ev.pos c0 ?_
      by_cases c1 : legs.any (bad vis s) = true
      · refine Ev.pos c1 (Ev.to n ?_)
        simp [tl, qual, c1]
      · refine Ev.neg c1 (Ev.pos (by omega) (Ev.to y ?_))
        simp [tl, qual, c0, Bool.eq_false_iff.mpr c1]
    · refine Ev.neg c0 (Ev.to n ?_)
      simp [tl, qual, Bool.eq_false_iff.mpr c0]
theorem tl_len : ∀ (d : Nat) (s : Int), (tl legs vis leads s d).length ≤ d
  | 0, _ => Nat.le_refl _
  | d + 1, s => by
    have := tl_len d (s + 1)
    simp only [tl, List.length_append]
    split <;> simp <;> omega
theorem OpenLeads_both (hlen : (legs.length : Int) ≤ 1000000000000) : ∃ y b, Ev (fun k => spec_OpenLeads.f k legs vis leads at_ light) (y, b) ∧ Ev (fun k => impl_OpenLeads.f k legs vis leads at_ light) (y, b) ∧ y.length ≤ 8 := by
  obtain ⟨b, hs, hi, hx⟩ := good_both legs vis leads at_ light hlen
  by_cases c : b = true
  · obtain ⟨F, x⟩ := hx c
    obtain ⟨hg, _⟩ := legsB_Lg x.hlegs
    exact ⟨[] ++ tl legs vis leads 0 8, true, Ev.someb (Ev.bind hs (Ev.pos c (lead_l0 x.hvis x.hleads hlen hg 8 0 [] (Int.le_refl _) rfl (Int.le_refl _)))), Ev.bind hi (Ev.pos c (ilead_l0 x.hvis x.hleads hlen hg 8 0 [] (Int.le_refl _) rfl (Int.le_refl _))), by rw [List.nil_append]; exact tl_len 8 0⟩
  · exact ⟨[], false, Ev.someb (Ev.bind hs (Ev.neg c (Ev.now _))), Ev.bind hi (Ev.neg c (Ev.now _)), by simp⟩
end
theorem FnExactOpenLeads (legs : List S60) (vis leads : List Bool) (at_ light : Int) (h0 : (legs.length : Int) ≤ 9223372036854775807) (h1 : (vis.length : Int) ≤ 9223372036854775807) (h2 : (leads.length : Int) ≤ 9223372036854775807) :
    ∃ k, laws_FnExactOpenLeads.f k legs vis leads at_ light = some true := by
  obtain ⟨z, hz, hs⟩ := szX legs vis leads at_ light h0 h1 h2
  have key : Ev (fun k => laws_FnExactOpenLeads.f k legs vis leads at_ light) true := by
    unfold laws_FnExactOpenLeads.f
    refine Ev.bindS hz ?_
    by_cases c : z < 0
    · exact Ev.pos c (Ev.now _)
    obtain ⟨n0, n1, n2⟩ := hs c
    have m0 : ((legs.map cv29).length : Int) ≤ 1000000000000 := by rw [List.length_map]; omega
    obtain ⟨y, b, hspec, himpl, hy⟩ := OpenLeads_both (legs := legs.map cv29) (vis := vis) (leads := leads) (at_ := at_) (light := light) m0
    obtain ⟨rm, em, hm⟩ := mkX (legs.map cv29) vis leads at_ light m0 (by omega) (by omega)
    have tx := toX legs vis leads at_ light (by omega) (by omega) (by omega)
    have ex := eqX (legs.map cv29) vis leads at_ light m0 (by omega) (by omega)
    have ey := eqI y (by omega)
    have my := mark_ok y 1 (by omega) (by omega) (by omega)
    have hy1 := held_ok y.length 1 (by omega) (by omega) (by omega)
    refine Ev.neg c (Ev.bind tx (Ev.bind hspec (Ev.bind tx (Ev.bind himpl (Ev.bind ey (Ev.pos rfl ?_))))))
    refine Ev.step (fun k => laws_FnExactOpenLeads.j0.eq_2 _ _ _ _ _ _ _ _ _ _ _ _ _ _ _ k) (Ev.neg (by simp) (Ev.bind tx (Ev.bind ex (Ev.pos rfl (Ev.bind em (Ev.neg (by omega) (Ev.bind ey (Ev.pos rfl ?_))))))))
    refine Ev.step (fun k => laws_FnExactOpenLeads.j1.eq_2 _ _ _ _ _ _ _ _ _ k) (Ev.neg (by simp) (Ev.bind my (Ev.bind hy1 (Ev.neg (by omega) (Ev.pos rfl (Ev.bind tx (Ev.bind himpl (Ev.bind ey (Ev.pos rfl ?_)))))))))
    exact Ev.step (fun k => laws_FnExactOpenLeads.j2.eq_2 _ _ _ k) (Ev.neg (by simp) (Ev.bind hy1 (Ev.neg (by omega) (Ev.pos rfl (Ev.now _)))))
  exact key.rounds
end Go.Proofs.Ytknphliohoklfaa.Pu
namespace Go.Proofs.Ytknphliohoklfaa.Opens
open Go.ChangeShapes Go.WideShapes Go.Deep Go.Proofs.YtknphliohoklfaaW.PrintWords
set_option linter.unusedVariables false
section
variable {H : Type} {enc : TypeId × Value → H} {P : Program} {w : World} {α β : Type}
def Opn (enc : TypeId × Value → H) (P : Program) (w : World) (t : TypeId) (d : Kd α) (ok : α → Prop) : Prop :=
  ∀ fuel cs x, DataW.trod enc P w 0 (fun _ => true) true fuel t cs = some x → ∃ y, d.K w y cs ∧ ok y
theorem op_int {t : TypeId} {k : IntKind} (h : P.underlying t = some (.int k)) : Opn enc P w t (Kd.int k) (fun n => (Lit.int k n).wf = true) := by
  intro fuel cs x hx
  obtain ⟨n, rfl, _, hw⟩ := DataW.trod_int h hx
  exact ⟨n, rfl, hw⟩
theorem op_bool {t : TypeId} (h : P.underlying t = some .bool) : Opn enc P w t Kd.bool (fun _ => True) := by
  intro fuel cs x hx
  obtain ⟨n, rfl, _⟩ := DataW.trod_bool h hx
  exact ⟨n, rfl, trivial⟩
theorem op_string {t : TypeId} (h : P.underlying t = some .string) : Opn enc P w t Kd.string (fun s => s.size ≤ maxLen) := by
  intro fuel cs x hx
  obtain ⟨n, rfl, _, hw⟩ := DataW.trod_string h hx
  exact ⟨n, rfl, hw⟩
theorem op_iso {t : TypeId} {d : Kd α} {ok : α → Prop} (h : Opn enc P w t d ok) (f : β → α) (g : α → β) (fg : ∀ x, f (g x) = x) : Opn enc P w t (Kd.iso d f) (fun y => ok (f y)) := by
  intro fuel cs x hx
  obtain ⟨y, hk, ho⟩ := h fuel cs x hx
  exact ⟨g y, by show d.K w (f (g y)) cs; rw [fg]; exact hk, by show ok (f (g y)); rw [fg]; exact ho⟩
theorem op_imp {t : TypeId} {d : Kd α} {ok ok' : α → Prop} (h : Opn enc P w t d ok) (f : ∀ y, ok y → ok' y) : Opn enc P w t d ok' := by
  intro fuel cs x hx
  obtain ⟨y, hk, ho⟩ := h fuel cs x hx
  exact ⟨y, hk, f y ho⟩
def OpnF (enc : TypeId × Value → H) (P : Program) (w : World) (fs : List Field) (off : Nat) (d : Kd α) (ok : α → Prop) : Prop :=
  ∀ (n : Nat) (cs : List Value), cs.length = d.sz → (∀ f ∈ fs, ∃ y, DataW.trod enc P w 0 (fun _ => true) true n f.type ((cs.drop (f.offset - off)).take (P.cellsOf f.type)) = some y) →
    (∀ f ∈ fs, off ≤ f.offset) → ∃ y, d.K w y cs ∧ ok y
theorem opf_one {f : Field} {off : Nat} {d : Kd α} {ok : α → Prop} (h : Opn enc P w f.type d ok) (ho : f.offset = off) (hz : P.cellsOf f.type = d.sz) : OpnF enc P w [f] off d ok := by
  intro n cs hl hf _
  obtain ⟨y, hy⟩ := hf f List.mem_cons_self
  rw [ho, Nat.sub_self, List.drop_zero, hz, ← hl, List.take_length] at hy
  exact h _ _ _ hy
theorem opf_cons {f : Field} {fs : List Field} {off : Nat} {a : Kd α} {b : Kd β} {oka : α → Prop} {okb : β → Prop} (h : Opn enc P w f.type a oka) (ho : f.offset = off) (hz : P.cellsOf f.type = a.sz) (r : OpnF enc P w fs (off + a.sz) b okb)
    (hfs : ∀ g ∈ fs, off + a.sz ≤ g.offset) : OpnF enc P w (f :: fs) off (Kd.pair a b) (fun y => oka y.1 ∧ okb y.2) := by
  intro n cs hl hf hoff
  have hl' : cs.length = a.sz + b.sz := hl
  obtain ⟨y, hy⟩ := hf f List.mem_cons_self
  rw [ho, Nat.sub_self, List.drop_zero, hz] at hy
  obtain ⟨y0, k0, o0⟩ := h _ _ _ hy
  obtain ⟨y1, k1, o1⟩ := r n (cs.drop a.sz) (by rw [List.length_drop]; omega) (fun g hg => by
    obtain ⟨z, hz⟩ := hf g (List.mem_cons_of_mem _ hg)
    have := hfs g hg
    refine ⟨z, ?_⟩
    rw [List.drop_drop, show a.sz + (g.offset - (off + a.sz)) = g.offset - off from by omega]
    exact hz) hfs
  exact ⟨(y0, y1), ⟨cs.take a.sz, cs.drop a.sz, (List.take_append_drop _ _).symm, k0, k1⟩, o0, o1⟩
theorem op_struct {t : TypeId} {fs : Array Field} {d : Kd α} {ok : α → Prop} (hs : P.underlying t = some (.struct fs)) (hz : P.cellsOf t = d.sz) (h : OpnF enc P w fs.toList 0 d ok) : Opn enc P w t d ok := by
  intro fuel cs x hx
  obtain ⟨xs, n, _, _, hlen, hxl, hf⟩ := DataW.trod_struct hs hx
  refine h n cs (by rw [hlen, hz]) (fun f hf' => ?_) (fun _ _ => Nat.zero_le _)
  obtain ⟨i, hi, rfl⟩ := List.getElem_of_mem hf'
  have hi' : i < fs.size := by simpa using hi
  have := hf i fs[i] (Array.getElem?_eq_getElem hi')
  rw [Nat.sub_zero]
  exact ⟨xs[i]'(by omega), by rw [List.getElem?_eq_getElem (by omega)] at this; simpa using this⟩
theorem max_le : maxLen ≤ 9223372036854775807 := by decide
theorem op_slice {t e : TypeId} {d : Kd α} {ok : α → Prop} (hs : P.underlying t = some (.slice e)) (hz : P.cellsOf e = d.sz) (h : Opn enc P w e d ok) : Opn enc P w t (Kd.slice e d) (fun ys => ys.length ≤ maxLen ∧ ∀ y ∈ ys, ok y) := by
  intro fuel cs x hx
  rcases open_slice hs hx with ⟨rfl, _⟩ | ⟨a, len, cap, m, n, D, Pl, rfl, _, hl, hm, hmm, _, hi⟩
  · exact ⟨[], ⟨none, 0, rfl, Nat.le_refl _, rfl, by simp, fun h => absurd h (by simp)⟩, Nat.zero_le _, fun y hy => by cases hy⟩
  · have hm' : m = cap := by simpa using hmm
    have key : ∀ i : Nat, i < len → ∃ y, ∃ c, c.length = d.sz ∧ d.K w y c ∧ ok y ∧ ∀ j u, c[j]? = some u → w.cell? (a.add (i * d.sz + j)) = some u := by
      intro i hil
      obtain ⟨c, hc, ht⟩ := hi i (by omega)
      obtain ⟨_, hcl, hat⟩ := World.cells?_some hc
      obtain ⟨y, hk, ho⟩ := h _ _ _ ht
      rw [hz] at hcl hat
      refine ⟨y, c, hcl, hk, ho, fun j u hu => ?_⟩
      have hj : j < d.sz := by rw [← hcl]; exact (List.getElem?_eq_some_iff.1 hu).1
      rw [← Go.Deep.add_add, hat j hj, hu]
    have mk : ∀ len : Nat, (∀ i : Nat, i < len → ∃ y, ∃ c, c.length = d.sz ∧ d.K w y c ∧ ok y ∧ ∀ j u, c[j]? = some u → w.cell? (a.add (i * d.sz + j)) = some u) → ∃ ys : List α, ys.length = len ∧ ∀ j y, ys[j]? = some y → ∃ c, c.length = d.sz ∧ d.K w y c ∧ ok y ∧ ∀ i u, c[i]? = some u → w.cell? (a.add (j * d.sz + i)) = some u := by
      intro len key
      induction len with
      | zero => exact ⟨[], rfl, fun j y hj => by simp at hj⟩
      | succ len ih =>
        obtain ⟨ys, hl, hy⟩ := ih (fun i hi => key i (by omega))
        obtain ⟨y, c, h1, h2, h3, h4⟩ := key len (by omega)
        refine ⟨ys ++ [y], by simp [hl], fun j z hj => ?_⟩
        by_cases hjl : j < len
        · rw [List.getElem?_append_left (by omega)] at hj
          exact hy j z hj
        · rw [List.getElem?_append_right (by omega)] at hj
          have : j = len := by
            have := (List.getElem?_eq_some_iff.1 hj).1
            simp at this
            omega
          subst this
          rw [hl, Nat.sub_self] at hj
          obtain rfl : y = z := by simpa using hj
          exact ⟨c, h1, h2, h3, h4⟩
    obtain ⟨ys, hlen, hys⟩ := mk len key
    refine ⟨ys, ⟨some a, cap, by rw [hlen], by omega, rfl, ?_, fun _ => ⟨a, rfl, fun j y hj => ?_⟩⟩, by omega, fun y hy => ?_⟩
    · have := max_le
      omega
    · obtain ⟨c, h1, h2, _, h4⟩ := hys j y hj
      exact ⟨c, h1, h2, h4⟩
    · obtain ⟨j, hj, rfl⟩ := List.getElem_of_mem hy
      obtain ⟨_, _, _, h3, _⟩ := hys j _ (List.getElem?_eq_getElem hj)
      exact h3
theorem sized_row {t e : TypeId} {a : Option Addr} {len cap : Nat} {d : DataW H} {ps : List MemPlace} {ts : List TypeId} {ds : List (DataW H)} {j : Nat}
    (hsz : (DataW.weightsEach P ts ds).all (· ≤ reachBytes) = true) (ht : ts[j]? = some t) (hd : ds[j]? = some d) (hu : P.underlying t = some (.slice e)) {B : Nat} (hB : P.bytesOf e = B)
    (h : DataW.Trod enc P w 0 (fun _ => true) true t (.slice a len cap) d ps) : len * B ≤ 140737488351232 := by
  obtain ⟨fuel, hf⟩ := h
  rcases DataW.trod_slice hu hf with ⟨hcs, _⟩ | ⟨x, l, c, elems, rest, n, _, hcs, hx, _, _, _, hl, _⟩
  · simp [Value.cells] at hcs
    obtain ⟨rfl, rfl, rfl⟩ := hcs
    simp
  · simp [Value.cells] at hcs
    obtain ⟨rfl, rfl, rfl⟩ := hcs
    obtain ⟨hx, _⟩ := Prod.mk.inj hx
    subst hx
    have z := sized_slice hsz ht hd hu
    rw [hB] at z
    have h1 : len ≤ (elems.map (·.1)).length + (rest.map (·.1)).length := by simp; omega
    exact Nat.le_trans (Nat.mul_le_mul_right _ h1) z
end
end Go.Proofs.Ytknphliohoklfaa.Opens
namespace Go.Proofs.Ytknphliohoklfaa.OpX
open Go.ChangeShapes Go.WideShapes Go.RowKit Opens
open Go.Proofs.YtknphliohoklfaaW.PrintWords
variable {H : Type} {enc : TypeId × Value → H} {w : World}
theorem op60 : Opn enc Try.prog w 60 P.k60 (fun _ => True) :=
  op_imp (op_iso (op_struct Try.underlying60 (by kernel_rfl) (opf_cons (op_int Try.underlying3) rfl (by kernel_rfl) (opf_cons (op_int Try.underlying3) rfl (by kernel_rfl) (opf_cons (op_int Try.underlying3) rfl (by kernel_rfl) (opf_cons (op_int Try.underlying3) rfl (by kernel_rfl) (opf_one (op_int Try.underlying3) rfl (by kernel_rfl)) (by decide)) (by decide)) (by decide)) (by decide)))
    (fun x : P.S60 => (x.f0, x.f1, x.f2, x.f3, x.f4)) (fun y => ⟨y.1, y.2.1, y.2.2.1, y.2.2.2.1, y.2.2.2.2⟩) (fun _ => rfl)) (fun _ _ => trivial)
theorem op48 : Opn enc Try.prog w 48 (Kd.slice 60 P.k60) (fun _ => True) := op_imp (op_slice Try.underlying48 (by kernel_rfl) op60) (fun _ _ => trivial)
theorem op25 : Opn enc Try.prog w 25 (Kd.slice 4 Kd.bool) (fun _ => True) := op_imp (op_slice Try.underlying25 (by kernel_rfl) (op_bool Try.underlying4)) (fun _ _ => trivial)
theorem op50 : Opn enc Try.prog w 50 (Kd.pair (Kd.slice 60 P.k60) (Kd.pair (Kd.slice 4 Kd.bool) (Kd.pair (Kd.slice 4 Kd.bool) (Kd.pair (Kd.int .i64) (Kd.int .i64))))) (fun _ => True) :=
  op_imp (op_struct Try.underlying50 (by kernel_rfl) (opf_cons op48 rfl (by kernel_rfl) (opf_cons op25 rfl (by kernel_rfl) (opf_cons op25 rfl (by kernel_rfl) (opf_cons (op_int Try.underlying3) rfl (by kernel_rfl) (opf_one (op_int Try.underlying3) rfl (by kernel_rfl)) (by decide)) (by decide)) (by decide)) (by decide))) (fun _ _ => trivial)
theorem open50 {cs : Array Value} {d : DataW H} {ps : List MemPlace} (h : DataW.Trod enc Try.prog w 0 (fun _ => true) true 50 (.agg cs) d ps) : ∃ (A0 A1 A2 : Option Addr) (c0 c1 c2 : Nat) (l0 : List P.S60) (l1 l2 : List Bool) (i3 i4 : Int),
    cs = #[.slice A0 l0.length c0, .slice A1 l1.length c1, .slice A2 l2.length c2, .int .i64 i3, .int .i64 i4] ∧ (l0.length ≤ c0 ∧ Kd.C P.k60 w A0 l0.length l0) ∧ (l1.length ≤ c1 ∧ Kd.C Kd.bool w A1 l1.length l1) ∧ (l2.length ≤ c2 ∧ Kd.C Kd.bool w A2 l2.length l2) := by
  obtain ⟨fuel, hf⟩ := h
  obtain ⟨⟨l0, l1, l2, i3, i4⟩, ⟨_, _, e, ⟨A0, c0, rfl, hc0, C0⟩, _, _, rfl, ⟨A1, c1, rfl, hc1, C1⟩, _, _, rfl, ⟨A2, c2, rfl, hc2, C2⟩, _, _, rfl, rfl, rfl⟩, _⟩ := op50 fuel _ _ hf
  exact ⟨A0, A1, A2, c0, c1, c2, l0, l1, l2, i3, i4, by cases cs; simpa [Value.cells] using e, ⟨hc0, C0⟩, ⟨hc1, C1⟩, ⟨hc2, C2⟩⟩
end Go.Proofs.Ytknphliohoklfaa.OpX
