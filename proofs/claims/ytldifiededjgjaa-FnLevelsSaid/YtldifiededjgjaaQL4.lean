/- For every list of bytes the Go function laws.FnLevels returns true and leaves its argument as it was; no condition beyond the row's own. -/
import Derived.Test.YtldifiededjgjaaQL3
namespace Go.Proofs.Ytldifiededjgjaa.P
open Go.RowKit Go.Proofs.YtldifiededjgjaaW.PrintWords Go.Proofs.YtldifiededjgjaaW.PrintLast Go.Proofs.YtldifiededjgjaaW.PrintMore
attribute [local go_sem] max2_int min2_int max_two min_two max_three min_three max_four min_four
set_option linter.unusedVariables false
set_option linter.unusedSimpArgs false
attribute [local go_sem high] eqA30
mutual
def laws_FnLevels.j0 : Nat → List (S30) → Int → Int → Bool → Bool → Option (Bool)
  | 0, _, _, _, _, _ => none
  | k + 1, x3, x5, x6, x7, x61 => if x61 = true then (some false) else ((impl_HighestReading.f k x3).bind fun bt297 => ((spec_HighestReading.f k x3).bind fun bt301 => (if (!(bt297.1 == bt301.1) || (!(bt297.2.1 == bt301.2.1))) = true then (laws_FnLevels.j1 k x3 x5 x6 x7 bt297.2.2 true bt297.1 bt297.2.1) else (laws_FnLevels.j1 k x3 x5 x6 x7 bt297.2.2 (bt297.2.2 != bt301.2.2) bt297.1 bt297.2.1))))
def laws_FnLevels.j1 : Nat → List (S30) → Int → Int → Bool → Bool → Bool → Int → Int → Option (Bool)
  | 0, _, _, _, _, _, _, _, _ => none
  | k + 1, x3, x5, x6, x7, x12, x79, x301000, x301001 => if x79 = true then (some false) else (laws_FnLevels.l0 k x3 x5 x6 x7 x12 0 x301000 x301001)
def laws_FnLevels.l0 : Nat → List (S30) → Int → Int → Bool → Bool → Int → Int → Int → Option (Bool)
  | 0, _, _, _, _, _, _, _, _ => none
  | k + 1, x3, x5, x6, x7, x12, x15, x301000, x301001 => if x15 < (x3.length : Int) then (laws_FnLevels.j3 k x3 x5 x6 x7 x12 x15 x12 x301000 x301001) else (laws_FnLevels.j3 k x3 x5 x6 x7 x12 x15 false x301000 x301001)
def laws_FnLevels.j3 : Nat → List (S30) → Int → Int → Bool → Bool → Int → Bool → Int → Int → Option (Bool)
  | 0, _, _, _, _, _, _, _, _, _ => none
  | k + 1, x3, x5, x6, x7, x12, x15, x86, x301000, x301001 => if x86 = true then (if 0 ≤ x15 then (if x15 < (x3.length : Int) then ((impl_LevelIn.f k x3 ((rd_T30 x3 x15).f0)).bind fun bt306 => (if bt306.2.2 = true then (if bt306.1 = ((rd_T30 x3 x15).f1) then (if bt306.2.1 = 1 then (laws_FnLevels.j4 k x3 x5 x6 x7 x12 x15 (decide (bt306.1 > x301001)) x301000 x301001) else (laws_FnLevels.j4 k x3 x5 x6 x7 x12 x15 true x301000 x301001)) else (laws_FnLevels.j4 k x3 x5 x6 x7 x12 x15 true x301000 x301001)) else (laws_FnLevels.j4 k x3 x5 x6 x7 x12 x15 true x301000 x301001))) else (none)) else (none)) else (if x7 = true then (laws_FnLevels.j5 k x3 (decide (x5 > (wrap64 (x301001 * x6))))) else (laws_FnLevels.j5 k x3 false))
def laws_FnLevels.j4 : Nat → List (S30) → Int → Int → Bool → Bool → Int → Bool → Int → Int → Option (Bool)
  | 0, _, _, _, _, _, _, _, _, _ => none
  | k + 1, x3, x5, x6, x7, x12, x15, x120, x301000, x301001 => if x120 = true then (some false) else (laws_FnLevels.l0 k x3 x5 x6 x7 x12 (wrap64 (x15 + 1)) x301000 x301001)
def laws_FnLevels.j5 : Nat → List (S30) → Bool → Option (Bool)
  | 0, _, _ => none
  | k + 1, x3, x129 => if x129 = true then (some false) else ((impl_FastestRise.f k x3).bind fun bt310 => ((spec_FastestRise.f k x3).bind fun bt314 => (if bt310.1 = bt314.1 then (if bt310.2.1 = bt314.2.1 then (if bt310.2.2.1 = bt314.2.2.1 then (laws_FnLevels.j6 k x3 bt310.2.1 bt310.2.2.1 bt310.2.2.2 (bt310.2.2.2 != bt314.2.2.2)) else (laws_FnLevels.j6 k x3 bt310.2.1 bt310.2.2.1 bt310.2.2.2 true)) else (laws_FnLevels.j6 k x3 bt310.2.1 bt310.2.2.1 bt310.2.2.2 true)) else (laws_FnLevels.j6 k x3 bt310.2.1 bt310.2.2.1 bt310.2.2.2 true))))
def laws_FnLevels.j6 : Nat → List (S30) → Int → Int → Bool → Bool → Option (Bool)
  | 0, _, _, _, _, _ => none
  | k + 1, x3, x20, x21, x22, x161 => if x161 = true then (some false) else (laws_FnLevels.l1 k x3 x20 x21 x22 0)
def laws_FnLevels.l1 : Nat → List (S30) → Int → Int → Bool → Int → Option (Bool)
  | 0, _, _, _, _, _ => none
  | k + 1, x3, x20, x21, x22, x27 => if (wrap64 (x27 + 1)) < (x3.length : Int) then (laws_FnLevels.j8 k x3 x20 x21 x22 x27 x22) else (laws_FnLevels.j8 k x3 x20 x21 x22 x27 false)
def laws_FnLevels.j8 : Nat → List (S30) → Int → Int → Bool → Int → Bool → Option (Bool)
  | 0, _, _, _, _, _, _ => none
  | k + 1, x3, x20, x21, x22, x27, x169 => if x169 = true then (if 0 ≤ (wrap64 (x27 + 1)) then (if (wrap64 (x27 + 1)) < (x3.length : Int) then (if 0 ≤ x27 then (if x27 < (x3.length : Int) then (if (wrap64 ((wrap64 (((rd_T30 x3 (wrap64 (x27 + 1))).f1) - ((rd_T30 x3 x27).f1))) * x21)) > (wrap64 (x20 * (wrap64 (((rd_T30 x3 (wrap64 (x27 + 1))).f0) - ((rd_T30 x3 x27).f0))))) then (some false) else (laws_FnLevels.l1 k x3 x20 x21 x22 (wrap64 (x27 + 1)))) else (none)) else (none)) else (none)) else (none)) else ((impl_AreReadings.f k x3).bind fun t322 => ((spec_AreReadings.f k x3).bind fun t323 => (some (t322 == t323))))
end
def laws_FnLevels.f (k : Nat) (l0 : List Int) : Option (Bool) := (laws_rBig.f l0).bind fun t286 => (if t286 = true then (some true) else ((spec_DrawLevelIn.f k l0).bind fun bt287 => ((impl_LevelIn.f k bt287.1 bt287.2).bind fun bt291 => ((spec_LevelIn.f k bt287.1 bt287.2).bind fun bt294 => (if bt291.1 = bt294.1 then (if bt291.2.1 = bt294.2.1 then (laws_FnLevels.j0 k bt287.1 bt291.1 bt291.2.1 bt291.2.2 (bt291.2.2 != bt294.2.2)) else (laws_FnLevels.j0 k bt287.1 bt291.1 bt291.2.1 bt291.2.2 true)) else (laws_FnLevels.j0 k bt287.1 bt291.1 bt291.2.1 bt291.2.2 true))))))
theorem laws_FnLevels.mono_l : ∀ k, (∀ y0 y1 y2 y3 y4, LeO (laws_FnLevels.j0 k y0 y1 y2 y3 y4) (laws_FnLevels.j0 (k + 1) y0 y1 y2 y3 y4)) ∧ (∀ y0 y1 y2 y3 y4 y5 y6 y7, LeO (laws_FnLevels.j1 k y0 y1 y2 y3 y4 y5 y6 y7) (laws_FnLevels.j1 (k + 1) y0 y1 y2 y3 y4 y5 y6 y7)) ∧ (∀ y0 y1 y2 y3 y4 y5 y6 y7, LeO (laws_FnLevels.l0 k y0 y1 y2 y3 y4 y5 y6 y7) (laws_FnLevels.l0 (k + 1) y0 y1 y2 y3 y4 y5 y6 y7)) ∧ (∀ y0 y1 y2 y3 y4 y5 y6 y7 y8, LeO (laws_FnLevels.j3 k y0 y1 y2 y3 y4 y5 y6 y7 y8) (laws_FnLevels.j3 (k + 1) y0 y1 y2 y3 y4 y5 y6 y7 y8)) ∧ (∀ y0 y1 y2 y3 y4 y5 y6 y7 y8, LeO (laws_FnLevels.j4 k y0 y1 y2 y3 y4 y5 y6 y7 y8) (laws_FnLevels.j4 (k + 1) y0 y1 y2 y3 y4 y5 y6 y7 y8)) ∧ (∀ y0 y1, LeO (laws_FnLevels.j5 k y0 y1) (laws_FnLevels.j5 (k + 1) y0 y1)) ∧ (∀ y0 y1 y2 y3 y4, LeO (laws_FnLevels.j6 k y0 y1 y2 y3 y4) (laws_FnLevels.j6 (k + 1) y0 y1 y2 y3 y4)) ∧ (∀ y0 y1 y2 y3 y4, LeO (laws_FnLevels.l1 k y0 y1 y2 y3 y4) (laws_FnLevels.l1 (k + 1) y0 y1 y2 y3 y4)) ∧ (∀ y0 y1 y2 y3 y4 y5, LeO (laws_FnLevels.j8 k y0 y1 y2 y3 y4 y5) (laws_FnLevels.j8 (k + 1) y0 y1 y2 y3 y4 y5))
  | 0 => ⟨fun _ _ _ _ _ r h => by simp [laws_FnLevels.j0] at h, fun _ _ _ _ _ _ _ _ r h => by simp [laws_FnLevels.j1] at h, fun _ _ _ _ _ _ _ _ r h => by simp [laws_FnLevels.l0] at h, fun _ _ _ _ _ _ _ _ _ r h => by simp [laws_FnLevels.j3] at h, fun _ _ _ _ _ _ _ _ _ r h => by simp [laws_FnLevels.j4] at h, fun _ _ r h => by simp [laws_FnLevels.j5] at h, fun _ _ _ _ _ r h => by simp [laws_FnLevels.j6] at h, fun _ _ _ _ _ r h => by simp [laws_FnLevels.l1] at h, fun _ _ _ _ _ _ r h => by simp [laws_FnLevels.j8] at h⟩
  | k + 1 => by
    obtain ⟨ih0, ih1, ih2, ih3, ih4, ih5, ih6, ih7, ih8⟩ := laws_FnLevels.mono_l k
    refine ⟨?_, ?_, ?_, ?_, ?_, ?_, ?_, ?_, ?_⟩
    · intro y0 y1 y2 y3 y4
      unfold laws_FnLevels.j0
      repeat' first
      | (with_reducible exact ih0 _ _ _ _ _)
      | (with_reducible exact ih1 _ _ _ _ _ _ _ _)
      | (with_reducible exact ih2 _ _ _ _ _ _ _ _)
      | (with_reducible exact ih3 _ _ _ _ _ _ _ _ _)
      | (with_reducible exact ih4 _ _ _ _ _ _ _ _ _)
      | (with_reducible exact ih5 _ _)
      | (with_reducible exact ih6 _ _ _ _ _)
      | (with_reducible exact ih7 _ _ _ _ _)
      | (with_reducible exact ih8 _ _ _ _ _ _)
      | (with_reducible exact impl_AreReadings.mono _ _)
      | (with_reducible exact impl_FastestRise.mono _ _)
      | (with_reducible exact impl_HighestReading.mono _ _)
      | (with_reducible exact impl_LevelIn.mono _ _ _)
      | (with_reducible exact spec_AreReadings.mono _ _)
      | (with_reducible exact spec_DrawLevelIn.mono _ _)
      | (with_reducible exact spec_FastestRise.mono _ _)
      | (with_reducible exact spec_HighestReading.mono _ _)
      | (with_reducible exact spec_LevelIn.mono _ _ _)
      | (with_reducible exact LeO.refl _)
      | (with_reducible exact LeO.none _)
      | (with_reducible refine LeO.ite ?_ ?_)
      | (with_reducible refine LeO.bind ?_ (fun _ => ?_))
      | exact ih0 _ _ _ _ _
      | exact ih1 _ _ _ _ _ _ _ _
      | exact ih2 _ _ _ _ _ _ _ _
      | exact ih3 _ _ _ _ _ _ _ _ _
      | exact ih4 _ _ _ _ _ _ _ _ _
      | exact ih5 _ _
      | exact ih6 _ _ _ _ _
      | exact ih7 _ _ _ _ _
      | exact ih8 _ _ _ _ _ _
      | exact impl_AreReadings.mono _ _
      | exact impl_FastestRise.mono _ _
      | exact impl_HighestReading.mono _ _
      | exact impl_LevelIn.mono _ _ _
      | exact spec_AreReadings.mono _ _
      | exact spec_DrawLevelIn.mono _ _
      | exact spec_FastestRise.mono _ _
      | exact spec_HighestReading.mono _ _
      | exact spec_LevelIn.mono _ _ _
      | exact LeO.none _
      | refine LeO.ite ?_ ?_
      | refine LeO.bind ?_ (fun _ => ?_)
    · intro y0 y1 y2 y3 y4 y5 y6 y7
      unfold laws_FnLevels.j1
      repeat' first
      | (with_reducible exact ih0 _ _ _ _ _)
      | (with_reducible exact ih1 _ _ _ _ _ _ _ _)
      | (with_reducible exact ih2 _ _ _ _ _ _ _ _)
      | (with_reducible exact ih3 _ _ _ _ _ _ _ _ _)
      | (with_reducible exact ih4 _ _ _ _ _ _ _ _ _)
      | (with_reducible exact ih5 _ _)
      | (with_reducible exact ih6 _ _ _ _ _)
      | (with_reducible exact ih7 _ _ _ _ _)
      | (with_reducible exact ih8 _ _ _ _ _ _)
      | (with_reducible exact impl_AreReadings.mono _ _)
      | (with_reducible exact impl_FastestRise.mono _ _)
      | (with_reducible exact impl_HighestReading.mono _ _)
      | (with_reducible exact impl_LevelIn.mono _ _ _)
      | (with_reducible exact spec_AreReadings.mono _ _)
      | (with_reducible exact spec_DrawLevelIn.mono _ _)
      | (with_reducible exact spec_FastestRise.mono _ _)
      | (with_reducible exact spec_HighestReading.mono _ _)
      | (with_reducible exact spec_LevelIn.mono _ _ _)
      | (with_reducible exact LeO.refl _)
      | (with_reducible exact LeO.none _)
      | (with_reducible refine LeO.ite ?_ ?_)
      | (with_reducible refine LeO.bind ?_ (fun _ => ?_))
      | exact ih0 _ _ _ _ _
      | exact ih1 _ _ _ _ _ _ _ _
      | exact ih2 _ _ _ _ _ _ _ _
      | exact ih3 _ _ _ _ _ _ _ _ _
      | exact ih4 _ _ _ _ _ _ _ _ _
      | exact ih5 _ _
      | exact ih6 _ _ _ _ _
      | exact ih7 _ _ _ _ _
      | exact ih8 _ _ _ _ _ _
      | exact impl_AreReadings.mono _ _
      | exact impl_FastestRise.mono _ _
      | exact impl_HighestReading.mono _ _
      | exact impl_LevelIn.mono _ _ _
      | exact spec_AreReadings.mono _ _
      | exact spec_DrawLevelIn.mono _ _
      | exact spec_FastestRise.mono _ _
      | exact spec_HighestReading.mono _ _
      | exact spec_LevelIn.mono _ _ _
      | exact LeO.none _
      | refine LeO.ite ?_ ?_
      | refine LeO.bind ?_ (fun _ => ?_)
    · intro y0 y1 y2 y3 y4 y5 y6 y7
      unfold laws_FnLevels.l0
      repeat' first
      | (with_reducible exact ih0 _ _ _ _ _)
      | (with_reducible exact ih1 _ _ _ _ _ _ _ _)
      | (with_reducible exact ih2 _ _ _ _ _ _ _ _)
      | (with_reducible exact ih3 _ _ _ _ _ _ _ _ _)
      | (with_reducible exact ih4 _ _ _ _ _ _ _ _ _)
      | (with_reducible exact ih5 _ _)
      | (with_reducible exact ih6 _ _ _ _ _)
      | (with_reducible exact ih7 _ _ _ _ _)
      | (with_reducible exact ih8 _ _ _ _ _ _)
      | (with_reducible exact impl_AreReadings.mono _ _)
      | (with_reducible exact impl_FastestRise.mono _ _)
      | (with_reducible exact impl_HighestReading.mono _ _)
      | (with_reducible exact impl_LevelIn.mono _ _ _)
      | (with_reducible exact spec_AreReadings.mono _ _)
      | (with_reducible exact spec_DrawLevelIn.mono _ _)
      | (with_reducible exact spec_FastestRise.mono _ _)
      | (with_reducible exact spec_HighestReading.mono _ _)
      | (with_reducible exact spec_LevelIn.mono _ _ _)
      | (with_reducible exact LeO.refl _)
      | (with_reducible exact LeO.none _)
      | (with_reducible refine LeO.ite ?_ ?_)
      | (with_reducible refine LeO.bind ?_ (fun _ => ?_))
      | exact ih0 _ _ _ _ _
      | exact ih1 _ _ _ _ _ _ _ _
      | exact ih2 _ _ _ _ _ _ _ _
      | exact ih3 _ _ _ _ _ _ _ _ _
      | exact ih4 _ _ _ _ _ _ _ _ _
      | exact ih5 _ _
      | exact ih6 _ _ _ _ _
      | exact ih7 _ _ _ _ _
      | exact ih8 _ _ _ _ _ _
      | exact impl_AreReadings.mono _ _
      | exact impl_FastestRise.mono _ _
      | exact impl_HighestReading.mono _ _
      | exact impl_LevelIn.mono _ _ _
      | exact spec_AreReadings.mono _ _
      | exact spec_DrawLevelIn.mono _ _
      | exact spec_FastestRise.mono _ _
      | exact spec_HighestReading.mono _ _
      | exact spec_LevelIn.mono _ _ _
      | exact LeO.none _
      | refine LeO.ite ?_ ?_
      | refine LeO.bind ?_ (fun _ => ?_)
    · intro y0 y1 y2 y3 y4 y5 y6 y7 y8
      unfold laws_FnLevels.j3
      repeat' first
      | (with_reducible exact ih0 _ _ _ _ _)
      | (with_reducible exact ih1 _ _ _ _ _ _ _ _)
      | (with_reducible exact ih2 _ _ _ _ _ _ _ _)
      | (with_reducible exact ih3 _ _ _ _ _ _ _ _ _)
      | (with_reducible exact ih4 _ _ _ _ _ _ _ _ _)
      | (with_reducible exact ih5 _ _)
      | (with_reducible exact ih6 _ _ _ _ _)
      | (with_reducible exact ih7 _ _ _ _ _)
      | (with_reducible exact ih8 _ _ _ _ _ _)
      | (with_reducible exact impl_AreReadings.mono _ _)
      | (with_reducible exact impl_FastestRise.mono _ _)
      | (with_reducible exact impl_HighestReading.mono _ _)
      | (with_reducible exact impl_LevelIn.mono _ _ _)
      | (with_reducible exact spec_AreReadings.mono _ _)
      | (with_reducible exact spec_DrawLevelIn.mono _ _)
      | (with_reducible exact spec_FastestRise.mono _ _)
      | (with_reducible exact spec_HighestReading.mono _ _)
      | (with_reducible exact spec_LevelIn.mono _ _ _)
      | (with_reducible exact LeO.refl _)
      | (with_reducible exact LeO.none _)
      | (with_reducible refine LeO.ite ?_ ?_)
      | (with_reducible refine LeO.bind ?_ (fun _ => ?_))
      | exact ih0 _ _ _ _ _
      | exact ih1 _ _ _ _ _ _ _ _
      | exact ih2 _ _ _ _ _ _ _ _
      | exact ih3 _ _ _ _ _ _ _ _ _
      | exact ih4 _ _ _ _ _ _ _ _ _
      | exact ih5 _ _
      | exact ih6 _ _ _ _ _
      | exact ih7 _ _ _ _ _
      | exact ih8 _ _ _ _ _ _
      | exact impl_AreReadings.mono _ _
      | exact impl_FastestRise.mono _ _
      | exact impl_HighestReading.mono _ _
      | exact impl_LevelIn.mono _ _ _
      | exact spec_AreReadings.mono _ _
      | exact spec_DrawLevelIn.mono _ _
      | exact spec_FastestRise.mono _ _
      | exact spec_HighestReading.mono _ _
      | exact spec_LevelIn.mono _ _ _
      | exact LeO.none _
      | refine LeO.ite ?_ ?_
      | refine LeO.bind ?_ (fun _ => ?_)
    · intro y0 y1 y2 y3 y4 y5 y6 y7 y8
      unfold laws_FnLevels.j4
      repeat' first
      | (with_reducible exact ih0 _ _ _ _ _)
      | (with_reducible exact ih1 _ _ _ _ _ _ _ _)
      | (with_reducible exact ih2 _ _ _ _ _ _ _ _)
      | (with_reducible exact ih3 _ _ _ _ _ _ _ _ _)
      | (with_reducible exact ih4 _ _ _ _ _ _ _ _ _)
      | (with_reducible exact ih5 _ _)
      | (with_reducible exact ih6 _ _ _ _ _)
      | (with_reducible exact ih7 _ _ _ _ _)
      | (with_reducible exact ih8 _ _ _ _ _ _)
      | (with_reducible exact impl_AreReadings.mono _ _)
      | (with_reducible exact impl_FastestRise.mono _ _)
      | (with_reducible exact impl_HighestReading.mono _ _)
      | (with_reducible exact impl_LevelIn.mono _ _ _)
      | (with_reducible exact spec_AreReadings.mono _ _)
      | (with_reducible exact spec_DrawLevelIn.mono _ _)
      | (with_reducible exact spec_FastestRise.mono _ _)
      | (with_reducible exact spec_HighestReading.mono _ _)
      | (with_reducible exact spec_LevelIn.mono _ _ _)
      | (with_reducible exact LeO.refl _)
      | (with_reducible exact LeO.none _)
      | (with_reducible refine LeO.ite ?_ ?_)
      | (with_reducible refine LeO.bind ?_ (fun _ => ?_))
      | exact ih0 _ _ _ _ _
      | exact ih1 _ _ _ _ _ _ _ _
      | exact ih2 _ _ _ _ _ _ _ _
      | exact ih3 _ _ _ _ _ _ _ _ _
      | exact ih4 _ _ _ _ _ _ _ _ _
      | exact ih5 _ _
      | exact ih6 _ _ _ _ _
      | exact ih7 _ _ _ _ _
      | exact ih8 _ _ _ _ _ _
      | exact impl_AreReadings.mono _ _
      | exact impl_FastestRise.mono _ _
      | exact impl_HighestReading.mono _ _
      | exact impl_LevelIn.mono _ _ _
      | exact spec_AreReadings.mono _ _
      | exact spec_DrawLevelIn.mono _ _
      | exact spec_FastestRise.mono _ _
      | exact spec_HighestReading.mono _ _
      | exact spec_LevelIn.mono _ _ _
      | exact LeO.none _
      | refine LeO.ite ?_ ?_
      | refine LeO.bind ?_ (fun _ => ?_)
    · intro y0 y1
      unfold laws_FnLevels.j5
      repeat' first
      | (with_reducible exact ih0 _ _ _ _ _)
      | (with_reducible exact ih1 _ _ _ _ _ _ _ _)
      | (with_reducible exact ih2 _ _ _ _ _ _ _ _)
      | (with_reducible exact ih3 _ _ _ _ _ _ _ _ _)
      | (with_reducible exact ih4 _ _ _ _ _ _ _ _ _)
      | (with_reducible exact ih5 _ _)
      | (with_reducible exact ih6 _ _ _ _ _)
      | (with_reducible exact ih7 _ _ _ _ _)
      | (with_reducible exact ih8 _ _ _ _ _ _)
      | (with_reducible exact impl_AreReadings.mono _ _)
      | (with_reducible exact impl_FastestRise.mono _ _)
      | (with_reducible exact impl_HighestReading.mono _ _)
      | (with_reducible exact impl_LevelIn.mono _ _ _)
      | (with_reducible exact spec_AreReadings.mono _ _)
      | (with_reducible exact spec_DrawLevelIn.mono _ _)
      | (with_reducible exact spec_FastestRise.mono _ _)
      | (with_reducible exact spec_HighestReading.mono _ _)
      | (with_reducible exact spec_LevelIn.mono _ _ _)
      | (with_reducible exact LeO.refl _)
      | (with_reducible exact LeO.none _)
      | (with_reducible refine LeO.ite ?_ ?_)
      | (with_reducible refine LeO.bind ?_ (fun _ => ?_))
      | exact ih0 _ _ _ _ _
      | exact ih1 _ _ _ _ _ _ _ _
      | exact ih2 _ _ _ _ _ _ _ _
      | exact ih3 _ _ _ _ _ _ _ _ _
      | exact ih4 _ _ _ _ _ _ _ _ _
      | exact ih5 _ _
      | exact ih6 _ _ _ _ _
      | exact ih7 _ _ _ _ _
      | exact ih8 _ _ _ _ _ _
      | exact impl_AreReadings.mono _ _
      | exact impl_FastestRise.mono _ _
      | exact impl_HighestReading.mono _ _
      | exact impl_LevelIn.mono _ _ _
      | exact spec_AreReadings.mono _ _
      | exact spec_DrawLevelIn.mono _ _
      | exact spec_FastestRise.mono _ _
      | exact spec_HighestReading.mono _ _
      | exact spec_LevelIn.mono _ _ _
      | exact LeO.none _
      | refine LeO.ite ?_ ?_
      | refine LeO.bind ?_ (fun _ => ?_)
    · intro y0 y1 y2 y3 y4
      unfold laws_FnLevels.j6
      repeat' first
      | (with_reducible exact ih0 _ _ _ _ _)
      | (with_reducible exact ih1 _ _ _ _ _ _ _ _)
      | (with_reducible exact ih2 _ _ _ _ _ _ _ _)
      | (with_reducible exact ih3 _ _ _ _ _ _ _ _ _)
      | (with_reducible exact ih4 _ _ _ _ _ _ _ _ _)
      | (with_reducible exact ih5 _ _)
      | (with_reducible exact ih6 _ _ _ _ _)
      | (with_reducible exact ih7 _ _ _ _ _)
      | (with_reducible exact ih8 _ _ _ _ _ _)
      | (with_reducible exact impl_AreReadings.mono _ _)
      | (with_reducible exact impl_FastestRise.mono _ _)
      | (with_reducible exact impl_HighestReading.mono _ _)
      | (with_reducible exact impl_LevelIn.mono _ _ _)
      | (with_reducible exact spec_AreReadings.mono _ _)
      | (with_reducible exact spec_DrawLevelIn.mono _ _)
      | (with_reducible exact spec_FastestRise.mono _ _)
      | (with_reducible exact spec_HighestReading.mono _ _)
      | (with_reducible exact spec_LevelIn.mono _ _ _)
      | (with_reducible exact LeO.refl _)
      | (with_reducible exact LeO.none _)
      | (with_reducible refine LeO.ite ?_ ?_)
      | (with_reducible refine LeO.bind ?_ (fun _ => ?_))
      | exact ih0 _ _ _ _ _
      | exact ih1 _ _ _ _ _ _ _ _
      | exact ih2 _ _ _ _ _ _ _ _
      | exact ih3 _ _ _ _ _ _ _ _ _
      | exact ih4 _ _ _ _ _ _ _ _ _
      | exact ih5 _ _
      | exact ih6 _ _ _ _ _
      | exact ih7 _ _ _ _ _
      | exact ih8 _ _ _ _ _ _
      | exact impl_AreReadings.mono _ _
      | exact impl_FastestRise.mono _ _
      | exact impl_HighestReading.mono _ _
      | exact impl_LevelIn.mono _ _ _
      | exact spec_AreReadings.mono _ _
      | exact spec_DrawLevelIn.mono _ _
      | exact spec_FastestRise.mono _ _
      | exact spec_HighestReading.mono _ _
      | exact spec_LevelIn.mono _ _ _
      | exact LeO.none _
      | refine LeO.ite ?_ ?_
      | refine LeO.bind ?_ (fun _ => ?_)
    · intro y0 y1 y2 y3 y4
      unfold laws_FnLevels.l1
      repeat' first
      | (with_reducible exact ih0 _ _ _ _ _)
      | (with_reducible exact ih1 _ _ _ _ _ _ _ _)
      | (with_reducible exact ih2 _ _ _ _ _ _ _ _)
      | (with_reducible exact ih3 _ _ _ _ _ _ _ _ _)
      | (with_reducible exact ih4 _ _ _ _ _ _ _ _ _)
      | (with_reducible exact ih5 _ _)
      | (with_reducible exact ih6 _ _ _ _ _)
      | (with_reducible exact ih7 _ _ _ _ _)
      | (with_reducible exact ih8 _ _ _ _ _ _)
      | (with_reducible exact impl_AreReadings.mono _ _)
      | (with_reducible exact impl_FastestRise.mono _ _)
      | (with_reducible exact impl_HighestReading.mono _ _)
      | (with_reducible exact impl_LevelIn.mono _ _ _)
      | (with_reducible exact spec_AreReadings.mono _ _)
      | (with_reducible exact spec_DrawLevelIn.mono _ _)
      | (with_reducible exact spec_FastestRise.mono _ _)
      | (with_reducible exact spec_HighestReading.mono _ _)
      | (with_reducible exact spec_LevelIn.mono _ _ _)
      | (with_reducible exact LeO.refl _)
      | (with_reducible exact LeO.none _)
      | (with_reducible refine LeO.ite ?_ ?_)
      | (with_reducible refine LeO.bind ?_ (fun _ => ?_))
      | exact ih0 _ _ _ _ _
      | exact ih1 _ _ _ _ _ _ _ _
      | exact ih2 _ _ _ _ _ _ _ _
      | exact ih3 _ _ _ _ _ _ _ _ _
      | exact ih4 _ _ _ _ _ _ _ _ _
      | exact ih5 _ _
      | exact ih6 _ _ _ _ _
      | exact ih7 _ _ _ _ _
      | exact ih8 _ _ _ _ _ _
      | exact impl_AreReadings.mono _ _
      | exact impl_FastestRise.mono _ _
      | exact impl_HighestReading.mono _ _
      | exact impl_LevelIn.mono _ _ _
      | exact spec_AreReadings.mono _ _
      | exact spec_DrawLevelIn.mono _ _
      | exact spec_FastestRise.mono _ _
      | exact spec_HighestReading.mono _ _
      | exact spec_LevelIn.mono _ _ _
      | exact LeO.none _
      | refine LeO.ite ?_ ?_
      | refine LeO.bind ?_ (fun _ => ?_)
    · intro y0 y1 y2 y3 y4 y5
      unfold laws_FnLevels.j8
      repeat' first
      | (with_reducible exact ih0 _ _ _ _ _)
      | (with_reducible exact ih1 _ _ _ _ _ _ _ _)
      | (with_reducible exact ih2 _ _ _ _ _ _ _ _)
      | (with_reducible exact ih3 _ _ _ _ _ _ _ _ _)
      | (with_reducible exact ih4 _ _ _ _ _ _ _ _ _)
      | (with_reducible exact ih5 _ _)
      | (with_reducible exact ih6 _ _ _ _ _)
      | (with_reducible exact ih7 _ _ _ _ _)
      | (with_reducible exact ih8 _ _ _ _ _ _)
      | (with_reducible exact impl_AreReadings.mono _ _)
      | (with_reducible exact impl_FastestRise.mono _ _)
      | (with_reducible exact impl_HighestReading.mono _ _)
      | (with_reducible exact impl_LevelIn.mono _ _ _)
      | (with_reducible exact spec_AreReadings.mono _ _)
      | (with_reducible exact spec_DrawLevelIn.mono _ _)
      | (with_reducible exact spec_FastestRise.mono _ _)
      | (with_reducible exact spec_HighestReading.mono _ _)
      | (with_reducible exact spec_LevelIn.mono _ _ _)
      | (with_reducible exact LeO.refl _)
      | (with_reducible exact LeO.none _)
      | (with_reducible refine LeO.ite ?_ ?_)
      | (with_reducible refine LeO.bind ?_ (fun _ => ?_))
      | exact ih0 _ _ _ _ _
      | exact ih1 _ _ _ _ _ _ _ _
      | exact ih2 _ _ _ _ _ _ _ _
      | exact ih3 _ _ _ _ _ _ _ _ _
      | exact ih4 _ _ _ _ _ _ _ _ _
      | exact ih5 _ _
      | exact ih6 _ _ _ _ _
      | exact ih7 _ _ _ _ _
      | exact ih8 _ _ _ _ _ _
      | exact impl_AreReadings.mono _ _
      | exact impl_FastestRise.mono _ _
      | exact impl_HighestReading.mono _ _
      | exact impl_LevelIn.mono _ _ _
      | exact spec_AreReadings.mono _ _
      | exact spec_DrawLevelIn.mono _ _
      | exact spec_FastestRise.mono _ _
      | exact spec_HighestReading.mono _ _
      | exact spec_LevelIn.mono _ _ _
      | exact LeO.none _
      | refine LeO.ite ?_ ?_
      | refine LeO.bind ?_ (fun _ => ?_)
theorem laws_FnLevels.mono : ∀ a0 k, LeO (laws_FnLevels.f k a0) (laws_FnLevels.f (k + 1) a0) := by
  intro a0 k
  obtain ⟨ih0, ih1, ih2, ih3, ih4, ih5, ih6, ih7, ih8⟩ := laws_FnLevels.mono_l k
  unfold laws_FnLevels.f
  repeat' first
      | (with_reducible exact ih0 _ _ _ _ _)
      | (with_reducible exact ih1 _ _ _ _ _ _ _ _)
      | (with_reducible exact ih2 _ _ _ _ _ _ _ _)
      | (with_reducible exact ih3 _ _ _ _ _ _ _ _ _)
      | (with_reducible exact ih4 _ _ _ _ _ _ _ _ _)
      | (with_reducible exact ih5 _ _)
      | (with_reducible exact ih6 _ _ _ _ _)
      | (with_reducible exact ih7 _ _ _ _ _)
      | (with_reducible exact ih8 _ _ _ _ _ _)
      | (with_reducible exact impl_AreReadings.mono _ _)
      | (with_reducible exact impl_FastestRise.mono _ _)
      | (with_reducible exact impl_HighestReading.mono _ _)
      | (with_reducible exact impl_LevelIn.mono _ _ _)
      | (with_reducible exact spec_AreReadings.mono _ _)
      | (with_reducible exact spec_DrawLevelIn.mono _ _)
      | (with_reducible exact spec_FastestRise.mono _ _)
      | (with_reducible exact spec_HighestReading.mono _ _)
      | (with_reducible exact spec_LevelIn.mono _ _ _)
      | (with_reducible exact LeO.refl _)
      | (with_reducible exact LeO.none _)
      | (with_reducible refine LeO.ite ?_ ?_)
      | (with_reducible refine LeO.bind ?_ (fun _ => ?_))
      | exact ih0 _ _ _ _ _
      | exact ih1 _ _ _ _ _ _ _ _
      | exact ih2 _ _ _ _ _ _ _ _
      | exact ih3 _ _ _ _ _ _ _ _ _
      | exact ih4 _ _ _ _ _ _ _ _ _
      | exact ih5 _ _
      | exact ih6 _ _ _ _ _
      | exact ih7 _ _ _ _ _
      | exact ih8 _ _ _ _ _ _
      | exact impl_AreReadings.mono _ _
      | exact impl_FastestRise.mono _ _
      | exact impl_HighestReading.mono _ _
      | exact impl_LevelIn.mono _ _ _
      | exact spec_AreReadings.mono _ _
      | exact spec_DrawLevelIn.mono _ _
      | exact spec_FastestRise.mono _ _
      | exact spec_HighestReading.mono _ _
      | exact spec_LevelIn.mono _ _ _
      | exact LeO.none _
      | refine LeO.ite ?_ ?_
      | refine LeO.bind ?_ (fun _ => ?_)
set_option maxHeartbeats 8000000 in
set_option maxRecDepth 100000 in
theorem laws_FnLevels.calls (k : Nat) (A0 : Option Addr) (c0 : Nat) (l0 : List Int) (r : Bool) (w : World) (hr0 : Kd.C (Kd.int .u8) w A0 l0.length l0) (hc0 : l0.length ≤ c0) (h : laws_FnLevels.f k l0 = some r) :
    Calls Try.prog 3 #[.slice A0 l0.length c0] w fun e w' => e = .returned (.bool r) ∧ Below w.heap.size w w' := by
  have hu30 := Try.underlying30
  have HR0 := Aside0.mk hr0
  have HC0 := Aside0.mk hc0
  clear hr0 hc0
  have HB := Aside0.mk (Below.refl w.heap.size w)
  have H : ((laws_rBig.f l0).bind fun t286 => (if t286 = true then (some true) else ((spec_DrawLevelIn.f k l0).bind fun bt287 => ((impl_LevelIn.f k bt287.1 bt287.2).bind fun bt291 => ((spec_LevelIn.f k bt287.1 bt287.2).bind fun bt294 => (if bt291.1 = bt294.1 then (if bt291.2.1 = bt294.2.1 then (laws_FnLevels.j0 k bt287.1 bt291.1 bt291.2.1 bt291.2.2 (bt291.2.2 != bt294.2.2)) else (laws_FnLevels.j0 k bt287.1 bt291.1 bt291.2.1 bt291.2.2 true)) else (laws_FnLevels.j0 k bt287.1 bt291.1 bt291.2.1 bt291.2.2 true))))))) = some r := h
  clear h
  replace H := Option.bind_eq_some_iff.mp H
  obtain ⟨t286, A20, H⟩ := H
  replace H : (if t286 = true then (some true) else ((spec_DrawLevelIn.f k l0).bind fun bt287 => ((impl_LevelIn.f k bt287.1 bt287.2).bind fun bt291 => ((spec_LevelIn.f k bt287.1 bt287.2).bind fun bt294 => (if bt291.1 = bt294.1 then (if bt291.2.1 = bt294.2.1 then (laws_FnLevels.j0 k bt287.1 bt291.1 bt291.2.1 bt291.2.2 (bt291.2.2 != bt294.2.2)) else (laws_FnLevels.j0 k bt287.1 bt291.1 bt291.2.1 bt291.2.2 true)) else (laws_FnLevels.j0 k bt287.1 bt291.1 bt291.2.1 bt291.2.2 true)))))) = some r := H
  have A2 := Aside0.mk A20
  clear A20
  by_cases c3 : t286 = true
  · subst c3
    have H1 : (some true) = some r := by rw [if_pos rfl] at H; exact H
    clear H
    have H := H1
    clear H1
    obtain rfl := Option.some.inj H
    go_enter Try.func3, Try.ntmps3
    go_wp2_with (first | (go_at_call 7; (with_reducible refine (laws_rBig.calls _ _ l0 true _ ?side1 ?side2 A2.out).mono ?_); (case side1 => repeat (first | exact HR0.out | (with_reducible refine Kd.C_alloc ?_ _) | (with_reducible refine Kd.C_drewN ?_ _) | (with_reducible refine Kd.C_drew ?_))); (case side2 => exact HC0.out); rintro e w' ⟨rfl, ⟨nd, rfl⟩⟩; (try first | exact ⟨rfl, _, World.drewN_drewN _ _ _⟩ | exact ⟨rfl, _, Eq.trans (World.drewN_drewN _ _ _) (congrArg (World.drewN _) (Nat.add_assoc _ _ _))⟩)))
    repeat (go_quiet (first | (go_at_call 7; (with_reducible refine (laws_rBig.calls _ _ l0 true _ ?side1 ?side2 A2.out).mono ?_); (case side1 => repeat (first | exact HR0.out | (with_reducible refine Kd.C_alloc ?_ _) | (with_reducible refine Kd.C_drewN ?_ _) | (with_reducible refine Kd.C_drew ?_))); (case side2 => exact HC0.out); rintro e w' ⟨rfl, ⟨nd, rfl⟩⟩; (try first | exact ⟨rfl, _, World.drewN_drewN _ _ _⟩ | exact ⟨rfl, _, Eq.trans (World.drewN_drewN _ _ _) (congrArg (World.drewN _) (Nat.add_assoc _ _ _))⟩))); try go_wp2_with (first | (go_at_call 7; (with_reducible refine (laws_rBig.calls _ _ l0 true _ ?side1 ?side2 A2.out).mono ?_); (case side1 => repeat (first | exact HR0.out | (with_reducible refine Kd.C_alloc ?_ _) | (with_reducible refine Kd.C_drewN ?_ _) | (with_reducible refine Kd.C_drew ?_))); (case side2 => exact HC0.out); rintro e w' ⟨rfl, ⟨nd, rfl⟩⟩; (try first | exact ⟨rfl, _, World.drewN_drewN _ _ _⟩ | exact ⟨rfl, _, Eq.trans (World.drewN_drewN _ _ _) (congrArg (World.drewN _) (Nat.add_assoc _ _ _))⟩))))
    go_ret
    exact ⟨by first | rfl | (simp [errW_none, errW_some] <;> rfl) | (simp [*, errW_none, errW_some] <;> rfl), by repeat (first | (with_reducible first | exact HB.out | apply below_alloc | apply pw_below_drewN | apply below_drew1) | exact HB.out)⟩
  · replace c3 := Bool.eq_false_iff.mpr c3
    subst c3
    have H1 : ((spec_DrawLevelIn.f k l0).bind fun bt287 => ((impl_LevelIn.f k bt287.1 bt287.2).bind fun bt291 => ((spec_LevelIn.f k bt287.1 bt287.2).bind fun bt294 => (if bt291.1 = bt294.1 then (if bt291.2.1 = bt294.2.1 then (laws_FnLevels.j0 k bt287.1 bt291.1 bt291.2.1 bt291.2.2 (bt291.2.2 != bt294.2.2)) else (laws_FnLevels.j0 k bt287.1 bt291.1 bt291.2.1 bt291.2.2 true)) else (laws_FnLevels.j0 k bt287.1 bt291.1 bt291.2.1 bt291.2.2 true))))) = some r := by rw [if_neg (show ¬ (false = true) by decide)] at H; exact H
    clear H
    have H := H1
    clear H1
    replace H := Option.bind_eq_some_iff.mp H
    obtain ⟨⟨t287, t288⟩, A40, H⟩ := H
    replace H : ((impl_LevelIn.f k t287 t288).bind fun bt291 => ((spec_LevelIn.f k t287 t288).bind fun bt294 => (if bt291.1 = bt294.1 then (if bt291.2.1 = bt294.2.1 then (laws_FnLevels.j0 k t287 bt291.1 bt291.2.1 bt291.2.2 (bt291.2.2 != bt294.2.2)) else (laws_FnLevels.j0 k t287 bt291.1 bt291.2.1 bt291.2.2 true)) else (laws_FnLevels.j0 k t287 bt291.1 bt291.2.1 bt291.2.2 true)))) = some r := H
    have A4 := Aside0.mk A40
    clear A40
    replace H := Option.bind_eq_some_iff.mp H
    obtain ⟨⟨t291, t292, t293⟩, A50, H⟩ := H
    replace H : ((spec_LevelIn.f k t287 t288).bind fun bt294 => (if t291 = bt294.1 then (if t292 = bt294.2.1 then (laws_FnLevels.j0 k t287 t291 t292 t293 (t293 != bt294.2.2)) else (laws_FnLevels.j0 k t287 t291 t292 t293 true)) else (laws_FnLevels.j0 k t287 t291 t292 t293 true))) = some r := H
    have A5 := Aside0.mk A50
    clear A50
    replace H := Option.bind_eq_some_iff.mp H
    obtain ⟨⟨t294, t295, t296⟩, A60, H⟩ := H
    replace H : (if t291 = t294 then (if t292 = t295 then (laws_FnLevels.j0 k t287 t291 t292 t293 (t293 != t296)) else (laws_FnLevels.j0 k t287 t291 t292 t293 true)) else (laws_FnLevels.j0 k t287 t291 t292 t293 true)) = some r := H
    have A6 := Aside0.mk A60
    clear A60
    have HC7 := Aside0.mk H
    clear H
    go_enter Try.func3, Try.ntmps3
    go_upto_region 6 with (first | (go_at_call 7; (with_reducible refine (laws_rBig.calls _ _ l0 false _ ?side1 ?side2 A2.out).mono ?_); (case side1 => repeat (first | exact HR0.out | (with_reducible refine Kd.C_alloc ?_ _) | (with_reducible refine Kd.C_drewN ?_ _) | (with_reducible refine Kd.C_drew ?_))); (case side2 => exact HC0.out); rintro e w' ⟨rfl, ⟨nd, rfl⟩⟩; (try first | exact ⟨rfl, _, World.drewN_drewN _ _ _⟩ | exact ⟨rfl, _, Eq.trans (World.drewN_drewN _ _ _) (congrArg (World.drewN _) (Nat.add_assoc _ _ _))⟩)) | (go_at_call 8; (with_reducible refine (spec_DrawLevelIn.calls k _ _ l0 t287 t288 _ ?side1 ?side2 A4.out).mono ?_); (case side1 => repeat (first | exact HR0.out | (with_reducible refine Kd.C_alloc ?_ _) | (with_reducible refine Kd.C_drewN ?_ _) | (with_reducible refine Kd.C_drew ?_))); (case side2 => exact HC0.out); rintro e w8 ⟨v289, rfl, ho0, hb⟩; have n0_ := Aside0.mk (Kd.R_lower ho0 (below_size (by repeat (first | (with_reducible first | exact HB.out | apply below_alloc | apply pw_below_drewN | apply below_drew1) | exact HB.out)))); have n1_ := Aside0.mk (below_step (by repeat (first | (with_reducible first | exact HB.out | apply below_alloc | apply pw_below_drewN | apply below_drew1) | exact HB.out)) hb); clear HB; have HO290 := n0_; have HB := n1_; clear n0_ n1_; (try clear hb); (try clear hb2); (try clear hk); (try clear hi); (try clear ho0); obtain ⟨Ao9, co9, eo9⟩ := Kd.R_slice HO290.out; subst eo9) | (go_at_call 9; (with_reducible refine (impl_LevelIn.calls k _ _ t287 t288 t291 t292 t293 _ ?side1 ?side2 A5.out).mono ?_); (case side1 => repeat (first | exact (Kd.R_reads' HO290.out).2.2 | (with_reducible refine Kd.C_alloc ?_ _) | (with_reducible refine Kd.C_drewN ?_ _) | (with_reducible refine Kd.C_drew ?_))); (case side2 => exact (Kd.R_reads' HO290.out).2.1); rintro e w10 ⟨rfl, hb⟩; have n0_ := Aside0.mk (Kd.R_below (by (with_reducible repeat (first | apply Kd.R_alloc | apply Kd.R_drewN | apply Kd.R_drew)); exact HO290.out) hb); have n1_ := Aside0.mk (below_step (by repeat (first | (with_reducible first | exact HB.out | apply below_alloc | apply pw_below_drewN | apply below_drew1) | exact HB.out)) hb); clear HO290; clear HB; have HO290 := n0_; have HB := n1_; clear n0_ n1_; (try clear hb); (try clear hb2); (try clear hk); (try clear hi)) | (go_at_call 10; (with_reducible refine (spec_LevelIn.calls k _ _ t287 t288 t294 t295 t296 _ ?side1 ?side2 A6.out).mono ?_); (case side1 => repeat (first | exact (Kd.R_reads' HO290.out).2.2 | (with_reducible refine Kd.C_alloc ?_ _) | (with_reducible refine Kd.C_drewN ?_ _) | (with_reducible refine Kd.C_drew ?_))); (case side2 => exact (Kd.R_reads' HO290.out).2.1); rintro e w11 ⟨rfl, hb⟩; have n0_ := Aside0.mk (Kd.R_below (by (with_reducible repeat (first | apply Kd.R_alloc | apply Kd.R_drewN | apply Kd.R_drew)); exact HO290.out) hb); have n1_ := Aside0.mk (below_step (by repeat (first | (with_reducible first | exact HB.out | apply below_alloc | apply pw_below_drewN | apply below_drew1) | exact HB.out)) hb); clear HO290; clear HB; have HO290 := n0_; have HB := n1_; clear n0_ n1_; (try clear hb); (try clear hb2); (try clear hk); (try clear hi)))
    repeat (go_quiet (first | (go_at_call 7; (with_reducible refine (laws_rBig.calls _ _ l0 false _ ?side1 ?side2 A2.out).mono ?_); (case side1 => repeat (first | exact HR0.out | (with_reducible refine Kd.C_alloc ?_ _) | (with_reducible refine Kd.C_drewN ?_ _) | (with_reducible refine Kd.C_drew ?_))); (case side2 => exact HC0.out); rintro e w' ⟨rfl, ⟨nd, rfl⟩⟩; (try first | exact ⟨rfl, _, World.drewN_drewN _ _ _⟩ | exact ⟨rfl, _, Eq.trans (World.drewN_drewN _ _ _) (congrArg (World.drewN _) (Nat.add_assoc _ _ _))⟩)) | (go_at_call 8; (with_reducible refine (spec_DrawLevelIn.calls k _ _ l0 t287 t288 _ ?side1 ?side2 A4.out).mono ?_); (case side1 => repeat (first | exact HR0.out | (with_reducible refine Kd.C_alloc ?_ _) | (with_reducible refine Kd.C_drewN ?_ _) | (with_reducible refine Kd.C_drew ?_))); (case side2 => exact HC0.out); rintro e w8 ⟨v289, rfl, ho0, hb⟩; have n0_ := Aside0.mk (Kd.R_lower ho0 (below_size (by repeat (first | (with_reducible first | exact HB.out | apply below_alloc | apply pw_below_drewN | apply below_drew1) | exact HB.out)))); have n1_ := Aside0.mk (below_step (by repeat (first | (with_reducible first | exact HB.out | apply below_alloc | apply pw_below_drewN | apply below_drew1) | exact HB.out)) hb); clear HB; have HO290 := n0_; have HB := n1_; clear n0_ n1_; (try clear hb); (try clear hb2); (try clear hk); (try clear hi); (try clear ho0); obtain ⟨Ao9, co9, eo9⟩ := Kd.R_slice HO290.out; subst eo9) | (go_at_call 9; (with_reducible refine (impl_LevelIn.calls k _ _ t287 t288 t291 t292 t293 _ ?side1 ?side2 A5.out).mono ?_); (case side1 => repeat (first | exact (Kd.R_reads' HO290.out).2.2 | (with_reducible refine Kd.C_alloc ?_ _) | (with_reducible refine Kd.C_drewN ?_ _) | (with_reducible refine Kd.C_drew ?_))); (case side2 => exact (Kd.R_reads' HO290.out).2.1); rintro e w10 ⟨rfl, hb⟩; have n0_ := Aside0.mk (Kd.R_below (by (with_reducible repeat (first | apply Kd.R_alloc | apply Kd.R_drewN | apply Kd.R_drew)); exact HO290.out) hb); have n1_ := Aside0.mk (below_step (by repeat (first | (with_reducible first | exact HB.out | apply below_alloc | apply pw_below_drewN | apply below_drew1) | exact HB.out)) hb); clear HO290; clear HB; have HO290 := n0_; have HB := n1_; clear n0_ n1_; (try clear hb); (try clear hb2); (try clear hk); (try clear hi)) | (go_at_call 10; (with_reducible refine (spec_LevelIn.calls k _ _ t287 t288 t294 t295 t296 _ ?side1 ?side2 A6.out).mono ?_); (case side1 => repeat (first | exact (Kd.R_reads' HO290.out).2.2 | (with_reducible refine Kd.C_alloc ?_ _) | (with_reducible refine Kd.C_drewN ?_ _) | (with_reducible refine Kd.C_drew ?_))); (case side2 => exact (Kd.R_reads' HO290.out).2.1); rintro e w11 ⟨rfl, hb⟩; have n0_ := Aside0.mk (Kd.R_below (by (with_reducible repeat (first | apply Kd.R_alloc | apply Kd.R_drewN | apply Kd.R_drew)); exact HO290.out) hb); have n1_ := Aside0.mk (below_step (by repeat (first | (with_reducible first | exact HB.out | apply below_alloc | apply pw_below_drewN | apply below_drew1) | exact HB.out)) hb); clear HO290; clear HB; have HO290 := n0_; have HB := n1_; clear n0_ n1_; (try clear hb); (try clear hb2); (try clear hk); (try clear hi))); go_upto_region 6 with (first | (go_at_call 7; (with_reducible refine (laws_rBig.calls _ _ l0 false _ ?side1 ?side2 A2.out).mono ?_); (case side1 => repeat (first | exact HR0.out | (with_reducible refine Kd.C_alloc ?_ _) | (with_reducible refine Kd.C_drewN ?_ _) | (with_reducible refine Kd.C_drew ?_))); (case side2 => exact HC0.out); rintro e w' ⟨rfl, ⟨nd, rfl⟩⟩; (try first | exact ⟨rfl, _, World.drewN_drewN _ _ _⟩ | exact ⟨rfl, _, Eq.trans (World.drewN_drewN _ _ _) (congrArg (World.drewN _) (Nat.add_assoc _ _ _))⟩)) | (go_at_call 8; (with_reducible refine (spec_DrawLevelIn.calls k _ _ l0 t287 t288 _ ?side1 ?side2 A4.out).mono ?_); (case side1 => repeat (first | exact HR0.out | (with_reducible refine Kd.C_alloc ?_ _) | (with_reducible refine Kd.C_drewN ?_ _) | (with_reducible refine Kd.C_drew ?_))); (case side2 => exact HC0.out); rintro e w8 ⟨v289, rfl, ho0, hb⟩; have n0_ := Aside0.mk (Kd.R_lower ho0 (below_size (by repeat (first | (with_reducible first | exact HB.out | apply below_alloc | apply pw_below_drewN | apply below_drew1) | exact HB.out)))); have n1_ := Aside0.mk (below_step (by repeat (first | (with_reducible first | exact HB.out | apply below_alloc | apply pw_below_drewN | apply below_drew1) | exact HB.out)) hb); clear HB; have HO290 := n0_; have HB := n1_; clear n0_ n1_; (try clear hb); (try clear hb2); (try clear hk); (try clear hi); (try clear ho0); obtain ⟨Ao9, co9, eo9⟩ := Kd.R_slice HO290.out; subst eo9) | (go_at_call 9; (with_reducible refine (impl_LevelIn.calls k _ _ t287 t288 t291 t292 t293 _ ?side1 ?side2 A5.out).mono ?_); (case side1 => repeat (first | exact (Kd.R_reads' HO290.out).2.2 | (with_reducible refine Kd.C_alloc ?_ _) | (with_reducible refine Kd.C_drewN ?_ _) | (with_reducible refine Kd.C_drew ?_))); (case side2 => exact (Kd.R_reads' HO290.out).2.1); rintro e w10 ⟨rfl, hb⟩; have n0_ := Aside0.mk (Kd.R_below (by (with_reducible repeat (first | apply Kd.R_alloc | apply Kd.R_drewN | apply Kd.R_drew)); exact HO290.out) hb); have n1_ := Aside0.mk (below_step (by repeat (first | (with_reducible first | exact HB.out | apply below_alloc | apply pw_below_drewN | apply below_drew1) | exact HB.out)) hb); clear HO290; clear HB; have HO290 := n0_; have HB := n1_; clear n0_ n1_; (try clear hb); (try clear hb2); (try clear hk); (try clear hi)) | (go_at_call 10; (with_reducible refine (spec_LevelIn.calls k _ _ t287 t288 t294 t295 t296 _ ?side1 ?side2 A6.out).mono ?_); (case side1 => repeat (first | exact (Kd.R_reads' HO290.out).2.2 | (with_reducible refine Kd.C_alloc ?_ _) | (with_reducible refine Kd.C_drewN ?_ _) | (with_reducible refine Kd.C_drew ?_))); (case side2 => exact (Kd.R_reads' HO290.out).2.1); rintro e w11 ⟨rfl, hb⟩; have n0_ := Aside0.mk (Kd.R_below (by (with_reducible repeat (first | apply Kd.R_alloc | apply Kd.R_drewN | apply Kd.R_drew)); exact HO290.out) hb); have n1_ := Aside0.mk (below_step (by repeat (first | (with_reducible first | exact HB.out | apply below_alloc | apply pw_below_drewN | apply below_drew1) | exact HB.out)) hb); clear HO290; clear HB; have HO290 := n0_; have HB := n1_; clear n0_ n1_; (try clear hb); (try clear hb2); (try clear hk); (try clear hi))))
    (try simp only [Act.put, List.setIfInBounds_toArray, List.set_cons_zero, List.set_cons_succ])
    go_cut [61] (fun v61 wc => ∃ (kq : Nat) (x61_6 : Bool), v61 = .bool x61_6 ∧ Aside0 (laws_FnLevels.j0 kq t287 t291 t292 t293 x61_6 = some r) ∧ Aside0 (kq ≤ k) ∧ Aside0 (Kd.R k30 30 wc w.heap.size (fun _ => True) (.slice Ao9 t287.length co9) t287) ∧ Aside0 (Below w.heap.size w wc))
    case first => as_aux_lemma =>
      have H := HC7.out
      clear HC7
      by_cases c12 : t291 = t294
      · rw [if_pos c12] at H
        have c12b0 : (t291 == t294) = true := beq_iff_eq.mpr c12
        have c12b1 : (t291 != t294) = false := bne_eq_false_iff_eq.mpr c12
        clear c12
        (first | rw [c12b0] | (simp only [i64_w, i32_w]; rw [c12b0]) | skip)
        by_cases c13 : t292 = t295
        · rw [if_pos c13] at H
          have c13b0 : (t292 == t295) = true := beq_iff_eq.mpr c13
          have c13b1 : (t292 != t295) = false := bne_eq_false_iff_eq.mpr c13
          clear c13
          have H' := Aside0.mk H
          clear H
          go_wp2
          repeat (go_quiet (fail); try go_wp2)
          go_meet
          case rel => exact ⟨_, ((t293 != t296)), (by first | rfl | (simp; done) | (simp [*]; done)), H', ⟨by first | omega | exact Nat.le_refl _⟩, ⟨by (with_reducible repeat (first | apply Kd.R_alloc | apply Kd.R_drewN | apply Kd.R_drew)); exact HO290.out⟩, ⟨by repeat (first | (with_reducible first | exact HB.out | apply below_alloc | apply pw_below_drewN | apply below_drew1) | exact HB.out)⟩⟩
        · rw [if_neg c13] at H
          have c13b0 : (t292 == t295) = false := beq_eq_false_iff_ne.mpr c13
          have c13b1 : (t292 != t295) = true := bne_iff_ne.mpr c13
          have H' := Aside0.mk H
          clear H
          go_wp2
          repeat (go_quiet (fail); try go_wp2)
          go_meet
          case rel => exact ⟨_, (true), (by first | rfl | (simp; done) | (simp [*]; done)), H', ⟨by first | omega | exact Nat.le_refl _⟩, ⟨by (with_reducible repeat (first | apply Kd.R_alloc | apply Kd.R_drewN | apply Kd.R_drew)); exact HO290.out⟩, ⟨by repeat (first | (with_reducible first | exact HB.out | apply below_alloc | apply pw_below_drewN | apply below_drew1) | exact HB.out)⟩⟩
      · rw [if_neg c12] at H
        have c12b0 : (t291 == t294) = false := beq_eq_false_iff_ne.mpr c12
        have c12b1 : (t291 != t294) = true := bne_iff_ne.mpr c12
        (first | rw [c12b0] | (simp only [i64_w, i32_w]; rw [c12b0]) | skip)
        have H' := Aside0.mk H
        clear H
        go_wp2
        repeat (go_quiet (fail); try go_wp2)
        go_meet
        case rel => exact ⟨_, (true), (by first | rfl | (simp; done) | (simp [*]; done)), H', ⟨by first | omega | exact Nat.le_refl _⟩, ⟨by (with_reducible repeat (first | apply Kd.R_alloc | apply Kd.R_drewN | apply Kd.R_drew)); exact HO290.out⟩, ⟨by repeat (first | (with_reducible first | exact HB.out | apply below_alloc | apply pw_below_drewN | apply below_drew1) | exact HB.out)⟩⟩
    case rest => as_aux_lemma =>
      clear HC7
      try clear c1
      try clear p2
      try clear c3
      try clear c12
      try clear c12b0
      try clear c12b1
      try clear c13
      try clear c13b0
      try clear c13b1
      obtain ⟨kq, x61_6, rfl, HA, HJ6, HO_3, HB⟩ := hcut
      cases kq with
      | zero => exact absurd HA.out (by simp [laws_FnLevels.j0])
      | succ kj6 =>
        have H := HA.out
        clear HA
        simp only [laws_FnLevels.j0] at H
        by_cases c14 : x61_6 = true
        · subst c14
          have H1 : (some false) = some r := by rw [if_pos rfl] at H; exact H
          clear H
          have H := H1
          clear H1
          obtain rfl := Option.some.inj H
          go_wp2
          repeat (go_quiet (fail); try go_wp2)
          go_ret
          exact ⟨by first | rfl | (simp [errW_none, errW_some] <;> rfl) | (simp [*, errW_none, errW_some] <;> rfl), by repeat (first | (with_reducible first | exact HB.out | apply below_alloc | apply pw_below_drewN | apply below_drew1) | exact HB.out)⟩
        · replace c14 := Bool.eq_false_iff.mpr c14
          subst c14
          have H1 : ((impl_HighestReading.f kj6 t287).bind fun bt297 => ((spec_HighestReading.f kj6 t287).bind fun bt301 => (if (!(bt297.1 == bt301.1) || (!(bt297.2.1 == bt301.2.1))) = true then (laws_FnLevels.j1 kj6 t287 t291 t292 t293 bt297.2.2 true bt297.1 bt297.2.1) else (laws_FnLevels.j1 kj6 t287 t291 t292 t293 bt297.2.2 (bt297.2.2 != bt301.2.2) bt297.1 bt297.2.1)))) = some r := by rw [if_neg (show ¬ (false = true) by decide)] at H; exact H
          clear H
          have H := H1
          clear H1
          replace H := Option.bind_eq_some_iff.mp H
          obtain ⟨⟨t297, t298, t299⟩, A150, H⟩ := H
          replace H : ((spec_HighestReading.f kj6 t287).bind fun bt301 => (if (!(t297 == bt301.1) || (!(t298 == bt301.2.1))) = true then (laws_FnLevels.j1 kj6 t287 t291 t292 t293 t299 true t297 t298) else (laws_FnLevels.j1 kj6 t287 t291 t292 t293 t299 (t299 != bt301.2.2) t297 t298))) = some r := H
          have A15 := Aside0.mk A150
          clear A150
          replace H := Option.bind_eq_some_iff.mp H
          obtain ⟨⟨t301, t302, t303⟩, A160, H⟩ := H
          replace H : (if (!(t297 == t301) || (!(t298 == t302))) = true then (laws_FnLevels.j1 kj6 t287 t291 t292 t293 t299 true t297 t298) else (laws_FnLevels.j1 kj6 t287 t291 t292 t293 t299 (t299 != t303) t297 t298)) = some r := H
          have A16 := Aside0.mk A160
          clear A160
          have HC17 := Aside0.mk H
          clear H
          go_upto_region 10 with (first | (go_at_call 11; (with_reducible refine (impl_HighestReading.calls kj6 _ _ t287 t297 t298 t299 _ ?side1 ?side2 A15.out).mono ?_); (case side1 => repeat (first | exact (Kd.R_reads' HO_3.out).2.2 | (with_reducible refine Kd.C_alloc ?_ _) | (with_reducible refine Kd.C_drewN ?_ _) | (with_reducible refine Kd.C_drew ?_))); (case side2 => exact (Kd.R_reads' HO_3.out).2.1); rintro e w18 ⟨rfl, hb⟩; have n0_ := Aside0.mk (Kd.R_below (by (with_reducible repeat (first | apply Kd.R_alloc | apply Kd.R_drewN | apply Kd.R_drew)); exact HO_3.out) hb); have n1_ := Aside0.mk (below_step (by repeat (first | (with_reducible first | exact HB.out | apply below_alloc | apply pw_below_drewN | apply below_drew1) | exact HB.out)) hb); clear HO_3; clear HB; have HO_3 := n0_; have HB := n1_; clear n0_ n1_; (try clear hb); (try clear hb2); (try clear hk); (try clear hi)) | ((with_reducible refine gate_dst (N := 11) rfl ?_); refine box_event ?hg (N := 11) ?hd (cs := #[.int .i64 0, .int .i64 0]) (t := 30) ?hr ?_; (case hd => rfl); (case hg => rfl); (case hr => first | (go_simp; done) | (go_simp; rfl)); intro gb300 hg w19 hbox hb; have n0_ := Aside0.mk (Kd.R_below (Kd.R_elderB (by (with_reducible repeat (first | apply Kd.R_alloc | apply Kd.R_drewN | apply Kd.R_drew)); exact HO_3.out) gb300 (Nat.le_of_eq hg.symm)) hb); have n1_ := Aside0.mk (below_step (by repeat (first | (with_reducible first | exact HB.out | apply below_alloc | apply pw_below_drewN | apply below_drew1) | exact HB.out)) hb); have n2_ := Aside0.mk (hbox); have n3_ := Aside0.mk ((by rw [hg]; exact (below_size (by repeat (first | (with_reducible first | exact HB.out | apply below_alloc | apply pw_below_drewN | apply below_drew1) | exact HB.out))) : w.heap.size ≤ gb300)); have n4_ := Aside0.mk ((by rw [hg]; exact (below_size (by repeat (first | (with_reducible first | exact HB.out | apply below_alloc | apply pw_below_drewN | apply below_drew1) | exact HB.out))) : w.heap.size ≤ gb300)); clear HO_3; clear HB; have HO_3 := n0_; have HB := n1_; have BK300 := n2_; have GW300 := n3_; have GE300 := n4_; clear n0_ n1_ n2_ n3_ n4_; clear hb hbox hg; have hcz20_0 : w19.cell? ⟨gb300, 0, none⟩ = some (.int .i64 0) := (blk_cell BK300.out 0).trans rfl; have hcz20_1 : w19.cell? ⟨gb300, 1, none⟩ = some (.int .i64 0) := (blk_cell BK300.out 1).trans rfl; have hfz20_0 := blk_frozen BK300.out 0; have hfz20_1 := blk_frozen BK300.out 1) | (go_at_call 12; (with_reducible refine (spec_HighestReading.calls kj6 _ _ t287 t301 t302 t303 _ ?side1 ?side2 A16.out).mono ?_); (case side1 => refine (Kd.R_reads' (e := 30) (base := w.heap.size) (ok := fun k_ => (True ∧ k_ ≠ gb300)) (n := t287.length) (c := co9) ?_).2.2; exact (by (with_reducible repeat (first | apply Kd.R_alloc | apply Kd.R_drewN | apply Kd.R_drew)); exact (Kd.R_mono (Kd.R_far (p := ⟨gb300, 1, none⟩) (Kd.R_far (p := ⟨gb300, 0, none⟩) (Kd.R_mono HO_3.out (fun k_ hk => (⟨hk, hk.2⟩ : _ ∧ k_ ≠ gb300))) (fun _ hk => hk.2) (.int .i64 t297)) (fun _ hk => hk.2) (.int .i64 t298)) (fun _ h_ => h_.1)))); (case side2 => exact (Kd.R_reads' HO_3.out).2.1); rintro e w21 ⟨rfl, hb⟩; have n0_ := Aside0.mk (Kd.R_below (by (with_reducible repeat (first | apply Kd.R_alloc | apply Kd.R_drewN | apply Kd.R_drew)); exact (Kd.R_mono (Kd.R_far (p := ⟨gb300, 1, none⟩) (Kd.R_far (p := ⟨gb300, 0, none⟩) (Kd.R_mono HO_3.out (fun k_ hk => (⟨hk, hk.2⟩ : _ ∧ k_ ≠ gb300))) (fun _ hk => hk.2) (.int .i64 t297)) (fun _ hk => hk.2) (.int .i64 t298)) (fun _ h_ => h_.1))) hb); have n1_ := Aside0.mk (blk_below (g := gb300) (o := .cells #[.int .i64 t297, .int .i64 t298] 30 (0, 0)) (by (with_reducible repeat (first | refine blk_drewN ?_ _ | refine blk_drew ?_ | refine blk_alloc ?_ _)); refine blk_put (cs := #[.int .i64 t297, .int .i64 0]) ?_ 1 _ rfl; (with_reducible repeat (first | refine blk_drewN ?_ _ | refine blk_drew ?_ | refine blk_alloc ?_ _)); refine blk_put (cs := #[.int .i64 0, .int .i64 0]) ?_ 0 _ rfl; (with_reducible repeat (first | refine blk_drewN ?_ _ | refine blk_drew ?_ | refine blk_alloc ?_ _)); exact BK300.out) hb); have n2_ := Aside0.mk (below_step (by repeat (first | (with_reducible first | exact HB.out | apply below_alloc | apply pw_below_drewN | apply below_drew1 | refine below_set ?_ GE300.out) | exact HB.out)) hb); clear HO_3; clear BK300; clear HB; have HO_3 := n0_; have BK300 := n1_; have HB := n2_; clear n0_ n1_ n2_; (try clear hb); (try clear hb2); (try clear hk); (try clear hi)) | ((with_reducible refine gate_dst (N := 13) rfl ?_); refine box_event ?hg (N := 13) ?hd (cs := #[.int .i64 0, .int .i64 0]) (t := 30) ?hr ?_; (case hd => rfl); (case hg => rfl); (case hr => first | (go_simp; done) | (go_simp; rfl)); intro gb304 hg w22 hbox hb; have n0_ := Aside0.mk (Kd.R_below (Kd.R_elderB (by (with_reducible repeat (first | apply Kd.R_alloc | apply Kd.R_drewN | apply Kd.R_drew)); exact HO_3.out) gb304 (Nat.le_of_eq hg.symm)) hb); have n1_ := Aside0.mk (blk_below (g := gb300) (o := .cells #[.int .i64 t297, .int .i64 t298] 30 (0, 0)) (by (with_reducible repeat (first | refine blk_drewN ?_ _ | refine blk_drew ?_ | refine blk_alloc ?_ _)); exact BK300.out) hb); have n2_ := Aside0.mk (below_step (by repeat (first | (with_reducible first | exact HB.out | apply below_alloc | apply pw_below_drewN | apply below_drew1 | refine below_set ?_ GE300.out) | exact HB.out)) hb); have n3_ := Aside0.mk (hbox); have n4_ := Aside0.mk ((by rw [hg]; exact (below_size (by repeat (first | (with_reducible first | exact HB.out | apply below_alloc | apply pw_below_drewN | apply below_drew1 | refine below_set ?_ GE300.out) | exact HB.out))) : w.heap.size ≤ gb304)); have n5_ := Aside0.mk ((by rw [hg]; exact (below_size (by repeat (first | (with_reducible first | exact HB.out | apply below_alloc | apply pw_below_drewN | apply below_drew1 | refine below_set ?_ GE300.out) | exact HB.out))) : w.heap.size ≤ gb304)); have n6_ := Aside0.mk ((by rw [hg]; exact Nat.ne_of_lt (blk_lt (g := gb300) (o := .cells #[.int .i64 t297, .int .i64 t298] 30 (0, 0)) (by (with_reducible repeat (first | refine blk_drewN ?_ _ | refine blk_drew ?_ | refine blk_alloc ?_ _)); exact BK300.out)) : gb300 ≠ gb304)); have n7_ := Aside0.mk ((by rw [hg]; exact Nat.ne_of_gt (blk_lt (g := gb300) (o := .cells #[.int .i64 t297, .int .i64 t298] 30 (0, 0)) (by (with_reducible repeat (first | refine blk_drewN ?_ _ | refine blk_drew ?_ | refine blk_alloc ?_ _)); exact BK300.out)) : gb304 ≠ gb300)); clear HO_3; clear BK300; clear HB; have HO_3 := n0_; have BK300 := n1_; have HB := n2_; have BK304 := n3_; have GW304 := n4_; have GE304 := n5_; have NB300_304 := n6_; have NB304_300 := n7_; clear n0_ n1_ n2_ n3_ n4_ n5_ n6_ n7_; clear hb hbox hg; have hnb23 := NB304_300.out; have hnc23 := NB300_304.out; have hcz24_0 : w22.cell? ⟨gb304, 0, none⟩ = some (.int .i64 0) := (blk_cell BK304.out 0).trans rfl; have hcz24_1 : w22.cell? ⟨gb304, 1, none⟩ = some (.int .i64 0) := (blk_cell BK304.out 1).trans rfl; have hfz24_0 := blk_frozen BK304.out 0; have hfz24_1 := blk_frozen BK304.out 1))
          repeat (go_quiet (first | (go_at_call 11; (with_reducible refine (impl_HighestReading.calls kj6 _ _ t287 t297 t298 t299 _ ?side1 ?side2 A15.out).mono ?_); (case side1 => repeat (first | exact (Kd.R_reads' HO_3.out).2.2 | (with_reducible refine Kd.C_alloc ?_ _) | (with_reducible refine Kd.C_drewN ?_ _) | (with_reducible refine Kd.C_drew ?_))); (case side2 => exact (Kd.R_reads' HO_3.out).2.1); rintro e w18 ⟨rfl, hb⟩; have n0_ := Aside0.mk (Kd.R_below (by (with_reducible repeat (first | apply Kd.R_alloc | apply Kd.R_drewN | apply Kd.R_drew)); exact HO_3.out) hb); have n1_ := Aside0.mk (below_step (by repeat (first | (with_reducible first | exact HB.out | apply below_alloc | apply pw_below_drewN | apply below_drew1) | exact HB.out)) hb); clear HO_3; clear HB; have HO_3 := n0_; have HB := n1_; clear n0_ n1_; (try clear hb); (try clear hb2); (try clear hk); (try clear hi)) | ((with_reducible refine gate_dst (N := 11) rfl ?_); refine box_event ?hg (N := 11) ?hd (cs := #[.int .i64 0, .int .i64 0]) (t := 30) ?hr ?_; (case hd => rfl); (case hg => rfl); (case hr => first | (go_simp; done) | (go_simp; rfl)); intro gb300 hg w19 hbox hb; have n0_ := Aside0.mk (Kd.R_below (Kd.R_elderB (by (with_reducible repeat (first | apply Kd.R_alloc | apply Kd.R_drewN | apply Kd.R_drew)); exact HO_3.out) gb300 (Nat.le_of_eq hg.symm)) hb); have n1_ := Aside0.mk (below_step (by repeat (first | (with_reducible first | exact HB.out | apply below_alloc | apply pw_below_drewN | apply below_drew1) | exact HB.out)) hb); have n2_ := Aside0.mk (hbox); have n3_ := Aside0.mk ((by rw [hg]; exact (below_size (by repeat (first | (with_reducible first | exact HB.out | apply below_alloc | apply pw_below_drewN | apply below_drew1) | exact HB.out))) : w.heap.size ≤ gb300)); have n4_ := Aside0.mk ((by rw [hg]; exact (below_size (by repeat (first | (with_reducible first | exact HB.out | apply below_alloc | apply pw_below_drewN | apply below_drew1) | exact HB.out))) : w.heap.size ≤ gb300)); clear HO_3; clear HB; have HO_3 := n0_; have HB := n1_; have BK300 := n2_; have GW300 := n3_; have GE300 := n4_; clear n0_ n1_ n2_ n3_ n4_; clear hb hbox hg; have hcz20_0 : w19.cell? ⟨gb300, 0, none⟩ = some (.int .i64 0) := (blk_cell BK300.out 0).trans rfl; have hcz20_1 : w19.cell? ⟨gb300, 1, none⟩ = some (.int .i64 0) := (blk_cell BK300.out 1).trans rfl; have hfz20_0 := blk_frozen BK300.out 0; have hfz20_1 := blk_frozen BK300.out 1) | (go_at_call 12; (with_reducible refine (spec_HighestReading.calls kj6 _ _ t287 t301 t302 t303 _ ?side1 ?side2 A16.out).mono ?_); (case side1 => refine (Kd.R_reads' (e := 30) (base := w.heap.size) (ok := fun k_ => (True ∧ k_ ≠ gb300)) (n := t287.length) (c := co9) ?_).2.2; exact (by (with_reducible repeat (first | apply Kd.R_alloc | apply Kd.R_drewN | apply Kd.R_drew)); exact (Kd.R_mono (Kd.R_far (p := ⟨gb300, 1, none⟩) (Kd.R_far (p := ⟨gb300, 0, none⟩) (Kd.R_mono HO_3.out (fun k_ hk => (⟨hk, hk.2⟩ : _ ∧ k_ ≠ gb300))) (fun _ hk => hk.2) (.int .i64 t297)) (fun _ hk => hk.2) (.int .i64 t298)) (fun _ h_ => h_.1)))); (case side2 => exact (Kd.R_reads' HO_3.out).2.1); rintro e w21 ⟨rfl, hb⟩; have n0_ := Aside0.mk (Kd.R_below (by (with_reducible repeat (first | apply Kd.R_alloc | apply Kd.R_drewN | apply Kd.R_drew)); exact (Kd.R_mono (Kd.R_far (p := ⟨gb300, 1, none⟩) (Kd.R_far (p := ⟨gb300, 0, none⟩) (Kd.R_mono HO_3.out (fun k_ hk => (⟨hk, hk.2⟩ : _ ∧ k_ ≠ gb300))) (fun _ hk => hk.2) (.int .i64 t297)) (fun _ hk => hk.2) (.int .i64 t298)) (fun _ h_ => h_.1))) hb); have n1_ := Aside0.mk (blk_below (g := gb300) (o := .cells #[.int .i64 t297, .int .i64 t298] 30 (0, 0)) (by (with_reducible repeat (first | refine blk_drewN ?_ _ | refine blk_drew ?_ | refine blk_alloc ?_ _)); refine blk_put (cs := #[.int .i64 t297, .int .i64 0]) ?_ 1 _ rfl; (with_reducible repeat (first | refine blk_drewN ?_ _ | refine blk_drew ?_ | refine blk_alloc ?_ _)); refine blk_put (cs := #[.int .i64 0, .int .i64 0]) ?_ 0 _ rfl; (with_reducible repeat (first | refine blk_drewN ?_ _ | refine blk_drew ?_ | refine blk_alloc ?_ _)); exact BK300.out) hb); have n2_ := Aside0.mk (below_step (by repeat (first | (with_reducible first | exact HB.out | apply below_alloc | apply pw_below_drewN | apply below_drew1 | refine below_set ?_ GE300.out) | exact HB.out)) hb); clear HO_3; clear BK300; clear HB; have HO_3 := n0_; have BK300 := n1_; have HB := n2_; clear n0_ n1_ n2_; (try clear hb); (try clear hb2); (try clear hk); (try clear hi)) | ((with_reducible refine gate_dst (N := 13) rfl ?_); refine box_event ?hg (N := 13) ?hd (cs := #[.int .i64 0, .int .i64 0]) (t := 30) ?hr ?_; (case hd => rfl); (case hg => rfl); (case hr => first | (go_simp; done) | (go_simp; rfl)); intro gb304 hg w22 hbox hb; have n0_ := Aside0.mk (Kd.R_below (Kd.R_elderB (by (with_reducible repeat (first | apply Kd.R_alloc | apply Kd.R_drewN | apply Kd.R_drew)); exact HO_3.out) gb304 (Nat.le_of_eq hg.symm)) hb); have n1_ := Aside0.mk (blk_below (g := gb300) (o := .cells #[.int .i64 t297, .int .i64 t298] 30 (0, 0)) (by (with_reducible repeat (first | refine blk_drewN ?_ _ | refine blk_drew ?_ | refine blk_alloc ?_ _)); exact BK300.out) hb); have n2_ := Aside0.mk (below_step (by repeat (first | (with_reducible first | exact HB.out | apply below_alloc | apply pw_below_drewN | apply below_drew1 | refine below_set ?_ GE300.out) | exact HB.out)) hb); have n3_ := Aside0.mk (hbox); have n4_ := Aside0.mk ((by rw [hg]; exact (below_size (by repeat (first | (with_reducible first | exact HB.out | apply below_alloc | apply pw_below_drewN | apply below_drew1 | refine below_set ?_ GE300.out) | exact HB.out))) : w.heap.size ≤ gb304)); have n5_ := Aside0.mk ((by rw [hg]; exact (below_size (by repeat (first | (with_reducible first | exact HB.out | apply below_alloc | apply pw_below_drewN | apply below_drew1 | refine below_set ?_ GE300.out) | exact HB.out))) : w.heap.size ≤ gb304)); have n6_ := Aside0.mk ((by rw [hg]; exact Nat.ne_of_lt (blk_lt (g := gb300) (o := .cells #[.int .i64 t297, .int .i64 t298] 30 (0, 0)) (by (with_reducible repeat (first | refine blk_drewN ?_ _ | refine blk_drew ?_ | refine blk_alloc ?_ _)); exact BK300.out)) : gb300 ≠ gb304)); have n7_ := Aside0.mk ((by rw [hg]; exact Nat.ne_of_gt (blk_lt (g := gb300) (o := .cells #[.int .i64 t297, .int .i64 t298] 30 (0, 0)) (by (with_reducible repeat (first | refine blk_drewN ?_ _ | refine blk_drew ?_ | refine blk_alloc ?_ _)); exact BK300.out)) : gb304 ≠ gb300)); clear HO_3; clear BK300; clear HB; have HO_3 := n0_; have BK300 := n1_; have HB := n2_; have BK304 := n3_; have GW304 := n4_; have GE304 := n5_; have NB300_304 := n6_; have NB304_300 := n7_; clear n0_ n1_ n2_ n3_ n4_ n5_ n6_ n7_; clear hb hbox hg; have hnb23 := NB304_300.out; have hnc23 := NB300_304.out; have hcz24_0 : w22.cell? ⟨gb304, 0, none⟩ = some (.int .i64 0) := (blk_cell BK304.out 0).trans rfl; have hcz24_1 : w22.cell? ⟨gb304, 1, none⟩ = some (.int .i64 0) := (blk_cell BK304.out 1).trans rfl; have hfz24_0 := blk_frozen BK304.out 0; have hfz24_1 := blk_frozen BK304.out 1)); go_upto_region 10 with (first | (go_at_call 11; (with_reducible refine (impl_HighestReading.calls kj6 _ _ t287 t297 t298 t299 _ ?side1 ?side2 A15.out).mono ?_); (case side1 => repeat (first | exact (Kd.R_reads' HO_3.out).2.2 | (with_reducible refine Kd.C_alloc ?_ _) | (with_reducible refine Kd.C_drewN ?_ _) | (with_reducible refine Kd.C_drew ?_))); (case side2 => exact (Kd.R_reads' HO_3.out).2.1); rintro e w18 ⟨rfl, hb⟩; have n0_ := Aside0.mk (Kd.R_below (by (with_reducible repeat (first | apply Kd.R_alloc | apply Kd.R_drewN | apply Kd.R_drew)); exact HO_3.out) hb); have n1_ := Aside0.mk (below_step (by repeat (first | (with_reducible first | exact HB.out | apply below_alloc | apply pw_below_drewN | apply below_drew1) | exact HB.out)) hb); clear HO_3; clear HB; have HO_3 := n0_; have HB := n1_; clear n0_ n1_; (try clear hb); (try clear hb2); (try clear hk); (try clear hi)) | ((with_reducible refine gate_dst (N := 11) rfl ?_); refine box_event ?hg (N := 11) ?hd (cs := #[.int .i64 0, .int .i64 0]) (t := 30) ?hr ?_; (case hd => rfl); (case hg => rfl); (case hr => first | (go_simp; done) | (go_simp; rfl)); intro gb300 hg w19 hbox hb; have n0_ := Aside0.mk (Kd.R_below (Kd.R_elderB (by (with_reducible repeat (first | apply Kd.R_alloc | apply Kd.R_drewN | apply Kd.R_drew)); exact HO_3.out) gb300 (Nat.le_of_eq hg.symm)) hb); have n1_ := Aside0.mk (below_step (by repeat (first | (with_reducible first | exact HB.out | apply below_alloc | apply pw_below_drewN | apply below_drew1) | exact HB.out)) hb); have n2_ := Aside0.mk (hbox); have n3_ := Aside0.mk ((by rw [hg]; exact (below_size (by repeat (first | (with_reducible first | exact HB.out | apply below_alloc | apply pw_below_drewN | apply below_drew1) | exact HB.out))) : w.heap.size ≤ gb300)); have n4_ := Aside0.mk ((by rw [hg]; exact (below_size (by repeat (first | (with_reducible first | exact HB.out | apply below_alloc | apply pw_below_drewN | apply below_drew1) | exact HB.out))) : w.heap.size ≤ gb300)); clear HO_3; clear HB; have HO_3 := n0_; have HB := n1_; have BK300 := n2_; have GW300 := n3_; have GE300 := n4_; clear n0_ n1_ n2_ n3_ n4_; clear hb hbox hg; have hcz20_0 : w19.cell? ⟨gb300, 0, none⟩ = some (.int .i64 0) := (blk_cell BK300.out 0).trans rfl; have hcz20_1 : w19.cell? ⟨gb300, 1, none⟩ = some (.int .i64 0) := (blk_cell BK300.out 1).trans rfl; have hfz20_0 := blk_frozen BK300.out 0; have hfz20_1 := blk_frozen BK300.out 1) | (go_at_call 12; (with_reducible refine (spec_HighestReading.calls kj6 _ _ t287 t301 t302 t303 _ ?side1 ?side2 A16.out).mono ?_); (case side1 => refine (Kd.R_reads' (e := 30) (base := w.heap.size) (ok := fun k_ => (True ∧ k_ ≠ gb300)) (n := t287.length) (c := co9) ?_).2.2; exact (by (with_reducible repeat (first | apply Kd.R_alloc | apply Kd.R_drewN | apply Kd.R_drew)); exact (Kd.R_mono (Kd.R_far (p := ⟨gb300, 1, none⟩) (Kd.R_far (p := ⟨gb300, 0, none⟩) (Kd.R_mono HO_3.out (fun k_ hk => (⟨hk, hk.2⟩ : _ ∧ k_ ≠ gb300))) (fun _ hk => hk.2) (.int .i64 t297)) (fun _ hk => hk.2) (.int .i64 t298)) (fun _ h_ => h_.1)))); (case side2 => exact (Kd.R_reads' HO_3.out).2.1); rintro e w21 ⟨rfl, hb⟩; have n0_ := Aside0.mk (Kd.R_below (by (with_reducible repeat (first | apply Kd.R_alloc | apply Kd.R_drewN | apply Kd.R_drew)); exact (Kd.R_mono (Kd.R_far (p := ⟨gb300, 1, none⟩) (Kd.R_far (p := ⟨gb300, 0, none⟩) (Kd.R_mono HO_3.out (fun k_ hk => (⟨hk, hk.2⟩ : _ ∧ k_ ≠ gb300))) (fun _ hk => hk.2) (.int .i64 t297)) (fun _ hk => hk.2) (.int .i64 t298)) (fun _ h_ => h_.1))) hb); have n1_ := Aside0.mk (blk_below (g := gb300) (o := .cells #[.int .i64 t297, .int .i64 t298] 30 (0, 0)) (by (with_reducible repeat (first | refine blk_drewN ?_ _ | refine blk_drew ?_ | refine blk_alloc ?_ _)); refine blk_put (cs := #[.int .i64 t297, .int .i64 0]) ?_ 1 _ rfl; (with_reducible repeat (first | refine blk_drewN ?_ _ | refine blk_drew ?_ | refine blk_alloc ?_ _)); refine blk_put (cs := #[.int .i64 0, .int .i64 0]) ?_ 0 _ rfl; (with_reducible repeat (first | refine blk_drewN ?_ _ | refine blk_drew ?_ | refine blk_alloc ?_ _)); exact BK300.out) hb); have n2_ := Aside0.mk (below_step (by repeat (first | (with_reducible first | exact HB.out | apply below_alloc | apply pw_below_drewN | apply below_drew1 | refine below_set ?_ GE300.out) | exact HB.out)) hb); clear HO_3; clear BK300; clear HB; have HO_3 := n0_; have BK300 := n1_; have HB := n2_; clear n0_ n1_ n2_; (try clear hb); (try clear hb2); (try clear hk); (try clear hi)) | ((with_reducible refine gate_dst (N := 13) rfl ?_); refine box_event ?hg (N := 13) ?hd (cs := #[.int .i64 0, .int .i64 0]) (t := 30) ?hr ?_; (case hd => rfl); (case hg => rfl); (case hr => first | (go_simp; done) | (go_simp; rfl)); intro gb304 hg w22 hbox hb; have n0_ := Aside0.mk (Kd.R_below (Kd.R_elderB (by (with_reducible repeat (first | apply Kd.R_alloc | apply Kd.R_drewN | apply Kd.R_drew)); exact HO_3.out) gb304 (Nat.le_of_eq hg.symm)) hb); have n1_ := Aside0.mk (blk_below (g := gb300) (o := .cells #[.int .i64 t297, .int .i64 t298] 30 (0, 0)) (by (with_reducible repeat (first | refine blk_drewN ?_ _ | refine blk_drew ?_ | refine blk_alloc ?_ _)); exact BK300.out) hb); have n2_ := Aside0.mk (below_step (by repeat (first | (with_reducible first | exact HB.out | apply below_alloc | apply pw_below_drewN | apply below_drew1 | refine below_set ?_ GE300.out) | exact HB.out)) hb); have n3_ := Aside0.mk (hbox); have n4_ := Aside0.mk ((by rw [hg]; exact (below_size (by repeat (first | (with_reducible first | exact HB.out | apply below_alloc | apply pw_below_drewN | apply below_drew1 | refine below_set ?_ GE300.out) | exact HB.out))) : w.heap.size ≤ gb304)); have n5_ := Aside0.mk ((by rw [hg]; exact (below_size (by repeat (first | (with_reducible first | exact HB.out | apply below_alloc | apply pw_below_drewN | apply below_drew1 | refine below_set ?_ GE300.out) | exact HB.out))) : w.heap.size ≤ gb304)); have n6_ := Aside0.mk ((by rw [hg]; exact Nat.ne_of_lt (blk_lt (g := gb300) (o := .cells #[.int .i64 t297, .int .i64 t298] 30 (0, 0)) (by (with_reducible repeat (first | refine blk_drewN ?_ _ | refine blk_drew ?_ | refine blk_alloc ?_ _)); exact BK300.out)) : gb300 ≠ gb304)); have n7_ := Aside0.mk ((by rw [hg]; exact Nat.ne_of_gt (blk_lt (g := gb300) (o := .cells #[.int .i64 t297, .int .i64 t298] 30 (0, 0)) (by (with_reducible repeat (first | refine blk_drewN ?_ _ | refine blk_drew ?_ | refine blk_alloc ?_ _)); exact BK300.out)) : gb304 ≠ gb300)); clear HO_3; clear BK300; clear HB; have HO_3 := n0_; have BK300 := n1_; have HB := n2_; have BK304 := n3_; have GW304 := n4_; have GE304 := n5_; have NB300_304 := n6_; have NB304_300 := n7_; clear n0_ n1_ n2_ n3_ n4_ n5_ n6_ n7_; clear hb hbox hg; have hnb23 := NB304_300.out; have hnc23 := NB300_304.out; have hcz24_0 : w22.cell? ⟨gb304, 0, none⟩ = some (.int .i64 0) := (blk_cell BK304.out 0).trans rfl; have hcz24_1 : w22.cell? ⟨gb304, 1, none⟩ = some (.int .i64 0) := (blk_cell BK304.out 1).trans rfl; have hfz24_0 := blk_frozen BK304.out 0; have hfz24_1 := blk_frozen BK304.out 1)))
          (try simp only [Act.put, List.setIfInBounds_toArray, List.set_cons_zero, List.set_cons_succ])
          go_cut [79] (fun v79 wc => ∃ (kq : Nat) (x79_16 : Bool), v79 = .bool x79_16 ∧ Aside0 (laws_FnLevels.j1 kq t287 t291 t292 t293 t299 x79_16 t297 t298 = some r) ∧ Aside0 (kq ≤ kj6) ∧ Aside0 (Kd.R k30 30 wc w.heap.size (fun k_ => k_ ≠ gb300 ∧ k_ ≠ gb304) (.slice Ao9 t287.length co9) t287) ∧ Aside0 (wc.heap[gb300]? = some (.cells #[.int .i64 t297, .int .i64 t298] 30 (0, 0))) ∧ Aside0 (wc.heap[gb304]? = some (.cells #[.int .i64 t301, .int .i64 t302] 30 (0, 0))) ∧ Aside0 (Below w.heap.size w wc))
          case first => as_aux_lemma =>
            have H := HC17.out
            clear HC17
            by_cases c25 : (!(t297 == t301) || (!(t298 == t302))) = true
            · rw [if_pos c25] at H
              have c25b0 : (!(t297 == t301) || (!(t298 == t302))) = true := c25
              clear c25
              (first | rw [c25b0] | (simp only [i64_w, i32_w]; rw [c25b0]) | skip)
              have H' := Aside0.mk H
              clear H
              have hnb26 := NB300_304.out
              have hnc26 := NB304_300.out
              have hcz27_0 : w22.cell? ⟨gb300, 0, none⟩ = some (.int .i64 t297) := (blk_cell BK300.out 0).trans rfl
              have hcz27_1 : w22.cell? ⟨gb300, 1, none⟩ = some (.int .i64 t298) := (blk_cell BK300.out 1).trans rfl
              have hfz27_0 := blk_frozen BK300.out 0
              have hfz27_1 := blk_frozen BK300.out 1
              have hcz28_0 : w22.cell? ⟨gb304, 0, none⟩ = some (.int .i64 0) := (blk_cell BK304.out 0).trans rfl
              have hcz28_1 : w22.cell? ⟨gb304, 1, none⟩ = some (.int .i64 0) := (blk_cell BK304.out 1).trans rfl
              have hfz28_0 := blk_frozen BK304.out 0
              have hfz28_1 := blk_frozen BK304.out 1
              go_wp2
              repeat (go_quiet (fail); try go_wp2)
              go_meet
              case rel => exact ⟨_, (true), (by first | rfl | (simp; done) | (simp [*]; done)), H', ⟨by have := HJ6.out; first | omega | exact Nat.le_refl _⟩, ⟨by (with_reducible repeat (first | apply Kd.R_alloc | apply Kd.R_drewN | apply Kd.R_drew)); exact Kd.R_mono (Kd.R_far (p := ⟨gb304, 1, none⟩) (Kd.R_far (p := ⟨gb304, 0, none⟩) (Kd.R_mono HO_3.out (fun k_ hk => (⟨hk, hk.2⟩ : _ ∧ k_ ≠ gb304))) (fun _ hk => hk.2) (.int .i64 t301)) (fun _ hk => hk.2) (.int .i64 t302)) (fun _ hk => ⟨hk.1.1.2, hk.1.2⟩)⟩, ⟨by (with_reducible repeat (first | refine blk_drewN ?_ _ | refine blk_drew ?_ | refine blk_alloc ?_ _)); refine blk_far ?_ NB300_304.out _; (with_reducible repeat (first | refine blk_drewN ?_ _ | refine blk_drew ?_ | refine blk_alloc ?_ _)); refine blk_far ?_ NB300_304.out _; (with_reducible repeat (first | refine blk_drewN ?_ _ | refine blk_drew ?_ | refine blk_alloc ?_ _)); exact BK300.out⟩, ⟨by (with_reducible repeat (first | refine blk_drewN ?_ _ | refine blk_drew ?_ | refine blk_alloc ?_ _)); refine blk_put (cs := #[.int .i64 t301, .int .i64 0]) ?_ 1 _ rfl; (with_reducible repeat (first | refine blk_drewN ?_ _ | refine blk_drew ?_ | refine blk_alloc ?_ _)); refine blk_put (cs := #[.int .i64 0, .int .i64 0]) ?_ 0 _ rfl; (with_reducible repeat (first | refine blk_drewN ?_ _ | refine blk_drew ?_ | refine blk_alloc ?_ _)); exact BK304.out⟩, ⟨by repeat (first | (with_reducible first | exact HB.out | apply below_alloc | apply pw_below_drewN | apply below_drew1 | refine below_set ?_ GE300.out | refine below_set ?_ GE304.out) | exact HB.out)⟩⟩
            · rw [if_neg c25] at H
              have c25b0 : (!(t297 == t301) || (!(t298 == t302))) = false := by simpa using c25
              clear c25
              (first | rw [c25b0] | (simp only [i64_w, i32_w]; rw [c25b0]) | skip)
              have H' := Aside0.mk H
              clear H
              have hnb29 := NB300_304.out
              have hnc29 := NB304_300.out
              have hcz30_0 : w22.cell? ⟨gb300, 0, none⟩ = some (.int .i64 t297) := (blk_cell BK300.out 0).trans rfl
              have hcz30_1 : w22.cell? ⟨gb300, 1, none⟩ = some (.int .i64 t298) := (blk_cell BK300.out 1).trans rfl
              have hfz30_0 := blk_frozen BK300.out 0
              have hfz30_1 := blk_frozen BK300.out 1
              have hcz31_0 : w22.cell? ⟨gb304, 0, none⟩ = some (.int .i64 0) := (blk_cell BK304.out 0).trans rfl
              have hcz31_1 : w22.cell? ⟨gb304, 1, none⟩ = some (.int .i64 0) := (blk_cell BK304.out 1).trans rfl
              have hfz31_0 := blk_frozen BK304.out 0
              have hfz31_1 := blk_frozen BK304.out 1
              go_wp2
              repeat (go_quiet (fail); try go_wp2)
              go_meet
              case rel => exact ⟨_, ((t299 != t303)), (by first | rfl | (simp; done) | (simp [*]; done)), H', ⟨by have := HJ6.out; first | omega | exact Nat.le_refl _⟩, ⟨by (with_reducible repeat (first | apply Kd.R_alloc | apply Kd.R_drewN | apply Kd.R_drew)); exact Kd.R_mono (Kd.R_far (p := ⟨gb304, 1, none⟩) (Kd.R_far (p := ⟨gb304, 0, none⟩) (Kd.R_mono HO_3.out (fun k_ hk => (⟨hk, hk.2⟩ : _ ∧ k_ ≠ gb304))) (fun _ hk => hk.2) (.int .i64 t301)) (fun _ hk => hk.2) (.int .i64 t302)) (fun _ hk => ⟨hk.1.1.2, hk.1.2⟩)⟩, ⟨by (with_reducible repeat (first | refine blk_drewN ?_ _ | refine blk_drew ?_ | refine blk_alloc ?_ _)); refine blk_far ?_ NB300_304.out _; (with_reducible repeat (first | refine blk_drewN ?_ _ | refine blk_drew ?_ | refine blk_alloc ?_ _)); refine blk_far ?_ NB300_304.out _; (with_reducible repeat (first | refine blk_drewN ?_ _ | refine blk_drew ?_ | refine blk_alloc ?_ _)); exact BK300.out⟩, ⟨by (with_reducible repeat (first | refine blk_drewN ?_ _ | refine blk_drew ?_ | refine blk_alloc ?_ _)); refine blk_put (cs := #[.int .i64 t301, .int .i64 0]) ?_ 1 _ rfl; (with_reducible repeat (first | refine blk_drewN ?_ _ | refine blk_drew ?_ | refine blk_alloc ?_ _)); refine blk_put (cs := #[.int .i64 0, .int .i64 0]) ?_ 0 _ rfl; (with_reducible repeat (first | refine blk_drewN ?_ _ | refine blk_drew ?_ | refine blk_alloc ?_ _)); exact BK304.out⟩, ⟨by repeat (first | (with_reducible first | exact HB.out | apply below_alloc | apply pw_below_drewN | apply below_drew1 | refine below_set ?_ GE300.out | refine below_set ?_ GE304.out) | exact HB.out)⟩⟩
          case rest => as_aux_lemma =>
            clear HC17
            try clear c1
            try clear c2
            try clear p2
            try clear c3
            try clear c12
            try clear c12b0
            try clear c12b1
            try clear c13
            try clear c13b0
            try clear c13b1
            try clear c14
            try clear c23
            try clear c25
            try clear c25b0
            try clear c26
            try clear c29
            try clear hcz20_0
            try clear hcz20_1
            try clear hcz24_0
            try clear hcz24_1
            try clear hcz27_0
            try clear hcz27_1
            try clear hcz28_0
            try clear hcz28_1
            try clear hcz30_0
            try clear hcz30_1
            try clear hcz31_0
            try clear hcz31_1
            try clear hfz20_0
            try clear hfz20_1
            try clear hfz24_0
            try clear hfz24_1
            try clear hfz27_0
            try clear hfz27_1
            try clear hfz28_0
            try clear hfz28_1
            try clear hfz30_0
            try clear hfz30_1
            try clear hfz31_0
            try clear hfz31_1
            try clear p2
            obtain ⟨kq, x79_16, rfl, HA, HJ16, HO_3, BK300, BK304, HB⟩ := hcut
            cases kq with
            | zero => exact absurd HA.out (by simp [laws_FnLevels.j1])
            | succ kj16 =>
              have H := HA.out
              clear HA
              simp only [laws_FnLevels.j1] at H
              by_cases c32 : x79_16 = true
              · subst c32
                have H1 : (some false) = some r := by rw [if_pos rfl] at H; exact H
                clear H
                have H := H1
                clear H1
                obtain rfl := Option.some.inj H
                go_wp2
                repeat (go_quiet (fail); try go_wp2)
                go_ret
                exact ⟨by first | rfl | (simp [errW_none, errW_some] <;> rfl) | (simp [*, errW_none, errW_some] <;> rfl), by repeat (first | (with_reducible first | exact HB.out | apply below_alloc | apply pw_below_drewN | apply below_drew1 | refine below_set ?_ GE300.out | refine below_set ?_ GE304.out) | exact HB.out)⟩
              · replace c32 := Bool.eq_false_iff.mpr c32
                subst c32
                have H1 : (laws_FnLevels.l0 kj16 t287 t291 t292 t293 t299 0 t297 t298) = some r := by rw [if_neg (show ¬ (false = true) by decide)] at H; exact H
                clear H
                have H := H1
                clear H1
                have H' := Aside0.mk H
                clear H
                go_wp2
                repeat (go_quiet (fail); try go_wp2)
                go_loopg [15] kj16 (fun kq v15 w' => ∃ (x15_3 : Int), v15 = .int .i64 x15_3 ∧ Aside0 (laws_FnLevels.l0 kq t287 t291 t292 t293 t299 x15_3 t297 t298 = some r) ∧ Aside0 (kq ≤ kj16) ∧ Aside0 (Kd.R k30 30 w' w.heap.size (fun k_ => k_ ≠ gb300 ∧ k_ ≠ gb304) (.slice Ao9 t287.length co9) t287) ∧ Aside0 (w'.heap[gb300]? = some (.cells #[.int .i64 t297, .int .i64 t298] 30 (0, 0))) ∧ Aside0 (w'.heap[gb304]? = some (.cells #[.int .i64 t301, .int .i64 t302] 30 (0, 0))) ∧ Aside0 (Below w.heap.size w w'))
                case atStart => exact ⟨(0), (by first | rfl | (simp; done) | (simp [*]; done)), H', ⟨Nat.le_refl _⟩, ⟨by (with_reducible repeat (first | apply Kd.R_alloc | apply Kd.R_drewN | apply Kd.R_drew)); exact HO_3.out⟩, ⟨by (with_reducible repeat (first | refine blk_drewN ?_ _ | refine blk_drew ?_ | refine blk_alloc ?_ _)); exact BK300.out⟩, ⟨by (with_reducible repeat (first | refine blk_drewN ?_ _ | refine blk_drew ?_ | refine blk_alloc ?_ _)); exact BK304.out⟩, ⟨by repeat (first | (with_reducible first | exact HB.out | apply below_alloc | apply pw_below_drewN | apply below_drew1 | refine below_set ?_ GE300.out | refine below_set ?_ GE304.out) | exact HB.out)⟩⟩
                case round => as_aux_lemma =>
                  clear H'
                  try clear c1
                  try clear c2
                  try clear p2
                  try clear c3
                  try clear c12
                  try clear c12b0
                  try clear c12b1
                  try clear c13
                  try clear c13b0
                  try clear c13b1
                  try clear c14
                  try clear c23
                  try clear c25
                  try clear c25b0
                  try clear c26
                  try clear c29
                  try clear c32
                  try clear hcz20_0
                  try clear hcz20_1
                  try clear hcz24_0
                  try clear hcz24_1
                  try clear hcz27_0
                  try clear hcz27_1
                  try clear hcz28_0
                  try clear hcz28_1
                  try clear hcz30_0
                  try clear hcz30_1
                  try clear hcz31_0
                  try clear hcz31_1
                  try clear hfz20_0
                  try clear hfz20_1
                  try clear hfz24_0
                  try clear hfz24_1
                  try clear hfz27_0
                  try clear hfz27_1
                  try clear hfz28_0
                  try clear hfz28_1
                  try clear hfz30_0
                  try clear hfz30_1
                  try clear hfz31_0
                  try clear hfz31_1
                  try clear p2
                  obtain ⟨x15_3, rfl, HA, HK3, HO_3, BK300, BK304, HB⟩ := hrel
                  cases gk with
                  | zero => exact absurd HA.out (by simp [laws_FnLevels.l0])
                  | succ k3 =>
                    have H := HA.out
                    clear HA
                    simp only [laws_FnLevels.l0] at H
                    have HC33 := Aside0.mk H
                    clear H
                    go_upto_region 13 with (fail)
                    repeat (go_quiet (fail); go_upto_region 13 with (fail))
                    go_cut [86] (fun v86 wc => ∃ (kq : Nat) (x86_32 : Bool), v86 = .bool x86_32 ∧ Aside0 (laws_FnLevels.j3 kq t287 t291 t292 t293 t299 x15_3 x86_32 t297 t298 = some r) ∧ Aside0 (kq ≤ k3) ∧ Aside0 (Kd.R k30 30 wc w.heap.size (fun k_ => k_ ≠ gb300 ∧ k_ ≠ gb304) (.slice Ao9 t287.length co9) t287) ∧ Aside0 (wc.heap[gb300]? = some (.cells #[.int .i64 t297, .int .i64 t298] 30 (0, 0))) ∧ Aside0 (wc.heap[gb304]? = some (.cells #[.int .i64 t301, .int .i64 t302] 30 (0, 0))) ∧ Aside0 (Below w.heap.size w wc))
                    case first => as_aux_lemma =>
                      have H := HC33.out
                      clear HC33
                      by_cases c34 : x15_3 < (t287.length : Int)
                      · rw [if_pos c34] at H
                        have c34b0 : decide (x15_3 < (t287.length : Int)) = true := decide_eq_true c34
                        clear c34
                        (first | rw [c34b0] | (simp only [i64_w, i32_w]; rw [c34b0]) | skip)
                        have H' := Aside0.mk H
                        clear H
                        go_wp2
                        repeat (go_quiet (fail); try go_wp2)
                        go_meet
                        case rel => exact ⟨_, (t299), (by first | rfl | (simp; done) | (simp [*]; done)), H', ⟨by have := HJ6.out; have := HJ16.out; have := HK3.out; first | omega | exact Nat.le_refl _⟩, ⟨by (with_reducible repeat (first | apply Kd.R_alloc | apply Kd.R_drewN | apply Kd.R_drew)); exact HO_3.out⟩, ⟨by (with_reducible repeat (first | refine blk_drewN ?_ _ | refine blk_drew ?_ | refine blk_alloc ?_ _)); exact BK300.out⟩, ⟨by (with_reducible repeat (first | refine blk_drewN ?_ _ | refine blk_drew ?_ | refine blk_alloc ?_ _)); exact BK304.out⟩, ⟨by repeat (first | (with_reducible first | exact HB.out | apply below_alloc | apply pw_below_drewN | apply below_drew1 | refine below_set ?_ GE300.out | refine below_set ?_ GE304.out) | exact HB.out)⟩⟩
                      · rw [if_neg c34] at H
                        have c34b0 : decide (x15_3 < (t287.length : Int)) = false := decide_eq_false c34
                        clear c34
                        (first | rw [c34b0] | (simp only [i64_w, i32_w]; rw [c34b0]) | skip)
                        have H' := Aside0.mk H
                        clear H
                        go_wp2
                        repeat (go_quiet (fail); try go_wp2)
                        go_meet
                        case rel => exact ⟨_, (false), (by first | rfl | (simp; done) | (simp [*]; done)), H', ⟨by have := HJ6.out; have := HJ16.out; have := HK3.out; first | omega | exact Nat.le_refl _⟩, ⟨by (with_reducible repeat (first | apply Kd.R_alloc | apply Kd.R_drewN | apply Kd.R_drew)); exact HO_3.out⟩, ⟨by (with_reducible repeat (first | refine blk_drewN ?_ _ | refine blk_drew ?_ | refine blk_alloc ?_ _)); exact BK300.out⟩, ⟨by (with_reducible repeat (first | refine blk_drewN ?_ _ | refine blk_drew ?_ | refine blk_alloc ?_ _)); exact BK304.out⟩, ⟨by repeat (first | (with_reducible first | exact HB.out | apply below_alloc | apply pw_below_drewN | apply below_drew1 | refine below_set ?_ GE300.out | refine below_set ?_ GE304.out) | exact HB.out)⟩⟩
                    case rest => as_aux_lemma =>
                      clear HC33
                      try clear c1
                      try clear c2
                      try clear p2
                      try clear c3
                      try clear c12
                      try clear c12b0
                      try clear c12b1
                      try clear c13
                      try clear c13b0
                      try clear c13b1
                      try clear c14
                      try clear c23
                      try clear c25
                      try clear c25b0
                      try clear c26
                      try clear c29
                      try clear c32
                      try clear c34
                      try clear c34b0
                      try clear hcz20_0
                      try clear hcz20_1
                      try clear hcz24_0
                      try clear hcz24_1
                      try clear hcz27_0
                      try clear hcz27_1
                      try clear hcz28_0
                      try clear hcz28_1
                      try clear hcz30_0
                      try clear hcz30_1
                      try clear hcz31_0
                      try clear hcz31_1
                      try clear hfz20_0
                      try clear hfz20_1
                      try clear hfz24_0
                      try clear hfz24_1
                      try clear hfz27_0
                      try clear hfz27_1
                      try clear hfz28_0
                      try clear hfz28_1
                      try clear hfz30_0
                      try clear hfz30_1
                      try clear hfz31_0
                      try clear hfz31_1
                      try clear p2
                      obtain ⟨kq, x86_32, rfl, HA, HJ32, HO_3, BK300, BK304, HB⟩ := hcut
                      cases kq with
                      | zero => exact absurd HA.out (by simp [laws_FnLevels.j3])
                      | succ kj32 =>
                        have H := HA.out
                        clear HA
                        simp only [laws_FnLevels.j3] at H
                        by_cases c35 : x86_32 = true
                        · subst c35
                          have H1 : (if 0 ≤ x15_3 then (if x15_3 < (t287.length : Int) then ((impl_LevelIn.f kj32 t287 ((rd_T30 t287 x15_3).f0)).bind fun bt306 => (if bt306.2.2 = true then (if bt306.1 = ((rd_T30 t287 x15_3).f1) then (if bt306.2.1 = 1 then (laws_FnLevels.j4 kj32 t287 t291 t292 t293 t299 x15_3 (decide (bt306.1 > t298)) t297 t298) else (laws_FnLevels.j4 kj32 t287 t291 t292 t293 t299 x15_3 true t297 t298)) else (laws_FnLevels.j4 kj32 t287 t291 t292 t293 t299 x15_3 true t297 t298)) else (laws_FnLevels.j4 kj32 t287 t291 t292 t293 t299 x15_3 true t297 t298))) else (none)) else (none)) = some r := by rw [if_pos rfl] at H; exact H
                          clear H
                          have H := H1
                          clear H1
                          by_cases c36 : 0 ≤ x15_3
                          · rw [if_pos c36] at H
                            have c36b0 : decide (0 ≤ x15_3) = true := decide_eq_true c36
                            clear c36
                            by_cases c37 : x15_3 < (t287.length : Int)
                            · rw [if_pos c37] at H
                              have c37b0 : decide (x15_3 < (t287.length : Int)) = true := decide_eq_true c37
                              clear c37
                              replace H := Option.bind_eq_some_iff.mp H
                              obtain ⟨⟨t306, t307, t308⟩, A380, H⟩ := H
                              replace H : (if t308 = true then (if t306 = ((rd_T30 t287 x15_3).f1) then (if t307 = 1 then (laws_FnLevels.j4 kj32 t287 t291 t292 t293 t299 x15_3 (decide (t306 > t298)) t297 t298) else (laws_FnLevels.j4 kj32 t287 t291 t292 t293 t299 x15_3 true t297 t298)) else (laws_FnLevels.j4 kj32 t287 t291 t292 t293 t299 x15_3 true t297 t298)) else (laws_FnLevels.j4 kj32 t287 t291 t292 t293 t299 x15_3 true t297 t298)) = some r := H
                              have A38 := Aside0.mk A380
                              clear A380
                              have HC39 := Aside0.mk H
                              clear H
                              have p305 : 0 ≤ (x15_3 : Int) := of_decide_eq_true (by first | (with_reducible assumption) | assumption)
                              have q305 : x15_3 < (t287.length : Int) := of_decide_eq_true (by first | (with_reducible assumption) | assumption)
                              obtain ⟨ad305, e305, hx305_0, hx305_1⟩ := at_T30 (Kd.R_reads' HO_3.out).2.2 x15_3 p305 q305
                              cases e305
                              replace p305 := eq_true p305
                              replace q305 := eq_true q305
                              go_upto_region 16 with (first | (go_at_call 9; (with_reducible refine (impl_LevelIn.calls kj32 _ _ t287 ((rd_T30 t287 x15_3).f0) t306 t307 t308 _ ?side1 ?side2 A38.out).mono ?_); (case side1 => repeat (first | exact (Kd.R_reads' HO_3.out).2.2 | (with_reducible refine Kd.C_alloc ?_ _) | (with_reducible refine Kd.C_drewN ?_ _) | (with_reducible refine Kd.C_drew ?_))); (case side2 => exact (Kd.R_reads' HO_3.out).2.1); rintro e w40 ⟨rfl, hb⟩; have n0_ := Aside0.mk (Kd.R_below (by (with_reducible repeat (first | apply Kd.R_alloc | apply Kd.R_drewN | apply Kd.R_drew)); exact HO_3.out) hb); have n1_ := Aside0.mk (blk_below (g := gb300) (o := .cells #[.int .i64 t297, .int .i64 t298] 30 (0, 0)) (by (with_reducible repeat (first | refine blk_drewN ?_ _ | refine blk_drew ?_ | refine blk_alloc ?_ _)); exact BK300.out) hb); have n2_ := Aside0.mk (blk_below (g := gb304) (o := .cells #[.int .i64 t301, .int .i64 t302] 30 (0, 0)) (by (with_reducible repeat (first | refine blk_drewN ?_ _ | refine blk_drew ?_ | refine blk_alloc ?_ _)); exact BK304.out) hb); have n3_ := Aside0.mk (below_step (by repeat (first | (with_reducible first | exact HB.out | apply below_alloc | apply pw_below_drewN | apply below_drew1 | refine below_set ?_ GE300.out | refine below_set ?_ GE304.out) | exact HB.out)) hb); clear HO_3; clear BK300; clear BK304; clear HB; have HO_3 := n0_; have BK300 := n1_; have BK304 := n2_; have HB := n3_; clear n0_ n1_ n2_ n3_; (try clear hb); (try clear hb2); (try clear hk); (try clear hi)))
                              repeat (go_quiet (first | (go_at_call 9; (with_reducible refine (impl_LevelIn.calls kj32 _ _ t287 ((rd_T30 t287 x15_3).f0) t306 t307 t308 _ ?side1 ?side2 A38.out).mono ?_); (case side1 => repeat (first | exact (Kd.R_reads' HO_3.out).2.2 | (with_reducible refine Kd.C_alloc ?_ _) | (with_reducible refine Kd.C_drewN ?_ _) | (with_reducible refine Kd.C_drew ?_))); (case side2 => exact (Kd.R_reads' HO_3.out).2.1); rintro e w40 ⟨rfl, hb⟩; have n0_ := Aside0.mk (Kd.R_below (by (with_reducible repeat (first | apply Kd.R_alloc | apply Kd.R_drewN | apply Kd.R_drew)); exact HO_3.out) hb); have n1_ := Aside0.mk (blk_below (g := gb300) (o := .cells #[.int .i64 t297, .int .i64 t298] 30 (0, 0)) (by (with_reducible repeat (first | refine blk_drewN ?_ _ | refine blk_drew ?_ | refine blk_alloc ?_ _)); exact BK300.out) hb); have n2_ := Aside0.mk (blk_below (g := gb304) (o := .cells #[.int .i64 t301, .int .i64 t302] 30 (0, 0)) (by (with_reducible repeat (first | refine blk_drewN ?_ _ | refine blk_drew ?_ | refine blk_alloc ?_ _)); exact BK304.out) hb); have n3_ := Aside0.mk (below_step (by repeat (first | (with_reducible first | exact HB.out | apply below_alloc | apply pw_below_drewN | apply below_drew1 | refine below_set ?_ GE300.out | refine below_set ?_ GE304.out) | exact HB.out)) hb); clear HO_3; clear BK300; clear BK304; clear HB; have HO_3 := n0_; have BK300 := n1_; have BK304 := n2_; have HB := n3_; clear n0_ n1_ n2_ n3_; (try clear hb); (try clear hb2); (try clear hk); (try clear hi))); go_upto_region 16 with (first | (go_at_call 9; (with_reducible refine (impl_LevelIn.calls kj32 _ _ t287 ((rd_T30 t287 x15_3).f0) t306 t307 t308 _ ?side1 ?side2 A38.out).mono ?_); (case side1 => repeat (first | exact (Kd.R_reads' HO_3.out).2.2 | (with_reducible refine Kd.C_alloc ?_ _) | (with_reducible refine Kd.C_drewN ?_ _) | (with_reducible refine Kd.C_drew ?_))); (case side2 => exact (Kd.R_reads' HO_3.out).2.1); rintro e w40 ⟨rfl, hb⟩; have n0_ := Aside0.mk (Kd.R_below (by (with_reducible repeat (first | apply Kd.R_alloc | apply Kd.R_drewN | apply Kd.R_drew)); exact HO_3.out) hb); have n1_ := Aside0.mk (blk_below (g := gb300) (o := .cells #[.int .i64 t297, .int .i64 t298] 30 (0, 0)) (by (with_reducible repeat (first | refine blk_drewN ?_ _ | refine blk_drew ?_ | refine blk_alloc ?_ _)); exact BK300.out) hb); have n2_ := Aside0.mk (blk_below (g := gb304) (o := .cells #[.int .i64 t301, .int .i64 t302] 30 (0, 0)) (by (with_reducible repeat (first | refine blk_drewN ?_ _ | refine blk_drew ?_ | refine blk_alloc ?_ _)); exact BK304.out) hb); have n3_ := Aside0.mk (below_step (by repeat (first | (with_reducible first | exact HB.out | apply below_alloc | apply pw_below_drewN | apply below_drew1 | refine below_set ?_ GE300.out | refine below_set ?_ GE304.out) | exact HB.out)) hb); clear HO_3; clear BK300; clear BK304; clear HB; have HO_3 := n0_; have BK300 := n1_; have BK304 := n2_; have HB := n3_; clear n0_ n1_ n2_ n3_; (try clear hb); (try clear hb2); (try clear hk); (try clear hi))))
                              (try simp only [Act.put, List.setIfInBounds_toArray, List.set_cons_zero, List.set_cons_succ])
                              go_cut [120] (fun v120 wc => ∃ (kq : Nat) (x120_38 : Bool), v120 = .bool x120_38 ∧ Aside0 (laws_FnLevels.j4 kq t287 t291 t292 t293 t299 x15_3 x120_38 t297 t298 = some r) ∧ Aside0 (kq ≤ kj32) ∧ Aside0 (Kd.R k30 30 wc w.heap.size (fun k_ => k_ ≠ gb300 ∧ k_ ≠ gb304) (.slice (some ad305) t287.length co9) t287) ∧ Aside0 (wc.heap[gb300]? = some (.cells #[.int .i64 t297, .int .i64 t298] 30 (0, 0))) ∧ Aside0 (wc.heap[gb304]? = some (.cells #[.int .i64 t301, .int .i64 t302] 30 (0, 0))) ∧ Aside0 (Below w.heap.size w wc))
                              case first => as_aux_lemma =>
                                have H := HC39.out
                                clear HC39
                                by_cases c41 : t308 = true
                                · subst c41
                                  have H1 : (if t306 = ((rd_T30 t287 x15_3).f1) then (if t307 = 1 then (laws_FnLevels.j4 kj32 t287 t291 t292 t293 t299 x15_3 (decide (t306 > t298)) t297 t298) else (laws_FnLevels.j4 kj32 t287 t291 t292 t293 t299 x15_3 true t297 t298)) else (laws_FnLevels.j4 kj32 t287 t291 t292 t293 t299 x15_3 true t297 t298)) = some r := by rw [if_pos rfl] at H; exact H
                                  clear H
                                  have H := H1
                                  clear H1
                                  by_cases c42 : t306 = ((rd_T30 t287 x15_3).f1)
                                  · rw [if_pos c42] at H
                                    have c42b0 : (t306 == ((rd_T30 t287 x15_3).f1)) = true := beq_iff_eq.mpr c42
                                    have c42b1 : (t306 != ((rd_T30 t287 x15_3).f1)) = false := bne_eq_false_iff_eq.mpr c42
                                    clear c42
                                    (first | rw [c42b0] | (simp only [i64_w, i32_w]; rw [c42b0]) | skip)
                                    by_cases c43 : t307 = 1
                                    · rw [if_pos c43] at H
                                      have c43b0 : (t307 == 1) = true := beq_iff_eq.mpr c43
                                      have c43b1 : (t307 != 1) = false := bne_eq_false_iff_eq.mpr c43
                                      clear c43
                                      have H' := Aside0.mk H
                                      clear H
                                      have p309 : 0 ≤ (x15_3 : Int) := of_decide_eq_true (by first | (with_reducible assumption) | assumption)
                                      have q309 : x15_3 < (t287.length : Int) := of_decide_eq_true (by first | (with_reducible assumption) | assumption)
                                      obtain ⟨ad309, e309, hx309_0, hx309_1⟩ := at_T30 (Kd.R_reads' HO_3.out).2.2 x15_3 p309 q309
                                      obtain rfl : ad305 = ad309 := (by injection e309)
                                      replace p309 := eq_true p309
                                      replace q309 := eq_true q309
                                      have hnb44 := NB300_304.out
                                      have hnc44 := NB304_300.out
                                      have hcz45_0 : w40.cell? ⟨gb300, 0, none⟩ = some (.int .i64 t297) := (blk_cell BK300.out 0).trans rfl
                                      have hcz45_1 : w40.cell? ⟨gb300, 1, none⟩ = some (.int .i64 t298) := (blk_cell BK300.out 1).trans rfl
                                      have hfz45_0 := blk_frozen BK300.out 0
                                      have hfz45_1 := blk_frozen BK300.out 1
                                      go_wp2
                                      repeat (go_quiet (fail); try go_wp2)
                                      go_meet
                                      case rel => exact ⟨_, (decide (t306 > t298)), (by first | rfl | (simp; done) | (simp [*]; done)), H', ⟨by have := HJ6.out; have := HJ16.out; have := HK3.out; have := HJ32.out; first | omega | exact Nat.le_refl _⟩, ⟨by (with_reducible repeat (first | apply Kd.R_alloc | apply Kd.R_drewN | apply Kd.R_drew)); exact HO_3.out⟩, ⟨by (with_reducible repeat (first | refine blk_drewN ?_ _ | refine blk_drew ?_ | refine blk_alloc ?_ _)); exact BK300.out⟩, ⟨by (with_reducible repeat (first | refine blk_drewN ?_ _ | refine blk_drew ?_ | refine blk_alloc ?_ _)); exact BK304.out⟩, ⟨by repeat (first | (with_reducible first | exact HB.out | apply below_alloc | apply pw_below_drewN | apply below_drew1 | refine below_set ?_ GE300.out | refine below_set ?_ GE304.out) | exact HB.out)⟩⟩
                                    · rw [if_neg c43] at H
                                      have c43b0 : (t307 == 1) = false := beq_eq_false_iff_ne.mpr c43
                                      have c43b1 : (t307 != 1) = true := bne_iff_ne.mpr c43
                                      have H' := Aside0.mk H
                                      clear H
                                      have p309 : 0 ≤ (x15_3 : Int) := of_decide_eq_true (by first | (with_reducible assumption) | assumption)
                                      have q309 : x15_3 < (t287.length : Int) := of_decide_eq_true (by first | (with_reducible assumption) | assumption)
                                      obtain ⟨ad309, e309, hx309_0, hx309_1⟩ := at_T30 (Kd.R_reads' HO_3.out).2.2 x15_3 p309 q309
                                      obtain rfl : ad305 = ad309 := (by injection e309)
                                      replace p309 := eq_true p309
                                      replace q309 := eq_true q309
                                      go_wp2
                                      repeat (go_quiet (fail); try go_wp2)
                                      go_meet
                                      case rel => exact ⟨_, (true), (by first | rfl | (simp; done) | (simp [*]; done)), H', ⟨by have := HJ6.out; have := HJ16.out; have := HK3.out; have := HJ32.out; first | omega | exact Nat.le_refl _⟩, ⟨by (with_reducible repeat (first | apply Kd.R_alloc | apply Kd.R_drewN | apply Kd.R_drew)); exact HO_3.out⟩, ⟨by (with_reducible repeat (first | refine blk_drewN ?_ _ | refine blk_drew ?_ | refine blk_alloc ?_ _)); exact BK300.out⟩, ⟨by (with_reducible repeat (first | refine blk_drewN ?_ _ | refine blk_drew ?_ | refine blk_alloc ?_ _)); exact BK304.out⟩, ⟨by repeat (first | (with_reducible first | exact HB.out | apply below_alloc | apply pw_below_drewN | apply below_drew1 | refine below_set ?_ GE300.out | refine below_set ?_ GE304.out) | exact HB.out)⟩⟩
                                  · rw [if_neg c42] at H
                                    have c42b0 : (t306 == ((rd_T30 t287 x15_3).f1)) = false := beq_eq_false_iff_ne.mpr c42
                                    have c42b1 : (t306 != ((rd_T30 t287 x15_3).f1)) = true := bne_iff_ne.mpr c42
                                    (first | rw [c42b0] | (simp only [i64_w, i32_w]; rw [c42b0]) | skip)
                                    have H' := Aside0.mk H
                                    clear H
                                    have p309 : 0 ≤ (x15_3 : Int) := of_decide_eq_true (by first | (with_reducible assumption) | assumption)
                                    have q309 : x15_3 < (t287.length : Int) := of_decide_eq_true (by first | (with_reducible assumption) | assumption)
                                    obtain ⟨ad309, e309, hx309_0, hx309_1⟩ := at_T30 (Kd.R_reads' HO_3.out).2.2 x15_3 p309 q309
                                    obtain rfl : ad305 = ad309 := (by injection e309)
                                    replace p309 := eq_true p309
                                    replace q309 := eq_true q309
                                    go_wp2
                                    repeat (go_quiet (fail); try go_wp2)
                                    go_meet
                                    case rel => exact ⟨_, (true), (by first | rfl | (simp; done) | (simp [*]; done)), H', ⟨by have := HJ6.out; have := HJ16.out; have := HK3.out; have := HJ32.out; first | omega | exact Nat.le_refl _⟩, ⟨by (with_reducible repeat (first | apply Kd.R_alloc | apply Kd.R_drewN | apply Kd.R_drew)); exact HO_3.out⟩, ⟨by (with_reducible repeat (first | refine blk_drewN ?_ _ | refine blk_drew ?_ | refine blk_alloc ?_ _)); exact BK300.out⟩, ⟨by (with_reducible repeat (first | refine blk_drewN ?_ _ | refine blk_drew ?_ | refine blk_alloc ?_ _)); exact BK304.out⟩, ⟨by repeat (first | (with_reducible first | exact HB.out | apply below_alloc | apply pw_below_drewN | apply below_drew1 | refine below_set ?_ GE300.out | refine below_set ?_ GE304.out) | exact HB.out)⟩⟩
                                · replace c41 := Bool.eq_false_iff.mpr c41
                                  subst c41
                                  have H1 : (laws_FnLevels.j4 kj32 t287 t291 t292 t293 t299 x15_3 true t297 t298) = some r := by rw [if_neg (show ¬ (false = true) by decide)] at H; exact H
                                  clear H
                                  have H := H1
                                  clear H1
                                  have H' := Aside0.mk H
                                  clear H
                                  go_wp2
                                  repeat (go_quiet (fail); try go_wp2)
                                  go_meet
                                  case rel => exact ⟨_, (true), (by first | rfl | (simp; done) | (simp [*]; done)), H', ⟨by have := HJ6.out; have := HJ16.out; have := HK3.out; have := HJ32.out; first | omega | exact Nat.le_refl _⟩, ⟨by (with_reducible repeat (first | apply Kd.R_alloc | apply Kd.R_drewN | apply Kd.R_drew)); exact HO_3.out⟩, ⟨by (with_reducible repeat (first | refine blk_drewN ?_ _ | refine blk_drew ?_ | refine blk_alloc ?_ _)); exact BK300.out⟩, ⟨by (with_reducible repeat (first | refine blk_drewN ?_ _ | refine blk_drew ?_ | refine blk_alloc ?_ _)); exact BK304.out⟩, ⟨by repeat (first | (with_reducible first | exact HB.out | apply below_alloc | apply pw_below_drewN | apply below_drew1 | refine below_set ?_ GE300.out | refine below_set ?_ GE304.out) | exact HB.out)⟩⟩
                              case rest => as_aux_lemma =>
                                clear HC39
                                try clear c1
                                try clear c2
                                try clear p2
                                try clear c3
                                try clear p3
                                try clear q3
                                try clear hx3
                                try clear c4
                                try clear c12
                                try clear c12b0
                                try clear c12b1
                                try clear c13
                                try clear c13b0
                                try clear c13b1
                                try clear c14
                                try clear c23
                                try clear c25
                                try clear c25b0
                                try clear c26
                                try clear c29
                                try clear p30
                                try clear q30
                                try clear hx30
                                try clear c32
                                try clear c34
                                try clear c34b0
                                try clear c35
                                try clear c36
                                try clear c36b0
                                try clear c37
                                try clear c37b0
                                try clear c41
                                try clear c42
                                try clear c42b0
                                try clear c42b1
                                try clear c43
                                try clear c43b0
                                try clear c43b1
                                try clear c44
                                try clear hcz20_0
                                try clear hcz20_1
                                try clear hcz24_0
                                try clear hcz24_1
                                try clear hcz27_0
                                try clear hcz27_1
                                try clear hcz28_0
                                try clear hcz28_1
                                try clear hcz30_0
                                try clear hcz30_1
                                try clear hcz31_0
                                try clear hcz31_1
                                try clear hcz45_0
                                try clear hcz45_1
                                try clear hfz20_0
                                try clear hfz20_1
                                try clear hfz24_0
                                try clear hfz24_1
                                try clear hfz27_0
                                try clear hfz27_1
                                try clear hfz28_0
                                try clear hfz28_1
                                try clear hfz30_0
                                try clear hfz30_1
                                try clear hfz31_0
                                try clear hfz31_1
                                try clear hfz45_0
                                try clear hfz45_1
                                try clear hx305_0
                                try clear hx305_1
                                try clear hx309_0
                                try clear hx309_1
                                try clear p2
                                try clear p305
                                try clear p309
                                try clear q305
                                try clear q309
                                obtain ⟨kq, x120_38, rfl, HA, HJ38, HO_3, BK300, BK304, HB⟩ := hcut
                                cases kq with
                                | zero => exact absurd HA.out (by simp [laws_FnLevels.j4])
                                | succ kj38 =>
                                  have H := HA.out
                                  clear HA
                                  simp only [laws_FnLevels.j4] at H
                                  by_cases c46 : x120_38 = true
                                  · subst c46
                                    have H1 : (some false) = some r := by rw [if_pos rfl] at H; exact H
                                    clear H
                                    have H := H1
                                    clear H1
                                    obtain rfl := Option.some.inj H
                                    go_wp2
                                    repeat (go_quiet (fail); try go_wp2)
                                    go_ret
                                    exact ⟨by first | rfl | (simp [errW_none, errW_some] <;> rfl) | (simp [*, errW_none, errW_some] <;> rfl), by repeat (first | (with_reducible first | exact HB.out | apply below_alloc | apply pw_below_drewN | apply below_drew1 | refine below_set ?_ GE300.out | refine below_set ?_ GE304.out) | exact HB.out)⟩
                                  · replace c46 := Bool.eq_false_iff.mpr c46
                                    subst c46
                                    have H1 : (laws_FnLevels.l0 kj38 t287 t291 t292 t293 t299 (wrap64 (x15_3 + 1)) t297 t298) = some r := by rw [if_neg (show ¬ (false = true) by decide)] at H; exact H
                                    clear H
                                    have H := H1
                                    clear H1
                                    have H' := Aside0.mk H
                                    clear H
                                    go_wp2
                                    repeat (go_quiet (fail); try go_wp2)
                                    go_roundg kj38
                                    case measure => have := HJ6.out; have := HJ16.out; have := HK3.out; have := HJ32.out; have := HJ38.out; omega
                                    case rel => exact ⟨(wrap64 (x15_3 + 1)), (by first | rfl | (simp; done) | (simp [*]; done)), H', ⟨by have := HJ6.out; have := HJ16.out; have := HK3.out; have := HJ32.out; have := HJ38.out; omega⟩, ⟨by (with_reducible repeat (first | apply Kd.R_alloc | apply Kd.R_drewN | apply Kd.R_drew)); exact HO_3.out⟩, ⟨by (with_reducible repeat (first | refine blk_drewN ?_ _ | refine blk_drew ?_ | refine blk_alloc ?_ _)); exact BK300.out⟩, ⟨by (with_reducible repeat (first | refine blk_drewN ?_ _ | refine blk_drew ?_ | refine blk_alloc ?_ _)); exact BK304.out⟩, ⟨by repeat (first | (with_reducible first | exact HB.out | apply below_alloc | apply pw_below_drewN | apply below_drew1 | refine below_set ?_ GE300.out | refine below_set ?_ GE304.out) | exact HB.out)⟩⟩
                            · rw [if_neg c37] at H
                              exact absurd H (by simp)
                          · rw [if_neg c36] at H
                            exact absurd H (by simp)
                        · replace c35 := Bool.eq_false_iff.mpr c35
                          subst c35
                          have H1 : (if t293 = true then (laws_FnLevels.j5 kj32 t287 (decide (t291 > (wrap64 (t298 * t292))))) else (laws_FnLevels.j5 kj32 t287 false)) = some r := by rw [if_neg (show ¬ (false = true) by decide)] at H; exact H
                          clear H
                          have H := H1
                          clear H1
                          have HC47 := Aside0.mk H
                          clear H
                          go_upto_region 18 with (fail)
                          repeat (go_quiet (fail); go_upto_region 18 with (fail))
                          go_cut [129] (fun v129 wc => ∃ (kq : Nat) (x129_46 : Bool), v129 = .bool x129_46 ∧ Aside0 (laws_FnLevels.j5 kq t287 x129_46 = some r) ∧ Aside0 (kq ≤ kj32) ∧ Aside0 (Kd.R k30 30 wc w.heap.size (fun k_ => k_ ≠ gb300 ∧ k_ ≠ gb304) (.slice Ao9 t287.length co9) t287) ∧ Aside0 (wc.heap[gb300]? = some (.cells #[.int .i64 t297, .int .i64 t298] 30 (0, 0))) ∧ Aside0 (wc.heap[gb304]? = some (.cells #[.int .i64 t301, .int .i64 t302] 30 (0, 0))) ∧ Aside0 (Below w.heap.size w wc))
                          case first => as_aux_lemma =>
                            have H := HC47.out
                            clear HC47
                            by_cases c48 : t293 = true
                            · subst c48
                              have H1 : (laws_FnLevels.j5 kj32 t287 (decide (t291 > (wrap64 (t298 * t292))))) = some r := by rw [if_pos rfl] at H; exact H
                              clear H
                              have H := H1
                              clear H1
                              have H' := Aside0.mk H
                              clear H
                              have hnb49 := NB300_304.out
                              have hnc49 := NB304_300.out
                              have hcz50_0 : wc.cell? ⟨gb300, 0, none⟩ = some (.int .i64 t297) := (blk_cell BK300.out 0).trans rfl
                              have hcz50_1 : wc.cell? ⟨gb300, 1, none⟩ = some (.int .i64 t298) := (blk_cell BK300.out 1).trans rfl
                              have hfz50_0 := blk_frozen BK300.out 0
                              have hfz50_1 := blk_frozen BK300.out 1
                              go_wp2
                              repeat (go_quiet (fail); try go_wp2)
                              go_meet
                              case rel => exact ⟨_, (decide (t291 > (wrap64 (t298 * t292)))), (by first | rfl | (simp; done) | (simp [*]; done)), H', ⟨by have := HJ6.out; have := HJ16.out; have := HK3.out; have := HJ32.out; first | omega | exact Nat.le_refl _⟩, ⟨by (with_reducible repeat (first | apply Kd.R_alloc | apply Kd.R_drewN | apply Kd.R_drew)); exact HO_3.out⟩, ⟨by (with_reducible repeat (first | refine blk_drewN ?_ _ | refine blk_drew ?_ | refine blk_alloc ?_ _)); exact BK300.out⟩, ⟨by (with_reducible repeat (first | refine blk_drewN ?_ _ | refine blk_drew ?_ | refine blk_alloc ?_ _)); exact BK304.out⟩, ⟨by repeat (first | (with_reducible first | exact HB.out | apply below_alloc | apply pw_below_drewN | apply below_drew1 | refine below_set ?_ GE300.out | refine below_set ?_ GE304.out) | exact HB.out)⟩⟩
                            · replace c48 := Bool.eq_false_iff.mpr c48
                              subst c48
                              have H1 : (laws_FnLevels.j5 kj32 t287 false) = some r := by rw [if_neg (show ¬ (false = true) by decide)] at H; exact H
                              clear H
                              have H := H1
                              clear H1
                              have H' := Aside0.mk H
                              clear H
                              go_wp2
                              repeat (go_quiet (fail); try go_wp2)
                              go_meet
                              case rel => exact ⟨_, (false), (by first | rfl | (simp; done) | (simp [*]; done)), H', ⟨by have := HJ6.out; have := HJ16.out; have := HK3.out; have := HJ32.out; first | omega | exact Nat.le_refl _⟩, ⟨by (with_reducible repeat (first | apply Kd.R_alloc | apply Kd.R_drewN | apply Kd.R_drew)); exact HO_3.out⟩, ⟨by (with_reducible repeat (first | refine blk_drewN ?_ _ | refine blk_drew ?_ | refine blk_alloc ?_ _)); exact BK300.out⟩, ⟨by (with_reducible repeat (first | refine blk_drewN ?_ _ | refine blk_drew ?_ | refine blk_alloc ?_ _)); exact BK304.out⟩, ⟨by repeat (first | (with_reducible first | exact HB.out | apply below_alloc | apply pw_below_drewN | apply below_drew1 | refine below_set ?_ GE300.out | refine below_set ?_ GE304.out) | exact HB.out)⟩⟩
                          case rest => as_aux_lemma =>
                            clear HC47
                            try clear c1
                            try clear c2
                            try clear p2
                            try clear c3
                            try clear p3
                            try clear q3
                            try clear hx3
                            try clear c4
                            try clear p6
                            try clear c12
                            try clear c12b0
                            try clear c12b1
                            try clear c13
                            try clear c13b0
                            try clear c13b1
                            try clear c14
                            try clear c23
                            try clear c25
                            try clear c25b0
                            try clear c26
                            try clear c29
                            try clear p30
                            try clear q30
                            try clear hx30
                            try clear c32
                            try clear c34
                            try clear c34b0
                            try clear c35
                            try clear c36
                            try clear c36b0
                            try clear c37
                            try clear c37b0
                            try clear c41
                            try clear c42
                            try clear c42b0
                            try clear c42b1
                            try clear c43
                            try clear c43b0
                            try clear c43b1
                            try clear c44
                            try clear c46
                            try clear c48
                            try clear c49
                            try clear hcz20_0
                            try clear hcz20_1
                            try clear hcz24_0
                            try clear hcz24_1
                            try clear hcz27_0
                            try clear hcz27_1
                            try clear hcz28_0
                            try clear hcz28_1
                            try clear hcz30_0
                            try clear hcz30_1
                            try clear hcz31_0
                            try clear hcz31_1
                            try clear hcz45_0
                            try clear hcz45_1
                            try clear hcz50_0
                            try clear hcz50_1
                            try clear hfz20_0
                            try clear hfz20_1
                            try clear hfz24_0
                            try clear hfz24_1
                            try clear hfz27_0
                            try clear hfz27_1
                            try clear hfz28_0
                            try clear hfz28_1
                            try clear hfz30_0
                            try clear hfz30_1
                            try clear hfz31_0
                            try clear hfz31_1
                            try clear hfz45_0
                            try clear hfz45_1
                            try clear hfz50_0
                            try clear hfz50_1
                            try clear hx305_0
                            try clear hx305_1
                            try clear hx309_0
                            try clear hx309_1
                            try clear p2
                            try clear p3
                            try clear p30
                            try clear p305
                            try clear p309
                            try clear q3
                            try clear q30
                            try clear q305
                            try clear q309
                            obtain ⟨kq, x129_46, rfl, HA, HJ46, HO_3, BK300, BK304, HB⟩ := hcut
                            cases kq with
                            | zero => exact absurd HA.out (by simp [laws_FnLevels.j5])
                            | succ kj46 =>
                              have H := HA.out
                              clear HA
                              simp only [laws_FnLevels.j5] at H
                              by_cases c51 : x129_46 = true
                              · subst c51
                                have H1 : (some false) = some r := by rw [if_pos rfl] at H; exact H
                                clear H
                                have H := H1
                                clear H1
                                obtain rfl := Option.some.inj H
                                go_wp2
                                repeat (go_quiet (fail); try go_wp2)
                                go_ret
                                exact ⟨by first | rfl | (simp [errW_none, errW_some] <;> rfl) | (simp [*, errW_none, errW_some] <;> rfl), by repeat (first | (with_reducible first | exact HB.out | apply below_alloc | apply pw_below_drewN | apply below_drew1 | refine below_set ?_ GE300.out | refine below_set ?_ GE304.out) | exact HB.out)⟩
                              · replace c51 := Bool.eq_false_iff.mpr c51
                                subst c51
                                have H1 : ((impl_FastestRise.f kj46 t287).bind fun bt310 => ((spec_FastestRise.f kj46 t287).bind fun bt314 => (if bt310.1 = bt314.1 then (if bt310.2.1 = bt314.2.1 then (if bt310.2.2.1 = bt314.2.2.1 then (laws_FnLevels.j6 kj46 t287 bt310.2.1 bt310.2.2.1 bt310.2.2.2 (bt310.2.2.2 != bt314.2.2.2)) else (laws_FnLevels.j6 kj46 t287 bt310.2.1 bt310.2.2.1 bt310.2.2.2 true)) else (laws_FnLevels.j6 kj46 t287 bt310.2.1 bt310.2.2.1 bt310.2.2.2 true)) else (laws_FnLevels.j6 kj46 t287 bt310.2.1 bt310.2.2.1 bt310.2.2.2 true)))) = some r := by rw [if_neg (show ¬ (false = true) by decide)] at H; exact H
                                clear H
                                have H := H1
                                clear H1
                                replace H := Option.bind_eq_some_iff.mp H
                                obtain ⟨⟨t310, t311, t312, t313⟩, A520, H⟩ := H
                                replace H : ((spec_FastestRise.f kj46 t287).bind fun bt314 => (if t310 = bt314.1 then (if t311 = bt314.2.1 then (if t312 = bt314.2.2.1 then (laws_FnLevels.j6 kj46 t287 t311 t312 t313 (t313 != bt314.2.2.2)) else (laws_FnLevels.j6 kj46 t287 t311 t312 t313 true)) else (laws_FnLevels.j6 kj46 t287 t311 t312 t313 true)) else (laws_FnLevels.j6 kj46 t287 t311 t312 t313 true))) = some r := H
                                have A52 := Aside0.mk A520
                                clear A520
                                replace H := Option.bind_eq_some_iff.mp H
                                obtain ⟨⟨t314, t315, t316, t317⟩, A530, H⟩ := H
                                replace H : (if t310 = t314 then (if t311 = t315 then (if t312 = t316 then (laws_FnLevels.j6 kj46 t287 t311 t312 t313 (t313 != t317)) else (laws_FnLevels.j6 kj46 t287 t311 t312 t313 true)) else (laws_FnLevels.j6 kj46 t287 t311 t312 t313 true)) else (laws_FnLevels.j6 kj46 t287 t311 t312 t313 true)) = some r := H
                                have A53 := Aside0.mk A530
                                clear A530
                                have HC54 := Aside0.mk H
                                clear H
                                go_upto_region 22 with (first | (go_at_call 13; (with_reducible refine (impl_FastestRise.calls kj46 _ _ t287 t310 t311 t312 t313 _ ?side1 ?side2 A52.out).mono ?_); (case side1 => repeat (first | exact (Kd.R_reads' HO_3.out).2.2 | (with_reducible refine Kd.C_alloc ?_ _) | (with_reducible refine Kd.C_drewN ?_ _) | (with_reducible refine Kd.C_drew ?_))); (case side2 => exact (Kd.R_reads' HO_3.out).2.1); rintro e w55 ⟨rfl, hb⟩; have n0_ := Aside0.mk (Kd.R_below (by (with_reducible repeat (first | apply Kd.R_alloc | apply Kd.R_drewN | apply Kd.R_drew)); exact HO_3.out) hb); have n1_ := Aside0.mk (blk_below (g := gb300) (o := .cells #[.int .i64 t297, .int .i64 t298] 30 (0, 0)) (by (with_reducible repeat (first | refine blk_drewN ?_ _ | refine blk_drew ?_ | refine blk_alloc ?_ _)); exact BK300.out) hb); have n2_ := Aside0.mk (blk_below (g := gb304) (o := .cells #[.int .i64 t301, .int .i64 t302] 30 (0, 0)) (by (with_reducible repeat (first | refine blk_drewN ?_ _ | refine blk_drew ?_ | refine blk_alloc ?_ _)); exact BK304.out) hb); have n3_ := Aside0.mk (below_step (by repeat (first | (with_reducible first | exact HB.out | apply below_alloc | apply pw_below_drewN | apply below_drew1 | refine below_set ?_ GE300.out | refine below_set ?_ GE304.out) | exact HB.out)) hb); clear HO_3; clear BK300; clear BK304; clear HB; have HO_3 := n0_; have BK300 := n1_; have BK304 := n2_; have HB := n3_; clear n0_ n1_ n2_ n3_; (try clear hb); (try clear hb2); (try clear hk); (try clear hi)) | (go_at_call 14; (with_reducible refine (spec_FastestRise.calls kj46 _ _ t287 t314 t315 t316 t317 _ ?side1 ?side2 A53.out).mono ?_); (case side1 => repeat (first | exact (Kd.R_reads' HO_3.out).2.2 | (with_reducible refine Kd.C_alloc ?_ _) | (with_reducible refine Kd.C_drewN ?_ _) | (with_reducible refine Kd.C_drew ?_))); (case side2 => exact (Kd.R_reads' HO_3.out).2.1); rintro e w56 ⟨rfl, hb⟩; have n0_ := Aside0.mk (Kd.R_below (by (with_reducible repeat (first | apply Kd.R_alloc | apply Kd.R_drewN | apply Kd.R_drew)); exact HO_3.out) hb); have n1_ := Aside0.mk (blk_below (g := gb300) (o := .cells #[.int .i64 t297, .int .i64 t298] 30 (0, 0)) (by (with_reducible repeat (first | refine blk_drewN ?_ _ | refine blk_drew ?_ | refine blk_alloc ?_ _)); exact BK300.out) hb); have n2_ := Aside0.mk (blk_below (g := gb304) (o := .cells #[.int .i64 t301, .int .i64 t302] 30 (0, 0)) (by (with_reducible repeat (first | refine blk_drewN ?_ _ | refine blk_drew ?_ | refine blk_alloc ?_ _)); exact BK304.out) hb); have n3_ := Aside0.mk (below_step (by repeat (first | (with_reducible first | exact HB.out | apply below_alloc | apply pw_below_drewN | apply below_drew1 | refine below_set ?_ GE300.out | refine below_set ?_ GE304.out) | exact HB.out)) hb); clear HO_3; clear BK300; clear BK304; clear HB; have HO_3 := n0_; have BK300 := n1_; have BK304 := n2_; have HB := n3_; clear n0_ n1_ n2_ n3_; (try clear hb); (try clear hb2); (try clear hk); (try clear hi)))
                                repeat (go_quiet (first | (go_at_call 13; (with_reducible refine (impl_FastestRise.calls kj46 _ _ t287 t310 t311 t312 t313 _ ?side1 ?side2 A52.out).mono ?_); (case side1 => repeat (first | exact (Kd.R_reads' HO_3.out).2.2 | (with_reducible refine Kd.C_alloc ?_ _) | (with_reducible refine Kd.C_drewN ?_ _) | (with_reducible refine Kd.C_drew ?_))); (case side2 => exact (Kd.R_reads' HO_3.out).2.1); rintro e w55 ⟨rfl, hb⟩; have n0_ := Aside0.mk (Kd.R_below (by (with_reducible repeat (first | apply Kd.R_alloc | apply Kd.R_drewN | apply Kd.R_drew)); exact HO_3.out) hb); have n1_ := Aside0.mk (blk_below (g := gb300) (o := .cells #[.int .i64 t297, .int .i64 t298] 30 (0, 0)) (by (with_reducible repeat (first | refine blk_drewN ?_ _ | refine blk_drew ?_ | refine blk_alloc ?_ _)); exact BK300.out) hb); have n2_ := Aside0.mk (blk_below (g := gb304) (o := .cells #[.int .i64 t301, .int .i64 t302] 30 (0, 0)) (by (with_reducible repeat (first | refine blk_drewN ?_ _ | refine blk_drew ?_ | refine blk_alloc ?_ _)); exact BK304.out) hb); have n3_ := Aside0.mk (below_step (by repeat (first | (with_reducible first | exact HB.out | apply below_alloc | apply pw_below_drewN | apply below_drew1 | refine below_set ?_ GE300.out | refine below_set ?_ GE304.out) | exact HB.out)) hb); clear HO_3; clear BK300; clear BK304; clear HB; have HO_3 := n0_; have BK300 := n1_; have BK304 := n2_; have HB := n3_; clear n0_ n1_ n2_ n3_; (try clear hb); (try clear hb2); (try clear hk); (try clear hi)) | (go_at_call 14; (with_reducible refine (spec_FastestRise.calls kj46 _ _ t287 t314 t315 t316 t317 _ ?side1 ?side2 A53.out).mono ?_); (case side1 => repeat (first | exact (Kd.R_reads' HO_3.out).2.2 | (with_reducible refine Kd.C_alloc ?_ _) | (with_reducible refine Kd.C_drewN ?_ _) | (with_reducible refine Kd.C_drew ?_))); (case side2 => exact (Kd.R_reads' HO_3.out).2.1); rintro e w56 ⟨rfl, hb⟩; have n0_ := Aside0.mk (Kd.R_below (by (with_reducible repeat (first | apply Kd.R_alloc | apply Kd.R_drewN | apply Kd.R_drew)); exact HO_3.out) hb); have n1_ := Aside0.mk (blk_below (g := gb300) (o := .cells #[.int .i64 t297, .int .i64 t298] 30 (0, 0)) (by (with_reducible repeat (first | refine blk_drewN ?_ _ | refine blk_drew ?_ | refine blk_alloc ?_ _)); exact BK300.out) hb); have n2_ := Aside0.mk (blk_below (g := gb304) (o := .cells #[.int .i64 t301, .int .i64 t302] 30 (0, 0)) (by (with_reducible repeat (first | refine blk_drewN ?_ _ | refine blk_drew ?_ | refine blk_alloc ?_ _)); exact BK304.out) hb); have n3_ := Aside0.mk (below_step (by repeat (first | (with_reducible first | exact HB.out | apply below_alloc | apply pw_below_drewN | apply below_drew1 | refine below_set ?_ GE300.out | refine below_set ?_ GE304.out) | exact HB.out)) hb); clear HO_3; clear BK300; clear BK304; clear HB; have HO_3 := n0_; have BK300 := n1_; have BK304 := n2_; have HB := n3_; clear n0_ n1_ n2_ n3_; (try clear hb); (try clear hb2); (try clear hk); (try clear hi))); go_upto_region 22 with (first | (go_at_call 13; (with_reducible refine (impl_FastestRise.calls kj46 _ _ t287 t310 t311 t312 t313 _ ?side1 ?side2 A52.out).mono ?_); (case side1 => repeat (first | exact (Kd.R_reads' HO_3.out).2.2 | (with_reducible refine Kd.C_alloc ?_ _) | (with_reducible refine Kd.C_drewN ?_ _) | (with_reducible refine Kd.C_drew ?_))); (case side2 => exact (Kd.R_reads' HO_3.out).2.1); rintro e w55 ⟨rfl, hb⟩; have n0_ := Aside0.mk (Kd.R_below (by (with_reducible repeat (first | apply Kd.R_alloc | apply Kd.R_drewN | apply Kd.R_drew)); exact HO_3.out) hb); have n1_ := Aside0.mk (blk_below (g := gb300) (o := .cells #[.int .i64 t297, .int .i64 t298] 30 (0, 0)) (by (with_reducible repeat (first | refine blk_drewN ?_ _ | refine blk_drew ?_ | refine blk_alloc ?_ _)); exact BK300.out) hb); have n2_ := Aside0.mk (blk_below (g := gb304) (o := .cells #[.int .i64 t301, .int .i64 t302] 30 (0, 0)) (by (with_reducible repeat (first | refine blk_drewN ?_ _ | refine blk_drew ?_ | refine blk_alloc ?_ _)); exact BK304.out) hb); have n3_ := Aside0.mk (below_step (by repeat (first | (with_reducible first | exact HB.out | apply below_alloc | apply pw_below_drewN | apply below_drew1 | refine below_set ?_ GE300.out | refine below_set ?_ GE304.out) | exact HB.out)) hb); clear HO_3; clear BK300; clear BK304; clear HB; have HO_3 := n0_; have BK300 := n1_; have BK304 := n2_; have HB := n3_; clear n0_ n1_ n2_ n3_; (try clear hb); (try clear hb2); (try clear hk); (try clear hi)) | (go_at_call 14; (with_reducible refine (spec_FastestRise.calls kj46 _ _ t287 t314 t315 t316 t317 _ ?side1 ?side2 A53.out).mono ?_); (case side1 => repeat (first | exact (Kd.R_reads' HO_3.out).2.2 | (with_reducible refine Kd.C_alloc ?_ _) | (with_reducible refine Kd.C_drewN ?_ _) | (with_reducible refine Kd.C_drew ?_))); (case side2 => exact (Kd.R_reads' HO_3.out).2.1); rintro e w56 ⟨rfl, hb⟩; have n0_ := Aside0.mk (Kd.R_below (by (with_reducible repeat (first | apply Kd.R_alloc | apply Kd.R_drewN | apply Kd.R_drew)); exact HO_3.out) hb); have n1_ := Aside0.mk (blk_below (g := gb300) (o := .cells #[.int .i64 t297, .int .i64 t298] 30 (0, 0)) (by (with_reducible repeat (first | refine blk_drewN ?_ _ | refine blk_drew ?_ | refine blk_alloc ?_ _)); exact BK300.out) hb); have n2_ := Aside0.mk (blk_below (g := gb304) (o := .cells #[.int .i64 t301, .int .i64 t302] 30 (0, 0)) (by (with_reducible repeat (first | refine blk_drewN ?_ _ | refine blk_drew ?_ | refine blk_alloc ?_ _)); exact BK304.out) hb); have n3_ := Aside0.mk (below_step (by repeat (first | (with_reducible first | exact HB.out | apply below_alloc | apply pw_below_drewN | apply below_drew1 | refine below_set ?_ GE300.out | refine below_set ?_ GE304.out) | exact HB.out)) hb); clear HO_3; clear BK300; clear BK304; clear HB; have HO_3 := n0_; have BK300 := n1_; have BK304 := n2_; have HB := n3_; clear n0_ n1_ n2_ n3_; (try clear hb); (try clear hb2); (try clear hk); (try clear hi))))
                                (try simp only [Act.put, List.setIfInBounds_toArray, List.set_cons_zero, List.set_cons_succ])
                                go_cut [161] (fun v161 wc => ∃ (kq : Nat) (x161_53 : Bool), v161 = .bool x161_53 ∧ Aside0 (laws_FnLevels.j6 kq t287 t311 t312 t313 x161_53 = some r) ∧ Aside0 (kq ≤ kj46) ∧ Aside0 (Kd.R k30 30 wc w.heap.size (fun k_ => k_ ≠ gb300 ∧ k_ ≠ gb304) (.slice Ao9 t287.length co9) t287) ∧ Aside0 (wc.heap[gb300]? = some (.cells #[.int .i64 t297, .int .i64 t298] 30 (0, 0))) ∧ Aside0 (wc.heap[gb304]? = some (.cells #[.int .i64 t301, .int .i64 t302] 30 (0, 0))) ∧ Aside0 (Below w.heap.size w wc))
                                case first => as_aux_lemma =>
                                  have H := HC54.out
                                  clear HC54
                                  by_cases c57 : t310 = t314
                                  · rw [if_pos c57] at H
                                    have c57b0 : (t310 == t314) = true := beq_iff_eq.mpr c57
                                    have c57b1 : (t310 != t314) = false := bne_eq_false_iff_eq.mpr c57
                                    clear c57
                                    (first | rw [c57b0] | (simp only [i64_w, i32_w]; rw [c57b0]) | skip)
                                    by_cases c58 : t311 = t315
                                    · rw [if_pos c58] at H
                                      have c58b0 : (t311 == t315) = true := beq_iff_eq.mpr c58
                                      have c58b1 : (t311 != t315) = false := bne_eq_false_iff_eq.mpr c58
                                      clear c58
                                      by_cases c59 : t312 = t316
                                      · rw [if_pos c59] at H
                                        have c59b0 : (t312 == t316) = true := beq_iff_eq.mpr c59
                                        have c59b1 : (t312 != t316) = false := bne_eq_false_iff_eq.mpr c59
                                        clear c59
                                        have H' := Aside0.mk H
                                        clear H
                                        go_wp2
                                        repeat (go_quiet (fail); try go_wp2)
                                        go_meet
                                        case rel => exact ⟨_, ((t313 != t317)), (by first | rfl | (simp; done) | (simp [*]; done)), H', ⟨by have := HJ6.out; have := HJ16.out; have := HK3.out; have := HJ32.out; have := HJ46.out; first | omega | exact Nat.le_refl _⟩, ⟨by (with_reducible repeat (first | apply Kd.R_alloc | apply Kd.R_drewN | apply Kd.R_drew)); exact HO_3.out⟩, ⟨by (with_reducible repeat (first | refine blk_drewN ?_ _ | refine blk_drew ?_ | refine blk_alloc ?_ _)); exact BK300.out⟩, ⟨by (with_reducible repeat (first | refine blk_drewN ?_ _ | refine blk_drew ?_ | refine blk_alloc ?_ _)); exact BK304.out⟩, ⟨by repeat (first | (with_reducible first | exact HB.out | apply below_alloc | apply pw_below_drewN | apply below_drew1 | refine below_set ?_ GE300.out | refine below_set ?_ GE304.out) | exact HB.out)⟩⟩
                                      · rw [if_neg c59] at H
                                        have c59b0 : (t312 == t316) = false := beq_eq_false_iff_ne.mpr c59
                                        have c59b1 : (t312 != t316) = true := bne_iff_ne.mpr c59
                                        have H' := Aside0.mk H
                                        clear H
                                        go_wp2
                                        repeat (go_quiet (fail); try go_wp2)
                                        go_meet
                                        case rel => exact ⟨_, (true), (by first | rfl | (simp; done) | (simp [*]; done)), H', ⟨by have := HJ6.out; have := HJ16.out; have := HK3.out; have := HJ32.out; have := HJ46.out; first | omega | exact Nat.le_refl _⟩, ⟨by (with_reducible repeat (first | apply Kd.R_alloc | apply Kd.R_drewN | apply Kd.R_drew)); exact HO_3.out⟩, ⟨by (with_reducible repeat (first | refine blk_drewN ?_ _ | refine blk_drew ?_ | refine blk_alloc ?_ _)); exact BK300.out⟩, ⟨by (with_reducible repeat (first | refine blk_drewN ?_ _ | refine blk_drew ?_ | refine blk_alloc ?_ _)); exact BK304.out⟩, ⟨by repeat (first | (with_reducible first | exact HB.out | apply below_alloc | apply pw_below_drewN | apply below_drew1 | refine below_set ?_ GE300.out | refine below_set ?_ GE304.out) | exact HB.out)⟩⟩
                                    · rw [if_neg c58] at H
                                      have c58b0 : (t311 == t315) = false := beq_eq_false_iff_ne.mpr c58
                                      have c58b1 : (t311 != t315) = true := bne_iff_ne.mpr c58
                                      have H' := Aside0.mk H
                                      clear H
                                      go_wp2
                                      repeat (go_quiet (fail); try go_wp2)
                                      go_meet
                                      case rel => exact ⟨_, (true), (by first | rfl | (simp; done) | (simp [*]; done)), H', ⟨by have := HJ6.out; have := HJ16.out; have := HK3.out; have := HJ32.out; have := HJ46.out; first | omega | exact Nat.le_refl _⟩, ⟨by (with_reducible repeat (first | apply Kd.R_alloc | apply Kd.R_drewN | apply Kd.R_drew)); exact HO_3.out⟩, ⟨by (with_reducible repeat (first | refine blk_drewN ?_ _ | refine blk_drew ?_ | refine blk_alloc ?_ _)); exact BK300.out⟩, ⟨by (with_reducible repeat (first | refine blk_drewN ?_ _ | refine blk_drew ?_ | refine blk_alloc ?_ _)); exact BK304.out⟩, ⟨by repeat (first | (with_reducible first | exact HB.out | apply below_alloc | apply pw_below_drewN | apply below_drew1 | refine below_set ?_ GE300.out | refine below_set ?_ GE304.out) | exact HB.out)⟩⟩
                                  · rw [if_neg c57] at H
                                    have c57b0 : (t310 == t314) = false := beq_eq_false_iff_ne.mpr c57
                                    have c57b1 : (t310 != t314) = true := bne_iff_ne.mpr c57
                                    (first | rw [c57b0] | (simp only [i64_w, i32_w]; rw [c57b0]) | skip)
                                    have H' := Aside0.mk H
                                    clear H
                                    go_wp2
                                    repeat (go_quiet (fail); try go_wp2)
                                    go_meet
                                    case rel => exact ⟨_, (true), (by first | rfl | (simp; done) | (simp [*]; done)), H', ⟨by have := HJ6.out; have := HJ16.out; have := HK3.out; have := HJ32.out; have := HJ46.out; first | omega | exact Nat.le_refl _⟩, ⟨by (with_reducible repeat (first | apply Kd.R_alloc | apply Kd.R_drewN | apply Kd.R_drew)); exact HO_3.out⟩, ⟨by (with_reducible repeat (first | refine blk_drewN ?_ _ | refine blk_drew ?_ | refine blk_alloc ?_ _)); exact BK300.out⟩, ⟨by (with_reducible repeat (first | refine blk_drewN ?_ _ | refine blk_drew ?_ | refine blk_alloc ?_ _)); exact BK304.out⟩, ⟨by repeat (first | (with_reducible first | exact HB.out | apply below_alloc | apply pw_below_drewN | apply below_drew1 | refine below_set ?_ GE300.out | refine below_set ?_ GE304.out) | exact HB.out)⟩⟩
                                case rest => as_aux_lemma =>
                                  clear HC54
                                  try clear c1
                                  try clear c2
                                  try clear p2
                                  try clear c3
                                  try clear p3
                                  try clear q3
                                  try clear hx3
                                  try clear c4
                                  try clear c5
                                  try clear p6
                                  try clear c12
                                  try clear c12b0
                                  try clear c12b1
                                  try clear c13
                                  try clear c13b0
                                  try clear c13b1
                                  try clear c14
                                  try clear c23
                                  try clear c25
                                  try clear c25b0
                                  try clear c26
                                  try clear c29
                                  try clear p30
                                  try clear q30
                                  try clear hx30
                                  try clear c32
                                  try clear c34
                                  try clear c34b0
                                  try clear c35
                                  try clear c36
                                  try clear c36b0
                                  try clear c37
                                  try clear c37b0
                                  try clear c41
                                  try clear c42
                                  try clear c42b0
                                  try clear c42b1
                                  try clear c43
                                  try clear c43b0
                                  try clear c43b1
                                  try clear c44
                                  try clear c46
                                  try clear c48
                                  try clear c49
                                  try clear c51
                                  try clear c57
                                  try clear c57b0
                                  try clear c57b1
                                  try clear c58
                                  try clear c58b0
                                  try clear c58b1
                                  try clear c59
                                  try clear c59b0
                                  try clear c59b1
                                  try clear hcz20_0
                                  try clear hcz20_1
                                  try clear hcz24_0
                                  try clear hcz24_1
                                  try clear hcz27_0
                                  try clear hcz27_1
                                  try clear hcz28_0
                                  try clear hcz28_1
                                  try clear hcz30_0
                                  try clear hcz30_1
                                  try clear hcz31_0
                                  try clear hcz31_1
                                  try clear hcz45_0
                                  try clear hcz45_1
                                  try clear hcz50_0
                                  try clear hcz50_1
                                  try clear hfz20_0
                                  try clear hfz20_1
                                  try clear hfz24_0
                                  try clear hfz24_1
                                  try clear hfz27_0
                                  try clear hfz27_1
                                  try clear hfz28_0
                                  try clear hfz28_1
                                  try clear hfz30_0
                                  try clear hfz30_1
                                  try clear hfz31_0
                                  try clear hfz31_1
                                  try clear hfz45_0
                                  try clear hfz45_1
                                  try clear hfz50_0
                                  try clear hfz50_1
                                  try clear hx305_0
                                  try clear hx305_1
                                  try clear hx309_0
                                  try clear hx309_1
                                  try clear p2
                                  try clear p3
                                  try clear p30
                                  try clear p305
                                  try clear p309
                                  try clear p6
                                  try clear q3
                                  try clear q30
                                  try clear q305
                                  try clear q309
                                  obtain ⟨kq, x161_53, rfl, HA, HJ53, HO_3, BK300, BK304, HB⟩ := hcut
                                  cases kq with
                                  | zero => exact absurd HA.out (by simp [laws_FnLevels.j6])
                                  | succ kj53 =>
                                    have H := HA.out
                                    clear HA
                                    simp only [laws_FnLevels.j6] at H
                                    by_cases c60 : x161_53 = true
                                    · subst c60
                                      have H1 : (some false) = some r := by rw [if_pos rfl] at H; exact H
                                      clear H
                                      have H := H1
                                      clear H1
                                      obtain rfl := Option.some.inj H
                                      go_wp2
                                      repeat (go_quiet (fail); try go_wp2)
                                      go_ret
                                      exact ⟨by first | rfl | (simp [errW_none, errW_some] <;> rfl) | (simp [*, errW_none, errW_some] <;> rfl), by repeat (first | (with_reducible first | exact HB.out | apply below_alloc | apply pw_below_drewN | apply below_drew1 | refine below_set ?_ GE300.out | refine below_set ?_ GE304.out) | exact HB.out)⟩
                                    · replace c60 := Bool.eq_false_iff.mpr c60
                                      subst c60
                                      have H1 : (laws_FnLevels.l1 kj53 t287 t311 t312 t313 0) = some r := by rw [if_neg (show ¬ (false = true) by decide)] at H; exact H
                                      clear H
                                      have H := H1
                                      clear H1
                                      have H' := Aside0.mk H
                                      clear H
                                      go_wp2
                                      repeat (go_quiet (fail); try go_wp2)
                                      go_loopg [27] kj53 (fun kq v27 w' => ∃ (x27_7 : Int), v27 = .int .i64 x27_7 ∧ Aside0 (laws_FnLevels.l1 kq t287 t311 t312 t313 x27_7 = some r) ∧ Aside0 (kq ≤ kj53) ∧ Aside0 (Kd.R k30 30 w' w.heap.size (fun k_ => k_ ≠ gb300 ∧ k_ ≠ gb304) (.slice Ao9 t287.length co9) t287) ∧ Aside0 (w'.heap[gb300]? = some (.cells #[.int .i64 t297, .int .i64 t298] 30 (0, 0))) ∧ Aside0 (w'.heap[gb304]? = some (.cells #[.int .i64 t301, .int .i64 t302] 30 (0, 0))) ∧ Aside0 (Below w.heap.size w w'))
                                      case atStart => exact ⟨(0), (by first | rfl | (simp; done) | (simp [*]; done)), H', ⟨Nat.le_refl _⟩, ⟨by (with_reducible repeat (first | apply Kd.R_alloc | apply Kd.R_drewN | apply Kd.R_drew)); exact HO_3.out⟩, ⟨by (with_reducible repeat (first | refine blk_drewN ?_ _ | refine blk_drew ?_ | refine blk_alloc ?_ _)); exact BK300.out⟩, ⟨by (with_reducible repeat (first | refine blk_drewN ?_ _ | refine blk_drew ?_ | refine blk_alloc ?_ _)); exact BK304.out⟩, ⟨by repeat (first | (with_reducible first | exact HB.out | apply below_alloc | apply pw_below_drewN | apply below_drew1 | refine below_set ?_ GE300.out | refine below_set ?_ GE304.out) | exact HB.out)⟩⟩
                                      case round => as_aux_lemma =>
                                        clear H'
                                        try clear c1
                                        try clear c2
                                        try clear p2
                                        try clear c3
                                        try clear p3
                                        try clear q3
                                        try clear hx3
                                        try clear c4
                                        try clear c5
                                        try clear c6
                                        try clear p6
                                        try clear c12
                                        try clear c12b0
                                        try clear c12b1
                                        try clear c13
                                        try clear c13b0
                                        try clear c13b1
                                        try clear c14
                                        try clear c23
                                        try clear c25
                                        try clear c25b0
                                        try clear c26
                                        try clear c29
                                        try clear p30
                                        try clear q30
                                        try clear hx30
                                        try clear c32
                                        try clear c34
                                        try clear c34b0
                                        try clear c35
                                        try clear c36
                                        try clear c36b0
                                        try clear c37
                                        try clear c37b0
                                        try clear c41
                                        try clear c42
                                        try clear c42b0
                                        try clear c42b1
                                        try clear c43
                                        try clear c43b0
                                        try clear c43b1
                                        try clear c44
                                        try clear c46
                                        try clear c48
                                        try clear c49
                                        try clear c51
                                        try clear c57
                                        try clear c57b0
                                        try clear c57b1
                                        try clear c58
                                        try clear c58b0
                                        try clear c58b1
                                        try clear c59
                                        try clear c59b0
                                        try clear c59b1
                                        try clear c60
                                        try clear hcz20_0
                                        try clear hcz20_1
                                        try clear hcz24_0
                                        try clear hcz24_1
                                        try clear hcz27_0
                                        try clear hcz27_1
                                        try clear hcz28_0
                                        try clear hcz28_1
                                        try clear hcz30_0
                                        try clear hcz30_1
                                        try clear hcz31_0
                                        try clear hcz31_1
                                        try clear hcz45_0
                                        try clear hcz45_1
                                        try clear hcz50_0
                                        try clear hcz50_1
                                        try clear hfz20_0
                                        try clear hfz20_1
                                        try clear hfz24_0
                                        try clear hfz24_1
                                        try clear hfz27_0
                                        try clear hfz27_1
                                        try clear hfz28_0
                                        try clear hfz28_1
                                        try clear hfz30_0
                                        try clear hfz30_1
                                        try clear hfz31_0
                                        try clear hfz31_1
                                        try clear hfz45_0
                                        try clear hfz45_1
                                        try clear hfz50_0
                                        try clear hfz50_1
                                        try clear hx305_0
                                        try clear hx305_1
                                        try clear hx309_0
                                        try clear hx309_1
                                        try clear p2
                                        try clear p3
                                        try clear p30
                                        try clear p305
                                        try clear p309
                                        try clear p6
                                        try clear q3
                                        try clear q30
                                        try clear q305
                                        try clear q309
                                        obtain ⟨x27_7, rfl, HA, HK7, HO_3, BK300, BK304, HB⟩ := hrel
                                        cases gk with
                                        | zero => exact absurd HA.out (by simp [laws_FnLevels.l1])
                                        | succ k7 =>
                                          have H := HA.out
                                          clear HA
                                          simp only [laws_FnLevels.l1] at H
                                          have HC61 := Aside0.mk H
                                          clear H
                                          go_upto_region 25 with (fail)
                                          repeat (go_quiet (fail); go_upto_region 25 with (fail))
                                          go_cut [169] (fun v169 wc => ∃ (kq : Nat) (x169_60 : Bool), v169 = .bool x169_60 ∧ Aside0 (laws_FnLevels.j8 kq t287 t311 t312 t313 x27_7 x169_60 = some r) ∧ Aside0 (kq ≤ k7) ∧ Aside0 (Kd.R k30 30 wc w.heap.size (fun k_ => k_ ≠ gb300 ∧ k_ ≠ gb304) (.slice Ao9 t287.length co9) t287) ∧ Aside0 (wc.heap[gb300]? = some (.cells #[.int .i64 t297, .int .i64 t298] 30 (0, 0))) ∧ Aside0 (wc.heap[gb304]? = some (.cells #[.int .i64 t301, .int .i64 t302] 30 (0, 0))) ∧ Aside0 (Below w.heap.size w wc))
                                          case first => as_aux_lemma =>
                                            have H := HC61.out
                                            clear HC61
                                            by_cases c62 : (wrap64 (x27_7 + 1)) < (t287.length : Int)
                                            · rw [if_pos c62] at H
                                              have c62b0 : decide ((wrap64 (x27_7 + 1)) < (t287.length : Int)) = true := decide_eq_true c62
                                              clear c62
                                              (first | rw [c62b0] | (simp only [i64_w, i32_w]; rw [c62b0]) | skip)
                                              have H' := Aside0.mk H
                                              clear H
                                              go_wp2
                                              repeat (go_quiet (fail); try go_wp2)
                                              go_meet
                                              case rel => exact ⟨_, (t313), (by first | rfl | (simp; done) | (simp [*]; done)), H', ⟨by have := HJ6.out; have := HJ16.out; have := HK3.out; have := HJ32.out; have := HJ46.out; have := HJ53.out; have := HK7.out; first | omega | exact Nat.le_refl _⟩, ⟨by (with_reducible repeat (first | apply Kd.R_alloc | apply Kd.R_drewN | apply Kd.R_drew)); exact HO_3.out⟩, ⟨by (with_reducible repeat (first | refine blk_drewN ?_ _ | refine blk_drew ?_ | refine blk_alloc ?_ _)); exact BK300.out⟩, ⟨by (with_reducible repeat (first | refine blk_drewN ?_ _ | refine blk_drew ?_ | refine blk_alloc ?_ _)); exact BK304.out⟩, ⟨by repeat (first | (with_reducible first | exact HB.out | apply below_alloc | apply pw_below_drewN | apply below_drew1 | refine below_set ?_ GE300.out | refine below_set ?_ GE304.out) | exact HB.out)⟩⟩
                                            · rw [if_neg c62] at H
                                              have c62b0 : decide ((wrap64 (x27_7 + 1)) < (t287.length : Int)) = false := decide_eq_false c62
                                              clear c62
                                              (first | rw [c62b0] | (simp only [i64_w, i32_w]; rw [c62b0]) | skip)
                                              have H' := Aside0.mk H
                                              clear H
                                              go_wp2
                                              repeat (go_quiet (fail); try go_wp2)
                                              go_meet
                                              case rel => exact ⟨_, (false), (by first | rfl | (simp; done) | (simp [*]; done)), H', ⟨by have := HJ6.out; have := HJ16.out; have := HK3.out; have := HJ32.out; have := HJ46.out; have := HJ53.out; have := HK7.out; first | omega | exact Nat.le_refl _⟩, ⟨by (with_reducible repeat (first | apply Kd.R_alloc | apply Kd.R_drewN | apply Kd.R_drew)); exact HO_3.out⟩, ⟨by (with_reducible repeat (first | refine blk_drewN ?_ _ | refine blk_drew ?_ | refine blk_alloc ?_ _)); exact BK300.out⟩, ⟨by (with_reducible repeat (first | refine blk_drewN ?_ _ | refine blk_drew ?_ | refine blk_alloc ?_ _)); exact BK304.out⟩, ⟨by repeat (first | (with_reducible first | exact HB.out | apply below_alloc | apply pw_below_drewN | apply below_drew1 | refine below_set ?_ GE300.out | refine below_set ?_ GE304.out) | exact HB.out)⟩⟩
                                          case rest => as_aux_lemma =>
                                            clear HC61
                                            try clear c1
                                            try clear c2
                                            try clear p2
                                            try clear c3
                                            try clear p3
                                            try clear q3
                                            try clear hx3
                                            try clear c4
                                            try clear c5
                                            try clear c6
                                            try clear p6
                                            try clear c12
                                            try clear c12b0
                                            try clear c12b1
                                            try clear c13
                                            try clear c13b0
                                            try clear c13b1
                                            try clear c14
                                            try clear c23
                                            try clear c25
                                            try clear c25b0
                                            try clear c26
                                            try clear c29
                                            try clear p30
                                            try clear q30
                                            try clear hx30
                                            try clear c32
                                            try clear c34
                                            try clear c34b0
                                            try clear c35
                                            try clear c36
                                            try clear c36b0
                                            try clear c37
                                            try clear c37b0
                                            try clear c41
                                            try clear c42
                                            try clear c42b0
                                            try clear c42b1
                                            try clear c43
                                            try clear c43b0
                                            try clear c43b1
                                            try clear c44
                                            try clear c46
                                            try clear c48
                                            try clear c49
                                            try clear c51
                                            try clear c57
                                            try clear c57b0
                                            try clear c57b1
                                            try clear c58
                                            try clear c58b0
                                            try clear c58b1
                                            try clear c59
                                            try clear c59b0
                                            try clear c59b1
                                            try clear c60
                                            try clear c62
                                            try clear c62b0
                                            try clear hcz20_0
                                            try clear hcz20_1
                                            try clear hcz24_0
                                            try clear hcz24_1
                                            try clear hcz27_0
                                            try clear hcz27_1
                                            try clear hcz28_0
                                            try clear hcz28_1
                                            try clear hcz30_0
                                            try clear hcz30_1
                                            try clear hcz31_0
                                            try clear hcz31_1
                                            try clear hcz45_0
                                            try clear hcz45_1
                                            try clear hcz50_0
                                            try clear hcz50_1
                                            try clear hfz20_0
                                            try clear hfz20_1
                                            try clear hfz24_0
                                            try clear hfz24_1
                                            try clear hfz27_0
                                            try clear hfz27_1
                                            try clear hfz28_0
                                            try clear hfz28_1
                                            try clear hfz30_0
                                            try clear hfz30_1
                                            try clear hfz31_0
                                            try clear hfz31_1
                                            try clear hfz45_0
                                            try clear hfz45_1
                                            try clear hfz50_0
                                            try clear hfz50_1
                                            try clear hx305_0
                                            try clear hx305_1
                                            try clear hx309_0
                                            try clear hx309_1
                                            try clear p2
                                            try clear p3
                                            try clear p30
                                            try clear p305
                                            try clear p309
                                            try clear p6
                                            try clear q3
                                            try clear q30
                                            try clear q305
                                            try clear q309
                                            obtain ⟨kq, x169_60, rfl, HA, HJ60, HO_3, BK300, BK304, HB⟩ := hcut
                                            cases kq with
                                            | zero => exact absurd HA.out (by simp [laws_FnLevels.j8])
                                            | succ kj60 =>
                                              have H := HA.out
                                              clear HA
                                              simp only [laws_FnLevels.j8] at H
                                              by_cases c63 : x169_60 = true
                                              · subst c63
                                                have H1 : (if 0 ≤ (wrap64 (x27_7 + 1)) then (if (wrap64 (x27_7 + 1)) < (t287.length : Int) then (if 0 ≤ x27_7 then (if x27_7 < (t287.length : Int) then (if (wrap64 ((wrap64 (((rd_T30 t287 (wrap64 (x27_7 + 1))).f1) - ((rd_T30 t287 x27_7).f1))) * t312)) > (wrap64 (t311 * (wrap64 (((rd_T30 t287 (wrap64 (x27_7 + 1))).f0) - ((rd_T30 t287 x27_7).f0))))) then (some false) else (laws_FnLevels.l1 kj60 t287 t311 t312 t313 (wrap64 (x27_7 + 1)))) else (none)) else (none)) else (none)) else (none)) = some r := by rw [if_pos rfl] at H; exact H
                                                clear H
                                                have H := H1
                                                clear H1
                                                obtain ⟨ji64, hji64⟩ : ∃ j_ : Int, (wrap64 (x27_7 + 1)) = j_ := ⟨_, rfl⟩
                                                replace H : (if 0 ≤ (ji64) then (if (ji64) < (t287.length : Int) then (if 0 ≤ x27_7 then (if x27_7 < (t287.length : Int) then (if (wrap64 ((wrap64 (((rd_T30 t287 (ji64)).f1) - ((rd_T30 t287 x27_7).f1))) * t312)) > (wrap64 (t311 * (wrap64 (((rd_T30 t287 (ji64)).f0) - ((rd_T30 t287 x27_7).f0))))) then (some false) else (laws_FnLevels.l1 kj60 t287 t311 t312 t313 ji64)) else (none)) else (none)) else (none)) else (none)) = some r := by first | (rw [hji64] at H; exact H) | (simp only [hji64] at H ⊢; exact H)
                                                have hji64w : (IntKind.i64.wrap (x27_7 + 1)) = ji64 := (i64_w _).trans hji64
                                                by_cases c65 : 0 ≤ (ji64)
                                                · rw [if_pos c65] at H
                                                  have c65b0 : decide (0 ≤ (ji64)) = true := decide_eq_true c65
                                                  clear c65
                                                  by_cases c66 : (ji64) < (t287.length : Int)
                                                  · rw [if_pos c66] at H
                                                    have c66b0 : decide ((ji64) < (t287.length : Int)) = true := decide_eq_true c66
                                                    clear c66
                                                    by_cases c67 : 0 ≤ x27_7
                                                    · rw [if_pos c67] at H
                                                      have c67b0 : decide (0 ≤ x27_7) = true := decide_eq_true c67
                                                      clear c67
                                                      by_cases c68 : x27_7 < (t287.length : Int)
                                                      · rw [if_pos c68] at H
                                                        have c68b0 : decide (x27_7 < (t287.length : Int)) = true := decide_eq_true c68
                                                        clear c68
                                                        by_cases c69 : (wrap64 ((wrap64 (((rd_T30 t287 (ji64)).f1) - ((rd_T30 t287 x27_7).f1))) * t312)) > (wrap64 (t311 * (wrap64 (((rd_T30 t287 (ji64)).f0) - ((rd_T30 t287 x27_7).f0)))))
                                                        · rw [if_pos c69] at H
                                                          have c69b0 : decide ((wrap64 (t311 * (wrap64 (((rd_T30 t287 (ji64)).f0) - ((rd_T30 t287 x27_7).f0))))) < (wrap64 ((wrap64 (((rd_T30 t287 (ji64)).f1) - ((rd_T30 t287 x27_7).f1))) * t312))) = true := decide_eq_true c69
                                                          clear c69
                                                          obtain rfl := Option.some.inj H
                                                          have p318 : 0 ≤ ((ji64) : Int) := of_decide_eq_true (by first | (with_reducible assumption) | assumption)
                                                          have q318 : (ji64) < (t287.length : Int) := of_decide_eq_true (by first | (with_reducible assumption) | assumption)
                                                          obtain ⟨ad318, e318, hx318_0, hx318_1⟩ := at_T30 (Kd.R_reads' HO_3.out).2.2 (ji64) p318 q318
                                                          cases e318
                                                          replace p318 := eq_true p318
                                                          replace q318 := eq_true q318
                                                          have p319 : 0 ≤ (x27_7 : Int) := of_decide_eq_true (by first | (with_reducible assumption) | assumption)
                                                          have q319 : x27_7 < (t287.length : Int) := of_decide_eq_true (by first | (with_reducible assumption) | assumption)
                                                          obtain ⟨ad319, e319, hx319_0, hx319_1⟩ := at_T30 (Kd.R_reads' HO_3.out).2.2 x27_7 p319 q319
                                                          obtain rfl : ad318 = ad319 := (by injection e319)
                                                          replace p319 := eq_true p319
                                                          replace q319 := eq_true q319
                                                          have p320 : 0 ≤ ((ji64) : Int) := of_decide_eq_true (by first | (with_reducible assumption) | assumption)
                                                          have q320 : (ji64) < (t287.length : Int) := of_decide_eq_true (by first | (with_reducible assumption) | assumption)
                                                          obtain ⟨ad320, e320, hx320_0, hx320_1⟩ := at_T30 (Kd.R_reads' HO_3.out).2.2 (ji64) p320 q320
                                                          obtain rfl : ad318 = ad320 := (by injection e320)
                                                          replace p320 := eq_true p320
                                                          replace q320 := eq_true q320
                                                          have p321 : 0 ≤ (x27_7 : Int) := of_decide_eq_true (by first | (with_reducible assumption) | assumption)
                                                          have q321 : x27_7 < (t287.length : Int) := of_decide_eq_true (by first | (with_reducible assumption) | assumption)
                                                          obtain ⟨ad321, e321, hx321_0, hx321_1⟩ := at_T30 (Kd.R_reads' HO_3.out).2.2 x27_7 p321 q321
                                                          obtain rfl : ad318 = ad321 := (by injection e321)
                                                          replace p321 := eq_true p321
                                                          replace q321 := eq_true q321
                                                          go_wp2
                                                          repeat (go_quiet (fail); try go_wp2)
                                                          go_ret
                                                          exact ⟨by first | rfl | (simp [errW_none, errW_some] <;> rfl) | (simp only [← hji64]; first | rfl | (simp [errW_none, errW_some] <;> rfl)) | (simp [*, errW_none, errW_some] <;> rfl), by repeat (first | (with_reducible first | exact HB.out | apply below_alloc | apply pw_below_drewN | apply below_drew1 | refine below_set ?_ GE300.out | refine below_set ?_ GE304.out) | exact HB.out)⟩
                                                        · rw [if_neg c69] at H
                                                          have c69b0 : decide ((wrap64 (t311 * (wrap64 (((rd_T30 t287 (ji64)).f0) - ((rd_T30 t287 x27_7).f0))))) < (wrap64 ((wrap64 (((rd_T30 t287 (ji64)).f1) - ((rd_T30 t287 x27_7).f1))) * t312))) = false := decide_eq_false c69
                                                          clear c69
                                                          have H' := Aside0.mk H
                                                          clear H
                                                          have p318 : 0 ≤ ((ji64) : Int) := of_decide_eq_true (by first | (with_reducible assumption) | assumption)
                                                          have q318 : (ji64) < (t287.length : Int) := of_decide_eq_true (by first | (with_reducible assumption) | assumption)
                                                          obtain ⟨ad318, e318, hx318_0, hx318_1⟩ := at_T30 (Kd.R_reads' HO_3.out).2.2 (ji64) p318 q318
                                                          cases e318
                                                          replace p318 := eq_true p318
                                                          replace q318 := eq_true q318
                                                          have p319 : 0 ≤ (x27_7 : Int) := of_decide_eq_true (by first | (with_reducible assumption) | assumption)
                                                          have q319 : x27_7 < (t287.length : Int) := of_decide_eq_true (by first | (with_reducible assumption) | assumption)
                                                          obtain ⟨ad319, e319, hx319_0, hx319_1⟩ := at_T30 (Kd.R_reads' HO_3.out).2.2 x27_7 p319 q319
                                                          obtain rfl : ad318 = ad319 := (by injection e319)
                                                          replace p319 := eq_true p319
                                                          replace q319 := eq_true q319
                                                          have p320 : 0 ≤ ((ji64) : Int) := of_decide_eq_true (by first | (with_reducible assumption) | assumption)
                                                          have q320 : (ji64) < (t287.length : Int) := of_decide_eq_true (by first | (with_reducible assumption) | assumption)
                                                          obtain ⟨ad320, e320, hx320_0, hx320_1⟩ := at_T30 (Kd.R_reads' HO_3.out).2.2 (ji64) p320 q320
                                                          obtain rfl : ad318 = ad320 := (by injection e320)
                                                          replace p320 := eq_true p320
                                                          replace q320 := eq_true q320
                                                          have p321 : 0 ≤ (x27_7 : Int) := of_decide_eq_true (by first | (with_reducible assumption) | assumption)
                                                          have q321 : x27_7 < (t287.length : Int) := of_decide_eq_true (by first | (with_reducible assumption) | assumption)
                                                          obtain ⟨ad321, e321, hx321_0, hx321_1⟩ := at_T30 (Kd.R_reads' HO_3.out).2.2 x27_7 p321 q321
                                                          obtain rfl : ad318 = ad321 := (by injection e321)
                                                          replace p321 := eq_true p321
                                                          replace q321 := eq_true q321
                                                          go_wp2
                                                          repeat (go_quiet (fail); try go_wp2)
                                                          go_roundg kj60
                                                          case measure => have := HJ6.out; have := HJ16.out; have := HK3.out; have := HJ32.out; have := HJ46.out; have := HJ53.out; have := HK7.out; have := HJ60.out; omega
                                                          case rel => exact ⟨(ji64), (by first | rfl | (simp; done) | (simp only [← hji64] <;> (first | rfl | simp)) | (simp [*]; done)), H', ⟨by have := HJ6.out; have := HJ16.out; have := HK3.out; have := HJ32.out; have := HJ46.out; have := HJ53.out; have := HK7.out; have := HJ60.out; omega⟩, ⟨by (with_reducible repeat (first | apply Kd.R_alloc | apply Kd.R_drewN | apply Kd.R_drew)); exact HO_3.out⟩, ⟨by (with_reducible repeat (first | refine blk_drewN ?_ _ | refine blk_drew ?_ | refine blk_alloc ?_ _)); exact BK300.out⟩, ⟨by (with_reducible repeat (first | refine blk_drewN ?_ _ | refine blk_drew ?_ | refine blk_alloc ?_ _)); exact BK304.out⟩, ⟨by repeat (first | (with_reducible first | exact HB.out | apply below_alloc | apply pw_below_drewN | apply below_drew1 | refine below_set ?_ GE300.out | refine below_set ?_ GE304.out) | exact HB.out)⟩⟩
                                                      · rw [if_neg c68] at H
                                                        exact absurd H (by simp)
                                                    · rw [if_neg c67] at H
                                                      exact absurd H (by simp)
                                                  · rw [if_neg c66] at H
                                                    exact absurd H (by simp)
                                                · rw [if_neg c65] at H
                                                  exact absurd H (by simp)
                                              · replace c63 := Bool.eq_false_iff.mpr c63
                                                subst c63
                                                have H1 : ((impl_AreReadings.f kj60 t287).bind fun t322 => ((spec_AreReadings.f kj60 t287).bind fun t323 => (some (t322 == t323)))) = some r := by rw [if_neg (show ¬ (false = true) by decide)] at H; exact H
                                                clear H
                                                have H := H1
                                                clear H1
                                                replace H := Option.bind_eq_some_iff.mp H
                                                obtain ⟨t322, A700, H⟩ := H
                                                replace H : ((spec_AreReadings.f kj60 t287).bind fun t323 => (some (t322 == t323))) = some r := H
                                                have A70 := Aside0.mk A700
                                                clear A700
                                                replace H := Option.bind_eq_some_iff.mp H
                                                obtain ⟨t323, A710, H⟩ := H
                                                replace H : (some (t322 == t323)) = some r := H
                                                have A71 := Aside0.mk A710
                                                clear A710
                                                obtain rfl := Option.some.inj H
                                                go_wp2_with (first | (go_at_call 15; (with_reducible refine (impl_AreReadings.calls kj60 _ _ t287 t322 _ ?side1 ?side2 A70.out).mono ?_); (case side1 => repeat (first | exact (Kd.R_reads' HO_3.out).2.2 | (with_reducible refine Kd.C_alloc ?_ _) | (with_reducible refine Kd.C_drewN ?_ _) | (with_reducible refine Kd.C_drew ?_))); (case side2 => exact (Kd.R_reads' HO_3.out).2.1); rintro e w72 ⟨rfl, hb⟩; have n0_ := Aside0.mk (Kd.R_below (by (with_reducible repeat (first | apply Kd.R_alloc | apply Kd.R_drewN | apply Kd.R_drew)); exact HO_3.out) hb); have n1_ := Aside0.mk (blk_below (g := gb300) (o := .cells #[.int .i64 t297, .int .i64 t298] 30 (0, 0)) (by (with_reducible repeat (first | refine blk_drewN ?_ _ | refine blk_drew ?_ | refine blk_alloc ?_ _)); exact BK300.out) hb); have n2_ := Aside0.mk (blk_below (g := gb304) (o := .cells #[.int .i64 t301, .int .i64 t302] 30 (0, 0)) (by (with_reducible repeat (first | refine blk_drewN ?_ _ | refine blk_drew ?_ | refine blk_alloc ?_ _)); exact BK304.out) hb); have n3_ := Aside0.mk (below_step (by repeat (first | (with_reducible first | exact HB.out | apply below_alloc | apply pw_below_drewN | apply below_drew1 | refine below_set ?_ GE300.out | refine below_set ?_ GE304.out) | exact HB.out)) hb); clear HO_3; clear BK300; clear BK304; clear HB; have HO_3 := n0_; have BK300 := n1_; have BK304 := n2_; have HB := n3_; clear n0_ n1_ n2_ n3_; (try clear hb); (try clear hb2); (try clear hk); (try clear hi)) | (go_at_call 16; (with_reducible refine (spec_AreReadings.calls kj60 _ _ t287 t323 _ ?side1 ?side2 A71.out).mono ?_); (case side1 => repeat (first | exact (Kd.R_reads' HO_3.out).2.2 | (with_reducible refine Kd.C_alloc ?_ _) | (with_reducible refine Kd.C_drewN ?_ _) | (with_reducible refine Kd.C_drew ?_))); (case side2 => exact (Kd.R_reads' HO_3.out).2.1); rintro e w73 ⟨rfl, hb⟩; have n0_ := Aside0.mk (Kd.R_below (by (with_reducible repeat (first | apply Kd.R_alloc | apply Kd.R_drewN | apply Kd.R_drew)); exact HO_3.out) hb); have n1_ := Aside0.mk (blk_below (g := gb300) (o := .cells #[.int .i64 t297, .int .i64 t298] 30 (0, 0)) (by (with_reducible repeat (first | refine blk_drewN ?_ _ | refine blk_drew ?_ | refine blk_alloc ?_ _)); exact BK300.out) hb); have n2_ := Aside0.mk (blk_below (g := gb304) (o := .cells #[.int .i64 t301, .int .i64 t302] 30 (0, 0)) (by (with_reducible repeat (first | refine blk_drewN ?_ _ | refine blk_drew ?_ | refine blk_alloc ?_ _)); exact BK304.out) hb); have n3_ := Aside0.mk (below_step (by repeat (first | (with_reducible first | exact HB.out | apply below_alloc | apply pw_below_drewN | apply below_drew1 | refine below_set ?_ GE300.out | refine below_set ?_ GE304.out) | exact HB.out)) hb); clear HO_3; clear BK300; clear BK304; clear HB; have HO_3 := n0_; have BK300 := n1_; have BK304 := n2_; have HB := n3_; clear n0_ n1_ n2_ n3_; (try clear hb); (try clear hb2); (try clear hk); (try clear hi)))
                                                repeat (go_quiet (first | (go_at_call 15; (with_reducible refine (impl_AreReadings.calls kj60 _ _ t287 t322 _ ?side1 ?side2 A70.out).mono ?_); (case side1 => repeat (first | exact (Kd.R_reads' HO_3.out).2.2 | (with_reducible refine Kd.C_alloc ?_ _) | (with_reducible refine Kd.C_drewN ?_ _) | (with_reducible refine Kd.C_drew ?_))); (case side2 => exact (Kd.R_reads' HO_3.out).2.1); rintro e w72 ⟨rfl, hb⟩; have n0_ := Aside0.mk (Kd.R_below (by (with_reducible repeat (first | apply Kd.R_alloc | apply Kd.R_drewN | apply Kd.R_drew)); exact HO_3.out) hb); have n1_ := Aside0.mk (blk_below (g := gb300) (o := .cells #[.int .i64 t297, .int .i64 t298] 30 (0, 0)) (by (with_reducible repeat (first | refine blk_drewN ?_ _ | refine blk_drew ?_ | refine blk_alloc ?_ _)); exact BK300.out) hb); have n2_ := Aside0.mk (blk_below (g := gb304) (o := .cells #[.int .i64 t301, .int .i64 t302] 30 (0, 0)) (by (with_reducible repeat (first | refine blk_drewN ?_ _ | refine blk_drew ?_ | refine blk_alloc ?_ _)); exact BK304.out) hb); have n3_ := Aside0.mk (below_step (by repeat (first | (with_reducible first | exact HB.out | apply below_alloc | apply pw_below_drewN | apply below_drew1 | refine below_set ?_ GE300.out | refine below_set ?_ GE304.out) | exact HB.out)) hb); clear HO_3; clear BK300; clear BK304; clear HB; have HO_3 := n0_; have BK300 := n1_; have BK304 := n2_; have HB := n3_; clear n0_ n1_ n2_ n3_; (try clear hb); (try clear hb2); (try clear hk); (try clear hi)) | (go_at_call 16; (with_reducible refine (spec_AreReadings.calls kj60 _ _ t287 t323 _ ?side1 ?side2 A71.out).mono ?_); (case side1 => repeat (first | exact (Kd.R_reads' HO_3.out).2.2 | (with_reducible refine Kd.C_alloc ?_ _) | (with_reducible refine Kd.C_drewN ?_ _) | (with_reducible refine Kd.C_drew ?_))); (case side2 => exact (Kd.R_reads' HO_3.out).2.1); rintro e w73 ⟨rfl, hb⟩; have n0_ := Aside0.mk (Kd.R_below (by (with_reducible repeat (first | apply Kd.R_alloc | apply Kd.R_drewN | apply Kd.R_drew)); exact HO_3.out) hb); have n1_ := Aside0.mk (blk_below (g := gb300) (o := .cells #[.int .i64 t297, .int .i64 t298] 30 (0, 0)) (by (with_reducible repeat (first | refine blk_drewN ?_ _ | refine blk_drew ?_ | refine blk_alloc ?_ _)); exact BK300.out) hb); have n2_ := Aside0.mk (blk_below (g := gb304) (o := .cells #[.int .i64 t301, .int .i64 t302] 30 (0, 0)) (by (with_reducible repeat (first | refine blk_drewN ?_ _ | refine blk_drew ?_ | refine blk_alloc ?_ _)); exact BK304.out) hb); have n3_ := Aside0.mk (below_step (by repeat (first | (with_reducible first | exact HB.out | apply below_alloc | apply pw_below_drewN | apply below_drew1 | refine below_set ?_ GE300.out | refine below_set ?_ GE304.out) | exact HB.out)) hb); clear HO_3; clear BK300; clear BK304; clear HB; have HO_3 := n0_; have BK300 := n1_; have BK304 := n2_; have HB := n3_; clear n0_ n1_ n2_ n3_; (try clear hb); (try clear hb2); (try clear hk); (try clear hi))); try go_wp2_with (first | (go_at_call 15; (with_reducible refine (impl_AreReadings.calls kj60 _ _ t287 t322 _ ?side1 ?side2 A70.out).mono ?_); (case side1 => repeat (first | exact (Kd.R_reads' HO_3.out).2.2 | (with_reducible refine Kd.C_alloc ?_ _) | (with_reducible refine Kd.C_drewN ?_ _) | (with_reducible refine Kd.C_drew ?_))); (case side2 => exact (Kd.R_reads' HO_3.out).2.1); rintro e w72 ⟨rfl, hb⟩; have n0_ := Aside0.mk (Kd.R_below (by (with_reducible repeat (first | apply Kd.R_alloc | apply Kd.R_drewN | apply Kd.R_drew)); exact HO_3.out) hb); have n1_ := Aside0.mk (blk_below (g := gb300) (o := .cells #[.int .i64 t297, .int .i64 t298] 30 (0, 0)) (by (with_reducible repeat (first | refine blk_drewN ?_ _ | refine blk_drew ?_ | refine blk_alloc ?_ _)); exact BK300.out) hb); have n2_ := Aside0.mk (blk_below (g := gb304) (o := .cells #[.int .i64 t301, .int .i64 t302] 30 (0, 0)) (by (with_reducible repeat (first | refine blk_drewN ?_ _ | refine blk_drew ?_ | refine blk_alloc ?_ _)); exact BK304.out) hb); have n3_ := Aside0.mk (below_step (by repeat (first | (with_reducible first | exact HB.out | apply below_alloc | apply pw_below_drewN | apply below_drew1 | refine below_set ?_ GE300.out | refine below_set ?_ GE304.out) | exact HB.out)) hb); clear HO_3; clear BK300; clear BK304; clear HB; have HO_3 := n0_; have BK300 := n1_; have BK304 := n2_; have HB := n3_; clear n0_ n1_ n2_ n3_; (try clear hb); (try clear hb2); (try clear hk); (try clear hi)) | (go_at_call 16; (with_reducible refine (spec_AreReadings.calls kj60 _ _ t287 t323 _ ?side1 ?side2 A71.out).mono ?_); (case side1 => repeat (first | exact (Kd.R_reads' HO_3.out).2.2 | (with_reducible refine Kd.C_alloc ?_ _) | (with_reducible refine Kd.C_drewN ?_ _) | (with_reducible refine Kd.C_drew ?_))); (case side2 => exact (Kd.R_reads' HO_3.out).2.1); rintro e w73 ⟨rfl, hb⟩; have n0_ := Aside0.mk (Kd.R_below (by (with_reducible repeat (first | apply Kd.R_alloc | apply Kd.R_drewN | apply Kd.R_drew)); exact HO_3.out) hb); have n1_ := Aside0.mk (blk_below (g := gb300) (o := .cells #[.int .i64 t297, .int .i64 t298] 30 (0, 0)) (by (with_reducible repeat (first | refine blk_drewN ?_ _ | refine blk_drew ?_ | refine blk_alloc ?_ _)); exact BK300.out) hb); have n2_ := Aside0.mk (blk_below (g := gb304) (o := .cells #[.int .i64 t301, .int .i64 t302] 30 (0, 0)) (by (with_reducible repeat (first | refine blk_drewN ?_ _ | refine blk_drew ?_ | refine blk_alloc ?_ _)); exact BK304.out) hb); have n3_ := Aside0.mk (below_step (by repeat (first | (with_reducible first | exact HB.out | apply below_alloc | apply pw_below_drewN | apply below_drew1 | refine below_set ?_ GE300.out | refine below_set ?_ GE304.out) | exact HB.out)) hb); clear HO_3; clear BK300; clear BK304; clear HB; have HO_3 := n0_; have BK300 := n1_; have BK304 := n2_; have HB := n3_; clear n0_ n1_ n2_ n3_; (try clear hb); (try clear hb2); (try clear hk); (try clear hi))))
                                                go_ret
                                                exact ⟨by first | rfl | (simp [errW_none, errW_some] <;> rfl) | (simp [*, errW_none, errW_some] <;> rfl), by repeat (first | (with_reducible first | exact HB.out | apply below_alloc | apply pw_below_drewN | apply below_drew1 | refine below_set ?_ GE300.out | refine below_set ?_ GE304.out) | exact HB.out)⟩
def laws_FnLevels.Pure : Prop := ∀ (l0 : List Int), l0.length ≤ maxLen → l0.length * 1 ≤ 140737488351232 → (∀ x ∈ l0, (Lit.int .u8 x).wf = true) → ∃ k, laws_FnLevels.f k l0 = some true
theorem laws_FnLevels.walk (P : laws_FnLevels.Pure) (a0 : Option Addr) (len0 cap0 : Nat) (z0 : List Int) (w : World) (w0 : (a0 = none ∧ len0 = 0 ∧ cap0 = 0 ∧ z0 = []) ∨ ∃ x, a0 = some x ∧ len0 ≤ cap0 ∧ cap0 ≤ maxLen ∧ z0.length = cap0 ∧ (∀ i, i < z0.length → w.cell? (x.add i) = some (.int .u8 (z0.getD i 0))) ∧ ∀ n ∈ z0, (Lit.int .u8 n).wf = true) (y0 : len0 * 1 ≤ 140737488351232) :
    Calls Try.prog 3 #[.slice a0 len0 cap0] w fun e w' => e = .returned (.bool true) ∧ Below w.heap.size w w' := by
  obtain ⟨l0, rfl, hr0, hm0, hw0, hc0⟩ := ReadsInt.ofRowC w0
  obtain ⟨k, h⟩ := P l0 hm0 y0 hw0
  refine (laws_FnLevels.calls k _ _ l0 true w (Kd.C_of_reads (d := (0 : Int)) (h1 := fun _ => rfl) hr0) hc0 h).mono ?_
  rintro e w' ⟨rfl, hd⟩
  exact ⟨rfl, hd⟩
end Go.Proofs.Ytldifiededjgjaa.P
namespace Go.Proofs.Ytldifiededjgjaa.Pu
open Go.RowKit Go.Proofs.Ytldifiededjgjaa.P Go.Proofs.YtldifiededjgjaaW.PrintWords
theorem wr {x : Int} (h : -9223372036854775808 ≤ x) (h' : x ≤ 9223372036854775807) : wrap64 x = x := by unfold wrap64; omega
theorem wr_nn {x : Int} (h : 0 ≤ x) (h' : x ≤ 9223372036854775807) : wrap64 x = x := wr (by omega) h'
theorem Ev.pos {α : Type} {c : Prop} [Decidable c] {a b : Nat → Option α} {r : α} (h : c) (k : Ev a r) : Ev (fun n => if c then a n else b n) r := by
  simpa only [if_pos h] using k
theorem Ev.neg {α : Type} {c : Prop} [Decidable c] {a b : Nat → Option α} {r : α} (h : ¬ c) (k : Ev b r) : Ev (fun n => if c then a n else b n) r := by
  simpa only [if_neg h] using k
theorem Ev.bindS {α β : Type} {g : Option α} {f : Nat → α → Option β} {a : α} {r : β} (h : g = some a) (k : Ev (fun n => f n a) r) : Ev (fun n => g.bind (f n)) r := by
  subst h; exact k
theorem Ev.someb {α β : Type} {a : α} {f : Nat → α → Option β} {r : β} (k : Ev (fun n => f n a) r) : Ev (fun n => (some a).bind (f n)) r := k
theorem Ev.to {α : Type} {g : Nat → Option α} {r r' : α} (k : Ev g r') (h : r' = r) : Ev g r := h ▸ k
theorem Ev.uniq {α : Type} {g : Nat → Option α} {r r' : α} (h : Ev g r) (h' : Ev g r') : r = r' := by
  obtain ⟨K, hK⟩ := h
  obtain ⟨K', hK'⟩ := h'
  have a := hK (max K K') (Nat.le_max_left _ _)
  have b := hK' (max K K') (Nat.le_max_right _ _)
  rw [a] at b
  exact Option.some.inj b
def Bytes (s : List Int) : Prop := ∀ x ∈ s, 0 ≤ x ∧ x ≤ 255
theorem rd_byte {s : List Int} (h : Bytes s) (i : Int) (h0 : 0 ≤ i) (h1 : i < s.length) : 0 ≤ rd s i ∧ rd s i ≤ 255 := by
  have e : rd s i = s[i.toNat]'(by omega) := by
    unfold rd
    rw [List.getD_eq_getElem?_getD, List.getElem?_eq_getElem (by omega)]
    rfl
  rw [e]
  exact h _ (List.getElem_mem _)
theorem u64w (n : Int) : 0 ≤ IntKind.u64.wrap n ∧ IntKind.u64.wrap n < 18446744073709551616 := by
  have e : IntKind.u64.wrap n = n % 18446744073709551616 := by simp [IntKind.wrap, IntKind.bits, IntKind.signed]
  rw [e]
  omega
theorem mask8 (x : Int) (h0 : 0 ≤ x) (h1 : x < 18446744073709551616) : 0 ≤ Go.bits .and .u64 x 255 ∧ Go.bits .and .u64 x 255 ≤ 255 := by
  have e := bits_mask .u64 64 (by decide) (fun n h h' => by
    have e : IntKind.u64.wrap n = n % 18446744073709551616 := by simp [IntKind.wrap, IntKind.bits, IntKind.signed]
    rw [e]
    have h2 : n < 18446744073709551616 := h'
    omega) 8 (by decide) x h0 h1
  have e2 : Go.bits .and .u64 x 255 = x % 256 := e
  rw [e2]
  omega
theorem next_ok {s : List Int} (hs : Bytes s) (a sd : Int) (h0 : 0 ≤ a) (h1 : a ≤ 4611686018427387904) :
    ∃ t sd', spec_l1Cur_next.f s a sd = some (t, a + 1, sd') ∧ 0 ≤ t ∧ t ≤ 255 := by
  have ea : wrap64 (a + 1) = a + 1 := wr (by omega) (by omega)
  unfold spec_l1Cur_next.f
  simp only [ea]
  by_cases c : a < (s.length : Int)
  · have hb := rd_byte hs a h0 c
    rw [if_pos c, if_pos h0, if_pos (by omega)]
    exact ⟨_, _, rfl, by rw [wr (by omega) (by omega)]; omega, by rw [wr (by omega) (by omega)]; omega⟩
  · rw [if_neg c]
    by_cases d : a + 1 ≤ (s.length : Int)
    · rw [if_pos d]
      exact ⟨_, _, rfl, by omega, by omega⟩
    · rw [if_neg d]
      refine ⟨_, _, rfl, ?_⟩
      generalize hq : IntKind.u64.wrap _ = q
      have hw : 0 ≤ q ∧ q < 18446744073709551616 := hq ▸ u64w _
      have hm := mask8 (q / 1099511627776) (by omega) (by omega)
      rw [wr (by omega) (by omega)]
      exact hm
theorem tmod_lt (x n : Int) (hx : 0 ≤ x) (hn : 1 < n) : 0 ≤ Int.tmod x n ∧ Int.tmod x n < n := by
  rw [Int.tmod_eq_emod_of_nonneg hx]
  exact ⟨Int.emod_nonneg _ (by omega), Int.emod_lt_of_pos _ (by omega)⟩
theorem pick_ok {s : List Int} (hs : Bytes s) (a sd n : Int) (h0 : 0 ≤ a) (h1 : a ≤ 4611686018427387000) :
    ∃ t a' sd', spec_l1Cur_pick.f s a sd n = some (t, a', sd') ∧ 0 ≤ t ∧ (1 ≤ n → t < n) ∧ (n ≤ 1 → t = 0) ∧ a ≤ a' ∧ a' ≤ a + 2 := by
  unfold spec_l1Cur_pick.f
  by_cases c : n ≤ 1
  · rw [if_pos c]
    exact ⟨_, _, _, rfl, by omega, by omega, by omega, by omega, by omega⟩
  · rw [if_neg c]
    obtain ⟨t, sd1, e, t0, t1⟩ := next_ok hs a sd h0 (by omega)
    rw [e]
    simp only [Option.bind_some]
    by_cases d : n > 200
    · rw [if_pos d]
      obtain ⟨u, sd2, e2, u0, u1⟩ := next_ok hs (a + 1) sd1 (by omega) (by omega)
      rw [e2]
      simp only [Option.bind_some]
      rw [if_neg (by omega), wr (x := t * 256) (by omega) (by omega), wr (x := t * 256 + u) (by omega) (by omega)]
      have hm := tmod_lt (t * 256 + u) n (by omega) (by omega)
      exact ⟨_, _, _, rfl, hm.1, fun _ => hm.2, fun h => absurd h c, by omega, by omega⟩
    · rw [if_neg d, if_neg (by omega)]
      have hm := tmod_lt t n (by omega) (by omega)
      exact ⟨_, _, _, rfl, hm.1, fun _ => hm.2, fun h => absurd h c, by omega, by omega⟩
theorem among_ok {s : List Int} (hs : Bytes s) (a sd : Int) (l : List Int) (hl : 0 < l.length) (h0 : 0 ≤ a) (h1 : a ≤ 4611686018427387000) :
    ∃ i a' sd', spec_l1Cur_among.f s a sd l = some (rd l i, a', sd') ∧ 0 ≤ i ∧ i < l.length ∧ a ≤ a' ∧ a' ≤ a + 2 := by
  obtain ⟨t, a', sd', e, t0, t1, _, b0, b1⟩ := pick_ok hs a sd (l.length : Int) h0 h1
  have t2 := t1 (by omega)
  unfold spec_l1Cur_among.f
  rw [e]
  simp only [Option.bind_some]
  rw [if_pos t0, if_pos t2]
  exact ⟨t, a', sd', rfl, t0, t2, b0, b1⟩
theorem rd_mem (l : List Int) (i : Int) (h0 : 0 ≤ i) (h1 : i < l.length) : rd l i ∈ l := by
  have e : rd l i = l[i.toNat]'(by omega) := by
    unfold rd
    rw [List.getD_eq_getElem?_getD, List.getElem?_eq_getElem (by omega)]
    rfl
  rw [e]
  exact List.getElem_mem _
end Go.Proofs.Ytldifiededjgjaa.Pu
namespace Go.Proofs.Ytldifiededjgjaa.Pu
open Go.RowKit Go.Proofs.Ytldifiededjgjaa.P Go.Proofs.YtldifiededjgjaaW.PrintWords
def H (l : List S30) (i : Int) : Int := (rd_T30 l i).f0
def Lv (l : List S30) (i : Int) : Int := (rd_T30 l i).f1
def okAt (l : List S30) (i : Int) : Prop := (0 ≤ H l i ∧ H l i ≤ 999) ∧ (-500 ≤ Lv l i ∧ Lv l i ≤ 500) ∧ (0 < i → H l (i - 1) < H l i)
def GoodR (l : List S30) : Prop := (∀ i : Int, 0 ≤ i → i < l.length → okAt l i) ∧ l.length ≤ 15
noncomputable def goodB (l : List S30) : Bool := @decide (GoodR l) (Classical.propDecidable (GoodR l))
theorem goodB_true {l : List S30} (h : GoodR l) : goodB l = true := @decide_eq_true _ (Classical.propDecidable (GoodR l)) h
theorem goodB_false {l : List S30} (h : ¬ GoodR l) : goodB l = false := @decide_eq_false _ (Classical.propDecidable (GoodR l)) h
theorem good_of {l : List S30} (h : goodB l = true) : GoodR l := @of_decide_eq_true _ (Classical.propDecidable (GoodR l)) h
theorem l1In_eq (a b c : Int) : spec_l1In.f a b c = some (decide (b ≤ a ∧ a ≤ c)) := by
  unfold spec_l1In.f
  by_cases h : b ≤ a <;> simp [h]
theorem within_eq (a b c : Int) : impl_within.f a b c = some (decide (b ≤ a ∧ a ≤ c)) := by
  unfold impl_within.f
  by_cases h : b ≤ a <;> simp [h]
theorem level_eq (a : Int) : spec_l23Level.f a = some (decide (-500 ≤ a ∧ a ≤ 500)) := by
  unfold spec_l23Level.f
  rw [l1In_eq]
  rfl
theorem isLevel_eq (a : Int) : impl_isLevel.f a = some (decide (-500 ≤ a ∧ a ≤ 500)) := by
  unfold impl_isLevel.f
  rw [within_eq]
  rfl
theorem sgood_l0 (l : List S30) (hl : (l.length : Int) ≤ 1000000000000) : ∀ (d : Nat) (i : Int), 0 ≤ i → (l.length : Int) - i = d →
    (∀ j : Int, 0 ≤ j → j < i → okAt l j) → Ev (fun k => spec_l23Good.l0 k l i) (goodB l) := by
  intro d
  induction d with
  | zero =>
    intro i h0 hd hj
    refine Ev.step (fun k => spec_l23Good.l0.eq_2 l i k) (Ev.neg (by omega) (Ev.to (Ev.now _) ?_))
    by_cases c : l.length ≤ 15
    · rw [goodB_true ⟨fun j a b => hj j a (by omega), c⟩]
      exact decide_eq_true (by omega)
    · rw [goodB_false (fun g => c g.2)]
      exact decide_eq_false (by omega)
  | succ d ih =>
    intro i h0 hd hj
    refine Ev.step (fun k => spec_l23Good.l0.eq_2 l i k) (Ev.pos (by omega) (Ev.pos h0 (Ev.bindS (l1In_eq _ _ _) ?_)))
    have bad : ¬ okAt l i → goodB l = false := fun h => goodB_false (fun g => h (g.1 i h0 (by omega)))
    by_cases c1 : 0 ≤ H l i ∧ H l i ≤ 999
    · refine Ev.pos (decide_eq_true c1) (Ev.bindS (level_eq _) ?_)
      by_cases c2 : -500 ≤ Lv l i ∧ Lv l i ≤ 500
      · refine Ev.pos (decide_eq_true c2) ?_
        by_cases c3 : i > 0
        · have e : wrap64 (i - 1) = i - 1 := wr (by omega) (by omega)
          simp only [e]
          refine Ev.pos c3 (Ev.pos (by omega) (Ev.pos (by omega) ?_))
          by_cases c4 : H l (i - 1) ≥ H l i
          · exact Ev.pos c4 (Ev.to (Ev.now _) (bad (fun g => by have := g.2.2 c3; omega)).symm)
          · refine Ev.neg c4 ?_
            have e2 : wrap64 (i + 1) = i + 1 := wr (by omega) (by omega)
            simp only [e2]
            refine ih (i + 1) (by omega) (by omega) (fun j a b => ?_)
            by_cases ej : j = i
            · rw [ej]
              exact ⟨c1, c2, fun _ => by omega⟩
            · exact hj j a (by omega)
        · refine Ev.neg c3 ?_
          have e2 : wrap64 (i + 1) = i + 1 := wr (by omega) (by omega)
          simp only [e2]
          refine ih (i + 1) (by omega) (by omega) (fun j a b => ?_)
          by_cases ej : j = i
          · rw [ej]
            exact ⟨c1, c2, fun h => absurd h c3⟩
          · exact hj j a (by omega)
      · exact Ev.neg (fun e => c2 (of_decide_eq_true e)) (Ev.to (Ev.now _) (bad (fun g => c2 g.2.1)).symm)
    · exact Ev.neg (fun e => c1 (of_decide_eq_true e)) (Ev.to (Ev.now _) (bad (fun g => c1 g.1)).symm)
theorem sgood (l : List S30) (hl : (l.length : Int) ≤ 1000000000000) : Ev (fun k => spec_l23Good.f k l) (goodB l) :=
  sgood_l0 l hl l.length 0 (by omega) (by omega) (fun j a b => by omega)
theorem igood_l0 (l : List S30) : ∀ (k : Nat) (i : Int), impl_AreReadings.l0 k l l (l.length : Int) i = spec_l23Good.l0 k l i := by
  intro k
  induction k with
  | zero => intro i; rfl
  | succ k ih =>
    intro i
    rw [impl_AreReadings.l0.eq_2, spec_l23Good.l0.eq_2]
    simp only [ih, within_eq, isLevel_eq, l1In_eq, level_eq]
    by_cases c : i < (l.length : Int)
    · simp only [if_pos c]
    · simp only [if_neg c]
theorem igood (l : List S30) (hl : (l.length : Int) ≤ 1000000000000) : Ev (fun k => impl_AreReadings.f k l) (goodB l) := by
  have h := sgood l hl
  unfold spec_l23Good.f at h
  unfold impl_AreReadings.f
  simp only [igood_l0]
  exact h
theorem sare (l : List S30) (hl : (l.length : Int) ≤ 1000000000000) : Ev (fun k => spec_AreReadings.f k l) (goodB l) := by
  unfold spec_AreReadings.f
  exact Ev.bind (sgood l hl) (Ev.now _)
theorem gcd_next (a b : Int) : Int.gcd b (Int.tmod a b) = Int.gcd a b := by
  unfold Int.gcd
  rw [Int.natAbs_tmod, Nat.gcd_comm b.natAbs, Nat.gcd_comm a.natAbs, ← Nat.gcd_rec]
theorem abs_eq (a : Int) (h : -9223372036854775807 ≤ a) (h' : a ≤ 9223372036854775807) : impl_absolute.f a = some (a.natAbs : Int) := by
  unfold impl_absolute.f mx
  rw [wr (by omega) (by omega)]
  congr 1
  split <;> omega
theorem tmod_abs (a b : Int) (hb : b ≠ 0) : (Int.tmod a b).natAbs < b.natAbs := by
  rw [Int.natAbs_tmod]
  exact Nat.mod_lt _ (by omega)
theorem igcd : ∀ (n : Nat) (a b : Int), b.natAbs ≤ n → a.natAbs ≤ 9223372036854775807 → b.natAbs ≤ 9223372036854775807 →
    Ev (fun k => impl_gcd.l0 k a b) (Int.gcd a b : Int) := by
  intro n
  induction n with
  | zero =>
    intro a b hn ha hb
    obtain rfl : b = 0 := by omega
    refine Ev.step (fun k => impl_gcd.l0.eq_2 a 0 k) (Ev.pos rfl (Ev.bindS (abs_eq a (by omega) (by omega)) (Ev.to (Ev.now _) ?_)))
    simp
  | succ n ih =>
    intro a b hn ha hb
    by_cases c : b = 0
    · subst c
      refine Ev.step (fun k => impl_gcd.l0.eq_2 a 0 k) (Ev.pos rfl (Ev.bindS (abs_eq a (by omega) (by omega)) (Ev.to (Ev.now _) ?_)))
      simp
    · refine Ev.step (fun k => impl_gcd.l0.eq_2 a b k) (Ev.neg c (Ev.to (ih b (Int.tmod a b) ?_ hb ?_) ?_))
      · have := tmod_abs a b c; omega
      · have := tmod_abs a b c; omega
      · rw [gcd_next a b]
theorem scommon : ∀ (n : Nat) (a b : Int), b.natAbs ≤ n → 0 ≤ a → 0 ≤ b → Ev (fun k => spec_l23Common.l0 k a b) (Int.gcd a b : Int) := by
  intro n
  induction n with
  | zero =>
    intro a b hn ha hb
    obtain rfl : b = 0 := by omega
    refine Ev.step (fun k => spec_l23Common.l0.eq_2 a 0 k) (Ev.neg (by omega) (Ev.to (Ev.now _) ?_))
    simp
    omega
  | succ n ih =>
    intro a b hn ha hb
    by_cases c : b > 0
    · refine Ev.step (fun k => spec_l23Common.l0.eq_2 a b k) (Ev.pos c (Ev.neg (by omega) (Ev.to (ih b (Int.tmod a b) ?_ hb ?_) ?_)))
      · have := tmod_abs a b (by omega); omega
      · exact Int.tmod_nonneg b ha
      · rw [gcd_next a b]
    · obtain rfl : b = 0 := by omega
      refine Ev.step (fun k => spec_l23Common.l0.eq_2 a 0 k) (Ev.neg (by omega) (Ev.to (Ev.now _) ?_))
      simp
      omega
def red (a b : Int) : Int × Int := (a / (Int.gcd a b : Int), b / (Int.gcd a b : Int))
theorem gcd_pos {a b : Int} (hb : 0 < b) : 0 < (Int.gcd a b : Int) := by
  have : Int.gcd a b ≠ 0 := fun h => by rw [Int.gcd_eq_zero_iff] at h; omega
  omega
theorem tdiv_gcd_l (a b : Int) : Int.tdiv a (Int.gcd a b : Int) = a / (Int.gcd a b : Int) := Int.tdiv_eq_ediv_of_dvd (Int.gcd_dvd_left _ _)
theorem tdiv_gcd_r (a b : Int) : Int.tdiv b (Int.gcd a b : Int) = b / (Int.gcd a b : Int) := Int.tdiv_eq_ediv_of_dvd (Int.gcd_dvd_right _ _)
theorem ediv_bound (a g : Int) (hg : 0 < g) (B : Int) (h : -B ≤ a) (h' : a ≤ B) : -B ≤ a / g ∧ a / g ≤ B := by
  constructor
  · refine (Int.le_ediv_iff_mul_le hg).2 ?_
    have : B * 1 ≤ B * g := Int.mul_le_mul_of_nonneg_left (by omega) (by omega)
    rw [Int.neg_mul]
    omega
  · by_cases c : 0 ≤ a
    · exact Int.le_trans (Int.ediv_le_self _ c) h'
    · have := Int.ediv_neg_of_neg_of_pos (by omega : a < 0) hg
      omega
theorem ired (a b : Int) (hb : 0 < b) (h1 : -4611686018427387904 ≤ a) (h2 : a ≤ 4611686018427387904) (h3 : b ≤ 4611686018427387904) :
    Ev (fun k => impl_reduced.f k a b) (red a b) := by
  have hg := gcd_pos (a := a) hb
  have ba := ediv_bound a _ hg 4611686018427387904 h1 h2
  have bb := ediv_bound b _ hg 4611686018427387904 (by omega) h3
  unfold impl_reduced.f impl_gcd.f
  refine Ev.bind (igcd b.natAbs a b (Nat.le_refl _) (by omega) (by omega)) (Ev.neg (by omega) (Ev.to (Ev.now _) ?_))
  rw [tdiv_gcd_l, tdiv_gcd_r, wr (by omega) (by omega), wr (by omega) (by omega)]
  rfl
theorem sred (a b : Int) (hb : 0 < b) (h1 : -4611686018427387904 ≤ a) (h2 : a ≤ 4611686018427387904) (h3 : b ≤ 4611686018427387904) :
    Ev (fun k => spec_l23Reduce.f k a b) (red a b) := by
  have hg := gcd_pos (a := a) hb
  have ba := ediv_bound a _ hg 4611686018427387904 h1 h2
  have bb := ediv_bound b _ hg 4611686018427387904 (by omega) h3
  have hm : spec_l1Most.f a (wrap64 (-a)) = some (a.natAbs : Int) := by
    unfold spec_l1Most.f
    rw [wr (by omega) (by omega)]
    by_cases c : a > -a
    · rw [if_pos c]; congr 1; omega
    · rw [if_neg c]; congr 1; omega
  have hc : Ev (fun k => spec_l23Common.f k (a.natAbs : Int) b) (Int.gcd a b : Int) := by
    have h := scommon b.natAbs (a.natAbs : Int) b (Nat.le_refl _) (by omega) (by omega)
    have e : Int.gcd (a.natAbs : Int) b = Int.gcd a b := by unfold Int.gcd; rw [Int.natAbs_natCast]
    rw [e] at h
    exact h
  unfold spec_l23Reduce.f
  refine Ev.bindS hm (Ev.bind hc (Ev.neg (by omega) (Ev.to (Ev.now _) ?_)))
  rw [tdiv_gcd_l, tdiv_gcd_r, wr (by omega) (by omega), wr (by omega) (by omega)]
  rfl
theorem red_spec (a b : Int) (hb : 0 < b) : ∃ g : Int, 0 < g ∧ a = (red a b).1 * g ∧ b = (red a b).2 * g ∧ 0 < (red a b).2 := by
  have hg := gcd_pos (a := a) hb
  have e1 : a / (Int.gcd a b : Int) * (Int.gcd a b : Int) = a := Int.ediv_mul_cancel (Int.gcd_dvd_left _ _)
  have e2 : b / (Int.gcd a b : Int) * (Int.gcd a b : Int) = b := Int.ediv_mul_cancel (Int.gcd_dvd_right _ _)
  refine ⟨Int.gcd a b, hg, e1.symm, e2.symm, ?_⟩
  by_cases c : 0 < b / (Int.gcd a b : Int)
  · exact c
  · have : b / (Int.gcd a b : Int) * (Int.gcd a b : Int) ≤ 0 * (Int.gcd a b : Int) := Int.mul_le_mul_of_nonneg_right (by omega) (by omega)
    omega
theorem red_bound (a b B : Int) (hb : 0 < b) (h : -B ≤ a) (h' : a ≤ B) (hB : b ≤ B) : -B ≤ (red a b).1 ∧ (red a b).1 ≤ B ∧ (red a b).2 ≤ B := by
  have hg := gcd_pos (a := a) hb
  have ba := ediv_bound a _ hg B h h'
  have bb := ediv_bound b _ hg B (by omega) hB
  exact ⟨ba.1, ba.2, bb.2⟩
end Go.Proofs.Ytldifiededjgjaa.Pu
namespace Go.Proofs.Ytldifiededjgjaa.Pu
open Go.RowKit Go.Proofs.Ytldifiededjgjaa.P Go.Proofs.YtldifiededjgjaaW.PrintWords
def InH (l : List S30) (h : Int) : Prop := GoodR l ∧ 0 < l.length ∧ H l 0 ≤ h ∧ h ≤ H l ((l.length : Int) - 1)
noncomputable def inB (l : List S30) (h : Int) : Bool := @decide (InH l h) (Classical.propDecidable (InH l h))
theorem inB_true {l : List S30} {h : Int} (g : InH l h) : inB l h = true := @decide_eq_true _ (Classical.propDecidable (InH l h)) g
theorem inB_false {l : List S30} {h : Int} (g : ¬ InH l h) : inB l h = false := @decide_eq_false _ (Classical.propDecidable (InH l h)) g
theorem in_of {l : List S30} {h : Int} (g : inB l h = true) : InH l h := @of_decide_eq_true _ (Classical.propDecidable (InH l h)) g
theorem GoodR.len {l : List S30} (g : GoodR l) : (l.length : Int) ≤ 15 := by have := g.2; omega
theorem GoodR.h {l : List S30} (g : GoodR l) (i : Int) (h0 : 0 ≤ i) (h1 : i < l.length) : 0 ≤ H l i ∧ H l i ≤ 999 := (g.1 i h0 h1).1
theorem GoodR.lv {l : List S30} (g : GoodR l) (i : Int) (h0 : 0 ≤ i) (h1 : i < l.length) : -500 ≤ Lv l i ∧ Lv l i ≤ 500 := (g.1 i h0 h1).2.1
theorem GoodR.up {l : List S30} (g : GoodR l) (i : Int) (h0 : 0 ≤ i) (h1 : i + 1 < l.length) : H l i < H l (i + 1) := by
  have h := (g.1 (i + 1) (by omega) h1).2.2 (by omega)
  rw [show i + 1 - 1 = i from by omega] at h
  exact h
theorem GoodR.mono {l : List S30} (g : GoodR l) (i : Int) (h0 : 0 ≤ i) : ∀ (d : Nat), i + d < l.length → H l i ≤ H l (i + d) := by
  intro d
  induction d with
  | zero => intro _; rw [show i + ((0 : Nat) : Int) = i from by omega]; exact Int.le_refl _
  | succ d ih =>
    intro hd
    have a := ih (by omega)
    have b := g.up (i + d) (by omega) (by omega)
    rw [show i + ((d + 1 : Nat) : Int) = i + d + 1 from by omega]
    omega
theorem GoodR.le {l : List S30} (g : GoodR l) (i j : Int) (h0 : 0 ≤ i) (h : i ≤ j) (h1 : j < l.length) : H l i ≤ H l j := by
  have := g.mono i h0 (j - i).toNat (by omega)
  rw [show i + (((j - i).toNat : Nat) : Int) = j from by omega] at this
  exact this
theorem GoodR.lt {l : List S30} (g : GoodR l) (i j : Int) (h0 : 0 ≤ i) (h : i < j) (h1 : j < l.length) : H l i < H l j := by
  have a := g.up i h0 (by omega)
  have b := g.le (i + 1) j (by omega) (by omega) h1
  omega
theorem swithin (l : List S30) (h : Int) (hl : (l.length : Int) ≤ 1000000000000) : Ev (fun k => spec_l23Within.f k l h) (inB l h) := by
  unfold spec_l23Within.f
  refine Ev.bind (sgood l hl) ?_
  by_cases g : GoodR l
  · refine Ev.pos (goodB_true g) ?_
    by_cases c : (l.length : Int) > 0
    · have e : wrap64 ((l.length : Int) - 1) = (l.length : Int) - 1 := wr (by omega) (by omega)
      simp only [e]
      refine Ev.pos c (Ev.pos c (Ev.pos (by omega) (Ev.pos (by omega) (Ev.bindS (l1In_eq _ _ _) (Ev.to (Ev.now _) ?_)))))
      by_cases d : H l 0 ≤ h ∧ h ≤ H l ((l.length : Int) - 1)
      · rw [inB_true ⟨g, by omega, d⟩]
        exact decide_eq_true d
      · rw [inB_false (fun q => d q.2.2)]
        exact decide_eq_false d
    · exact Ev.neg c (Ev.to (Ev.now _) (inB_false (fun q => by have := q.2.1; omega)).symm)
  · exact Ev.neg (by rw [goodB_false g]; simp) (Ev.to (Ev.now _) (inB_false (fun q => g q.1)).symm)
theorem ihours (l : List S30) (hl : (l.length : Int) ≤ 1000000000000) :
    impl_hours.f l = some (if (l.length : Int) = 0 then (0, -1) else (H l 0, H l ((l.length : Int) - 1))) := by
  unfold impl_hours.f
  by_cases c : (l.length : Int) = 0
  · rw [if_pos c, if_pos c]
  · have e : wrap64 ((l.length : Int) - 1) = (l.length : Int) - 1 := wr (by omega) (by omega)
    simp only [e]
    rw [if_neg c, if_neg c, if_pos (by omega), if_pos (by omega), if_pos (by omega)]
    rfl
theorem ihas (l : List S30) (h : Int) (hl : (l.length : Int) ≤ 1000000000000) : Ev (fun k => impl_hasHour.f k l h) (inB l h) := by
  unfold impl_hasHour.f
  refine Ev.bindS (ihours l hl) (Ev.bind (igood l hl) ?_)
  by_cases g : GoodR l
  · refine Ev.pos (goodB_true g) (Ev.bindS (within_eq _ _ _) (Ev.to (Ev.now _) ?_))
    by_cases c : (l.length : Int) = 0
    · rw [inB_false (fun q => by have := q.2.1; omega)]
      rw [if_pos c]
      exact decide_eq_false (fun q => by have := q.1; have := q.2; omega)
    · rw [if_neg c]
      by_cases d : H l 0 ≤ h ∧ h ≤ H l ((l.length : Int) - 1)
      · rw [inB_true ⟨g, by omega, d⟩]
        exact decide_eq_true d
      · rw [inB_false (fun q => d q.2.2)]
        exact decide_eq_false d
  · exact Ev.neg (by rw [goodB_false g]; simp) (Ev.to (Ev.now _) (inB_false (fun q => g q.1)).symm)
def lev (l : List S30) (h p : Int) : Int × Int :=
  if H l p = h then (Lv l p, 1) else red (Lv l p * (H l (p + 1) - h) + Lv l (p + 1) * (h - H l p)) (H l (p + 1) - H l p)
def At (l : List S30) (h p : Int) : Prop := 0 ≤ p ∧ p < l.length ∧ H l p ≤ h ∧ (p + 1 < l.length → h < H l (p + 1))
theorem mul_small (a b : Int) (ha : -500 ≤ a ∧ a ≤ 500) (hb : 0 ≤ b ∧ b ≤ 999) : -500000 ≤ a * b ∧ a * b ≤ 500000 := by
  have h1 : a * b ≤ 500 * b := Int.mul_le_mul_of_nonneg_right ha.2 hb.1
  have h2 : -500 * b ≤ a * b := Int.mul_le_mul_of_nonneg_right ha.1 hb.1
  omega
theorem ilev (l : List S30) (h : Int) (g : InH l h) : ∀ (d : Nat) (i : Int), 0 ≤ i → (l.length : Int) - 1 - i = d → H l i ≤ h →
    ∃ p, At l h p ∧ Ev (fun k => impl_levelIn.l0 k l h i) (lev l h p) := by
  have hg := g.1
  have hlen := hg.len
  intro d
  induction d with
  | zero =>
    intro i h0 hd hi
    have e : wrap64 (i + 1) = i + 1 := wr (by omega) (by omega)
    have hh : H l i = h := by have := g.2.2.2; rw [show (l.length : Int) - 1 = i from by omega] at this; omega
    refine ⟨i, ⟨h0, by omega, hi, fun q => by omega⟩, ?_⟩
    refine Ev.step (fun k => impl_levelIn.l0.eq_2 l h i k) ?_
    simp only [e]
    refine Ev.neg (by omega) (Ev.pos h0 (Ev.pos (by omega) (Ev.pos hh (Ev.to (Ev.now _) ?_))))
    unfold lev
    rw [if_pos hh]
    rfl
  | succ d ih =>
    intro i h0 hd hi
    have e : wrap64 (i + 1) = i + 1 := wr (by omega) (by omega)
    by_cases c : H l (i + 1) ≤ h
    · obtain ⟨p, hp, hr⟩ := ih (i + 1) (by omega) (by omega) c
      refine ⟨p, hp, Ev.step (fun k => impl_levelIn.l0.eq_2 l h i k) ?_⟩
      simp only [e]
      exact Ev.pos (by omega) (Ev.pos (by omega) (Ev.pos c hr))
    · refine ⟨i, ⟨h0, by omega, hi, fun q => by omega⟩, Ev.step (fun k => impl_levelIn.l0.eq_2 l h i k) ?_⟩
      simp only [e]
      refine Ev.pos (by omega) (Ev.pos (by omega) (Ev.neg c (Ev.pos h0 (Ev.pos (by omega) ?_))))
      by_cases q : H l i = h
      · refine Ev.pos q (Ev.to (Ev.now _) ?_)
        unfold lev
        rw [if_pos q]
        rfl
      · have b1 := hg.lv i h0 (by omega)
        have b2 := hg.lv (i + 1) (by omega) (by omega)
        have b3 := hg.h i h0 (by omega)
        have b4 := hg.h (i + 1) (by omega) (by omega)
        have m1 := mul_small (Lv l i) (H l (i + 1) - h) b1 (by omega)
        have m2 := mul_small (Lv l (i + 1)) (h - H l i) b2 (by omega)
        have w1 : wrap64 (H l (i + 1) - h) = H l (i + 1) - h := wr (by omega) (by omega)
        have w2 : wrap64 (h - H l i) = h - H l i := wr (by omega) (by omega)
        have w3 : wrap64 (Lv l i * (H l (i + 1) - h)) = Lv l i * (H l (i + 1) - h) := wr (by omega) (by omega)
        have w4 : wrap64 (Lv l (i + 1) * (h - H l i)) = Lv l (i + 1) * (h - H l i) := wr (by omega) (by omega)
        have w5 : wrap64 (Lv l i * (H l (i + 1) - h) + Lv l (i + 1) * (h - H l i)) = Lv l i * (H l (i + 1) - h) + Lv l (i + 1) * (h - H l i) := wr (by omega) (by omega)
        have w6 : wrap64 (H l (i + 1) - H l i) = H l (i + 1) - H l i := wr (by omega) (by omega)
        refine Ev.neg q ?_
        have r := ired (Lv l i * (H l (i + 1) - h) + Lv l (i + 1) * (h - H l i)) (H l (i + 1) - H l i) (by omega) (by omega) (by omega) (by omega)
        unfold H at w1 w2 w6
        unfold H Lv at w3 w4 w5 r
        simp only [w1, w2, w3, w4, w5, w6]
        refine Ev.bind r (Ev.to (Ev.now _) ?_)
        unfold lev
        rw [if_neg q]
        rfl
theorem slev (l : List S30) (h p : Int) (g : InH l h) (hp : At l h p) : ∀ (d : Nat) (i : Int), 0 ≤ i → p + 1 - i = d → (i ≤ p ∨ H l p ≠ h) →
    Ev (fun k => spec_l23In.l0 k l h i) (lev l h p) := by
  have hg := g.1
  have hlen := hg.len
  obtain ⟨p0, p1, p2, p3⟩ := hp
  have hlast : H l p ≠ h → p + 1 < l.length := fun q => by
    by_cases c : p + 1 < l.length
    · exact c
    · have := g.2.2.2
      rw [show (l.length : Int) - 1 = p from by omega] at this
      omega
  intro d
  induction d with
  | zero =>
    intro i h0 hd hq
    obtain rfl : i = p + 1 := by omega
    have q : H l p ≠ h := by
      rcases hq with x | x
      · omega
      · exact x
    have c := hlast q
    have u := p3 c
    refine Ev.step (fun k => spec_l23In.l0.eq_2 l h (p + 1) k) (Ev.pos h0 (Ev.pos c (Ev.neg (by show ¬ H l (p + 1) < h; omega) (Ev.neg (by show ¬ H l (p + 1) = h; omega) ?_))))
    have e : wrap64 (p + 1 - 1) = p := by rw [wr (by omega) (by omega)]; omega
    simp only [e]
    refine Ev.pos p0 (Ev.pos p1 ?_)
    have b1 := hg.lv p p0 p1
    have b2 := hg.lv (p + 1) (by omega) c
    have b3 := hg.h p p0 p1
    have b4 := hg.h (p + 1) (by omega) c
    have w1 : wrap64 (H l (p + 1) - h) = H l (p + 1) - h := wr (by omega) (by omega)
    have m1 := mul_small (Lv l p) (H l (p + 1) - h) b1 (by omega)
    have m2 := mul_small (Lv l (p + 1)) (h - H l p) b2 (by omega)
    have w2 : wrap64 (h - H l p) = h - H l p := wr (by omega) (by omega)
    have w3 : wrap64 (Lv l p * (H l (p + 1) - h)) = Lv l p * (H l (p + 1) - h) := wr (by omega) (by omega)
    have w4 : wrap64 (Lv l (p + 1) * (h - H l p)) = Lv l (p + 1) * (h - H l p) := wr (by omega) (by omega)
    have w5 : wrap64 (Lv l p * (H l (p + 1) - h) + Lv l (p + 1) * (h - H l p)) = Lv l p * (H l (p + 1) - h) + Lv l (p + 1) * (h - H l p) := wr (by omega) (by omega)
    have w6 : wrap64 (H l (p + 1) - H l p) = H l (p + 1) - H l p := wr (by omega) (by omega)
    have r := sred (Lv l p * (H l (p + 1) - h) + Lv l (p + 1) * (h - H l p)) (H l (p + 1) - H l p) (by omega) (by omega) (by omega) (by omega)
    unfold H at w1 w2 w6
    unfold H Lv at w3 w4 w5 r
    simp only [w1, w2, w3, w4, w5, w6]
    refine Ev.bind r (Ev.to (Ev.now _) ?_)
    unfold lev
    rw [if_neg q]
    rfl
  | succ d ih =>
    intro i h0 hd hq
    have e : wrap64 (i + 1) = i + 1 := wr (by omega) (by omega)
    by_cases c : H l i < h
    · refine Ev.step (fun k => spec_l23In.l0.eq_2 l h i k) ?_
      simp only [e]
      exact Ev.pos h0 (Ev.pos (by omega) (Ev.pos c (ih (i + 1) (by omega) (by omega) (if x : i = p then .inr (by rw [← x]; omega) else .inl (by omega)))))
    · have le := hg.le i p h0 (by omega) p1
      have q : H l i = h := by omega
      have ip : i = p := by
        by_cases x : i < p
        · have := hg.lt i p h0 x p1
          omega
        · omega
      refine Ev.step (fun k => spec_l23In.l0.eq_2 l h i k) (Ev.pos h0 (Ev.pos (by omega) (Ev.neg c (Ev.pos q (Ev.to (Ev.now _) ?_)))))
      unfold lev
      rw [ip] at q ⊢
      rw [if_pos q]
      rfl
theorem level_both (l : List S30) (h : Int) (g : InH l h) : ∃ p, At l h p ∧ Ev (fun k => impl_levelIn.f k l h) (lev l h p) ∧ Ev (fun k => spec_l23In.f k l h) (lev l h p) := by
  have hlen := g.1.len
  have h1 := g.2.1
  obtain ⟨p, hp, hr⟩ := ilev l h g (l.length - 1) 0 (by omega) (by omega) g.2.2.1
  exact ⟨p, hp, hr, slev l h p g hp (p + 1).toNat 0 (by omega) (by have := hp.1; omega) (.inl hp.1)⟩
end Go.Proofs.Ytldifiededjgjaa.Pu
namespace Go.Proofs.Ytldifiededjgjaa.Pu
open Go.RowKit Go.Proofs.Ytldifiededjgjaa.P Go.Proofs.YtldifiededjgjaaW.PrintWords
noncomputable def levelRes (l : List S30) (h p : Int) : Int × Int × Bool := if inB l h then ((lev l h p).1, (lev l h p).2, true) else (0, 0, false)
theorem LevelIn_both (l : List S30) (h : Int) (hl : (l.length : Int) ≤ 1000000000000) :
    ∃ p, (InH l h → At l h p) ∧ Ev (fun k => impl_LevelIn.f k l h) (levelRes l h p) ∧ Ev (fun k => spec_LevelIn.f k l h) (levelRes l h p) := by
  by_cases g : InH l h
  · obtain ⟨p, hp, hi, hs⟩ := level_both l h g
    refine ⟨p, fun _ => hp, ?_, ?_⟩
    · unfold impl_LevelIn.f levelRes
      rw [inB_true g]
      exact Ev.bind (ihas l h hl) (Ev.pos (inB_true g) (Ev.bind hi (Ev.now _)))
    · unfold spec_LevelIn.f levelRes
      rw [inB_true g]
      exact Ev.bind (swithin l h hl) (Ev.pos (inB_true g) (Ev.bind hs (Ev.now _)))
  · refine ⟨0, fun q => absurd q g, ?_, ?_⟩
    · unfold impl_LevelIn.f levelRes
      rw [inB_false g]
      exact Ev.bind (ihas l h hl) (Ev.neg (by rw [inB_false g]; simp) (Ev.now _))
    · unfold spec_LevelIn.f levelRes
      rw [inB_false g]
      exact Ev.bind (swithin l h hl) (Ev.neg (by rw [inB_false g]; simp) (Ev.now _))
def Tops (l : List S30) (m : Int) : Prop := ∀ i : Int, 0 ≤ i → i < l.length → Lv l i ≤ m
theorem shigh_l0 (l : List S30) (hl : (l.length : Int) ≤ 1000000000000) : ∀ (d : Nat) (i a b : Int), 0 ≤ i → (l.length : Int) - i = d →
    (∀ j : Int, 0 ≤ j → j < i → Lv l j ≤ b) → (∀ j : Int, 0 ≤ j → j < l.length → -500 ≤ Lv l j ∧ Lv l j ≤ 500) → -500 ≤ b ∧ b ≤ 500 → ∃ a' b', (Tops l b' ∧ -500 ≤ b' ∧ b' ≤ 500) ∧ Ev (fun k => spec_HighestReading.l0 k l i a b) (a', b', true) ∧
      Ev (fun k => impl_HighestReading.l0 k l (l.length : Int) i a b) (a', b', true) := by
  intro d
  induction d with
  | zero =>
    intro i a b h0 hd hb _ hs
    exact ⟨a, b, ⟨fun j x y => hb j x (by omega), hs⟩, Ev.step (fun k => spec_HighestReading.l0.eq_2 l i a b k) (Ev.neg (by omega) (Ev.now _)),
      Ev.step (fun k => impl_HighestReading.l0.eq_2 l (l.length : Int) i a b k) (Ev.neg (by omega) (Ev.now _))⟩
  | succ d ih =>
    intro i a b h0 hd hb hv hs
    have e : wrap64 (i + 1) = i + 1 := wr (by omega) (by omega)
    by_cases c : Lv l i > b
    · obtain ⟨a', b', t, s, p⟩ := ih (i + 1) (H l i) (Lv l i) (by omega) (by omega) (fun j x y => by
        by_cases q : j = i
        · rw [q]; exact Int.le_refl _
        · have := hb j x (by omega); omega) hv (hv i h0 (by omega))
      refine ⟨a', b', t, Ev.step (fun k => spec_HighestReading.l0.eq_2 l i a b k) ?_, Ev.step (fun k => impl_HighestReading.l0.eq_2 l (l.length : Int) i a b k) ?_⟩
      · simp only [e]
        exact Ev.pos (by omega) (Ev.pos h0 (Ev.pos c s))
      · simp only [e]
        exact Ev.pos (by omega) (Ev.pos h0 (Ev.pos (by omega) (Ev.pos c p)))
    · obtain ⟨a', b', t, s, p⟩ := ih (i + 1) a b (by omega) (by omega) (fun j x y => by
        by_cases q : j = i
        · rw [q]; omega
        · exact hb j x (by omega)) hv hs
      refine ⟨a', b', t, Ev.step (fun k => spec_HighestReading.l0.eq_2 l i a b k) ?_, Ev.step (fun k => impl_HighestReading.l0.eq_2 l (l.length : Int) i a b k) ?_⟩
      · simp only [e]
        exact Ev.pos (by omega) (Ev.pos h0 (Ev.neg c s))
      · simp only [e]
        exact Ev.pos (by omega) (Ev.pos h0 (Ev.pos (by omega) (Ev.neg c p)))
theorem High_both (l : List S30) (hl : (l.length : Int) ≤ 1000000000000) :
    ∃ a b t, (t = true → GoodR l ∧ (Tops l b ∧ -500 ≤ b ∧ b ≤ 500) ∧ 0 < l.length) ∧ (GoodR l → 0 < l.length → t = true) ∧ Ev (fun k => impl_HighestReading.f k l) (a, b, t) ∧ Ev (fun k => spec_HighestReading.f k l) (a, b, t) := by
  by_cases g : GoodR l
  · by_cases c : (l.length : Int) = 0
    · refine ⟨0, 0, false, by simp, fun _ q => by omega, ?_, ?_⟩
      · unfold impl_HighestReading.f
        refine Ev.bind (igood l hl) (Ev.pos (goodB_true g) ?_)
        exact Ev.step (fun k => impl_HighestReading.j0.eq_2 l _ k) (Ev.pos (by rw [c]; rfl) (Ev.now _))
      · unfold spec_HighestReading.f
        refine Ev.bind (sgood l hl) (Ev.pos (goodB_true g) ?_)
        exact Ev.step (fun k => spec_HighestReading.j0.eq_2 l _ k) (Ev.pos (by rw [c]; rfl) (Ev.now _))
    · obtain ⟨a, b, t, s, p⟩ := shigh_l0 l hl (l.length - 1) 1 (H l 0) (Lv l 0) (by omega) (by omega) (fun j x y => by
        rw [show j = 0 from by omega]; exact Int.le_refl _) g.lv (g.lv 0 (by omega) (by omega))
      refine ⟨a, b, true, fun _ => ⟨g, t, by omega⟩, fun _ _ => rfl, ?_, ?_⟩
      · unfold impl_HighestReading.f
        refine Ev.bind (igood l hl) (Ev.pos (goodB_true g) ?_)
        refine Ev.step (fun k => impl_HighestReading.j0.eq_2 l _ k) (Ev.neg (by simpa using c) (Ev.pos (by omega) ?_))
        refine Ev.step (fun k => impl_HighestReading.l0.eq_2 l (l.length : Int) 0 _ _ k) ?_
        have e : wrap64 ((0 : Int) + 1) = 1 := by rw [wr (by omega) (by omega)]; rfl
        simp only [e]
        exact Ev.pos (by omega) (Ev.pos (by omega) (Ev.pos (by omega) (Ev.neg (by omega) p)))
      · unfold spec_HighestReading.f
        refine Ev.bind (sgood l hl) (Ev.pos (goodB_true g) ?_)
        exact Ev.step (fun k => spec_HighestReading.j0.eq_2 l _ k) (Ev.neg (by simpa using c) (Ev.pos (by omega) s))
  · refine ⟨0, 0, false, by simp, fun q _ => absurd q g, ?_, ?_⟩
    · unfold impl_HighestReading.f
      refine Ev.bind (igood l hl) (Ev.neg (by rw [goodB_false g]; simp) ?_)
      exact Ev.step (fun k => impl_HighestReading.j0.eq_2 l _ k) (Ev.pos rfl (Ev.now _))
    · unfold spec_HighestReading.f
      refine Ev.bind (sgood l hl) (Ev.neg (by rw [goodB_false g]; simp) ?_)
      exact Ev.step (fun k => spec_HighestReading.j0.eq_2 l _ k) (Ev.pos rfl (Ev.now _))
def Fast (l : List S30) (a b i : Int) : Prop := ∀ j : Int, 0 ≤ j → j + 1 < i → (Lv l (j + 1) - Lv l j) * b ≤ a * (H l (j + 1) - H l j)
theorem mul_lt_iff {x y g : Int} (hg : 0 < g) : x * g < y * g ↔ x < y := by
  constructor
  · intro h
    by_cases c : x < y
    · exact c
    · have := Int.mul_le_mul_of_nonneg_right (show y ≤ x from by omega) (show 0 ≤ g from by omega)
      omega
  · intro h
    exact Int.mul_lt_mul_of_pos_right h hg
theorem mul_bd (a b A B : Int) (ha : -A ≤ a ∧ a ≤ A) (hb : 0 ≤ b ∧ b ≤ B) (hA : 0 ≤ A) : -(A * B) ≤ a * b ∧ a * b ≤ A * B := by
  have h1 : a * b ≤ A * b := Int.mul_le_mul_of_nonneg_right ha.2 hb.1
  have h2 : -A * b ≤ a * b := Int.mul_le_mul_of_nonneg_right ha.1 hb.1
  have h3 : A * b ≤ A * B := Int.mul_le_mul_of_nonneg_left hb.2 hA
  rw [Int.neg_mul] at h2
  omega
structure Small (a b : Int) : Prop where
  pos : 0 < b
  le : b ≤ 999
  lo : -1000 ≤ a
  hi : a ≤ 1000
theorem fast_l0 (l : List S30) (g : GoodR l) : ∀ (d : Nat) (i m a b : Int), 1 ≤ i → (l.length : Int) - i = d → Small a b → Fast l a b i → -1 ≤ m →
    ∃ m' a' b' t, (t = true → Small a' b' ∧ Fast l a' b' l.length) ∧ Ev (fun k => impl_FastestRise.l0 k l m i a b) (m', a', b', t) ∧
      Ev (fun k => spec_FastestRise.l0 k l m a b (i - 1)) (m', a', b', t) := by
  have hlen := g.len
  intro d
  induction d with
  | zero =>
    intro i m a b h1 hd sm fa hm
    have e : wrap64 (i - 1 + 1) = i := by rw [wr (by omega) (by omega)]; omega
    by_cases c : m < 0
    · refine ⟨0, 0, 0, false, by simp, Ev.step (fun k => impl_FastestRise.l0.eq_2 l m i a b k) (Ev.neg (by omega) (Ev.pos c (Ev.now _))), Ev.step (fun k => spec_FastestRise.l0.eq_2 l m a b (i - 1) k) ?_⟩
      simp only [e]
      exact Ev.neg (by omega) (Ev.pos c (Ev.now _))
    · refine ⟨m, a, b, true, fun _ => ⟨sm, fun j x y => fa j x (by omega)⟩, Ev.step (fun k => impl_FastestRise.l0.eq_2 l m i a b k) (Ev.neg (by omega) (Ev.neg c (Ev.now _))), Ev.step (fun k => spec_FastestRise.l0.eq_2 l m a b (i - 1) k) ?_⟩
      simp only [e]
      exact Ev.neg (by omega) (Ev.neg c (Ev.now _))
  | succ d ih =>
    intro i m a b h1 hd sm fa hm
    have e : wrap64 (i - 1 + 1) = i := by rw [wr (by omega) (by omega)]; omega
    have e1 : wrap64 (i - 1) = i - 1 := wr (by omega) (by omega)
    have e2 : wrap64 (i + 1) = i + 1 := wr (by omega) (by omega)
    have b1 := g.lv (i - 1) (by omega) (by omega)
    have b2 := g.lv i (by omega) (by omega)
    have b3 := g.h (i - 1) (by omega) (by omega)
    have b4 := g.h i (by omega) (by omega)
    have b5 := g.lt (i - 1) i (by omega) (by omega) (by omega)
    have w1 : wrap64 (Lv l i - Lv l (i - 1)) = Lv l i - Lv l (i - 1) := wr (by omega) (by omega)
    have w2 : wrap64 (H l i - H l (i - 1)) = H l i - H l (i - 1) := wr (by omega) (by omega)
    generalize hD : H l i - H l (i - 1) = D at w2
    generalize hN : Lv l i - Lv l (i - 1) = N at w1
    obtain ⟨q, q0, q1, q2, q3⟩ := red_spec N D (by omega)
    have qb := red_bound N D 1000 (by omega) (by omega) (by omega) (by omega)
    have sm' : Small (red N D).1 (red N D).2 := ⟨q3, by
      by_cases x : (red N D).2 ≤ 999
      · exact x
      · have := Int.mul_le_mul_of_nonneg_left (show 1 ≤ q from by omega) (show 0 ≤ (red N D).2 from by omega)
        omega, qb.1, qb.2.1⟩
    have ir := ired N D (by omega) (by omega) (by omega) (by omega)
    have sr := sred N D (by omega) (by omega) (by omega) (by omega)
    have m1 := mul_bd N b 1000 999 (by omega) ⟨by have := sm.pos; omega, sm.le⟩ (by omega)
    have m2 := mul_bd a D 1000 999 ⟨sm.lo, sm.hi⟩ (by omega) (by omega)
    have m3 := mul_bd (red N D).1 b 1000 999 ⟨sm'.lo, sm'.hi⟩ ⟨by have := sm.pos; omega, sm.le⟩ (by omega)
    have m4 := mul_bd a (red N D).2 1000 999 ⟨sm.lo, sm.hi⟩ ⟨by omega, sm'.le⟩ (by omega)
    have w3 : wrap64 (N * b) = N * b := wr (by omega) (by omega)
    have w4 : wrap64 (a * D) = a * D := wr (by omega) (by omega)
    have w5 : wrap64 ((red N D).1 * b) = (red N D).1 * b := wr (by omega) (by omega)
    have w6 : wrap64 (a * (red N D).2) = a * (red N D).2 := wr (by omega) (by omega)
    have same : N * b > a * D ↔ a * (red N D).2 < (red N D).1 * b := by
      have x1 : N * b = (red N D).1 * b * q := by rw [Int.mul_right_comm, ← q1]
      have x2 : a * D = a * (red N D).2 * q := by rw [Int.mul_assoc, ← q2]
      rw [x1, x2]
      exact mul_lt_iff q0
    have less : impl_fraction_less.f a b (red N D).1 (red N D).2 = some (decide (a * (red N D).2 < (red N D).1 * b)) := by
      unfold impl_fraction_less.f
      rw [w6, w5]
    have wi1 : wrap64 ((rd_T30 l i).f1 - (rd_T30 l (i - 1)).f1) = N := by rw [← hN] at w1; rw [← hN]; exact w1
    have wi2 : wrap64 ((rd_T30 l i).f0 - (rd_T30 l (i - 1)).f0) = D := by rw [← hD] at w2; rw [← hD]; exact w2
    by_cases c : a * (red N D).2 < (red N D).1 * b
    · have fa' : Fast l (red N D).1 (red N D).2 (i + 1) := fun j x y => by
        by_cases ji : j + 1 = i
        · rw [ji, show j = i - 1 from by omega, hN, hD]
          have y1 : N * (red N D).2 = (red N D).1 * (red N D).2 * q := by rw [Int.mul_right_comm, ← q1]
          have y2 : (red N D).1 * D = (red N D).1 * (red N D).2 * q := by rw [Int.mul_assoc, ← q2]
          omega
        · have old := fa j x (by omega)
          have dj : 0 ≤ H l (j + 1) - H l j := by have := g.lt j (j + 1) x (by omega) (by omega); omega
          generalize Lv l (j + 1) - Lv l j = n at old ⊢
          generalize H l (j + 1) - H l j = e at old dj ⊢
          have z1 := Int.mul_le_mul_of_nonneg_right old (show 0 ≤ (red N D).2 from by omega)
          have z2 := Int.mul_le_mul_of_nonneg_right (show a * (red N D).2 ≤ (red N D).1 * b from by omega) dj
          have z3 : n * (red N D).2 * b ≤ (red N D).1 * e * b := by
            have k1 : n * (red N D).2 * b = n * b * (red N D).2 := Int.mul_right_comm _ _ _
            have k2 : a * e * (red N D).2 = a * (red N D).2 * e := Int.mul_right_comm _ _ _
            have k3 : (red N D).1 * e * b = (red N D).1 * b * e := Int.mul_right_comm _ _ _
            omega
          by_cases fin : n * (red N D).2 ≤ (red N D).1 * e
          · exact fin
          · have := (mul_lt_iff sm.pos).2 (show (red N D).1 * e < n * (red N D).2 from by omega)
            omega
      obtain ⟨m', a', b', t, ht, pi, ps⟩ := ih (i + 1) (i - 1) (red N D).1 (red N D).2 (by omega) (by omega) sm' fa' (by omega)
      rw [show i + 1 - 1 = i from by omega] at ps
      refine ⟨m', a', b', t, ht, Ev.step (fun k => impl_FastestRise.l0.eq_2 l m i a b k) ?_, Ev.step (fun k => spec_FastestRise.l0.eq_2 l m a b (i - 1) k) ?_⟩
      · simp only [e1, e2, wi1, wi2]
        exact Ev.pos (by omega) (Ev.pos (by omega) (Ev.pos (by omega) (Ev.pos (by omega) (Ev.bind ir (Ev.bindS less (Ev.pos (decide_eq_true c) pi))))))
      · simp only [e, wi1, wi2, w3, w4]
        exact Ev.pos (by omega) (Ev.pos (by omega) (Ev.pos (by omega) (Ev.pos (by omega) (Ev.pos (same.2 c) (Ev.bind sr ps)))))
    · have fa' : Fast l a b (i + 1) := fun j x y => by
        by_cases ji : j + 1 = i
        · rw [ji, show j = i - 1 from by omega, hN, hD]
          have := fun h => c (same.1 h)
          omega
        · exact fa j x (by omega)
      obtain ⟨m', a', b', t, ht, pi, ps⟩ := ih (i + 1) m a b (by omega) (by omega) sm fa' hm
      rw [show i + 1 - 1 = i from by omega] at ps
      refine ⟨m', a', b', t, ht, Ev.step (fun k => impl_FastestRise.l0.eq_2 l m i a b k) ?_, Ev.step (fun k => spec_FastestRise.l0.eq_2 l m a b (i - 1) k) ?_⟩
      · simp only [e1, e2, wi1, wi2]
        exact Ev.pos (by omega) (Ev.pos (by omega) (Ev.pos (by omega) (Ev.pos (by omega) (Ev.bind ir (Ev.bindS less (Ev.neg (fun x => c (of_decide_eq_true x)) pi))))))
      · simp only [e, wi1, wi2, w3, w4]
        exact Ev.pos (by omega) (Ev.pos (by omega) (Ev.pos (by omega) (Ev.pos (by omega) (Ev.neg (fun x => c (same.1 x)) ps))))
theorem Fast_both (l : List S30) (hl : (l.length : Int) ≤ 1000000000000) :
    ∃ m a b t, (t = true → GoodR l ∧ Small a b ∧ Fast l a b l.length) ∧ Ev (fun k => impl_FastestRise.f k l) (m, a, b, t) ∧ Ev (fun k => spec_FastestRise.f k l) (m, a, b, t) := by
  by_cases g : GoodR l
  · by_cases c : l.length = 0
    · refine ⟨0, 0, 0, false, by simp, ?_, ?_⟩
      · unfold impl_FastestRise.f
        refine Ev.bind (igood l hl) (Ev.pos (goodB_true g) ?_)
        exact Ev.step (fun k => impl_FastestRise.l0.eq_2 l (-1) 1 0 1 k) (Ev.neg (by omega) (Ev.pos (by omega) (Ev.now _)))
      · unfold spec_FastestRise.f
        refine Ev.bind (sgood l hl) (Ev.pos (goodB_true g) ?_)
        refine Ev.step (fun k => spec_FastestRise.l0.eq_2 l (-1) 0 1 0 k) ?_
        have e : wrap64 ((0 : Int) + 1) = 1 := by rw [wr (by omega) (by omega)]; rfl
        simp only [e]
        exact Ev.neg (by omega) (Ev.pos (by omega) (Ev.now _))
    · obtain ⟨m, a, b, t, ht, pi, ps⟩ := fast_l0 l g (l.length - 1) 1 (-1) 0 1 (by omega) (by omega) ⟨by omega, by omega, by omega, by omega⟩ (fun j x y => by omega) (by omega)
      refine ⟨m, a, b, t, fun q => ⟨g, ht q⟩, ?_, ?_⟩
      · unfold impl_FastestRise.f
        exact Ev.bind (igood l hl) (Ev.pos (goodB_true g) pi)
      · unfold spec_FastestRise.f
        exact Ev.bind (sgood l hl) (Ev.pos (goodB_true g) ps)
  · refine ⟨0, 0, 0, false, by simp, ?_, ?_⟩
    · unfold impl_FastestRise.f
      exact Ev.bind (igood l hl) (Ev.neg (by rw [goodB_false g]; simp) (Ev.now _))
    · unfold spec_FastestRise.f
      refine Ev.bind (sgood l hl) (Ev.neg (by rw [goodB_false g]; simp) ?_)
      first | exact Ev.now _ | exact Ev.pos (by omega) (Ev.now _)
theorem readings_l1 {s : List Int} (hs : Bytes s) : ∀ (d : Nat) (xs : List S30) (x6 a sd y z : Int), 0 ≤ a → a + 2 * d + 20 ≤ 4611686018427387000 → (17 : Int) - xs.length ≤ d → xs.length ≤ 17 →
    0 ≤ x6 → x6 < xs.length → ∃ l a' sd', Ev (fun k => spec_l1Cur_readings.l1 k xs x6 s a sd y z) (l, a', sd') ∧ (l : List S30).length ≤ 17 ∧ a ≤ a' ∧ a' ≤ a + 2 * d + 20 := by
  intro d
  induction d with
  | zero =>
    intro xs x6 a sd y z h0 hd hx hm h1 h2
    obtain ⟨t, a1, sd1, e, t0, t1, _, b0, b1⟩ := pick_ok hs a sd 2 h0 (by omega)
    have t2 := t1 (by omega)
    have w : wrap64 (15 + t) = 15 + t := wr (by omega) (by omega)
    refine ⟨xs.set x6.toNat (⟨y, z⟩ : S30), a1, sd1, Ev.step (fun k => spec_l1Cur_readings.l1.eq_2 xs x6 s a sd y z k) (Ev.bindS e ?_), ?_, by omega, by omega⟩
    · simp only [w]
      exact Ev.neg (by omega) (Ev.pos h1 (Ev.pos h2 (Ev.now _)))
    · simp
      omega
  | succ d ih =>
    intro xs x6 a sd y z h0 hd hx hm h1 h2
    obtain ⟨t, a1, sd1, e, t0, t1, _, b0, b1⟩ := pick_ok hs a sd 2 h0 (by omega)
    have t2 := t1 (by omega)
    have w : wrap64 (15 + t) = 15 + t := wr (by omega) (by omega)
    by_cases c : (xs.length : Int) < 15 + t
    · obtain ⟨l, a2, sd2, r, rl, r0, r1⟩ := ih (xs ++ [(⟨wrap64 (980 + (xs.length : Int)), 2⟩ : S30)]) x6 a1 sd1 y z (by omega) (by omega) (by simp; omega) (by simp; omega) h1 (by simp; omega)
      refine ⟨l, a2, sd2, Ev.step (fun k => spec_l1Cur_readings.l1.eq_2 xs x6 s a sd y z k) (Ev.bindS e ?_), rl, by omega, by omega⟩
      simp only [w]
      exact Ev.pos c (Ev.pos (by omega) r)
    · refine ⟨xs.set x6.toNat (⟨y, z⟩ : S30), a1, sd1, Ev.step (fun k => spec_l1Cur_readings.l1.eq_2 xs x6 s a sd y z k) (Ev.bindS e ?_), ?_, by omega, by omega⟩
      · simp only [w]
        exact Ev.neg c (Ev.pos h1 (Ev.pos h2 (Ev.now _)))
      · simp
        omega
theorem readings_l0 {s : List Int} (hs : Bytes s) : ∀ (d : Nat) (xs : List S30) (x4 a sd : Int), 0 ≤ a → a + 4 * d + 100 ≤ 4611686018427387000 → xs.length + d ≤ 7 →
    ∃ l a' sd', Ev (fun k => spec_l1Cur_readings.l0 k xs x4 (d : Int) s a sd) (l, a', sd') ∧ (l : List S30).length ≤ 17 ∧ a ≤ a' ∧ a' ≤ a + 4 * d + 100 := by
  intro d
  induction d with
  | zero =>
    intro xs x4 a sd h0 hd hx
    by_cases c : (xs.length : Int) = 0
    · exact ⟨_, a, sd, Ev.step (fun k => spec_l1Cur_readings.l0.eq_2 xs x4 _ s a sd k) (Ev.neg (by omega) (Ev.pos c (Ev.now _))), by omega, by omega, by omega⟩
    obtain ⟨t, a1, sd1, e, t0, t1, _, b0, b1⟩ := pick_ok hs a sd (xs.length : Int) h0 (by omega)
    have t2 := t1 (by omega)
    obtain ⟨u, a2, sd2, e2, u0, u1, _, c0, c1⟩ := pick_ok hs a1 sd1 50 (by omega) (by omega)
    by_cases q0 : u = 0
    · obtain ⟨v, a3, sd3, e3, v0, v1, d0, d1⟩ := among_ok hs a2 sd2 [(-1), 1000, (rd_T30 xs 0).f0] (by simp) (by omega) (by omega)
      refine ⟨_, a3, sd3, Ev.step (fun k => spec_l1Cur_readings.l0.eq_2 xs x4 _ s a sd k) (Ev.neg (by omega) (Ev.neg c (Ev.bindS e (Ev.pos t0 (Ev.pos t2 (Ev.bindS e2 (Ev.pos q0 (Ev.pos (by omega) (Ev.bindS e3 (Ev.now _)))))))))), by simp; omega, by omega, by omega⟩
    by_cases q1 : u = 1
    · obtain ⟨v, a3, sd3, e3, v0, v1, d0, d1⟩ := among_ok hs a2 sd2 [(-501), 501] (by simp) (by omega) (by omega)
      refine ⟨_, a3, sd3, Ev.step (fun k => spec_l1Cur_readings.l0.eq_2 xs x4 _ s a sd k) (Ev.neg (by omega) (Ev.neg c (Ev.bindS e (Ev.pos t0 (Ev.pos t2 (Ev.bindS e2 (Ev.neg q0 (Ev.pos q1 (Ev.bindS e3 (Ev.now _)))))))))), by simp; omega, by omega, by omega⟩
    by_cases q2 : u = 2
    · obtain ⟨l, a3, sd3, r, rl, r0, r1⟩ := readings_l1 hs 17 xs t a2 sd2 (rd_T30 xs t).f0 (rd_T30 xs t).f1 (by omega) (by omega) (by omega) (by omega) t0 t2
      exact ⟨l, a3, sd3, Ev.step (fun k => spec_l1Cur_readings.l0.eq_2 xs x4 _ s a sd k) (Ev.neg (by omega) (Ev.neg c (Ev.bindS e (Ev.pos t0 (Ev.pos t2 (Ev.bindS e2 (Ev.neg q0 (Ev.neg q1 (Ev.pos q2 r))))))))), rl, by omega, by omega⟩
    · exact ⟨_, a2, sd2, Ev.step (fun k => spec_l1Cur_readings.l0.eq_2 xs x4 _ s a sd k) (Ev.neg (by omega) (Ev.neg c (Ev.bindS e (Ev.pos t0 (Ev.pos t2 (Ev.bindS e2 (Ev.neg q0 (Ev.neg q1 (Ev.neg q2 (Ev.now _)))))))))), by simp; omega, by omega, by omega⟩
  | succ d ih =>
    intro xs x4 a sd h0 hd hx
    obtain ⟨t, a1, sd1, e, t0, t1, b0, b1⟩ := among_ok hs a sd [(-500), (-20), 0, 5, 10, 10, 40, 500] (by simp) h0 (by omega)
    obtain ⟨u, a2, sd2, e2, u0, u1, c0, c1⟩ := among_ok hs a1 sd1 [1, 2, 3, 7, 20] (by simp) (by omega) (by omega)
    obtain ⟨l, a3, sd3, r, rl, r0, r1⟩ := ih (xs ++ [(⟨x4, rd [(-500), (-20), 0, 5, 10, 10, 40, 500] t⟩ : S30)]) (wrap64 (x4 + rd [1, 2, 3, 7, 20] u)) a2 sd2 (by omega) (by omega) (by simp; omega)
    have w : wrap64 (((d + 1 : Nat) : Int) - 1) = (d : Int) := by rw [wr (by omega) (by omega)]; omega
    refine ⟨l, a3, sd3, Ev.step (fun k => spec_l1Cur_readings.l0.eq_2 xs x4 _ s a sd k) (Ev.pos (by omega) (Ev.bindS e (Ev.pos (by omega) (Ev.bindS e2 ?_)))), rl, by omega, by omega⟩
    simp only [w]
    exact r
theorem readings_ok {s : List Int} (hs : Bytes s) (a sd : Int) (h0 : 0 ≤ a) (h1 : a ≤ 4611686018427386000) :
    ∃ l a' sd', Ev (fun k => spec_l1Cur_readings.f k s a sd) (l, a', sd') ∧ (l : List S30).length ≤ 17 ∧ a ≤ a' ∧ a' ≤ a + 200 := by
  obtain ⟨t, a1, sd1, e, t0, t1, b0, b1⟩ := among_ok hs a sd [0, 5, 900] (by simp) h0 (by omega)
  obtain ⟨u, a2, sd2, e2, u0, u1, _, c0, c1⟩ := pick_ok hs a1 sd1 7 (by omega) (by omega)
  have u2 := u1 (by omega)
  obtain ⟨n, rfl⟩ := Int.eq_ofNat_of_zero_le u0
  obtain ⟨l, a3, sd3, r, rl, r0, r1⟩ := readings_l0 hs n [] (rd [0, 5, 900] t) a2 sd2 (by omega) (by omega) (by simp; omega)
  refine ⟨l, a3, sd3, ?_, rl, by omega, by omega⟩
  unfold spec_l1Cur_readings.f
  exact Ev.bindS e (Ev.bindS e2 r)
theorem one_ok {s : List Int} (hs : Bytes s) (a sd n : Int) (h0 : 0 ≤ a) (h1 : a ≤ 4611686018427387000) :
    ∃ t a' sd', spec_l1Cur_one.f s a sd n = some (t, a', sd') ∧ a ≤ a' ∧ a' ≤ a + 2 := by
  obtain ⟨t, a1, sd1, e, t0, t1, _, b0, b1⟩ := pick_ok hs a sd n h0 h1
  unfold spec_l1Cur_one.f
  rw [e]
  exact ⟨_, a1, sd1, rfl, b0, b1⟩
theorem hour_j0 {s : List Int} (hs : Bytes s) (l : List S30) (b : Bool) (a sd : Int) (hl : (l.length : Int) ≤ 1000000) (hb : b = true → 0 < l.length) (h0 : 0 ≤ a) (h1 : a ≤ 4611686018427386000) :
    ∃ h a' sd', Ev (fun k => spec_l1Cur_hour23.j0 k l b s a sd) (h, a', sd') ∧ a ≤ a' ∧ a' ≤ a + 4 := by
  cases b with
  | true =>
    obtain ⟨t, a1, sd1, e, t0, t1, _, b0, b1⟩ := pick_ok hs a sd (l.length : Int) h0 (by omega)
    have t2 := t1 (by have := hb rfl; omega)
    obtain ⟨u, a2, sd2, e2, u0, u1, c0, c1⟩ := among_ok hs a1 sd1 [0, 1, 2, (-1)] (by simp) (by omega) (by omega)
    exact ⟨_, a2, sd2, Ev.step (fun k => spec_l1Cur_hour23.j0.eq_2 l true s a sd k) (Ev.pos rfl (Ev.bindS e (Ev.pos t0 (Ev.pos t2 (Ev.bindS e2 (Ev.now _)))))), by omega, by omega⟩
  | false =>
    obtain ⟨u, a2, sd2, e2, u0, u1, c0, c1⟩ := among_ok hs a sd [0, 6, 905, 999, (-1), 1000] (by simp) (by omega) (by omega)
    exact ⟨_, a2, sd2, Ev.step (fun k => spec_l1Cur_hour23.j0.eq_2 l false s a sd k) (Ev.neg (by simp) (Ev.bindS e2 (Ev.now _))), by omega, by omega⟩
theorem hour_ok {s : List Int} (hs : Bytes s) (l : List S30) (a sd : Int) (hl : (l.length : Int) ≤ 1000000) (h0 : 0 ≤ a) (h1 : a ≤ 4611686018427385000) :
    ∃ h a' sd', Ev (fun k => spec_l1Cur_hour23.f k s a sd l) (h, a', sd') ∧ a ≤ a' ∧ a' ≤ a + 6 := by
  unfold spec_l1Cur_hour23.f
  by_cases c : (l.length : Int) > 0
  · obtain ⟨t, a1, sd1, e, b0, b1⟩ := one_ok hs a sd 4 h0 (by omega)
    obtain ⟨h, a2, sd2, r, r0, r1⟩ := hour_j0 hs l (!t) a1 sd1 hl (fun _ => by omega) (by omega) (by omega)
    exact ⟨h, a2, sd2, Ev.pos c (Ev.bindS e r), by omega, by omega⟩
  · obtain ⟨h, a2, sd2, r, r0, r1⟩ := hour_j0 hs l false a sd hl (fun q => by simp at q) (by omega) (by omega)
    exact ⟨h, a2, sd2, Ev.neg c r, by omega, by omega⟩
theorem DrawLevelIn_ok {s : List Int} (hs : Bytes s) : ∃ l h, Ev (fun k => spec_DrawLevelIn.f k s) (l, h) ∧ (l : List S30).length ≤ 17 := by
  obtain ⟨l, a, sd, r, rl, r0, r1⟩ := readings_ok hs 0 0 (by omega) (by omega)
  obtain ⟨h, a2, sd2, q, q0, q1⟩ := hour_ok hs l a sd (by omega) (by omega) (by omega)
  refine ⟨l, h, ?_, rl⟩
  unfold spec_DrawLevelIn.f
  exact Ev.bind r (Ev.bind q (Ev.now _))
end Go.Proofs.Ytldifiededjgjaa.Pu
namespace Go.Proofs.Ytldifiededjgjaa.Pure
open Go.RowKit Go.Proofs.Ytldifiededjgjaa.P Go.Proofs.YtldifiededjgjaaW.PrintWords Go.Proofs.Ytldifiededjgjaa.Pu
theorem lev_le (l : List S30) (h p b : Int) (g : InH l h) (hp : At l h p) (ht : Tops l b) : (lev l h p).1 ≤ b * (lev l h p).2 ∧ 0 < (lev l h p).2 ∧ (lev l h p).2 ≤ 1000 := by
  obtain ⟨p0, p1, p2, p3⟩ := hp
  have hg := g.1
  unfold lev
  by_cases q : H l p = h
  · rw [if_pos q]
    have := ht p p0 p1
    refine ⟨?_, by show (0 : Int) < 1; omega, by show (1 : Int) ≤ 1000; omega⟩
    show Lv l p ≤ b * 1
    omega
  · rw [if_neg q]
    have c : p + 1 < l.length := by
      by_cases c : p + 1 < l.length
      · exact c
      · have := g.2.2.2
        rw [show (l.length : Int) - 1 = p from by omega] at this
        omega
    have u := p3 c
    have t1 := ht p p0 p1
    have t2 := ht (p + 1) (by omega) c
    have b3 := hg.h p p0 p1
    have b4 := hg.h (p + 1) (by omega) c
    have m1 : Lv l p * (H l (p + 1) - h) ≤ b * (H l (p + 1) - h) := Int.mul_le_mul_of_nonneg_right t1 (by omega)
    have m2 : Lv l (p + 1) * (h - H l p) ≤ b * (h - H l p) := Int.mul_le_mul_of_nonneg_right t2 (by omega)
    have m3 : b * (H l (p + 1) - H l p) = b * (H l (p + 1) - h) + b * (h - H l p) := by rw [← Int.mul_add]; congr 1; omega
    generalize hN : Lv l p * (H l (p + 1) - h) + Lv l (p + 1) * (h - H l p) = N
    generalize hD : H l (p + 1) - H l p = D at m3
    obtain ⟨x, x0, x1, x2, x3⟩ := red_spec N D (by omega)
    refine ⟨?_, x3, ?_⟩
    · by_cases fin : (red N D).1 ≤ b * (red N D).2
      · exact fin
      · have k := (mul_lt_iff x0).2 (show b * (red N D).2 < (red N D).1 from by omega)
        have k2 : b * D = b * (red N D).2 * x := by rw [Int.mul_assoc, ← x2]
        omega
    · have := Int.mul_le_mul_of_nonneg_left (show 1 ≤ x from by omega) (show 0 ≤ (red N D).2 from by omega)
      omega
theorem law_end (l : List S30) (hl : (l.length : Int) ≤ 1000000) (a b i : Int) (t : Bool) : Ev (fun k => laws_FnLevels.j8 k l a b t i false) true := by
  refine Ev.step (fun k => laws_FnLevels.j8.eq_2 l a b t i false k) (Ev.neg (by simp) (Ev.bind (igood l (by omega)) (Ev.bind (sare l (by omega)) (Ev.to (Ev.now _) ?_))))
  simp
theorem law_l1 (l : List S30) (hl : (l.length : Int) ≤ 1000000) (a b : Int) (t : Bool) (ht : t = true → GoodR l ∧ Small a b ∧ Fast l a b l.length) :
    ∀ (d : Nat) (i : Int), 0 ≤ i → (l.length : Int) - i ≤ d → i ≤ 1000000 → Ev (fun k => laws_FnLevels.l1 k l a b t i) true := by
  intro d
  induction d with
  | zero =>
    intro i h0 hd hi
    have e : wrap64 (i + 1) = i + 1 := wr (by omega) (by omega)
    refine Ev.step (fun k => laws_FnLevels.l1.eq_2 l a b t i k) ?_
    simp only [e]
    exact Ev.neg (by omega) (law_end l hl a b i t)
  | succ d ih =>
    intro i h0 hd hi
    have e : wrap64 (i + 1) = i + 1 := wr (by omega) (by omega)
    refine Ev.step (fun k => laws_FnLevels.l1.eq_2 l a b t i k) ?_
    simp only [e]
    by_cases c : i + 1 < (l.length : Int)
    · refine Ev.pos c ?_
      cases t with
      | false => exact law_end l hl a b i false
      | true =>
        obtain ⟨g, sm, fa⟩ := ht rfl
        have b1 := g.lv i h0 (by omega)
        have b2 := g.lv (i + 1) (by omega) (by omega)
        have b3 := g.h i h0 (by omega)
        have b4 := g.h (i + 1) (by omega) (by omega)
        have b5 := g.up i h0 c
        have f := fa i h0 c
        have w1 : wrap64 (Lv l (i + 1) - Lv l i) = Lv l (i + 1) - Lv l i := wr (by omega) (by omega)
        have w2 : wrap64 (H l (i + 1) - H l i) = H l (i + 1) - H l i := wr (by omega) (by omega)
        have m1 := mul_bd (Lv l (i + 1) - Lv l i) b 1000 999 (by omega) ⟨by have := sm.pos; omega, sm.le⟩ (by omega)
        have m2 := mul_bd a (H l (i + 1) - H l i) 1000 999 ⟨sm.lo, sm.hi⟩ (by omega) (by omega)
        have w3 : wrap64 ((Lv l (i + 1) - Lv l i) * b) = (Lv l (i + 1) - Lv l i) * b := wr (by omega) (by omega)
        have w4 : wrap64 (a * (H l (i + 1) - H l i)) = a * (H l (i + 1) - H l i) := wr (by omega) (by omega)
        refine Ev.step (fun k => laws_FnLevels.j8.eq_2 l a b true i true k) ?_
        unfold Lv at w1 w3 f
        unfold H at w2 w4 f
        simp only [e, w1, w2, w3, w4]
        exact Ev.pos trivial (Ev.pos (by omega) (Ev.pos c (Ev.pos h0 (Ev.pos (by omega) (Ev.neg (by omega) (ih (i + 1) (by omega) (by omega) (by omega)))))))
    · exact Ev.neg c (law_end l hl a b i t)
theorem law_j5 (l : List S30) (hl : (l.length : Int) ≤ 1000000) : Ev (fun k => laws_FnLevels.j5 k l false) true := by
  obtain ⟨m, a, b, t, ht, pi, ps⟩ := Fast_both l (by omega)
  refine Ev.step (fun k => laws_FnLevels.j5.eq_2 l false k) (Ev.neg (by simp) (Ev.bind pi (Ev.bind ps (Ev.pos rfl (Ev.pos rfl (Ev.pos rfl ?_))))))
  refine Ev.step (fun k => laws_FnLevels.j6.eq_2 l a b t (t != t) k) (Ev.neg (by simp) ?_)
  exact law_l1 l hl a b t ht l.length 0 (by omega) (by omega) (by omega)
theorem law_l0 (l : List S30) (hl : (l.length : Int) ≤ 1000000) (num den : Int) (ok t : Bool) (u v : Int) (ht : t = true → GoodR l ∧ (Tops l v ∧ -500 ≤ v ∧ v ≤ 500) ∧ 0 < l.length)
    (hok : ok = true → num ≤ v * den ∧ wrap64 (v * den) = v * den) : ∀ (d : Nat) (i : Int), 0 ≤ i → (l.length : Int) - i ≤ d → i ≤ 1000000 →
      Ev (fun k => laws_FnLevels.l0 k l num den ok t i u v) true := by
  have out : ∀ i : Int, Ev (fun k => laws_FnLevels.j3 k l num den ok t i false u v) true := fun i => by
    refine Ev.step (fun k => laws_FnLevels.j3.eq_2 l num den ok t i false u v k) (Ev.neg (by simp) ?_)
    by_cases o : ok = true
    · have e := hok o
      simp only [e.2]
      refine Ev.pos o ?_
      rw [show decide (num > v * den) = false from decide_eq_false (by omega)]
      exact law_j5 l hl
    · exact Ev.neg o (law_j5 l hl)
  intro d
  induction d with
  | zero =>
    intro i h0 hd hi
    exact Ev.step (fun k => laws_FnLevels.l0.eq_2 l num den ok t i u v k) (Ev.neg (by omega) (out i))
  | succ d ih =>
    intro i h0 hd hi
    refine Ev.step (fun k => laws_FnLevels.l0.eq_2 l num den ok t i u v k) ?_
    by_cases c : i < (l.length : Int)
    · refine Ev.pos c ?_
      cases t with
      | false => exact out i
      | true =>
        obtain ⟨g, ⟨tp, _, _⟩, len⟩ := ht rfl
        have inh : InH l (H l i) := ⟨g, len, g.le 0 i (by omega) h0 c, g.le i ((l.length : Int) - 1) h0 (by omega) (by omega)⟩
        obtain ⟨p, hp, pi, _⟩ := LevelIn_both l (H l i) (by omega)
        obtain ⟨p0, p1, p2, p3⟩ := hp inh
        have ip : p = i := by
          by_cases x : p < i
          · have a := p3 (by omega)
            have b := g.le (p + 1) i (by omega) (by omega) c
            omega
          · by_cases y : i < p
            · have := g.lt i p h0 y p1
              omega
            · omega
        have res : levelRes l (H l i) p = (Lv l i, 1, true) := by
          unfold levelRes lev
          rw [inB_true inh, ip]
          simp
        rw [res] at pi
        have e : wrap64 (i + 1) = i + 1 := wr (by omega) (by omega)
        refine Ev.step (fun k => laws_FnLevels.j3.eq_2 l num den ok true i true u v k) (Ev.pos rfl (Ev.pos h0 (Ev.pos c (Ev.bind pi (Ev.pos rfl (Ev.pos rfl (Ev.pos rfl ?_)))))))
        refine Ev.step (fun k => laws_FnLevels.j4.eq_2 l num den ok true i _ u v k) ?_
        have top := tp i h0 c
        simp only [e]
        exact Ev.neg (by simp; omega) (ih (i + 1) (by omega) (by omega) (by omega))
    · exact Ev.neg c (out i)
theorem law_big (l0 : List Int) (hb : Bytes l0) : Ev (fun k => laws_FnLevels.f k l0) true := by
  unfold laws_FnLevels.f laws_rBig.f
  by_cases big : (l0.length : Int) > 65536
  · exact Ev.someb (Ev.pos (decide_eq_true big) (Ev.now _))
  refine Ev.someb (Ev.neg (fun e => big (of_decide_eq_true e)) ?_)
  obtain ⟨l, h, dr, ll⟩ := DrawLevelIn_ok hb
  obtain ⟨p, hp, pi, ps⟩ := LevelIn_both l h (by omega)
  refine Ev.bind dr (Ev.bind pi (Ev.bind ps (Ev.pos rfl (Ev.pos rfl ?_))))
  obtain ⟨a, b, t, ht, htt, qi, qs⟩ := High_both l (by omega)
  refine Ev.step (fun k => laws_FnLevels.j0.eq_2 l _ _ _ _ k) (Ev.neg (by simp) (Ev.bind qi (Ev.bind qs (Ev.neg (by simp) ?_))))
  refine Ev.step (fun k => laws_FnLevels.j1.eq_2 l _ _ _ t _ a b k) (Ev.neg (by simp) ?_)
  refine law_l0 l (by omega) _ _ _ t a b ht (fun o => ?_) l.length 0 (by omega) (by omega) (by omega)
  by_cases g : InH l h
  · have tt := htt g.1 g.2.1
    obtain ⟨_, ⟨tp, v0, v1⟩, _⟩ := ht tt
    have le := lev_le l h p b g (hp g) tp
    have e1 : (levelRes l h p).1 = (lev l h p).1 := by unfold levelRes; rw [inB_true g]; rfl
    have e2 : (levelRes l h p).2.1 = (lev l h p).2 := by unfold levelRes; rw [inB_true g]; rfl
    have m := mul_bd b (lev l h p).2 500 1000 ⟨v0, v1⟩ ⟨by omega, le.2.2⟩ (by omega)
    rw [e1, e2]
    exact ⟨le.1, wr (by omega) (by omega)⟩
  · unfold levelRes at o
    rw [inB_false g] at o
    simp at o
theorem FnLevels : laws_FnLevels.Pure := fun l0 _ _ hw => (law_big l0 (fun x hx => bounds_u8 (hw x hx))).rounds
end Go.Proofs.Ytldifiededjgjaa.Pure
