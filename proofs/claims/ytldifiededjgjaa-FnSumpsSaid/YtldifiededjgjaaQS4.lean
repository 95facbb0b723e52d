/- For all inputs the law FnSumps answers true, and no call of it panics. -/
import Derived.Test.YtldifiededjgjaaQS3
namespace Go.Proofs.Ytldifiededjgjaa.P
open Go.RowKit Go.Proofs.YtldifiededjgjaaW.PrintWords Go.Proofs.YtldifiededjgjaaW.PrintLast Go.Proofs.YtldifiededjgjaaW.PrintMore
attribute [local go_sem] max2_int min2_int max_two min_two max_three min_three max_four min_four
set_option linter.unusedVariables false
set_option linter.unusedSimpArgs false
mutual
def laws_FnSumps.j0 : Nat→List Int→List (S30)→Int→Bool→Bool→Bool→Int→Int→Int→Option (Bool)
 | 0,_,_,_,_,_,_,_,_,_=>none
 | k + 1,x0,x3,x5,x6,x7,x73,x732000,x732001,x732002=>if x73=true then (some false) else ((impl_OpenSpans.f k x3 x732000 x732001 x732002).bind fun bt736=>((spec_OpenSpans.f k x3 x732000 x732001 x732002).bind fun bt740=>(if (bt736.2 != bt740.2)=true then (laws_FnSumps.j1 k x0 x5 x6 x7 bt736.1 true) else ((laws_rTable.f k bt736.1 bt740.1).bind fun t744=>(laws_FnSumps.j1 k x0 x5 x6 x7 bt736.1 (!t744))))))
def laws_FnSumps.j1 : Nat→List Int→Int→Bool→Bool→List (List Int)→Bool→Option (Bool)
 | 0,_,_,_,_,_,_=>none
 | k + 1,x0,x5,x6,x7,x10,x94=>if x94=true then (some false) else (laws_FnSumps.l0 k x0 x5 x6 x7 x10 false 0)
def laws_FnSumps.l0 : Nat→List Int→Int→Bool→Bool→List (List Int)→Bool→Int→Option (Bool)
 | 0,_,_,_,_,_,_,_=>none
 | k + 1,x0,x5,x6,x7,x10,x14,x15=>if x15 < (x10.length : Int) then (if x14=true then (laws_FnSumps.l0 k x0 x5 x6 x7 x10 true (wrap64 (x15 + 1))) else (if 0≤x15 then (if 0 < ((rd_L4 x10 x15).length : Int) then (if x5 ≥ (rd (rd_L4 x10 x15) 0) then (if 1 < ((rd_L4 x10 x15).length : Int) then (laws_FnSumps.l0 k x0 x5 x6 x7 x10 (decide (x5≤(rd (rd_L4 x10 x15) 1))) (wrap64 (x15 + 1))) else (none)) else (laws_FnSumps.l0 k x0 x5 x6 x7 x10 false (wrap64 (x15 + 1)))) else (none)) else (none))) else (if x7=true then (laws_FnSumps.j3 k x0 (x14 != x6)) else (laws_FnSumps.j3 k x0 false))
def laws_FnSumps.j3 : Nat→List Int→Bool→Option (Bool)
 | 0,_,_=>none
 | k + 1,x0,x127=>if x127=true then (some false) else ((spec_DrawOpenFor.f k x0).bind fun bt749=>((impl_OpenFor.f k bt749.1 bt749.2.1 bt749.2.2).bind fun bt756=>((spec_OpenFor.f k bt749.1 bt749.2.1 bt749.2.2).bind fun bt758=>(if bt756.1=bt758.1 then (laws_FnSumps.j4 k x0 bt749.1 bt749.2.1 bt749.2.2 bt756.1 bt756.2 (bt756.2 != bt758.2)) else (laws_FnSumps.j4 k x0 bt749.1 bt749.2.1 bt749.2.2 bt756.1 bt756.2 true)))))
def laws_FnSumps.j4 : Nat→List Int→List (S30)→List (S44)→Int→Int→Bool→Bool→Option (Bool)
 | 0,_,_,_,_,_,_,_=>none
 | k + 1,x0,x16,x17,x18,x19,x20,x155=>if x155=true then (some false) else (if x20=true then ((impl_ClosedSumps.f k x16 x17 x19).bind fun bt760=>((impl_ClosedSumps.f k x16 x17 (wrap64 ((wrap64 (x19 + x18)) - 1))).bind fun bt764=>(if bt760.2=true then (if bt764.2=true then (if (bt760.1.length : Int)=0 then (laws_FnSumps.j5 k x0 ((bt764.1.length : Int) != 0)) else (laws_FnSumps.j5 k x0 true)) else (laws_FnSumps.j5 k x0 true)) else (laws_FnSumps.j5 k x0 true)))) else (laws_FnSumps.j6 k x0))
def laws_FnSumps.j6 : Nat→List Int→Option (Bool)
 | 0,_=>none
 | k + 1,x0=>(spec_DrawClosedSumps.f k x0).bind fun bt768=>((impl_ClosedSumps.f k bt768.1 bt768.2.1 bt768.2.2).bind fun bt775=>((spec_ClosedSumps.f k bt768.1 bt768.2.1 bt768.2.2).bind fun bt779=>(if (bt775.2 != bt779.2)=true then (laws_FnSumps.j7 k x0 true) else ((laws_rInts.f k bt775.1 bt779.1).bind fun t783=>(if t783=true then ((impl_AreSumps.f k bt768.2.1).bind fun t784=>((spec_AreSumps.f k bt768.2.1).bind fun t785=>(laws_FnSumps.j7 k x0 (t784 != t785)))) else (laws_FnSumps.j7 k x0 true))))))
def laws_FnSumps.j7 : Nat→List Int→Bool→Option (Bool)
 | 0,_,_=>none
 | k + 1,x0,x225=>if x225=true then (some false) else ((spec_DrawDrownedSumps.f k x0).bind fun bt786=>((impl_DrownedSumps.f k bt786.1 bt786.2).bind fun bt792=>((spec_DrownedSumps.f k bt786.1 bt786.2).bind fun bt796=>(if (bt792.2 != bt796.2)=true then (laws_FnSumps.j8 k bt786.1 bt786.2 bt792.1 bt792.2 true) else ((laws_rInts.f k bt792.1 bt796.1).bind fun t800=>(laws_FnSumps.j8 k bt786.1 bt786.2 bt792.1 bt792.2 (!t800)))))))
def laws_FnSumps.j8 : Nat→List (S30)→List (S44)→List Int→Bool→Bool→Option (Bool)
 | 0,_,_,_,_,_=>none
 | k + 1,x34,x35,x36,x37,x251=>if x251=true then (some false) else (laws_FnSumps.l1 k x34 x35 x36 x37 0)
def laws_FnSumps.l1 : Nat→List (S30)→List (S44)→List Int→Bool→Int→Option (Bool)
 | 0,_,_,_,_,_=>none
 | k + 1,x34,x35,x36,x37,x40=>if x40 < (x34.length : Int) then (laws_FnSumps.j10 k x34 x35 x36 x37 x40 x37) else (laws_FnSumps.j10 k x34 x35 x36 x37 x40 false)
def laws_FnSumps.j10 : Nat→List (S30)→List (S44)→List Int→Bool→Int→Bool→Option (Bool)
 | 0,_,_,_,_,_,_=>none
 | k + 1,x34,x35,x36,x37,x40,x258=>if x258=true then (if 0≤x40 then (if x40 < (x34.length : Int) then ((impl_ClosedSumps.f k x34 x35 ((rd_T30 x34 x40).f0)).bind fun bt802=>(laws_FnSumps.l2 k x34 x35 x36 x37 x40 bt802.1 bt802.2 0)) else (none)) else (none)) else (some true)
def laws_FnSumps.l2 : Nat→List (S30)→List (S44)→List Int→Bool→Int→List Int→Bool→Int→Option (Bool)
 | 0,_,_,_,_,_,_,_,_=>none
 | k + 1,x34,x35,x36,x37,x40,x41,x42,x43=>if x43 < (x35.length : Int) then (if x42=true then (if 0≤x40 then (if x40 < (x34.length : Int) then (if 0≤x43 then (if ((rd_T30 x34 x40).f1) > ((rd_T44 x35 x43).f1) then ((laws_rHas.f k x41 ((rd_T44 x35 x43).f0)).bind fun t809=>(if t809=true then ((laws_rHas.f k x36 ((rd_T44 x35 x43).f0)).bind fun t811=>(laws_FnSumps.j12 k x34 x35 x36 x37 x40 x41 x42 x43 (!t811))) else (laws_FnSumps.j12 k x34 x35 x36 x37 x40 x41 x42 x43 true))) else (laws_FnSumps.j12 k x34 x35 x36 x37 x40 x41 x42 x43 false)) else (none)) else (none)) else (none)) else (laws_FnSumps.j12 k x34 x35 x36 x37 x40 x41 x42 x43 true)) else (laws_FnSumps.l1 k x34 x35 x36 x37 (wrap64 (x40 + 1)))
def laws_FnSumps.j12 : Nat→List (S30)→List (S44)→List Int→Bool→Int→List Int→Bool→Int→Bool→Option (Bool)
 | 0,_,_,_,_,_,_,_,_,_=>none
 | k + 1,x34,x35,x36,x37,x40,x41,x42,x43,x312=>if x312=true then (some false) else (laws_FnSumps.l2 k x34 x35 x36 x37 x40 x41 x42 (wrap64 (x43 + 1)))
def laws_FnSumps.j5 : Nat→List Int→Bool→Option (Bool)
 | 0,_,_=>none
 | k + 1,x0,x189=>if x189=true then (some false) else (laws_FnSumps.j6 k x0)
end
def laws_FnSumps.f (k : Nat) (l0 : List Int) : Option (Bool):=(laws_rBig.f l0).bind fun t723=>(if t723=true then (some true) else ((spec_DrawIsOpen.f k l0).bind fun bt724=>((impl_IsOpen.f k bt724.1 bt724.2.1 bt724.2.2.1 bt724.2.2.2.1 bt724.2.2.2.2).bind fun bt732=>((spec_IsOpen.f k bt724.1 bt724.2.1 bt724.2.2.1 bt724.2.2.2.1 bt724.2.2.2.2).bind fun bt734=>(if (bt732.1 != bt734.1)=true then (laws_FnSumps.j0 k l0 bt724.1 bt724.2.2.2.2 bt732.1 bt732.2 true bt724.2.1 bt724.2.2.1 bt724.2.2.2.1) else (laws_FnSumps.j0 k l0 bt724.1 bt724.2.2.2.2 bt732.1 bt732.2 (bt732.2 != bt734.2) bt724.2.1 bt724.2.2.1 bt724.2.2.2.1))))))
theorem laws_FnSumps.mono_l : ∀ k,(∀ y0 y1 y2 y3 y4 y5 y6 y7 y8,LeO (laws_FnSumps.j0 k y0 y1 y2 y3 y4 y5 y6 y7 y8) (laws_FnSumps.j0 (k + 1) y0 y1 y2 y3 y4 y5 y6 y7 y8))∧(∀ y0 y1 y2 y3 y4 y5,LeO (laws_FnSumps.j1 k y0 y1 y2 y3 y4 y5) (laws_FnSumps.j1 (k + 1) y0 y1 y2 y3 y4 y5))∧(∀ y0 y1 y2 y3 y4 y5 y6,LeO (laws_FnSumps.l0 k y0 y1 y2 y3 y4 y5 y6) (laws_FnSumps.l0 (k + 1) y0 y1 y2 y3 y4 y5 y6))∧(∀ y0 y1,LeO (laws_FnSumps.j3 k y0 y1) (laws_FnSumps.j3 (k + 1) y0 y1))∧(∀ y0 y1 y2 y3 y4 y5 y6,LeO (laws_FnSumps.j4 k y0 y1 y2 y3 y4 y5 y6) (laws_FnSumps.j4 (k + 1) y0 y1 y2 y3 y4 y5 y6))∧(∀ y0,LeO (laws_FnSumps.j6 k y0) (laws_FnSumps.j6 (k + 1) y0))∧(∀ y0 y1,LeO (laws_FnSumps.j7 k y0 y1) (laws_FnSumps.j7 (k + 1) y0 y1))∧(∀ y0 y1 y2 y3 y4,LeO (laws_FnSumps.j8 k y0 y1 y2 y3 y4) (laws_FnSumps.j8 (k + 1) y0 y1 y2 y3 y4))∧(∀ y0 y1 y2 y3 y4,LeO (laws_FnSumps.l1 k y0 y1 y2 y3 y4) (laws_FnSumps.l1 (k + 1) y0 y1 y2 y3 y4))∧(∀ y0 y1 y2 y3 y4 y5,LeO (laws_FnSumps.j10 k y0 y1 y2 y3 y4 y5) (laws_FnSumps.j10 (k + 1) y0 y1 y2 y3 y4 y5))∧(∀ y0 y1 y2 y3 y4 y5 y6 y7,LeO (laws_FnSumps.l2 k y0 y1 y2 y3 y4 y5 y6 y7) (laws_FnSumps.l2 (k + 1) y0 y1 y2 y3 y4 y5 y6 y7))∧(∀ y0 y1 y2 y3 y4 y5 y6 y7 y8,LeO (laws_FnSumps.j12 k y0 y1 y2 y3 y4 y5 y6 y7 y8) (laws_FnSumps.j12 (k + 1) y0 y1 y2 y3 y4 y5 y6 y7 y8))∧(∀ y0 y1,LeO (laws_FnSumps.j5 k y0 y1) (laws_FnSumps.j5 (k + 1) y0 y1))
 | 0=>⟨fun _ _ _ _ _ _ _ _ _ r h=>by simp [laws_FnSumps.j0] at h,fun _ _ _ _ _ _ r h=>by simp [laws_FnSumps.j1] at h,fun _ _ _ _ _ _ _ r h=>by simp [laws_FnSumps.l0] at h,fun _ _ r h=>by simp [laws_FnSumps.j3] at h,fun _ _ _ _ _ _ _ r h=>by simp [laws_FnSumps.j4] at h,fun _ r h=>by simp [laws_FnSumps.j6] at h,fun _ _ r h=>by simp [laws_FnSumps.j7] at h,fun _ _ _ _ _ r h=>by simp [laws_FnSumps.j8] at h,fun _ _ _ _ _ r h=>by simp [laws_FnSumps.l1] at h,fun _ _ _ _ _ _ r h=>by simp [laws_FnSumps.j10] at h,fun _ _ _ _ _ _ _ _ r h=>by simp [laws_FnSumps.l2] at h,fun _ _ _ _ _ _ _ _ _ r h=>by simp [laws_FnSumps.j12] at h,fun _ _ r h=>by simp [laws_FnSumps.j5] at h⟩
 | k + 1=>by
  obtain ⟨ih0,ih1,ih2,ih3,ih4,ih5,ih6,ih7,ih8,ih9,ih10,ih11,ih12⟩:=laws_FnSumps.mono_l k
  refine ⟨?_,?_,?_,?_,?_,?_,?_,?_,?_,?_,?_,?_,?_⟩
  ·intro y0 y1 y2 y3 y4 y5 y6 y7 y8
   unfold laws_FnSumps.j0
   repeat' first
   | (with_reducible exact ih0 _ _ _ _ _ _ _ _ _)
   | (with_reducible exact ih1 _ _ _ _ _ _)
   | (with_reducible exact ih2 _ _ _ _ _ _ _)
   | (with_reducible exact ih3 _ _)
   | (with_reducible exact ih4 _ _ _ _ _ _ _)
   | (with_reducible exact ih5 _)
   | (with_reducible exact ih6 _ _)
   | (with_reducible exact ih7 _ _ _ _ _)
   | (with_reducible exact ih8 _ _ _ _ _)
   | (with_reducible exact ih9 _ _ _ _ _ _)
   | (with_reducible exact ih10 _ _ _ _ _ _ _ _)
   | (with_reducible exact ih11 _ _ _ _ _ _ _ _ _)
   | (with_reducible exact ih12 _ _)
   | (with_reducible exact impl_AreSumps.mono _ _)
   | (with_reducible exact impl_ClosedSumps.mono _ _ _ _)
   | (with_reducible exact impl_DrownedSumps.mono _ _ _)
   | (with_reducible exact impl_IsOpen.mono _ _ _ _ _ _)
   | (with_reducible exact impl_OpenFor.mono _ _ _ _)
   | (with_reducible exact impl_OpenSpans.mono _ _ _ _ _)
   | (with_reducible exact laws_rHas.mono _ _ _)
   | (with_reducible exact laws_rInts.mono _ _ _)
   | (with_reducible exact laws_rTable.mono _ _ _)
   | (with_reducible exact spec_AreSumps.mono _ _)
   | (with_reducible exact spec_ClosedSumps.mono _ _ _ _)
   | (with_reducible exact spec_DrawClosedSumps.mono _ _)
   | (with_reducible exact spec_DrawDrownedSumps.mono _ _)
   | (with_reducible exact spec_DrawIsOpen.mono _ _)
   | (with_reducible exact spec_DrawOpenFor.mono _ _)
   | (with_reducible exact spec_DrownedSumps.mono _ _ _)
   | (with_reducible exact spec_IsOpen.mono _ _ _ _ _ _)
   | (with_reducible exact spec_OpenFor.mono _ _ _ _)
   | (with_reducible exact spec_OpenSpans.mono _ _ _ _ _)
   | (with_reducible exact LeO.refl _)
   | (with_reducible exact LeO.none _)
   | (with_reducible refine LeO.ite ?_ ?_)
   | (with_reducible refine LeO.bind ?_ (fun _=>?_))
   | exact ih0 _ _ _ _ _ _ _ _ _
   | exact ih1 _ _ _ _ _ _
   | exact ih2 _ _ _ _ _ _ _
   | exact ih3 _ _
   | exact ih4 _ _ _ _ _ _ _
   | exact ih5 _
   | exact ih6 _ _
   | exact ih7 _ _ _ _ _
   | exact ih8 _ _ _ _ _
   | exact ih9 _ _ _ _ _ _
   | exact ih10 _ _ _ _ _ _ _ _
   | exact ih11 _ _ _ _ _ _ _ _ _
   | exact ih12 _ _
  ·intro y0 y1 y2 y3 y4 y5
   unfold laws_FnSumps.j1
   repeat' first
   | (with_reducible exact ih0 _ _ _ _ _ _ _ _ _)
   | (with_reducible exact ih1 _ _ _ _ _ _)
   | (with_reducible exact ih2 _ _ _ _ _ _ _)
   | (with_reducible exact ih3 _ _)
   | (with_reducible exact ih4 _ _ _ _ _ _ _)
   | (with_reducible exact ih5 _)
   | (with_reducible exact ih6 _ _)
   | (with_reducible exact ih7 _ _ _ _ _)
   | (with_reducible exact ih8 _ _ _ _ _)
   | (with_reducible exact ih9 _ _ _ _ _ _)
   | (with_reducible exact ih10 _ _ _ _ _ _ _ _)
   | (with_reducible exact ih11 _ _ _ _ _ _ _ _ _)
   | (with_reducible exact ih12 _ _)
   | (with_reducible exact impl_AreSumps.mono _ _)
   | (with_reducible exact impl_ClosedSumps.mono _ _ _ _)
   | (with_reducible exact impl_DrownedSumps.mono _ _ _)
   | (with_reducible exact impl_IsOpen.mono _ _ _ _ _ _)
   | (with_reducible exact impl_OpenFor.mono _ _ _ _)
   | (with_reducible exact impl_OpenSpans.mono _ _ _ _ _)
   | (with_reducible exact laws_rHas.mono _ _ _)
   | (with_reducible exact laws_rInts.mono _ _ _)
   | (with_reducible exact laws_rTable.mono _ _ _)
   | (with_reducible exact spec_AreSumps.mono _ _)
   | (with_reducible exact spec_ClosedSumps.mono _ _ _ _)
   | (with_reducible exact spec_DrawClosedSumps.mono _ _)
   | (with_reducible exact spec_DrawDrownedSumps.mono _ _)
   | (with_reducible exact spec_DrawIsOpen.mono _ _)
   | (with_reducible exact spec_DrawOpenFor.mono _ _)
   | (with_reducible exact spec_DrownedSumps.mono _ _ _)
   | (with_reducible exact spec_IsOpen.mono _ _ _ _ _ _)
   | (with_reducible exact spec_OpenFor.mono _ _ _ _)
   | (with_reducible exact spec_OpenSpans.mono _ _ _ _ _)
   | (with_reducible exact LeO.refl _)
   | (with_reducible exact LeO.none _)
   | (with_reducible refine LeO.ite ?_ ?_)
   | (with_reducible refine LeO.bind ?_ (fun _=>?_))
   | exact ih0 _ _ _ _ _ _ _ _ _
   | exact ih1 _ _ _ _ _ _
   | exact ih2 _ _ _ _ _ _ _
   | exact ih3 _ _
   | exact ih4 _ _ _ _ _ _ _
   | exact ih5 _
   | exact ih6 _ _
   | exact ih7 _ _ _ _ _
   | exact ih8 _ _ _ _ _
   | exact ih9 _ _ _ _ _ _
   | exact ih10 _ _ _ _ _ _ _ _
   | exact ih11 _ _ _ _ _ _ _ _ _
   | exact ih12 _ _
  ·intro y0 y1 y2 y3 y4 y5 y6
   unfold laws_FnSumps.l0
   repeat' first
   | (with_reducible exact ih0 _ _ _ _ _ _ _ _ _)
   | (with_reducible exact ih1 _ _ _ _ _ _)
   | (with_reducible exact ih2 _ _ _ _ _ _ _)
   | (with_reducible exact ih3 _ _)
   | (with_reducible exact ih4 _ _ _ _ _ _ _)
   | (with_reducible exact ih5 _)
   | (with_reducible exact ih6 _ _)
   | (with_reducible exact ih7 _ _ _ _ _)
   | (with_reducible exact ih8 _ _ _ _ _)
   | (with_reducible exact ih9 _ _ _ _ _ _)
   | (with_reducible exact ih10 _ _ _ _ _ _ _ _)
   | (with_reducible exact ih11 _ _ _ _ _ _ _ _ _)
   | (with_reducible exact ih12 _ _)
   | (with_reducible exact impl_AreSumps.mono _ _)
   | (with_reducible exact impl_ClosedSumps.mono _ _ _ _)
   | (with_reducible exact impl_DrownedSumps.mono _ _ _)
   | (with_reducible exact impl_IsOpen.mono _ _ _ _ _ _)
   | (with_reducible exact impl_OpenFor.mono _ _ _ _)
   | (with_reducible exact impl_OpenSpans.mono _ _ _ _ _)
   | (with_reducible exact laws_rHas.mono _ _ _)
   | (with_reducible exact laws_rInts.mono _ _ _)
   | (with_reducible exact laws_rTable.mono _ _ _)
   | (with_reducible exact spec_AreSumps.mono _ _)
   | (with_reducible exact spec_ClosedSumps.mono _ _ _ _)
   | (with_reducible exact spec_DrawClosedSumps.mono _ _)
   | (with_reducible exact spec_DrawDrownedSumps.mono _ _)
   | (with_reducible exact spec_DrawIsOpen.mono _ _)
   | (with_reducible exact spec_DrawOpenFor.mono _ _)
   | (with_reducible exact spec_DrownedSumps.mono _ _ _)
   | (with_reducible exact spec_IsOpen.mono _ _ _ _ _ _)
   | (with_reducible exact spec_OpenFor.mono _ _ _ _)
   | (with_reducible exact spec_OpenSpans.mono _ _ _ _ _)
   | (with_reducible exact LeO.refl _)
   | (with_reducible exact LeO.none _)
   | (with_reducible refine LeO.ite ?_ ?_)
   | (with_reducible refine LeO.bind ?_ (fun _=>?_))
   | exact ih0 _ _ _ _ _ _ _ _ _
   | exact ih1 _ _ _ _ _ _
   | exact ih2 _ _ _ _ _ _ _
   | exact ih3 _ _
   | exact ih4 _ _ _ _ _ _ _
   | exact ih5 _
   | exact ih6 _ _
   | exact ih7 _ _ _ _ _
   | exact ih8 _ _ _ _ _
   | exact ih9 _ _ _ _ _ _
   | exact ih10 _ _ _ _ _ _ _ _
   | exact ih11 _ _ _ _ _ _ _ _ _
   | exact ih12 _ _
  ·intro y0 y1
   unfold laws_FnSumps.j3
   repeat' first
   | (with_reducible exact ih0 _ _ _ _ _ _ _ _ _)
   | (with_reducible exact ih1 _ _ _ _ _ _)
   | (with_reducible exact ih2 _ _ _ _ _ _ _)
   | (with_reducible exact ih3 _ _)
   | (with_reducible exact ih4 _ _ _ _ _ _ _)
   | (with_reducible exact ih5 _)
   | (with_reducible exact ih6 _ _)
   | (with_reducible exact ih7 _ _ _ _ _)
   | (with_reducible exact ih8 _ _ _ _ _)
   | (with_reducible exact ih9 _ _ _ _ _ _)
   | (with_reducible exact ih10 _ _ _ _ _ _ _ _)
   | (with_reducible exact ih11 _ _ _ _ _ _ _ _ _)
   | (with_reducible exact ih12 _ _)
   | (with_reducible exact impl_AreSumps.mono _ _)
   | (with_reducible exact impl_ClosedSumps.mono _ _ _ _)
   | (with_reducible exact impl_DrownedSumps.mono _ _ _)
   | (with_reducible exact impl_IsOpen.mono _ _ _ _ _ _)
   | (with_reducible exact impl_OpenFor.mono _ _ _ _)
   | (with_reducible exact impl_OpenSpans.mono _ _ _ _ _)
   | (with_reducible exact laws_rHas.mono _ _ _)
   | (with_reducible exact laws_rInts.mono _ _ _)
   | (with_reducible exact laws_rTable.mono _ _ _)
   | (with_reducible exact spec_AreSumps.mono _ _)
   | (with_reducible exact spec_ClosedSumps.mono _ _ _ _)
   | (with_reducible exact spec_DrawClosedSumps.mono _ _)
   | (with_reducible exact spec_DrawDrownedSumps.mono _ _)
   | (with_reducible exact spec_DrawIsOpen.mono _ _)
   | (with_reducible exact spec_DrawOpenFor.mono _ _)
   | (with_reducible exact spec_DrownedSumps.mono _ _ _)
   | (with_reducible exact spec_IsOpen.mono _ _ _ _ _ _)
   | (with_reducible exact spec_OpenFor.mono _ _ _ _)
   | (with_reducible exact spec_OpenSpans.mono _ _ _ _ _)
   | (with_reducible exact LeO.refl _)
   | (with_reducible exact LeO.none _)
   | (with_reducible refine LeO.ite ?_ ?_)
   | (with_reducible refine LeO.bind ?_ (fun _=>?_))
   | exact ih0 _ _ _ _ _ _ _ _ _
   | exact ih1 _ _ _ _ _ _
   | exact ih2 _ _ _ _ _ _ _
   | exact ih3 _ _
   | exact ih4 _ _ _ _ _ _ _
   | exact ih5 _
   | exact ih6 _ _
   | exact ih7 _ _ _ _ _
   | exact ih8 _ _ _ _ _
   | exact ih9 _ _ _ _ _ _
   | exact ih10 _ _ _ _ _ _ _ _
   | exact ih11 _ _ _ _ _ _ _ _ _
   | exact ih12 _ _
  ·intro y0 y1 y2 y3 y4 y5 y6
   unfold laws_FnSumps.j4
   repeat' first
   | (with_reducible exact ih0 _ _ _ _ _ _ _ _ _)
   | (with_reducible exact ih1 _ _ _ _ _ _)
   | (with_reducible exact ih2 _ _ _ _ _ _ _)
   | (with_reducible exact ih3 _ _)
   | (with_reducible exact ih4 _ _ _ _ _ _ _)
   | (with_reducible exact ih5 _)
   | (with_reducible exact ih6 _ _)
   | (with_reducible exact ih7 _ _ _ _ _)
   | (with_reducible exact ih8 _ _ _ _ _)
   | (with_reducible exact ih9 _ _ _ _ _ _)
   | (with_reducible exact ih10 _ _ _ _ _ _ _ _)
   | (with_reducible exact ih11 _ _ _ _ _ _ _ _ _)
   | (with_reducible exact ih12 _ _)
   | (with_reducible exact impl_AreSumps.mono _ _)
   | (with_reducible exact impl_ClosedSumps.mono _ _ _ _)
   | (with_reducible exact impl_DrownedSumps.mono _ _ _)
   | (with_reducible exact impl_IsOpen.mono _ _ _ _ _ _)
   | (with_reducible exact impl_OpenFor.mono _ _ _ _)
   | (with_reducible exact impl_OpenSpans.mono _ _ _ _ _)
   | (with_reducible exact laws_rHas.mono _ _ _)
   | (with_reducible exact laws_rInts.mono _ _ _)
   | (with_reducible exact laws_rTable.mono _ _ _)
   | (with_reducible exact spec_AreSumps.mono _ _)
   | (with_reducible exact spec_ClosedSumps.mono _ _ _ _)
   | (with_reducible exact spec_DrawClosedSumps.mono _ _)
   | (with_reducible exact spec_DrawDrownedSumps.mono _ _)
   | (with_reducible exact spec_DrawIsOpen.mono _ _)
   | (with_reducible exact spec_DrawOpenFor.mono _ _)
   | (with_reducible exact spec_DrownedSumps.mono _ _ _)
   | (with_reducible exact spec_IsOpen.mono _ _ _ _ _ _)
   | (with_reducible exact spec_OpenFor.mono _ _ _ _)
   | (with_reducible exact spec_OpenSpans.mono _ _ _ _ _)
   | (with_reducible exact LeO.refl _)
   | (with_reducible exact LeO.none _)
   | (with_reducible refine LeO.ite ?_ ?_)
   | (with_reducible refine LeO.bind ?_ (fun _=>?_))
   | exact ih0 _ _ _ _ _ _ _ _ _
   | exact ih1 _ _ _ _ _ _
   | exact ih2 _ _ _ _ _ _ _
   | exact ih3 _ _
   | exact ih4 _ _ _ _ _ _ _
   | exact ih5 _
   | exact ih6 _ _
   | exact ih7 _ _ _ _ _
   | exact ih8 _ _ _ _ _
   | exact ih9 _ _ _ _ _ _
   | exact ih10 _ _ _ _ _ _ _ _
   | exact ih11 _ _ _ _ _ _ _ _ _
   | exact ih12 _ _
  ·intro y0
   unfold laws_FnSumps.j6
   repeat' first
   | (with_reducible exact ih0 _ _ _ _ _ _ _ _ _)
   | (with_reducible exact ih1 _ _ _ _ _ _)
   | (with_reducible exact ih2 _ _ _ _ _ _ _)
   | (with_reducible exact ih3 _ _)
   | (with_reducible exact ih4 _ _ _ _ _ _ _)
   | (with_reducible exact ih5 _)
   | (with_reducible exact ih6 _ _)
   | (with_reducible exact ih7 _ _ _ _ _)
   | (with_reducible exact ih8 _ _ _ _ _)
   | (with_reducible exact ih9 _ _ _ _ _ _)
   | (with_reducible exact ih10 _ _ _ _ _ _ _ _)
   | (with_reducible exact ih11 _ _ _ _ _ _ _ _ _)
   | (with_reducible exact ih12 _ _)
   | (with_reducible exact impl_AreSumps.mono _ _)
   | (with_reducible exact impl_ClosedSumps.mono _ _ _ _)
   | (with_reducible exact impl_DrownedSumps.mono _ _ _)
   | (with_reducible exact impl_IsOpen.mono _ _ _ _ _ _)
   | (with_reducible exact impl_OpenFor.mono _ _ _ _)
   | (with_reducible exact impl_OpenSpans.mono _ _ _ _ _)
   | (with_reducible exact laws_rHas.mono _ _ _)
   | (with_reducible exact laws_rInts.mono _ _ _)
   | (with_reducible exact laws_rTable.mono _ _ _)
   | (with_reducible exact spec_AreSumps.mono _ _)
   | (with_reducible exact spec_ClosedSumps.mono _ _ _ _)
   | (with_reducible exact spec_DrawClosedSumps.mono _ _)
   | (with_reducible exact spec_DrawDrownedSumps.mono _ _)
   | (with_reducible exact spec_DrawIsOpen.mono _ _)
   | (with_reducible exact spec_DrawOpenFor.mono _ _)
   | (with_reducible exact spec_DrownedSumps.mono _ _ _)
   | (with_reducible exact spec_IsOpen.mono _ _ _ _ _ _)
   | (with_reducible exact spec_OpenFor.mono _ _ _ _)
   | (with_reducible exact spec_OpenSpans.mono _ _ _ _ _)
   | (with_reducible exact LeO.refl _)
   | (with_reducible exact LeO.none _)
   | (with_reducible refine LeO.ite ?_ ?_)
   | (with_reducible refine LeO.bind ?_ (fun _=>?_))
   | exact ih0 _ _ _ _ _ _ _ _ _
   | exact ih1 _ _ _ _ _ _
   | exact ih2 _ _ _ _ _ _ _
   | exact ih3 _ _
   | exact ih4 _ _ _ _ _ _ _
   | exact ih5 _
   | exact ih6 _ _
   | exact ih7 _ _ _ _ _
   | exact ih8 _ _ _ _ _
   | exact ih9 _ _ _ _ _ _
   | exact ih10 _ _ _ _ _ _ _ _
   | exact ih11 _ _ _ _ _ _ _ _ _
   | exact ih12 _ _
  ·intro y0 y1
   unfold laws_FnSumps.j7
   repeat' first
   | (with_reducible exact ih0 _ _ _ _ _ _ _ _ _)
   | (with_reducible exact ih1 _ _ _ _ _ _)
   | (with_reducible exact ih2 _ _ _ _ _ _ _)
   | (with_reducible exact ih3 _ _)
   | (with_reducible exact ih4 _ _ _ _ _ _ _)
   | (with_reducible exact ih5 _)
   | (with_reducible exact ih6 _ _)
   | (with_reducible exact ih7 _ _ _ _ _)
   | (with_reducible exact ih8 _ _ _ _ _)
   | (with_reducible exact ih9 _ _ _ _ _ _)
   | (with_reducible exact ih10 _ _ _ _ _ _ _ _)
   | (with_reducible exact ih11 _ _ _ _ _ _ _ _ _)
   | (with_reducible exact ih12 _ _)
   | (with_reducible exact impl_AreSumps.mono _ _)
   | (with_reducible exact impl_ClosedSumps.mono _ _ _ _)
   | (with_reducible exact impl_DrownedSumps.mono _ _ _)
   | (with_reducible exact impl_IsOpen.mono _ _ _ _ _ _)
   | (with_reducible exact impl_OpenFor.mono _ _ _ _)
   | (with_reducible exact impl_OpenSpans.mono _ _ _ _ _)
   | (with_reducible exact laws_rHas.mono _ _ _)
   | (with_reducible exact laws_rInts.mono _ _ _)
   | (with_reducible exact laws_rTable.mono _ _ _)
   | (with_reducible exact spec_AreSumps.mono _ _)
   | (with_reducible exact spec_ClosedSumps.mono _ _ _ _)
   | (with_reducible exact spec_DrawClosedSumps.mono _ _)
   | (with_reducible exact spec_DrawDrownedSumps.mono _ _)
   | (with_reducible exact spec_DrawIsOpen.mono _ _)
   | (with_reducible exact spec_DrawOpenFor.mono _ _)
   | (with_reducible exact spec_DrownedSumps.mono _ _ _)
   | (with_reducible exact spec_IsOpen.mono _ _ _ _ _ _)
   | (with_reducible exact spec_OpenFor.mono _ _ _ _)
   | (with_reducible exact spec_OpenSpans.mono _ _ _ _ _)
   | (with_reducible exact LeO.refl _)
   | (with_reducible exact LeO.none _)
   | (with_reducible refine LeO.ite ?_ ?_)
   | (with_reducible refine LeO.bind ?_ (fun _=>?_))
   | exact ih0 _ _ _ _ _ _ _ _ _
   | exact ih1 _ _ _ _ _ _
   | exact ih2 _ _ _ _ _ _ _
   | exact ih3 _ _
   | exact ih4 _ _ _ _ _ _ _
   | exact ih5 _
   | exact ih6 _ _
   | exact ih7 _ _ _ _ _
   | exact ih8 _ _ _ _ _
   | exact ih9 _ _ _ _ _ _
   | exact ih10 _ _ _ _ _ _ _ _
   | exact ih11 _ _ _ _ _ _ _ _ _
   | exact ih12 _ _
  ·intro y0 y1 y2 y3 y4
   unfold laws_FnSumps.j8
   repeat' first
   | (with_reducible exact ih0 _ _ _ _ _ _ _ _ _)
   | (with_reducible exact ih1 _ _ _ _ _ _)
   | (with_reducible exact ih2 _ _ _ _ _ _ _)
   | (with_reducible exact ih3 _ _)
   | (with_reducible exact ih4 _ _ _ _ _ _ _)
   | (with_reducible exact ih5 _)
   | (with_reducible exact ih6 _ _)
   | (with_reducible exact ih7 _ _ _ _ _)
   | (with_reducible exact ih8 _ _ _ _ _)
   | (with_reducible exact ih9 _ _ _ _ _ _)
   | (with_reducible exact ih10 _ _ _ _ _ _ _ _)
   | (with_reducible exact ih11 _ _ _ _ _ _ _ _ _)
   | (with_reducible exact ih12 _ _)
   | (with_reducible exact impl_AreSumps.mono _ _)
   | (with_reducible exact impl_ClosedSumps.mono _ _ _ _)
   | (with_reducible exact impl_DrownedSumps.mono _ _ _)
   | (with_reducible exact impl_IsOpen.mono _ _ _ _ _ _)
   | (with_reducible exact impl_OpenFor.mono _ _ _ _)
   | (with_reducible exact impl_OpenSpans.mono _ _ _ _ _)
   | (with_reducible exact laws_rHas.mono _ _ _)
   | (with_reducible exact laws_rInts.mono _ _ _)
   | (with_reducible exact laws_rTable.mono _ _ _)
   | (with_reducible exact spec_AreSumps.mono _ _)
   | (with_reducible exact spec_ClosedSumps.mono _ _ _ _)
   | (with_reducible exact spec_DrawClosedSumps.mono _ _)
   | (with_reducible exact spec_DrawDrownedSumps.mono _ _)
   | (with_reducible exact spec_DrawIsOpen.mono _ _)
   | (with_reducible exact spec_DrawOpenFor.mono _ _)
   | (with_reducible exact spec_DrownedSumps.mono _ _ _)
   | (with_reducible exact spec_IsOpen.mono _ _ _ _ _ _)
   | (with_reducible exact spec_OpenFor.mono _ _ _ _)
   | (with_reducible exact spec_OpenSpans.mono _ _ _ _ _)
   | (with_reducible exact LeO.refl _)
   | (with_reducible exact LeO.none _)
   | (with_reducible refine LeO.ite ?_ ?_)
   | (with_reducible refine LeO.bind ?_ (fun _=>?_))
   | exact ih0 _ _ _ _ _ _ _ _ _
   | exact ih1 _ _ _ _ _ _
   | exact ih2 _ _ _ _ _ _ _
   | exact ih3 _ _
   | exact ih4 _ _ _ _ _ _ _
   | exact ih5 _
   | exact ih6 _ _
   | exact ih7 _ _ _ _ _
   | exact ih8 _ _ _ _ _
   | exact ih9 _ _ _ _ _ _
   | exact ih10 _ _ _ _ _ _ _ _
   | exact ih11 _ _ _ _ _ _ _ _ _
   | exact ih12 _ _
  ·intro y0 y1 y2 y3 y4
   unfold laws_FnSumps.l1
   repeat' first
   | (with_reducible exact ih0 _ _ _ _ _ _ _ _ _)
   | (with_reducible exact ih1 _ _ _ _ _ _)
   | (with_reducible exact ih2 _ _ _ _ _ _ _)
   | (with_reducible exact ih3 _ _)
   | (with_reducible exact ih4 _ _ _ _ _ _ _)
   | (with_reducible exact ih5 _)
   | (with_reducible exact ih6 _ _)
   | (with_reducible exact ih7 _ _ _ _ _)
   | (with_reducible exact ih8 _ _ _ _ _)
   | (with_reducible exact ih9 _ _ _ _ _ _)
   | (with_reducible exact ih10 _ _ _ _ _ _ _ _)
   | (with_reducible exact ih11 _ _ _ _ _ _ _ _ _)
   | (with_reducible exact ih12 _ _)
   | (with_reducible exact impl_AreSumps.mono _ _)
   | (with_reducible exact impl_ClosedSumps.mono _ _ _ _)
   | (with_reducible exact impl_DrownedSumps.mono _ _ _)
   | (with_reducible exact impl_IsOpen.mono _ _ _ _ _ _)
   | (with_reducible exact impl_OpenFor.mono _ _ _ _)
   | (with_reducible exact impl_OpenSpans.mono _ _ _ _ _)
   | (with_reducible exact laws_rHas.mono _ _ _)
   | (with_reducible exact laws_rInts.mono _ _ _)
   | (with_reducible exact laws_rTable.mono _ _ _)
   | (with_reducible exact spec_AreSumps.mono _ _)
   | (with_reducible exact spec_ClosedSumps.mono _ _ _ _)
   | (with_reducible exact spec_DrawClosedSumps.mono _ _)
   | (with_reducible exact spec_DrawDrownedSumps.mono _ _)
   | (with_reducible exact spec_DrawIsOpen.mono _ _)
   | (with_reducible exact spec_DrawOpenFor.mono _ _)
   | (with_reducible exact spec_DrownedSumps.mono _ _ _)
   | (with_reducible exact spec_IsOpen.mono _ _ _ _ _ _)
   | (with_reducible exact spec_OpenFor.mono _ _ _ _)
   | (with_reducible exact spec_OpenSpans.mono _ _ _ _ _)
   | (with_reducible exact LeO.refl _)
   | (with_reducible exact LeO.none _)
   | (with_reducible refine LeO.ite ?_ ?_)
   | (with_reducible refine LeO.bind ?_ (fun _=>?_))
   | exact ih0 _ _ _ _ _ _ _ _ _
   | exact ih1 _ _ _ _ _ _
   | exact ih2 _ _ _ _ _ _ _
   | exact ih3 _ _
   | exact ih4 _ _ _ _ _ _ _
   | exact ih5 _
   | exact ih6 _ _
   | exact ih7 _ _ _ _ _
   | exact ih8 _ _ _ _ _
   | exact ih9 _ _ _ _ _ _
   | exact ih10 _ _ _ _ _ _ _ _
   | exact ih11 _ _ _ _ _ _ _ _ _
   | exact ih12 _ _
  ·intro y0 y1 y2 y3 y4 y5
   unfold laws_FnSumps.j10
   repeat' first
   | (with_reducible exact ih0 _ _ _ _ _ _ _ _ _)
   | (with_reducible exact ih1 _ _ _ _ _ _)
   | (with_reducible exact ih2 _ _ _ _ _ _ _)
   | (with_reducible exact ih3 _ _)
   | (with_reducible exact ih4 _ _ _ _ _ _ _)
   | (with_reducible exact ih5 _)
   | (with_reducible exact ih6 _ _)
   | (with_reducible exact ih7 _ _ _ _ _)
   | (with_reducible exact ih8 _ _ _ _ _)
   | (with_reducible exact ih9 _ _ _ _ _ _)
   | (with_reducible exact ih10 _ _ _ _ _ _ _ _)
   | (with_reducible exact ih11 _ _ _ _ _ _ _ _ _)
   | (with_reducible exact ih12 _ _)
   | (with_reducible exact impl_AreSumps.mono _ _)
   | (with_reducible exact impl_ClosedSumps.mono _ _ _ _)
   | (with_reducible exact impl_DrownedSumps.mono _ _ _)
   | (with_reducible exact impl_IsOpen.mono _ _ _ _ _ _)
   | (with_reducible exact impl_OpenFor.mono _ _ _ _)
   | (with_reducible exact impl_OpenSpans.mono _ _ _ _ _)
   | (with_reducible exact laws_rHas.mono _ _ _)
   | (with_reducible exact laws_rInts.mono _ _ _)
   | (with_reducible exact laws_rTable.mono _ _ _)
   | (with_reducible exact spec_AreSumps.mono _ _)
   | (with_reducible exact spec_ClosedSumps.mono _ _ _ _)
   | (with_reducible exact spec_DrawClosedSumps.mono _ _)
   | (with_reducible exact spec_DrawDrownedSumps.mono _ _)
   | (with_reducible exact spec_DrawIsOpen.mono _ _)
   | (with_reducible exact spec_DrawOpenFor.mono _ _)
   | (with_reducible exact spec_DrownedSumps.mono _ _ _)
   | (with_reducible exact spec_IsOpen.mono _ _ _ _ _ _)
   | (with_reducible exact spec_OpenFor.mono _ _ _ _)
   | (with_reducible exact spec_OpenSpans.mono _ _ _ _ _)
   | (with_reducible exact LeO.refl _)
   | (with_reducible exact LeO.none _)
   | (with_reducible refine LeO.ite ?_ ?_)
   | (with_reducible refine LeO.bind ?_ (fun _=>?_))
   | exact ih0 _ _ _ _ _ _ _ _ _
   | exact ih1 _ _ _ _ _ _
   | exact ih2 _ _ _ _ _ _ _
   | exact ih3 _ _
   | exact ih4 _ _ _ _ _ _ _
   | exact ih5 _
   | exact ih6 _ _
   | exact ih7 _ _ _ _ _
   | exact ih8 _ _ _ _ _
   | exact ih9 _ _ _ _ _ _
   | exact ih10 _ _ _ _ _ _ _ _
   | exact ih11 _ _ _ _ _ _ _ _ _
   | exact ih12 _ _
  ·intro y0 y1 y2 y3 y4 y5 y6 y7
   unfold laws_FnSumps.l2
   repeat' first
   | (with_reducible exact ih0 _ _ _ _ _ _ _ _ _)
   | (with_reducible exact ih1 _ _ _ _ _ _)
   | (with_reducible exact ih2 _ _ _ _ _ _ _)
   | (with_reducible exact ih3 _ _)
   | (with_reducible exact ih4 _ _ _ _ _ _ _)
   | (with_reducible exact ih5 _)
   | (with_reducible exact ih6 _ _)
   | (with_reducible exact ih7 _ _ _ _ _)
   | (with_reducible exact ih8 _ _ _ _ _)
   | (with_reducible exact ih9 _ _ _ _ _ _)
   | (with_reducible exact ih10 _ _ _ _ _ _ _ _)
   | (with_reducible exact ih11 _ _ _ _ _ _ _ _ _)
   | (with_reducible exact ih12 _ _)
   | (with_reducible exact impl_AreSumps.mono _ _)
   | (with_reducible exact impl_ClosedSumps.mono _ _ _ _)
   | (with_reducible exact impl_DrownedSumps.mono _ _ _)
   | (with_reducible exact impl_IsOpen.mono _ _ _ _ _ _)
   | (with_reducible exact impl_OpenFor.mono _ _ _ _)
   | (with_reducible exact impl_OpenSpans.mono _ _ _ _ _)
   | (with_reducible exact laws_rHas.mono _ _ _)
   | (with_reducible exact laws_rInts.mono _ _ _)
   | (with_reducible exact laws_rTable.mono _ _ _)
   | (with_reducible exact spec_AreSumps.mono _ _)
   | (with_reducible exact spec_ClosedSumps.mono _ _ _ _)
   | (with_reducible exact spec_DrawClosedSumps.mono _ _)
   | (with_reducible exact spec_DrawDrownedSumps.mono _ _)
   | (with_reducible exact spec_DrawIsOpen.mono _ _)
   | (with_reducible exact spec_DrawOpenFor.mono _ _)
   | (with_reducible exact spec_DrownedSumps.mono _ _ _)
   | (with_reducible exact spec_IsOpen.mono _ _ _ _ _ _)
   | (with_reducible exact spec_OpenFor.mono _ _ _ _)
   | (with_reducible exact spec_OpenSpans.mono _ _ _ _ _)
   | (with_reducible exact LeO.refl _)
   | (with_reducible exact LeO.none _)
   | (with_reducible refine LeO.ite ?_ ?_)
   | (with_reducible refine LeO.bind ?_ (fun _=>?_))
   | exact ih0 _ _ _ _ _ _ _ _ _
   | exact ih1 _ _ _ _ _ _
   | exact ih2 _ _ _ _ _ _ _
   | exact ih3 _ _
   | exact ih4 _ _ _ _ _ _ _
   | exact ih5 _
   | exact ih6 _ _
   | exact ih7 _ _ _ _ _
   | exact ih8 _ _ _ _ _
   | exact ih9 _ _ _ _ _ _
   | exact ih10 _ _ _ _ _ _ _ _
   | exact ih11 _ _ _ _ _ _ _ _ _
   | exact ih12 _ _
  ·intro y0 y1 y2 y3 y4 y5 y6 y7 y8
   unfold laws_FnSumps.j12
   repeat' first
   | (with_reducible exact ih0 _ _ _ _ _ _ _ _ _)
   | (with_reducible exact ih1 _ _ _ _ _ _)
   | (with_reducible exact ih2 _ _ _ _ _ _ _)
   | (with_reducible exact ih3 _ _)
   | (with_reducible exact ih4 _ _ _ _ _ _ _)
   | (with_reducible exact ih5 _)
   | (with_reducible exact ih6 _ _)
   | (with_reducible exact ih7 _ _ _ _ _)
   | (with_reducible exact ih8 _ _ _ _ _)
   | (with_reducible exact ih9 _ _ _ _ _ _)
   | (with_reducible exact ih10 _ _ _ _ _ _ _ _)
   | (with_reducible exact ih11 _ _ _ _ _ _ _ _ _)
   | (with_reducible exact ih12 _ _)
   | (with_reducible exact impl_AreSumps.mono _ _)
   | (with_reducible exact impl_ClosedSumps.mono _ _ _ _)
   | (with_reducible exact impl_DrownedSumps.mono _ _ _)
   | (with_reducible exact impl_IsOpen.mono _ _ _ _ _ _)
   | (with_reducible exact impl_OpenFor.mono _ _ _ _)
   | (with_reducible exact impl_OpenSpans.mono _ _ _ _ _)
   | (with_reducible exact laws_rHas.mono _ _ _)
   | (with_reducible exact laws_rInts.mono _ _ _)
   | (with_reducible exact laws_rTable.mono _ _ _)
   | (with_reducible exact spec_AreSumps.mono _ _)
   | (with_reducible exact spec_ClosedSumps.mono _ _ _ _)
   | (with_reducible exact spec_DrawClosedSumps.mono _ _)
   | (with_reducible exact spec_DrawDrownedSumps.mono _ _)
   | (with_reducible exact spec_DrawIsOpen.mono _ _)
   | (with_reducible exact spec_DrawOpenFor.mono _ _)
   | (with_reducible exact spec_DrownedSumps.mono _ _ _)
   | (with_reducible exact spec_IsOpen.mono _ _ _ _ _ _)
   | (with_reducible exact spec_OpenFor.mono _ _ _ _)
   | (with_reducible exact spec_OpenSpans.mono _ _ _ _ _)
   | (with_reducible exact LeO.refl _)
   | (with_reducible exact LeO.none _)
   | (with_reducible refine LeO.ite ?_ ?_)
   | (with_reducible refine LeO.bind ?_ (fun _=>?_))
   | exact ih0 _ _ _ _ _ _ _ _ _
   | exact ih1 _ _ _ _ _ _
   | exact ih2 _ _ _ _ _ _ _
   | exact ih3 _ _
   | exact ih4 _ _ _ _ _ _ _
   | exact ih5 _
   | exact ih6 _ _
   | exact ih7 _ _ _ _ _
   | exact ih8 _ _ _ _ _
   | exact ih9 _ _ _ _ _ _
   | exact ih10 _ _ _ _ _ _ _ _
   | exact ih11 _ _ _ _ _ _ _ _ _
   | exact ih12 _ _
  ·intro y0 y1
   unfold laws_FnSumps.j5
   repeat' first
   | (with_reducible exact ih0 _ _ _ _ _ _ _ _ _)
   | (with_reducible exact ih1 _ _ _ _ _ _)
   | (with_reducible exact ih2 _ _ _ _ _ _ _)
   | (with_reducible exact ih3 _ _)
   | (with_reducible exact ih4 _ _ _ _ _ _ _)
   | (with_reducible exact ih5 _)
   | (with_reducible exact ih6 _ _)
   | (with_reducible exact ih7 _ _ _ _ _)
   | (with_reducible exact ih8 _ _ _ _ _)
   | (with_reducible exact ih9 _ _ _ _ _ _)
   | (with_reducible exact ih10 _ _ _ _ _ _ _ _)
   | (with_reducible exact ih11 _ _ _ _ _ _ _ _ _)
   | (with_reducible exact ih12 _ _)
   | (with_reducible exact impl_AreSumps.mono _ _)
   | (with_reducible exact impl_ClosedSumps.mono _ _ _ _)
   | (with_reducible exact impl_DrownedSumps.mono _ _ _)
   | (with_reducible exact impl_IsOpen.mono _ _ _ _ _ _)
   | (with_reducible exact impl_OpenFor.mono _ _ _ _)
   | (with_reducible exact impl_OpenSpans.mono _ _ _ _ _)
   | (with_reducible exact laws_rHas.mono _ _ _)
   | (with_reducible exact laws_rInts.mono _ _ _)
   | (with_reducible exact laws_rTable.mono _ _ _)
   | (with_reducible exact spec_AreSumps.mono _ _)
   | (with_reducible exact spec_ClosedSumps.mono _ _ _ _)
   | (with_reducible exact spec_DrawClosedSumps.mono _ _)
   | (with_reducible exact spec_DrawDrownedSumps.mono _ _)
   | (with_reducible exact spec_DrawIsOpen.mono _ _)
   | (with_reducible exact spec_DrawOpenFor.mono _ _)
   | (with_reducible exact spec_DrownedSumps.mono _ _ _)
   | (with_reducible exact spec_IsOpen.mono _ _ _ _ _ _)
   | (with_reducible exact spec_OpenFor.mono _ _ _ _)
   | (with_reducible exact spec_OpenSpans.mono _ _ _ _ _)
   | (with_reducible exact LeO.refl _)
   | (with_reducible exact LeO.none _)
   | (with_reducible refine LeO.ite ?_ ?_)
   | (with_reducible refine LeO.bind ?_ (fun _=>?_))
   | exact ih0 _ _ _ _ _ _ _ _ _
   | exact ih1 _ _ _ _ _ _
   | exact ih2 _ _ _ _ _ _ _
   | exact ih3 _ _
   | exact ih4 _ _ _ _ _ _ _
   | exact ih5 _
   | exact ih6 _ _
   | exact ih7 _ _ _ _ _
   | exact ih8 _ _ _ _ _
   | exact ih9 _ _ _ _ _ _
   | exact ih10 _ _ _ _ _ _ _ _
   | exact ih11 _ _ _ _ _ _ _ _ _
   | exact ih12 _ _
theorem laws_FnSumps.mono : ∀ a0 k,LeO (laws_FnSumps.f k a0) (laws_FnSumps.f (k + 1) a0):=by
 intro a0 k
 obtain ⟨ih0,ih1,ih2,ih3,ih4,ih5,ih6,ih7,ih8,ih9,ih10,ih11,ih12⟩:=laws_FnSumps.mono_l k
 unfold laws_FnSumps.f
 repeat' first
   | (with_reducible exact ih0 _ _ _ _ _ _ _ _ _)
   | (with_reducible exact ih1 _ _ _ _ _ _)
   | (with_reducible exact ih2 _ _ _ _ _ _ _)
   | (with_reducible exact ih3 _ _)
   | (with_reducible exact ih4 _ _ _ _ _ _ _)
   | (with_reducible exact ih5 _)
   | (with_reducible exact ih6 _ _)
   | (with_reducible exact ih7 _ _ _ _ _)
   | (with_reducible exact ih8 _ _ _ _ _)
   | (with_reducible exact ih9 _ _ _ _ _ _)
   | (with_reducible exact ih10 _ _ _ _ _ _ _ _)
   | (with_reducible exact ih11 _ _ _ _ _ _ _ _ _)
   | (with_reducible exact ih12 _ _)
   | (with_reducible exact impl_AreSumps.mono _ _)
   | (with_reducible exact impl_ClosedSumps.mono _ _ _ _)
   | (with_reducible exact impl_DrownedSumps.mono _ _ _)
   | (with_reducible exact impl_IsOpen.mono _ _ _ _ _ _)
   | (with_reducible exact impl_OpenFor.mono _ _ _ _)
   | (with_reducible exact impl_OpenSpans.mono _ _ _ _ _)
   | (with_reducible exact laws_rHas.mono _ _ _)
   | (with_reducible exact laws_rInts.mono _ _ _)
   | (with_reducible exact laws_rTable.mono _ _ _)
   | (with_reducible exact spec_AreSumps.mono _ _)
   | (with_reducible exact spec_ClosedSumps.mono _ _ _ _)
   | (with_reducible exact spec_DrawClosedSumps.mono _ _)
   | (with_reducible exact spec_DrawDrownedSumps.mono _ _)
   | (with_reducible exact spec_DrawIsOpen.mono _ _)
   | (with_reducible exact spec_DrawOpenFor.mono _ _)
   | (with_reducible exact spec_DrownedSumps.mono _ _ _)
   | (with_reducible exact spec_IsOpen.mono _ _ _ _ _ _)
   | (with_reducible exact spec_OpenFor.mono _ _ _ _)
   | (with_reducible exact spec_OpenSpans.mono _ _ _ _ _)
   | (with_reducible exact LeO.refl _)
   | (with_reducible exact LeO.none _)
   | (with_reducible refine LeO.ite ?_ ?_)
   | (with_reducible refine LeO.bind ?_ (fun _=>?_))
   | exact ih0 _ _ _ _ _ _ _ _ _
   | exact ih1 _ _ _ _ _ _
   | exact ih2 _ _ _ _ _ _ _
   | exact ih3 _ _
   | exact ih4 _ _ _ _ _ _ _
   | exact ih5 _
   | exact ih6 _ _
   | exact ih7 _ _ _ _ _
   | exact ih8 _ _ _ _ _
   | exact ih9 _ _ _ _ _ _
   | exact ih10 _ _ _ _ _ _ _ _
   | exact ih11 _ _ _ _ _ _ _ _ _
   | exact ih12 _ _
set_option maxHeartbeats 8000000 in
set_option maxRecDepth 100000 in
theorem laws_FnSumps.calls (k : Nat) (A0 : Option Addr) (c0 : Nat) (l0 : List Int) (r : Bool) (w : World) (hr0 : Kd.C (Kd.int .u8) w A0 l0.length l0) (hc0 : l0.length≤c0) (h : laws_FnSumps.f k l0=some r) :
  Calls Try.prog 6 #[.slice A0 l0.length c0] w fun e w'=>e = .returned (.bool r)∧Below w.heap.size w w':=by
 have hu44:=Try.underlying44
 have HR0:=amk hr0
 have HC0:=amk hc0
 clear hr0 hc0
 have HB:=amk (Below.refl w.heap.size w)
 have H : ((laws_rBig.f l0).bind fun t723=>(if t723=true then (some true) else ((spec_DrawIsOpen.f k l0).bind fun bt724=>((impl_IsOpen.f k bt724.1 bt724.2.1 bt724.2.2.1 bt724.2.2.2.1 bt724.2.2.2.2).bind fun bt732=>((spec_IsOpen.f k bt724.1 bt724.2.1 bt724.2.2.1 bt724.2.2.2.1 bt724.2.2.2.2).bind fun bt734=>(if (bt732.1 != bt734.1)=true then (laws_FnSumps.j0 k l0 bt724.1 bt724.2.2.2.2 bt732.1 bt732.2 true bt724.2.1 bt724.2.2.1 bt724.2.2.2.1) else (laws_FnSumps.j0 k l0 bt724.1 bt724.2.2.2.2 bt732.1 bt732.2 (bt732.2 != bt734.2) bt724.2.1 bt724.2.2.1 bt724.2.2.2.1)))))))=some r:=h
 clear h
 replace H:=obs H
 obtain ⟨t723,A20,H⟩:=H
 replace H : (if t723=true then (some true) else ((spec_DrawIsOpen.f k l0).bind fun bt724=>((impl_IsOpen.f k bt724.1 bt724.2.1 bt724.2.2.1 bt724.2.2.2.1 bt724.2.2.2.2).bind fun bt732=>((spec_IsOpen.f k bt724.1 bt724.2.1 bt724.2.2.1 bt724.2.2.2.1 bt724.2.2.2.2).bind fun bt734=>(if (bt732.1 != bt734.1)=true then (laws_FnSumps.j0 k l0 bt724.1 bt724.2.2.2.2 bt732.1 bt732.2 true bt724.2.1 bt724.2.2.1 bt724.2.2.2.1) else (laws_FnSumps.j0 k l0 bt724.1 bt724.2.2.2.2 bt732.1 bt732.2 (bt732.2 != bt734.2) bt724.2.1 bt724.2.2.1 bt724.2.2.2.1))))))=some r:=H
 have A2:=amk A20
 clear A20
 by_cases c3 : t723=true
 ·subst c3
  have H1 : (some true)=some r:=by rw [if_pos rfl] at H;exact H
  clear H
  have H:=H1
  clear H1
  obtain rfl:=Option.some.inj H
  go_enter Try.func6,Try.ntmps6
  go_wp2_with (first | (go_at_call 7;(with_reducible refine (laws_rBig.calls _ _ l0 true _ ?side1 ?side2 A2.out).mono ?_);(case side1=>exact ccc HR0.out);(case side2=>exact HC0.out);rintro e w' ⟨rfl,⟨nd,rfl⟩⟩;(try exact ddd)))
  repeat (go_quiet (first | (go_at_call 7;(with_reducible refine (laws_rBig.calls _ _ l0 true _ ?side1 ?side2 A2.out).mono ?_);(case side1=>exact ccc HR0.out);(case side2=>exact HC0.out);rintro e w' ⟨rfl,⟨nd,rfl⟩⟩;(try exact ddd)));try go_wp2_with (first | (go_at_call 7;(with_reducible refine (laws_rBig.calls _ _ l0 true _ ?side1 ?side2 A2.out).mono ?_);(case side1=>exact ccc HR0.out);(case side2=>exact HC0.out);rintro e w' ⟨rfl,⟨nd,rfl⟩⟩;(try exact ddd))))
  go_ret
  exact ⟨erw0,bel HB⟩
 ·replace c3:=Bool.eq_false_iff.mpr c3
  subst c3
  have H1 : ((spec_DrawIsOpen.f k l0).bind fun bt724=>((impl_IsOpen.f k bt724.1 bt724.2.1 bt724.2.2.1 bt724.2.2.2.1 bt724.2.2.2.2).bind fun bt732=>((spec_IsOpen.f k bt724.1 bt724.2.1 bt724.2.2.1 bt724.2.2.2.1 bt724.2.2.2.2).bind fun bt734=>(if (bt732.1 != bt734.1)=true then (laws_FnSumps.j0 k l0 bt724.1 bt724.2.2.2.2 bt732.1 bt732.2 true bt724.2.1 bt724.2.2.1 bt724.2.2.2.1) else (laws_FnSumps.j0 k l0 bt724.1 bt724.2.2.2.2 bt732.1 bt732.2 (bt732.2 != bt734.2) bt724.2.1 bt724.2.2.1 bt724.2.2.2.1)))))=some r:=by rw [if_neg (show ¬ (false=true) by decide)] at H;exact H
  clear H
  have H:=H1
  clear H1
  replace H:=obs H
  obtain ⟨⟨t724,t727,t728,t729,t730⟩,A40,H⟩:=H
  replace H : ((impl_IsOpen.f k t724 t727 t728 t729 t730).bind fun bt732=>((spec_IsOpen.f k t724 t727 t728 t729 t730).bind fun bt734=>(if (bt732.1 != bt734.1)=true then (laws_FnSumps.j0 k l0 t724 t730 bt732.1 bt732.2 true t727 t728 t729) else (laws_FnSumps.j0 k l0 t724 t730 bt732.1 bt732.2 (bt732.2 != bt734.2) t727 t728 t729))))=some r:=H
  have A4:=amk A40
  clear A40
  replace H:=obs H
  obtain ⟨⟨t732,t733⟩,A50,H⟩:=H
  replace H : ((spec_IsOpen.f k t724 t727 t728 t729 t730).bind fun bt734=>(if (t732 != bt734.1)=true then (laws_FnSumps.j0 k l0 t724 t730 t732 t733 true t727 t728 t729) else (laws_FnSumps.j0 k l0 t724 t730 t732 t733 (t733 != bt734.2) t727 t728 t729)))=some r:=H
  have A5:=amk A50
  clear A50
  replace H:=obs H
  obtain ⟨⟨t734,t735⟩,A60,H⟩:=H
  replace H : (if (t732 != t734)=true then (laws_FnSumps.j0 k l0 t724 t730 t732 t733 true t727 t728 t729) else (laws_FnSumps.j0 k l0 t724 t730 t732 t733 (t733 != t735) t727 t728 t729))=some r:=H
  have A6:=amk A60
  clear A60
  have HC7:=amk H
  clear H
  go_enter Try.func6,Try.ntmps6
  go_upto_region 6 with (first | (go_at_call 7;(with_reducible refine (laws_rBig.calls _ _ l0 false _ ?side1 ?side2 A2.out).mono ?_);(case side1=>exact ccc HR0.out);(case side2=>exact HC0.out);rintro e w' ⟨rfl,⟨nd,rfl⟩⟩;(try exact ddd))|(go_at_call 32;(with_reducible refine (spec_DrawIsOpen.calls k _ _ l0 t724 t727 t728 t729 t730 _ ?side1 ?side2 A4.out).mono ?_);(case side1=>exact ccc HR0.out);(case side2=>exact HC0.out);rintro e w8 ⟨v725,rfl,ho0,hb⟩;have HO726:=amk (Kd.R_lower ho0 (below_size (bel HB)));replace HB:=amk (below_step (bel HB) hb);(try clear hb ho0))|((with_reducible refine gate_dst (N:=4) rfl ?_);(try (refine gate_guard (by rfl) ?_;dsimp only));refine box_event ?hg (N:=4) ?hd (cs:=#[.int .i64 0,.int .i64 0,.int .i64 0]) (t:=44) ?hr ?_;(case hd=>rfl);(case hg=>rfl);(case hr=>first | (go_simp;done)|(go_simp;rfl));intro gb731 hg w9 hbox hb;replace HO726:=amk (Kd.R_below (rrr HO726) hb);have BK731:=amk (hbox);have GW731:=amk ((by rw [hg];exact (below_size (bel HB)) : w.heap.size≤gb731));have GE731:=amk ((by rw [hg];exact (below_size (bel HB)) : w.heap.size≤gb731));replace HB:=amk (below_step (bel HB) hb);clear hb hbox hg;have hcz10_0 : w9.cell? ⟨gb731,0,none⟩=some (.int .i64 0):=(blk_cell BK731.out 0).trans rfl;have hcz10_1 : w9.cell? ⟨gb731,1,none⟩=some (.int .i64 0):=(blk_cell BK731.out 1).trans rfl;have hcz10_2 : w9.cell? ⟨gb731,2,none⟩=some (.int .i64 0):=(blk_cell BK731.out 2).trans rfl;have hfz10_0:=blk_frozen BK731.out 0;have hfz10_1:=blk_frozen BK731.out 1;have hfz10_2:=blk_frozen BK731.out 2;obtain ⟨Ao11,co11,eo11⟩:=Kd.R_slice HO726.out;subst eo11)|(go_at_call 33;(with_reducible refine (impl_IsOpen.calls k _ _ t724 t727 t728 t729 t730 t732 t733 _ ?side1 ?side2 A5.out).mono ?_);(case side1=>refine (Kd.R_reads' (e:=30) (base:=w.heap.size) (ok:=fun k_=>True) (n:=t724.length) (c:=co11) ?_).2.2;exact (by (with_reducible repeat (first | apply Kd.R_alloc | apply Kd.R_drewN | apply Kd.R_drew));exact (Kd.R_mono (Kd.R_far (p:=⟨gb731,2,none⟩) (Kd.R_far (p:=⟨gb731,1,none⟩) (Kd.R_far (p:=⟨gb731,0,none⟩) (Kd.R_types HO726.out BK731.out (by decide)) (fun _ hk=>hk.2) (.int .i64 t727)) (fun _ hk=>hk.2) (.int .i64 t728)) (fun _ hk=>hk.2) (.int .i64 t729)) (fun _ h_=>h_.1))));(case side2=>exact (Kd.R_reads' HO726.out).2.1);rintro e w12 ⟨rfl,hb⟩;have n0_:=amk (Kd.R_below (by (with_reducible repeat (first | apply Kd.R_alloc | apply Kd.R_drewN | apply Kd.R_drew));exact (Kd.R_mono (Kd.R_far (p:=⟨gb731,2,none⟩) (Kd.R_far (p:=⟨gb731,1,none⟩) (Kd.R_far (p:=⟨gb731,0,none⟩) (Kd.R_types HO726.out BK731.out (by decide)) (fun _ hk=>hk.2) (.int .i64 t727)) (fun _ hk=>hk.2) (.int .i64 t728)) (fun _ hk=>hk.2) (.int .i64 t729)) (fun _ h_=>h_.1))) hb);have n1_:=amk (blk_below (g:=gb731) (o:=.cells #[.int .i64 t727,.int .i64 t728,.int .i64 t729] 44 (0,0)) (by (with_reducible repeat (first | refine blk_drewN ?_ _ | refine blk_drew ?_ | refine blk_alloc ?_ _));refine blk_put (cs:=#[.int .i64 t727,.int .i64 t728,.int .i64 0]) ?_ 2 _ rfl;(with_reducible repeat (first | refine blk_drewN ?_ _ | refine blk_drew ?_ | refine blk_alloc ?_ _));refine blk_put (cs:=#[.int .i64 t727,.int .i64 0,.int .i64 0]) ?_ 1 _ rfl;(with_reducible repeat (first | refine blk_drewN ?_ _ | refine blk_drew ?_ | refine blk_alloc ?_ _));refine blk_put (cs:=#[.int .i64 0,.int .i64 0,.int .i64 0]) ?_ 0 _ rfl;(with_reducible repeat (first | refine blk_drewN ?_ _ | refine blk_drew ?_ | refine blk_alloc ?_ _));exact BK731.out) hb);have n2_:=amk (below_step (bel1 HB GE731.out) hb);clear HO726;clear BK731;clear HB;have HO726:=n0_;have BK731:=n1_;have HB:=n2_;clear n0_ n1_ n2_;(try clear hb);have hcz13_0 : w12.cell? ⟨gb731,0,none⟩=some (.int .i64 t727):=(blk_cell BK731.out 0).trans rfl;have hcz13_1 : w12.cell? ⟨gb731,1,none⟩=some (.int .i64 t728):=(blk_cell BK731.out 1).trans rfl;have hcz13_2 : w12.cell? ⟨gb731,2,none⟩=some (.int .i64 t729):=(blk_cell BK731.out 2).trans rfl;have hfz13_0:=blk_frozen BK731.out 0;have hfz13_1:=blk_frozen BK731.out 1;have hfz13_2:=blk_frozen BK731.out 2)|(go_at_call 34;(with_reducible refine (spec_IsOpen.calls k _ _ t724 t727 t728 t729 t730 t734 t735 _ ?side1 ?side2 A6.out).mono ?_);(case side1=>exact ccc (Kd.R_reads' HO726.out).2.2);(case side2=>exact (Kd.R_reads' HO726.out).2.1);rintro e w14 ⟨rfl,hb⟩;replace HO726:=amk (Kd.R_below (rrr HO726) hb);replace BK731:=amk (blk_below (g:=gb731) (o:=.cells #[.int .i64 t727,.int .i64 t728,.int .i64 t729] 44 (0,0)) (bkk BK731) hb);replace HB:=amk (below_step (bel1 HB GE731.out) hb);(try clear hb)))
  repeat (go_quiet (first | (go_at_call 7;(with_reducible refine (laws_rBig.calls _ _ l0 false _ ?side1 ?side2 A2.out).mono ?_);(case side1=>exact ccc HR0.out);(case side2=>exact HC0.out);rintro e w' ⟨rfl,⟨nd,rfl⟩⟩;(try exact ddd))|(go_at_call 32;(with_reducible refine (spec_DrawIsOpen.calls k _ _ l0 t724 t727 t728 t729 t730 _ ?side1 ?side2 A4.out).mono ?_);(case side1=>exact ccc HR0.out);(case side2=>exact HC0.out);rintro e w8 ⟨v725,rfl,ho0,hb⟩;have HO726:=amk (Kd.R_lower ho0 (below_size (bel HB)));replace HB:=amk (below_step (bel HB) hb);(try clear hb ho0))|((with_reducible refine gate_dst (N:=4) rfl ?_);(try (refine gate_guard (by rfl) ?_;dsimp only));refine box_event ?hg (N:=4) ?hd (cs:=#[.int .i64 0,.int .i64 0,.int .i64 0]) (t:=44) ?hr ?_;(case hd=>rfl);(case hg=>rfl);(case hr=>first | (go_simp;done)|(go_simp;rfl));intro gb731 hg w9 hbox hb;replace HO726:=amk (Kd.R_below (rrr HO726) hb);have BK731:=amk (hbox);have GW731:=amk ((by rw [hg];exact (below_size (bel HB)) : w.heap.size≤gb731));have GE731:=amk ((by rw [hg];exact (below_size (bel HB)) : w.heap.size≤gb731));replace HB:=amk (below_step (bel HB) hb);clear hb hbox hg;have hcz10_0 : w9.cell? ⟨gb731,0,none⟩=some (.int .i64 0):=(blk_cell BK731.out 0).trans rfl;have hcz10_1 : w9.cell? ⟨gb731,1,none⟩=some (.int .i64 0):=(blk_cell BK731.out 1).trans rfl;have hcz10_2 : w9.cell? ⟨gb731,2,none⟩=some (.int .i64 0):=(blk_cell BK731.out 2).trans rfl;have hfz10_0:=blk_frozen BK731.out 0;have hfz10_1:=blk_frozen BK731.out 1;have hfz10_2:=blk_frozen BK731.out 2;obtain ⟨Ao11,co11,eo11⟩:=Kd.R_slice HO726.out;subst eo11)|(go_at_call 33;(with_reducible refine (impl_IsOpen.calls k _ _ t724 t727 t728 t729 t730 t732 t733 _ ?side1 ?side2 A5.out).mono ?_);(case side1=>refine (Kd.R_reads' (e:=30) (base:=w.heap.size) (ok:=fun k_=>True) (n:=t724.length) (c:=co11) ?_).2.2;exact (by (with_reducible repeat (first | apply Kd.R_alloc | apply Kd.R_drewN | apply Kd.R_drew));exact (Kd.R_mono (Kd.R_far (p:=⟨gb731,2,none⟩) (Kd.R_far (p:=⟨gb731,1,none⟩) (Kd.R_far (p:=⟨gb731,0,none⟩) (Kd.R_types HO726.out BK731.out (by decide)) (fun _ hk=>hk.2) (.int .i64 t727)) (fun _ hk=>hk.2) (.int .i64 t728)) (fun _ hk=>hk.2) (.int .i64 t729)) (fun _ h_=>h_.1))));(case side2=>exact (Kd.R_reads' HO726.out).2.1);rintro e w12 ⟨rfl,hb⟩;have n0_:=amk (Kd.R_below (by (with_reducible repeat (first | apply Kd.R_alloc | apply Kd.R_drewN | apply Kd.R_drew));exact (Kd.R_mono (Kd.R_far (p:=⟨gb731,2,none⟩) (Kd.R_far (p:=⟨gb731,1,none⟩) (Kd.R_far (p:=⟨gb731,0,none⟩) (Kd.R_types HO726.out BK731.out (by decide)) (fun _ hk=>hk.2) (.int .i64 t727)) (fun _ hk=>hk.2) (.int .i64 t728)) (fun _ hk=>hk.2) (.int .i64 t729)) (fun _ h_=>h_.1))) hb);have n1_:=amk (blk_below (g:=gb731) (o:=.cells #[.int .i64 t727,.int .i64 t728,.int .i64 t729] 44 (0,0)) (by (with_reducible repeat (first | refine blk_drewN ?_ _ | refine blk_drew ?_ | refine blk_alloc ?_ _));refine blk_put (cs:=#[.int .i64 t727,.int .i64 t728,.int .i64 0]) ?_ 2 _ rfl;(with_reducible repeat (first | refine blk_drewN ?_ _ | refine blk_drew ?_ | refine blk_alloc ?_ _));refine blk_put (cs:=#[.int .i64 t727,.int .i64 0,.int .i64 0]) ?_ 1 _ rfl;(with_reducible repeat (first | refine blk_drewN ?_ _ | refine blk_drew ?_ | refine blk_alloc ?_ _));refine blk_put (cs:=#[.int .i64 0,.int .i64 0,.int .i64 0]) ?_ 0 _ rfl;(with_reducible repeat (first | refine blk_drewN ?_ _ | refine blk_drew ?_ | refine blk_alloc ?_ _));exact BK731.out) hb);have n2_:=amk (below_step (bel1 HB GE731.out) hb);clear HO726;clear BK731;clear HB;have HO726:=n0_;have BK731:=n1_;have HB:=n2_;clear n0_ n1_ n2_;(try clear hb);have hcz13_0 : w12.cell? ⟨gb731,0,none⟩=some (.int .i64 t727):=(blk_cell BK731.out 0).trans rfl;have hcz13_1 : w12.cell? ⟨gb731,1,none⟩=some (.int .i64 t728):=(blk_cell BK731.out 1).trans rfl;have hcz13_2 : w12.cell? ⟨gb731,2,none⟩=some (.int .i64 t729):=(blk_cell BK731.out 2).trans rfl;have hfz13_0:=blk_frozen BK731.out 0;have hfz13_1:=blk_frozen BK731.out 1;have hfz13_2:=blk_frozen BK731.out 2)|(go_at_call 34;(with_reducible refine (spec_IsOpen.calls k _ _ t724 t727 t728 t729 t730 t734 t735 _ ?side1 ?side2 A6.out).mono ?_);(case side1=>exact ccc (Kd.R_reads' HO726.out).2.2);(case side2=>exact (Kd.R_reads' HO726.out).2.1);rintro e w14 ⟨rfl,hb⟩;replace HO726:=amk (Kd.R_below (rrr HO726) hb);replace BK731:=amk (blk_below (g:=gb731) (o:=.cells #[.int .i64 t727,.int .i64 t728,.int .i64 t729] 44 (0,0)) (bkk BK731) hb);replace HB:=amk (below_step (bel1 HB GE731.out) hb);(try clear hb)));go_upto_region 6 with (first | (go_at_call 7;(with_reducible refine (laws_rBig.calls _ _ l0 false _ ?side1 ?side2 A2.out).mono ?_);(case side1=>exact ccc HR0.out);(case side2=>exact HC0.out);rintro e w' ⟨rfl,⟨nd,rfl⟩⟩;(try exact ddd))|(go_at_call 32;(with_reducible refine (spec_DrawIsOpen.calls k _ _ l0 t724 t727 t728 t729 t730 _ ?side1 ?side2 A4.out).mono ?_);(case side1=>exact ccc HR0.out);(case side2=>exact HC0.out);rintro e w8 ⟨v725,rfl,ho0,hb⟩;have HO726:=amk (Kd.R_lower ho0 (below_size (bel HB)));replace HB:=amk (below_step (bel HB) hb);(try clear hb ho0))|((with_reducible refine gate_dst (N:=4) rfl ?_);(try (refine gate_guard (by rfl) ?_;dsimp only));refine box_event ?hg (N:=4) ?hd (cs:=#[.int .i64 0,.int .i64 0,.int .i64 0]) (t:=44) ?hr ?_;(case hd=>rfl);(case hg=>rfl);(case hr=>first | (go_simp;done)|(go_simp;rfl));intro gb731 hg w9 hbox hb;replace HO726:=amk (Kd.R_below (rrr HO726) hb);have BK731:=amk (hbox);have GW731:=amk ((by rw [hg];exact (below_size (bel HB)) : w.heap.size≤gb731));have GE731:=amk ((by rw [hg];exact (below_size (bel HB)) : w.heap.size≤gb731));replace HB:=amk (below_step (bel HB) hb);clear hb hbox hg;have hcz10_0 : w9.cell? ⟨gb731,0,none⟩=some (.int .i64 0):=(blk_cell BK731.out 0).trans rfl;have hcz10_1 : w9.cell? ⟨gb731,1,none⟩=some (.int .i64 0):=(blk_cell BK731.out 1).trans rfl;have hcz10_2 : w9.cell? ⟨gb731,2,none⟩=some (.int .i64 0):=(blk_cell BK731.out 2).trans rfl;have hfz10_0:=blk_frozen BK731.out 0;have hfz10_1:=blk_frozen BK731.out 1;have hfz10_2:=blk_frozen BK731.out 2;obtain ⟨Ao11,co11,eo11⟩:=Kd.R_slice HO726.out;subst eo11)|(go_at_call 33;(with_reducible refine (impl_IsOpen.calls k _ _ t724 t727 t728 t729 t730 t732 t733 _ ?side1 ?side2 A5.out).mono ?_);(case side1=>refine (Kd.R_reads' (e:=30) (base:=w.heap.size) (ok:=fun k_=>True) (n:=t724.length) (c:=co11) ?_).2.2;exact (by (with_reducible repeat (first | apply Kd.R_alloc | apply Kd.R_drewN | apply Kd.R_drew));exact (Kd.R_mono (Kd.R_far (p:=⟨gb731,2,none⟩) (Kd.R_far (p:=⟨gb731,1,none⟩) (Kd.R_far (p:=⟨gb731,0,none⟩) (Kd.R_types HO726.out BK731.out (by decide)) (fun _ hk=>hk.2) (.int .i64 t727)) (fun _ hk=>hk.2) (.int .i64 t728)) (fun _ hk=>hk.2) (.int .i64 t729)) (fun _ h_=>h_.1))));(case side2=>exact (Kd.R_reads' HO726.out).2.1);rintro e w12 ⟨rfl,hb⟩;have n0_:=amk (Kd.R_below (by (with_reducible repeat (first | apply Kd.R_alloc | apply Kd.R_drewN | apply Kd.R_drew));exact (Kd.R_mono (Kd.R_far (p:=⟨gb731,2,none⟩) (Kd.R_far (p:=⟨gb731,1,none⟩) (Kd.R_far (p:=⟨gb731,0,none⟩) (Kd.R_types HO726.out BK731.out (by decide)) (fun _ hk=>hk.2) (.int .i64 t727)) (fun _ hk=>hk.2) (.int .i64 t728)) (fun _ hk=>hk.2) (.int .i64 t729)) (fun _ h_=>h_.1))) hb);have n1_:=amk (blk_below (g:=gb731) (o:=.cells #[.int .i64 t727,.int .i64 t728,.int .i64 t729] 44 (0,0)) (by (with_reducible repeat (first | refine blk_drewN ?_ _ | refine blk_drew ?_ | refine blk_alloc ?_ _));refine blk_put (cs:=#[.int .i64 t727,.int .i64 t728,.int .i64 0]) ?_ 2 _ rfl;(with_reducible repeat (first | refine blk_drewN ?_ _ | refine blk_drew ?_ | refine blk_alloc ?_ _));refine blk_put (cs:=#[.int .i64 t727,.int .i64 0,.int .i64 0]) ?_ 1 _ rfl;(with_reducible repeat (first | refine blk_drewN ?_ _ | refine blk_drew ?_ | refine blk_alloc ?_ _));refine blk_put (cs:=#[.int .i64 0,.int .i64 0,.int .i64 0]) ?_ 0 _ rfl;(with_reducible repeat (first | refine blk_drewN ?_ _ | refine blk_drew ?_ | refine blk_alloc ?_ _));exact BK731.out) hb);have n2_:=amk (below_step (bel1 HB GE731.out) hb);clear HO726;clear BK731;clear HB;have HO726:=n0_;have BK731:=n1_;have HB:=n2_;clear n0_ n1_ n2_;(try clear hb);have hcz13_0 : w12.cell? ⟨gb731,0,none⟩=some (.int .i64 t727):=(blk_cell BK731.out 0).trans rfl;have hcz13_1 : w12.cell? ⟨gb731,1,none⟩=some (.int .i64 t728):=(blk_cell BK731.out 1).trans rfl;have hcz13_2 : w12.cell? ⟨gb731,2,none⟩=some (.int .i64 t729):=(blk_cell BK731.out 2).trans rfl;have hfz13_0:=blk_frozen BK731.out 0;have hfz13_1:=blk_frozen BK731.out 1;have hfz13_2:=blk_frozen BK731.out 2)|(go_at_call 34;(with_reducible refine (spec_IsOpen.calls k _ _ t724 t727 t728 t729 t730 t734 t735 _ ?side1 ?side2 A6.out).mono ?_);(case side1=>exact ccc (Kd.R_reads' HO726.out).2.2);(case side2=>exact (Kd.R_reads' HO726.out).2.1);rintro e w14 ⟨rfl,hb⟩;replace HO726:=amk (Kd.R_below (rrr HO726) hb);replace BK731:=amk (blk_below (g:=gb731) (o:=.cells #[.int .i64 t727,.int .i64 t728,.int .i64 t729] 44 (0,0)) (bkk BK731) hb);replace HB:=amk (below_step (bel1 HB GE731.out) hb);(try clear hb))))
  (try simp only [Act.put,List.setIfInBounds_toArray,List.set_cons_zero,List.set_cons_succ])
  go_cut [73] (fun v73 wc=>∃ (kq : Nat) (x73_6 : Bool),v73 = .bool x73_6∧Aside0 (laws_FnSumps.j0 kq l0 t724 t730 t732 t733 x73_6 t727 t728 t729=some r)∧Aside0 (kq≤k)∧Aside0 (Kd.R k30 30 wc w.heap.size (fun _=>True) (.slice Ao11 t724.length co11) t724)∧Aside0 (wc.heap[gb731]? = some (.cells #[.int .i64 t727,.int .i64 t728,.int .i64 t729] 44 (0,0)))∧Aside0 (Below w.heap.size w wc))
  case first=>as_aux_lemma=>
   have H:=HC7.out
   clear HC7
   by_cases c15 : (t732 != t734)=true
   ·rw [if_pos c15] at H
    have c15b0 : (t732 != t734)=true:=c15
    (try (have c15b1 : decide (t732=t734)=false:=by simpa using c15))
    (try (have c15b2 : (t732 == t734)=false:=by simpa using c15))
    (try (have c15b3 : ¬ (t732=t734):=by simpa using c15))
    clear c15
    (first | rw [c15b0] | (simp only [i64_w,i32_w];rw [c15b0]) | skip)
    have H':=amk H
    clear H
    go_wp2
    repeat (go_quiet (fail);try go_wp2)
    go_meet
    case rel=>exact ⟨_,(true),rsd,H',⟨by first | omega | exact Nat.le_refl _⟩,⟨rrr HO726⟩,⟨by (with_reducible repeat (first | refine blk_drewN ?_ _ | refine blk_drew ?_ | refine blk_alloc ?_ _));exact BK731.out⟩,⟨bel1 HB GE731.out⟩⟩
   ·rw [if_neg c15] at H
    have c15b0 : (t732 != t734)=false:=by simpa using c15
    (try (have c15b1 : decide (t732=t734)=true:=by simpa using c15))
    (try (have c15b2 : (t732 == t734)=true:=by simpa using c15))
    clear c15
    (first | rw [c15b0] | (simp only [i64_w,i32_w];rw [c15b0]) | skip)
    have H':=amk H
    clear H
    go_wp2
    repeat (go_quiet (fail);try go_wp2)
    go_meet
    case rel=>exact ⟨_,((t733 != t735)),rsd,H',⟨by first | omega | exact Nat.le_refl _⟩,⟨rrr HO726⟩,⟨by (with_reducible repeat (first | refine blk_drewN ?_ _ | refine blk_drew ?_ | refine blk_alloc ?_ _));exact BK731.out⟩,⟨bel1 HB GE731.out⟩⟩
  case rest=>as_aux_lemma=>
   clear HC7
   try clear c1
   try clear p2
   try clear c3
   try clear c6
   try clear c15
   try clear c15b0
   try clear c15b1
   try clear c15b2
   try clear hcz10_0
   try clear hcz10_1
   try clear hcz10_2
   try clear hcz13_0
   try clear hcz13_1
   try clear hcz13_2
   try clear hfz10_0
   try clear hfz10_1
   try clear hfz10_2
   try clear hfz13_0
   try clear hfz13_1
   try clear hfz13_2
   obtain ⟨kq,x73_6,rfl,HA,HJ6,HO_3,BK731,HB⟩:=hcut
   cases kq with
   | zero=>exact absurd HA.out (by simp [laws_FnSumps.j0])
   | succ kj6=>
    have H:=HA.out
    clear HA
    simp only [laws_FnSumps.j0] at H
    by_cases c16 : x73_6=true
    ·subst c16
     have H1 : (some false)=some r:=by rw [if_pos rfl] at H;exact H
     clear H
     have H:=H1
     clear H1
     obtain rfl:=Option.some.inj H
     go_wp2
     repeat (go_quiet (fail);try go_wp2)
     go_ret
     exact ⟨erw0,bel1 HB GE731.out⟩
    ·replace c16:=Bool.eq_false_iff.mpr c16
     subst c16
     have H1 : ((impl_OpenSpans.f kj6 t724 t727 t728 t729).bind fun bt736=>((spec_OpenSpans.f kj6 t724 t727 t728 t729).bind fun bt740=>(if (bt736.2 != bt740.2)=true then (laws_FnSumps.j1 kj6 l0 t730 t732 t733 bt736.1 true) else ((laws_rTable.f kj6 bt736.1 bt740.1).bind fun t744=>(laws_FnSumps.j1 kj6 l0 t730 t732 t733 bt736.1 (!t744))))))=some r:=by rw [if_neg (show ¬ (false=true) by decide)] at H;exact H
     clear H
     have H:=H1
     clear H1
     replace H:=obs H
     obtain ⟨⟨t736,t739⟩,A170,H⟩:=H
     replace H : ((spec_OpenSpans.f kj6 t724 t727 t728 t729).bind fun bt740=>(if (t739 != bt740.2)=true then (laws_FnSumps.j1 kj6 l0 t730 t732 t733 t736 true) else ((laws_rTable.f kj6 t736 bt740.1).bind fun t744=>(laws_FnSumps.j1 kj6 l0 t730 t732 t733 t736 (!t744)))))=some r:=H
     have A17:=amk A170
     clear A170
     replace H:=obs H
     obtain ⟨⟨t740,t743⟩,A180,H⟩:=H
     replace H : (if (t739 != t743)=true then (laws_FnSumps.j1 kj6 l0 t730 t732 t733 t736 true) else ((laws_rTable.f kj6 t736 t740).bind fun t744=>(laws_FnSumps.j1 kj6 l0 t730 t732 t733 t736 (!t744))))=some r:=H
     have A18:=amk A180
     clear A180
     have HC19:=amk H
     clear H
     have hcz20_0 : wc.cell? ⟨gb731,0,none⟩=some (.int .i64 t727):=(blk_cell BK731.out 0).trans rfl
     have hcz20_1 : wc.cell? ⟨gb731,1,none⟩=some (.int .i64 t728):=(blk_cell BK731.out 1).trans rfl
     have hcz20_2 : wc.cell? ⟨gb731,2,none⟩=some (.int .i64 t729):=(blk_cell BK731.out 2).trans rfl
     have hfz20_0:=blk_frozen BK731.out 0
     have hfz20_1:=blk_frozen BK731.out 1
     have hfz20_2:=blk_frozen BK731.out 2
     go_upto_region 10 with (first | (go_at_call 21;(with_reducible refine (impl_OpenSpans.calls kj6 _ _ t724 t727 t728 t729 t736 t739 _ ?side1 ?side2 A17.out).mono ?_);(case side1=>exact ccc (Kd.R_reads' HO_3.out).2.2);(case side2=>exact (Kd.R_reads' HO_3.out).2.1);rintro e w21 ⟨v737,rfl,ho0,hb⟩;replace HO_3:=amk (Kd.R_below (rrr HO_3) hb);have HO738:=amk (Kd.S_lower ho0 (below_size (bel1 HB GE731.out)));replace BK731:=amk (blk_below (g:=gb731) (o:=.cells #[.int .i64 t727,.int .i64 t728,.int .i64 t729] 44 (0,0)) (bkk BK731) hb);replace HB:=amk (below_step (bel1 HB GE731.out) hb);(try clear hb ho0);have hcz22_0 : w21.cell? ⟨gb731,0,none⟩=some (.int .i64 t727):=(blk_cell BK731.out 0).trans rfl;have hcz22_1 : w21.cell? ⟨gb731,1,none⟩=some (.int .i64 t728):=(blk_cell BK731.out 1).trans rfl;have hcz22_2 : w21.cell? ⟨gb731,2,none⟩=some (.int .i64 t729):=(blk_cell BK731.out 2).trans rfl;have hfz22_0:=blk_frozen BK731.out 0;have hfz22_1:=blk_frozen BK731.out 1;have hfz22_2:=blk_frozen BK731.out 2)|(go_at_call 18;(with_reducible refine (spec_OpenSpans.calls kj6 _ _ t724 t727 t728 t729 t740 t743 _ ?side1 ?side2 A18.out).mono ?_);(case side1=>exact ccc (Kd.R_reads' HO_3.out).2.2);(case side2=>exact (Kd.R_reads' HO_3.out).2.1);rintro e w23 ⟨v741,rfl,ho0,hb⟩;replace HO_3:=amk (Kd.R_below (rrr HO_3) hb);have HO742:=amk (Kd.S_lower (Kd.S_new' ho0 (Kd.S_lt (sss HO738))) (below_size (bel1 HB GE731.out)));replace HO738:=amk (Kd.S_elder' (sss HO738) (Kd.S_base ho0) hb);replace BK731:=amk (blk_below (g:=gb731) (o:=.cells #[.int .i64 t727,.int .i64 t728,.int .i64 t729] 44 (0,0)) (bkk BK731) hb);replace HB:=amk (below_step (bel1 HB GE731.out) hb);(try clear hb ho0)))
     repeat (go_quiet (first | (go_at_call 21;(with_reducible refine (impl_OpenSpans.calls kj6 _ _ t724 t727 t728 t729 t736 t739 _ ?side1 ?side2 A17.out).mono ?_);(case side1=>exact ccc (Kd.R_reads' HO_3.out).2.2);(case side2=>exact (Kd.R_reads' HO_3.out).2.1);rintro e w21 ⟨v737,rfl,ho0,hb⟩;replace HO_3:=amk (Kd.R_below (rrr HO_3) hb);have HO738:=amk (Kd.S_lower ho0 (below_size (bel1 HB GE731.out)));replace BK731:=amk (blk_below (g:=gb731) (o:=.cells #[.int .i64 t727,.int .i64 t728,.int .i64 t729] 44 (0,0)) (bkk BK731) hb);replace HB:=amk (below_step (bel1 HB GE731.out) hb);(try clear hb ho0);have hcz22_0 : w21.cell? ⟨gb731,0,none⟩=some (.int .i64 t727):=(blk_cell BK731.out 0).trans rfl;have hcz22_1 : w21.cell? ⟨gb731,1,none⟩=some (.int .i64 t728):=(blk_cell BK731.out 1).trans rfl;have hcz22_2 : w21.cell? ⟨gb731,2,none⟩=some (.int .i64 t729):=(blk_cell BK731.out 2).trans rfl;have hfz22_0:=blk_frozen BK731.out 0;have hfz22_1:=blk_frozen BK731.out 1;have hfz22_2:=blk_frozen BK731.out 2)|(go_at_call 18;(with_reducible refine (spec_OpenSpans.calls kj6 _ _ t724 t727 t728 t729 t740 t743 _ ?side1 ?side2 A18.out).mono ?_);(case side1=>exact ccc (Kd.R_reads' HO_3.out).2.2);(case side2=>exact (Kd.R_reads' HO_3.out).2.1);rintro e w23 ⟨v741,rfl,ho0,hb⟩;replace HO_3:=amk (Kd.R_below (rrr HO_3) hb);have HO742:=amk (Kd.S_lower (Kd.S_new' ho0 (Kd.S_lt (sss HO738))) (below_size (bel1 HB GE731.out)));replace HO738:=amk (Kd.S_elder' (sss HO738) (Kd.S_base ho0) hb);replace BK731:=amk (blk_below (g:=gb731) (o:=.cells #[.int .i64 t727,.int .i64 t728,.int .i64 t729] 44 (0,0)) (bkk BK731) hb);replace HB:=amk (below_step (bel1 HB GE731.out) hb);(try clear hb ho0)));go_upto_region 10 with (first | (go_at_call 21;(with_reducible refine (impl_OpenSpans.calls kj6 _ _ t724 t727 t728 t729 t736 t739 _ ?side1 ?side2 A17.out).mono ?_);(case side1=>exact ccc (Kd.R_reads' HO_3.out).2.2);(case side2=>exact (Kd.R_reads' HO_3.out).2.1);rintro e w21 ⟨v737,rfl,ho0,hb⟩;replace HO_3:=amk (Kd.R_below (rrr HO_3) hb);have HO738:=amk (Kd.S_lower ho0 (below_size (bel1 HB GE731.out)));replace BK731:=amk (blk_below (g:=gb731) (o:=.cells #[.int .i64 t727,.int .i64 t728,.int .i64 t729] 44 (0,0)) (bkk BK731) hb);replace HB:=amk (below_step (bel1 HB GE731.out) hb);(try clear hb ho0);have hcz22_0 : w21.cell? ⟨gb731,0,none⟩=some (.int .i64 t727):=(blk_cell BK731.out 0).trans rfl;have hcz22_1 : w21.cell? ⟨gb731,1,none⟩=some (.int .i64 t728):=(blk_cell BK731.out 1).trans rfl;have hcz22_2 : w21.cell? ⟨gb731,2,none⟩=some (.int .i64 t729):=(blk_cell BK731.out 2).trans rfl;have hfz22_0:=blk_frozen BK731.out 0;have hfz22_1:=blk_frozen BK731.out 1;have hfz22_2:=blk_frozen BK731.out 2)|(go_at_call 18;(with_reducible refine (spec_OpenSpans.calls kj6 _ _ t724 t727 t728 t729 t740 t743 _ ?side1 ?side2 A18.out).mono ?_);(case side1=>exact ccc (Kd.R_reads' HO_3.out).2.2);(case side2=>exact (Kd.R_reads' HO_3.out).2.1);rintro e w23 ⟨v741,rfl,ho0,hb⟩;replace HO_3:=amk (Kd.R_below (rrr HO_3) hb);have HO742:=amk (Kd.S_lower (Kd.S_new' ho0 (Kd.S_lt (sss HO738))) (below_size (bel1 HB GE731.out)));replace HO738:=amk (Kd.S_elder' (sss HO738) (Kd.S_base ho0) hb);replace BK731:=amk (blk_below (g:=gb731) (o:=.cells #[.int .i64 t727,.int .i64 t728,.int .i64 t729] 44 (0,0)) (bkk BK731) hb);replace HB:=amk (below_step (bel1 HB GE731.out) hb);(try clear hb ho0))))
     (try simp only [Act.put,List.setIfInBounds_toArray,List.set_cons_zero,List.set_cons_succ])
     go_cut [94] (fun v94 wc=>∃ (kq : Nat) (x94_18 : Bool),v94 = .bool x94_18∧Aside0 (laws_FnSumps.j1 kq l0 t730 t732 t733 t736 x94_18=some r)∧Aside0 (kq≤kj6)∧Aside0 (Kd.S (Kd.slice 3 (Kd.int .i64)) 63 wc w.heap.size (fun _=>True) v737 t736)∧Aside0 (wc.heap[gb731]? = some (.cells #[.int .i64 t727,.int .i64 t728,.int .i64 t729] 44 (0,0)))∧Aside0 (Below w.heap.size w wc))
     case first=>as_aux_lemma=>
      have H:=HC19.out
      clear HC19
      by_cases c24 : (t739 != t743)=true
      ·rw [if_pos c24] at H
       have c24b0 : (t739 != t743)=true:=c24
       (try (have c24b1 : decide (t739=t743)=false:=by simpa using c24))
       (try (have c24b2 : (t739 == t743)=false:=by simpa using c24))
       (try (have c24b3 : ¬ (t739=t743):=by simpa using c24))
       clear c24
       (first | rw [c24b0] | (simp only [i64_w,i32_w];rw [c24b0]) | skip)
       have H':=amk H
       clear H
       go_wp2
       repeat (go_quiet (fail);try go_wp2)
       go_meet
       case rel=>exact ⟨_,(true),rsd,H',⟨by have:=HJ6.out;first | omega | exact Nat.le_refl _⟩,⟨by (with_reducible repeat (first | apply Kd.S_alloc | apply Kd.S_drewN | apply Kd.S_drew));exact Kd.S_mono HO738.out (fun _ hk=>trivial)⟩,⟨by (with_reducible repeat (first | refine blk_drewN ?_ _ | refine blk_drew ?_ | refine blk_alloc ?_ _));exact BK731.out⟩,⟨bel1 HB GE731.out⟩⟩
      ·rw [if_neg c24] at H
       have c24b0 : (t739 != t743)=false:=by simpa using c24
       (try (have c24b1 : decide (t739=t743)=true:=by simpa using c24))
       (try (have c24b2 : (t739 == t743)=true:=by simpa using c24))
       clear c24
       (first | rw [c24b0] | (simp only [i64_w,i32_w];rw [c24b0]) | skip)
       replace H:=obs H
       obtain ⟨t744,A250,H⟩:=H
       replace H : (laws_FnSumps.j1 kj6 l0 t730 t732 t733 t736 (!t744))=some r:=H
       have A25:=amk A250
       clear A250
       have H':=amk H
       clear H
       obtain ⟨Ao26,co26,eo26⟩:=Kd.S_slice HO738.out
       subst eo26
       obtain ⟨Ao27,co27,eo27⟩:=Kd.S_slice HO742.out
       subst eo27
       go_wp2_with (first | (go_at_call 35;(with_reducible refine (laws_rTable.calls kj6 _ _ t736 _ _ t740 t744 _ ?side1 ?side2 ?side3 ?side4 A25.out).mono ?_);(case side1=>exact ccc (Kd.S_reads' HO738.out).2.2);(case side2=>exact (Kd.S_reads' HO738.out).2.1);(case side3=>exact ccc (Kd.S_reads' HO742.out).2.2);(case side4=>exact (Kd.S_reads' HO742.out).2.1);rintro e w' ⟨rfl,⟨nd,rfl⟩⟩;(try exact ddd)))
       repeat (go_quiet (first | (go_at_call 35;(with_reducible refine (laws_rTable.calls kj6 _ _ t736 _ _ t740 t744 _ ?side1 ?side2 ?side3 ?side4 A25.out).mono ?_);(case side1=>exact ccc (Kd.S_reads' HO738.out).2.2);(case side2=>exact (Kd.S_reads' HO738.out).2.1);(case side3=>exact ccc (Kd.S_reads' HO742.out).2.2);(case side4=>exact (Kd.S_reads' HO742.out).2.1);rintro e w' ⟨rfl,⟨nd,rfl⟩⟩;(try exact ddd)));try go_wp2_with (first | (go_at_call 35;(with_reducible refine (laws_rTable.calls kj6 _ _ t736 _ _ t740 t744 _ ?side1 ?side2 ?side3 ?side4 A25.out).mono ?_);(case side1=>exact ccc (Kd.S_reads' HO738.out).2.2);(case side2=>exact (Kd.S_reads' HO738.out).2.1);(case side3=>exact ccc (Kd.S_reads' HO742.out).2.2);(case side4=>exact (Kd.S_reads' HO742.out).2.1);rintro e w' ⟨rfl,⟨nd,rfl⟩⟩;(try exact ddd))))
       go_meet
       case rel=>exact ⟨_,(!t744),rsd,H',⟨by have:=HJ6.out;first | omega | exact Nat.le_refl _⟩,⟨by (with_reducible repeat (first | apply Kd.S_alloc | apply Kd.S_drewN | apply Kd.S_drew));exact Kd.S_mono HO738.out (fun _ hk=>trivial)⟩,⟨by (with_reducible repeat (first | refine blk_drewN ?_ _ | refine blk_drew ?_ | refine blk_alloc ?_ _));exact BK731.out⟩,⟨bel1 HB GE731.out⟩⟩
     case rest=>as_aux_lemma=>
      clear HC19
      try clear c1
      try clear c2
      try clear p2
      try clear c3
      try clear c6
      try clear c15
      try clear c15b0
      try clear c15b1
      try clear c15b2
      try clear c16
      try clear c24
      try clear c24b0
      try clear c24b1
      try clear c24b2
      try clear hcz10_0
      try clear hcz10_1
      try clear hcz10_2
      try clear hcz13_0
      try clear hcz13_1
      try clear hcz13_2
      try clear hcz20_0
      try clear hcz20_1
      try clear hcz20_2
      try clear hcz22_0
      try clear hcz22_1
      try clear hcz22_2
      try clear hfz10_0
      try clear hfz10_1
      try clear hfz10_2
      try clear hfz13_0
      try clear hfz13_1
      try clear hfz13_2
      try clear hfz20_0
      try clear hfz20_1
      try clear hfz20_2
      try clear hfz22_0
      try clear hfz22_1
      try clear hfz22_2
      try clear p2
      obtain ⟨kq,x94_18,rfl,HA,HJ18,HO_10,BK731,HB⟩:=hcut
      cases kq with
      | zero=>exact absurd HA.out (by simp [laws_FnSumps.j1])
      | succ kj18=>
       have H:=HA.out
       clear HA
       simp only [laws_FnSumps.j1] at H
       by_cases c28 : x94_18=true
       ·subst c28
        have H1 : (some false)=some r:=by rw [if_pos rfl] at H;exact H
        clear H
        have H:=H1
        clear H1
        obtain rfl:=Option.some.inj H
        go_wp2
        repeat (go_quiet (fail);try go_wp2)
        go_ret
        exact ⟨erw0,bel1 HB GE731.out⟩
       ·replace c28:=Bool.eq_false_iff.mpr c28
        subst c28
        have H1 : (laws_FnSumps.l0 kj18 l0 t730 t732 t733 t736 false 0)=some r:=by rw [if_neg (show ¬ (false=true) by decide)] at H;exact H
        clear H
        have H:=H1
        clear H1
        have H':=amk H
        clear H
        go_wp2
        repeat (go_quiet (fail);try go_wp2)
        go_loopg [14,15] kj18 (fun kq v14 v15 w'=>∃ (x14_3 : Bool) (x15_3 : Int),v14 = .bool x14_3∧v15 = .int .i64 x15_3∧Aside0 (laws_FnSumps.l0 kq l0 t730 t732 t733 t736 x14_3 x15_3=some r)∧Aside0 (kq≤kj18)∧Aside0 (Kd.S (Kd.slice 3 (Kd.int .i64)) 63 w' w.heap.size (fun _=>True) v737 t736)∧Aside0 (w'.heap[gb731]? = some (.cells #[.int .i64 t727,.int .i64 t728,.int .i64 t729] 44 (0,0)))∧Aside0 (Below w.heap.size w w'))
        case atStart=>exact ⟨(false),(0),rsd,rsd,H',⟨Nat.le_refl _⟩,⟨sss HO_10⟩,⟨by (with_reducible repeat (first | refine blk_drewN ?_ _ | refine blk_drew ?_ | refine blk_alloc ?_ _));exact BK731.out⟩,⟨bel1 HB GE731.out⟩⟩
        case round=>as_aux_lemma=>
         clear H'
         try clear c1
         try clear c2
         try clear p2
         try clear c3
         try clear c6
         try clear c15
         try clear c15b0
         try clear c15b1
         try clear c15b2
         try clear c16
         try clear c24
         try clear c24b0
         try clear c24b1
         try clear c24b2
         try clear c28
         try clear hcz10_0
         try clear hcz10_1
         try clear hcz10_2
         try clear hcz13_0
         try clear hcz13_1
         try clear hcz13_2
         try clear hcz20_0
         try clear hcz20_1
         try clear hcz20_2
         try clear hcz22_0
         try clear hcz22_1
         try clear hcz22_2
         try clear hfz10_0
         try clear hfz10_1
         try clear hfz10_2
         try clear hfz13_0
         try clear hfz13_1
         try clear hfz13_2
         try clear hfz20_0
         try clear hfz20_1
         try clear hfz20_2
         try clear hfz22_0
         try clear hfz22_1
         try clear hfz22_2
         try clear p2
         obtain ⟨x14_3,x15_3,rfl,rfl,HA,HK3,HO_10,BK731,HB⟩:=hrel
         cases gk with
         | zero=>exact absurd HA.out (by simp [laws_FnSumps.l0])
         | succ k3=>
          have H:=HA.out
          clear HA
          simp only [laws_FnSumps.l0] at H
          by_cases c29 : x15_3 < (t736.length : Int)
          ·rw [if_pos c29] at H
           have c29b0 : decide (x15_3 < (t736.length : Int))=true:=decide_eq_true c29
           clear c29
           by_cases c30 : x14_3=true
           ·subst c30
            have H1 : (laws_FnSumps.l0 k3 l0 t730 t732 t733 t736 true (wrap64 (x15_3 + 1)))=some r:=by rw [if_pos rfl] at H;exact H
            clear H
            have H:=H1
            clear H1
            have H':=amk H
            clear H
            obtain ⟨Ao31,co31,eo31⟩:=Kd.S_slice HO_10.out
            subst eo31
            go_wp2
            repeat (go_quiet (fail);try go_wp2)
            go_roundg k3
            case measure=>have:=HJ6.out;have:=HJ18.out;have:=HK3.out;omega
            case rel=>exact ⟨(true),(wrap64 (x15_3 + 1)),rsd,rsd,H',⟨by have:=HJ6.out;have:=HJ18.out;have:=HK3.out;omega⟩,⟨sss HO_10⟩,⟨by (with_reducible repeat (first | refine blk_drewN ?_ _ | refine blk_drew ?_ | refine blk_alloc ?_ _));exact BK731.out⟩,⟨bel1 HB GE731.out⟩⟩
           ·replace c30:=Bool.eq_false_iff.mpr c30
            subst c30
            have H1 : (if 0≤x15_3 then (if 0 < ((rd_L4 t736 x15_3).length : Int) then (if t730 ≥ (rd (rd_L4 t736 x15_3) 0) then (if 1 < ((rd_L4 t736 x15_3).length : Int) then (laws_FnSumps.l0 k3 l0 t730 t732 t733 t736 (decide (t730≤(rd (rd_L4 t736 x15_3) 1))) (wrap64 (x15_3 + 1))) else (none)) else (laws_FnSumps.l0 k3 l0 t730 t732 t733 t736 false (wrap64 (x15_3 + 1)))) else (none)) else (none))=some r:=by rw [if_neg (show ¬ (false=true) by decide)] at H;exact H
            clear H
            have H:=H1
            clear H1
            by_cases c32 : 0≤x15_3
            ·rw [if_pos c32] at H
             have c32b0 : decide (0≤x15_3)=true:=decide_eq_true c32
             clear c32
             by_cases c33 : 0 < ((rd_L4 t736 x15_3).length : Int)
             ·rw [if_pos c33] at H
              have c33b0 : decide (0 < ((rd_L4 t736 x15_3).length : Int))=true:=decide_eq_true c33
              have c33b1 : decide (0 < (rd_L4 t736 x15_3).length)=true:=decide_eq_true (by omega)
              clear c33
              by_cases c34 : t730 ≥ (rd (rd_L4 t736 x15_3) 0)
              ·rw [if_pos c34] at H
               have c34b0 : decide ((rd (rd_L4 t736 x15_3) 0)≤t730)=true:=decide_eq_true c34
               clear c34
               by_cases c35 : 1 < ((rd_L4 t736 x15_3).length : Int)
               ·rw [if_pos c35] at H
                have c35b0 : decide (1 < ((rd_L4 t736 x15_3).length : Int))=true:=decide_eq_true c35
                have c35b1 : decide (1 < (rd_L4 t736 x15_3).length)=true:=decide_eq_true (by omega)
                clear c35
                have H':=amk H
                clear H
                obtain ⟨Ao36,co36,eo36⟩:=Kd.S_slice HO_10.out
                subst eo36
                have p745 : 0≤(x15_3 : Int):=of_decide_eq_true ass
                have q745 : x15_3 < (t736.length : Int):=of_decide_eq_true ass
                obtain ⟨ad745,A745_0,c745_0,e745,hx745_0,hl745_0,hi745_0⟩:=at_L4 (Kd.S_reads' HO_10.out).2.2 x15_3 p745 q745
                cases e745
                obtain ⟨ce745,hce745,hMe745,hcc745⟩:=Kd.S_get HO_10.out [] x15_3 p745 (by first | exact q745 | exact of_decide_eq_true ass | (have e_:=(Kd.S_reads' HO_10.out).1;omega))
                obtain ⟨ve745_0,rfl,ge745_0⟩:=hMe745
                have hv745_0:=hcc745 0 _ rfl
                rw [Nat.add_zero,show ((Kd.slice 3 (Kd.int .i64))).sz=1 from rfl,Nat.mul_one] at hv745_0
                replace hv745_0:=Option.some.inj (hv745_0.symm.trans hx745_0)
                rw [hv745_0] at ge745_0
                have HL745_0:=amk (show Kd.R (Kd.int .i64) 3 _ _ _ _ (rd_L4 t736 x15_3) from ge745_0)
                clear hv745_0 ge745_0
                clear hcc745 hce745
                have HR745_0:=amk hi745_0
                have HC745_0:=amk hl745_0
                clear hi745_0 hl745_0
                replace p745:=eq_true p745
                replace q745:=eq_true q745
                have p746 : 0≤(0 : Int):=(by omega)
                have q746 : 0 < ((rd_L4 t736 x15_3).length : Int):=of_decide_eq_true ass
                obtain ⟨ad746,e746,hx746_0⟩:=Kd.at_int (by repeat (first | (with_reducible exact HR745_0.out)|(with_reducible refine Kd.C_alloc ?_ _)|(with_reducible refine Kd.C_drewN ?_ _)|(with_reducible refine Kd.C_drew ?_) | exact HR745_0.out)) 0 p746 q746
                cases e746
                have qi746 : (0 < (rd_L4 t736 x15_3).length)=True:=eq_true (by omega)
                (try rw [show ((0 : Int)).toNat=0 from rfl] at hx746_0)
                (try rw [Addr.add_zero'] at hx746_0)
                replace p746:=eq_true p746
                replace q746:=eq_true q746
                have p747 : 0≤(x15_3 : Int):=of_decide_eq_true ass
                have q747 : x15_3 < (t736.length : Int):=of_decide_eq_true ass
                obtain ⟨ad747,A747_0,c747_0,e747,hx747_0,hl747_0,hi747_0⟩:=at_L4 (Kd.S_reads' HO_10.out).2.2 x15_3 p747 q747
                obtain rfl : ad745=ad747:=(by injection e747)
                obtain ⟨ce747,hce747,hMe747,hcc747⟩:=Kd.S_get HO_10.out [] x15_3 p747 (by first | exact q747 | exact of_decide_eq_true ass | (have e_:=(Kd.S_reads' HO_10.out).1;omega))
                obtain ⟨ve747_0,rfl,ge747_0⟩:=hMe747
                have hv747_0:=hcc747 0 _ rfl
                rw [Nat.add_zero,show ((Kd.slice 3 (Kd.int .i64))).sz=1 from rfl,Nat.mul_one] at hv747_0
                replace hv747_0:=Option.some.inj (hv747_0.symm.trans hx747_0)
                rw [hv747_0] at ge747_0
                have HL747_0:=amk (show Kd.R (Kd.int .i64) 3 _ _ _ _ (rd_L4 t736 x15_3) from ge747_0)
                clear hv747_0 ge747_0
                clear hcc747 hce747
                have HR747_0:=amk hi747_0
                have HC747_0:=amk hl747_0
                clear hi747_0 hl747_0
                replace p747:=eq_true p747
                replace q747:=eq_true q747
                have ea_:=Option.some.inj (hx745_0.symm.trans hx747_0)
                injection ea_ with ea_ en_ ec_
                subst ea_
                subst ec_
                clear en_
                have p748 : 0≤(1 : Int):=(by omega)
                have q748 : 1 < ((rd_L4 t736 x15_3).length : Int):=of_decide_eq_true ass
                obtain ⟨ad748,e748,hx748_0⟩:=Kd.at_int (by repeat (first | (with_reducible exact HR747_0.out)|(with_reducible refine Kd.C_alloc ?_ _)|(with_reducible refine Kd.C_drewN ?_ _)|(with_reducible refine Kd.C_drew ?_) | exact HR747_0.out)) 1 p748 q748
                cases e748
                (try simp only [show (1 : Int).toNat=1 from rfl,Nat.reduceMul,Nat.reduceEqDiff,Go.Addr.add,↓reduceIte] at hx748_0)
                have qi748 : (1 < (rd_L4 t736 x15_3).length)=True:=eq_true (by omega)
                (try rw [show ((1 : Int)).toNat=1 from rfl] at hx748_0)
                replace p748:=eq_true p748
                replace q748:=eq_true q748
                go_wp2
                repeat (go_quiet (fail);try go_wp2)
                go_roundg k3
                case measure=>have:=HJ6.out;have:=HJ18.out;have:=HK3.out;omega
                case rel=>exact ⟨(decide (t730≤(rd (rd_L4 t736 x15_3) 1))),(wrap64 (x15_3 + 1)),rsd,rsd,H',⟨by have:=HJ6.out;have:=HJ18.out;have:=HK3.out;omega⟩,⟨sss HO_10⟩,⟨by (with_reducible repeat (first | refine blk_drewN ?_ _ | refine blk_drew ?_ | refine blk_alloc ?_ _));exact BK731.out⟩,⟨bel1 HB GE731.out⟩⟩
               ·rw [if_neg c35] at H
                exact absurd H (by simp)
              ·rw [if_neg c34] at H
               have c34b0 : decide ((rd (rd_L4 t736 x15_3) 0)≤t730)=false:=decide_eq_false c34
               clear c34
               have H':=amk H
               clear H
               obtain ⟨Ao37,co37,eo37⟩:=Kd.S_slice HO_10.out
               subst eo37
               have p745 : 0≤(x15_3 : Int):=of_decide_eq_true ass
               have q745 : x15_3 < (t736.length : Int):=of_decide_eq_true ass
               obtain ⟨ad745,A745_0,c745_0,e745,hx745_0,hl745_0,hi745_0⟩:=at_L4 (Kd.S_reads' HO_10.out).2.2 x15_3 p745 q745
               cases e745
               obtain ⟨ce745,hce745,hMe745,hcc745⟩:=Kd.S_get HO_10.out [] x15_3 p745 (by first | exact q745 | exact of_decide_eq_true ass | (have e_:=(Kd.S_reads' HO_10.out).1;omega))
               obtain ⟨ve745_0,rfl,ge745_0⟩:=hMe745
               have hv745_0:=hcc745 0 _ rfl
               rw [Nat.add_zero,show ((Kd.slice 3 (Kd.int .i64))).sz=1 from rfl,Nat.mul_one] at hv745_0
               replace hv745_0:=Option.some.inj (hv745_0.symm.trans hx745_0)
               rw [hv745_0] at ge745_0
               have HL745_0:=amk (show Kd.R (Kd.int .i64) 3 _ _ _ _ (rd_L4 t736 x15_3) from ge745_0)
               clear hv745_0 ge745_0
               clear hcc745 hce745
               have HR745_0:=amk hi745_0
               have HC745_0:=amk hl745_0
               clear hi745_0 hl745_0
               replace p745:=eq_true p745
               replace q745:=eq_true q745
               have p746 : 0≤(0 : Int):=(by omega)
               have q746 : 0 < ((rd_L4 t736 x15_3).length : Int):=of_decide_eq_true ass
               obtain ⟨ad746,e746,hx746_0⟩:=Kd.at_int (by repeat (first | (with_reducible exact HR745_0.out)|(with_reducible refine Kd.C_alloc ?_ _)|(with_reducible refine Kd.C_drewN ?_ _)|(with_reducible refine Kd.C_drew ?_) | exact HR745_0.out)) 0 p746 q746
               cases e746
               have qi746 : (0 < (rd_L4 t736 x15_3).length)=True:=eq_true (by omega)
               (try rw [show ((0 : Int)).toNat=0 from rfl] at hx746_0)
               (try rw [Addr.add_zero'] at hx746_0)
               replace p746:=eq_true p746
               replace q746:=eq_true q746
               go_wp2
               repeat (go_quiet (fail);try go_wp2)
               go_roundg k3
               case measure=>have:=HJ6.out;have:=HJ18.out;have:=HK3.out;omega
               case rel=>exact ⟨(false),(wrap64 (x15_3 + 1)),rsd,rsd,H',⟨by have:=HJ6.out;have:=HJ18.out;have:=HK3.out;omega⟩,⟨sss HO_10⟩,⟨by (with_reducible repeat (first | refine blk_drewN ?_ _ | refine blk_drew ?_ | refine blk_alloc ?_ _));exact BK731.out⟩,⟨bel1 HB GE731.out⟩⟩
             ·rw [if_neg c33] at H
              exact absurd H (by simp)
            ·rw [if_neg c32] at H
             exact absurd H (by simp)
          ·rw [if_neg c29] at H
           have c29b0 : decide (x15_3 < (t736.length : Int))=false:=decide_eq_false c29
           clear c29
           have HC38:=amk H
           clear H
           obtain ⟨Ao39,co39,eo39⟩:=Kd.S_slice HO_10.out
           subst eo39
           go_upto_region 17 with (fail)
           repeat (go_quiet (fail);go_upto_region 17 with (fail))
           go_cut [127] (fun v127 wc=>∃ (kq : Nat) (x127_37 : Bool),v127 = .bool x127_37∧Aside0 (laws_FnSumps.j3 kq l0 x127_37=some r)∧Aside0 (kq≤k3)∧Aside0 (wc.heap[gb731]? = some (.cells #[.int .i64 t727,.int .i64 t728,.int .i64 t729] 44 (0,0)))∧Aside0 (Below w.heap.size w wc))
           case first=>as_aux_lemma=>
            have H:=HC38.out
            clear HC38
            by_cases c40 : t733=true
            ·subst c40
             have H1 : (laws_FnSumps.j3 k3 l0 (x14_3 != t732))=some r:=by rw [if_pos rfl] at H;exact H
             clear H
             have H:=H1
             clear H1
             have H':=amk H
             clear H
             go_wp2
             repeat (go_quiet (fail);try go_wp2)
             go_meet
             case rel=>exact ⟨_,((x14_3 != t732)),rsd,H',⟨by have:=HJ6.out;have:=HJ18.out;have:=HK3.out;first | omega | exact Nat.le_refl _⟩,⟨by (with_reducible repeat (first | refine blk_drewN ?_ _ | refine blk_drew ?_ | refine blk_alloc ?_ _));exact BK731.out⟩,⟨bel1 HB GE731.out⟩⟩
            ·replace c40:=Bool.eq_false_iff.mpr c40
             subst c40
             have H1 : (laws_FnSumps.j3 k3 l0 false)=some r:=by rw [if_neg (show ¬ (false=true) by decide)] at H;exact H
             clear H
             have H:=H1
             clear H1
             have H':=amk H
             clear H
             go_wp2
             repeat (go_quiet (fail);try go_wp2)
             go_meet
             case rel=>exact ⟨_,(false),rsd,H',⟨by have:=HJ6.out;have:=HJ18.out;have:=HK3.out;first | omega | exact Nat.le_refl _⟩,⟨by (with_reducible repeat (first | refine blk_drewN ?_ _ | refine blk_drew ?_ | refine blk_alloc ?_ _));exact BK731.out⟩,⟨bel1 HB GE731.out⟩⟩
           case rest=>as_aux_lemma=>
            clear HC38
            try clear c1
            try clear c2
            try clear p2
            try clear c3
            try clear c4
            try clear c6
            try clear p6
            try clear c7
            try clear p7
            try clear q7
            try clear hx7
            try clear qi7
            try clear c15
            try clear c15b0
            try clear c15b1
            try clear c15b2
            try clear c16
            try clear c24
            try clear c24b0
            try clear c24b1
            try clear c24b2
            try clear c28
            try clear c29
            try clear c29b0
            try clear c30
            try clear c32
            try clear c32b0
            try clear c33
            try clear c33b0
            try clear c33b1
            try clear c34
            try clear c34b0
            try clear c35
            try clear c35b0
            try clear c35b1
            try clear c40
            try clear hcz10_0
            try clear hcz10_1
            try clear hcz10_2
            try clear hcz13_0
            try clear hcz13_1
            try clear hcz13_2
            try clear hcz20_0
            try clear hcz20_1
            try clear hcz20_2
            try clear hcz22_0
            try clear hcz22_1
            try clear hcz22_2
            try clear hfz10_0
            try clear hfz10_1
            try clear hfz10_2
            try clear hfz13_0
            try clear hfz13_1
            try clear hfz13_2
            try clear hfz20_0
            try clear hfz20_1
            try clear hfz20_2
            try clear hfz22_0
            try clear hfz22_1
            try clear hfz22_2
            try clear hx745_0
            try clear hx746_0
            try clear hx747_0
            try clear hx748_0
            try clear p2
            try clear p745
            try clear p746
            try clear p747
            try clear p748
            try clear q745
            try clear q746
            try clear q747
            try clear q748
            obtain ⟨kq,x127_37,rfl,HA,HJ37,BK731,HB⟩:=hcut
            cases kq with
            | zero=>exact absurd HA.out (by simp [laws_FnSumps.j3])
            | succ kj37=>
             have H:=HA.out
             clear HA
             simp only [laws_FnSumps.j3] at H
             by_cases c41 : x127_37=true
             ·subst c41
              have H1 : (some false)=some r:=by rw [if_pos rfl] at H;exact H
              clear H
              have H:=H1
              clear H1
              obtain rfl:=Option.some.inj H
              go_wp2
              repeat (go_quiet (fail);try go_wp2)
              go_ret
              exact ⟨erw0,bel1 HB GE731.out⟩
             ·replace c41:=Bool.eq_false_iff.mpr c41
              subst c41
              have H1 : ((spec_DrawOpenFor.f kj37 l0).bind fun bt749=>((impl_OpenFor.f kj37 bt749.1 bt749.2.1 bt749.2.2).bind fun bt756=>((spec_OpenFor.f kj37 bt749.1 bt749.2.1 bt749.2.2).bind fun bt758=>(if bt756.1=bt758.1 then (laws_FnSumps.j4 kj37 l0 bt749.1 bt749.2.1 bt749.2.2 bt756.1 bt756.2 (bt756.2 != bt758.2)) else (laws_FnSumps.j4 kj37 l0 bt749.1 bt749.2.1 bt749.2.2 bt756.1 bt756.2 true)))))=some r:=by rw [if_neg (show ¬ (false=true) by decide)] at H;exact H
              clear H
              have H:=H1
              clear H1
              replace H:=obs H
              obtain ⟨⟨t749,t750,t751⟩,A420,H⟩:=H
              replace H : ((impl_OpenFor.f kj37 t749 t750 t751).bind fun bt756=>((spec_OpenFor.f kj37 t749 t750 t751).bind fun bt758=>(if bt756.1=bt758.1 then (laws_FnSumps.j4 kj37 l0 t749 t750 t751 bt756.1 bt756.2 (bt756.2 != bt758.2)) else (laws_FnSumps.j4 kj37 l0 t749 t750 t751 bt756.1 bt756.2 true))))=some r:=H
              have A42:=amk A420
              clear A420
              replace H:=obs H
              obtain ⟨⟨t756,t757⟩,A430,H⟩:=H
              replace H : ((spec_OpenFor.f kj37 t749 t750 t751).bind fun bt758=>(if t756=bt758.1 then (laws_FnSumps.j4 kj37 l0 t749 t750 t751 t756 t757 (t757 != bt758.2)) else (laws_FnSumps.j4 kj37 l0 t749 t750 t751 t756 t757 true)))=some r:=H
              have A43:=amk A430
              clear A430
              replace H:=obs H
              obtain ⟨⟨t758,t759⟩,A440,H⟩:=H
              replace H : (if t756=t758 then (laws_FnSumps.j4 kj37 l0 t749 t750 t751 t756 t757 (t757 != t759)) else (laws_FnSumps.j4 kj37 l0 t749 t750 t751 t756 t757 true))=some r:=H
              have A44:=amk A440
              clear A440
              have HC45:=amk H
              clear H
              go_upto_region 22 with (first | (go_at_call 36;(with_reducible refine (spec_DrawOpenFor.calls kj37 _ _ l0 t749 t750 t751 _ ?side1 ?side2 A42.out).mono ?_);(case side1=>exact ccc (Kd.C_below HR0.out HB.out));(case side2=>exact HC0.out);rintro e w46 ⟨v752,v754,rfl,ho0,ho1,hb⟩;have HO753:=amk (Kd.R_lower ho0 (below_size (bel1 HB GE731.out)));have HO755:=amk (Kd.R_lower (Kd.R_newB ho1 (g:=gb731) (o:=.cells #[.int .i64 t727,.int .i64 t728,.int .i64 t729] 44 (0,0)) (bkk BK731)) (below_size (bel1 HB GE731.out)));replace BK731:=amk (blk_below (g:=gb731) (o:=.cells #[.int .i64 t727,.int .i64 t728,.int .i64 t729] 44 (0,0)) (bkk BK731) hb);replace HB:=amk (below_step (bel1 HB GE731.out) hb);(try clear hb ho0);(try clear ho1);obtain ⟨Ao47,co47,eo47⟩:=Kd.R_slice HO753.out;subst eo47;obtain ⟨Ao48,co48,eo48⟩:=Kd.R_slice HO755.out;subst eo48)|(go_at_call 30;(with_reducible refine (impl_OpenFor.calls kj37 _ _ t749 _ _ t750 t751 t756 t757 _ ?side1 ?side2 ?side3 ?side4 A43.out).mono ?_);(case side1=>exact ccc (Kd.R_reads' HO753.out).2.2);(case side2=>exact (Kd.R_reads' HO753.out).2.1);(case side3=>exact ccc (Kd.R_reads' HO755.out).2.2);(case side4=>exact (Kd.R_reads' HO755.out).2.1);rintro e w49 ⟨rfl,hb⟩;replace HO753:=amk (Kd.R_below (rrr HO753) hb);replace HO755:=amk (Kd.R_below (rrr HO755) hb);replace BK731:=amk (blk_below (g:=gb731) (o:=.cells #[.int .i64 t727,.int .i64 t728,.int .i64 t729] 44 (0,0)) (bkk BK731) hb);replace HB:=amk (below_step (bel1 HB GE731.out) hb);(try clear hb))|(go_at_call 28;(with_reducible refine (spec_OpenFor.calls kj37 _ _ t749 _ _ t750 t751 t758 t759 _ ?side1 ?side2 ?side3 ?side4 A44.out).mono ?_);(case side1=>exact ccc (Kd.R_reads' HO753.out).2.2);(case side2=>exact (Kd.R_reads' HO753.out).2.1);(case side3=>exact ccc (Kd.R_reads' HO755.out).2.2);(case side4=>exact (Kd.R_reads' HO755.out).2.1);rintro e w50 ⟨rfl,hb⟩;replace HO753:=amk (Kd.R_below (rrr HO753) hb);replace HO755:=amk (Kd.R_below (rrr HO755) hb);replace BK731:=amk (blk_below (g:=gb731) (o:=.cells #[.int .i64 t727,.int .i64 t728,.int .i64 t729] 44 (0,0)) (bkk BK731) hb);replace HB:=amk (below_step (bel1 HB GE731.out) hb);(try clear hb)))
              repeat (go_quiet (first | (go_at_call 36;(with_reducible refine (spec_DrawOpenFor.calls kj37 _ _ l0 t749 t750 t751 _ ?side1 ?side2 A42.out).mono ?_);(case side1=>exact ccc (Kd.C_below HR0.out HB.out));(case side2=>exact HC0.out);rintro e w46 ⟨v752,v754,rfl,ho0,ho1,hb⟩;have HO753:=amk (Kd.R_lower ho0 (below_size (bel1 HB GE731.out)));have HO755:=amk (Kd.R_lower (Kd.R_newB ho1 (g:=gb731) (o:=.cells #[.int .i64 t727,.int .i64 t728,.int .i64 t729] 44 (0,0)) (bkk BK731)) (below_size (bel1 HB GE731.out)));replace BK731:=amk (blk_below (g:=gb731) (o:=.cells #[.int .i64 t727,.int .i64 t728,.int .i64 t729] 44 (0,0)) (bkk BK731) hb);replace HB:=amk (below_step (bel1 HB GE731.out) hb);(try clear hb ho0);(try clear ho1);obtain ⟨Ao47,co47,eo47⟩:=Kd.R_slice HO753.out;subst eo47;obtain ⟨Ao48,co48,eo48⟩:=Kd.R_slice HO755.out;subst eo48)|(go_at_call 30;(with_reducible refine (impl_OpenFor.calls kj37 _ _ t749 _ _ t750 t751 t756 t757 _ ?side1 ?side2 ?side3 ?side4 A43.out).mono ?_);(case side1=>exact ccc (Kd.R_reads' HO753.out).2.2);(case side2=>exact (Kd.R_reads' HO753.out).2.1);(case side3=>exact ccc (Kd.R_reads' HO755.out).2.2);(case side4=>exact (Kd.R_reads' HO755.out).2.1);rintro e w49 ⟨rfl,hb⟩;replace HO753:=amk (Kd.R_below (rrr HO753) hb);replace HO755:=amk (Kd.R_below (rrr HO755) hb);replace BK731:=amk (blk_below (g:=gb731) (o:=.cells #[.int .i64 t727,.int .i64 t728,.int .i64 t729] 44 (0,0)) (bkk BK731) hb);replace HB:=amk (below_step (bel1 HB GE731.out) hb);(try clear hb))|(go_at_call 28;(with_reducible refine (spec_OpenFor.calls kj37 _ _ t749 _ _ t750 t751 t758 t759 _ ?side1 ?side2 ?side3 ?side4 A44.out).mono ?_);(case side1=>exact ccc (Kd.R_reads' HO753.out).2.2);(case side2=>exact (Kd.R_reads' HO753.out).2.1);(case side3=>exact ccc (Kd.R_reads' HO755.out).2.2);(case side4=>exact (Kd.R_reads' HO755.out).2.1);rintro e w50 ⟨rfl,hb⟩;replace HO753:=amk (Kd.R_below (rrr HO753) hb);replace HO755:=amk (Kd.R_below (rrr HO755) hb);replace BK731:=amk (blk_below (g:=gb731) (o:=.cells #[.int .i64 t727,.int .i64 t728,.int .i64 t729] 44 (0,0)) (bkk BK731) hb);replace HB:=amk (below_step (bel1 HB GE731.out) hb);(try clear hb)));go_upto_region 22 with (first | (go_at_call 36;(with_reducible refine (spec_DrawOpenFor.calls kj37 _ _ l0 t749 t750 t751 _ ?side1 ?side2 A42.out).mono ?_);(case side1=>exact ccc (Kd.C_below HR0.out HB.out));(case side2=>exact HC0.out);rintro e w46 ⟨v752,v754,rfl,ho0,ho1,hb⟩;have HO753:=amk (Kd.R_lower ho0 (below_size (bel1 HB GE731.out)));have HO755:=amk (Kd.R_lower (Kd.R_newB ho1 (g:=gb731) (o:=.cells #[.int .i64 t727,.int .i64 t728,.int .i64 t729] 44 (0,0)) (bkk BK731)) (below_size (bel1 HB GE731.out)));replace BK731:=amk (blk_below (g:=gb731) (o:=.cells #[.int .i64 t727,.int .i64 t728,.int .i64 t729] 44 (0,0)) (bkk BK731) hb);replace HB:=amk (below_step (bel1 HB GE731.out) hb);(try clear hb ho0);(try clear ho1);obtain ⟨Ao47,co47,eo47⟩:=Kd.R_slice HO753.out;subst eo47;obtain ⟨Ao48,co48,eo48⟩:=Kd.R_slice HO755.out;subst eo48)|(go_at_call 30;(with_reducible refine (impl_OpenFor.calls kj37 _ _ t749 _ _ t750 t751 t756 t757 _ ?side1 ?side2 ?side3 ?side4 A43.out).mono ?_);(case side1=>exact ccc (Kd.R_reads' HO753.out).2.2);(case side2=>exact (Kd.R_reads' HO753.out).2.1);(case side3=>exact ccc (Kd.R_reads' HO755.out).2.2);(case side4=>exact (Kd.R_reads' HO755.out).2.1);rintro e w49 ⟨rfl,hb⟩;replace HO753:=amk (Kd.R_below (rrr HO753) hb);replace HO755:=amk (Kd.R_below (rrr HO755) hb);replace BK731:=amk (blk_below (g:=gb731) (o:=.cells #[.int .i64 t727,.int .i64 t728,.int .i64 t729] 44 (0,0)) (bkk BK731) hb);replace HB:=amk (below_step (bel1 HB GE731.out) hb);(try clear hb))|(go_at_call 28;(with_reducible refine (spec_OpenFor.calls kj37 _ _ t749 _ _ t750 t751 t758 t759 _ ?side1 ?side2 ?side3 ?side4 A44.out).mono ?_);(case side1=>exact ccc (Kd.R_reads' HO753.out).2.2);(case side2=>exact (Kd.R_reads' HO753.out).2.1);(case side3=>exact ccc (Kd.R_reads' HO755.out).2.2);(case side4=>exact (Kd.R_reads' HO755.out).2.1);rintro e w50 ⟨rfl,hb⟩;replace HO753:=amk (Kd.R_below (rrr HO753) hb);replace HO755:=amk (Kd.R_below (rrr HO755) hb);replace BK731:=amk (blk_below (g:=gb731) (o:=.cells #[.int .i64 t727,.int .i64 t728,.int .i64 t729] 44 (0,0)) (bkk BK731) hb);replace HB:=amk (below_step (bel1 HB GE731.out) hb);(try clear hb))))
              (try simp only [Act.put,List.setIfInBounds_toArray,List.set_cons_zero,List.set_cons_succ])
              go_cut [155] (fun v155 wc=>∃ (kq : Nat) (x155_44 : Bool),v155 = .bool x155_44∧Aside0 (laws_FnSumps.j4 kq l0 t749 t750 t751 t756 t757 x155_44=some r)∧Aside0 (kq≤kj37)∧Aside0 (Kd.R k30 30 wc w.heap.size (fun _=>True) (.slice Ao47 t749.length co47) t749)∧Aside0 (Kd.R k44 44 wc w.heap.size (fun k_=>k_ ≠ gb731) (.slice Ao48 t750.length co48) t750)∧Aside0 (wc.heap[gb731]? = some (.cells #[.int .i64 t727,.int .i64 t728,.int .i64 t729] 44 (0,0)))∧Aside0 (Below w.heap.size w wc))
              case first=>as_aux_lemma=>
               have H:=HC45.out
               clear HC45
               by_cases c51 : t756=t758
               ·rw [if_pos c51] at H
                have c51b0 : (t756 == t758)=true:=beq_iff_eq.mpr c51
                have c51b1 : (t756 != t758)=false:=bne_eq_false_iff_eq.mpr c51
                clear c51
                (first | rw [c51b0] | (simp only [i64_w,i32_w];rw [c51b0]) | skip)
                have H':=amk H
                clear H
                go_wp2
                repeat (go_quiet (fail);try go_wp2)
                go_meet
                case rel=>exact ⟨_,((t757 != t759)),rsd,H',⟨by have:=HJ6.out;have:=HJ18.out;have:=HK3.out;have:=HJ37.out;first | omega | exact Nat.le_refl _⟩,⟨rrr HO753⟩,⟨by (with_reducible repeat (first | apply Kd.R_alloc | apply Kd.R_drewN | apply Kd.R_drew));exact Kd.R_mono HO755.out (fun _ hk=>hk.2)⟩,⟨by (with_reducible repeat (first | refine blk_drewN ?_ _ | refine blk_drew ?_ | refine blk_alloc ?_ _));exact BK731.out⟩,⟨bel1 HB GE731.out⟩⟩
               ·rw [if_neg c51] at H
                have c51b0 : (t756 == t758)=false:=beq_eq_false_iff_ne.mpr c51
                have c51b1 : (t756 != t758)=true:=bne_iff_ne.mpr c51
                (first | rw [c51b0] | (simp only [i64_w,i32_w];rw [c51b0]) | skip)
                have H':=amk H
                clear H
                go_wp2
                repeat (go_quiet (fail);try go_wp2)
                go_meet
                case rel=>exact ⟨_,(true),rsd,H',⟨by have:=HJ6.out;have:=HJ18.out;have:=HK3.out;have:=HJ37.out;first | omega | exact Nat.le_refl _⟩,⟨rrr HO753⟩,⟨by (with_reducible repeat (first | apply Kd.R_alloc | apply Kd.R_drewN | apply Kd.R_drew));exact Kd.R_mono HO755.out (fun _ hk=>hk.2)⟩,⟨by (with_reducible repeat (first | refine blk_drewN ?_ _ | refine blk_drew ?_ | refine blk_alloc ?_ _));exact BK731.out⟩,⟨bel1 HB GE731.out⟩⟩
              case rest=>as_aux_lemma=>
               clear HC45
               try clear c1
               try clear c2
               try clear p2
               try clear c3
               try clear c4
               try clear c5
               try clear c6
               try clear p6
               try clear c7
               try clear p7
               try clear q7
               try clear hx7
               try clear qi7
               try clear c15
               try clear c15b0
               try clear c15b1
               try clear c15b2
               try clear c16
               try clear c24
               try clear c24b0
               try clear c24b1
               try clear c24b2
               try clear c28
               try clear c29
               try clear c29b0
               try clear c30
               try clear c32
               try clear c32b0
               try clear c33
               try clear c33b0
               try clear c33b1
               try clear c34
               try clear c34b0
               try clear c35
               try clear c35b0
               try clear c35b1
               try clear c40
               try clear c41
               try clear c51
               try clear c51b0
               try clear c51b1
               try clear hcz10_0
               try clear hcz10_1
               try clear hcz10_2
               try clear hcz13_0
               try clear hcz13_1
               try clear hcz13_2
               try clear hcz20_0
               try clear hcz20_1
               try clear hcz20_2
               try clear hcz22_0
               try clear hcz22_1
               try clear hcz22_2
               try clear hfz10_0
               try clear hfz10_1
               try clear hfz10_2
               try clear hfz13_0
               try clear hfz13_1
               try clear hfz13_2
               try clear hfz20_0
               try clear hfz20_1
               try clear hfz20_2
               try clear hfz22_0
               try clear hfz22_1
               try clear hfz22_2
               try clear hx745_0
               try clear hx746_0
               try clear hx747_0
               try clear hx748_0
               try clear p2
               try clear p6
               try clear p7
               try clear p745
               try clear p746
               try clear p747
               try clear p748
               try clear q7
               try clear q745
               try clear q746
               try clear q747
               try clear q748
               obtain ⟨kq,x155_44,rfl,HA,HJ44,HO_16,HO_17,BK731,HB⟩:=hcut
               cases kq with
               | zero=>exact absurd HA.out (by simp [laws_FnSumps.j4])
               | succ kj44=>
                have H:=HA.out
                clear HA
                simp only [laws_FnSumps.j4] at H
                by_cases c52 : x155_44=true
                ·subst c52
                 have H1 : (some false)=some r:=by rw [if_pos rfl] at H;exact H
                 clear H
                 have H:=H1
                 clear H1
                 obtain rfl:=Option.some.inj H
                 go_wp2
                 repeat (go_quiet (fail);try go_wp2)
                 go_ret
                 exact ⟨erw0,bel1 HB GE731.out⟩
                ·replace c52:=Bool.eq_false_iff.mpr c52
                 subst c52
                 have H1 : (if t757=true then ((impl_ClosedSumps.f kj44 t749 t750 t756).bind fun bt760=>((impl_ClosedSumps.f kj44 t749 t750 (wrap64 ((wrap64 (t756 + t751)) - 1))).bind fun bt764=>(if bt760.2=true then (if bt764.2=true then (if (bt760.1.length : Int)=0 then (laws_FnSumps.j5 kj44 l0 ((bt764.1.length : Int) != 0)) else (laws_FnSumps.j5 kj44 l0 true)) else (laws_FnSumps.j5 kj44 l0 true)) else (laws_FnSumps.j5 kj44 l0 true)))) else (laws_FnSumps.j6 kj44 l0))=some r:=by rw [if_neg (show ¬ (false=true) by decide)] at H;exact H
                 clear H
                 have H:=H1
                 clear H1
                 have HC53:=amk H
                 clear H
                 go_upto_if 156 with (fail)
                 repeat (go_quiet (fail);go_upto_if 156 with (fail))
                 go_cut [] (fun wc=>∃ (kq : Nat),Aside0 (laws_FnSumps.j6 kq l0=some r)∧Aside0 (kq≤kj44)∧Aside0 (wc.heap[gb731]? = some (.cells #[.int .i64 t727,.int .i64 t728,.int .i64 t729] 44 (0,0)))∧Aside0 (Below w.heap.size w wc))
                 case first=>as_aux_lemma=>
                  have H:=HC53.out
                  clear HC53
                  by_cases c54 : t757=true
                  ·subst c54
                   have H1 : ((impl_ClosedSumps.f kj44 t749 t750 t756).bind fun bt760=>((impl_ClosedSumps.f kj44 t749 t750 (wrap64 ((wrap64 (t756 + t751)) - 1))).bind fun bt764=>(if bt760.2=true then (if bt764.2=true then (if (bt760.1.length : Int)=0 then (laws_FnSumps.j5 kj44 l0 ((bt764.1.length : Int) != 0)) else (laws_FnSumps.j5 kj44 l0 true)) else (laws_FnSumps.j5 kj44 l0 true)) else (laws_FnSumps.j5 kj44 l0 true))))=some r:=by rw [if_pos rfl] at H;exact H
                   clear H
                   have H:=H1
                   clear H1
                   replace H:=obs H
                   obtain ⟨⟨t760,t761⟩,A550,H⟩:=H
                   replace H : ((impl_ClosedSumps.f kj44 t749 t750 (wrap64 ((wrap64 (t756 + t751)) - 1))).bind fun bt764=>(if t761=true then (if bt764.2=true then (if (t760.length : Int)=0 then (laws_FnSumps.j5 kj44 l0 ((bt764.1.length : Int) != 0)) else (laws_FnSumps.j5 kj44 l0 true)) else (laws_FnSumps.j5 kj44 l0 true)) else (laws_FnSumps.j5 kj44 l0 true)))=some r:=H
                   have A55:=amk A550
                   clear A550
                   replace H:=obs H
                   obtain ⟨⟨t764,t765⟩,A560,H⟩:=H
                   replace H : (if t761=true then (if t765=true then (if (t760.length : Int)=0 then (laws_FnSumps.j5 kj44 l0 ((t764.length : Int) != 0)) else (laws_FnSumps.j5 kj44 l0 true)) else (laws_FnSumps.j5 kj44 l0 true)) else (laws_FnSumps.j5 kj44 l0 true))=some r:=H
                   have A56:=amk A560
                   clear A560
                   have HC57:=amk H
                   clear H
                   go_upto_region 27 with (first | (go_at_call 37;(with_reducible refine (impl_ClosedSumps.calls kj44 _ _ t749 _ _ t750 t756 t760 t761 _ ?side1 ?side2 ?side3 ?side4 A55.out).mono ?_);(case side1=>exact ccc (Kd.R_reads' HO_16.out).2.2);(case side2=>exact (Kd.R_reads' HO_16.out).2.1);(case side3=>exact ccc (Kd.R_reads' HO_17.out).2.2);(case side4=>exact (Kd.R_reads' HO_17.out).2.1);rintro e w58 ⟨v762,rfl,ho0,hb⟩;replace HO_16:=amk (Kd.R_below (rrr HO_16) hb);replace HO_17:=amk (Kd.R_below (rrr HO_17) hb);have HO763:=amk (Kd.R_lower ho0 (below_size (bel1 HB GE731.out)));replace BK731:=amk (blk_below (g:=gb731) (o:=.cells #[.int .i64 t727,.int .i64 t728,.int .i64 t729] 44 (0,0)) (bkk BK731) hb);replace HB:=amk (below_step (bel1 HB GE731.out) hb);(try clear hb ho0))|(go_at_call 37;(with_reducible refine (impl_ClosedSumps.calls kj44 _ _ t749 _ _ t750 (wrap64 ((wrap64 (t756 + t751)) - 1)) t764 t765 _ ?side1 ?side2 ?side3 ?side4 A56.out).mono ?_);(case side1=>exact ccc (Kd.R_reads' HO_16.out).2.2);(case side2=>exact (Kd.R_reads' HO_16.out).2.1);(case side3=>exact ccc (Kd.R_reads' HO_17.out).2.2);(case side4=>exact (Kd.R_reads' HO_17.out).2.1);rintro e w59 ⟨v766,rfl,ho0,hb⟩;replace HO_16:=amk (Kd.R_below (rrr HO_16) hb);replace HO_17:=amk (Kd.R_below (rrr HO_17) hb);have HO767:=amk (Kd.R_lower (Kd.R_new' ho0 (Kd.R_lt (rrr HO763))) (below_size (bel1 HB GE731.out)));replace HO763:=amk (Kd.R_elder' (rrr HO763) (Kd.R_base ho0) hb);replace BK731:=amk (blk_below (g:=gb731) (o:=.cells #[.int .i64 t727,.int .i64 t728,.int .i64 t729] 44 (0,0)) (bkk BK731) hb);replace HB:=amk (below_step (bel1 HB GE731.out) hb);(try clear hb ho0)))
                   repeat (go_quiet (first | (go_at_call 37;(with_reducible refine (impl_ClosedSumps.calls kj44 _ _ t749 _ _ t750 t756 t760 t761 _ ?side1 ?side2 ?side3 ?side4 A55.out).mono ?_);(case side1=>exact ccc (Kd.R_reads' HO_16.out).2.2);(case side2=>exact (Kd.R_reads' HO_16.out).2.1);(case side3=>exact ccc (Kd.R_reads' HO_17.out).2.2);(case side4=>exact (Kd.R_reads' HO_17.out).2.1);rintro e w58 ⟨v762,rfl,ho0,hb⟩;replace HO_16:=amk (Kd.R_below (rrr HO_16) hb);replace HO_17:=amk (Kd.R_below (rrr HO_17) hb);have HO763:=amk (Kd.R_lower ho0 (below_size (bel1 HB GE731.out)));replace BK731:=amk (blk_below (g:=gb731) (o:=.cells #[.int .i64 t727,.int .i64 t728,.int .i64 t729] 44 (0,0)) (bkk BK731) hb);replace HB:=amk (below_step (bel1 HB GE731.out) hb);(try clear hb ho0))|(go_at_call 37;(with_reducible refine (impl_ClosedSumps.calls kj44 _ _ t749 _ _ t750 (wrap64 ((wrap64 (t756 + t751)) - 1)) t764 t765 _ ?side1 ?side2 ?side3 ?side4 A56.out).mono ?_);(case side1=>exact ccc (Kd.R_reads' HO_16.out).2.2);(case side2=>exact (Kd.R_reads' HO_16.out).2.1);(case side3=>exact ccc (Kd.R_reads' HO_17.out).2.2);(case side4=>exact (Kd.R_reads' HO_17.out).2.1);rintro e w59 ⟨v766,rfl,ho0,hb⟩;replace HO_16:=amk (Kd.R_below (rrr HO_16) hb);replace HO_17:=amk (Kd.R_below (rrr HO_17) hb);have HO767:=amk (Kd.R_lower (Kd.R_new' ho0 (Kd.R_lt (rrr HO763))) (below_size (bel1 HB GE731.out)));replace HO763:=amk (Kd.R_elder' (rrr HO763) (Kd.R_base ho0) hb);replace BK731:=amk (blk_below (g:=gb731) (o:=.cells #[.int .i64 t727,.int .i64 t728,.int .i64 t729] 44 (0,0)) (bkk BK731) hb);replace HB:=amk (below_step (bel1 HB GE731.out) hb);(try clear hb ho0)));go_upto_region 27 with (first | (go_at_call 37;(with_reducible refine (impl_ClosedSumps.calls kj44 _ _ t749 _ _ t750 t756 t760 t761 _ ?side1 ?side2 ?side3 ?side4 A55.out).mono ?_);(case side1=>exact ccc (Kd.R_reads' HO_16.out).2.2);(case side2=>exact (Kd.R_reads' HO_16.out).2.1);(case side3=>exact ccc (Kd.R_reads' HO_17.out).2.2);(case side4=>exact (Kd.R_reads' HO_17.out).2.1);rintro e w58 ⟨v762,rfl,ho0,hb⟩;replace HO_16:=amk (Kd.R_below (rrr HO_16) hb);replace HO_17:=amk (Kd.R_below (rrr HO_17) hb);have HO763:=amk (Kd.R_lower ho0 (below_size (bel1 HB GE731.out)));replace BK731:=amk (blk_below (g:=gb731) (o:=.cells #[.int .i64 t727,.int .i64 t728,.int .i64 t729] 44 (0,0)) (bkk BK731) hb);replace HB:=amk (below_step (bel1 HB GE731.out) hb);(try clear hb ho0))|(go_at_call 37;(with_reducible refine (impl_ClosedSumps.calls kj44 _ _ t749 _ _ t750 (wrap64 ((wrap64 (t756 + t751)) - 1)) t764 t765 _ ?side1 ?side2 ?side3 ?side4 A56.out).mono ?_);(case side1=>exact ccc (Kd.R_reads' HO_16.out).2.2);(case side2=>exact (Kd.R_reads' HO_16.out).2.1);(case side3=>exact ccc (Kd.R_reads' HO_17.out).2.2);(case side4=>exact (Kd.R_reads' HO_17.out).2.1);rintro e w59 ⟨v766,rfl,ho0,hb⟩;replace HO_16:=amk (Kd.R_below (rrr HO_16) hb);replace HO_17:=amk (Kd.R_below (rrr HO_17) hb);have HO767:=amk (Kd.R_lower (Kd.R_new' ho0 (Kd.R_lt (rrr HO763))) (below_size (bel1 HB GE731.out)));replace HO763:=amk (Kd.R_elder' (rrr HO763) (Kd.R_base ho0) hb);replace BK731:=amk (blk_below (g:=gb731) (o:=.cells #[.int .i64 t727,.int .i64 t728,.int .i64 t729] 44 (0,0)) (bkk BK731) hb);replace HB:=amk (below_step (bel1 HB GE731.out) hb);(try clear hb ho0))))
                   (try simp only [Act.put,List.setIfInBounds_toArray,List.set_cons_zero,List.set_cons_succ])
                   go_cut [189] (fun v189 wc=>∃ (kq : Nat) (x189_56 : Bool),v189 = .bool x189_56∧Aside0 (laws_FnSumps.j5 kq l0 x189_56=some r)∧Aside0 (kq≤kj44)∧Aside0 (wc.heap[gb731]? = some (.cells #[.int .i64 t727,.int .i64 t728,.int .i64 t729] 44 (0,0)))∧Aside0 (Below w.heap.size w wc))
                   case first=>as_aux_lemma=>
                    have H:=HC57.out
                    clear HC57
                    by_cases c60 : t761=true
                    ·subst c60
                     have H1 : (if t765=true then (if (t760.length : Int)=0 then (laws_FnSumps.j5 kj44 l0 ((t764.length : Int) != 0)) else (laws_FnSumps.j5 kj44 l0 true)) else (laws_FnSumps.j5 kj44 l0 true))=some r:=by rw [if_pos rfl] at H;exact H
                     clear H
                     have H:=H1
                     clear H1
                     by_cases c61 : t765=true
                     ·subst c61
                      have H1 : (if (t760.length : Int)=0 then (laws_FnSumps.j5 kj44 l0 ((t764.length : Int) != 0)) else (laws_FnSumps.j5 kj44 l0 true))=some r:=by rw [if_pos rfl] at H;exact H
                      clear H
                      have H:=H1
                      clear H1
                      by_cases c62 : (t760.length : Int)=0
                      ·rw [if_pos c62] at H
                       have c62b0 : ((t760.length : Int) == 0)=true:=beq_iff_eq.mpr c62
                       have c62b1 : ((t760.length : Int) != 0)=false:=bne_eq_false_iff_eq.mpr c62
                       clear c62
                       (first | rw [c62b0] | (simp only [i64_w,i32_w];rw [c62b0]) | skip)
                       have H':=amk H
                       clear H
                       obtain ⟨Ao63,co63,eo63⟩:=Kd.R_slice HO763.out
                       subst eo63
                       obtain ⟨Ao64,co64,eo64⟩:=Kd.R_slice HO767.out
                       subst eo64
                       go_wp2
                       repeat (go_quiet (fail);try go_wp2)
                       go_meet
                       case rel=>exact ⟨_,(((t764.length : Int) != 0)),rsd,H',⟨by have:=HJ6.out;have:=HJ18.out;have:=HK3.out;have:=HJ37.out;have:=HJ44.out;first | omega | exact Nat.le_refl _⟩,⟨by (with_reducible repeat (first | refine blk_drewN ?_ _ | refine blk_drew ?_ | refine blk_alloc ?_ _));exact BK731.out⟩,⟨bel1 HB GE731.out⟩⟩
                      ·rw [if_neg c62] at H
                       have c62b0 : ((t760.length : Int) == 0)=false:=beq_eq_false_iff_ne.mpr c62
                       have c62b1 : ((t760.length : Int) != 0)=true:=bne_iff_ne.mpr c62
                       have c62b2 : ¬ (t760 = []):=fun h_=>c62 (by rw [h_];rfl)
                       (first | rw [c62b0] | (simp only [i64_w,i32_w];rw [c62b0]) | skip)
                       have H':=amk H
                       clear H
                       obtain ⟨Ao65,co65,eo65⟩:=Kd.R_slice HO763.out
                       subst eo65
                       go_wp2
                       repeat (go_quiet (fail);try go_wp2)
                       go_meet
                       case rel=>exact ⟨_,(true),rsd,H',⟨by have:=HJ6.out;have:=HJ18.out;have:=HK3.out;have:=HJ37.out;have:=HJ44.out;first | omega | exact Nat.le_refl _⟩,⟨by (with_reducible repeat (first | refine blk_drewN ?_ _ | refine blk_drew ?_ | refine blk_alloc ?_ _));exact BK731.out⟩,⟨bel1 HB GE731.out⟩⟩
                     ·replace c61:=Bool.eq_false_iff.mpr c61
                      subst c61
                      have H1 : (laws_FnSumps.j5 kj44 l0 true)=some r:=by rw [if_neg (show ¬ (false=true) by decide)] at H;exact H
                      clear H
                      have H:=H1
                      clear H1
                      have H':=amk H
                      clear H
                      go_wp2
                      repeat (go_quiet (fail);try go_wp2)
                      go_meet
                      case rel=>exact ⟨_,(true),rsd,H',⟨by have:=HJ6.out;have:=HJ18.out;have:=HK3.out;have:=HJ37.out;have:=HJ44.out;first | omega | exact Nat.le_refl _⟩,⟨by (with_reducible repeat (first | refine blk_drewN ?_ _ | refine blk_drew ?_ | refine blk_alloc ?_ _));exact BK731.out⟩,⟨bel1 HB GE731.out⟩⟩
                    ·replace c60:=Bool.eq_false_iff.mpr c60
                     subst c60
                     have H1 : (laws_FnSumps.j5 kj44 l0 true)=some r:=by rw [if_neg (show ¬ (false=true) by decide)] at H;exact H
                     clear H
                     have H:=H1
                     clear H1
                     have H':=amk H
                     clear H
                     go_wp2
                     repeat (go_quiet (fail);try go_wp2)
                     go_meet
                     case rel=>exact ⟨_,(true),rsd,H',⟨by have:=HJ6.out;have:=HJ18.out;have:=HK3.out;have:=HJ37.out;have:=HJ44.out;first | omega | exact Nat.le_refl _⟩,⟨by (with_reducible repeat (first | refine blk_drewN ?_ _ | refine blk_drew ?_ | refine blk_alloc ?_ _));exact BK731.out⟩,⟨bel1 HB GE731.out⟩⟩
                   case rest=>as_aux_lemma=>
                    clear HC57
                    try clear c1
                    try clear c2
                    try clear p2
                    try clear c3
                    try clear c4
                    try clear c5
                    try clear c6
                    try clear p6
                    try clear c7
                    try clear p7
                    try clear q7
                    try clear hx7
                    try clear qi7
                    try clear c15
                    try clear c15b0
                    try clear c15b1
                    try clear c15b2
                    try clear c16
                    try clear c24
                    try clear c24b0
                    try clear c24b1
                    try clear c24b2
                    try clear c28
                    try clear c29
                    try clear c29b0
                    try clear c30
                    try clear c32
                    try clear c32b0
                    try clear c33
                    try clear c33b0
                    try clear c33b1
                    try clear c34
                    try clear c34b0
                    try clear c35
                    try clear c35b0
                    try clear c35b1
                    try clear c40
                    try clear c41
                    try clear c51
                    try clear c51b0
                    try clear c51b1
                    try clear c52
                    try clear c54
                    try clear c60
                    try clear c61
                    try clear c62
                    try clear c62b0
                    try clear c62b1
                    try clear c62b2
                    try clear p64
                    try clear hcz10_0
                    try clear hcz10_1
                    try clear hcz10_2
                    try clear hcz13_0
                    try clear hcz13_1
                    try clear hcz13_2
                    try clear hcz20_0
                    try clear hcz20_1
                    try clear hcz20_2
                    try clear hcz22_0
                    try clear hcz22_1
                    try clear hcz22_2
                    try clear hfz10_0
                    try clear hfz10_1
                    try clear hfz10_2
                    try clear hfz13_0
                    try clear hfz13_1
                    try clear hfz13_2
                    try clear hfz20_0
                    try clear hfz20_1
                    try clear hfz20_2
                    try clear hfz22_0
                    try clear hfz22_1
                    try clear hfz22_2
                    try clear hx745_0
                    try clear hx746_0
                    try clear hx747_0
                    try clear hx748_0
                    try clear p2
                    try clear p6
                    try clear p7
                    try clear p745
                    try clear p746
                    try clear p747
                    try clear p748
                    try clear q7
                    try clear q745
                    try clear q746
                    try clear q747
                    try clear q748
                    obtain ⟨kq,x189_56,rfl,HA,HJ56,BK731,HB⟩:=hcut
                    cases kq with
                    | zero=>exact absurd HA.out (by simp [laws_FnSumps.j5])
                    | succ kj56=>
                     have H:=HA.out
                     clear HA
                     simp only [laws_FnSumps.j5] at H
                     by_cases c66 : x189_56=true
                     ·subst c66
                      have H1 : (some false)=some r:=by rw [if_pos rfl] at H;exact H
                      clear H
                      have H:=H1
                      clear H1
                      obtain rfl:=Option.some.inj H
                      go_wp2
                      repeat (go_quiet (fail);try go_wp2)
                      go_ret
                      exact ⟨erw0,bel1 HB GE731.out⟩
                     ·replace c66:=Bool.eq_false_iff.mpr c66
                      subst c66
                      have H1 : (laws_FnSumps.j6 kj56 l0)=some r:=by rw [if_neg (show ¬ (false=true) by decide)] at H;exact H
                      clear H
                      have H:=H1
                      clear H1
                      have H':=amk H
                      clear H
                      go_wp2
                      repeat (go_quiet (fail);try go_wp2)
                      go_meet
                      case rel=>exact ⟨_,H',⟨by have:=HJ6.out;have:=HJ18.out;have:=HK3.out;have:=HJ37.out;have:=HJ44.out;have:=HJ56.out;first | omega | exact Nat.le_refl _⟩,⟨by (with_reducible repeat (first | refine blk_drewN ?_ _ | refine blk_drew ?_ | refine blk_alloc ?_ _));exact BK731.out⟩,⟨bel1 HB GE731.out⟩⟩
                  ·replace c54:=Bool.eq_false_iff.mpr c54
                   subst c54
                   have H1 : (laws_FnSumps.j6 kj44 l0)=some r:=by rw [if_neg (show ¬ (false=true) by decide)] at H;exact H
                   clear H
                   have H:=H1
                   clear H1
                   have H':=amk H
                   clear H
                   go_wp2
                   repeat (go_quiet (fail);try go_wp2)
                   go_meet
                   case rel=>exact ⟨_,H',⟨by have:=HJ6.out;have:=HJ18.out;have:=HK3.out;have:=HJ37.out;have:=HJ44.out;first | omega | exact Nat.le_refl _⟩,⟨by (with_reducible repeat (first | refine blk_drewN ?_ _ | refine blk_drew ?_ | refine blk_alloc ?_ _));exact BK731.out⟩,⟨bel1 HB GE731.out⟩⟩
                 case rest=>as_aux_lemma=>
                  clear HC53
                  try clear c1
                  try clear c2
                  try clear p2
                  try clear c3
                  try clear c4
                  try clear c5
                  try clear c6
                  try clear p6
                  try clear c7
                  try clear p7
                  try clear q7
                  try clear hx7
                  try clear qi7
                  try clear c15
                  try clear c15b0
                  try clear c15b1
                  try clear c15b2
                  try clear c16
                  try clear c24
                  try clear c24b0
                  try clear c24b1
                  try clear c24b2
                  try clear c28
                  try clear c29
                  try clear c29b0
                  try clear c30
                  try clear c32
                  try clear c32b0
                  try clear c33
                  try clear c33b0
                  try clear c33b1
                  try clear c34
                  try clear c34b0
                  try clear c35
                  try clear c35b0
                  try clear c35b1
                  try clear c40
                  try clear c41
                  try clear c51
                  try clear c51b0
                  try clear c51b1
                  try clear c52
                  try clear c54
                  try clear c60
                  try clear c61
                  try clear c62
                  try clear c62b0
                  try clear c62b1
                  try clear c62b2
                  try clear p64
                  try clear c66
                  try clear hcz10_0
                  try clear hcz10_1
                  try clear hcz10_2
                  try clear hcz13_0
                  try clear hcz13_1
                  try clear hcz13_2
                  try clear hcz20_0
                  try clear hcz20_1
                  try clear hcz20_2
                  try clear hcz22_0
                  try clear hcz22_1
                  try clear hcz22_2
                  try clear hfz10_0
                  try clear hfz10_1
                  try clear hfz10_2
                  try clear hfz13_0
                  try clear hfz13_1
                  try clear hfz13_2
                  try clear hfz20_0
                  try clear hfz20_1
                  try clear hfz20_2
                  try clear hfz22_0
                  try clear hfz22_1
                  try clear hfz22_2
                  try clear hx745_0
                  try clear hx746_0
                  try clear hx747_0
                  try clear hx748_0
                  try clear p2
                  try clear p6
                  try clear p64
                  try clear p7
                  try clear p745
                  try clear p746
                  try clear p747
                  try clear p748
                  try clear q7
                  try clear q745
                  try clear q746
                  try clear q747
                  try clear q748
                  obtain ⟨kq,HA,HJ52,BK731,HB⟩:=hcut
                  cases kq with
                  | zero=>exact absurd HA.out (by simp [laws_FnSumps.j6])
                  | succ kj52=>
                   have H:=HA.out
                   clear HA
                   simp only [laws_FnSumps.j6] at H
                   replace H:=obs H
                   obtain ⟨⟨t768,t769,t770⟩,A670,H⟩:=H
                   replace H : ((impl_ClosedSumps.f kj52 t768 t769 t770).bind fun bt775=>((spec_ClosedSumps.f kj52 t768 t769 t770).bind fun bt779=>(if (bt775.2 != bt779.2)=true then (laws_FnSumps.j7 kj52 l0 true) else ((laws_rInts.f kj52 bt775.1 bt779.1).bind fun t783=>(if t783=true then ((impl_AreSumps.f kj52 t769).bind fun t784=>((spec_AreSumps.f kj52 t769).bind fun t785=>(laws_FnSumps.j7 kj52 l0 (t784 != t785)))) else (laws_FnSumps.j7 kj52 l0 true))))))=some r:=H
                   have A67:=amk A670
                   clear A670
                   replace H:=obs H
                   obtain ⟨⟨t775,t776⟩,A680,H⟩:=H
                   replace H : ((spec_ClosedSumps.f kj52 t768 t769 t770).bind fun bt779=>(if (t776 != bt779.2)=true then (laws_FnSumps.j7 kj52 l0 true) else ((laws_rInts.f kj52 t775 bt779.1).bind fun t783=>(if t783=true then ((impl_AreSumps.f kj52 t769).bind fun t784=>((spec_AreSumps.f kj52 t769).bind fun t785=>(laws_FnSumps.j7 kj52 l0 (t784 != t785)))) else (laws_FnSumps.j7 kj52 l0 true)))))=some r:=H
                   have A68:=amk A680
                   clear A680
                   replace H:=obs H
                   obtain ⟨⟨t779,t780⟩,A690,H⟩:=H
                   replace H : (if (t776 != t780)=true then (laws_FnSumps.j7 kj52 l0 true) else ((laws_rInts.f kj52 t775 t779).bind fun t783=>(if t783=true then ((impl_AreSumps.f kj52 t769).bind fun t784=>((spec_AreSumps.f kj52 t769).bind fun t785=>(laws_FnSumps.j7 kj52 l0 (t784 != t785)))) else (laws_FnSumps.j7 kj52 l0 true))))=some r:=H
                   have A69:=amk A690
                   clear A690
                   have HC70:=amk H
                   clear H
                   go_upto_region 32 with (first | (go_at_call 38;(with_reducible refine (spec_DrawClosedSumps.calls kj52 _ _ l0 t768 t769 t770 _ ?side1 ?side2 A67.out).mono ?_);(case side1=>exact ccc (Kd.C_below HR0.out HB.out));(case side2=>exact HC0.out);rintro e w71 ⟨v771,v773,rfl,ho0,ho1,hb⟩;have HO772:=amk (Kd.R_lower ho0 (below_size (bel1 HB GE731.out)));have HO774:=amk (Kd.R_lower (Kd.R_newB ho1 (g:=gb731) (o:=.cells #[.int .i64 t727,.int .i64 t728,.int .i64 t729] 44 (0,0)) (bkk BK731)) (below_size (bel1 HB GE731.out)));replace BK731:=amk (blk_below (g:=gb731) (o:=.cells #[.int .i64 t727,.int .i64 t728,.int .i64 t729] 44 (0,0)) (bkk BK731) hb);replace HB:=amk (below_step (bel1 HB GE731.out) hb);(try clear hb ho0);(try clear ho1);obtain ⟨Ao72,co72,eo72⟩:=Kd.R_slice HO772.out;subst eo72;obtain ⟨Ao73,co73,eo73⟩:=Kd.R_slice HO774.out;subst eo73)|(go_at_call 37;(with_reducible refine (impl_ClosedSumps.calls kj52 _ _ t768 _ _ t769 t770 t775 t776 _ ?side1 ?side2 ?side3 ?side4 A68.out).mono ?_);(case side1=>exact ccc (Kd.R_reads' HO772.out).2.2);(case side2=>exact (Kd.R_reads' HO772.out).2.1);(case side3=>exact ccc (Kd.R_reads' HO774.out).2.2);(case side4=>exact (Kd.R_reads' HO774.out).2.1);rintro e w74 ⟨v777,rfl,ho0,hb⟩;replace HO772:=amk (Kd.R_below (rrr HO772) hb);replace HO774:=amk (Kd.R_below (rrr HO774) hb);have HO778:=amk (Kd.R_lower ho0 (below_size (bel1 HB GE731.out)));replace BK731:=amk (blk_below (g:=gb731) (o:=.cells #[.int .i64 t727,.int .i64 t728,.int .i64 t729] 44 (0,0)) (bkk BK731) hb);replace HB:=amk (below_step (bel1 HB GE731.out) hb);(try clear hb ho0))|(go_at_call 39;(with_reducible refine (spec_ClosedSumps.calls kj52 _ _ t768 _ _ t769 t770 t779 t780 _ ?side1 ?side2 ?side3 ?side4 A69.out).mono ?_);(case side1=>exact ccc (Kd.R_reads' HO772.out).2.2);(case side2=>exact (Kd.R_reads' HO772.out).2.1);(case side3=>exact ccc (Kd.R_reads' HO774.out).2.2);(case side4=>exact (Kd.R_reads' HO774.out).2.1);rintro e w75 ⟨v781,rfl,ho0,hb⟩;replace HO772:=amk (Kd.R_below (rrr HO772) hb);replace HO774:=amk (Kd.R_below (rrr HO774) hb);have HO782:=amk (Kd.R_lower (Kd.R_new' ho0 (Kd.R_lt (rrr HO778))) (below_size (bel1 HB GE731.out)));replace HO778:=amk (Kd.R_elder' (rrr HO778) (Kd.R_base ho0) hb);replace BK731:=amk (blk_below (g:=gb731) (o:=.cells #[.int .i64 t727,.int .i64 t728,.int .i64 t729] 44 (0,0)) (bkk BK731) hb);replace HB:=amk (below_step (bel1 HB GE731.out) hb);(try clear hb ho0)))
                   repeat (go_quiet (first | (go_at_call 38;(with_reducible refine (spec_DrawClosedSumps.calls kj52 _ _ l0 t768 t769 t770 _ ?side1 ?side2 A67.out).mono ?_);(case side1=>exact ccc (Kd.C_below HR0.out HB.out));(case side2=>exact HC0.out);rintro e w71 ⟨v771,v773,rfl,ho0,ho1,hb⟩;have HO772:=amk (Kd.R_lower ho0 (below_size (bel1 HB GE731.out)));have HO774:=amk (Kd.R_lower (Kd.R_newB ho1 (g:=gb731) (o:=.cells #[.int .i64 t727,.int .i64 t728,.int .i64 t729] 44 (0,0)) (bkk BK731)) (below_size (bel1 HB GE731.out)));replace BK731:=amk (blk_below (g:=gb731) (o:=.cells #[.int .i64 t727,.int .i64 t728,.int .i64 t729] 44 (0,0)) (bkk BK731) hb);replace HB:=amk (below_step (bel1 HB GE731.out) hb);(try clear hb ho0);(try clear ho1);obtain ⟨Ao72,co72,eo72⟩:=Kd.R_slice HO772.out;subst eo72;obtain ⟨Ao73,co73,eo73⟩:=Kd.R_slice HO774.out;subst eo73)|(go_at_call 37;(with_reducible refine (impl_ClosedSumps.calls kj52 _ _ t768 _ _ t769 t770 t775 t776 _ ?side1 ?side2 ?side3 ?side4 A68.out).mono ?_);(case side1=>exact ccc (Kd.R_reads' HO772.out).2.2);(case side2=>exact (Kd.R_reads' HO772.out).2.1);(case side3=>exact ccc (Kd.R_reads' HO774.out).2.2);(case side4=>exact (Kd.R_reads' HO774.out).2.1);rintro e w74 ⟨v777,rfl,ho0,hb⟩;replace HO772:=amk (Kd.R_below (rrr HO772) hb);replace HO774:=amk (Kd.R_below (rrr HO774) hb);have HO778:=amk (Kd.R_lower ho0 (below_size (bel1 HB GE731.out)));replace BK731:=amk (blk_below (g:=gb731) (o:=.cells #[.int .i64 t727,.int .i64 t728,.int .i64 t729] 44 (0,0)) (bkk BK731) hb);replace HB:=amk (below_step (bel1 HB GE731.out) hb);(try clear hb ho0))|(go_at_call 39;(with_reducible refine (spec_ClosedSumps.calls kj52 _ _ t768 _ _ t769 t770 t779 t780 _ ?side1 ?side2 ?side3 ?side4 A69.out).mono ?_);(case side1=>exact ccc (Kd.R_reads' HO772.out).2.2);(case side2=>exact (Kd.R_reads' HO772.out).2.1);(case side3=>exact ccc (Kd.R_reads' HO774.out).2.2);(case side4=>exact (Kd.R_reads' HO774.out).2.1);rintro e w75 ⟨v781,rfl,ho0,hb⟩;replace HO772:=amk (Kd.R_below (rrr HO772) hb);replace HO774:=amk (Kd.R_below (rrr HO774) hb);have HO782:=amk (Kd.R_lower (Kd.R_new' ho0 (Kd.R_lt (rrr HO778))) (below_size (bel1 HB GE731.out)));replace HO778:=amk (Kd.R_elder' (rrr HO778) (Kd.R_base ho0) hb);replace BK731:=amk (blk_below (g:=gb731) (o:=.cells #[.int .i64 t727,.int .i64 t728,.int .i64 t729] 44 (0,0)) (bkk BK731) hb);replace HB:=amk (below_step (bel1 HB GE731.out) hb);(try clear hb ho0)));go_upto_region 32 with (first | (go_at_call 38;(with_reducible refine (spec_DrawClosedSumps.calls kj52 _ _ l0 t768 t769 t770 _ ?side1 ?side2 A67.out).mono ?_);(case side1=>exact ccc (Kd.C_below HR0.out HB.out));(case side2=>exact HC0.out);rintro e w71 ⟨v771,v773,rfl,ho0,ho1,hb⟩;have HO772:=amk (Kd.R_lower ho0 (below_size (bel1 HB GE731.out)));have HO774:=amk (Kd.R_lower (Kd.R_newB ho1 (g:=gb731) (o:=.cells #[.int .i64 t727,.int .i64 t728,.int .i64 t729] 44 (0,0)) (bkk BK731)) (below_size (bel1 HB GE731.out)));replace BK731:=amk (blk_below (g:=gb731) (o:=.cells #[.int .i64 t727,.int .i64 t728,.int .i64 t729] 44 (0,0)) (bkk BK731) hb);replace HB:=amk (below_step (bel1 HB GE731.out) hb);(try clear hb ho0);(try clear ho1);obtain ⟨Ao72,co72,eo72⟩:=Kd.R_slice HO772.out;subst eo72;obtain ⟨Ao73,co73,eo73⟩:=Kd.R_slice HO774.out;subst eo73)|(go_at_call 37;(with_reducible refine (impl_ClosedSumps.calls kj52 _ _ t768 _ _ t769 t770 t775 t776 _ ?side1 ?side2 ?side3 ?side4 A68.out).mono ?_);(case side1=>exact ccc (Kd.R_reads' HO772.out).2.2);(case side2=>exact (Kd.R_reads' HO772.out).2.1);(case side3=>exact ccc (Kd.R_reads' HO774.out).2.2);(case side4=>exact (Kd.R_reads' HO774.out).2.1);rintro e w74 ⟨v777,rfl,ho0,hb⟩;replace HO772:=amk (Kd.R_below (rrr HO772) hb);replace HO774:=amk (Kd.R_below (rrr HO774) hb);have HO778:=amk (Kd.R_lower ho0 (below_size (bel1 HB GE731.out)));replace BK731:=amk (blk_below (g:=gb731) (o:=.cells #[.int .i64 t727,.int .i64 t728,.int .i64 t729] 44 (0,0)) (bkk BK731) hb);replace HB:=amk (below_step (bel1 HB GE731.out) hb);(try clear hb ho0))|(go_at_call 39;(with_reducible refine (spec_ClosedSumps.calls kj52 _ _ t768 _ _ t769 t770 t779 t780 _ ?side1 ?side2 ?side3 ?side4 A69.out).mono ?_);(case side1=>exact ccc (Kd.R_reads' HO772.out).2.2);(case side2=>exact (Kd.R_reads' HO772.out).2.1);(case side3=>exact ccc (Kd.R_reads' HO774.out).2.2);(case side4=>exact (Kd.R_reads' HO774.out).2.1);rintro e w75 ⟨v781,rfl,ho0,hb⟩;replace HO772:=amk (Kd.R_below (rrr HO772) hb);replace HO774:=amk (Kd.R_below (rrr HO774) hb);have HO782:=amk (Kd.R_lower (Kd.R_new' ho0 (Kd.R_lt (rrr HO778))) (below_size (bel1 HB GE731.out)));replace HO778:=amk (Kd.R_elder' (rrr HO778) (Kd.R_base ho0) hb);replace BK731:=amk (blk_below (g:=gb731) (o:=.cells #[.int .i64 t727,.int .i64 t728,.int .i64 t729] 44 (0,0)) (bkk BK731) hb);replace HB:=amk (below_step (bel1 HB GE731.out) hb);(try clear hb ho0))))
                   (try simp only [Act.put,List.setIfInBounds_toArray,List.set_cons_zero,List.set_cons_succ])
                   go_cut [225] (fun v225 wc=>∃ (kq : Nat) (x225_69 : Bool),v225 = .bool x225_69∧Aside0 (laws_FnSumps.j7 kq l0 x225_69=some r)∧Aside0 (kq≤kj52)∧Aside0 (wc.heap[gb731]? = some (.cells #[.int .i64 t727,.int .i64 t728,.int .i64 t729] 44 (0,0)))∧Aside0 (Below w.heap.size w wc))
                   case first=>as_aux_lemma=>
                    have H:=HC70.out
                    clear HC70
                    by_cases c76 : (t776 != t780)=true
                    ·rw [if_pos c76] at H
                     have c76b0 : (t776 != t780)=true:=c76
                     (try (have c76b1 : decide (t776=t780)=false:=by simpa using c76))
                     (try (have c76b2 : (t776 == t780)=false:=by simpa using c76))
                     (try (have c76b3 : ¬ (t776=t780):=by simpa using c76))
                     clear c76
                     (first | rw [c76b0] | (simp only [i64_w,i32_w];rw [c76b0]) | skip)
                     have H':=amk H
                     clear H
                     go_wp2
                     repeat (go_quiet (fail);try go_wp2)
                     go_meet
                     case rel=>exact ⟨_,(true),rsd,H',⟨by have:=HJ6.out;have:=HJ18.out;have:=HK3.out;have:=HJ37.out;have:=HJ44.out;have:=HJ52.out;first | omega | exact Nat.le_refl _⟩,⟨by (with_reducible repeat (first | refine blk_drewN ?_ _ | refine blk_drew ?_ | refine blk_alloc ?_ _));exact BK731.out⟩,⟨bel1 HB GE731.out⟩⟩
                    ·rw [if_neg c76] at H
                     have c76b0 : (t776 != t780)=false:=by simpa using c76
                     (try (have c76b1 : decide (t776=t780)=true:=by simpa using c76))
                     (try (have c76b2 : (t776 == t780)=true:=by simpa using c76))
                     clear c76
                     (first | rw [c76b0] | (simp only [i64_w,i32_w];rw [c76b0]) | skip)
                     replace H:=obs H
                     obtain ⟨t783,A770,H⟩:=H
                     replace H : (if t783=true then ((impl_AreSumps.f kj52 t769).bind fun t784=>((spec_AreSumps.f kj52 t769).bind fun t785=>(laws_FnSumps.j7 kj52 l0 (t784 != t785)))) else (laws_FnSumps.j7 kj52 l0 true))=some r:=H
                     have A77:=amk A770
                     clear A770
                     by_cases c78 : t783=true
                     ·subst c78
                      have H1 : ((impl_AreSumps.f kj52 t769).bind fun t784=>((spec_AreSumps.f kj52 t769).bind fun t785=>(laws_FnSumps.j7 kj52 l0 (t784 != t785))))=some r:=by rw [if_pos rfl] at H;exact H
                      clear H
                      have H:=H1
                      clear H1
                      replace H:=obs H
                      obtain ⟨t784,A790,H⟩:=H
                      replace H : ((spec_AreSumps.f kj52 t769).bind fun t785=>(laws_FnSumps.j7 kj52 l0 (t784 != t785)))=some r:=H
                      have A79:=amk A790
                      clear A790
                      replace H:=obs H
                      obtain ⟨t785,A800,H⟩:=H
                      replace H : (laws_FnSumps.j7 kj52 l0 (t784 != t785))=some r:=H
                      have A80:=amk A800
                      clear A800
                      have H':=amk H
                      clear H
                      obtain ⟨Ao81,co81,eo81⟩:=Kd.R_slice HO778.out
                      subst eo81
                      obtain ⟨Ao82,co82,eo82⟩:=Kd.R_slice HO782.out
                      subst eo82
                      go_wp2_with (first | (go_at_call 40;(with_reducible refine (laws_rInts.calls kj52 _ _ t775 _ _ t779 true _ ?side1 ?side2 ?side3 ?side4 A77.out).mono ?_);(case side1=>exact ccc (Kd.R_reads' HO778.out).2.2);(case side2=>exact (Kd.R_reads' HO778.out).2.1);(case side3=>exact ccc (Kd.R_reads' HO782.out).2.2);(case side4=>exact (Kd.R_reads' HO782.out).2.1);rintro e w' ⟨rfl,⟨nd,rfl⟩⟩;(try exact ddd))|(go_at_call 41;(with_reducible refine (impl_AreSumps.calls kj52 _ _ t769 t784 _ ?side1 ?side2 A79.out).mono ?_);(case side1=>exact ccc (Kd.R_reads' HO774.out).2.2);(case side2=>exact (Kd.R_reads' HO774.out).2.1);rintro e w83 ⟨rfl,hb⟩;replace HO772:=amk (Kd.R_below (rrr HO772) hb);replace HO774:=amk (Kd.R_below (rrr HO774) hb);replace HO778:=amk (Kd.R_below (rrr HO778) hb);replace HO782:=amk (Kd.R_below (rrr HO782) hb);replace BK731:=amk (blk_below (g:=gb731) (o:=.cells #[.int .i64 t727,.int .i64 t728,.int .i64 t729] 44 (0,0)) (bkk BK731) hb);replace HB:=amk (below_step (bel1 HB GE731.out) hb);(try clear hb))|(go_at_call 42;(with_reducible refine (spec_AreSumps.calls kj52 _ _ t769 t785 _ ?side1 ?side2 A80.out).mono ?_);(case side1=>exact ccc (Kd.R_reads' HO774.out).2.2);(case side2=>exact (Kd.R_reads' HO774.out).2.1);rintro e w84 ⟨rfl,hb⟩;replace HO772:=amk (Kd.R_below (rrr HO772) hb);replace HO774:=amk (Kd.R_below (rrr HO774) hb);replace HO778:=amk (Kd.R_below (rrr HO778) hb);replace HO782:=amk (Kd.R_below (rrr HO782) hb);replace BK731:=amk (blk_below (g:=gb731) (o:=.cells #[.int .i64 t727,.int .i64 t728,.int .i64 t729] 44 (0,0)) (bkk BK731) hb);replace HB:=amk (below_step (bel1 HB GE731.out) hb);(try clear hb)))
                      repeat (go_quiet (first | (go_at_call 40;(with_reducible refine (laws_rInts.calls kj52 _ _ t775 _ _ t779 true _ ?side1 ?side2 ?side3 ?side4 A77.out).mono ?_);(case side1=>exact ccc (Kd.R_reads' HO778.out).2.2);(case side2=>exact (Kd.R_reads' HO778.out).2.1);(case side3=>exact ccc (Kd.R_reads' HO782.out).2.2);(case side4=>exact (Kd.R_reads' HO782.out).2.1);rintro e w' ⟨rfl,⟨nd,rfl⟩⟩;(try exact ddd))|(go_at_call 41;(with_reducible refine (impl_AreSumps.calls kj52 _ _ t769 t784 _ ?side1 ?side2 A79.out).mono ?_);(case side1=>exact ccc (Kd.R_reads' HO774.out).2.2);(case side2=>exact (Kd.R_reads' HO774.out).2.1);rintro e w83 ⟨rfl,hb⟩;replace HO772:=amk (Kd.R_below (rrr HO772) hb);replace HO774:=amk (Kd.R_below (rrr HO774) hb);replace HO778:=amk (Kd.R_below (rrr HO778) hb);replace HO782:=amk (Kd.R_below (rrr HO782) hb);replace BK731:=amk (blk_below (g:=gb731) (o:=.cells #[.int .i64 t727,.int .i64 t728,.int .i64 t729] 44 (0,0)) (bkk BK731) hb);replace HB:=amk (below_step (bel1 HB GE731.out) hb);(try clear hb))|(go_at_call 42;(with_reducible refine (spec_AreSumps.calls kj52 _ _ t769 t785 _ ?side1 ?side2 A80.out).mono ?_);(case side1=>exact ccc (Kd.R_reads' HO774.out).2.2);(case side2=>exact (Kd.R_reads' HO774.out).2.1);rintro e w84 ⟨rfl,hb⟩;replace HO772:=amk (Kd.R_below (rrr HO772) hb);replace HO774:=amk (Kd.R_below (rrr HO774) hb);replace HO778:=amk (Kd.R_below (rrr HO778) hb);replace HO782:=amk (Kd.R_below (rrr HO782) hb);replace BK731:=amk (blk_below (g:=gb731) (o:=.cells #[.int .i64 t727,.int .i64 t728,.int .i64 t729] 44 (0,0)) (bkk BK731) hb);replace HB:=amk (below_step (bel1 HB GE731.out) hb);(try clear hb)));try go_wp2_with (first | (go_at_call 40;(with_reducible refine (laws_rInts.calls kj52 _ _ t775 _ _ t779 true _ ?side1 ?side2 ?side3 ?side4 A77.out).mono ?_);(case side1=>exact ccc (Kd.R_reads' HO778.out).2.2);(case side2=>exact (Kd.R_reads' HO778.out).2.1);(case side3=>exact ccc (Kd.R_reads' HO782.out).2.2);(case side4=>exact (Kd.R_reads' HO782.out).2.1);rintro e w' ⟨rfl,⟨nd,rfl⟩⟩;(try exact ddd))|(go_at_call 41;(with_reducible refine (impl_AreSumps.calls kj52 _ _ t769 t784 _ ?side1 ?side2 A79.out).mono ?_);(case side1=>exact ccc (Kd.R_reads' HO774.out).2.2);(case side2=>exact (Kd.R_reads' HO774.out).2.1);rintro e w83 ⟨rfl,hb⟩;replace HO772:=amk (Kd.R_below (rrr HO772) hb);replace HO774:=amk (Kd.R_below (rrr HO774) hb);replace HO778:=amk (Kd.R_below (rrr HO778) hb);replace HO782:=amk (Kd.R_below (rrr HO782) hb);replace BK731:=amk (blk_below (g:=gb731) (o:=.cells #[.int .i64 t727,.int .i64 t728,.int .i64 t729] 44 (0,0)) (bkk BK731) hb);replace HB:=amk (below_step (bel1 HB GE731.out) hb);(try clear hb))|(go_at_call 42;(with_reducible refine (spec_AreSumps.calls kj52 _ _ t769 t785 _ ?side1 ?side2 A80.out).mono ?_);(case side1=>exact ccc (Kd.R_reads' HO774.out).2.2);(case side2=>exact (Kd.R_reads' HO774.out).2.1);rintro e w84 ⟨rfl,hb⟩;replace HO772:=amk (Kd.R_below (rrr HO772) hb);replace HO774:=amk (Kd.R_below (rrr HO774) hb);replace HO778:=amk (Kd.R_below (rrr HO778) hb);replace HO782:=amk (Kd.R_below (rrr HO782) hb);replace BK731:=amk (blk_below (g:=gb731) (o:=.cells #[.int .i64 t727,.int .i64 t728,.int .i64 t729] 44 (0,0)) (bkk BK731) hb);replace HB:=amk (below_step (bel1 HB GE731.out) hb);(try clear hb))))
                      go_meet
                      case rel=>exact ⟨_,((t784 != t785)),rsd,H',⟨by have:=HJ6.out;have:=HJ18.out;have:=HK3.out;have:=HJ37.out;have:=HJ44.out;have:=HJ52.out;first | omega | exact Nat.le_refl _⟩,⟨by (with_reducible repeat (first | refine blk_drewN ?_ _ | refine blk_drew ?_ | refine blk_alloc ?_ _));exact BK731.out⟩,⟨bel1 HB GE731.out⟩⟩
                     ·replace c78:=Bool.eq_false_iff.mpr c78
                      subst c78
                      have H1 : (laws_FnSumps.j7 kj52 l0 true)=some r:=by rw [if_neg (show ¬ (false=true) by decide)] at H;exact H
                      clear H
                      have H:=H1
                      clear H1
                      have H':=amk H
                      clear H
                      obtain ⟨Ao85,co85,eo85⟩:=Kd.R_slice HO778.out
                      subst eo85
                      obtain ⟨Ao86,co86,eo86⟩:=Kd.R_slice HO782.out
                      subst eo86
                      go_wp2_with (first | (go_at_call 40;(with_reducible refine (laws_rInts.calls kj52 _ _ t775 _ _ t779 false _ ?side1 ?side2 ?side3 ?side4 A77.out).mono ?_);(case side1=>exact ccc (Kd.R_reads' HO778.out).2.2);(case side2=>exact (Kd.R_reads' HO778.out).2.1);(case side3=>exact ccc (Kd.R_reads' HO782.out).2.2);(case side4=>exact (Kd.R_reads' HO782.out).2.1);rintro e w' ⟨rfl,⟨nd,rfl⟩⟩;(try exact ddd)))
                      repeat (go_quiet (first | (go_at_call 40;(with_reducible refine (laws_rInts.calls kj52 _ _ t775 _ _ t779 false _ ?side1 ?side2 ?side3 ?side4 A77.out).mono ?_);(case side1=>exact ccc (Kd.R_reads' HO778.out).2.2);(case side2=>exact (Kd.R_reads' HO778.out).2.1);(case side3=>exact ccc (Kd.R_reads' HO782.out).2.2);(case side4=>exact (Kd.R_reads' HO782.out).2.1);rintro e w' ⟨rfl,⟨nd,rfl⟩⟩;(try exact ddd)));try go_wp2_with (first | (go_at_call 40;(with_reducible refine (laws_rInts.calls kj52 _ _ t775 _ _ t779 false _ ?side1 ?side2 ?side3 ?side4 A77.out).mono ?_);(case side1=>exact ccc (Kd.R_reads' HO778.out).2.2);(case side2=>exact (Kd.R_reads' HO778.out).2.1);(case side3=>exact ccc (Kd.R_reads' HO782.out).2.2);(case side4=>exact (Kd.R_reads' HO782.out).2.1);rintro e w' ⟨rfl,⟨nd,rfl⟩⟩;(try exact ddd))))
                      go_meet
                      case rel=>exact ⟨_,(true),rsd,H',⟨by have:=HJ6.out;have:=HJ18.out;have:=HK3.out;have:=HJ37.out;have:=HJ44.out;have:=HJ52.out;first | omega | exact Nat.le_refl _⟩,⟨by (with_reducible repeat (first | refine blk_drewN ?_ _ | refine blk_drew ?_ | refine blk_alloc ?_ _));exact BK731.out⟩,⟨bel1 HB GE731.out⟩⟩
                   case rest=>as_aux_lemma=>
                    clear HC70
                    try clear c1
                    try clear c2
                    try clear p2
                    try clear c3
                    try clear c4
                    try clear c5
                    try clear c6
                    try clear p6
                    try clear c7
                    try clear p7
                    try clear q7
                    try clear hx7
                    try clear qi7
                    try clear c15
                    try clear c15b0
                    try clear c15b1
                    try clear c15b2
                    try clear c16
                    try clear c24
                    try clear c24b0
                    try clear c24b1
                    try clear c24b2
                    try clear c28
                    try clear c29
                    try clear c29b0
                    try clear c30
                    try clear c32
                    try clear c32b0
                    try clear c33
                    try clear c33b0
                    try clear c33b1
                    try clear c34
                    try clear c34b0
                    try clear c35
                    try clear c35b0
                    try clear c35b1
                    try clear c40
                    try clear c41
                    try clear c51
                    try clear c51b0
                    try clear c51b1
                    try clear c52
                    try clear c54
                    try clear c60
                    try clear c61
                    try clear c62
                    try clear c62b0
                    try clear c62b1
                    try clear c62b2
                    try clear p64
                    try clear c66
                    try clear p74
                    try clear q74
                    try clear hx74
                    try clear c76
                    try clear c76b0
                    try clear c76b1
                    try clear c76b2
                    try clear c78
                    try clear hcz10_0
                    try clear hcz10_1
                    try clear hcz10_2
                    try clear hcz13_0
                    try clear hcz13_1
                    try clear hcz13_2
                    try clear hcz20_0
                    try clear hcz20_1
                    try clear hcz20_2
                    try clear hcz22_0
                    try clear hcz22_1
                    try clear hcz22_2
                    try clear hfz10_0
                    try clear hfz10_1
                    try clear hfz10_2
                    try clear hfz13_0
                    try clear hfz13_1
                    try clear hfz13_2
                    try clear hfz20_0
                    try clear hfz20_1
                    try clear hfz20_2
                    try clear hfz22_0
                    try clear hfz22_1
                    try clear hfz22_2
                    try clear hx745_0
                    try clear hx746_0
                    try clear hx747_0
                    try clear hx748_0
                    try clear p2
                    try clear p6
                    try clear p64
                    try clear p7
                    try clear p745
                    try clear p746
                    try clear p747
                    try clear p748
                    try clear q7
                    try clear q745
                    try clear q746
                    try clear q747
                    try clear q748
                    obtain ⟨kq,x225_69,rfl,HA,HJ69,BK731,HB⟩:=hcut
                    cases kq with
                    | zero=>exact absurd HA.out (by simp [laws_FnSumps.j7])
                    | succ kj69=>
                     have H:=HA.out
                     clear HA
                     simp only [laws_FnSumps.j7] at H
                     by_cases c87 : x225_69=true
                     ·subst c87
                      have H1 : (some false)=some r:=by rw [if_pos rfl] at H;exact H
                      clear H
                      have H:=H1
                      clear H1
                      obtain rfl:=Option.some.inj H
                      go_wp2
                      repeat (go_quiet (fail);try go_wp2)
                      go_ret
                      exact ⟨erw0,bel1 HB GE731.out⟩
                     ·replace c87:=Bool.eq_false_iff.mpr c87
                      subst c87
                      have H1 : ((spec_DrawDrownedSumps.f kj69 l0).bind fun bt786=>((impl_DrownedSumps.f kj69 bt786.1 bt786.2).bind fun bt792=>((spec_DrownedSumps.f kj69 bt786.1 bt786.2).bind fun bt796=>(if (bt792.2 != bt796.2)=true then (laws_FnSumps.j8 kj69 bt786.1 bt786.2 bt792.1 bt792.2 true) else ((laws_rInts.f kj69 bt792.1 bt796.1).bind fun t800=>(laws_FnSumps.j8 kj69 bt786.1 bt786.2 bt792.1 bt792.2 (!t800)))))))=some r:=by rw [if_neg (show ¬ (false=true) by decide)] at H;exact H
                      clear H
                      have H:=H1
                      clear H1
                      replace H:=obs H
                      obtain ⟨⟨t786,t787⟩,A880,H⟩:=H
                      replace H : ((impl_DrownedSumps.f kj69 t786 t787).bind fun bt792=>((spec_DrownedSumps.f kj69 t786 t787).bind fun bt796=>(if (bt792.2 != bt796.2)=true then (laws_FnSumps.j8 kj69 t786 t787 bt792.1 bt792.2 true) else ((laws_rInts.f kj69 bt792.1 bt796.1).bind fun t800=>(laws_FnSumps.j8 kj69 t786 t787 bt792.1 bt792.2 (!t800))))))=some r:=H
                      have A88:=amk A880
                      clear A880
                      replace H:=obs H
                      obtain ⟨⟨t792,t793⟩,A890,H⟩:=H
                      replace H : ((spec_DrownedSumps.f kj69 t786 t787).bind fun bt796=>(if (t793 != bt796.2)=true then (laws_FnSumps.j8 kj69 t786 t787 t792 t793 true) else ((laws_rInts.f kj69 t792 bt796.1).bind fun t800=>(laws_FnSumps.j8 kj69 t786 t787 t792 t793 (!t800)))))=some r:=H
                      have A89:=amk A890
                      clear A890
                      replace H:=obs H
                      obtain ⟨⟨t796,t797⟩,A900,H⟩:=H
                      replace H : (if (t793 != t797)=true then (laws_FnSumps.j8 kj69 t786 t787 t792 t793 true) else ((laws_rInts.f kj69 t792 t796).bind fun t800=>(laws_FnSumps.j8 kj69 t786 t787 t792 t793 (!t800))))=some r:=H
                      have A90:=amk A900
                      clear A900
                      have HC91:=amk H
                      clear H
                      go_upto_region 37 with (first | (go_at_call 43;(with_reducible refine (spec_DrawDrownedSumps.calls kj69 _ _ l0 t786 t787 _ ?side1 ?side2 A88.out).mono ?_);(case side1=>exact ccc (Kd.C_below HR0.out HB.out));(case side2=>exact HC0.out);rintro e w92 ⟨v788,v790,rfl,ho0,ho1,hb⟩;have HO789:=amk (Kd.R_lower ho0 (below_size (bel1 HB GE731.out)));have HO791:=amk (Kd.R_lower (Kd.R_newB ho1 (g:=gb731) (o:=.cells #[.int .i64 t727,.int .i64 t728,.int .i64 t729] 44 (0,0)) (bkk BK731)) (below_size (bel1 HB GE731.out)));replace BK731:=amk (blk_below (g:=gb731) (o:=.cells #[.int .i64 t727,.int .i64 t728,.int .i64 t729] 44 (0,0)) (bkk BK731) hb);replace HB:=amk (below_step (bel1 HB GE731.out) hb);(try clear hb ho0);(try clear ho1);obtain ⟨Ao93,co93,eo93⟩:=Kd.R_slice HO789.out;subst eo93;obtain ⟨Ao94,co94,eo94⟩:=Kd.R_slice HO791.out;subst eo94)|(go_at_call 44;(with_reducible refine (impl_DrownedSumps.calls kj69 _ _ t786 _ _ t787 t792 t793 _ ?side1 ?side2 ?side3 ?side4 A89.out).mono ?_);(case side1=>exact ccc (Kd.R_reads' HO789.out).2.2);(case side2=>exact (Kd.R_reads' HO789.out).2.1);(case side3=>exact ccc (Kd.R_reads' HO791.out).2.2);(case side4=>exact (Kd.R_reads' HO791.out).2.1);rintro e w95 ⟨v794,rfl,ho0,hb⟩;replace HO789:=amk (Kd.R_below (rrr HO789) hb);replace HO791:=amk (Kd.R_below (rrr HO791) hb);have HO795:=amk (Kd.R_lower ho0 (below_size (bel1 HB GE731.out)));replace BK731:=amk (blk_below (g:=gb731) (o:=.cells #[.int .i64 t727,.int .i64 t728,.int .i64 t729] 44 (0,0)) (bkk BK731) hb);replace HB:=amk (below_step (bel1 HB GE731.out) hb);(try clear hb ho0))|(go_at_call 45;(with_reducible refine (spec_DrownedSumps.calls kj69 _ _ t786 _ _ t787 t796 t797 _ ?side1 ?side2 ?side3 ?side4 A90.out).mono ?_);(case side1=>exact ccc (Kd.R_reads' HO789.out).2.2);(case side2=>exact (Kd.R_reads' HO789.out).2.1);(case side3=>exact ccc (Kd.R_reads' HO791.out).2.2);(case side4=>exact (Kd.R_reads' HO791.out).2.1);rintro e w96 ⟨v798,rfl,ho0,hb⟩;replace HO789:=amk (Kd.R_below (rrr HO789) hb);replace HO791:=amk (Kd.R_below (rrr HO791) hb);have HO799:=amk (Kd.R_lower (Kd.R_new' ho0 (Kd.R_lt (rrr HO795))) (below_size (bel1 HB GE731.out)));replace HO795:=amk (Kd.R_elder' (rrr HO795) (Kd.R_base ho0) hb);replace BK731:=amk (blk_below (g:=gb731) (o:=.cells #[.int .i64 t727,.int .i64 t728,.int .i64 t729] 44 (0,0)) (bkk BK731) hb);replace HB:=amk (below_step (bel1 HB GE731.out) hb);(try clear hb ho0)))
                      repeat (go_quiet (first | (go_at_call 43;(with_reducible refine (spec_DrawDrownedSumps.calls kj69 _ _ l0 t786 t787 _ ?side1 ?side2 A88.out).mono ?_);(case side1=>exact ccc (Kd.C_below HR0.out HB.out));(case side2=>exact HC0.out);rintro e w92 ⟨v788,v790,rfl,ho0,ho1,hb⟩;have HO789:=amk (Kd.R_lower ho0 (below_size (bel1 HB GE731.out)));have HO791:=amk (Kd.R_lower (Kd.R_newB ho1 (g:=gb731) (o:=.cells #[.int .i64 t727,.int .i64 t728,.int .i64 t729] 44 (0,0)) (bkk BK731)) (below_size (bel1 HB GE731.out)));replace BK731:=amk (blk_below (g:=gb731) (o:=.cells #[.int .i64 t727,.int .i64 t728,.int .i64 t729] 44 (0,0)) (bkk BK731) hb);replace HB:=amk (below_step (bel1 HB GE731.out) hb);(try clear hb ho0);(try clear ho1);obtain ⟨Ao93,co93,eo93⟩:=Kd.R_slice HO789.out;subst eo93;obtain ⟨Ao94,co94,eo94⟩:=Kd.R_slice HO791.out;subst eo94)|(go_at_call 44;(with_reducible refine (impl_DrownedSumps.calls kj69 _ _ t786 _ _ t787 t792 t793 _ ?side1 ?side2 ?side3 ?side4 A89.out).mono ?_);(case side1=>exact ccc (Kd.R_reads' HO789.out).2.2);(case side2=>exact (Kd.R_reads' HO789.out).2.1);(case side3=>exact ccc (Kd.R_reads' HO791.out).2.2);(case side4=>exact (Kd.R_reads' HO791.out).2.1);rintro e w95 ⟨v794,rfl,ho0,hb⟩;replace HO789:=amk (Kd.R_below (rrr HO789) hb);replace HO791:=amk (Kd.R_below (rrr HO791) hb);have HO795:=amk (Kd.R_lower ho0 (below_size (bel1 HB GE731.out)));replace BK731:=amk (blk_below (g:=gb731) (o:=.cells #[.int .i64 t727,.int .i64 t728,.int .i64 t729] 44 (0,0)) (bkk BK731) hb);replace HB:=amk (below_step (bel1 HB GE731.out) hb);(try clear hb ho0))|(go_at_call 45;(with_reducible refine (spec_DrownedSumps.calls kj69 _ _ t786 _ _ t787 t796 t797 _ ?side1 ?side2 ?side3 ?side4 A90.out).mono ?_);(case side1=>exact ccc (Kd.R_reads' HO789.out).2.2);(case side2=>exact (Kd.R_reads' HO789.out).2.1);(case side3=>exact ccc (Kd.R_reads' HO791.out).2.2);(case side4=>exact (Kd.R_reads' HO791.out).2.1);rintro e w96 ⟨v798,rfl,ho0,hb⟩;replace HO789:=amk (Kd.R_below (rrr HO789) hb);replace HO791:=amk (Kd.R_below (rrr HO791) hb);have HO799:=amk (Kd.R_lower (Kd.R_new' ho0 (Kd.R_lt (rrr HO795))) (below_size (bel1 HB GE731.out)));replace HO795:=amk (Kd.R_elder' (rrr HO795) (Kd.R_base ho0) hb);replace BK731:=amk (blk_below (g:=gb731) (o:=.cells #[.int .i64 t727,.int .i64 t728,.int .i64 t729] 44 (0,0)) (bkk BK731) hb);replace HB:=amk (below_step (bel1 HB GE731.out) hb);(try clear hb ho0)));go_upto_region 37 with (first | (go_at_call 43;(with_reducible refine (spec_DrawDrownedSumps.calls kj69 _ _ l0 t786 t787 _ ?side1 ?side2 A88.out).mono ?_);(case side1=>exact ccc (Kd.C_below HR0.out HB.out));(case side2=>exact HC0.out);rintro e w92 ⟨v788,v790,rfl,ho0,ho1,hb⟩;have HO789:=amk (Kd.R_lower ho0 (below_size (bel1 HB GE731.out)));have HO791:=amk (Kd.R_lower (Kd.R_newB ho1 (g:=gb731) (o:=.cells #[.int .i64 t727,.int .i64 t728,.int .i64 t729] 44 (0,0)) (bkk BK731)) (below_size (bel1 HB GE731.out)));replace BK731:=amk (blk_below (g:=gb731) (o:=.cells #[.int .i64 t727,.int .i64 t728,.int .i64 t729] 44 (0,0)) (bkk BK731) hb);replace HB:=amk (below_step (bel1 HB GE731.out) hb);(try clear hb ho0);(try clear ho1);obtain ⟨Ao93,co93,eo93⟩:=Kd.R_slice HO789.out;subst eo93;obtain ⟨Ao94,co94,eo94⟩:=Kd.R_slice HO791.out;subst eo94)|(go_at_call 44;(with_reducible refine (impl_DrownedSumps.calls kj69 _ _ t786 _ _ t787 t792 t793 _ ?side1 ?side2 ?side3 ?side4 A89.out).mono ?_);(case side1=>exact ccc (Kd.R_reads' HO789.out).2.2);(case side2=>exact (Kd.R_reads' HO789.out).2.1);(case side3=>exact ccc (Kd.R_reads' HO791.out).2.2);(case side4=>exact (Kd.R_reads' HO791.out).2.1);rintro e w95 ⟨v794,rfl,ho0,hb⟩;replace HO789:=amk (Kd.R_below (rrr HO789) hb);replace HO791:=amk (Kd.R_below (rrr HO791) hb);have HO795:=amk (Kd.R_lower ho0 (below_size (bel1 HB GE731.out)));replace BK731:=amk (blk_below (g:=gb731) (o:=.cells #[.int .i64 t727,.int .i64 t728,.int .i64 t729] 44 (0,0)) (bkk BK731) hb);replace HB:=amk (below_step (bel1 HB GE731.out) hb);(try clear hb ho0))|(go_at_call 45;(with_reducible refine (spec_DrownedSumps.calls kj69 _ _ t786 _ _ t787 t796 t797 _ ?side1 ?side2 ?side3 ?side4 A90.out).mono ?_);(case side1=>exact ccc (Kd.R_reads' HO789.out).2.2);(case side2=>exact (Kd.R_reads' HO789.out).2.1);(case side3=>exact ccc (Kd.R_reads' HO791.out).2.2);(case side4=>exact (Kd.R_reads' HO791.out).2.1);rintro e w96 ⟨v798,rfl,ho0,hb⟩;replace HO789:=amk (Kd.R_below (rrr HO789) hb);replace HO791:=amk (Kd.R_below (rrr HO791) hb);have HO799:=amk (Kd.R_lower (Kd.R_new' ho0 (Kd.R_lt (rrr HO795))) (below_size (bel1 HB GE731.out)));replace HO795:=amk (Kd.R_elder' (rrr HO795) (Kd.R_base ho0) hb);replace BK731:=amk (blk_below (g:=gb731) (o:=.cells #[.int .i64 t727,.int .i64 t728,.int .i64 t729] 44 (0,0)) (bkk BK731) hb);replace HB:=amk (below_step (bel1 HB GE731.out) hb);(try clear hb ho0))))
                      (try simp only [Act.put,List.setIfInBounds_toArray,List.set_cons_zero,List.set_cons_succ])
                      go_cut [251] (fun v251 wc=>∃ (kq : Nat) (x251_90 : Bool),v251 = .bool x251_90∧Aside0 (laws_FnSumps.j8 kq t786 t787 t792 t793 x251_90=some r)∧Aside0 (kq≤kj69)∧Aside0 (Kd.R k30 30 wc w.heap.size (fun _=>True) (.slice Ao93 t786.length co93) t786)∧Aside0 (Kd.R k44 44 wc w.heap.size (fun k_=>k_ ≠ gb731) (.slice Ao94 t787.length co94) t787)∧Aside0 (Kd.R (Kd.int .i64) 3 wc w.heap.size (fun _=>True) v794 t792)∧Aside0 (wc.heap[gb731]? = some (.cells #[.int .i64 t727,.int .i64 t728,.int .i64 t729] 44 (0,0)))∧Aside0 (Below w.heap.size w wc))
                      case first=>as_aux_lemma=>
                       have H:=HC91.out
                       clear HC91
                       by_cases c97 : (t793 != t797)=true
                       ·rw [if_pos c97] at H
                        have c97b0 : (t793 != t797)=true:=c97
                        (try (have c97b1 : decide (t793=t797)=false:=by simpa using c97))
                        (try (have c97b2 : (t793 == t797)=false:=by simpa using c97))
                        (try (have c97b3 : ¬ (t793=t797):=by simpa using c97))
                        clear c97
                        (first | rw [c97b0] | (simp only [i64_w,i32_w];rw [c97b0]) | skip)
                        have H':=amk H
                        clear H
                        go_wp2
                        repeat (go_quiet (fail);try go_wp2)
                        go_meet
                        case rel=>exact ⟨_,(true),rsd,H',⟨by have:=HJ6.out;have:=HJ18.out;have:=HK3.out;have:=HJ37.out;have:=HJ44.out;have:=HJ52.out;have:=HJ69.out;first | omega | exact Nat.le_refl _⟩,⟨rrr HO789⟩,⟨by (with_reducible repeat (first | apply Kd.R_alloc | apply Kd.R_drewN | apply Kd.R_drew));exact Kd.R_mono HO791.out (fun _ hk=>hk.2)⟩,⟨by (with_reducible repeat (first | apply Kd.R_alloc | apply Kd.R_drewN | apply Kd.R_drew));exact Kd.R_mono HO795.out (fun _ hk=>trivial)⟩,⟨by (with_reducible repeat (first | refine blk_drewN ?_ _ | refine blk_drew ?_ | refine blk_alloc ?_ _));exact BK731.out⟩,⟨bel1 HB GE731.out⟩⟩
                       ·rw [if_neg c97] at H
                        have c97b0 : (t793 != t797)=false:=by simpa using c97
                        (try (have c97b1 : decide (t793=t797)=true:=by simpa using c97))
                        (try (have c97b2 : (t793 == t797)=true:=by simpa using c97))
                        clear c97
                        (first | rw [c97b0] | (simp only [i64_w,i32_w];rw [c97b0]) | skip)
                        replace H:=obs H
                        obtain ⟨t800,A980,H⟩:=H
                        replace H : (laws_FnSumps.j8 kj69 t786 t787 t792 t793 (!t800))=some r:=H
                        have A98:=amk A980
                        clear A980
                        have H':=amk H
                        clear H
                        obtain ⟨Ao99,co99,eo99⟩:=Kd.R_slice HO795.out
                        subst eo99
                        obtain ⟨Ao100,co100,eo100⟩:=Kd.R_slice HO799.out
                        subst eo100
                        go_wp2_with (first | (go_at_call 40;(with_reducible refine (laws_rInts.calls kj69 _ _ t792 _ _ t796 t800 _ ?side1 ?side2 ?side3 ?side4 A98.out).mono ?_);(case side1=>exact ccc (Kd.R_reads' HO795.out).2.2);(case side2=>exact (Kd.R_reads' HO795.out).2.1);(case side3=>exact ccc (Kd.R_reads' HO799.out).2.2);(case side4=>exact (Kd.R_reads' HO799.out).2.1);rintro e w' ⟨rfl,⟨nd,rfl⟩⟩;(try exact ddd)))
                        repeat (go_quiet (first | (go_at_call 40;(with_reducible refine (laws_rInts.calls kj69 _ _ t792 _ _ t796 t800 _ ?side1 ?side2 ?side3 ?side4 A98.out).mono ?_);(case side1=>exact ccc (Kd.R_reads' HO795.out).2.2);(case side2=>exact (Kd.R_reads' HO795.out).2.1);(case side3=>exact ccc (Kd.R_reads' HO799.out).2.2);(case side4=>exact (Kd.R_reads' HO799.out).2.1);rintro e w' ⟨rfl,⟨nd,rfl⟩⟩;(try exact ddd)));try go_wp2_with (first | (go_at_call 40;(with_reducible refine (laws_rInts.calls kj69 _ _ t792 _ _ t796 t800 _ ?side1 ?side2 ?side3 ?side4 A98.out).mono ?_);(case side1=>exact ccc (Kd.R_reads' HO795.out).2.2);(case side2=>exact (Kd.R_reads' HO795.out).2.1);(case side3=>exact ccc (Kd.R_reads' HO799.out).2.2);(case side4=>exact (Kd.R_reads' HO799.out).2.1);rintro e w' ⟨rfl,⟨nd,rfl⟩⟩;(try exact ddd))))
                        go_meet
                        case rel=>exact ⟨_,(!t800),rsd,H',⟨by have:=HJ6.out;have:=HJ18.out;have:=HK3.out;have:=HJ37.out;have:=HJ44.out;have:=HJ52.out;have:=HJ69.out;first | omega | exact Nat.le_refl _⟩,⟨rrr HO789⟩,⟨by (with_reducible repeat (first | apply Kd.R_alloc | apply Kd.R_drewN | apply Kd.R_drew));exact Kd.R_mono HO791.out (fun _ hk=>hk.2)⟩,⟨by (with_reducible repeat (first | apply Kd.R_alloc | apply Kd.R_drewN | apply Kd.R_drew));exact Kd.R_mono HO795.out (fun _ hk=>trivial)⟩,⟨by (with_reducible repeat (first | refine blk_drewN ?_ _ | refine blk_drew ?_ | refine blk_alloc ?_ _));exact BK731.out⟩,⟨bel1 HB GE731.out⟩⟩
                      case rest=>as_aux_lemma=>
                       clear HC91
                       try clear c1
                       try clear c2
                       try clear p2
                       try clear c3
                       try clear c4
                       try clear c5
                       try clear c6
                       try clear p6
                       try clear c7
                       try clear p7
                       try clear q7
                       try clear hx7
                       try clear qi7
                       try clear c8
                       try clear c9
                       try clear c15
                       try clear c15b0
                       try clear c15b1
                       try clear c15b2
                       try clear c16
                       try clear c24
                       try clear c24b0
                       try clear c24b1
                       try clear c24b2
                       try clear c28
                       try clear c29
                       try clear c29b0
                       try clear c30
                       try clear c32
                       try clear c32b0
                       try clear c33
                       try clear c33b0
                       try clear c33b1
                       try clear c34
                       try clear c34b0
                       try clear c35
                       try clear c35b0
                       try clear c35b1
                       try clear c40
                       try clear c41
                       try clear c51
                       try clear c51b0
                       try clear c51b1
                       try clear c52
                       try clear c54
                       try clear c60
                       try clear c61
                       try clear c62
                       try clear c62b0
                       try clear c62b1
                       try clear c62b2
                       try clear p64
                       try clear c66
                       try clear p74
                       try clear q74
                       try clear hx74
                       try clear c76
                       try clear c76b0
                       try clear c76b1
                       try clear c76b2
                       try clear c78
                       try clear c87
                       try clear c97
                       try clear c97b0
                       try clear c97b1
                       try clear c97b2
                       try clear hcz10_0
                       try clear hcz10_1
                       try clear hcz10_2
                       try clear hcz13_0
                       try clear hcz13_1
                       try clear hcz13_2
                       try clear hcz20_0
                       try clear hcz20_1
                       try clear hcz20_2
                       try clear hcz22_0
                       try clear hcz22_1
                       try clear hcz22_2
                       try clear hfz10_0
                       try clear hfz10_1
                       try clear hfz10_2
                       try clear hfz13_0
                       try clear hfz13_1
                       try clear hfz13_2
                       try clear hfz20_0
                       try clear hfz20_1
                       try clear hfz20_2
                       try clear hfz22_0
                       try clear hfz22_1
                       try clear hfz22_2
                       try clear hx745_0
                       try clear hx746_0
                       try clear hx747_0
                       try clear hx748_0
                       try clear p2
                       try clear p6
                       try clear p64
                       try clear p7
                       try clear p74
                       try clear p745
                       try clear p746
                       try clear p747
                       try clear p748
                       try clear q7
                       try clear q74
                       try clear q745
                       try clear q746
                       try clear q747
                       try clear q748
                       obtain ⟨kq,x251_90,rfl,HA,HJ90,HO_34,HO_35,HO_36,BK731,HB⟩:=hcut
                       cases kq with
                       | zero=>exact absurd HA.out (by simp [laws_FnSumps.j8])
                       | succ kj90=>
                        have H:=HA.out
                        clear HA
                        simp only [laws_FnSumps.j8] at H
                        by_cases c101 : x251_90=true
                        ·subst c101
                         have H1 : (some false)=some r:=by rw [if_pos rfl] at H;exact H
                         clear H
                         have H:=H1
                         clear H1
                         obtain rfl:=Option.some.inj H
                         go_wp2
                         repeat (go_quiet (fail);try go_wp2)
                         go_ret
                         exact ⟨erw0,bel1 HB GE731.out⟩
                        ·replace c101:=Bool.eq_false_iff.mpr c101
                         subst c101
                         have H1 : (laws_FnSumps.l1 kj90 t786 t787 t792 t793 0)=some r:=by rw [if_neg (show ¬ (false=true) by decide)] at H;exact H
                         clear H
                         have H:=H1
                         clear H1
                         have H':=amk H
                         clear H
                         go_wp2
                         repeat (go_quiet (fail);try go_wp2)
                         go_loopg [40] kj90 (fun kq v40 w'=>∃ (x40_9 : Int),v40 = .int .i64 x40_9∧Aside0 (laws_FnSumps.l1 kq t786 t787 t792 t793 x40_9=some r)∧Aside0 (kq≤kj90)∧Aside0 (Kd.R k30 30 w' w.heap.size (fun _=>True) (.slice Ao93 t786.length co93) t786)∧Aside0 (Kd.R k44 44 w' w.heap.size (fun k_=>k_ ≠ gb731) (.slice Ao94 t787.length co94) t787)∧Aside0 (Kd.R (Kd.int .i64) 3 w' w.heap.size (fun _=>True) v794 t792)∧Aside0 (w'.heap[gb731]? = some (.cells #[.int .i64 t727,.int .i64 t728,.int .i64 t729] 44 (0,0)))∧Aside0 (Below w.heap.size w w'))
                         case atStart=>exact ⟨(0),rsd,H',⟨Nat.le_refl _⟩,⟨rrr HO_34⟩,⟨rrr HO_35⟩,⟨rrr HO_36⟩,⟨by (with_reducible repeat (first | refine blk_drewN ?_ _ | refine blk_drew ?_ | refine blk_alloc ?_ _));exact BK731.out⟩,⟨bel1 HB GE731.out⟩⟩
                         case round=>as_aux_lemma=>
                          clear H'
                          try clear c1
                          try clear c2
                          try clear p2
                          try clear c3
                          try clear c4
                          try clear c5
                          try clear c6
                          try clear p6
                          try clear c7
                          try clear p7
                          try clear q7
                          try clear hx7
                          try clear qi7
                          try clear c8
                          try clear c9
                          try clear c10
                          try clear c15
                          try clear c15b0
                          try clear c15b1
                          try clear c15b2
                          try clear c16
                          try clear c24
                          try clear c24b0
                          try clear c24b1
                          try clear c24b2
                          try clear c28
                          try clear c29
                          try clear c29b0
                          try clear c30
                          try clear c32
                          try clear c32b0
                          try clear c33
                          try clear c33b0
                          try clear c33b1
                          try clear c34
                          try clear c34b0
                          try clear c35
                          try clear c35b0
                          try clear c35b1
                          try clear c40
                          try clear c41
                          try clear c51
                          try clear c51b0
                          try clear c51b1
                          try clear c52
                          try clear c54
                          try clear c60
                          try clear c61
                          try clear c62
                          try clear c62b0
                          try clear c62b1
                          try clear c62b2
                          try clear p64
                          try clear c66
                          try clear p74
                          try clear q74
                          try clear hx74
                          try clear c76
                          try clear c76b0
                          try clear c76b1
                          try clear c76b2
                          try clear c78
                          try clear c87
                          try clear c97
                          try clear c97b0
                          try clear c97b1
                          try clear c97b2
                          try clear c101
                          try clear hcz10_0
                          try clear hcz10_1
                          try clear hcz10_2
                          try clear hcz13_0
                          try clear hcz13_1
                          try clear hcz13_2
                          try clear hcz20_0
                          try clear hcz20_1
                          try clear hcz20_2
                          try clear hcz22_0
                          try clear hcz22_1
                          try clear hcz22_2
                          try clear hfz10_0
                          try clear hfz10_1
                          try clear hfz10_2
                          try clear hfz13_0
                          try clear hfz13_1
                          try clear hfz13_2
                          try clear hfz20_0
                          try clear hfz20_1
                          try clear hfz20_2
                          try clear hfz22_0
                          try clear hfz22_1
                          try clear hfz22_2
                          try clear hx745_0
                          try clear hx746_0
                          try clear hx747_0
                          try clear hx748_0
                          try clear p2
                          try clear p6
                          try clear p64
                          try clear p7
                          try clear p74
                          try clear p745
                          try clear p746
                          try clear p747
                          try clear p748
                          try clear q7
                          try clear q74
                          try clear q745
                          try clear q746
                          try clear q747
                          try clear q748
                          obtain ⟨x40_9,rfl,HA,HK9,HO_34,HO_35,HO_36,BK731,HB⟩:=hrel
                          cases gk with
                          | zero=>exact absurd HA.out (by simp [laws_FnSumps.l1])
                          | succ k9=>
                           have H:=HA.out
                           clear HA
                           simp only [laws_FnSumps.l1] at H
                           have HC102:=amk H
                           clear H
                           go_upto_region 40 with (fail)
                           repeat (go_quiet (fail);go_upto_region 40 with (fail))
                           go_cut [258] (fun v258 wc=>∃ (kq : Nat) (x258_101 : Bool),v258 = .bool x258_101∧Aside0 (laws_FnSumps.j10 kq t786 t787 t792 t793 x40_9 x258_101=some r)∧Aside0 (kq≤k9)∧Aside0 (Kd.R k30 30 wc w.heap.size (fun _=>True) (.slice Ao93 t786.length co93) t786)∧Aside0 (Kd.R k44 44 wc w.heap.size (fun k_=>k_ ≠ gb731) (.slice Ao94 t787.length co94) t787)∧Aside0 (Kd.R (Kd.int .i64) 3 wc w.heap.size (fun _=>True) v794 t792)∧Aside0 (wc.heap[gb731]? = some (.cells #[.int .i64 t727,.int .i64 t728,.int .i64 t729] 44 (0,0)))∧Aside0 (Below w.heap.size w wc))
                           case first=>as_aux_lemma=>
                            have H:=HC102.out
                            clear HC102
                            by_cases c103 : x40_9 < (t786.length : Int)
                            ·rw [if_pos c103] at H
                             have c103b0 : decide (x40_9 < (t786.length : Int))=true:=decide_eq_true c103
                             clear c103
                             (first | rw [c103b0] | (simp only [i64_w,i32_w];rw [c103b0]) | skip)
                             have H':=amk H
                             clear H
                             go_wp2
                             repeat (go_quiet (fail);try go_wp2)
                             go_meet
                             case rel=>exact ⟨_,(t793),rsd,H',⟨by have:=HJ6.out;have:=HJ18.out;have:=HK3.out;have:=HJ37.out;have:=HJ44.out;have:=HJ52.out;have:=HJ69.out;have:=HJ90.out;have:=HK9.out;first | omega | exact Nat.le_refl _⟩,⟨rrr HO_34⟩,⟨rrr HO_35⟩,⟨rrr HO_36⟩,⟨by (with_reducible repeat (first | refine blk_drewN ?_ _ | refine blk_drew ?_ | refine blk_alloc ?_ _));exact BK731.out⟩,⟨bel1 HB GE731.out⟩⟩
                            ·rw [if_neg c103] at H
                             have c103b0 : decide (x40_9 < (t786.length : Int))=false:=decide_eq_false c103
                             clear c103
                             (first | rw [c103b0] | (simp only [i64_w,i32_w];rw [c103b0]) | skip)
                             have H':=amk H
                             clear H
                             go_wp2
                             repeat (go_quiet (fail);try go_wp2)
                             go_meet
                             case rel=>exact ⟨_,(false),rsd,H',⟨by have:=HJ6.out;have:=HJ18.out;have:=HK3.out;have:=HJ37.out;have:=HJ44.out;have:=HJ52.out;have:=HJ69.out;have:=HJ90.out;have:=HK9.out;first | omega | exact Nat.le_refl _⟩,⟨rrr HO_34⟩,⟨rrr HO_35⟩,⟨rrr HO_36⟩,⟨by (with_reducible repeat (first | refine blk_drewN ?_ _ | refine blk_drew ?_ | refine blk_alloc ?_ _));exact BK731.out⟩,⟨bel1 HB GE731.out⟩⟩
                           case rest=>as_aux_lemma=>
                            clear HC102
                            try clear c1
                            try clear c2
                            try clear p2
                            try clear c3
                            try clear c4
                            try clear c5
                            try clear c6
                            try clear p6
                            try clear c7
                            try clear p7
                            try clear q7
                            try clear hx7
                            try clear qi7
                            try clear c8
                            try clear c9
                            try clear c10
                            try clear c15
                            try clear c15b0
                            try clear c15b1
                            try clear c15b2
                            try clear c16
                            try clear c24
                            try clear c24b0
                            try clear c24b1
                            try clear c24b2
                            try clear c28
                            try clear c29
                            try clear c29b0
                            try clear c30
                            try clear c32
                            try clear c32b0
                            try clear c33
                            try clear c33b0
                            try clear c33b1
                            try clear c34
                            try clear c34b0
                            try clear c35
                            try clear c35b0
                            try clear c35b1
                            try clear c40
                            try clear c41
                            try clear c51
                            try clear c51b0
                            try clear c51b1
                            try clear c52
                            try clear c54
                            try clear c60
                            try clear c61
                            try clear c62
                            try clear c62b0
                            try clear c62b1
                            try clear c62b2
                            try clear p64
                            try clear c66
                            try clear p74
                            try clear q74
                            try clear hx74
                            try clear c76
                            try clear c76b0
                            try clear c76b1
                            try clear c76b2
                            try clear c78
                            try clear c87
                            try clear c97
                            try clear c97b0
                            try clear c97b1
                            try clear c97b2
                            try clear c101
                            try clear c103
                            try clear c103b0
                            try clear hcz10_0
                            try clear hcz10_1
                            try clear hcz10_2
                            try clear hcz13_0
                            try clear hcz13_1
                            try clear hcz13_2
                            try clear hcz20_0
                            try clear hcz20_1
                            try clear hcz20_2
                            try clear hcz22_0
                            try clear hcz22_1
                            try clear hcz22_2
                            try clear hfz10_0
                            try clear hfz10_1
                            try clear hfz10_2
                            try clear hfz13_0
                            try clear hfz13_1
                            try clear hfz13_2
                            try clear hfz20_0
                            try clear hfz20_1
                            try clear hfz20_2
                            try clear hfz22_0
                            try clear hfz22_1
                            try clear hfz22_2
                            try clear hx745_0
                            try clear hx746_0
                            try clear hx747_0
                            try clear hx748_0
                            try clear p2
                            try clear p6
                            try clear p64
                            try clear p7
                            try clear p74
                            try clear p745
                            try clear p746
                            try clear p747
                            try clear p748
                            try clear q7
                            try clear q74
                            try clear q745
                            try clear q746
                            try clear q747
                            try clear q748
                            obtain ⟨kq,x258_101,rfl,HA,HJ101,HO_34,HO_35,HO_36,BK731,HB⟩:=hcut
                            cases kq with
                            | zero=>exact absurd HA.out (by simp [laws_FnSumps.j10])
                            | succ kj101=>
                             have H:=HA.out
                             clear HA
                             simp only [laws_FnSumps.j10] at H
                             by_cases c104 : x258_101=true
                             ·subst c104
                              have H1 : (if 0≤x40_9 then (if x40_9 < (t786.length : Int) then ((impl_ClosedSumps.f kj101 t786 t787 ((rd_T30 t786 x40_9).f0)).bind fun bt802=>(laws_FnSumps.l2 kj101 t786 t787 t792 t793 x40_9 bt802.1 bt802.2 0)) else (none)) else (none))=some r:=by rw [if_pos rfl] at H;exact H
                              clear H
                              have H:=H1
                              clear H1
                              by_cases c105 : 0≤x40_9
                              ·rw [if_pos c105] at H
                               have c105b0 : decide (0≤x40_9)=true:=decide_eq_true c105
                               clear c105
                               by_cases c106 : x40_9 < (t786.length : Int)
                               ·rw [if_pos c106] at H
                                have c106b0 : decide (x40_9 < (t786.length : Int))=true:=decide_eq_true c106
                                clear c106
                                replace H:=obs H
                                obtain ⟨⟨t802,t803⟩,A1070,H⟩:=H
                                replace H : (laws_FnSumps.l2 kj101 t786 t787 t792 t793 x40_9 t802 t803 0)=some r:=H
                                have A107:=amk A1070
                                clear A1070
                                have H':=amk H
                                clear H
                                have p801 : 0≤(x40_9 : Int):=of_decide_eq_true ass
                                have q801 : x40_9 < (t786.length : Int):=of_decide_eq_true ass
                                obtain ⟨ad801,e801,hx801_0,hx801_1⟩:=at_T30 (Kd.R_reads' HO_34.out).2.2 x40_9 p801 q801
                                cases e801
                                replace p801:=eq_true p801
                                replace q801:=eq_true q801
                                go_wp2_with (first | (go_at_call 37;(with_reducible refine (impl_ClosedSumps.calls kj101 _ _ t786 _ _ t787 ((rd_T30 t786 x40_9).f0) t802 t803 _ ?side1 ?side2 ?side3 ?side4 A107.out).mono ?_);(case side1=>exact ccc (Kd.R_reads' HO_34.out).2.2);(case side2=>exact (Kd.R_reads' HO_34.out).2.1);(case side3=>exact ccc (Kd.R_reads' HO_35.out).2.2);(case side4=>exact (Kd.R_reads' HO_35.out).2.1);rintro e w108 ⟨v804,rfl,ho0,hb⟩;replace HO_34:=amk (Kd.R_below (rrr HO_34) hb);replace HO_35:=amk (Kd.R_below (rrr HO_35) hb);have HO805:=amk (Kd.R_lower (Kd.R_new' ho0 (Kd.R_lt (rrr HO_36))) (below_size (bel1 HB GE731.out)));replace HO_36:=amk (Kd.R_elder' (rrr HO_36) (Kd.R_base ho0) hb);replace BK731:=amk (blk_below (g:=gb731) (o:=.cells #[.int .i64 t727,.int .i64 t728,.int .i64 t729] 44 (0,0)) (bkk BK731) hb);replace HB:=amk (below_step (bel1 HB GE731.out) hb);(try clear hb ho0)))
                                repeat (go_quiet (first | (go_at_call 37;(with_reducible refine (impl_ClosedSumps.calls kj101 _ _ t786 _ _ t787 ((rd_T30 t786 x40_9).f0) t802 t803 _ ?side1 ?side2 ?side3 ?side4 A107.out).mono ?_);(case side1=>exact ccc (Kd.R_reads' HO_34.out).2.2);(case side2=>exact (Kd.R_reads' HO_34.out).2.1);(case side3=>exact ccc (Kd.R_reads' HO_35.out).2.2);(case side4=>exact (Kd.R_reads' HO_35.out).2.1);rintro e w108 ⟨v804,rfl,ho0,hb⟩;replace HO_34:=amk (Kd.R_below (rrr HO_34) hb);replace HO_35:=amk (Kd.R_below (rrr HO_35) hb);have HO805:=amk (Kd.R_lower (Kd.R_new' ho0 (Kd.R_lt (rrr HO_36))) (below_size (bel1 HB GE731.out)));replace HO_36:=amk (Kd.R_elder' (rrr HO_36) (Kd.R_base ho0) hb);replace BK731:=amk (blk_below (g:=gb731) (o:=.cells #[.int .i64 t727,.int .i64 t728,.int .i64 t729] 44 (0,0)) (bkk BK731) hb);replace HB:=amk (below_step (bel1 HB GE731.out) hb);(try clear hb ho0)));try go_wp2_with (first | (go_at_call 37;(with_reducible refine (impl_ClosedSumps.calls kj101 _ _ t786 _ _ t787 ((rd_T30 t786 x40_9).f0) t802 t803 _ ?side1 ?side2 ?side3 ?side4 A107.out).mono ?_);(case side1=>exact ccc (Kd.R_reads' HO_34.out).2.2);(case side2=>exact (Kd.R_reads' HO_34.out).2.1);(case side3=>exact ccc (Kd.R_reads' HO_35.out).2.2);(case side4=>exact (Kd.R_reads' HO_35.out).2.1);rintro e w108 ⟨v804,rfl,ho0,hb⟩;replace HO_34:=amk (Kd.R_below (rrr HO_34) hb);replace HO_35:=amk (Kd.R_below (rrr HO_35) hb);have HO805:=amk (Kd.R_lower (Kd.R_new' ho0 (Kd.R_lt (rrr HO_36))) (below_size (bel1 HB GE731.out)));replace HO_36:=amk (Kd.R_elder' (rrr HO_36) (Kd.R_base ho0) hb);replace BK731:=amk (blk_below (g:=gb731) (o:=.cells #[.int .i64 t727,.int .i64 t728,.int .i64 t729] 44 (0,0)) (bkk BK731) hb);replace HB:=amk (below_step (bel1 HB GE731.out) hb);(try clear hb ho0))))
                                go_loopg [43] kj101 (fun kq v43 w'=>∃ (x43_11 : Int),v43 = .int .i64 x43_11∧Aside0 (laws_FnSumps.l2 kq t786 t787 t792 t793 x40_9 t802 t803 x43_11=some r)∧Aside0 (kq≤kj101)∧Aside0 (Kd.R k30 30 w' w.heap.size (fun _=>True) (.slice (some ad801) t786.length co93) t786)∧Aside0 (Kd.R k44 44 w' w.heap.size (fun k_=>k_ ≠ gb731) (.slice Ao94 t787.length co94) t787)∧Aside0 (Kd.R (Kd.int .i64) 3 w' w.heap.size (fun k_=>some k_ ≠ (v804 : Value).ownBlock) v794 t792)∧Aside0 (Kd.R (Kd.int .i64) 3 w' w.heap.size (fun k_=>some k_ ≠ (v794 : Value).ownBlock) v804 t802)∧Aside0 (w'.heap[gb731]? = some (.cells #[.int .i64 t727,.int .i64 t728,.int .i64 t729] 44 (0,0)))∧Aside0 (Below w.heap.size w w'))
                                case atStart=>exact ⟨(0),rsd,H',⟨Nat.le_refl _⟩,⟨rrr HO_34⟩,⟨rrr HO_35⟩,⟨by (with_reducible repeat (first | apply Kd.R_alloc | apply Kd.R_drewN | apply Kd.R_drew));exact Kd.R_mono HO_36.out (fun _ hk=>hk.2)⟩,⟨by (with_reducible repeat (first | apply Kd.R_alloc | apply Kd.R_drewN | apply Kd.R_drew));exact Kd.R_mono HO805.out (fun _ hk=>hk.2)⟩,⟨by (with_reducible repeat (first | refine blk_drewN ?_ _ | refine blk_drew ?_ | refine blk_alloc ?_ _));exact BK731.out⟩,⟨bel1 HB GE731.out⟩⟩
                                case round=>as_aux_lemma=>
                                 clear H'
                                 try clear c1
                                 try clear c2
                                 try clear p2
                                 try clear c3
                                 try clear c4
                                 try clear c5
                                 try clear c6
                                 try clear p6
                                 try clear c7
                                 try clear p7
                                 try clear q7
                                 try clear hx7
                                 try clear qi7
                                 try clear c8
                                 try clear p8
                                 try clear q8
                                 try clear hx8
                                 try clear c9
                                 try clear c10
                                 try clear c15
                                 try clear c15b0
                                 try clear c15b1
                                 try clear c15b2
                                 try clear c16
                                 try clear c24
                                 try clear c24b0
                                 try clear c24b1
                                 try clear c24b2
                                 try clear c28
                                 try clear c29
                                 try clear c29b0
                                 try clear c30
                                 try clear c32
                                 try clear c32b0
                                 try clear c33
                                 try clear c33b0
                                 try clear c33b1
                                 try clear c34
                                 try clear c34b0
                                 try clear c35
                                 try clear c35b0
                                 try clear c35b1
                                 try clear c40
                                 try clear c41
                                 try clear c51
                                 try clear c51b0
                                 try clear c51b1
                                 try clear c52
                                 try clear c54
                                 try clear c60
                                 try clear c61
                                 try clear c62
                                 try clear c62b0
                                 try clear c62b1
                                 try clear c62b2
                                 try clear p64
                                 try clear c66
                                 try clear p74
                                 try clear q74
                                 try clear hx74
                                 try clear c76
                                 try clear c76b0
                                 try clear c76b1
                                 try clear c76b2
                                 try clear c78
                                 try clear p80
                                 try clear q80
                                 try clear hx80
                                 try clear c87
                                 try clear c97
                                 try clear c97b0
                                 try clear c97b1
                                 try clear c97b2
                                 try clear c101
                                 try clear c103
                                 try clear c103b0
                                 try clear c104
                                 try clear c105
                                 try clear c105b0
                                 try clear c106
                                 try clear c106b0
                                 try clear hcz10_0
                                 try clear hcz10_1
                                 try clear hcz10_2
                                 try clear hcz13_0
                                 try clear hcz13_1
                                 try clear hcz13_2
                                 try clear hcz20_0
                                 try clear hcz20_1
                                 try clear hcz20_2
                                 try clear hcz22_0
                                 try clear hcz22_1
                                 try clear hcz22_2
                                 try clear hfz10_0
                                 try clear hfz10_1
                                 try clear hfz10_2
                                 try clear hfz13_0
                                 try clear hfz13_1
                                 try clear hfz13_2
                                 try clear hfz20_0
                                 try clear hfz20_1
                                 try clear hfz20_2
                                 try clear hfz22_0
                                 try clear hfz22_1
                                 try clear hfz22_2
                                 try clear hx745_0
                                 try clear hx746_0
                                 try clear hx747_0
                                 try clear hx748_0
                                 try clear hx801_0
                                 try clear hx801_1
                                 try clear p2
                                 try clear p6
                                 try clear p64
                                 try clear p7
                                 try clear p74
                                 try clear p745
                                 try clear p746
                                 try clear p747
                                 try clear p748
                                 try clear p801
                                 try clear q7
                                 try clear q74
                                 try clear q745
                                 try clear q746
                                 try clear q747
                                 try clear q748
                                 try clear q801
                                 obtain ⟨x43_11,rfl,HA,HK11,HO_34,HO_35,HO_36,HO_41,BK731,HB⟩:=hrel
                                 cases gk with
                                 | zero=>exact absurd HA.out (by simp [laws_FnSumps.l2])
                                 | succ k11=>
                                  have H:=HA.out
                                  clear HA
                                  simp only [laws_FnSumps.l2] at H
                                  by_cases c109 : x43_11 < (t787.length : Int)
                                  ·rw [if_pos c109] at H
                                   have c109b0 : decide (x43_11 < (t787.length : Int))=true:=decide_eq_true c109
                                   clear c109
                                   have HC110:=amk H
                                   clear H
                                   go_upto_region 46 with (fail)
                                   repeat (go_quiet (fail);go_upto_region 46 with (fail))
                                   go_cut [312] (fun v312 wc=>∃ (kq : Nat) (x312_109 : Bool),v312 = .bool x312_109∧Aside0 (laws_FnSumps.j12 kq t786 t787 t792 t793 x40_9 t802 t803 x43_11 x312_109=some r)∧Aside0 (kq≤k11)∧Aside0 (Kd.R k30 30 wc w.heap.size (fun _=>True) (.slice (some ad801) t786.length co93) t786)∧Aside0 (Kd.R k44 44 wc w.heap.size (fun k_=>k_ ≠ gb731) (.slice Ao94 t787.length co94) t787)∧Aside0 (Kd.R (Kd.int .i64) 3 wc w.heap.size (fun k_=>some k_ ≠ (v804 : Value).ownBlock) v794 t792)∧Aside0 (Kd.R (Kd.int .i64) 3 wc w.heap.size (fun k_=>some k_ ≠ (v794 : Value).ownBlock) v804 t802)∧Aside0 (wc.heap[gb731]? = some (.cells #[.int .i64 t727,.int .i64 t728,.int .i64 t729] 44 (0,0)))∧Aside0 (Below w.heap.size w wc))
                                   case first=>as_aux_lemma=>
                                    have H:=HC110.out
                                    clear HC110
                                    by_cases c111 : t803=true
                                    ·subst c111
                                     have H1 : (if 0≤x40_9 then (if x40_9 < (t786.length : Int) then (if 0≤x43_11 then (if ((rd_T30 t786 x40_9).f1) > ((rd_T44 t787 x43_11).f1) then ((laws_rHas.f k11 t802 ((rd_T44 t787 x43_11).f0)).bind fun t809=>(if t809=true then ((laws_rHas.f k11 t792 ((rd_T44 t787 x43_11).f0)).bind fun t811=>(laws_FnSumps.j12 k11 t786 t787 t792 t793 x40_9 t802 true x43_11 (!t811))) else (laws_FnSumps.j12 k11 t786 t787 t792 t793 x40_9 t802 true x43_11 true))) else (laws_FnSumps.j12 k11 t786 t787 t792 t793 x40_9 t802 true x43_11 false)) else (none)) else (none)) else (none))=some r:=by rw [if_pos rfl] at H;exact H
                                     clear H
                                     have H:=H1
                                     clear H1
                                     by_cases c112 : 0≤x40_9
                                     ·rw [if_pos c112] at H
                                      have c112b0 : decide (0≤x40_9)=true:=decide_eq_true c112
                                      clear c112
                                      (first | rw [c112b0] | (simp only [i64_w,i32_w];rw [c112b0]) | skip)
                                      by_cases c113 : x40_9 < (t786.length : Int)
                                      ·rw [if_pos c113] at H
                                       have c113b0 : decide (x40_9 < (t786.length : Int))=true:=decide_eq_true c113
                                       clear c113
                                       by_cases c114 : 0≤x43_11
                                       ·rw [if_pos c114] at H
                                        have c114b0 : decide (0≤x43_11)=true:=decide_eq_true c114
                                        clear c114
                                        by_cases c115 : ((rd_T30 t786 x40_9).f1) > ((rd_T44 t787 x43_11).f1)
                                        ·rw [if_pos c115] at H
                                         have c115b0 : decide (((rd_T44 t787 x43_11).f1) < ((rd_T30 t786 x40_9).f1))=true:=decide_eq_true c115
                                         clear c115
                                         replace H:=obs H
                                         obtain ⟨t809,A1160,H⟩:=H
                                         replace H : (if t809=true then ((laws_rHas.f k11 t792 ((rd_T44 t787 x43_11).f0)).bind fun t811=>(laws_FnSumps.j12 k11 t786 t787 t792 t793 x40_9 t802 true x43_11 (!t811))) else (laws_FnSumps.j12 k11 t786 t787 t792 t793 x40_9 t802 true x43_11 true))=some r:=H
                                         have A116:=amk A1160
                                         clear A1160
                                         by_cases c117 : t809=true
                                         ·subst c117
                                          have H1 : ((laws_rHas.f k11 t792 ((rd_T44 t787 x43_11).f0)).bind fun t811=>(laws_FnSumps.j12 k11 t786 t787 t792 t793 x40_9 t802 true x43_11 (!t811)))=some r:=by rw [if_pos rfl] at H;exact H
                                          clear H
                                          have H:=H1
                                          clear H1
                                          replace H:=obs H
                                          obtain ⟨t811,A1180,H⟩:=H
                                          replace H : (laws_FnSumps.j12 k11 t786 t787 t792 t793 x40_9 t802 true x43_11 (!t811))=some r:=H
                                          have A118:=amk A1180
                                          clear A1180
                                          have H':=amk H
                                          clear H
                                          have p806 : 0≤(x40_9 : Int):=of_decide_eq_true ass
                                          have q806 : x40_9 < (t786.length : Int):=of_decide_eq_true ass
                                          obtain ⟨ad806,e806,hx806_0,hx806_1⟩:=at_T30 (Kd.R_reads' HO_34.out).2.2 x40_9 p806 q806
                                          obtain rfl : ad801=ad806:=(by injection e806)
                                          replace p806:=eq_true p806
                                          replace q806:=eq_true q806
                                          have p807 : 0≤(x43_11 : Int):=of_decide_eq_true ass
                                          have q807 : x43_11 < (t787.length : Int):=of_decide_eq_true ass
                                          obtain ⟨ad807,e807,hx807_0,hx807_1,hx807_2⟩:=at_T44 (Kd.R_reads' HO_35.out).2.2 x43_11 p807 q807
                                          cases e807
                                          replace p807:=eq_true p807
                                          replace q807:=eq_true q807
                                          have p808 : 0≤(x43_11 : Int):=of_decide_eq_true ass
                                          have q808 : x43_11 < (t787.length : Int):=of_decide_eq_true ass
                                          obtain ⟨ad808,e808,hx808_0,hx808_1,hx808_2⟩:=at_T44 (Kd.R_reads' HO_35.out).2.2 x43_11 p808 q808
                                          obtain rfl : ad807=ad808:=(by injection e808)
                                          replace p808:=eq_true p808
                                          replace q808:=eq_true q808
                                          obtain ⟨Ao119,co119,eo119⟩:=Kd.R_slice HO_41.out
                                          subst eo119
                                          go_wp2_with (first | (go_at_call 46;(with_reducible refine (laws_rHas.calls k11 _ _ t802 ((rd_T44 t787 x43_11).f0) true _ ?side1 ?side2 A116.out).mono ?_);(case side1=>exact ccc (Kd.R_reads' HO_41.out).2.2);(case side2=>exact (Kd.R_reads' HO_41.out).2.1);rintro e w' ⟨rfl,⟨nd,rfl⟩⟩;(try exact ddd);have p810 : 0≤(x43_11 : Int):=of_decide_eq_true ass;have q810 : x43_11 < (t787.length : Int):=of_decide_eq_true ass;obtain ⟨ad810,e810,hx810_0,hx810_1,hx810_2⟩:=at_T44 (Kd.R_reads' HO_35.out).2.2 x43_11 p810 q810;obtain rfl : ad807=ad810:=(by injection e810);replace p810:=eq_true p810;replace q810:=eq_true q810;obtain ⟨Ao120,co120,eo120⟩:=Kd.R_slice HO_36.out;subst eo120)|(go_at_call 46;(with_reducible refine (laws_rHas.calls k11 _ _ t792 ((rd_T44 t787 x43_11).f0) t811 _ ?side1 ?side2 A118.out).mono ?_);(case side1=>exact ccc (Kd.R_reads' HO_36.out).2.2);(case side2=>exact (Kd.R_reads' HO_36.out).2.1);rintro e w' ⟨rfl,⟨nd,rfl⟩⟩;(try exact ddd)))
                                          repeat (go_quiet (first | (go_at_call 46;(with_reducible refine (laws_rHas.calls k11 _ _ t802 ((rd_T44 t787 x43_11).f0) true _ ?side1 ?side2 A116.out).mono ?_);(case side1=>exact ccc (Kd.R_reads' HO_41.out).2.2);(case side2=>exact (Kd.R_reads' HO_41.out).2.1);rintro e w' ⟨rfl,⟨nd,rfl⟩⟩;(try exact ddd);have p810 : 0≤(x43_11 : Int):=of_decide_eq_true ass;have q810 : x43_11 < (t787.length : Int):=of_decide_eq_true ass;obtain ⟨ad810,e810,hx810_0,hx810_1,hx810_2⟩:=at_T44 (Kd.R_reads' HO_35.out).2.2 x43_11 p810 q810;obtain rfl : ad807=ad810:=(by injection e810);replace p810:=eq_true p810;replace q810:=eq_true q810;obtain ⟨Ao120,co120,eo120⟩:=Kd.R_slice HO_36.out;subst eo120)|(go_at_call 46;(with_reducible refine (laws_rHas.calls k11 _ _ t792 ((rd_T44 t787 x43_11).f0) t811 _ ?side1 ?side2 A118.out).mono ?_);(case side1=>exact ccc (Kd.R_reads' HO_36.out).2.2);(case side2=>exact (Kd.R_reads' HO_36.out).2.1);rintro e w' ⟨rfl,⟨nd,rfl⟩⟩;(try exact ddd)));try go_wp2_with (first | (go_at_call 46;(with_reducible refine (laws_rHas.calls k11 _ _ t802 ((rd_T44 t787 x43_11).f0) true _ ?side1 ?side2 A116.out).mono ?_);(case side1=>exact ccc (Kd.R_reads' HO_41.out).2.2);(case side2=>exact (Kd.R_reads' HO_41.out).2.1);rintro e w' ⟨rfl,⟨nd,rfl⟩⟩;(try exact ddd);have p810 : 0≤(x43_11 : Int):=of_decide_eq_true ass;have q810 : x43_11 < (t787.length : Int):=of_decide_eq_true ass;obtain ⟨ad810,e810,hx810_0,hx810_1,hx810_2⟩:=at_T44 (Kd.R_reads' HO_35.out).2.2 x43_11 p810 q810;obtain rfl : ad807=ad810:=(by injection e810);replace p810:=eq_true p810;replace q810:=eq_true q810;obtain ⟨Ao120,co120,eo120⟩:=Kd.R_slice HO_36.out;subst eo120)|(go_at_call 46;(with_reducible refine (laws_rHas.calls k11 _ _ t792 ((rd_T44 t787 x43_11).f0) t811 _ ?side1 ?side2 A118.out).mono ?_);(case side1=>exact ccc (Kd.R_reads' HO_36.out).2.2);(case side2=>exact (Kd.R_reads' HO_36.out).2.1);rintro e w' ⟨rfl,⟨nd,rfl⟩⟩;(try exact ddd))))
                                          go_meet
                                          case rel=>exact ⟨_,(!t811),rsd,H',⟨by have:=HJ6.out;have:=HJ18.out;have:=HK3.out;have:=HJ37.out;have:=HJ44.out;have:=HJ52.out;have:=HJ69.out;have:=HJ90.out;have:=HK9.out;have:=HJ101.out;have:=HK11.out;first | omega | exact Nat.le_refl _⟩,⟨rrr HO_34⟩,⟨rrr HO_35⟩,⟨rrr HO_36⟩,⟨rrr HO_41⟩,⟨by (with_reducible repeat (first | refine blk_drewN ?_ _ | refine blk_drew ?_ | refine blk_alloc ?_ _));exact BK731.out⟩,⟨bel1 HB GE731.out⟩⟩
                                         ·replace c117:=Bool.eq_false_iff.mpr c117
                                          subst c117
                                          have H1 : (laws_FnSumps.j12 k11 t786 t787 t792 t793 x40_9 t802 true x43_11 true)=some r:=by rw [if_neg (show ¬ (false=true) by decide)] at H;exact H
                                          clear H
                                          have H:=H1
                                          clear H1
                                          have H':=amk H
                                          clear H
                                          have p806 : 0≤(x40_9 : Int):=of_decide_eq_true ass
                                          have q806 : x40_9 < (t786.length : Int):=of_decide_eq_true ass
                                          obtain ⟨ad806,e806,hx806_0,hx806_1⟩:=at_T30 (Kd.R_reads' HO_34.out).2.2 x40_9 p806 q806
                                          obtain rfl : ad801=ad806:=(by injection e806)
                                          replace p806:=eq_true p806
                                          replace q806:=eq_true q806
                                          have p807 : 0≤(x43_11 : Int):=of_decide_eq_true ass
                                          have q807 : x43_11 < (t787.length : Int):=of_decide_eq_true ass
                                          obtain ⟨ad807,e807,hx807_0,hx807_1,hx807_2⟩:=at_T44 (Kd.R_reads' HO_35.out).2.2 x43_11 p807 q807
                                          cases e807
                                          replace p807:=eq_true p807
                                          replace q807:=eq_true q807
                                          have p808 : 0≤(x43_11 : Int):=of_decide_eq_true ass
                                          have q808 : x43_11 < (t787.length : Int):=of_decide_eq_true ass
                                          obtain ⟨ad808,e808,hx808_0,hx808_1,hx808_2⟩:=at_T44 (Kd.R_reads' HO_35.out).2.2 x43_11 p808 q808
                                          obtain rfl : ad807=ad808:=(by injection e808)
                                          replace p808:=eq_true p808
                                          replace q808:=eq_true q808
                                          obtain ⟨Ao121,co121,eo121⟩:=Kd.R_slice HO_41.out
                                          subst eo121
                                          go_wp2_with (first | (go_at_call 46;(with_reducible refine (laws_rHas.calls k11 _ _ t802 ((rd_T44 t787 x43_11).f0) false _ ?side1 ?side2 A116.out).mono ?_);(case side1=>exact ccc (Kd.R_reads' HO_41.out).2.2);(case side2=>exact (Kd.R_reads' HO_41.out).2.1);rintro e w' ⟨rfl,⟨nd,rfl⟩⟩;(try exact ddd)))
                                          repeat (go_quiet (first | (go_at_call 46;(with_reducible refine (laws_rHas.calls k11 _ _ t802 ((rd_T44 t787 x43_11).f0) false _ ?side1 ?side2 A116.out).mono ?_);(case side1=>exact ccc (Kd.R_reads' HO_41.out).2.2);(case side2=>exact (Kd.R_reads' HO_41.out).2.1);rintro e w' ⟨rfl,⟨nd,rfl⟩⟩;(try exact ddd)));try go_wp2_with (first | (go_at_call 46;(with_reducible refine (laws_rHas.calls k11 _ _ t802 ((rd_T44 t787 x43_11).f0) false _ ?side1 ?side2 A116.out).mono ?_);(case side1=>exact ccc (Kd.R_reads' HO_41.out).2.2);(case side2=>exact (Kd.R_reads' HO_41.out).2.1);rintro e w' ⟨rfl,⟨nd,rfl⟩⟩;(try exact ddd))))
                                          go_meet
                                          case rel=>exact ⟨_,(true),rsd,H',⟨by have:=HJ6.out;have:=HJ18.out;have:=HK3.out;have:=HJ37.out;have:=HJ44.out;have:=HJ52.out;have:=HJ69.out;have:=HJ90.out;have:=HK9.out;have:=HJ101.out;have:=HK11.out;first | omega | exact Nat.le_refl _⟩,⟨rrr HO_34⟩,⟨rrr HO_35⟩,⟨rrr HO_36⟩,⟨rrr HO_41⟩,⟨by (with_reducible repeat (first | refine blk_drewN ?_ _ | refine blk_drew ?_ | refine blk_alloc ?_ _));exact BK731.out⟩,⟨bel1 HB GE731.out⟩⟩
                                        ·rw [if_neg c115] at H
                                         have c115b0 : decide (((rd_T44 t787 x43_11).f1) < ((rd_T30 t786 x40_9).f1))=false:=decide_eq_false c115
                                         clear c115
                                         have H':=amk H
                                         clear H
                                         have p806 : 0≤(x40_9 : Int):=of_decide_eq_true ass
                                         have q806 : x40_9 < (t786.length : Int):=of_decide_eq_true ass
                                         obtain ⟨ad806,e806,hx806_0,hx806_1⟩:=at_T30 (Kd.R_reads' HO_34.out).2.2 x40_9 p806 q806
                                         obtain rfl : ad801=ad806:=(by injection e806)
                                         replace p806:=eq_true p806
                                         replace q806:=eq_true q806
                                         have p807 : 0≤(x43_11 : Int):=of_decide_eq_true ass
                                         have q807 : x43_11 < (t787.length : Int):=of_decide_eq_true ass
                                         obtain ⟨ad807,e807,hx807_0,hx807_1,hx807_2⟩:=at_T44 (Kd.R_reads' HO_35.out).2.2 x43_11 p807 q807
                                         cases e807
                                         replace p807:=eq_true p807
                                         replace q807:=eq_true q807
                                         go_wp2
                                         repeat (go_quiet (fail);try go_wp2)
                                         go_meet
                                         case rel=>exact ⟨_,(false),rsd,H',⟨by have:=HJ6.out;have:=HJ18.out;have:=HK3.out;have:=HJ37.out;have:=HJ44.out;have:=HJ52.out;have:=HJ69.out;have:=HJ90.out;have:=HK9.out;have:=HJ101.out;have:=HK11.out;first | omega | exact Nat.le_refl _⟩,⟨rrr HO_34⟩,⟨rrr HO_35⟩,⟨rrr HO_36⟩,⟨rrr HO_41⟩,⟨by (with_reducible repeat (first | refine blk_drewN ?_ _ | refine blk_drew ?_ | refine blk_alloc ?_ _));exact BK731.out⟩,⟨bel1 HB GE731.out⟩⟩
                                       ·rw [if_neg c114] at H
                                        exact absurd H (by simp)
                                      ·rw [if_neg c113] at H
                                       exact absurd H (by simp)
                                     ·rw [if_neg c112] at H
                                      exact absurd H (by simp)
                                    ·replace c111:=Bool.eq_false_iff.mpr c111
                                     subst c111
                                     have H1 : (laws_FnSumps.j12 k11 t786 t787 t792 t793 x40_9 t802 false x43_11 true)=some r:=by rw [if_neg (show ¬ (false=true) by decide)] at H;exact H
                                     clear H
                                     have H:=H1
                                     clear H1
                                     have H':=amk H
                                     clear H
                                     go_wp2
                                     repeat (go_quiet (fail);try go_wp2)
                                     go_meet
                                     case rel=>exact ⟨_,(true),rsd,H',⟨by have:=HJ6.out;have:=HJ18.out;have:=HK3.out;have:=HJ37.out;have:=HJ44.out;have:=HJ52.out;have:=HJ69.out;have:=HJ90.out;have:=HK9.out;have:=HJ101.out;have:=HK11.out;first | omega | exact Nat.le_refl _⟩,⟨rrr HO_34⟩,⟨rrr HO_35⟩,⟨rrr HO_36⟩,⟨rrr HO_41⟩,⟨by (with_reducible repeat (first | refine blk_drewN ?_ _ | refine blk_drew ?_ | refine blk_alloc ?_ _));exact BK731.out⟩,⟨bel1 HB GE731.out⟩⟩
                                   case rest=>as_aux_lemma=>
                                    clear HC110
                                    try clear c1
                                    try clear c2
                                    try clear p2
                                    try clear c3
                                    try clear c4
                                    try clear c5
                                    try clear c6
                                    try clear p6
                                    try clear c7
                                    try clear p7
                                    try clear q7
                                    try clear hx7
                                    try clear qi7
                                    try clear c8
                                    try clear p8
                                    try clear q8
                                    try clear hx8
                                    try clear c9
                                    try clear c10
                                    try clear c11
                                    try clear c15
                                    try clear c15b0
                                    try clear c15b1
                                    try clear c15b2
                                    try clear c16
                                    try clear c24
                                    try clear c24b0
                                    try clear c24b1
                                    try clear c24b2
                                    try clear c28
                                    try clear c29
                                    try clear c29b0
                                    try clear c30
                                    try clear c32
                                    try clear c32b0
                                    try clear c33
                                    try clear c33b0
                                    try clear c33b1
                                    try clear c34
                                    try clear c34b0
                                    try clear c35
                                    try clear c35b0
                                    try clear c35b1
                                    try clear c40
                                    try clear c41
                                    try clear c51
                                    try clear c51b0
                                    try clear c51b1
                                    try clear c52
                                    try clear c54
                                    try clear c60
                                    try clear c61
                                    try clear c62
                                    try clear c62b0
                                    try clear c62b1
                                    try clear c62b2
                                    try clear p64
                                    try clear c66
                                    try clear p74
                                    try clear q74
                                    try clear hx74
                                    try clear c76
                                    try clear c76b0
                                    try clear c76b1
                                    try clear c76b2
                                    try clear c78
                                    try clear p80
                                    try clear q80
                                    try clear hx80
                                    try clear p81
                                    try clear q81
                                    try clear hx81
                                    try clear c87
                                    try clear c97
                                    try clear c97b0
                                    try clear c97b1
                                    try clear c97b2
                                    try clear c101
                                    try clear c103
                                    try clear c103b0
                                    try clear c104
                                    try clear c105
                                    try clear c105b0
                                    try clear c106
                                    try clear c106b0
                                    try clear c109
                                    try clear c109b0
                                    try clear c111
                                    try clear c112
                                    try clear c112b0
                                    try clear c113
                                    try clear c113b0
                                    try clear c114
                                    try clear c114b0
                                    try clear c115
                                    try clear c115b0
                                    try clear c117
                                    try clear hcz10_0
                                    try clear hcz10_1
                                    try clear hcz10_2
                                    try clear hcz13_0
                                    try clear hcz13_1
                                    try clear hcz13_2
                                    try clear hcz20_0
                                    try clear hcz20_1
                                    try clear hcz20_2
                                    try clear hcz22_0
                                    try clear hcz22_1
                                    try clear hcz22_2
                                    try clear hfz10_0
                                    try clear hfz10_1
                                    try clear hfz10_2
                                    try clear hfz13_0
                                    try clear hfz13_1
                                    try clear hfz13_2
                                    try clear hfz20_0
                                    try clear hfz20_1
                                    try clear hfz20_2
                                    try clear hfz22_0
                                    try clear hfz22_1
                                    try clear hfz22_2
                                    try clear hx745_0
                                    try clear hx746_0
                                    try clear hx747_0
                                    try clear hx748_0
                                    try clear hx801_0
                                    try clear hx801_1
                                    try clear hx806_0
                                    try clear hx806_1
                                    try clear hx807_0
                                    try clear hx807_1
                                    try clear hx807_2
                                    try clear hx808_0
                                    try clear hx808_1
                                    try clear hx808_2
                                    try clear hx810_0
                                    try clear hx810_1
                                    try clear hx810_2
                                    try clear p2
                                    try clear p6
                                    try clear p64
                                    try clear p7
                                    try clear p74
                                    try clear p745
                                    try clear p746
                                    try clear p747
                                    try clear p748
                                    try clear p8
                                    try clear p80
                                    try clear p801
                                    try clear p806
                                    try clear p807
                                    try clear p808
                                    try clear p810
                                    try clear q7
                                    try clear q74
                                    try clear q745
                                    try clear q746
                                    try clear q747
                                    try clear q748
                                    try clear q8
                                    try clear q80
                                    try clear q801
                                    try clear q806
                                    try clear q807
                                    try clear q808
                                    try clear q810
                                    obtain ⟨kq,x312_109,rfl,HA,HJ109,HO_34,HO_35,HO_36,HO_41,BK731,HB⟩:=hcut
                                    cases kq with
                                    | zero=>exact absurd HA.out (by simp [laws_FnSumps.j12])
                                    | succ kj109=>
                                     have H:=HA.out
                                     clear HA
                                     simp only [laws_FnSumps.j12] at H
                                     by_cases c122 : x312_109=true
                                     ·subst c122
                                      have H1 : (some false)=some r:=by rw [if_pos rfl] at H;exact H
                                      clear H
                                      have H:=H1
                                      clear H1
                                      obtain rfl:=Option.some.inj H
                                      go_wp2
                                      repeat (go_quiet (fail);try go_wp2)
                                      go_ret
                                      exact ⟨erw0,bel1 HB GE731.out⟩
                                     ·replace c122:=Bool.eq_false_iff.mpr c122
                                      subst c122
                                      have H1 : (laws_FnSumps.l2 kj109 t786 t787 t792 t793 x40_9 t802 t803 (wrap64 (x43_11 + 1)))=some r:=by rw [if_neg (show ¬ (false=true) by decide)] at H;exact H
                                      clear H
                                      have H:=H1
                                      clear H1
                                      have H':=amk H
                                      clear H
                                      go_wp2
                                      repeat (go_quiet (fail);try go_wp2)
                                      go_roundg kj109
                                      case measure=>have:=HJ6.out;have:=HJ18.out;have:=HK3.out;have:=HJ37.out;have:=HJ44.out;have:=HJ52.out;have:=HJ69.out;have:=HJ90.out;have:=HK9.out;have:=HJ101.out;have:=HK11.out;have:=HJ109.out;omega
                                      case rel=>exact ⟨(wrap64 (x43_11 + 1)),rsd,H',⟨by have:=HJ6.out;have:=HJ18.out;have:=HK3.out;have:=HJ37.out;have:=HJ44.out;have:=HJ52.out;have:=HJ69.out;have:=HJ90.out;have:=HK9.out;have:=HJ101.out;have:=HK11.out;have:=HJ109.out;omega⟩,⟨rrr HO_34⟩,⟨rrr HO_35⟩,⟨rrr HO_36⟩,⟨rrr HO_41⟩,⟨by (with_reducible repeat (first | refine blk_drewN ?_ _ | refine blk_drew ?_ | refine blk_alloc ?_ _));exact BK731.out⟩,⟨bel1 HB GE731.out⟩⟩
                                  ·rw [if_neg c109] at H
                                   have c109b0 : decide (x43_11 < (t787.length : Int))=false:=decide_eq_false c109
                                   clear c109
                                   have H':=amk H
                                   clear H
                                   go_wp2
                                   repeat (go_quiet (fail);try go_wp2)
                                   go_roundg k11
                                   case measure=>have:=HJ6.out;have:=HJ18.out;have:=HK3.out;have:=HJ37.out;have:=HJ44.out;have:=HJ52.out;have:=HJ69.out;have:=HJ90.out;have:=HK9.out;have:=HJ101.out;have:=HK11.out;omega
                                   case rel=>exact ⟨(wrap64 (x40_9 + 1)),rsd,H',⟨by have:=HJ6.out;have:=HJ18.out;have:=HK3.out;have:=HJ37.out;have:=HJ44.out;have:=HJ52.out;have:=HJ69.out;have:=HJ90.out;have:=HK9.out;have:=HJ101.out;have:=HK11.out;omega⟩,⟨rrr HO_34⟩,⟨rrr HO_35⟩,⟨by (with_reducible repeat (first | apply Kd.R_alloc | apply Kd.R_drewN | apply Kd.R_drew));exact Kd.R_mono HO_36.out (fun _ hk=>trivial)⟩,⟨by (with_reducible repeat (first | refine blk_drewN ?_ _ | refine blk_drew ?_ | refine blk_alloc ?_ _));exact BK731.out⟩,⟨bel1 HB GE731.out⟩⟩
                               ·rw [if_neg c106] at H
                                exact absurd H (by simp)
                              ·rw [if_neg c105] at H
                               exact absurd H (by simp)
                             ·replace c104:=Bool.eq_false_iff.mpr c104
                              subst c104
                              have H1 : (some true)=some r:=by rw [if_neg (show ¬ (false=true) by decide)] at H;exact H
                              clear H
                              have H:=H1
                              clear H1
                              obtain rfl:=Option.some.inj H
                              go_wp2
                              repeat (go_quiet (fail);try go_wp2)
                              go_ret
                              exact ⟨erw0,bel1 HB GE731.out⟩
def laws_FnSumps.Pure : Prop:=∀ (l0 : List Int),l0.length≤maxLen→l0.length * 1≤140737488351232→(∀ x ∈ l0,(Lit.int .u8 x).wf=true)→∃ k,laws_FnSumps.f k l0=some true
theorem laws_FnSumps.walk (P : laws_FnSumps.Pure) (a0 : Option Addr) (len0 cap0 : Nat) (z0 : List Int) (w : World) (w0 : (a0=none∧len0=0∧cap0=0∧z0 = []) ∨ ∃ x,a0=some x∧len0≤cap0∧cap0≤maxLen∧z0.length=cap0∧(∀ i,i < z0.length→w.cell? (x.add i)=some (.int .u8 (z0.getD i 0)))∧∀ n ∈ z0,(Lit.int .u8 n).wf=true) (y0 : len0 * 1≤140737488351232) :
  Calls Try.prog 6 #[.slice a0 len0 cap0] w fun e w'=>e = .returned (.bool true)∧Below w.heap.size w w':=by
 obtain ⟨l0,rfl,hr0,hm0,hw0,hc0⟩:=ReadsInt.ofRowC w0
 obtain ⟨k,h⟩:=P l0 hm0 y0 hw0
 refine (laws_FnSumps.calls k _ _ l0 true w (Kd.C_of_reads (d:=(0 : Int)) (h1:=fun _=>rfl) hr0) hc0 h).mono ?_
 rintro e w' ⟨rfl,hd⟩
 exact ⟨rfl,hd⟩
end Go.Proofs.Ytldifiededjgjaa.P
namespace Go.Proofs.Ytldifiededjgjaa.Pu
open Go.RowKit Go.Proofs.Ytldifiededjgjaa.P Go.Proofs.YtldifiededjgjaaW.PrintWords
theorem wr {x : Int} (h : -9223372036854775808≤x) (h' : x≤9223372036854775807) : wrap64 x=x:=by unfold wrap64;omega
theorem wr_nn {x : Int} (h : 0≤x) (h' : x≤9223372036854775807) : wrap64 x=x:=wr (by omega) h'
theorem Ev.pos {α : Type} {c : Prop} [Decidable c] {a b : Nat→Option α} {r : α} (h : c) (k : Ev a r) : Ev (fun n=>if c then a n else b n) r:=by
 simpa only [if_pos h] using k
theorem Ev.neg {α : Type} {c : Prop} [Decidable c] {a b : Nat→Option α} {r : α} (h : ¬ c) (k : Ev b r) : Ev (fun n=>if c then a n else b n) r:=by
 simpa only [if_neg h] using k
theorem Ev.bindS {α β : Type} {g : Option α} {f : Nat→α→Option β} {a : α} {r : β} (h : g=some a) (k : Ev (fun n=>f n a) r) : Ev (fun n=>g.bind (f n)) r:=by
 subst h;exact k
theorem Ev.someb {α β : Type} {a : α} {f : Nat→α→Option β} {r : β} (k : Ev (fun n=>f n a) r) : Ev (fun n=>(some a).bind (f n)) r:=k
theorem Ev.to {α : Type} {g : Nat→Option α} {r r' : α} (k : Ev g r') (h : r' = r) : Ev g r:=h ▸ k
theorem Ev.uniq {α : Type} {g : Nat→Option α} {r r' : α} (h : Ev g r) (h' : Ev g r') : r=r':=by
 obtain ⟨K,hK⟩:=h
 obtain ⟨K',hK'⟩:=h'
 have a:=hK (max K K') (Nat.le_max_left _ _)
 have b:=hK' (max K K') (Nat.le_max_right _ _)
 rw [a] at b
 exact Option.some.inj b
def Bytes (s : List Int) : Prop:=∀ x ∈ s,0≤x∧x≤255
theorem rd_byte {s : List Int} (h : Bytes s) (i : Int) (h0 : 0≤i) (h1 : i < s.length) : 0≤rd s i∧rd s i≤255:=by
 have e : rd s i=s[i.toNat]'(by omega):=by
  unfold rd
  rw [List.getD_eq_getElem?_getD,List.getElem?_eq_getElem (by omega)]
  rfl
 rw [e]
 exact h _ (List.getElem_mem _)
theorem u64w (n : Int) : 0≤IntKind.u64.wrap n∧IntKind.u64.wrap n < 18446744073709551616:=by
 have e : IntKind.u64.wrap n=n % 18446744073709551616:=by simp [IntKind.wrap,IntKind.bits,IntKind.signed]
 rw [e]
 omega
theorem mask8 (x : Int) (h0 : 0≤x) (h1 : x < 18446744073709551616) : 0≤Go.bits .and .u64 x 255∧Go.bits .and .u64 x 255≤255:=by
 have e:=bits_mask .u64 64 (by decide) (fun n h h'=>by
  have e : IntKind.u64.wrap n=n % 18446744073709551616:=by simp [IntKind.wrap,IntKind.bits,IntKind.signed]
  rw [e]
  have h2 : n < 18446744073709551616:=h'
  omega) 8 (by decide) x h0 h1
 have e2 : Go.bits .and .u64 x 255=x % 256:=e
 rw [e2]
 omega
theorem next_ok {s : List Int} (hs : Bytes s) (a sd : Int) (h0 : 0≤a) (h1 : a≤4611686018427387904) :
  ∃ t sd',spec_l1Cur_next.f s a sd=some (t,a + 1,sd')∧0≤t∧t≤255:=by
 have ea : wrap64 (a + 1)=a + 1:=wr (by omega) (by omega)
 unfold spec_l1Cur_next.f
 simp only [ea]
 by_cases c : a < (s.length : Int)
 ·have hb:=rd_byte hs a h0 c
  rw [if_pos c,if_pos h0,if_pos (by omega)]
  exact ⟨_,_,rfl,by rw [wr (by omega) (by omega)];omega,by rw [wr (by omega) (by omega)];omega⟩
 ·rw [if_neg c]
  by_cases d : a + 1≤(s.length : Int)
  ·rw [if_pos d]
   exact ⟨_,_,rfl,by omega,by omega⟩
  ·rw [if_neg d]
   refine ⟨_,_,rfl,?_⟩
   generalize hq : IntKind.u64.wrap _=q
   have hw : 0≤q∧q < 18446744073709551616:=hq ▸ u64w _
   have hm:=mask8 (q / 1099511627776) (by omega) (by omega)
   rw [wr (by omega) (by omega)]
   exact hm
theorem tmod_lt (x n : Int) (hx : 0≤x) (hn : 1 < n) : 0≤Int.tmod x n∧Int.tmod x n < n:=by
 rw [Int.tmod_eq_emod_of_nonneg hx]
 exact ⟨Int.emod_nonneg _ (by omega),Int.emod_lt_of_pos _ (by omega)⟩
theorem pick_ok {s : List Int} (hs : Bytes s) (a sd n : Int) (h0 : 0≤a) (h1 : a≤4611686018427387000) :
  ∃ t a' sd',spec_l1Cur_pick.f s a sd n=some (t,a',sd')∧0≤t∧(1≤n→t < n)∧(n≤1→t=0)∧a≤a'∧a'≤a + 2:=by
 unfold spec_l1Cur_pick.f
 by_cases c : n≤1
 ·rw [if_pos c]
  exact ⟨_,_,_,rfl,by omega,by omega,by omega,by omega,by omega⟩
 ·rw [if_neg c]
  obtain ⟨t,sd1,e,t0,t1⟩:=next_ok hs a sd h0 (by omega)
  rw [e]
  simp only [Option.bind_some]
  by_cases d : n > 200
  ·rw [if_pos d]
   obtain ⟨u,sd2,e2,u0,u1⟩:=next_ok hs (a + 1) sd1 (by omega) (by omega)
   rw [e2]
   simp only [Option.bind_some]
   rw [if_neg (by omega),wr (x:=t * 256) (by omega) (by omega),wr (x:=t * 256 + u) (by omega) (by omega)]
   have hm:=tmod_lt (t * 256 + u) n (by omega) (by omega)
   exact ⟨_,_,_,rfl,hm.1,fun _=>hm.2,fun h=>absurd h c,by omega,by omega⟩
  ·rw [if_neg d,if_neg (by omega)]
   have hm:=tmod_lt t n (by omega) (by omega)
   exact ⟨_,_,_,rfl,hm.1,fun _=>hm.2,fun h=>absurd h c,by omega,by omega⟩
theorem among_ok {s : List Int} (hs : Bytes s) (a sd : Int) (l : List Int) (hl : 0 < l.length) (h0 : 0≤a) (h1 : a≤4611686018427387000) :
  ∃ i a' sd',spec_l1Cur_among.f s a sd l=some (rd l i,a',sd')∧0≤i∧i < l.length∧a≤a'∧a'≤a + 2:=by
 obtain ⟨t,a',sd',e,t0,t1,_,b0,b1⟩:=pick_ok hs a sd (l.length : Int) h0 h1
 have t2:=t1 (by omega)
 unfold spec_l1Cur_among.f
 rw [e]
 simp only [Option.bind_some]
 rw [if_pos t0,if_pos t2]
 exact ⟨t,a',sd',rfl,t0,t2,b0,b1⟩
theorem rd_mem (l : List Int) (i : Int) (h0 : 0≤i) (h1 : i < l.length) : rd l i ∈ l:=by
 have e : rd l i=l[i.toNat]'(by omega):=by
  unfold rd
  rw [List.getD_eq_getElem?_getD,List.getElem?_eq_getElem (by omega)]
  rfl
 rw [e]
 exact List.getElem_mem _
end Go.Proofs.Ytldifiededjgjaa.Pu
namespace Go.Proofs.Ytldifiededjgjaa.P
open Go.RowKit Go.Proofs.YtldifiededjgjaaW.PrintWords Go.Proofs.YtldifiededjgjaaW.PrintLast Go.Proofs.YtldifiededjgjaaW.PrintMore
attribute [local go_sem] max2_int min2_int max_two min_two max_three min_three max_four min_four
set_option linter.unusedVariables false
set_option linter.unusedSimpArgs false
def impl_LevelIn.f (k : Nat) (l0 : List (S30)) (a1 : Int) : Option (Int × Int × Bool):=(impl_hasHour.f k l0 a1).bind fun t225=>(if t225=true then ((impl_levelIn.f k l0 a1).bind fun bt226=>(some (bt226.1,bt226.2,true))) else (some (0,0,false)))
theorem impl_LevelIn.mono : ∀ a0 a1 k,LeO (impl_LevelIn.f k a0 a1) (impl_LevelIn.f (k + 1) a0 a1):=by
 intro a0 a1 k
 unfold impl_LevelIn.f
 repeat' first
   | (with_reducible exact impl_hasHour.mono _ _ _)
   | (with_reducible exact impl_levelIn.mono _ _ _)
   | (with_reducible exact LeO.refl _)
   | (with_reducible exact LeO.none _)
   | (with_reducible refine LeO.ite ?_ ?_)
   | (with_reducible refine LeO.bind ?_ (fun _=>?_))
set_option maxHeartbeats 8000000 in
set_option maxRecDepth 100000 in
theorem impl_LevelIn.calls (k : Nat) (A0 : Option Addr) (c0 : Nat) (l0 : List (S30)) (a1 : Int) (r1 : Int) (r2 : Int) (r3 : Bool) (w : World) (hr0 : Kd.C k30 w A0 l0.length l0) (hc0 : l0.length≤c0) (h : impl_LevelIn.f k l0 a1=some (r1,r2,r3)) :
  Calls Try.prog 9 #[.slice A0 l0.length c0,.int .i64 a1] w fun e w'=>e = .returned (.tuple #[.int .i64 r1,.int .i64 r2,.bool r3])∧Below w.heap.size w w':=by
 have hu82:=Try.underlying82
 have HR0:=amk hr0
 have HC0:=amk hc0
 clear hr0 hc0
 have HB:=amk (Below.refl w.heap.size w)
 have H : ((impl_hasHour.f k l0 a1).bind fun t225=>(if t225=true then ((impl_levelIn.f k l0 a1).bind fun bt226=>(some (bt226.1,bt226.2,true))) else (some (0,0,false))))=some (r1,r2,r3):=h
 clear h
 replace H:=obs H
 obtain ⟨t225,A30,H⟩:=H
 replace H : (if t225=true then ((impl_levelIn.f k l0 a1).bind fun bt226=>(some (bt226.1,bt226.2,true))) else (some (0,0,false)))=some (r1,r2,r3):=H
 have A3:=amk A30
 clear A30
 by_cases c4 : t225=true
 ·subst c4
  have H1 : ((impl_levelIn.f k l0 a1).bind fun bt226=>(some (bt226.1,bt226.2,true)))=some (r1,r2,r3):=by rw [if_pos rfl] at H;exact H
  clear H
  have H:=H1
  clear H1
  replace H:=obs H
  obtain ⟨⟨t226,t227⟩,A50,H⟩:=H
  replace H : (some (t226,t227,true))=some (r1,r2,r3):=H
  have A5:=amk A50
  clear A50
  simp only [Option.some.injEq,Prod.mk.injEq] at H
  obtain ⟨rfl,rfl,rfl⟩:=H
  go_enter Try.func9,Try.ntmps9
  go_wp2_with (first | (go_at_call 49;(with_reducible refine (impl_hasHour.calls k _ _ l0 a1 true _ ?side1 ?side2 A3.out).mono ?_);(case side1=>exact ccc HR0.out);(case side2=>exact HC0.out);rintro e w6 ⟨rfl,hb⟩;replace HB:=amk (below_step (bel HB) hb);(try clear hb))|(go_at_call 50;(with_reducible refine (impl_levelIn.calls k _ _ l0 a1 t226 t227 _ ?side1 ?side2 A5.out).mono ?_);(case side1=>exact ccc (Kd.C_below HR0.out HB.out));(case side2=>exact HC0.out);rintro e w7 ⟨rfl,hb⟩;replace HB:=amk (below_step (bel HB) hb);(try clear hb))|((with_reducible refine gate_dst (N:=7) rfl ?_);refine box_event ?hg (N:=7) ?hd (cs:=#[.int .i64 0,.int .i64 0]) (t:=82) ?hr ?_;(case hd=>rfl);(case hg=>rfl);(case hr=>first | (go_simp;done)|(go_simp;rfl));intro gb228 hg w8 hbox hb;have BK228:=amk (hbox);have GW228:=amk ((by rw [hg];exact (below_size (bel HB)) : w.heap.size≤gb228));have GE228:=amk ((by rw [hg];exact (below_size (bel HB)) : w.heap.size≤gb228));replace HB:=amk (below_step (bel HB) hb);clear hb hbox hg;have hcz9_0 : w8.cell? ⟨gb228,0,none⟩=some (.int .i64 0):=(blk_cell BK228.out 0).trans rfl;have hcz9_1 : w8.cell? ⟨gb228,1,none⟩=some (.int .i64 0):=(blk_cell BK228.out 1).trans rfl;have hfz9_0:=blk_frozen BK228.out 0;have hfz9_1:=blk_frozen BK228.out 1))
  repeat (go_quiet (first | (go_at_call 49;(with_reducible refine (impl_hasHour.calls k _ _ l0 a1 true _ ?side1 ?side2 A3.out).mono ?_);(case side1=>exact ccc HR0.out);(case side2=>exact HC0.out);rintro e w6 ⟨rfl,hb⟩;replace HB:=amk (below_step (bel HB) hb);(try clear hb))|(go_at_call 50;(with_reducible refine (impl_levelIn.calls k _ _ l0 a1 t226 t227 _ ?side1 ?side2 A5.out).mono ?_);(case side1=>exact ccc (Kd.C_below HR0.out HB.out));(case side2=>exact HC0.out);rintro e w7 ⟨rfl,hb⟩;replace HB:=amk (below_step (bel HB) hb);(try clear hb))|((with_reducible refine gate_dst (N:=7) rfl ?_);refine box_event ?hg (N:=7) ?hd (cs:=#[.int .i64 0,.int .i64 0]) (t:=82) ?hr ?_;(case hd=>rfl);(case hg=>rfl);(case hr=>first | (go_simp;done)|(go_simp;rfl));intro gb228 hg w8 hbox hb;have BK228:=amk (hbox);have GW228:=amk ((by rw [hg];exact (below_size (bel HB)) : w.heap.size≤gb228));have GE228:=amk ((by rw [hg];exact (below_size (bel HB)) : w.heap.size≤gb228));replace HB:=amk (below_step (bel HB) hb);clear hb hbox hg;have hcz9_0 : w8.cell? ⟨gb228,0,none⟩=some (.int .i64 0):=(blk_cell BK228.out 0).trans rfl;have hcz9_1 : w8.cell? ⟨gb228,1,none⟩=some (.int .i64 0):=(blk_cell BK228.out 1).trans rfl;have hfz9_0:=blk_frozen BK228.out 0;have hfz9_1:=blk_frozen BK228.out 1));try go_wp2_with (first | (go_at_call 49;(with_reducible refine (impl_hasHour.calls k _ _ l0 a1 true _ ?side1 ?side2 A3.out).mono ?_);(case side1=>exact ccc HR0.out);(case side2=>exact HC0.out);rintro e w6 ⟨rfl,hb⟩;replace HB:=amk (below_step (bel HB) hb);(try clear hb))|(go_at_call 50;(with_reducible refine (impl_levelIn.calls k _ _ l0 a1 t226 t227 _ ?side1 ?side2 A5.out).mono ?_);(case side1=>exact ccc (Kd.C_below HR0.out HB.out));(case side2=>exact HC0.out);rintro e w7 ⟨rfl,hb⟩;replace HB:=amk (below_step (bel HB) hb);(try clear hb))|((with_reducible refine gate_dst (N:=7) rfl ?_);refine box_event ?hg (N:=7) ?hd (cs:=#[.int .i64 0,.int .i64 0]) (t:=82) ?hr ?_;(case hd=>rfl);(case hg=>rfl);(case hr=>first | (go_simp;done)|(go_simp;rfl));intro gb228 hg w8 hbox hb;have BK228:=amk (hbox);have GW228:=amk ((by rw [hg];exact (below_size (bel HB)) : w.heap.size≤gb228));have GE228:=amk ((by rw [hg];exact (below_size (bel HB)) : w.heap.size≤gb228));replace HB:=amk (below_step (bel HB) hb);clear hb hbox hg;have hcz9_0 : w8.cell? ⟨gb228,0,none⟩=some (.int .i64 0):=(blk_cell BK228.out 0).trans rfl;have hcz9_1 : w8.cell? ⟨gb228,1,none⟩=some (.int .i64 0):=(blk_cell BK228.out 1).trans rfl;have hfz9_0:=blk_frozen BK228.out 0;have hfz9_1:=blk_frozen BK228.out 1)))
  go_ret3
  exact ⟨erw0,bel1 HB GE228.out⟩
 ·replace c4:=Bool.eq_false_iff.mpr c4
  subst c4
  have H1 : (some (0,0,false))=some (r1,r2,r3):=by rw [if_neg (show ¬ (false=true) by decide)] at H;exact H
  clear H
  have H:=H1
  clear H1
  simp only [Option.some.injEq,Prod.mk.injEq] at H
  obtain ⟨rfl,rfl,rfl⟩:=H
  go_enter Try.func9,Try.ntmps9
  go_wp2_with (first | (go_at_call 49;(with_reducible refine (impl_hasHour.calls k _ _ l0 a1 false _ ?side1 ?side2 A3.out).mono ?_);(case side1=>exact ccc HR0.out);(case side2=>exact HC0.out);rintro e w10 ⟨rfl,hb⟩;replace HB:=amk (below_step (bel HB) hb);(try clear hb)))
  repeat (go_quiet (first | (go_at_call 49;(with_reducible refine (impl_hasHour.calls k _ _ l0 a1 false _ ?side1 ?side2 A3.out).mono ?_);(case side1=>exact ccc HR0.out);(case side2=>exact HC0.out);rintro e w10 ⟨rfl,hb⟩;replace HB:=amk (below_step (bel HB) hb);(try clear hb)));try go_wp2_with (first | (go_at_call 49;(with_reducible refine (impl_hasHour.calls k _ _ l0 a1 false _ ?side1 ?side2 A3.out).mono ?_);(case side1=>exact ccc HR0.out);(case side2=>exact HC0.out);rintro e w10 ⟨rfl,hb⟩;replace HB:=amk (below_step (bel HB) hb);(try clear hb))))
  go_ret3
  exact ⟨erw0,bel HB⟩
def spec_LevelIn.f (k : Nat) (l0 : List (S30)) (a1 : Int) : Option (Int × Int × Bool):=(spec_l23Within.f k l0 a1).bind fun t251=>(if t251=true then ((spec_l23In.f k l0 a1).bind fun bt252=>(some (bt252.1,bt252.2,true))) else (some (0,0,false)))
theorem spec_LevelIn.mono : ∀ a0 a1 k,LeO (spec_LevelIn.f k a0 a1) (spec_LevelIn.f (k + 1) a0 a1):=by
 intro a0 a1 k
 unfold spec_LevelIn.f
 repeat' first
   | (with_reducible exact spec_l23In.mono _ _ _)
   | (with_reducible exact spec_l23Within.mono _ _ _)
   | (with_reducible exact LeO.refl _)
   | (with_reducible exact LeO.none _)
   | (with_reducible refine LeO.ite ?_ ?_)
   | (with_reducible refine LeO.bind ?_ (fun _=>?_))
set_option maxHeartbeats 8000000 in
set_option maxRecDepth 100000 in
theorem spec_LevelIn.calls (k : Nat) (A0 : Option Addr) (c0 : Nat) (l0 : List (S30)) (a1 : Int) (r1 : Int) (r2 : Int) (r3 : Bool) (w : World) (hr0 : Kd.C k30 w A0 l0.length l0) (hc0 : l0.length≤c0) (h : spec_LevelIn.f k l0 a1=some (r1,r2,r3)) :
  Calls Try.prog 10 #[.slice A0 l0.length c0,.int .i64 a1] w fun e w'=>e = .returned (.tuple #[.int .i64 r1,.int .i64 r2,.bool r3])∧Below w.heap.size w w':=by
 have HR0:=amk hr0
 have HC0:=amk hc0
 clear hr0 hc0
 have HB:=amk (Below.refl w.heap.size w)
 have H : ((spec_l23Within.f k l0 a1).bind fun t251=>(if t251=true then ((spec_l23In.f k l0 a1).bind fun bt252=>(some (bt252.1,bt252.2,true))) else (some (0,0,false))))=some (r1,r2,r3):=h
 clear h
 replace H:=obs H
 obtain ⟨t251,A30,H⟩:=H
 replace H : (if t251=true then ((spec_l23In.f k l0 a1).bind fun bt252=>(some (bt252.1,bt252.2,true))) else (some (0,0,false)))=some (r1,r2,r3):=H
 have A3:=amk A30
 clear A30
 by_cases c4 : t251=true
 ·subst c4
  have H1 : ((spec_l23In.f k l0 a1).bind fun bt252=>(some (bt252.1,bt252.2,true)))=some (r1,r2,r3):=by rw [if_pos rfl] at H;exact H
  clear H
  have H:=H1
  clear H1
  replace H:=obs H
  obtain ⟨⟨t252,t253⟩,A50,H⟩:=H
  replace H : (some (t252,t253,true))=some (r1,r2,r3):=H
  have A5:=amk A50
  clear A50
  simp only [Option.some.injEq,Prod.mk.injEq] at H
  obtain ⟨rfl,rfl,rfl⟩:=H
  go_enter Try.func10,Try.ntmps10
  go_wp2_with (first | ((with_reducible refine gate_callee (f:=51) rfl ?_);refine goesL_ (some 11) rfl rfl Try.func51 (by kernel_rfl) rfl #[.slice A0 l0.length c0,.int .i64 a1] rfl mtt ?_;(with_reducible refine (spec_l23Within.calls k _ _ l0 a1 true _ ?side1 ?side2 A3.out).mono ?_);(case side1=>exact ccc HR0.out);(case side2=>exact HC0.out);rintro e w6 ⟨rfl,hb⟩;refine ⟨_,rfl,?_⟩;replace HB:=amk (below_step (bel HB) hb);(try clear hb))|((with_reducible refine gate_callee (f:=52) rfl ?_);refine goesL_ (some 16) rfl rfl Try.func52 (by kernel_rfl) rfl #[.slice A0 l0.length c0,.int .i64 a1] rfl mtt ?_;(with_reducible refine (spec_l23In.calls k _ _ l0 a1 t252 t253 _ ?side1 ?side2 A5.out).mono ?_);(case side1=>exact ccc (Kd.C_below HR0.out HB.out));(case side2=>exact HC0.out);rintro e w7 ⟨rfl,hb⟩;refine ⟨_,rfl,?_⟩;replace HB:=amk (below_step (bel HB) hb);(try clear hb)))
  go_ret3
  exact ⟨erw0,bel HB⟩
 ·replace c4:=Bool.eq_false_iff.mpr c4
  subst c4
  have H1 : (some (0,0,false))=some (r1,r2,r3):=by rw [if_neg (show ¬ (false=true) by decide)] at H;exact H
  clear H
  have H:=H1
  clear H1
  simp only [Option.some.injEq,Prod.mk.injEq] at H
  obtain ⟨rfl,rfl,rfl⟩:=H
  go_enter Try.func10,Try.ntmps10
  go_wp2_with (first | ((with_reducible refine gate_callee (f:=51) rfl ?_);refine goesL_ (some 11) rfl rfl Try.func51 (by kernel_rfl) rfl #[.slice A0 l0.length c0,.int .i64 a1] rfl mtt ?_;(with_reducible refine (spec_l23Within.calls k _ _ l0 a1 false _ ?side1 ?side2 A3.out).mono ?_);(case side1=>exact ccc HR0.out);(case side2=>exact HC0.out);rintro e w8 ⟨rfl,hb⟩;refine ⟨_,rfl,?_⟩;replace HB:=amk (below_step (bel HB) hb);(try clear hb)))
  go_ret3
  exact ⟨erw0,bel HB⟩
def spec_AreReadings.f (k : Nat) (l0 : List (S30)) : Option (Bool):=(spec_l23Good.f k l0).bind fun t285=>(some t285)
theorem spec_AreReadings.mono : ∀ a0 k,LeO (spec_AreReadings.f k a0) (spec_AreReadings.f (k + 1) a0):=by
 intro a0 k
 unfold spec_AreReadings.f
 repeat' first
   | (with_reducible exact spec_l23Good.mono _ _)
   | (with_reducible exact LeO.refl _)
   | (with_reducible exact LeO.none _)
   | (with_reducible refine LeO.ite ?_ ?_)
   | (with_reducible refine LeO.bind ?_ (fun _=>?_))
set_option maxHeartbeats 8000000 in
set_option maxRecDepth 100000 in
theorem spec_AreReadings.calls (k : Nat) (A0 : Option Addr) (c0 : Nat) (l0 : List (S30)) (r : Bool) (w : World) (hr0 : Kd.C k30 w A0 l0.length l0) (hc0 : l0.length≤c0) (h : spec_AreReadings.f k l0=some r) :
  Calls Try.prog 16 #[.slice A0 l0.length c0] w fun e w'=>e = .returned (.bool r)∧Below w.heap.size w w':=by
 have HR0:=amk hr0
 have HC0:=amk hc0
 clear hr0 hc0
 have HB:=amk (Below.refl w.heap.size w)
 have H : ((spec_l23Good.f k l0).bind fun t285=>(some t285))=some r:=h
 clear h
 replace H:=obs H
 obtain ⟨t285,A20,H⟩:=H
 replace H : (some t285)=some r:=H
 have A2:=amk A20
 clear A20
 obtain rfl:=Option.some.inj H
 go_enter Try.func16,Try.ntmps16
 go_wp2_with (first | ((with_reducible refine gate_callee (f:=53) rfl ?_);refine goesL_ (some 4) rfl rfl Try.func53 (by kernel_rfl) rfl #[.slice A0 l0.length c0] rfl mtt ?_;(with_reducible refine (spec_l23Good.calls k _ _ l0 t285 _ ?side1 ?side2 A2.out).mono ?_);(case side1=>exact ccc HR0.out);(case side2=>exact HC0.out);rintro e w3 ⟨rfl,hb⟩;refine ⟨_,rfl,?_⟩;replace HB:=amk (below_step (bel HB) hb);(try clear hb)))
 go_ret
 exact ⟨erw0,bel HB⟩
end Go.Proofs.Ytldifiededjgjaa.P
namespace Go.Proofs.Ytldifiededjgjaa.Pu
open Go.RowKit Go.Proofs.Ytldifiededjgjaa.P Go.Proofs.YtldifiededjgjaaW.PrintWords
def H (l : List S30) (i : Int) : Int:=(rd_T30 l i).f0
def Lv (l : List S30) (i : Int) : Int:=(rd_T30 l i).f1
def okAt (l : List S30) (i : Int) : Prop:=(0≤H l i∧H l i≤999)∧(-500≤Lv l i∧Lv l i≤500)∧(0 < i→H l (i - 1) < H l i)
def GoodR (l : List S30) : Prop:=(∀ i : Int,0≤i→i < l.length→okAt l i)∧l.length≤15
noncomputable def goodB (l : List S30) : Bool:=@decide (GoodR l) (Classical.propDecidable (GoodR l))
theorem goodB_true {l : List S30} (h : GoodR l) : goodB l=true:=@decide_eq_true _ (Classical.propDecidable (GoodR l)) h
theorem goodB_false {l : List S30} (h : ¬ GoodR l) : goodB l=false:=@decide_eq_false _ (Classical.propDecidable (GoodR l)) h
theorem good_of {l : List S30} (h : goodB l=true) : GoodR l:=@of_decide_eq_true _ (Classical.propDecidable (GoodR l)) h
theorem l1In_eq (a b c : Int) : spec_l1In.f a b c=some (decide (b≤a∧a≤c)):=by
 unfold spec_l1In.f
 by_cases h : b≤a <;> simp [h]
theorem within_eq (a b c : Int) : impl_within.f a b c=some (decide (b≤a∧a≤c)):=by
 unfold impl_within.f
 by_cases h : b≤a <;> simp [h]
theorem level_eq (a : Int) : spec_l23Level.f a=some (decide (-500≤a∧a≤500)):=by
 unfold spec_l23Level.f
 rw [l1In_eq]
 rfl
theorem isLevel_eq (a : Int) : impl_isLevel.f a=some (decide (-500≤a∧a≤500)):=by
 unfold impl_isLevel.f
 rw [within_eq]
 rfl
theorem sgood_l0 (l : List S30) (hl : (l.length : Int)≤1000000000000) : ∀ (d : Nat) (i : Int),0≤i→(l.length : Int) - i=d →
  (∀ j : Int,0≤j→j < i→okAt l j)→Ev (fun k=>spec_l23Good.l0 k l i) (goodB l):=by
 intro d
 induction d with
 | zero=>
  intro i h0 hd hj
  refine Ev.step (fun k=>spec_l23Good.l0.eq_2 l i k) (Ev.neg (by omega) (Ev.to (Ev.now _) ?_))
  by_cases c : l.length≤15
  ·rw [goodB_true ⟨fun j a b=>hj j a (by omega),c⟩]
   exact decide_eq_true (by omega)
  ·rw [goodB_false (fun g=>c g.2)]
   exact decide_eq_false (by omega)
 | succ d ih=>
  intro i h0 hd hj
  refine Ev.step (fun k=>spec_l23Good.l0.eq_2 l i k) (Ev.pos (by omega) (Ev.pos h0 (Ev.bindS (l1In_eq _ _ _) ?_)))
  have jt : ¬ okAt l i→Ev (fun k=>spec_l23Good.j1 k l i true) (goodB l):=fun h=>
   Ev.step (fun k=>spec_l23Good.j1.eq_2 l i true k) (Ev.pos rfl (Ev.to (Ev.now _) (goodB_false (fun g=>h (g.1 i h0 (by omega)))).symm))
  have jf : okAt l i→Ev (fun k=>spec_l23Good.j1 k l i false) (goodB l):=by
   intro h
   have e2 : wrap64 (i + 1)=i + 1:=wr (by omega) (by omega)
   refine Ev.step (fun k=>spec_l23Good.j1.eq_2 l i false k) (Ev.neg (by simp) ?_)
   rw [e2]
   refine ih (i + 1) (by omega) (by omega) (fun j a b=>?_)
   by_cases ej : j=i
   ·rw [ej]
    exact h
   ·exact hj j a (by omega)
  by_cases c1 : 0≤H l i∧H l i≤999
  ·refine Ev.pos (decide_eq_true c1) (Ev.bindS (level_eq _) ?_)
   by_cases c2 : -500≤Lv l i∧Lv l i≤500
   ·refine Ev.pos (decide_eq_true c2) ?_
    by_cases c3 : i > 0
    ·have e : wrap64 (i - 1)=i - 1:=wr (by omega) (by omega)
     simp only [e]
     refine Ev.pos c3 (Ev.pos (by omega) (Ev.pos (by omega) ?_))
     by_cases c4 : H l (i - 1) ≥ H l i
     ·rw [show decide ((rd_T30 l (i - 1)).f0 ≥ (rd_T30 l i).f0)=true from decide_eq_true c4]
      exact jt (fun g=>by have:=g.2.2 c3;omega)
     ·rw [show decide ((rd_T30 l (i - 1)).f0 ≥ (rd_T30 l i).f0)=false from decide_eq_false c4]
      exact jf ⟨c1,c2,fun _=>by omega⟩
    ·exact Ev.neg c3 (jf ⟨c1,c2,fun h=>absurd h c3⟩)
   ·exact Ev.neg (fun e=>c2 (of_decide_eq_true e)) (jt (fun g=>c2 g.2.1))
  ·exact Ev.neg (fun e=>c1 (of_decide_eq_true e)) (jt (fun g=>c1 g.1))
theorem sgood (l : List S30) (hl : (l.length : Int)≤1000000000000) : Ev (fun k=>spec_l23Good.f k l) (goodB l):=
 sgood_l0 l hl l.length 0 (by omega) (by omega) (fun j a b=>by omega)
theorem igood_l0 (l : List S30) : ∀ (k : Nat),(∀ i : Int,impl_AreReadings.l0 k l l (l.length : Int) i=spec_l23Good.l0 k l i)∧∀ (i : Int) (b : Bool),impl_AreReadings.j1 k l l (l.length : Int) i b=spec_l23Good.j1 k l i b:=by
 intro k
 induction k with
 | zero=>exact ⟨fun i=>rfl,fun i b=>rfl⟩
 | succ k ih=>
  refine ⟨fun i=>?_,fun i b=>?_⟩
  ·rw [impl_AreReadings.l0.eq_2,spec_l23Good.l0.eq_2]
   simp only [ih.2,within_eq,isLevel_eq,l1In_eq,level_eq]
   by_cases c : i < (l.length : Int)
   ·simp only [if_pos c]
   ·simp only [if_neg c]
  ·rw [impl_AreReadings.j1.eq_2,spec_l23Good.j1.eq_2]
   simp only [ih.1]
theorem igood (l : List S30) (hl : (l.length : Int)≤1000000000000) : Ev (fun k=>impl_AreReadings.f k l) (goodB l):=by
 have h:=sgood l hl
 unfold spec_l23Good.f at h
 unfold impl_AreReadings.f
 simp only [(igood_l0 l _).1]
 exact h
theorem sare (l : List S30) (hl : (l.length : Int)≤1000000000000) : Ev (fun k=>spec_AreReadings.f k l) (goodB l):=by
 unfold spec_AreReadings.f
 exact Ev.bind (sgood l hl) (Ev.now _)
theorem gcd_next (a b : Int) : Int.gcd b (Int.tmod a b)=Int.gcd a b:=by
 unfold Int.gcd
 rw [Int.natAbs_tmod,Nat.gcd_comm b.natAbs,Nat.gcd_comm a.natAbs,← Nat.gcd_rec]
theorem abs_eq (a : Int) (h : -9223372036854775807≤a) (h' : a≤9223372036854775807) : impl_absolute.f a=some (a.natAbs : Int):=by
 unfold impl_absolute.f mx
 rw [wr (by omega) (by omega)]
 congr 1
 split <;> omega
theorem tmod_abs (a b : Int) (hb : b ≠ 0) : (Int.tmod a b).natAbs < b.natAbs:=by
 rw [Int.natAbs_tmod]
 exact Nat.mod_lt _ (by omega)
theorem igcd : ∀ (n : Nat) (a b : Int),b.natAbs≤n→a.natAbs≤9223372036854775807→b.natAbs≤9223372036854775807 →
  Ev (fun k=>impl_gcd.l0 k a b) (Int.gcd a b : Int):=by
 intro n
 induction n with
 | zero=>
  intro a b hn ha hb
  obtain rfl : b=0:=by omega
  refine Ev.step (fun k=>impl_gcd.l0.eq_2 a 0 k) (Ev.pos rfl (Ev.bindS (abs_eq a (by omega) (by omega)) (Ev.to (Ev.now _) ?_)))
  simp
 | succ n ih=>
  intro a b hn ha hb
  by_cases c : b=0
  ·subst c
   refine Ev.step (fun k=>impl_gcd.l0.eq_2 a 0 k) (Ev.pos rfl (Ev.bindS (abs_eq a (by omega) (by omega)) (Ev.to (Ev.now _) ?_)))
   simp
  ·refine Ev.step (fun k=>impl_gcd.l0.eq_2 a b k) (Ev.neg c (Ev.to (ih b (Int.tmod a b) ?_ hb ?_) ?_))
   ·have:=tmod_abs a b c;omega
   ·have:=tmod_abs a b c;omega
   ·rw [gcd_next a b]
theorem scommon : ∀ (n : Nat) (a b : Int),b.natAbs≤n→0≤a→0≤b→Ev (fun k=>spec_l23Common.l0 k a b) (Int.gcd a b : Int):=by
 intro n
 induction n with
 | zero=>
  intro a b hn ha hb
  obtain rfl : b=0:=by omega
  refine Ev.step (fun k=>spec_l23Common.l0.eq_2 a 0 k) (Ev.neg (by omega) (Ev.to (Ev.now _) ?_))
  simp
  omega
 | succ n ih=>
  intro a b hn ha hb
  by_cases c : b > 0
  ·refine Ev.step (fun k=>spec_l23Common.l0.eq_2 a b k) (Ev.pos c (Ev.neg (by omega) (Ev.to (ih b (Int.tmod a b) ?_ hb ?_) ?_)))
   ·have:=tmod_abs a b (by omega);omega
   ·exact Int.tmod_nonneg b ha
   ·rw [gcd_next a b]
  ·obtain rfl : b=0:=by omega
   refine Ev.step (fun k=>spec_l23Common.l0.eq_2 a 0 k) (Ev.neg (by omega) (Ev.to (Ev.now _) ?_))
   simp
   omega
def red (a b : Int) : Int × Int:=(a / (Int.gcd a b : Int),b / (Int.gcd a b : Int))
theorem gcd_pos {a b : Int} (hb : 0 < b) : 0 < (Int.gcd a b : Int):=by
 have : Int.gcd a b ≠ 0:=fun h=>by rw [Int.gcd_eq_zero_iff] at h;omega
 omega
theorem tdiv_gcd_l (a b : Int) : Int.tdiv a (Int.gcd a b : Int)=a / (Int.gcd a b : Int):=Int.tdiv_eq_ediv_of_dvd (Int.gcd_dvd_left _ _)
theorem tdiv_gcd_r (a b : Int) : Int.tdiv b (Int.gcd a b : Int)=b / (Int.gcd a b : Int):=Int.tdiv_eq_ediv_of_dvd (Int.gcd_dvd_right _ _)
theorem ediv_bound (a g : Int) (hg : 0 < g) (B : Int) (h : -B≤a) (h' : a≤B) : -B≤a / g∧a / g≤B:=by
 constructor
 ·refine (Int.le_ediv_iff_mul_le hg).2 ?_
  have : B * 1≤B * g:=Int.mul_le_mul_of_nonneg_left (by omega) (by omega)
  rw [Int.neg_mul]
  omega
 ·by_cases c : 0≤a
  ·exact Int.le_trans (Int.ediv_le_self _ c) h'
  ·have:=Int.ediv_neg_of_neg_of_pos (by omega : a < 0) hg
   omega
theorem ired (a b : Int) (hb : 0 < b) (h1 : -4611686018427387904≤a) (h2 : a≤4611686018427387904) (h3 : b≤4611686018427387904) :
  Ev (fun k=>impl_reduced.f k a b) (red a b):=by
 have hg:=gcd_pos (a:=a) hb
 have ba:=ediv_bound a _ hg 4611686018427387904 h1 h2
 have bb:=ediv_bound b _ hg 4611686018427387904 (by omega) h3
 unfold impl_reduced.f impl_gcd.f
 refine Ev.bind (igcd b.natAbs a b (Nat.le_refl _) (by omega) (by omega)) (Ev.neg (by omega) (Ev.to (Ev.now _) ?_))
 rw [tdiv_gcd_l,tdiv_gcd_r,wr (by omega) (by omega),wr (by omega) (by omega)]
 rfl
theorem sred (a b : Int) (hb : 0 < b) (h1 : -4611686018427387904≤a) (h2 : a≤4611686018427387904) (h3 : b≤4611686018427387904) :
  Ev (fun k=>spec_l23Reduce.f k a b) (red a b):=by
 have hg:=gcd_pos (a:=a) hb
 have ba:=ediv_bound a _ hg 4611686018427387904 h1 h2
 have bb:=ediv_bound b _ hg 4611686018427387904 (by omega) h3
 have hm : spec_l1Most.f a (wrap64 (-a))=some (a.natAbs : Int):=by
  unfold spec_l1Most.f
  rw [wr (by omega) (by omega)]
  by_cases c : a > -a
  ·rw [if_pos c];congr 1;omega
  ·rw [if_neg c];congr 1;omega
 have hc : Ev (fun k=>spec_l23Common.f k (a.natAbs : Int) b) (Int.gcd a b : Int):=by
  have h:=scommon b.natAbs (a.natAbs : Int) b (Nat.le_refl _) (by omega) (by omega)
  have e : Int.gcd (a.natAbs : Int) b=Int.gcd a b:=by unfold Int.gcd;rw [Int.natAbs_natCast]
  rw [e] at h
  exact h
 unfold spec_l23Reduce.f
 refine Ev.bindS hm (Ev.bind hc (Ev.neg (by omega) (Ev.to (Ev.now _) ?_)))
 rw [tdiv_gcd_l,tdiv_gcd_r,wr (by omega) (by omega),wr (by omega) (by omega)]
 rfl
theorem red_spec (a b : Int) (hb : 0 < b) : ∃ g : Int,0 < g∧a=(red a b).1 * g∧b=(red a b).2 * g∧0 < (red a b).2:=by
 have hg:=gcd_pos (a:=a) hb
 have e1 : a / (Int.gcd a b : Int) * (Int.gcd a b : Int)=a:=Int.ediv_mul_cancel (Int.gcd_dvd_left _ _)
 have e2 : b / (Int.gcd a b : Int) * (Int.gcd a b : Int)=b:=Int.ediv_mul_cancel (Int.gcd_dvd_right _ _)
 refine ⟨Int.gcd a b,hg,e1.symm,e2.symm,?_⟩
 by_cases c : 0 < b / (Int.gcd a b : Int)
 ·exact c
 ·have : b / (Int.gcd a b : Int) * (Int.gcd a b : Int)≤0 * (Int.gcd a b : Int):=Int.mul_le_mul_of_nonneg_right (by omega) (by omega)
  omega
theorem red_bound (a b B : Int) (hb : 0 < b) (h : -B≤a) (h' : a≤B) (hB : b≤B) : -B≤(red a b).1∧(red a b).1≤B∧(red a b).2≤B:=by
 have hg:=gcd_pos (a:=a) hb
 have ba:=ediv_bound a _ hg B h h'
 have bb:=ediv_bound b _ hg B (by omega) hB
 exact ⟨ba.1,ba.2,bb.2⟩
def InH (l : List S30) (h : Int) : Prop:=GoodR l∧0 < l.length∧H l 0≤h∧h≤H l ((l.length : Int) - 1)
noncomputable def inB (l : List S30) (h : Int) : Bool:=@decide (InH l h) (Classical.propDecidable (InH l h))
theorem inB_true {l : List S30} {h : Int} (g : InH l h) : inB l h=true:=@decide_eq_true _ (Classical.propDecidable (InH l h)) g
theorem inB_false {l : List S30} {h : Int} (g : ¬ InH l h) : inB l h=false:=@decide_eq_false _ (Classical.propDecidable (InH l h)) g
theorem in_of {l : List S30} {h : Int} (g : inB l h=true) : InH l h:=@of_decide_eq_true _ (Classical.propDecidable (InH l h)) g
theorem GoodR.len {l : List S30} (g : GoodR l) : (l.length : Int)≤15:=by have:=g.2;omega
theorem GoodR.h {l : List S30} (g : GoodR l) (i : Int) (h0 : 0≤i) (h1 : i < l.length) : 0≤H l i∧H l i≤999:=(g.1 i h0 h1).1
theorem GoodR.lv {l : List S30} (g : GoodR l) (i : Int) (h0 : 0≤i) (h1 : i < l.length) : -500≤Lv l i∧Lv l i≤500:=(g.1 i h0 h1).2.1
theorem GoodR.up {l : List S30} (g : GoodR l) (i : Int) (h0 : 0≤i) (h1 : i + 1 < l.length) : H l i < H l (i + 1):=by
 have h:=(g.1 (i + 1) (by omega) h1).2.2 (by omega)
 rw [show i + 1 - 1=i from by omega] at h
 exact h
theorem GoodR.mono {l : List S30} (g : GoodR l) (i : Int) (h0 : 0≤i) : ∀ (d : Nat),i + d < l.length→H l i≤H l (i + d):=by
 intro d
 induction d with
 | zero=>intro _;rw [show i + ((0 : Nat) : Int)=i from by omega];exact Int.le_refl _
 | succ d ih=>
  intro hd
  have a:=ih (by omega)
  have b:=g.up (i + d) (by omega) (by omega)
  rw [show i + ((d + 1 : Nat) : Int)=i + d + 1 from by omega]
  omega
theorem GoodR.le {l : List S30} (g : GoodR l) (i j : Int) (h0 : 0≤i) (h : i≤j) (h1 : j < l.length) : H l i≤H l j:=by
 have:=g.mono i h0 (j - i).toNat (by omega)
 rw [show i + (((j - i).toNat : Nat) : Int)=j from by omega] at this
 exact this
theorem GoodR.lt {l : List S30} (g : GoodR l) (i j : Int) (h0 : 0≤i) (h : i < j) (h1 : j < l.length) : H l i < H l j:=by
 have a:=g.up i h0 (by omega)
 have b:=g.le (i + 1) j (by omega) (by omega) h1
 omega
theorem swithin (l : List S30) (h : Int) (hl : (l.length : Int)≤1000000000000) : Ev (fun k=>spec_l23Within.f k l h) (inB l h):=by
 unfold spec_l23Within.f
 refine Ev.bind (sgood l hl) ?_
 by_cases g : GoodR l
 ·refine Ev.pos (goodB_true g) ?_
  by_cases c : (l.length : Int) > 0
  ·have e : wrap64 ((l.length : Int) - 1)=(l.length : Int) - 1:=wr (by omega) (by omega)
   simp only [e]
   refine Ev.pos c (Ev.pos c (Ev.pos (by omega) (Ev.pos (by omega) (Ev.bindS (l1In_eq _ _ _) (Ev.to (Ev.now _) ?_)))))
   by_cases d : H l 0≤h∧h≤H l ((l.length : Int) - 1)
   ·rw [inB_true ⟨g,by omega,d⟩]
    exact decide_eq_true d
   ·rw [inB_false (fun q=>d q.2.2)]
    exact decide_eq_false d
  ·exact Ev.neg c (Ev.to (Ev.now _) (inB_false (fun q=>by have:=q.2.1;omega)).symm)
 ·exact Ev.neg (by rw [goodB_false g];simp) (Ev.to (Ev.now _) (inB_false (fun q=>g q.1)).symm)
theorem ihours (l : List S30) (hl : (l.length : Int)≤1000000000000) :
  impl_hours.f l=some (if (l.length : Int)=0 then (0,-1) else (H l 0,H l ((l.length : Int) - 1))):=by
 unfold impl_hours.f
 by_cases c : (l.length : Int)=0
 ·rw [if_pos c,if_pos c]
 ·have e : wrap64 ((l.length : Int) - 1)=(l.length : Int) - 1:=wr (by omega) (by omega)
  simp only [e]
  rw [if_neg c,if_neg c,if_pos (by omega),if_pos (by omega),if_pos (by omega)]
  rfl
theorem ihas (l : List S30) (h : Int) (hl : (l.length : Int)≤1000000000000) : Ev (fun k=>impl_hasHour.f k l h) (inB l h):=by
 unfold impl_hasHour.f
 refine Ev.bindS (ihours l hl) (Ev.bind (igood l hl) ?_)
 by_cases g : GoodR l
 ·refine Ev.pos (goodB_true g) (Ev.bindS (within_eq _ _ _) (Ev.to (Ev.now _) ?_))
  by_cases c : (l.length : Int)=0
  ·rw [inB_false (fun q=>by have:=q.2.1;omega)]
   rw [if_pos c]
   exact decide_eq_false (fun q=>by have:=q.1;have:=q.2;omega)
  ·rw [if_neg c]
   by_cases d : H l 0≤h∧h≤H l ((l.length : Int) - 1)
   ·rw [inB_true ⟨g,by omega,d⟩]
    exact decide_eq_true d
   ·rw [inB_false (fun q=>d q.2.2)]
    exact decide_eq_false d
 ·exact Ev.neg (by rw [goodB_false g];simp) (Ev.to (Ev.now _) (inB_false (fun q=>g q.1)).symm)
def lev (l : List S30) (h p : Int) : Int × Int:=
 if H l p=h then (Lv l p,1) else red (Lv l p * (H l (p + 1) - h) + Lv l (p + 1) * (h - H l p)) (H l (p + 1) - H l p)
def At (l : List S30) (h p : Int) : Prop:=0≤p∧p < l.length∧H l p≤h∧(p + 1 < l.length→h < H l (p + 1))
theorem mul_small (a b : Int) (ha : -500≤a∧a≤500) (hb : 0≤b∧b≤999) : -500000≤a * b∧a * b≤500000:=by
 have h1 : a * b≤500 * b:=Int.mul_le_mul_of_nonneg_right ha.2 hb.1
 have h2 : -500 * b≤a * b:=Int.mul_le_mul_of_nonneg_right ha.1 hb.1
 omega
theorem ilev (l : List S30) (h : Int) (g : InH l h) : ∀ (d : Nat) (i : Int),0≤i→(l.length : Int) - 1 - i=d→H l i≤h →
  ∃ p,At l h p∧Ev (fun k=>impl_levelIn.l0 k l h i) (lev l h p):=by
 have hg:=g.1
 have hlen:=hg.len
 intro d
 induction d with
 | zero=>
  intro i h0 hd hi
  have e : wrap64 (i + 1)=i + 1:=wr (by omega) (by omega)
  have hh : H l i=h:=by have:=g.2.2.2;rw [show (l.length : Int) - 1=i from by omega] at this;omega
  refine ⟨i,⟨h0,by omega,hi,fun q=>by omega⟩,?_⟩
  refine Ev.step (fun k=>impl_levelIn.l0.eq_2 l h i k) ?_
  simp only [e]
  refine Ev.neg (by omega) (Ev.pos h0 (Ev.pos (by omega) (Ev.pos hh (Ev.to (Ev.now _) ?_))))
  unfold lev
  rw [if_pos hh]
  rfl
 | succ d ih=>
  intro i h0 hd hi
  have e : wrap64 (i + 1)=i + 1:=wr (by omega) (by omega)
  by_cases c : H l (i + 1)≤h
  ·obtain ⟨p,hp,hr⟩:=ih (i + 1) (by omega) (by omega) c
   refine ⟨p,hp,Ev.step (fun k=>impl_levelIn.l0.eq_2 l h i k) ?_⟩
   simp only [e]
   exact Ev.pos (by omega) (Ev.pos (by omega) (Ev.pos c hr))
  ·refine ⟨i,⟨h0,by omega,hi,fun q=>by omega⟩,Ev.step (fun k=>impl_levelIn.l0.eq_2 l h i k) ?_⟩
   simp only [e]
   refine Ev.pos (by omega) (Ev.pos (by omega) (Ev.neg c (Ev.pos h0 (Ev.pos (by omega) ?_))))
   by_cases q : H l i=h
   ·refine Ev.pos q (Ev.to (Ev.now _) ?_)
    unfold lev
    rw [if_pos q]
    rfl
   ·have b1:=hg.lv i h0 (by omega)
    have b2:=hg.lv (i + 1) (by omega) (by omega)
    have b3:=hg.h i h0 (by omega)
    have b4:=hg.h (i + 1) (by omega) (by omega)
    have m1:=mul_small (Lv l i) (H l (i + 1) - h) b1 (by omega)
    have m2:=mul_small (Lv l (i + 1)) (h - H l i) b2 (by omega)
    have w1 : wrap64 (H l (i + 1) - h)=H l (i + 1) - h:=wr (by omega) (by omega)
    have w2 : wrap64 (h - H l i)=h - H l i:=wr (by omega) (by omega)
    have w3 : wrap64 (Lv l i * (H l (i + 1) - h))=Lv l i * (H l (i + 1) - h):=wr (by omega) (by omega)
    have w4 : wrap64 (Lv l (i + 1) * (h - H l i))=Lv l (i + 1) * (h - H l i):=wr (by omega) (by omega)
    have w5 : wrap64 (Lv l i * (H l (i + 1) - h) + Lv l (i + 1) * (h - H l i))=Lv l i * (H l (i + 1) - h) + Lv l (i + 1) * (h - H l i):=wr (by omega) (by omega)
    have w6 : wrap64 (H l (i + 1) - H l i)=H l (i + 1) - H l i:=wr (by omega) (by omega)
    refine Ev.neg q ?_
    have r:=ired (Lv l i * (H l (i + 1) - h) + Lv l (i + 1) * (h - H l i)) (H l (i + 1) - H l i) (by omega) (by omega) (by omega) (by omega)
    unfold H at w1 w2 w6
    unfold H Lv at w3 w4 w5 r
    simp only [w1,w2,w3,w4,w5,w6]
    refine Ev.bind r (Ev.to (Ev.now _) ?_)
    unfold lev
    rw [if_neg q]
    rfl
theorem slev (l : List S30) (h p : Int) (g : InH l h) (hp : At l h p) : ∀ (d : Nat) (i : Int),0≤i→p + 1 - i=d→(i≤p ∨ H l p ≠ h) →
  Ev (fun k=>spec_l23In.l0 k l h i) (lev l h p):=by
 have hg:=g.1
 have hlen:=hg.len
 obtain ⟨p0,p1,p2,p3⟩:=hp
 have hlast : H l p ≠ h→p + 1 < l.length:=fun q=>by
  by_cases c : p + 1 < l.length
  ·exact c
  ·have:=g.2.2.2
   rw [show (l.length : Int) - 1=p from by omega] at this
   omega
 intro d
 induction d with
 | zero=>
  intro i h0 hd hq
  obtain rfl : i=p + 1:=by omega
  have q : H l p ≠ h:=by
   rcases hq with x | x
   ·omega
   ·exact x
  have c:=hlast q
  have u:=p3 c
  refine Ev.step (fun k=>spec_l23In.l0.eq_2 l h (p + 1) k) (Ev.pos h0 (Ev.pos c (Ev.neg (by show ¬ H l (p + 1) < h;omega) (Ev.neg (by show ¬ H l (p + 1)=h;omega) ?_))))
  have e : wrap64 (p + 1 - 1)=p:=by rw [wr (by omega) (by omega)];omega
  simp only [e]
  refine Ev.pos p0 (Ev.pos p1 ?_)
  have b1:=hg.lv p p0 p1
  have b2:=hg.lv (p + 1) (by omega) c
  have b3:=hg.h p p0 p1
  have b4:=hg.h (p + 1) (by omega) c
  have w1 : wrap64 (H l (p + 1) - h)=H l (p + 1) - h:=wr (by omega) (by omega)
  have m1:=mul_small (Lv l p) (H l (p + 1) - h) b1 (by omega)
  have m2:=mul_small (Lv l (p + 1)) (h - H l p) b2 (by omega)
  have w2 : wrap64 (h - H l p)=h - H l p:=wr (by omega) (by omega)
  have w3 : wrap64 (Lv l p * (H l (p + 1) - h))=Lv l p * (H l (p + 1) - h):=wr (by omega) (by omega)
  have w4 : wrap64 (Lv l (p + 1) * (h - H l p))=Lv l (p + 1) * (h - H l p):=wr (by omega) (by omega)
  have w5 : wrap64 (Lv l p * (H l (p + 1) - h) + Lv l (p + 1) * (h - H l p))=Lv l p * (H l (p + 1) - h) + Lv l (p + 1) * (h - H l p):=wr (by omega) (by omega)
  have w6 : wrap64 (H l (p + 1) - H l p)=H l (p + 1) - H l p:=wr (by omega) (by omega)
  have r:=sred (Lv l p * (H l (p + 1) - h) + Lv l (p + 1) * (h - H l p)) (H l (p + 1) - H l p) (by omega) (by omega) (by omega) (by omega)
  unfold H at w1 w2 w6
  unfold H Lv at w3 w4 w5 r
  simp only [w1,w2,w3,w4,w5,w6]
  refine Ev.bind r (Ev.to (Ev.now _) ?_)
  unfold lev
  rw [if_neg q]
  rfl
 | succ d ih=>
  intro i h0 hd hq
  have e : wrap64 (i + 1)=i + 1:=wr (by omega) (by omega)
  by_cases c : H l i < h
  ·refine Ev.step (fun k=>spec_l23In.l0.eq_2 l h i k) ?_
   simp only [e]
   exact Ev.pos h0 (Ev.pos (by omega) (Ev.pos c (ih (i + 1) (by omega) (by omega) (if x : i=p then .inr (by rw [← x];omega) else .inl (by omega)))))
  ·have le:=hg.le i p h0 (by omega) p1
   have q : H l i=h:=by omega
   have ip : i=p:=by
    by_cases x : i < p
    ·have:=hg.lt i p h0 x p1
     omega
    ·omega
   refine Ev.step (fun k=>spec_l23In.l0.eq_2 l h i k) (Ev.pos h0 (Ev.pos (by omega) (Ev.neg c (Ev.pos q (Ev.to (Ev.now _) ?_)))))
   unfold lev
   rw [ip] at q ⊢
   rw [if_pos q]
   rfl
theorem level_both (l : List S30) (h : Int) (g : InH l h) : ∃ p,At l h p∧Ev (fun k=>impl_levelIn.f k l h) (lev l h p)∧Ev (fun k=>spec_l23In.f k l h) (lev l h p):=by
 have hlen:=g.1.len
 have h1:=g.2.1
 obtain ⟨p,hp,hr⟩:=ilev l h g (l.length - 1) 0 (by omega) (by omega) g.2.2.1
 exact ⟨p,hp,hr,slev l h p g hp (p + 1).toNat 0 (by omega) (by have:=hp.1;omega) (.inl hp.1)⟩
def stp (Q : Int→Bool) (R : List (Int × Int)) (h : Int) : List (Int × Int):=
 if Q h=true then (match R with | []=>[(h,h)] | (a,b) :: t=>if b=h - 1 then (a,h) :: t else (h,h) :: (a,b) :: t) else R
def scan (Q : Int→Bool) : Nat→Int→List (Int × Int)→List (Int × Int)
 | 0,_,R=>R
 | n + 1,h,R=>scan Q n (h + 1) (stp Q R h)
def tp (p : Int × Int) : List Int:=[p.1,p.2]
def tbl (R : List (Int × Int)) : List (List Int):=(R.map tp).reverse
theorem tbl_len (R : List (Int × Int)) : (tbl R).length=R.length:=by simp [tbl]
theorem tbl_last (p : Int × Int) (t : List (Int × Int)) : rd_L4 (tbl (p :: t)) (t.length : Int)=tp p:=by
 unfold rd_L4 tbl
 simp [List.getD_eq_getElem?_getD]
theorem tbl_set (p q : Int × Int) (t : List (Int × Int)) : (tbl (p :: t)).set t.length (tp q)=tbl (q :: t):=by
 unfold tbl
 simp
theorem tbl_add (p : Int × Int) (R : List (Int × Int)) : tbl R ++ [tp p]=tbl (p :: R):=by simp [tbl]
theorem stp_nil {Q : Int→Bool} {h : Int} (c : Q h=true) : stp Q [] h = [(h,h)]:=by unfold stp;rw [if_pos c]
theorem stp_join {Q : Int→Bool} {h a b : Int} (t : List (Int × Int)) (c : Q h=true) (e : b=h - 1) : stp Q ((a,b) :: t) h=(a,h) :: t:=by
 unfold stp;rw [if_pos c];simp only [];rw [if_pos e]
theorem stp_new {Q : Int→Bool} {h a b : Int} (t : List (Int × Int)) (c : Q h=true) (e : ¬ b=h - 1) : stp Q ((a,b) :: t) h=(h,h) :: (a,b) :: t:=by
 unfold stp;rw [if_pos c];simp only [];rw [if_neg e]
theorem stp_no {Q : Int→Bool} {h : Int} (R : List (Int × Int)) (c : ¬ Q h=true) : stp Q R h=R:=by unfold stp;rw [if_neg c]
theorem stp_len (Q : Int→Bool) (R : List (Int × Int)) (h : Int) : (stp Q R h).length≤R.length + 1:=by
 unfold stp
 split
 ·match R with
  | []=>simp
  | (a,b) :: t=>simp only [];split <;> simp
 ·omega
theorem ispans_l0 (Q : Int→Bool) (p : Int→Option Bool) (z : Int) (hz : z≤1000000) : ∀ (n : Nat) (h : Int) (R : List (Int × Int)) (k : Nat),0≤h→z + 1 - h=n →
  n < k→R.length + n≤10000000→(∀ x,h≤x→x≤z→p x=some (Q x))→impl_spans.l0 k z p (tbl R) h=some (tbl (scan Q n h R)):=by
 intro n
 induction n with
 | zero=>
  intro h R k h0 hn hk hR hp
  obtain ⟨k,rfl⟩ : ∃ j,k=j + 1:=⟨k - 1,by omega⟩
  rw [impl_spans.l0.eq_2,if_neg (by omega)]
  rfl
 | succ n ih=>
  intro h R k h0 hn hk hR hp
  obtain ⟨k,rfl⟩ : ∃ j,k=j + 1:=⟨k - 1,by omega⟩
  have e : wrap64 (h + 1)=h + 1:=wr (by omega) (by omega)
  have e1 : wrap64 (h - 1)=h - 1:=wr (by omega) (by omega)
  have go:=fun R' hR'=>ih (h + 1) R' k (by omega) (by omega) (by omega) hR' (fun x a b=>hp x (by omega) b)
  have le:=stp_len Q R h
  rw [impl_spans.l0.eq_2,if_pos (by omega),hp h (Int.le_refl _) (by omega)]
  simp only [Option.bind_some,e,e1,tbl_len]
  show _=some (tbl (scan Q n (h + 1) (stp Q R h)))
  by_cases c : Q h=true
  ·rw [if_pos c]
   match R,hR,le with
   | [],hR,le=>
    have w0 : wrap64 (((([] : List (Int × Int)).length : Nat) : Int) - 1) = -1:=by simp only [List.length_nil];rw [wr (by omega) (by omega)];rfl
    rw [w0,if_neg (by omega),if_pos (by simp)]
    have:=stp_nil c
    rw [this] at le ⊢
    exact go [(h,h)] (by simp;omega)
   | (a,b) :: t,hR,le=>
    have w0 : wrap64 (((((a,b) :: t : List (Int × Int)).length : Nat) : Int) - 1)=(t.length : Int):=by
     simp only [List.length_cons] at hR ⊢
     rw [wr (by omega) (by omega)]
     omega
    have len2 : ((tp (a,b)).length : Int)=2:=rfl
    have r1 : rd (tp (a,b)) 1=b:=rfl
    rw [w0,if_pos (by omega),if_pos (by omega),if_pos (by simp only [List.length_cons];omega),tbl_last,len2,if_pos (by omega),r1]
    by_cases c2 : b=h - 1
    ·rw [if_pos c2]
     have:=stp_join (a:=a) t c c2
     rw [this] at le ⊢
     have st : (tp (a,b)).set (1 : Int).toNat h=tp (a,h):=rfl
     rw [st,Int.toNat_natCast,tbl_set]
     exact go _ (by simp only [List.length_cons] at hR ⊢;omega)
    ·rw [if_neg c2]
     have:=stp_new (a:=a) t c c2
     rw [this] at le ⊢
     rw [if_pos (by omega)]
     have st : ([h,h] : List Int)=tp (h,h):=rfl
     rw [st,tbl_add]
     exact go _ (by simp only [List.length_cons] at hR ⊢;omega)
  ·rw [if_neg c]
   have:=stp_no R c
   rw [this]
   exact go R (by omega)
theorem ispans (Q : Int→Bool) (p : Int→Option Bool) (a z : Int) (h0 : 0≤a) (hz : z≤1000000) (k : Nat) (hk : 2000000≤k) (hp : ∀ x,a≤x→x≤z→p x=some (Q x)) :
  impl_spans.f k a z p=some (tbl (scan Q (z + 1 - a).toNat a [])):=by
 unfold impl_spans.f
 by_cases c : a≤z + 1
 ·exact ispans_l0 Q p z hz (z + 1 - a).toNat a [] k h0 (by omega) (by omega) (by simp;omega) hp
 ·obtain ⟨k,rfl⟩ : ∃ j,k=j + 1:=⟨k - 1,by omega⟩
  rw [impl_spans.l0.eq_2,if_neg (by omega),show (z + 1 - a).toNat=0 from by omega]
  rfl
structure Sp (Q : Int→Bool) (lo h : Int) (R : List (Int × Int)) : Prop where
 all : ∀ p ∈ R,lo≤p.1∧p.1≤p.2∧p.2 < h∧(∀ x,p.1≤x→x≤p.2→Q x=true)∧(p.2 + 1 < h→Q (p.2 + 1)=false)
 cov : ∀ x,lo≤x→x < h→Q x=true→∃ p ∈ R,p.1≤x∧x≤p.2
 ord : R.Pairwise (fun p q=>q.2 < p.1)
theorem Sp.step {Q : Int→Bool} {lo h : Int} {R : List (Int × Int)} (s : Sp Q lo h R) (hl : lo≤h) : Sp Q lo (h + 1) (stp Q R h):=by
 by_cases c : Q h=true
 ·rcases R with _ | ⟨⟨a,b⟩,t⟩
  ·rw [stp_nil c]
   refine ⟨fun p hp=>?_,fun x a b q=>?_,by simp⟩
   ·obtain rfl:=List.mem_singleton.mp hp
    refine ⟨hl,Int.le_refl _,by simp only [];omega,fun x u v=>?_,fun g=>by simp only [] at g;omega⟩
    simp only [] at u v
    rw [show x=h from by omega]
    exact c
   ·by_cases e : x=h
    ·exact ⟨_,List.mem_singleton.mpr rfl,by simp only [];omega,by simp only [];omega⟩
    ·obtain ⟨p,hp,_⟩:=s.cov x a (by omega) q
     cases hp
  ·have sa:=s.all (a,b) List.mem_cons_self
   have so:=List.pairwise_cons.mp s.ord
   simp only [] at sa
   by_cases e : b=h - 1
   ·rw [stp_join t c e]
    refine ⟨fun p hp=>?_,fun x u v q=>?_,List.pairwise_cons.mpr ⟨fun q hq=>so.1 q hq,so.2⟩⟩
    ·rcases List.mem_cons.mp hp with rfl | hp
     ·refine ⟨sa.1,by simp only [];omega,by simp only [];omega,fun x u v=>?_,fun g=>by simp only [] at g;omega⟩
      simp only [] at u v
      by_cases w : x=h
      ·rw [w];exact c
      ·exact sa.2.2.2.1 x u (by omega)
     ·have:=s.all p (List.mem_cons_of_mem _ hp)
      have o:=so.1 p hp
      simp only [] at o
      exact ⟨this.1,this.2.1,by omega,this.2.2.2.1,fun g=>this.2.2.2.2 (by omega)⟩
    ·by_cases w : x=h
     ·exact ⟨_,List.mem_cons_self,by simp only [];omega,by simp only [];omega⟩
     ·obtain ⟨p,hp,u',v'⟩:=s.cov x u (by omega) q
      rcases List.mem_cons.mp hp with rfl | hp
      ·simp only [] at u' v'
       exact ⟨_,List.mem_cons_self,u',by simp only [];omega⟩
      ·exact ⟨p,List.mem_cons_of_mem _ hp,u',v'⟩
   ·rw [stp_new t c e]
    have low : ∀ p ∈ (a,b) :: t,p.2 < h - 1:=by
     intro p hp
     rcases List.mem_cons.mp hp with rfl | hp
     ·simp only [];omega
     ·have o:=so.1 p hp
      simp only [] at o
      omega
    refine ⟨fun p hp=>?_,fun x u v q=>?_,List.pairwise_cons.mpr ⟨fun q hq=>?_,s.ord⟩⟩
    ·rcases List.mem_cons.mp hp with rfl | hp
     ·refine ⟨hl,Int.le_refl _,by simp only [];omega,fun x u v=>?_,fun g=>by simp only [] at g;omega⟩
      simp only [] at u v
      rw [show x=h from by omega]
      exact c
     ·have:=s.all p hp
      have lt:=low p hp
      exact ⟨this.1,this.2.1,by omega,this.2.2.2.1,fun g=>this.2.2.2.2 (by omega)⟩
    ·by_cases w : x=h
     ·exact ⟨_,List.mem_cons_self,by simp only [];omega,by simp only [];omega⟩
     ·obtain ⟨p,hp,u',v'⟩:=s.cov x u (by omega) q
      exact ⟨p,List.mem_cons_of_mem _ hp,u',v'⟩
    ·have:=low q hq
     simp only []
     omega
 ·rw [stp_no R c]
  have cf : Q h=false:=by cases e : Q h <;> simp_all
  refine ⟨fun p hp=>?_,fun x u v q=>?_,s.ord⟩
  ·have:=s.all p hp
   refine ⟨this.1,this.2.1,by omega,this.2.2.2.1,fun g=>?_⟩
   by_cases w : p.2 + 1=h
   ·rw [w];exact cf
   ·exact this.2.2.2.2 (by omega)
  ·by_cases w : x=h
   ·rw [w,cf] at q;cases q
   ·exact s.cov x u (by omega) q
theorem Sp.scan {Q : Int→Bool} {lo : Int} : ∀ (n : Nat) (h : Int) (R : List (Int × Int)),lo≤h→Sp Q lo h R→Sp Q lo (h + n) (scan Q n h R):=by
 intro n
 induction n with
 | zero=>intro h R _ s;rw [show h + ((0 : Nat) : Int)=h from by omega];exact s
 | succ n ih=>
  intro h R hl s
  have:=ih (h + 1) (stp Q R h) (by omega) (s.step hl)
  rw [show h + ((n + 1 : Nat) : Int)=h + 1 + n from by omega]
  exact this
theorem Sp.start (Q : Int→Bool) (lo : Int) : Sp Q lo lo []:=⟨fun p hp=>absurd hp List.not_mem_nil,fun x a b=>absurd a (by omega),List.Pairwise.nil⟩
def Run (Q : Int→Bool) (c a : Int) : Prop:=∀ x,a≤x→x < a + c→Q x=true
def Ans (Q : Int→Bool) (c : Int) (r : Int × Bool) : Prop:=(r.2=true∧Run Q c r.1∧∀ a,a < r.1→¬ Run Q c a) ∨ (r=(0,false)∧∀ a,¬ Run Q c a)
theorem Ans.uniq {Q : Int→Bool} {c : Int} {r s : Int × Bool} (h : Ans Q c r) (g : Ans Q c s) : r=s:=by
 rcases h with ⟨h1,h2,h3⟩ | ⟨h1,h2⟩ <;> rcases g with ⟨g1,g2,g3⟩ | ⟨g1,g2⟩
 ·have : r.1=s.1:=by
   rcases Int.lt_trichotomy r.1 s.1 with e | e | e
   ·exact absurd h2 (g3 _ e)
   ·exact e
   ·exact absurd g2 (h3 _ e)
  exact Prod.ext this (by rw [h1,g1])
 ·exact absurd h2 (g2 _)
 ·exact absurd g2 (h2 _)
 ·rw [h1,g1]
theorem ifor_l0 (Q : Int→Bool) (c lo hi : Int) (R : List (Int × Int)) (hc : 1≤c) (h0 : 0≤lo) (hh : hi≤1000000) (s : Sp Q lo hi R) (out : ∀ x,x < lo ∨ hi≤x→Q x=false) (hR : R.length≤10000000) :
  ∀ (L M : List (Int × Int)) (i : Int),(0 : Int)≤i→i=M.length→M ++ L=R.reverse→(∀ p ∈ M,p.2 - p.1 + 1 < c) →
   ∃ r,Ans Q c r∧Ev (fun k=>impl_OpenFor.l0 k c (tbl R) ((tbl R).length : Int) i) r:=by
 have tb : tbl R=R.reverse.map tp:=by unfold tbl;rw [List.map_reverse]
 intro L
 induction L with
 | nil=>
  intro M i hi0 hM e hs
  have len : M.length=R.length:=by have:=congrArg List.length e;simp at this;omega
  refine ⟨(0,false),.inr ⟨rfl,fun a g=>?_⟩,Ev.step (fun k=>impl_OpenFor.l0.eq_2 c (tbl R) _ i k) (Ev.neg (by rw [tbl_len];omega) (Ev.now _))⟩
  have ga:=g a (Int.le_refl _) (by omega)
  have inr : ¬ (a < lo ∨ hi≤a):=fun h=>by rw [out a h] at ga;cases ga
  obtain ⟨p,hp,u,v⟩:=s.cov a (by omega) (by omega) ga
  have hp' : p ∈ M:=by
   have : p ∈ M ++ []:=by rw [e];exact List.mem_reverse.mpr hp
   simpa using this
  have sh:=hs p hp'
  have sp:=s.all p hp
  have nx:=g (p.2 + 1) (by omega) (by omega)
  by_cases w : p.2 + 1 < hi
  ·rw [sp.2.2.2.2 w] at nx;cases nx
  ·rw [out (p.2 + 1) (by omega)] at nx;cases nx
 | cons q L ih=>
  intro M i hi0 hM e hs
  have len : M.length + (L.length + 1)=R.length:=by have:=congrArg List.length e;simp at this;omega
  have hq : q ∈ R:=by rw [← List.mem_reverse,← e];simp
  have sp:=s.all q hq
  have rd1 : rd_L4 (tbl R) i=tp q:=by
   rw [tb,← e]
   unfold rd_L4
   rw [hM,Int.toNat_natCast]
   simp [List.getD_eq_getElem?_getD]
  have l2 : ((tp q).length : Int)=2:=rfl
  have r1 : rd (tp q) 1=q.2:=rfl
  have r0 : rd (tp q) 0=q.1:=rfl
  have w1 : wrap64 (wrap64 (q.2 - q.1) + 1)=q.2 - q.1 + 1:=by rw [wr (x:=q.2 - q.1) (by omega) (by omega),wr (by omega) (by omega)]
  have e1 : wrap64 (i + 1)=i + 1:=wr (by omega) (by omega)
  by_cases g : q.2 - q.1 + 1 ≥ c
  ·refine ⟨(q.1,true),.inl ⟨rfl,fun x u v=>sp.2.2.2.1 x u (by simp only [] at v;omega),fun a ha g'=>?_⟩,?_⟩
   ·simp only [] at ha
    have ga:=g' a (Int.le_refl _) (by omega)
    have inr : ¬ (a < lo ∨ hi≤a):=fun h=>by rw [out a h] at ga;cases ga
    obtain ⟨p,hp,u,v⟩:=s.cov a (by omega) (by omega) ga
    have hp' : p ∈ M ++ q :: L:=by rw [e];exact List.mem_reverse.mpr hp
    have sp':=s.all p hp
    have od : (M ++ q :: L).Pairwise (fun p q=>p.2 < q.1):=by rw [e];exact List.pairwise_reverse.mpr s.ord
    have od':=List.pairwise_append.mp od
    rcases List.mem_append.mp hp' with m | m
    ·have sh:=hs p m
     have nx:=g' (p.2 + 1) (by omega) (by omega)
     by_cases w : p.2 + 1 < hi
     ·rw [sp'.2.2.2.2 w] at nx;cases nx
     ·rw [out (p.2 + 1) (by omega)] at nx;cases nx
    ·rcases List.mem_cons.mp m with rfl | m
     ·omega
     ·have:=(List.pairwise_cons.mp od'.2.1).1 p m
      omega
   ·refine Ev.step (fun k=>impl_OpenFor.l0.eq_2 c (tbl R) _ i k) (Ev.pos (by rw [tbl_len];omega) (Ev.pos hi0 (Ev.pos (by rw [tbl_len];omega) ?_)))
    simp only [rd1,l2,r1,r0,w1]
    exact Ev.pos (by omega) (Ev.pos (by omega) (Ev.pos g (Ev.now _)))
  ·obtain ⟨r,ha,hr⟩:=ih (M ++ [q]) (i + 1) (by omega) (by simp;omega) (by rw [← e];simp) (fun p hp=>by
    rcases List.mem_append.mp hp with m | m
    ·exact hs p m
    ·obtain rfl:=List.mem_singleton.mp m
     omega)
   refine ⟨r,ha,Ev.step (fun k=>impl_OpenFor.l0.eq_2 c (tbl R) _ i k) (Ev.pos (by rw [tbl_len];omega) (Ev.pos hi0 (Ev.pos (by rw [tbl_len];omega) ?_)))⟩
   simp only [rd1,l2,r1,r0,w1,e1]
   exact Ev.pos (by omega) (Ev.pos (by omega) (Ev.neg g hr))
end Go.Proofs.Ytldifiededjgjaa.Pu
