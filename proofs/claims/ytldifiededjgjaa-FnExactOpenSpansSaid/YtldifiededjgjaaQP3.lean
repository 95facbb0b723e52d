/- For all inputs the law FnExactOpenSpans answers true, and no call of it panics. -/
import Derived.Test.YtldifiededjgjaaQP2
namespace Go.Proofs.Ytldifiededjgjaa.P
open Go.RowKit Go.Proofs.YtldifiededjgjaaW.PrintWords Go.Proofs.YtldifiededjgjaaW.PrintLast Go.Proofs.YtldifiededjgjaaW.PrintMore
attribute [local go_sem] max2_int min2_int max_two min_two max_three min_three max_four min_four
set_option linter.unusedVariables false
set_option linter.unusedSimpArgs false
mutual
def impl_ClosedSumps.j0 : Nat→List (S30)→List (S44)→Int→Bool→Option (List Int × Bool)
 | 0,_,_,_,_=>none
 | k + 1,x0,x1,x2,x19=>if x19=true then (some (([] : List Int),false)) else (impl_ClosedSumps.l0 k x0 x2 ([] : List Int) x1 (x1.length : Int) 0)
def impl_ClosedSumps.l0 : Nat→List (S30)→Int→List Int→List (S44)→Int→Int→Option (List Int × Bool)
 | 0,_,_,_,_,_,_=>none
 | k + 1,x0,x2,x8,x20,x21,x22=>if x22 < x21 then (if 0≤x22 then (if x22 < (x20.length : Int) then ((impl_Sump_open.f k ((rd_T44 x20 x22).f0) ((rd_T44 x20 x22).f1) ((rd_T44 x20 x22).f2) x0 x2).bind fun t672=>(if t672=true then (impl_ClosedSumps.l0 k x0 x2 x8 x20 x21 (wrap64 (x22 + 1))) else (if x8.length < 17592186044416 then (impl_ClosedSumps.l0 k x0 x2 (x8 ++ [(rd_T44 x20 x22).f0]) x20 x21 (wrap64 (x22 + 1))) else (none)))) else (none)) else (none)) else (some (x8,true))
end
def impl_ClosedSumps.f (k : Nat) (l0 : List (S30)) (l1 : List (S44)) (a2 : Int) : Option (List Int × Bool):=(impl_hasHour.f k l0 a2).bind fun t668=>(if t668=true then ((impl_AreSumps.f k l1).bind fun t669=>(impl_ClosedSumps.j0 k l0 l1 a2 (!t669))) else (impl_ClosedSumps.j0 k l0 l1 a2 true))
theorem impl_ClosedSumps.mono_l : ∀ k,(∀ y0 y1 y2 y3,LeO (impl_ClosedSumps.j0 k y0 y1 y2 y3) (impl_ClosedSumps.j0 (k + 1) y0 y1 y2 y3))∧(∀ y0 y1 y2 y3 y4 y5,LeO (impl_ClosedSumps.l0 k y0 y1 y2 y3 y4 y5) (impl_ClosedSumps.l0 (k + 1) y0 y1 y2 y3 y4 y5))
 | 0=>⟨fun _ _ _ _ r h=>by simp [impl_ClosedSumps.j0] at h,fun _ _ _ _ _ _ r h=>by simp [impl_ClosedSumps.l0] at h⟩
 | k + 1=>by
  obtain ⟨ih0,ih1⟩:=impl_ClosedSumps.mono_l k
  refine ⟨?_,?_⟩
  ·intro y0 y1 y2 y3
   unfold impl_ClosedSumps.j0
   repeat' first
   | (with_reducible exact ih0 _ _ _ _)
   | (with_reducible exact ih1 _ _ _ _ _ _)
   | (with_reducible exact impl_AreSumps.mono _ _)
   | (with_reducible exact impl_Sump_open.mono _ _ _ _ _ _)
   | (with_reducible exact impl_hasHour.mono _ _ _)
   | (with_reducible exact LeO.refl _)
   | (with_reducible exact LeO.none _)
   | (with_reducible refine LeO.ite ?_ ?_)
   | (with_reducible refine LeO.bind ?_ (fun _=>?_))
   | exact ih0 _ _ _ _
   | exact ih1 _ _ _ _ _ _
  ·intro y0 y1 y2 y3 y4 y5
   unfold impl_ClosedSumps.l0
   repeat' first
   | (with_reducible exact ih0 _ _ _ _)
   | (with_reducible exact ih1 _ _ _ _ _ _)
   | (with_reducible exact impl_AreSumps.mono _ _)
   | (with_reducible exact impl_Sump_open.mono _ _ _ _ _ _)
   | (with_reducible exact impl_hasHour.mono _ _ _)
   | (with_reducible exact LeO.refl _)
   | (with_reducible exact LeO.none _)
   | (with_reducible refine LeO.ite ?_ ?_)
   | (with_reducible refine LeO.bind ?_ (fun _=>?_))
   | exact ih0 _ _ _ _
   | exact ih1 _ _ _ _ _ _
theorem impl_ClosedSumps.mono : ∀ a0 a1 a2 k,LeO (impl_ClosedSumps.f k a0 a1 a2) (impl_ClosedSumps.f (k + 1) a0 a1 a2):=by
 intro a0 a1 a2 k
 obtain ⟨ih0,ih1⟩:=impl_ClosedSumps.mono_l k
 unfold impl_ClosedSumps.f
 repeat' first
   | (with_reducible exact ih0 _ _ _ _)
   | (with_reducible exact ih1 _ _ _ _ _ _)
   | (with_reducible exact impl_AreSumps.mono _ _)
   | (with_reducible exact impl_Sump_open.mono _ _ _ _ _ _)
   | (with_reducible exact impl_hasHour.mono _ _ _)
   | (with_reducible exact LeO.refl _)
   | (with_reducible exact LeO.none _)
   | (with_reducible refine LeO.ite ?_ ?_)
   | (with_reducible refine LeO.bind ?_ (fun _=>?_))
   | exact ih0 _ _ _ _
   | exact ih1 _ _ _ _ _ _
set_option maxHeartbeats 8000000 in
set_option maxRecDepth 100000 in
theorem impl_ClosedSumps.calls (k : Nat) (A0 : Option Addr) (c0 : Nat) (l0 : List (S30)) (A1 : Option Addr) (c1 : Nat) (l1 : List (S44)) (a2 : Int) (r1 : List Int) (r2 : Bool) (w : World) (hr0 : Kd.C k30 w A0 l0.length l0) (hc0 : l0.length≤c0) (hr1 : Kd.C k44 w A1 l1.length l1) (hc1 : l1.length≤c1) (h : impl_ClosedSumps.f k l0 l1 a2=some (r1,r2)) :
  Calls Try.prog 37 #[.slice A0 l0.length c0,.slice A1 l1.length c1,.int .i64 a2] w fun e w'=>∃ v0_ : Value,e = .returned (.tuple #[v0_,.bool r2])∧Kd.R (Kd.int .i64) 3 w' w.heap.size (fun _=>True) v0_ r1∧Below w.heap.size w w':=by
 have hu44:=Try.underlying44
 have HR0:=amk hr0
 have HC0:=amk hc0
 clear hr0 hc0
 have HR1:=amk hr1
 have HC1:=amk hc1
 clear hr1 hc1
 have HB:=amk (Below.refl w.heap.size w)
 have H : ((impl_hasHour.f k l0 a2).bind fun t668=>(if t668=true then ((impl_AreSumps.f k l1).bind fun t669=>(impl_ClosedSumps.j0 k l0 l1 a2 (!t669))) else (impl_ClosedSumps.j0 k l0 l1 a2 true)))=some (r1,r2):=h
 clear h
 have HC4:=amk H
 clear H
 go_enter Try.func37,Try.ntmps37
 go_upto_region 1 with (fail)
 go_cut [19] (fun v19 wc=>∃ (kq : Nat) (x19_3 : Bool),v19 = .bool x19_3∧Aside0 (impl_ClosedSumps.j0 kq l0 l1 a2 x19_3=some (r1,r2))∧Aside0 (kq≤k)∧Aside0 (Below w.heap.size w wc))
 case first=>
  have H:=HC4.out
  clear HC4
  replace H:=obs H
  obtain ⟨t668,A50,H⟩:=H
  replace H : (if t668=true then ((impl_AreSumps.f k l1).bind fun t669=>(impl_ClosedSumps.j0 k l0 l1 a2 (!t669))) else (impl_ClosedSumps.j0 k l0 l1 a2 true))=some (r1,r2):=H
  have A5:=amk A50
  clear A50
  by_cases c6 : t668=true
  ·subst c6
   have H1 : ((impl_AreSumps.f k l1).bind fun t669=>(impl_ClosedSumps.j0 k l0 l1 a2 (!t669)))=some (r1,r2):=by rw [if_pos rfl] at H;exact H
   clear H
   have H:=H1
   clear H1
   replace H:=obs H
   obtain ⟨t669,A70,H⟩:=H
   replace H : (impl_ClosedSumps.j0 k l0 l1 a2 (!t669))=some (r1,r2):=H
   have A7:=amk A70
   clear A70
   have H':=amk H
   clear H
   go_wp2_with (first | ((with_reducible refine gate_callee (f:=49) rfl ?_);refine goesL_ (some 13) rfl rfl Try.func49 (by kernel_rfl) rfl #[.slice A0 l0.length c0,.int .i64 a2] rfl mtt ?_;(with_reducible refine (impl_hasHour.calls k _ _ l0 a2 true _ ?side1 ?side2 A5.out).mono ?_);(case side1=>exact ccc (Kd.C_below HR0.out HB.out));(case side2=>exact HC0.out);rintro e w8 ⟨rfl,hb⟩;refine ⟨_,rfl,?_⟩;replace HB:=amk (below_step (bel HB) hb);(try clear hb))|(go_at_call 41;(with_reducible refine (impl_AreSumps.calls k _ _ l1 t669 _ ?side1 ?side2 A7.out).mono ?_);(case side1=>exact ccc (Kd.C_below HR1.out HB.out));(case side2=>exact HC1.out);rintro e w9 ⟨rfl,hb⟩;replace HB:=amk (below_step (bel HB) hb);(try clear hb)))
   go_meet
   case rel=>exact ⟨_,(!t669),rsd,H',⟨by first | omega | exact Nat.le_refl _⟩,⟨bel HB⟩⟩
  ·replace c6:=Bool.eq_false_iff.mpr c6
   subst c6
   have H1 : (impl_ClosedSumps.j0 k l0 l1 a2 true)=some (r1,r2):=by rw [if_neg (show ¬ (false=true) by decide)] at H;exact H
   clear H
   have H:=H1
   clear H1
   have H':=amk H
   clear H
   go_wp2_with (first | ((with_reducible refine gate_callee (f:=49) rfl ?_);refine goesL_ (some 13) rfl rfl Try.func49 (by kernel_rfl) rfl #[.slice A0 l0.length c0,.int .i64 a2] rfl mtt ?_;(with_reducible refine (impl_hasHour.calls k _ _ l0 a2 false _ ?side1 ?side2 A5.out).mono ?_);(case side1=>exact ccc (Kd.C_below HR0.out HB.out));(case side2=>exact HC0.out);rintro e w10 ⟨rfl,hb⟩;refine ⟨_,rfl,?_⟩;replace HB:=amk (below_step (bel HB) hb);(try clear hb)))
   go_meet
   case rel=>exact ⟨_,(true),rsd,H',⟨by first | omega | exact Nat.le_refl _⟩,⟨bel HB⟩⟩
 case rest=>
  clear HC4
  try clear c1
  try clear p2
  try clear c3
  try clear c4
  try clear c6
  obtain ⟨kq,x19_3,rfl,HA,HJ3,HB⟩:=hcut
  cases kq with
  | zero=>exact absurd HA.out (by simp [impl_ClosedSumps.j0])
  | succ kj3=>
   have H:=HA.out
   clear HA
   simp only [impl_ClosedSumps.j0] at H
   by_cases c11 : x19_3=true
   ·subst c11
    have H1 : (some (([] : List Int),false))=some (r1,r2):=by rw [if_pos rfl] at H;exact H
    clear H
    have H:=H1
    clear H1
    simp only [Option.some.injEq,Prod.mk.injEq] at H
    obtain ⟨rfl,rfl⟩:=H
    go_wp2
    go_ret2
    exact ⟨_,erw0,by first | exact Kd.R_nil _ _ _ _ _ | exact Kd.N_nil _ _ _ _ _ | exact Kd.V_nil _ _ _ _ _ | exact Kd.Q_nil _ _ _ _ _ | exact Kd.S_nil _ _ _ _ _,bel HB⟩
   ·replace c11:=Bool.eq_false_iff.mpr c11
    subst c11
    have H1 : (impl_ClosedSumps.l0 kj3 l0 a2 ([] : List Int) l1 (l1.length : Int) 0)=some (r1,r2):=by rw [if_neg (show ¬ (false=true) by decide)] at H;exact H
    clear H
    have H:=H1
    clear H1
    have H':=amk H
    clear H
    go_wp2
    go_loopg [8,22] kj3 (fun kq v8 v22 w'=>∃ (x8_2 : List Int) (x22_2 : Int),v22 = .int .i64 x22_2∧Aside0 (impl_ClosedSumps.l0 kq l0 a2 x8_2 l1 (l1.length : Int) x22_2=some (r1,r2))∧Aside0 (kq≤kj3)∧Aside0 (Kd.R (Kd.int .i64) 3 w' w.heap.size (fun _=>True) v8 x8_2)∧Aside0 (Below w.heap.size w w'))
    case atStart=>exact ⟨(([] : List Int)),(0),rsd,H',⟨Nat.le_refl _⟩,⟨by first | exact Kd.R_nil _ _ _ _ _ | exact Kd.N_nil _ _ _ _ _ | exact Kd.V_nil _ _ _ _ _ | exact Kd.Q_nil _ _ _ _ _ | exact Kd.S_nil _ _ _ _ _⟩,⟨bel HB⟩⟩
    case round=>
     clear H'
     try clear c1
     try clear p2
     try clear c3
     try clear c4
     try clear c6
     try clear c11
     try clear p2
     obtain ⟨x8_2,x22_2,rfl,HA,HK2,HO_8,HB⟩:=hrel
     cases gk with
     | zero=>exact absurd HA.out (by simp [impl_ClosedSumps.l0])
     | succ k2=>
      have H:=HA.out
      clear HA
      simp only [impl_ClosedSumps.l0] at H
      by_cases c12 : x22_2 < (l1.length : Int)
      ·rw [if_pos c12] at H
       have c12b0 : decide (x22_2 < (l1.length : Int))=true:=decide_eq_true c12
       clear c12
       by_cases c13 : 0≤x22_2
       ·rw [if_pos c13] at H
        have c13b0 : decide (0≤x22_2)=true:=decide_eq_true c13
        clear c13
        by_cases c14 : x22_2 < (l1.length : Int)
        ·rw [if_pos c14] at H
         have c14b0 : decide (x22_2 < (l1.length : Int))=true:=decide_eq_true c14
         clear c14
         replace H:=obs H
         obtain ⟨t672,A150,H⟩:=H
         replace H : (if t672=true then (impl_ClosedSumps.l0 k2 l0 a2 x8_2 l1 (l1.length : Int) (wrap64 (x22_2 + 1))) else (if x8_2.length < 17592186044416 then (impl_ClosedSumps.l0 k2 l0 a2 (x8_2 ++ [(rd_T44 l1 x22_2).f0]) l1 (l1.length : Int) (wrap64 (x22_2 + 1))) else (none)))=some (r1,r2):=H
         have A15:=amk A150
         clear A150
         by_cases c16 : t672=true
         ·subst c16
          have H1 : (impl_ClosedSumps.l0 k2 l0 a2 x8_2 l1 (l1.length : Int) (wrap64 (x22_2 + 1)))=some (r1,r2):=by rw [if_pos rfl] at H;exact H
          clear H
          have H:=H1
          clear H1
          have H':=amk H
          clear H
          have p670 : 0≤(x22_2 : Int):=of_decide_eq_true ass
          have q670 : x22_2 < (l1.length : Int):=of_decide_eq_true ass
          obtain ⟨ad670,e670,hx670_0,hx670_1,hx670_2⟩:=at_T44 HR1.out x22_2 p670 q670
          cases e670
          replace hx670_0:=(HB.out.cell (World.block_lt_of_cell? w _ hx670_0)).trans hx670_0
          replace hx670_1:=(HB.out.cell (World.block_lt_of_cell? w _ hx670_1)).trans hx670_1
          replace hx670_2:=(HB.out.cell (World.block_lt_of_cell? w _ hx670_2)).trans hx670_2
          replace p670:=eq_true p670
          replace q670:=eq_true q670
          go_wp2_with (first | ((with_reducible refine gate_dst (N:=10) rfl ?_);refine box_event ?hg (N:=10) ?hd (cs:=#[.int .i64 0,.int .i64 0,.int .i64 0]) (t:=44) ?hr ?_;(case hd=>rfl);(case hg=>rfl);(case hr=>first | (go_simp;done)|(go_simp;rfl));intro gb671 hg w17 hbox hb;replace HO_8:=amk (Kd.R_below (rrr HO_8) hb);have BK671:=amk (hbox);have GW671:=amk ((by rw [hg];exact (below_size (bel HB)) : w.heap.size≤gb671));have GE671:=amk ((by rw [hg];exact (below_size (bel HB)) : w.heap.size≤gb671));replace HB:=amk (below_step (bel HB) hb);clear hb hbox hg;have hcz18_0 : w17.cell? ⟨gb671,0,none⟩=some (.int .i64 0):=(blk_cell BK671.out 0).trans rfl;have hcz18_1 : w17.cell? ⟨gb671,1,none⟩=some (.int .i64 0):=(blk_cell BK671.out 1).trans rfl;have hcz18_2 : w17.cell? ⟨gb671,2,none⟩=some (.int .i64 0):=(blk_cell BK671.out 2).trans rfl;have hfz18_0:=blk_frozen BK671.out 0;have hfz18_1:=blk_frozen BK671.out 1;have hfz18_2:=blk_frozen BK671.out 2)|((with_reducible refine gate_callee (f:=66) rfl ?_);refine goesL_ (some 29) rfl rfl Try.func66 (by kernel_rfl) rfl #[.agg #[.int .i64 ((rd_T44 l1 x22_2).f0),.int .i64 ((rd_T44 l1 x22_2).f1),.int .i64 ((rd_T44 l1 x22_2).f2)],.slice A0 l0.length c0,.int .i64 a2] rfl mtt ?_;(with_reducible refine (impl_Sump_open.calls k2 ((rd_T44 l1 x22_2).f0) ((rd_T44 l1 x22_2).f1) ((rd_T44 l1 x22_2).f2) _ _ l0 a2 true _ ?side1 ?side2 A15.out).mono ?_);(case side1=>exact Kd.C_below HR0.out (bel1 HB GE671.out));(case side2=>exact HC0.out);rintro e w19 ⟨rfl,hb⟩;refine ⟨_,rfl,?_⟩;have n0_:=amk (Kd.R_below (by (with_reducible repeat (first | apply Kd.R_alloc | apply Kd.R_drewN | apply Kd.R_drew));exact (Kd.R_mono (Kd.R_far (p:=⟨gb671,2,none⟩) (Kd.R_far (p:=⟨gb671,1,none⟩) (Kd.R_far (p:=⟨gb671,0,none⟩) (Kd.R_types HO_8.out BK671.out (by decide)) (fun _ hk=>hk.2) (.int .i64 ((rd_T44 l1 x22_2).f0))) (fun _ hk=>hk.2) (.int .i64 ((rd_T44 l1 x22_2).f1))) (fun _ hk=>hk.2) (.int .i64 ((rd_T44 l1 x22_2).f2))) (fun _ h_=>h_.1))) hb);have n1_:=amk (blk_below (g:=gb671) (o:=.cells #[.int .i64 ((rd_T44 l1 x22_2).f0),.int .i64 ((rd_T44 l1 x22_2).f1),.int .i64 ((rd_T44 l1 x22_2).f2)] 44 (0,0)) (by (with_reducible repeat (first | refine blk_drewN ?_ _ | refine blk_drew ?_ | refine blk_alloc ?_ _));refine blk_put (cs:=#[.int .i64 ((rd_T44 l1 x22_2).f0),.int .i64 ((rd_T44 l1 x22_2).f1),.int .i64 0]) ?_ 2 _ rfl;(with_reducible repeat (first | refine blk_drewN ?_ _ | refine blk_drew ?_ | refine blk_alloc ?_ _));refine blk_put (cs:=#[.int .i64 ((rd_T44 l1 x22_2).f0),.int .i64 0,.int .i64 0]) ?_ 1 _ rfl;(with_reducible repeat (first | refine blk_drewN ?_ _ | refine blk_drew ?_ | refine blk_alloc ?_ _));refine blk_put (cs:=#[.int .i64 0,.int .i64 0,.int .i64 0]) ?_ 0 _ rfl;(with_reducible repeat (first | refine blk_drewN ?_ _ | refine blk_drew ?_ | refine blk_alloc ?_ _));exact BK671.out) hb);have n2_:=amk (below_step (bel1 HB GE671.out) hb);clear HO_8;clear BK671;clear HB;have HO_8:=n0_;have BK671:=n1_;have HB:=n2_;clear n0_ n1_ n2_;(try clear hb)))
          go_roundg k2
          case measure=>have:=HJ3.out;have:=HK2.out;omega
          case rel=>exact ⟨(x8_2),(wrap64 (x22_2 + 1)),rsd,H',⟨by have:=HJ3.out;have:=HK2.out;omega⟩,⟨rrr HO_8⟩,⟨bel1 HB GE671.out⟩⟩
         ·replace c16:=Bool.eq_false_iff.mpr c16
          subst c16
          have H1 : (if x8_2.length < 17592186044416 then (impl_ClosedSumps.l0 k2 l0 a2 (x8_2 ++ [(rd_T44 l1 x22_2).f0]) l1 (l1.length : Int) (wrap64 (x22_2 + 1))) else (none))=some (r1,r2):=by rw [if_neg (show ¬ (false=true) by decide)] at H;exact H
          clear H
          have H:=H1
          clear H1
          by_cases c20 : x8_2.length < 17592186044416
          ·rw [if_pos c20] at H
           have LMc20:=amk c20
           clear c20
           obtain ⟨y673,hy673⟩ : ∃ y_ : List Int,y_=(x8_2 ++ [(rd_T44 l1 x22_2).f0]):=⟨_,rfl⟩
           replace H : (impl_ClosedSumps.l0 k2 l0 a2 y673 l1 (l1.length : Int) (wrap64 (x22_2 + 1)))=some (r1,r2):=by first | (rw [hy673];with_reducible exact H)|(have H2_:=(Option.bind_some _ _).symm.trans H;rw [hy673];with_reducible exact H2_)|(have H2_:=(Option.bind_some _ _).symm.trans H;with_reducible exact H2_) | with_reducible exact H | (rw [hy673];exact H) | exact H
           have Ny673:=amk hy673
           clear hy673
           have H':=amk H
           clear H
           have p670 : 0≤(x22_2 : Int):=of_decide_eq_true ass
           have q670 : x22_2 < (l1.length : Int):=of_decide_eq_true ass
           obtain ⟨ad670,e670,hx670_0,hx670_1,hx670_2⟩:=at_T44 HR1.out x22_2 p670 q670
           cases e670
           replace hx670_0:=(HB.out.cell (World.block_lt_of_cell? w _ hx670_0)).trans hx670_0
           replace hx670_1:=(HB.out.cell (World.block_lt_of_cell? w _ hx670_1)).trans hx670_1
           replace hx670_2:=(HB.out.cell (World.block_lt_of_cell? w _ hx670_2)).trans hx670_2
           replace p670:=eq_true p670
           replace q670:=eq_true q670
           go_wp2_with (first | ((with_reducible refine gate_dst (N:=10) rfl ?_);refine box_event ?hg (N:=10) ?hd (cs:=#[.int .i64 0,.int .i64 0,.int .i64 0]) (t:=44) ?hr ?_;(case hd=>rfl);(case hg=>rfl);(case hr=>first | (go_simp;done)|(go_simp;rfl));intro gb671 hg w21 hbox hb;replace HO_8:=amk (Kd.R_below (rrr HO_8) hb);have BK671:=amk (hbox);have GW671:=amk ((by rw [hg];exact (below_size (bel HB)) : w.heap.size≤gb671));have GE671:=amk ((by rw [hg];exact (below_size (bel HB)) : w.heap.size≤gb671));replace HB:=amk (below_step (bel HB) hb);clear hb hbox hg;have hcz22_0 : w21.cell? ⟨gb671,0,none⟩=some (.int .i64 0):=(blk_cell BK671.out 0).trans rfl;have hcz22_1 : w21.cell? ⟨gb671,1,none⟩=some (.int .i64 0):=(blk_cell BK671.out 1).trans rfl;have hcz22_2 : w21.cell? ⟨gb671,2,none⟩=some (.int .i64 0):=(blk_cell BK671.out 2).trans rfl;have hfz22_0:=blk_frozen BK671.out 0;have hfz22_1:=blk_frozen BK671.out 1;have hfz22_2:=blk_frozen BK671.out 2)|((with_reducible refine gate_callee (f:=66) rfl ?_);refine goesL_ (some 29) rfl rfl Try.func66 (by kernel_rfl) rfl #[.agg #[.int .i64 ((rd_T44 l1 x22_2).f0),.int .i64 ((rd_T44 l1 x22_2).f1),.int .i64 ((rd_T44 l1 x22_2).f2)],.slice A0 l0.length c0,.int .i64 a2] rfl mtt ?_;(with_reducible refine (impl_Sump_open.calls k2 ((rd_T44 l1 x22_2).f0) ((rd_T44 l1 x22_2).f1) ((rd_T44 l1 x22_2).f2) _ _ l0 a2 false _ ?side1 ?side2 A15.out).mono ?_);(case side1=>exact Kd.C_below HR0.out (bel1 HB GE671.out));(case side2=>exact HC0.out);rintro e w23 ⟨rfl,hb⟩;refine ⟨_,rfl,?_⟩;have n0_:=amk (Kd.R_below (by (with_reducible repeat (first | apply Kd.R_alloc | apply Kd.R_drewN | apply Kd.R_drew));exact (Kd.R_mono (Kd.R_far (p:=⟨gb671,2,none⟩) (Kd.R_far (p:=⟨gb671,1,none⟩) (Kd.R_far (p:=⟨gb671,0,none⟩) (Kd.R_types HO_8.out BK671.out (by decide)) (fun _ hk=>hk.2) (.int .i64 ((rd_T44 l1 x22_2).f0))) (fun _ hk=>hk.2) (.int .i64 ((rd_T44 l1 x22_2).f1))) (fun _ hk=>hk.2) (.int .i64 ((rd_T44 l1 x22_2).f2))) (fun _ h_=>h_.1))) hb);have n1_:=amk (blk_below (g:=gb671) (o:=.cells #[.int .i64 ((rd_T44 l1 x22_2).f0),.int .i64 ((rd_T44 l1 x22_2).f1),.int .i64 ((rd_T44 l1 x22_2).f2)] 44 (0,0)) (by (with_reducible repeat (first | refine blk_drewN ?_ _ | refine blk_drew ?_ | refine blk_alloc ?_ _));refine blk_put (cs:=#[.int .i64 ((rd_T44 l1 x22_2).f0),.int .i64 ((rd_T44 l1 x22_2).f1),.int .i64 0]) ?_ 2 _ rfl;(with_reducible repeat (first | refine blk_drewN ?_ _ | refine blk_drew ?_ | refine blk_alloc ?_ _));refine blk_put (cs:=#[.int .i64 ((rd_T44 l1 x22_2).f0),.int .i64 0,.int .i64 0]) ?_ 1 _ rfl;(with_reducible repeat (first | refine blk_drewN ?_ _ | refine blk_drew ?_ | refine blk_alloc ?_ _));refine blk_put (cs:=#[.int .i64 0,.int .i64 0,.int .i64 0]) ?_ 0 _ rfl;(with_reducible repeat (first | refine blk_drewN ?_ _ | refine blk_drew ?_ | refine blk_alloc ?_ _));exact BK671.out) hb);have n2_:=amk (below_step (bel1 HB GE671.out) hb);clear HO_8;clear BK671;clear HB;have HO_8:=n0_;have BK671:=n1_;have HB:=n2_;clear n0_ n1_ n2_;(try clear hb);have hcz24_0 : w23.cell? ⟨gb671,0,none⟩=some (.int .i64 ((rd_T44 l1 x22_2).f0)):=(blk_cell BK671.out 0).trans rfl;have hcz24_1 : w23.cell? ⟨gb671,1,none⟩=some (.int .i64 ((rd_T44 l1 x22_2).f1)):=(blk_cell BK671.out 1).trans rfl;have hcz24_2 : w23.cell? ⟨gb671,2,none⟩=some (.int .i64 ((rd_T44 l1 x22_2).f2)):=(blk_cell BK671.out 2).trans rfl;have hfz24_0:=blk_frozen BK671.out 0;have hfz24_1:=blk_frozen BK671.out 1;have hfz24_2:=blk_frozen BK671.out 2)|((with_reducible refine gate_builtin (b:=.append) (xs:=#[.tmp 31,.tmp 34]) rfl ?_);at_builtin;refine Kd.R_append (Kd.int .i64) (w0:=w) w.heap.size rfl (.tmp 31) (.tmp 34) 63 3 (.int .i64 0) 8 rfl Try.underlying63 info3 rfl (by decide) (by omega) u8 x8_2 ((rd_T44 l1 x22_2).f0) [.int .i64 ((rd_T44 l1 x22_2).f0)] (fun _=>True) (fun _=>False) rfl rfl ?aP (fun _ hk=>hk.elim) ?aF ?aO ?aB ?aS ?aL ?_;(case aP=>exact rfl);(case aB=>exact (bel1 HB GE671.out));(case aF=>exact (fun _ _=>trivial));(case aO=>exact (rrr HO_8));(case aS=>exact (below_size (bel1 HB GE671.out)));(case aL=>have:=LMc20.out;omega);intro v674 w25 ho hb hg hat;rw [← Ny673.out] at ho;replace BK671:=amk (blk_grown (g:=gb671) (o:=.cells #[.int .i64 ((rd_T44 l1 x22_2).f0),.int .i64 ((rd_T44 l1 x22_2).f1),.int .i64 ((rd_T44 l1 x22_2).f2)] 44 (0,0)) (bkk BK671) hg (Kd.R_ne HO_8.out BK671.out (by decide)));replace HB:=amk (hb);have HO675:=amk (ho);clear HO_8;clear ho hb hg hat))
           go_roundg k2
           case measure=>have:=HJ3.out;have:=HK2.out;omega
           case rel=>exact ⟨(y673),(wrap64 (x22_2 + 1)),rsd,H',⟨by have:=HJ3.out;have:=HK2.out;omega⟩,⟨rrr HO675⟩,⟨bel1 HB GE671.out⟩⟩
          ·rw [if_neg c20] at H
           exact absurd H (by simp)
        ·rw [if_neg c14] at H
         exact absurd H (by simp)
       ·rw [if_neg c13] at H
        exact absurd H (by simp)
      ·rw [if_neg c12] at H
       have c12b0 : decide (x22_2 < (l1.length : Int))=false:=decide_eq_false c12
       clear c12
       simp only [Option.some.injEq,Prod.mk.injEq] at H
       obtain ⟨rfl,rfl⟩:=H
       go_wp2
       go_ret2
       exact ⟨_,erw0,rrr HO_8,bel HB⟩
def spec_ClosedSumps.f (k : Nat) (l0 : List (S30)) (l1 : List (S44)) (a2 : Int) : Option (List Int × Bool):=(spec_l23Within.f k l0 a2).bind fun t690=>(if t690=true then ((spec_l23Sumps.f k l1).bind fun t691=>(if t691=true then ((spec_l23Closed.f k l0 l1 a2).bind fun t692=>(some (t692,true))) else (some ((([] : List Int)),false)))) else (some ((([] : List Int)),false)))
theorem spec_ClosedSumps.mono : ∀ a0 a1 a2 k,LeO (spec_ClosedSumps.f k a0 a1 a2) (spec_ClosedSumps.f (k + 1) a0 a1 a2):=by
 intro a0 a1 a2 k
 unfold spec_ClosedSumps.f
 repeat' first
   | (with_reducible exact spec_l23Closed.mono _ _ _ _)
   | (with_reducible exact spec_l23Sumps.mono _ _)
   | (with_reducible exact spec_l23Within.mono _ _ _)
   | (with_reducible exact LeO.refl _)
   | (with_reducible exact LeO.none _)
   | (with_reducible refine LeO.ite ?_ ?_)
   | (with_reducible refine LeO.bind ?_ (fun _=>?_))
set_option maxHeartbeats 8000000 in
set_option maxRecDepth 100000 in
theorem spec_ClosedSumps.calls (k : Nat) (A0 : Option Addr) (c0 : Nat) (l0 : List (S30)) (A1 : Option Addr) (c1 : Nat) (l1 : List (S44)) (a2 : Int) (r1 : List Int) (r2 : Bool) (w : World) (hr0 : Kd.C k30 w A0 l0.length l0) (hc0 : l0.length≤c0) (hr1 : Kd.C k44 w A1 l1.length l1) (hc1 : l1.length≤c1) (h : spec_ClosedSumps.f k l0 l1 a2=some (r1,r2)) :
  Calls Try.prog 39 #[.slice A0 l0.length c0,.slice A1 l1.length c1,.int .i64 a2] w fun e w'=>∃ v0_ : Value,e = .returned (.tuple #[v0_,.bool r2])∧Kd.R (Kd.int .i64) 3 w' w.heap.size (fun _=>True) v0_ r1∧Below w.heap.size w w':=by
 have HR0:=amk hr0
 have HC0:=amk hc0
 clear hr0 hc0
 have HR1:=amk hr1
 have HC1:=amk hc1
 clear hr1 hc1
 have HB:=amk (Below.refl w.heap.size w)
 have H : ((spec_l23Within.f k l0 a2).bind fun t690=>(if t690=true then ((spec_l23Sumps.f k l1).bind fun t691=>(if t691=true then ((spec_l23Closed.f k l0 l1 a2).bind fun t692=>(some (t692,true))) else (some ((([] : List Int)),false)))) else (some ((([] : List Int)),false))))=some (r1,r2):=h
 clear h
 replace H:=obs H
 obtain ⟨t690,A40,H⟩:=H
 replace H : (if t690=true then ((spec_l23Sumps.f k l1).bind fun t691=>(if t691=true then ((spec_l23Closed.f k l0 l1 a2).bind fun t692=>(some (t692,true))) else (some ((([] : List Int)),false)))) else (some ((([] : List Int)),false)))=some (r1,r2):=H
 have A4:=amk A40
 clear A40
 by_cases c5 : t690=true
 ·subst c5
  have H1 : ((spec_l23Sumps.f k l1).bind fun t691=>(if t691=true then ((spec_l23Closed.f k l0 l1 a2).bind fun t692=>(some (t692,true))) else (some ((([] : List Int)),false))))=some (r1,r2):=by rw [if_pos rfl] at H;exact H
  clear H
  have H:=H1
  clear H1
  replace H:=obs H
  obtain ⟨t691,A60,H⟩:=H
  replace H : (if t691=true then ((spec_l23Closed.f k l0 l1 a2).bind fun t692=>(some (t692,true))) else (some ((([] : List Int)),false)))=some (r1,r2):=H
  have A6:=amk A60
  clear A60
  by_cases c7 : t691=true
  ·subst c7
   have H1 : ((spec_l23Closed.f k l0 l1 a2).bind fun t692=>(some (t692,true)))=some (r1,r2):=by rw [if_pos rfl] at H;exact H
   clear H
   have H:=H1
   clear H1
   replace H:=obs H
   obtain ⟨t692,A80,H⟩:=H
   replace H : (some (t692,true))=some (r1,r2):=H
   have A8:=amk A80
   clear A80
   simp only [Option.some.injEq,Prod.mk.injEq] at H
   obtain ⟨rfl,rfl⟩:=H
   go_enter Try.func39,Try.ntmps39
   go_wp2_with (first | ((with_reducible refine gate_callee (f:=51) rfl ?_);refine goesL_ (some 10) rfl rfl Try.func51 (by kernel_rfl) rfl #[.slice A0 l0.length c0,.int .i64 a2] rfl mtt ?_;(with_reducible refine (spec_l23Within.calls k _ _ l0 a2 true _ ?side1 ?side2 A4.out).mono ?_);(case side1=>exact ccc HR0.out);(case side2=>exact HC0.out);rintro e w9 ⟨rfl,hb⟩;refine ⟨_,rfl,?_⟩;replace HB:=amk (below_step (bel HB) hb);(try clear hb))|(go_at_call 71;(with_reducible refine (spec_l23Sumps.calls k _ _ l1 true _ ?side1 ?side2 A6.out).mono ?_);(case side1=>exact ccc (Kd.C_below HR1.out HB.out));(case side2=>exact HC1.out);rintro e w10 ⟨rfl,hb⟩;replace HB:=amk (below_step (bel HB) hb);(try clear hb))|((with_reducible refine gate_callee (f:=73) rfl ?_);refine goesL_ (some 21) rfl rfl Try.func73 (by kernel_rfl) rfl #[.slice A0 l0.length c0,.slice A1 l1.length c1,.int .i64 a2] rfl mtt ?_;(with_reducible refine (spec_l23Closed.calls k _ _ l0 _ _ l1 a2 t692 _ ?side1 ?side2 ?side3 ?side4 A8.out).mono ?_);(case side1=>exact ccc (Kd.C_below HR0.out HB.out));(case side2=>exact HC0.out);(case side3=>exact ccc (Kd.C_below HR1.out HB.out));(case side4=>exact HC1.out);rintro e w11 ⟨v693,rfl,ho0,hb⟩;refine ⟨_,rfl,?_⟩;have HO694:=amk (Kd.R_lower ho0 (below_size (bel HB)));replace HB:=amk (below_step (bel HB) hb);(try clear hb ho0)))
   go_ret2
   exact ⟨_,erw0,rrr HO694,bel HB⟩
  ·replace c7:=Bool.eq_false_iff.mpr c7
   subst c7
   have H1 : (some ((([] : List Int)),false))=some (r1,r2):=by rw [if_neg (show ¬ (false=true) by decide)] at H;exact H
   clear H
   have H:=H1
   clear H1
   obtain ⟨y695,hy695⟩ : ∃ y_ : List Int,y_=(([] : List Int)):=⟨_,rfl⟩
   replace H : (some (y695,false))=some (r1,r2):=by first | (rw [hy695];with_reducible exact H)|(have H2_:=(Option.bind_some _ _).symm.trans H;rw [hy695];with_reducible exact H2_)|(have H2_:=(Option.bind_some _ _).symm.trans H;with_reducible exact H2_) | with_reducible exact H | (rw [hy695];exact H) | exact H
   have Ny695:=amk hy695
   clear hy695
   simp only [Option.some.injEq,Prod.mk.injEq] at H
   obtain ⟨rfl,rfl⟩:=H
   go_enter Try.func39,Try.ntmps39
   go_wp2_with (first | ((with_reducible refine gate_callee (f:=51) rfl ?_);refine goesL_ (some 10) rfl rfl Try.func51 (by kernel_rfl) rfl #[.slice A0 l0.length c0,.int .i64 a2] rfl mtt ?_;(with_reducible refine (spec_l23Within.calls k _ _ l0 a2 true _ ?side1 ?side2 A4.out).mono ?_);(case side1=>exact ccc HR0.out);(case side2=>exact HC0.out);rintro e w12 ⟨rfl,hb⟩;refine ⟨_,rfl,?_⟩;replace HB:=amk (below_step (bel HB) hb);(try clear hb))|(go_at_call 71;(with_reducible refine (spec_l23Sumps.calls k _ _ l1 false _ ?side1 ?side2 A6.out).mono ?_);(case side1=>exact ccc (Kd.C_below HR1.out HB.out));(case side2=>exact HC1.out);rintro e w13 ⟨rfl,hb⟩;replace HB:=amk (below_step (bel HB) hb);(try clear hb))|((with_reducible refine gate_dst (N:=17) rfl ?_);refine Kd.R_lit (Kd.int .i64) _ 3 ?hg (N:=17) ?hd (xs:=([] : List Int)) (inner:=[]) (ok:=fun _=>True) (okp:=fun _=>True) ?hr ?hp (fun _ hk=>hk) trivial (Below.refl _ _) (Nat.le_refl _) (by simp) ?_;(case hd=>rfl);(case hg=>rfl);(case hr=>first | (go_simp;done)|(go_simp;rfl));(case hp=>exact (Reps.none _ _));intro v696 w14 ho15 hb hg_ hnew_;clear hg_ hnew_;(first | rw [← Ny695.out] at ho15 | (simp only [Int.reduceToNat] at ho15;rw [← Ny695.out] at ho15));have HO697:=amk (Kd.R_lower ho15 (below_size (bel HB)));replace HB:=amk (below_step (bel HB) hb);clear hb ho15))
   go_ret2
   exact ⟨_,erw0,rrr HO697,bel HB⟩
 ·replace c5:=Bool.eq_false_iff.mpr c5
  subst c5
  have H1 : (some ((([] : List Int)),false))=some (r1,r2):=by rw [if_neg (show ¬ (false=true) by decide)] at H;exact H
  clear H
  have H:=H1
  clear H1
  obtain ⟨y698,hy698⟩ : ∃ y_ : List Int,y_=(([] : List Int)):=⟨_,rfl⟩
  replace H : (some (y698,false))=some (r1,r2):=by first | (rw [hy698];with_reducible exact H)|(have H2_:=(Option.bind_some _ _).symm.trans H;rw [hy698];with_reducible exact H2_)|(have H2_:=(Option.bind_some _ _).symm.trans H;with_reducible exact H2_) | with_reducible exact H | (rw [hy698];exact H) | exact H
  have Ny698:=amk hy698
  clear hy698
  simp only [Option.some.injEq,Prod.mk.injEq] at H
  obtain ⟨rfl,rfl⟩:=H
  go_enter Try.func39,Try.ntmps39
  go_wp2_with (first | ((with_reducible refine gate_callee (f:=51) rfl ?_);refine goesL_ (some 10) rfl rfl Try.func51 (by kernel_rfl) rfl #[.slice A0 l0.length c0,.int .i64 a2] rfl mtt ?_;(with_reducible refine (spec_l23Within.calls k _ _ l0 a2 false _ ?side1 ?side2 A4.out).mono ?_);(case side1=>exact ccc HR0.out);(case side2=>exact HC0.out);rintro e w16 ⟨rfl,hb⟩;refine ⟨_,rfl,?_⟩;replace HB:=amk (below_step (bel HB) hb);(try clear hb))|((with_reducible refine gate_dst (N:=17) rfl ?_);refine Kd.R_lit (Kd.int .i64) _ 3 ?hg (N:=17) ?hd (xs:=([] : List Int)) (inner:=[]) (ok:=fun _=>True) (okp:=fun _=>True) ?hr ?hp (fun _ hk=>hk) trivial (Below.refl _ _) (Nat.le_refl _) (by simp) ?_;(case hd=>rfl);(case hg=>rfl);(case hr=>first | (go_simp;done)|(go_simp;rfl));(case hp=>exact (Reps.none _ _));intro v699 w17 ho18 hb hg_ hnew_;clear hg_ hnew_;(first | rw [← Ny698.out] at ho18 | (simp only [Int.reduceToNat] at ho18;rw [← Ny698.out] at ho18));have HO700:=amk (Kd.R_lower ho18 (below_size (bel HB)));replace HB:=amk (below_step (bel HB) hb);clear hb ho18))
  go_ret2
  exact ⟨_,erw0,rrr HO700,bel HB⟩
def impl_Reading_93.l0 : Nat→List (S30)→(S30→Option Bool)→Int→Int→Option (Int)
 | 0,_,_,_,_=>none
 | k + 1,x0,x1,x7,x8=>if x8 < x7 then (if 0≤x8 then (if x8 < (x0.length : Int) then ((x1 (⟨(rd_T30 x0 x8).f0,(rd_T30 x0 x8).f1⟩ : S30)).bind fun t714=>(if t714=true then (some x8) else (impl_Reading_93.l0 k x0 x1 x7 (wrap64 (x8 + 1))))) else (none)) else (none)) else (some (-1))
def impl_Reading_93.f (k : Nat) (l0 : List (S30)) (a1 : (S30→Option Bool)) : Option (Int):=impl_Reading_93.l0 k l0 a1 (l0.length : Int) 0
theorem impl_Reading_93.mono_l (p_ q_ : S30→Option Bool) (hpq_ : ∀ x_,LeO (p_ x_) (q_ x_)) : ∀ k,(∀ y0 y2 y3,LeO (impl_Reading_93.l0 k y0 p_ y2 y3) (impl_Reading_93.l0 (k + 1) y0 q_ y2 y3))
 | 0=>fun _ _ _ r h=>by simp [impl_Reading_93.l0] at h
 | k + 1=>by
  have ih0:=impl_Reading_93.mono_l p_ q_ hpq_ k
  ·intro y0 y2 y3
   unfold impl_Reading_93.l0
   repeat' first
   | (with_reducible exact ih0 _ _ _)
   | (with_reducible exact hpq_ _)
   | (with_reducible exact LeO.refl _)
   | (with_reducible exact LeO.none _)
   | (with_reducible refine LeO.ite ?_ ?_)
   | (with_reducible refine LeO.bind ?_ (fun _=>?_))
   | exact ih0 _ _ _
   | exact hpq_ _
theorem impl_Reading_93.mono : ∀ a0 (p_ q_ : S30→Option Bool) (k : Nat),(∀ x_,LeO (p_ x_) (q_ x_))→LeO (impl_Reading_93.f k a0 p_) (impl_Reading_93.f (k + 1) a0 q_):=by
 intro a0 p_ q_ k hpq_
 have ih0:=impl_Reading_93.mono_l p_ q_ hpq_ k
 unfold impl_Reading_93.f
 repeat' first
   | (with_reducible exact ih0 _ _ _)
   | (with_reducible exact hpq_ _)
   | (with_reducible exact LeO.refl _)
   | (with_reducible exact LeO.none _)
   | (with_reducible refine LeO.ite ?_ ?_)
   | (with_reducible refine LeO.bind ?_ (fun _=>?_))
   | exact ih0 _ _ _
   | exact hpq_ _
set_option maxHeartbeats 8000000 in
set_option maxRecDepth 100000 in
theorem impl_Reading_93.calls (k : Nat) (A0 : Option Addr) (c0 : Nat) (l0 : List (S30)) (gf1_ : Nat) (lb1_ : Array Value) (a1 : (S30→Option Bool)) (r : Int) (w : World) (hr0 : Kd.C k30 w A0 l0.length l0) (hc0 : l0.length≤c0) (eg1 : ∀ args_ w_,(callFunc gf1_ args_).run Try.prog w_ = .ok (.enter gf1_ args_) w_) (hp1 : ∀ (W_ : World) (x_ : S30) (b_ : Bool),a1 x_=some b_→Below w.heap.size w W_→Calls Try.prog gf1_ (#[.agg #[.int .i64 x_.f0,.int .i64 x_.f1]] ++ lb1_) W_ fun e w'=>e = .returned (.bool b_)∧Below W_.heap.size W_ w') (h : impl_Reading_93.f k l0 a1=some r) :
  Calls Try.prog 93 #[.slice A0 l0.length c0,.func (.func gf1_) #[] lb1_] w fun e w'=>e = .returned (.int .i64 r)∧Below w.heap.size w w':=by
 have hu30:=Try.underlying30
 have HR0:=amk hr0
 have HC0:=amk hc0
 clear hr0 hc0
 have HP1:=amk hp1
 clear hp1
 have HB:=amk (Below.refl w.heap.size w)
 have H : (impl_Reading_93.l0 k l0 a1 (l0.length : Int) 0)=some r:=h
 clear h
 have H':=amk H
 clear H
 go_enter Try.func93,Try.ntmps93
 go_wp2
 go_loopg [8] k (fun kq v8 w'=>∃ (x8_1 : Int),v8 = .int .i64 x8_1∧Aside0 (impl_Reading_93.l0 kq l0 a1 (l0.length : Int) x8_1=some r)∧Aside0 (kq≤k)∧Aside0 (Below w.heap.size w w'))
 case atStart=>exact ⟨(0),rsd,H',⟨Nat.le_refl _⟩,⟨bel HB⟩⟩
 case round=>
  clear H'
  try clear p1
  try clear p2
  obtain ⟨x8_1,rfl,HA,HK1,HB⟩:=hrel
  cases gk with
  | zero=>exact absurd HA.out (by simp [impl_Reading_93.l0])
  | succ k1=>
   have H:=HA.out
   clear HA
   simp only [impl_Reading_93.l0] at H
   by_cases c3 : x8_1 < (l0.length : Int)
   ·rw [if_pos c3] at H
    have c3b0 : decide (x8_1 < (l0.length : Int))=true:=decide_eq_true c3
    clear c3
    by_cases c4 : 0≤x8_1
    ·rw [if_pos c4] at H
     have c4b0 : decide (0≤x8_1)=true:=decide_eq_true c4
     clear c4
     by_cases c5 : x8_1 < (l0.length : Int)
     ·rw [if_pos c5] at H
      have c5b0 : decide (x8_1 < (l0.length : Int))=true:=decide_eq_true c5
      clear c5
      replace H:=obs H
      obtain ⟨t714,A60,H⟩:=H
      replace H : (if t714=true then (some x8_1) else (impl_Reading_93.l0 k1 l0 a1 (l0.length : Int) (wrap64 (x8_1 + 1))))=some r:=H
      have A6:=amk A60
      clear A60
      by_cases c7 : t714=true
      ·subst c7
       have H1 : (some x8_1)=some r:=by rw [if_pos rfl] at H;exact H
       clear H
       have H:=H1
       clear H1
       obtain rfl:=Option.some.inj H
       have p713 : 0≤(x8_1 : Int):=of_decide_eq_true ass
       have q713 : x8_1 < (l0.length : Int):=of_decide_eq_true ass
       obtain ⟨ad713,e713,hx713_0,hx713_1⟩:=at_T30 HR0.out x8_1 p713 q713
       cases e713
       replace hx713_0:=(HB.out.cell (World.block_lt_of_cell? w _ hx713_0)).trans hx713_0
       replace hx713_1:=(HB.out.cell (World.block_lt_of_cell? w _ hx713_1)).trans hx713_1
       replace p713:=eq_true p713
       replace q713:=eq_true q713
       go_wp2_with (first | ((with_reducible refine (HP1.out _ _ true A6.out ?sidefp).mono ?_);(case sidefp=>exact bel HB);rintro e w8 ⟨rfl,hb⟩;replace HB:=amk (below_step (bel HB) hb);(try clear hb)))
       go_ret
       exact ⟨erw0,bel HB⟩
      ·replace c7:=Bool.eq_false_iff.mpr c7
       subst c7
       have H1 : (impl_Reading_93.l0 k1 l0 a1 (l0.length : Int) (wrap64 (x8_1 + 1)))=some r:=by rw [if_neg (show ¬ (false=true) by decide)] at H;exact H
       clear H
       have H:=H1
       clear H1
       have H':=amk H
       clear H
       have p713 : 0≤(x8_1 : Int):=of_decide_eq_true ass
       have q713 : x8_1 < (l0.length : Int):=of_decide_eq_true ass
       obtain ⟨ad713,e713,hx713_0,hx713_1⟩:=at_T30 HR0.out x8_1 p713 q713
       cases e713
       replace hx713_0:=(HB.out.cell (World.block_lt_of_cell? w _ hx713_0)).trans hx713_0
       replace hx713_1:=(HB.out.cell (World.block_lt_of_cell? w _ hx713_1)).trans hx713_1
       replace p713:=eq_true p713
       replace q713:=eq_true q713
       go_wp2_with (first | ((with_reducible refine (HP1.out _ _ false A6.out ?sidefp).mono ?_);(case sidefp=>exact bel HB);rintro e w9 ⟨rfl,hb⟩;replace HB:=amk (below_step (bel HB) hb);(try clear hb)))
       go_roundg k1
       case measure=>have:=HK1.out;omega
       case rel=>exact ⟨(wrap64 (x8_1 + 1)),rsd,H',⟨by have:=HK1.out;omega⟩,⟨bel HB⟩⟩
     ·rw [if_neg c5] at H
      exact absurd H (by simp)
    ·rw [if_neg c4] at H
     exact absurd H (by simp)
   ·rw [if_neg c3] at H
    have c3b0 : decide (x8_1 < (l0.length : Int))=false:=decide_eq_false c3
    clear c3
    obtain rfl:=Option.some.inj H
    go_wp2
    go_ret
    exact ⟨erw0,bel HB⟩
def impl_Reading_82.f (k : Nat) (l0 : List (S30)) (a1 : (S30→Option Bool)) : Option (Bool):=(impl_Reading_93.f k l0 a1).bind fun t715=>(some (decide (t715 ≥ 0)))
theorem impl_Reading_82.mono : ∀ a0 (p_ q_ : S30→Option Bool) (k : Nat),(∀ x_,LeO (p_ x_) (q_ x_))→LeO (impl_Reading_82.f k a0 p_) (impl_Reading_82.f (k + 1) a0 q_):=by
 intro a0 p_ q_ k hpq_
 unfold impl_Reading_82.f
 repeat' first
   | (with_reducible exact hpq_ _)
   | (with_reducible exact impl_Reading_93.mono _ _ _ _ (fun x_=>hpq_ x_))
   | (with_reducible exact LeO.refl _)
   | (with_reducible exact LeO.none _)
   | (with_reducible refine LeO.ite ?_ ?_)
   | (with_reducible refine LeO.bind ?_ (fun _=>?_))
   | exact hpq_ _
   | exact impl_Reading_93.mono _ _ _ _ (fun x_=>hpq_ x_)
set_option maxHeartbeats 8000000 in
set_option maxRecDepth 100000 in
theorem impl_Reading_82.calls (k : Nat) (A0 : Option Addr) (c0 : Nat) (l0 : List (S30)) (gf1_ : Nat) (lb1_ : Array Value) (a1 : (S30→Option Bool)) (r : Bool) (w : World) (hr0 : Kd.C k30 w A0 l0.length l0) (hc0 : l0.length≤c0) (eg1 : ∀ args_ w_,(callFunc gf1_ args_).run Try.prog w_ = .ok (.enter gf1_ args_) w_) (hp1 : ∀ (W_ : World) (x_ : S30) (b_ : Bool),a1 x_=some b_→Below w.heap.size w W_→Calls Try.prog gf1_ (#[.agg #[.int .i64 x_.f0,.int .i64 x_.f1]] ++ lb1_) W_ fun e w'=>e = .returned (.bool b_)∧Below W_.heap.size W_ w') (h : impl_Reading_82.f k l0 a1=some r) :
  Calls Try.prog 82 #[.slice A0 l0.length c0,.func (.func gf1_) #[] lb1_] w fun e w'=>e = .returned (.bool r)∧Below w.heap.size w w':=by
 have HR0:=amk hr0
 have HC0:=amk hc0
 clear hr0 hc0
 have HP1:=amk hp1
 clear hp1
 have HB:=amk (Below.refl w.heap.size w)
 have H : ((impl_Reading_93.f k l0 a1).bind fun t715=>(some (decide (t715 ≥ 0))))=some r:=h
 clear h
 replace H:=obs H
 obtain ⟨t715,A30,H⟩:=H
 replace H : (some (decide (t715 ≥ 0)))=some r:=H
 have A3:=amk A30
 clear A30
 obtain rfl:=Option.some.inj H
 go_enter Try.func82,Try.ntmps82
 go_wp2_with (first | ((with_reducible refine gate_callee (f:=93) rfl ?_);refine goesL_ (some 7) rfl rfl Try.func93 (by kernel_rfl) rfl #[.slice A0 l0.length c0,.func (.func gf1_) #[] lb1_] rfl mtt ?_;(with_reducible refine (impl_Reading_93.calls k _ _ l0 gf1_ lb1_ a1 t715 _ ?side1 ?side2 ?side3 ?side4 A3.out).mono ?_);(case side1=>exact ccc HR0.out);(case side2=>exact HC0.out);(case side3=>exact eg1);(case side4=>exact fun W_ x_ b_ hx_ hW_=>HP1.out W_ x_ b_ hx_ (below_step (bel HB) hW_));rintro e w4 ⟨rfl,hb⟩;refine ⟨_,rfl,?_⟩;replace HB:=amk (below_step (bel HB) hb);(try clear hb)))
 go_ret
 exact ⟨erw0,bel HB⟩
def impl_DrownedSumps_1.f (a0_0 : Int) (a0_1 : Int) (a1_0 : Int) (a1_1 : Int) (a1_2 : Int) : Option (Bool):=some (decide (a0_1 > a1_1))
set_option maxHeartbeats 8000000 in
set_option maxRecDepth 100000 in
theorem impl_DrownedSumps_1.calls (a0_0 : Int) (a0_1 : Int) (gc1_ : Nat) (a1_0 : Int) (a1_1 : Int) (a1_2 : Int) (r : Bool) (w : World) (hk1 : w.heap[gc1_]? = some (.cells #[.int .i64 a1_0,.int .i64 a1_1,.int .i64 a1_2] 44 (0,0))) (h : impl_DrownedSumps_1.f a0_0 a0_1 a1_0 a1_1 a1_2=some r) :
  Calls Try.prog 83 #[.agg #[.int .i64 a0_0,.int .i64 a0_1],.pointer (some ⟨gc1_,0,none⟩)] w fun e w'=>e = .returned (.bool r)∧Below w.heap.size w w':=by
 have hu30:=Try.underlying30
 have BK1:=amk hk1
 clear hk1
 have HB:=amk (Below.refl w.heap.size w)
 have H : (some (decide (a0_1 > a1_1)))=some r:=h
 clear h
 obtain rfl:=Option.some.inj H
 go_enter Try.func83,Try.ntmps83
 go_wp2_with (first | ((with_reducible refine gate_dst (N:=2) rfl ?_);refine box_event ?hg (N:=2) ?hd (cs:=#[.int .i64 a0_0,.int .i64 a0_1]) (t:=30) ?hr ?_;(case hd=>rfl);(case hg=>rfl);(case hr=>first | (go_simp;done)|(go_simp;rfl));intro gb716 hg w3 hbox hb;have BK716:=amk (hbox);have GW716:=amk ((by rw [hg];exact (below_size (bel HB)) : w.heap.size≤gb716));have GE716:=amk ((by rw [hg];exact (below_size (bel HB)) : w.heap.size≤gb716));replace HB:=amk (below_step (bel HB) hb);have NB1_716:=amk ((by rw [hg];exact Nat.ne_of_lt (blk_lt (g:=gc1_) (o:=.cells #[.int .i64 a1_0,.int .i64 a1_1,.int .i64 a1_2] 44 (0,0)) (bkk BK1)) : gc1_ ≠ gb716));have NB716_1:=amk ((by rw [hg];exact Nat.ne_of_gt (blk_lt (g:=gc1_) (o:=.cells #[.int .i64 a1_0,.int .i64 a1_1,.int .i64 a1_2] 44 (0,0)) (bkk BK1)) : gb716 ≠ gc1_));replace BK1:=amk (blk_below (g:=gc1_) (o:=.cells #[.int .i64 a1_0,.int .i64 a1_1,.int .i64 a1_2] 44 (0,0)) (bkk BK1) hb);clear hb hbox hg;have hnb4:=NB716_1.out;have hnc4:=NB1_716.out;have hcz5_0 : w3.cell? ⟨gb716,0,none⟩=some (.int .i64 a0_0):=(blk_cell BK716.out 0).trans rfl;have hcz5_1 : w3.cell? ⟨gb716,1,none⟩=some (.int .i64 a0_1):=(blk_cell BK716.out 1).trans rfl;have hfz5_0:=blk_frozen BK716.out 0;have hfz5_1:=blk_frozen BK716.out 1;have hcz6_0 : w3.cell? ⟨gc1_,0,none⟩=some (.int .i64 a1_0):=(blk_cell BK1.out 0).trans rfl;have hcz6_1 : w3.cell? ⟨gc1_,1,none⟩=some (.int .i64 a1_1):=(blk_cell BK1.out 1).trans rfl;have hcz6_2 : w3.cell? ⟨gc1_,2,none⟩=some (.int .i64 a1_2):=(blk_cell BK1.out 2).trans rfl;have hfz6_0:=blk_frozen BK1.out 0;have hfz6_1:=blk_frozen BK1.out 1;have hfz6_2:=blk_frozen BK1.out 2))
 go_ret
 exact ⟨erw0,bel1 HB GE716.out⟩
mutual
def impl_DrownedSumps.j0 : Nat→List (S30)→List (S44)→Bool→Option (List Int × Bool)
 | 0,_,_,_=>none
 | k + 1,x0,x1,x16=>if x16=true then (some (([] : List Int),false)) else (impl_DrownedSumps.l0 k x0 ([] : List Int) x1 (x1.length : Int) 0)
def impl_DrownedSumps.l0 : Nat→List (S30)→List Int→List (S44)→Int→Int→Option (List Int × Bool)
 | 0,_,_,_,_,_=>none
 | k + 1,x0,x6,x17,x18,x19=>if x19 < x18 then (if 0≤x19 then (if x19 < (x17.length : Int) then ((impl_Reading_82.f k x0 (fun x_ : S30=>impl_DrownedSumps_1.f x_.f0 x_.f1 ((rd_T44 x17 x19).f0) ((rd_T44 x17 x19).f1) ((rd_T44 x17 x19).f2))).bind fun t721=>(if t721=true then (if x6.length < 17592186044416 then (impl_DrownedSumps.l0 k x0 (x6 ++ [(rd_T44 x17 x19).f0]) x17 x18 (wrap64 (x19 + 1))) else (none)) else (impl_DrownedSumps.l0 k x0 x6 x17 x18 (wrap64 (x19 + 1))))) else (none)) else (none)) else (some (x6,true))
end
def impl_DrownedSumps.f (k : Nat) (l0 : List (S30)) (l1 : List (S44)) : Option (List Int × Bool):=(impl_AreReadings.f k l0).bind fun t717=>(if t717=true then ((impl_AreSumps.f k l1).bind fun t718=>(impl_DrownedSumps.j0 k l0 l1 (!t718))) else (impl_DrownedSumps.j0 k l0 l1 true))
theorem impl_DrownedSumps.mono_l : ∀ k,(∀ y0 y1 y2,LeO (impl_DrownedSumps.j0 k y0 y1 y2) (impl_DrownedSumps.j0 (k + 1) y0 y1 y2))∧(∀ y0 y1 y2 y3 y4,LeO (impl_DrownedSumps.l0 k y0 y1 y2 y3 y4) (impl_DrownedSumps.l0 (k + 1) y0 y1 y2 y3 y4))
 | 0=>⟨fun _ _ _ r h=>by simp [impl_DrownedSumps.j0] at h,fun _ _ _ _ _ r h=>by simp [impl_DrownedSumps.l0] at h⟩
 | k + 1=>by
  obtain ⟨ih0,ih1⟩:=impl_DrownedSumps.mono_l k
  refine ⟨?_,?_⟩
  ·intro y0 y1 y2
   unfold impl_DrownedSumps.j0
   repeat' first
   | (with_reducible exact ih0 _ _ _)
   | (with_reducible exact ih1 _ _ _ _ _)
   | (with_reducible exact impl_AreReadings.mono _ _)
   | (with_reducible exact impl_AreSumps.mono _ _)
   | (with_reducible exact impl_Reading_82.mono _ _ _ _ (fun _=>by first | exact LeO.refl _ | exact impl_OpenSpans_1.mono _ _ _ _ _ _ | exact impl_OpenFor_1_1.mono _ _ _ _ _ _ | exact impl_OpenFor_1.mono _ _ _ _))
   | (with_reducible exact LeO.refl _)
   | (with_reducible exact LeO.none _)
   | (with_reducible refine LeO.ite ?_ ?_)
   | (with_reducible refine LeO.bind ?_ (fun _=>?_))
   | exact ih0 _ _ _
   | exact ih1 _ _ _ _ _
   | exact impl_Reading_82.mono _ _ _ _ (fun _=>by first | exact LeO.refl _ | exact impl_OpenSpans_1.mono _ _ _ _ _ _ | exact impl_OpenFor_1_1.mono _ _ _ _ _ _ | exact impl_OpenFor_1.mono _ _ _ _)
  ·intro y0 y1 y2 y3 y4
   unfold impl_DrownedSumps.l0
   repeat' first
   | (with_reducible exact ih0 _ _ _)
   | (with_reducible exact ih1 _ _ _ _ _)
   | (with_reducible exact impl_AreReadings.mono _ _)
   | (with_reducible exact impl_AreSumps.mono _ _)
   | (with_reducible exact impl_Reading_82.mono _ _ _ _ (fun _=>by first | exact LeO.refl _ | exact impl_OpenSpans_1.mono _ _ _ _ _ _ | exact impl_OpenFor_1_1.mono _ _ _ _ _ _ | exact impl_OpenFor_1.mono _ _ _ _))
   | (with_reducible exact LeO.refl _)
   | (with_reducible exact LeO.none _)
   | (with_reducible refine LeO.ite ?_ ?_)
   | (with_reducible refine LeO.bind ?_ (fun _=>?_))
   | exact ih0 _ _ _
   | exact ih1 _ _ _ _ _
   | exact impl_Reading_82.mono _ _ _ _ (fun _=>by first | exact LeO.refl _ | exact impl_OpenSpans_1.mono _ _ _ _ _ _ | exact impl_OpenFor_1_1.mono _ _ _ _ _ _ | exact impl_OpenFor_1.mono _ _ _ _)
theorem impl_DrownedSumps.mono : ∀ a0 a1 k,LeO (impl_DrownedSumps.f k a0 a1) (impl_DrownedSumps.f (k + 1) a0 a1):=by
 intro a0 a1 k
 obtain ⟨ih0,ih1⟩:=impl_DrownedSumps.mono_l k
 unfold impl_DrownedSumps.f
 repeat' first
   | (with_reducible exact ih0 _ _ _)
   | (with_reducible exact ih1 _ _ _ _ _)
   | (with_reducible exact impl_AreReadings.mono _ _)
   | (with_reducible exact impl_AreSumps.mono _ _)
   | (with_reducible exact impl_Reading_82.mono _ _ _ _ (fun _=>by first | exact LeO.refl _ | exact impl_OpenSpans_1.mono _ _ _ _ _ _ | exact impl_OpenFor_1_1.mono _ _ _ _ _ _ | exact impl_OpenFor_1.mono _ _ _ _))
   | (with_reducible exact LeO.refl _)
   | (with_reducible exact LeO.none _)
   | (with_reducible refine LeO.ite ?_ ?_)
   | (with_reducible refine LeO.bind ?_ (fun _=>?_))
   | exact ih0 _ _ _
   | exact ih1 _ _ _ _ _
   | exact impl_Reading_82.mono _ _ _ _ (fun _=>by first | exact LeO.refl _ | exact impl_OpenSpans_1.mono _ _ _ _ _ _ | exact impl_OpenFor_1_1.mono _ _ _ _ _ _ | exact impl_OpenFor_1.mono _ _ _ _)
set_option maxHeartbeats 8000000 in
set_option maxRecDepth 100000 in
theorem impl_DrownedSumps.calls (k : Nat) (A0 : Option Addr) (c0 : Nat) (l0 : List (S30)) (A1 : Option Addr) (c1 : Nat) (l1 : List (S44)) (r1 : List Int) (r2 : Bool) (w : World) (hr0 : Kd.C k30 w A0 l0.length l0) (hc0 : l0.length≤c0) (hr1 : Kd.C k44 w A1 l1.length l1) (hc1 : l1.length≤c1) (h : impl_DrownedSumps.f k l0 l1=some (r1,r2)) :
  Calls Try.prog 44 #[.slice A0 l0.length c0,.slice A1 l1.length c1] w fun e w'=>∃ v0_ : Value,e = .returned (.tuple #[v0_,.bool r2])∧Kd.R (Kd.int .i64) 3 w' w.heap.size (fun _=>True) v0_ r1∧Below w.heap.size w w':=by
 have hu44:=Try.underlying44
 have HR0:=amk hr0
 have HC0:=amk hc0
 clear hr0 hc0
 have HR1:=amk hr1
 have HC1:=amk hc1
 clear hr1 hc1
 have HB:=amk (Below.refl w.heap.size w)
 have H : ((impl_AreReadings.f k l0).bind fun t717=>(if t717=true then ((impl_AreSumps.f k l1).bind fun t718=>(impl_DrownedSumps.j0 k l0 l1 (!t718))) else (impl_DrownedSumps.j0 k l0 l1 true)))=some (r1,r2):=h
 clear h
 have HC3:=amk H
 clear H
 have hmf_ : ∀ (fn_ : Fn) (first_ cap_ : Array Value) (w_ : World),(Instr.makeFunc fn_ first_ cap_).run Try.prog w_ = .ok (.func fn_ first_ cap_) w_:=fun _ _ _ _=>rfl
 go_enter Try.func44,Try.ntmps44
 go_upto_region 1 with (fail)
 go_cut [16] (fun v16 wc=>∃ (kq : Nat) (x16_2 : Bool),v16 = .bool x16_2∧Aside0 (impl_DrownedSumps.j0 kq l0 l1 x16_2=some (r1,r2))∧Aside0 (kq≤k)∧Aside0 (Below w.heap.size w wc))
 case first=>
  have H:=HC3.out
  clear HC3
  replace H:=obs H
  obtain ⟨t717,A40,H⟩:=H
  replace H : (if t717=true then ((impl_AreSumps.f k l1).bind fun t718=>(impl_DrownedSumps.j0 k l0 l1 (!t718))) else (impl_DrownedSumps.j0 k l0 l1 true))=some (r1,r2):=H
  have A4:=amk A40
  clear A40
  by_cases c5 : t717=true
  ·subst c5
   have H1 : ((impl_AreSumps.f k l1).bind fun t718=>(impl_DrownedSumps.j0 k l0 l1 (!t718)))=some (r1,r2):=by rw [if_pos rfl] at H;exact H
   clear H
   have H:=H1
   clear H1
   replace H:=obs H
   obtain ⟨t718,A60,H⟩:=H
   replace H : (impl_DrownedSumps.j0 k l0 l1 (!t718))=some (r1,r2):=H
   have A6:=amk A60
   clear A60
   have H':=amk H
   clear H
   go_wp2_with (first | ((with_reducible refine gate_callee (f:=15) rfl ?_);refine goesL_ (some 10) rfl rfl Try.func15 (by kernel_rfl) rfl #[.slice A0 l0.length c0] rfl mtt ?_;(with_reducible refine (impl_AreReadings.calls k _ _ l0 true _ ?side1 ?side2 A4.out).mono ?_);(case side1=>exact ccc (Kd.C_below HR0.out HB.out));(case side2=>exact HC0.out);rintro e w7 ⟨rfl,hb⟩;refine ⟨_,rfl,?_⟩;replace HB:=amk (below_step (bel HB) hb);(try clear hb))|(go_at_call 41;(with_reducible refine (impl_AreSumps.calls k _ _ l1 t718 _ ?side1 ?side2 A6.out).mono ?_);(case side1=>exact ccc (Kd.C_below HR1.out HB.out));(case side2=>exact HC1.out);rintro e w8 ⟨rfl,hb⟩;replace HB:=amk (below_step (bel HB) hb);(try clear hb)))
   go_meet
   case rel=>exact ⟨_,(!t718),rsd,H',⟨by first | omega | exact Nat.le_refl _⟩,⟨bel HB⟩⟩
  ·replace c5:=Bool.eq_false_iff.mpr c5
   subst c5
   have H1 : (impl_DrownedSumps.j0 k l0 l1 true)=some (r1,r2):=by rw [if_neg (show ¬ (false=true) by decide)] at H;exact H
   clear H
   have H:=H1
   clear H1
   have H':=amk H
   clear H
   go_wp2_with (first | ((with_reducible refine gate_callee (f:=15) rfl ?_);refine goesL_ (some 10) rfl rfl Try.func15 (by kernel_rfl) rfl #[.slice A0 l0.length c0] rfl mtt ?_;(with_reducible refine (impl_AreReadings.calls k _ _ l0 false _ ?side1 ?side2 A4.out).mono ?_);(case side1=>exact ccc (Kd.C_below HR0.out HB.out));(case side2=>exact HC0.out);rintro e w9 ⟨rfl,hb⟩;refine ⟨_,rfl,?_⟩;replace HB:=amk (below_step (bel HB) hb);(try clear hb)))
   go_meet
   case rel=>exact ⟨_,(true),rsd,H',⟨by first | omega | exact Nat.le_refl _⟩,⟨bel HB⟩⟩
 case rest=>
  clear HC3
  try clear c1
  try clear p2
  try clear c4
  try clear c5
  obtain ⟨kq,x16_2,rfl,HA,HJ2,HB⟩:=hcut
  cases kq with
  | zero=>exact absurd HA.out (by simp [impl_DrownedSumps.j0])
  | succ kj2=>
   have H:=HA.out
   clear HA
   simp only [impl_DrownedSumps.j0] at H
   by_cases c10 : x16_2=true
   ·subst c10
    have H1 : (some (([] : List Int),false))=some (r1,r2):=by rw [if_pos rfl] at H;exact H
    clear H
    have H:=H1
    clear H1
    simp only [Option.some.injEq,Prod.mk.injEq] at H
    obtain ⟨rfl,rfl⟩:=H
    go_wp2
    go_ret2
    exact ⟨_,erw0,by first | exact Kd.R_nil _ _ _ _ _ | exact Kd.N_nil _ _ _ _ _ | exact Kd.V_nil _ _ _ _ _ | exact Kd.Q_nil _ _ _ _ _ | exact Kd.S_nil _ _ _ _ _,bel HB⟩
   ·replace c10:=Bool.eq_false_iff.mpr c10
    subst c10
    have H1 : (impl_DrownedSumps.l0 kj2 l0 ([] : List Int) l1 (l1.length : Int) 0)=some (r1,r2):=by rw [if_neg (show ¬ (false=true) by decide)] at H;exact H
    clear H
    have H:=H1
    clear H1
    have H':=amk H
    clear H
    go_wp2
    go_loopg [6,19] kj2 (fun kq v6 v19 w'=>∃ (x6_2 : List Int) (x19_2 : Int),v19 = .int .i64 x19_2∧Aside0 (impl_DrownedSumps.l0 kq l0 x6_2 l1 (l1.length : Int) x19_2=some (r1,r2))∧Aside0 (kq≤kj2)∧Aside0 (Kd.R (Kd.int .i64) 3 w' w.heap.size (fun _=>True) v6 x6_2)∧Aside0 (Below w.heap.size w w'))
    case atStart=>exact ⟨(([] : List Int)),(0),rsd,H',⟨Nat.le_refl _⟩,⟨by first | exact Kd.R_nil _ _ _ _ _ | exact Kd.N_nil _ _ _ _ _ | exact Kd.V_nil _ _ _ _ _ | exact Kd.Q_nil _ _ _ _ _ | exact Kd.S_nil _ _ _ _ _⟩,⟨bel HB⟩⟩
    case round=>
     clear H'
     try clear c1
     try clear p2
     try clear c4
     try clear c5
     try clear c10
     try clear p2
     obtain ⟨x6_2,x19_2,rfl,HA,HK2,HO_6,HB⟩:=hrel
     cases gk with
     | zero=>exact absurd HA.out (by simp [impl_DrownedSumps.l0])
     | succ k2=>
      have H:=HA.out
      clear HA
      simp only [impl_DrownedSumps.l0] at H
      by_cases c11 : x19_2 < (l1.length : Int)
      ·rw [if_pos c11] at H
       have c11b0 : decide (x19_2 < (l1.length : Int))=true:=decide_eq_true c11
       clear c11
       by_cases c12 : 0≤x19_2
       ·rw [if_pos c12] at H
        have c12b0 : decide (0≤x19_2)=true:=decide_eq_true c12
        clear c12
        by_cases c13 : x19_2 < (l1.length : Int)
        ·rw [if_pos c13] at H
         have c13b0 : decide (x19_2 < (l1.length : Int))=true:=decide_eq_true c13
         clear c13
         replace H:=obs H
         obtain ⟨t721,A140,H⟩:=H
         replace H : (if t721=true then (if x6_2.length < 17592186044416 then (impl_DrownedSumps.l0 k2 l0 (x6_2 ++ [(rd_T44 l1 x19_2).f0]) l1 (l1.length : Int) (wrap64 (x19_2 + 1))) else (none)) else (impl_DrownedSumps.l0 k2 l0 x6_2 l1 (l1.length : Int) (wrap64 (x19_2 + 1))))=some (r1,r2):=H
         have A14:=amk A140
         clear A140
         by_cases c15 : t721=true
         ·subst c15
          have H1 : (if x6_2.length < 17592186044416 then (impl_DrownedSumps.l0 k2 l0 (x6_2 ++ [(rd_T44 l1 x19_2).f0]) l1 (l1.length : Int) (wrap64 (x19_2 + 1))) else (none))=some (r1,r2):=by rw [if_pos rfl] at H;exact H
          clear H
          have H:=H1
          clear H1
          by_cases c16 : x6_2.length < 17592186044416
          ·rw [if_pos c16] at H
           have LMc16:=amk c16
           clear c16
           obtain ⟨y722,hy722⟩ : ∃ y_ : List Int,y_=(x6_2 ++ [(rd_T44 l1 x19_2).f0]):=⟨_,rfl⟩
           replace H : (impl_DrownedSumps.l0 k2 l0 y722 l1 (l1.length : Int) (wrap64 (x19_2 + 1)))=some (r1,r2):=by first | (rw [hy722];with_reducible exact H)|(have H2_:=(Option.bind_some _ _).symm.trans H;rw [hy722];with_reducible exact H2_)|(have H2_:=(Option.bind_some _ _).symm.trans H;with_reducible exact H2_) | with_reducible exact H | (rw [hy722];exact H) | exact H
           have Ny722:=amk hy722
           clear hy722
           have H':=amk H
           clear H
           have p719 : 0≤(x19_2 : Int):=of_decide_eq_true ass
           have q719 : x19_2 < (l1.length : Int):=of_decide_eq_true ass
           obtain ⟨ad719,e719,hx719_0,hx719_1,hx719_2⟩:=at_T44 HR1.out x19_2 p719 q719
           cases e719
           replace hx719_0:=(HB.out.cell (World.block_lt_of_cell? w _ hx719_0)).trans hx719_0
           replace hx719_1:=(HB.out.cell (World.block_lt_of_cell? w _ hx719_1)).trans hx719_1
           replace hx719_2:=(HB.out.cell (World.block_lt_of_cell? w _ hx719_2)).trans hx719_2
           replace p719:=eq_true p719
           replace q719:=eq_true q719
           go_wp2_with (first | ((with_reducible refine gate_dst (N:=8) rfl ?_);refine box_event ?hg (N:=8) ?hd (cs:=#[.int .i64 0,.int .i64 0,.int .i64 0]) (t:=44) ?hr ?_;(case hd=>rfl);(case hg=>rfl);(case hr=>first | (go_simp;done)|(go_simp;rfl));intro gb720 hg w17 hbox hb;replace HO_6:=amk (Kd.R_below (rrr HO_6) hb);have BK720:=amk (hbox);have GW720:=amk ((by rw [hg];exact (below_size (bel HB)) : w.heap.size≤gb720));have GE720:=amk ((by rw [hg];exact (below_size (bel HB)) : w.heap.size≤gb720));replace HB:=amk (below_step (bel HB) hb);clear hb hbox hg;have hcz18_0 : w17.cell? ⟨gb720,0,none⟩=some (.int .i64 0):=(blk_cell BK720.out 0).trans rfl;have hcz18_1 : w17.cell? ⟨gb720,1,none⟩=some (.int .i64 0):=(blk_cell BK720.out 1).trans rfl;have hcz18_2 : w17.cell? ⟨gb720,2,none⟩=some (.int .i64 0):=(blk_cell BK720.out 2).trans rfl;have hfz18_0:=blk_frozen BK720.out 0;have hfz18_1:=blk_frozen BK720.out 1;have hfz18_2:=blk_frozen BK720.out 2)|((with_reducible refine gate_callee (f:=82) rfl ?_);refine goesL_ (some 25) rfl rfl Try.func82 (by kernel_rfl) rfl #[.slice A0 l0.length c0,.func (.func 83) #[] #[.pointer (some ⟨gb720,0,none⟩)]] rfl mtt ?_;(with_reducible refine (impl_Reading_82.calls k2 _ _ l0 83 #[.pointer (some ⟨gb720,0,none⟩)] (fun x_ : S30=>impl_DrownedSumps_1.f x_.f0 x_.f1 ((rd_T44 l1 x19_2).f0) ((rd_T44 l1 x19_2).f1) ((rd_T44 l1 x19_2).f2)) true _ ?side1 ?side2 ?side3 ?side4 A14.out).mono ?_);(case side1=>exact Kd.C_below HR0.out (bel1 HB GE720.out));(case side2=>exact HC0.out);(case side3=>exact enters_fn Try.func83 (by kernel_rfl) rfl);(case side4=>intro W_ x_ b_ hx_ hW_;exact (impl_DrownedSumps_1.calls x_.f0 x_.f1 gb720 ((rd_T44 l1 x19_2).f0) ((rd_T44 l1 x19_2).f1) ((rd_T44 l1 x19_2).f2) b_ W_ (blk_below (by (with_reducible repeat (first | refine blk_drewN ?_ _ | refine blk_drew ?_ | refine blk_alloc ?_ _));refine blk_put (cs:=#[.int .i64 ((rd_T44 l1 x19_2).f0),.int .i64 ((rd_T44 l1 x19_2).f1),.int .i64 0]) ?_ 2 _ rfl;(with_reducible repeat (first | refine blk_drewN ?_ _ | refine blk_drew ?_ | refine blk_alloc ?_ _));refine blk_put (cs:=#[.int .i64 ((rd_T44 l1 x19_2).f0),.int .i64 0,.int .i64 0]) ?_ 1 _ rfl;(with_reducible repeat (first | refine blk_drewN ?_ _ | refine blk_drew ?_ | refine blk_alloc ?_ _));refine blk_put (cs:=#[.int .i64 0,.int .i64 0,.int .i64 0]) ?_ 0 _ rfl;(with_reducible repeat (first | refine blk_drewN ?_ _ | refine blk_drew ?_ | refine blk_alloc ?_ _));exact BK720.out) hW_) hx_).mono (fun _ _ h_=>⟨h_.1,h_.2⟩));rintro e w19 ⟨rfl,hb⟩;refine ⟨_,rfl,?_⟩;have n0_:=amk (Kd.R_below (by (with_reducible repeat (first | apply Kd.R_alloc | apply Kd.R_drewN | apply Kd.R_drew));exact (Kd.R_mono (Kd.R_far (p:=⟨gb720,2,none⟩) (Kd.R_far (p:=⟨gb720,1,none⟩) (Kd.R_far (p:=⟨gb720,0,none⟩) (Kd.R_types HO_6.out BK720.out (by decide)) (fun _ hk=>hk.2) (.int .i64 ((rd_T44 l1 x19_2).f0))) (fun _ hk=>hk.2) (.int .i64 ((rd_T44 l1 x19_2).f1))) (fun _ hk=>hk.2) (.int .i64 ((rd_T44 l1 x19_2).f2))) (fun _ h_=>h_.1))) hb);have n1_:=amk (blk_below (g:=gb720) (o:=.cells #[.int .i64 ((rd_T44 l1 x19_2).f0),.int .i64 ((rd_T44 l1 x19_2).f1),.int .i64 ((rd_T44 l1 x19_2).f2)] 44 (0,0)) (by (with_reducible repeat (first | refine blk_drewN ?_ _ | refine blk_drew ?_ | refine blk_alloc ?_ _));refine blk_put (cs:=#[.int .i64 ((rd_T44 l1 x19_2).f0),.int .i64 ((rd_T44 l1 x19_2).f1),.int .i64 0]) ?_ 2 _ rfl;(with_reducible repeat (first | refine blk_drewN ?_ _ | refine blk_drew ?_ | refine blk_alloc ?_ _));refine blk_put (cs:=#[.int .i64 ((rd_T44 l1 x19_2).f0),.int .i64 0,.int .i64 0]) ?_ 1 _ rfl;(with_reducible repeat (first | refine blk_drewN ?_ _ | refine blk_drew ?_ | refine blk_alloc ?_ _));refine blk_put (cs:=#[.int .i64 0,.int .i64 0,.int .i64 0]) ?_ 0 _ rfl;(with_reducible repeat (first | refine blk_drewN ?_ _ | refine blk_drew ?_ | refine blk_alloc ?_ _));exact BK720.out) hb);have n2_:=amk (below_step (bel1 HB GE720.out) hb);clear HO_6;clear BK720;clear HB;have HO_6:=n0_;have BK720:=n1_;have HB:=n2_;clear n0_ n1_ n2_;(try clear hb);have hcz20_0 : w19.cell? ⟨gb720,0,none⟩=some (.int .i64 ((rd_T44 l1 x19_2).f0)):=(blk_cell BK720.out 0).trans rfl;have hcz20_1 : w19.cell? ⟨gb720,1,none⟩=some (.int .i64 ((rd_T44 l1 x19_2).f1)):=(blk_cell BK720.out 1).trans rfl;have hcz20_2 : w19.cell? ⟨gb720,2,none⟩=some (.int .i64 ((rd_T44 l1 x19_2).f2)):=(blk_cell BK720.out 2).trans rfl;have hfz20_0:=blk_frozen BK720.out 0;have hfz20_1:=blk_frozen BK720.out 1;have hfz20_2:=blk_frozen BK720.out 2)|((with_reducible refine gate_builtin (b:=.append) (xs:=#[.tmp 26,.tmp 29]) rfl ?_);at_builtin;refine Kd.R_append (Kd.int .i64) (w0:=w) w.heap.size rfl (.tmp 26) (.tmp 29) 63 3 (.int .i64 0) 8 rfl Try.underlying63 info3 rfl (by decide) (by omega) u6 x6_2 ((rd_T44 l1 x19_2).f0) [.int .i64 ((rd_T44 l1 x19_2).f0)] (fun _=>True) (fun _=>False) rfl rfl ?aP (fun _ hk=>hk.elim) ?aF ?aO ?aB ?aS ?aL ?_;(case aP=>exact rfl);(case aB=>exact (bel1 HB GE720.out));(case aF=>exact (fun _ _=>trivial));(case aO=>exact (rrr HO_6));(case aS=>exact (below_size (bel1 HB GE720.out)));(case aL=>have:=LMc16.out;omega);intro v723 w21 ho hb hg hat;rw [← Ny722.out] at ho;replace BK720:=amk (blk_grown (g:=gb720) (o:=.cells #[.int .i64 ((rd_T44 l1 x19_2).f0),.int .i64 ((rd_T44 l1 x19_2).f1),.int .i64 ((rd_T44 l1 x19_2).f2)] 44 (0,0)) (bkk BK720) hg (Kd.R_ne HO_6.out BK720.out (by decide)));replace HB:=amk (hb);have HO724:=amk (ho);clear HO_6;clear ho hb hg hat))
           go_roundg k2
           case measure=>have:=HJ2.out;have:=HK2.out;omega
           case rel=>exact ⟨(y722),(wrap64 (x19_2 + 1)),rsd,H',⟨by have:=HJ2.out;have:=HK2.out;omega⟩,⟨rrr HO724⟩,⟨bel1 HB GE720.out⟩⟩
          ·rw [if_neg c16] at H
           exact absurd H (by simp)
         ·replace c15:=Bool.eq_false_iff.mpr c15
          subst c15
          have H1 : (impl_DrownedSumps.l0 k2 l0 x6_2 l1 (l1.length : Int) (wrap64 (x19_2 + 1)))=some (r1,r2):=by rw [if_neg (show ¬ (false=true) by decide)] at H;exact H
          clear H
          have H:=H1
          clear H1
          have H':=amk H
          clear H
          have p719 : 0≤(x19_2 : Int):=of_decide_eq_true ass
          have q719 : x19_2 < (l1.length : Int):=of_decide_eq_true ass
          obtain ⟨ad719,e719,hx719_0,hx719_1,hx719_2⟩:=at_T44 HR1.out x19_2 p719 q719
          cases e719
          replace hx719_0:=(HB.out.cell (World.block_lt_of_cell? w _ hx719_0)).trans hx719_0
          replace hx719_1:=(HB.out.cell (World.block_lt_of_cell? w _ hx719_1)).trans hx719_1
          replace hx719_2:=(HB.out.cell (World.block_lt_of_cell? w _ hx719_2)).trans hx719_2
          replace p719:=eq_true p719
          replace q719:=eq_true q719
          go_wp2_with (first | ((with_reducible refine gate_dst (N:=8) rfl ?_);refine box_event ?hg (N:=8) ?hd (cs:=#[.int .i64 0,.int .i64 0,.int .i64 0]) (t:=44) ?hr ?_;(case hd=>rfl);(case hg=>rfl);(case hr=>first | (go_simp;done)|(go_simp;rfl));intro gb720 hg w22 hbox hb;replace HO_6:=amk (Kd.R_below (rrr HO_6) hb);have BK720:=amk (hbox);have GW720:=amk ((by rw [hg];exact (below_size (bel HB)) : w.heap.size≤gb720));have GE720:=amk ((by rw [hg];exact (below_size (bel HB)) : w.heap.size≤gb720));replace HB:=amk (below_step (bel HB) hb);clear hb hbox hg;have hcz23_0 : w22.cell? ⟨gb720,0,none⟩=some (.int .i64 0):=(blk_cell BK720.out 0).trans rfl;have hcz23_1 : w22.cell? ⟨gb720,1,none⟩=some (.int .i64 0):=(blk_cell BK720.out 1).trans rfl;have hcz23_2 : w22.cell? ⟨gb720,2,none⟩=some (.int .i64 0):=(blk_cell BK720.out 2).trans rfl;have hfz23_0:=blk_frozen BK720.out 0;have hfz23_1:=blk_frozen BK720.out 1;have hfz23_2:=blk_frozen BK720.out 2)|((with_reducible refine gate_callee (f:=82) rfl ?_);refine goesL_ (some 25) rfl rfl Try.func82 (by kernel_rfl) rfl #[.slice A0 l0.length c0,.func (.func 83) #[] #[.pointer (some ⟨gb720,0,none⟩)]] rfl mtt ?_;(with_reducible refine (impl_Reading_82.calls k2 _ _ l0 83 #[.pointer (some ⟨gb720,0,none⟩)] (fun x_ : S30=>impl_DrownedSumps_1.f x_.f0 x_.f1 ((rd_T44 l1 x19_2).f0) ((rd_T44 l1 x19_2).f1) ((rd_T44 l1 x19_2).f2)) false _ ?side1 ?side2 ?side3 ?side4 A14.out).mono ?_);(case side1=>exact Kd.C_below HR0.out (bel1 HB GE720.out));(case side2=>exact HC0.out);(case side3=>exact enters_fn Try.func83 (by kernel_rfl) rfl);(case side4=>intro W_ x_ b_ hx_ hW_;exact (impl_DrownedSumps_1.calls x_.f0 x_.f1 gb720 ((rd_T44 l1 x19_2).f0) ((rd_T44 l1 x19_2).f1) ((rd_T44 l1 x19_2).f2) b_ W_ (blk_below (by (with_reducible repeat (first | refine blk_drewN ?_ _ | refine blk_drew ?_ | refine blk_alloc ?_ _));refine blk_put (cs:=#[.int .i64 ((rd_T44 l1 x19_2).f0),.int .i64 ((rd_T44 l1 x19_2).f1),.int .i64 0]) ?_ 2 _ rfl;(with_reducible repeat (first | refine blk_drewN ?_ _ | refine blk_drew ?_ | refine blk_alloc ?_ _));refine blk_put (cs:=#[.int .i64 ((rd_T44 l1 x19_2).f0),.int .i64 0,.int .i64 0]) ?_ 1 _ rfl;(with_reducible repeat (first | refine blk_drewN ?_ _ | refine blk_drew ?_ | refine blk_alloc ?_ _));refine blk_put (cs:=#[.int .i64 0,.int .i64 0,.int .i64 0]) ?_ 0 _ rfl;(with_reducible repeat (first | refine blk_drewN ?_ _ | refine blk_drew ?_ | refine blk_alloc ?_ _));exact BK720.out) hW_) hx_).mono (fun _ _ h_=>⟨h_.1,h_.2⟩));rintro e w24 ⟨rfl,hb⟩;refine ⟨_,rfl,?_⟩;have n0_:=amk (Kd.R_below (by (with_reducible repeat (first | apply Kd.R_alloc | apply Kd.R_drewN | apply Kd.R_drew));exact (Kd.R_mono (Kd.R_far (p:=⟨gb720,2,none⟩) (Kd.R_far (p:=⟨gb720,1,none⟩) (Kd.R_far (p:=⟨gb720,0,none⟩) (Kd.R_types HO_6.out BK720.out (by decide)) (fun _ hk=>hk.2) (.int .i64 ((rd_T44 l1 x19_2).f0))) (fun _ hk=>hk.2) (.int .i64 ((rd_T44 l1 x19_2).f1))) (fun _ hk=>hk.2) (.int .i64 ((rd_T44 l1 x19_2).f2))) (fun _ h_=>h_.1))) hb);have n1_:=amk (blk_below (g:=gb720) (o:=.cells #[.int .i64 ((rd_T44 l1 x19_2).f0),.int .i64 ((rd_T44 l1 x19_2).f1),.int .i64 ((rd_T44 l1 x19_2).f2)] 44 (0,0)) (by (with_reducible repeat (first | refine blk_drewN ?_ _ | refine blk_drew ?_ | refine blk_alloc ?_ _));refine blk_put (cs:=#[.int .i64 ((rd_T44 l1 x19_2).f0),.int .i64 ((rd_T44 l1 x19_2).f1),.int .i64 0]) ?_ 2 _ rfl;(with_reducible repeat (first | refine blk_drewN ?_ _ | refine blk_drew ?_ | refine blk_alloc ?_ _));refine blk_put (cs:=#[.int .i64 ((rd_T44 l1 x19_2).f0),.int .i64 0,.int .i64 0]) ?_ 1 _ rfl;(with_reducible repeat (first | refine blk_drewN ?_ _ | refine blk_drew ?_ | refine blk_alloc ?_ _));refine blk_put (cs:=#[.int .i64 0,.int .i64 0,.int .i64 0]) ?_ 0 _ rfl;(with_reducible repeat (first | refine blk_drewN ?_ _ | refine blk_drew ?_ | refine blk_alloc ?_ _));exact BK720.out) hb);have n2_:=amk (below_step (bel1 HB GE720.out) hb);clear HO_6;clear BK720;clear HB;have HO_6:=n0_;have BK720:=n1_;have HB:=n2_;clear n0_ n1_ n2_;(try clear hb)))
          go_roundg k2
          case measure=>have:=HJ2.out;have:=HK2.out;omega
          case rel=>exact ⟨(x6_2),(wrap64 (x19_2 + 1)),rsd,H',⟨by have:=HJ2.out;have:=HK2.out;omega⟩,⟨rrr HO_6⟩,⟨bel1 HB GE720.out⟩⟩
        ·rw [if_neg c13] at H
         exact absurd H (by simp)
       ·rw [if_neg c12] at H
        exact absurd H (by simp)
      ·rw [if_neg c11] at H
       have c11b0 : decide (x19_2 < (l1.length : Int))=false:=decide_eq_false c11
       clear c11
       simp only [Option.some.injEq,Prod.mk.injEq] at H
       obtain ⟨rfl,rfl⟩:=H
       go_wp2
       go_ret2
       exact ⟨_,erw0,rrr HO_6,bel HB⟩
mutual
def spec_DrownedSumps.j0 : Nat→List (S30)→List (S44)→List Int→Bool→Option (List Int × Bool)
 | 0,_,_,_,_=>none
 | k + 1,x0,x1,x6,x17=>if x17=true then (some (x6,false)) else (spec_DrownedSumps.l0 k x0 x1 x6 0)
def spec_DrownedSumps.l0 : Nat→List (S30)→List (S44)→List Int→Int→Option (List Int × Bool)
 | 0,_,_,_,_=>none
 | k + 1,x0,x1,x6,x7=>if x7 < (x1.length : Int) then (spec_DrownedSumps.l1 k x0 x1 x6 x7 0) else (some (x6,true))
def spec_DrownedSumps.l1 : Nat→List (S30)→List (S44)→List Int→Int→Int→Option (List Int × Bool)
 | 0,_,_,_,_,_=>none
 | k + 1,x0,x1,x6,x7,x8=>if x8 < (x0.length : Int) then (if 0≤x8 then (if 0≤x7 then (if x7 < (x1.length : Int) then (if ((rd_T30 x0 x8).f1) > ((rd_T44 x1 x7).f1) then (if x6.length < 17592186044416 then (spec_DrownedSumps.l0 k x0 x1 (x6 ++ [(rd_T44 x1 x7).f0]) (wrap64 (x7 + 1))) else (none)) else (spec_DrownedSumps.l1 k x0 x1 x6 x7 (wrap64 (x8 + 1)))) else (none)) else (none)) else (none)) else (spec_DrownedSumps.l0 k x0 x1 x6 (wrap64 (x7 + 1)))
end
def spec_DrownedSumps.f (k : Nat) (l0 : List (S30)) (l1 : List (S44)) : Option (List Int × Bool):=(some (([] : List Int) : List Int)).bind fun y725=>((spec_l23Good.f k l0).bind fun t728=>(if t728=true then ((spec_l23Sumps.f k l1).bind fun t729=>(spec_DrownedSumps.j0 k l0 l1 y725 (!t729))) else (spec_DrownedSumps.j0 k l0 l1 y725 true)))
theorem spec_DrownedSumps.mono_l : ∀ k,(∀ y0 y1 y2 y3,LeO (spec_DrownedSumps.j0 k y0 y1 y2 y3) (spec_DrownedSumps.j0 (k + 1) y0 y1 y2 y3))∧(∀ y0 y1 y2 y3,LeO (spec_DrownedSumps.l0 k y0 y1 y2 y3) (spec_DrownedSumps.l0 (k + 1) y0 y1 y2 y3))∧(∀ y0 y1 y2 y3 y4,LeO (spec_DrownedSumps.l1 k y0 y1 y2 y3 y4) (spec_DrownedSumps.l1 (k + 1) y0 y1 y2 y3 y4))
 | 0=>⟨fun _ _ _ _ r h=>by simp [spec_DrownedSumps.j0] at h,fun _ _ _ _ r h=>by simp [spec_DrownedSumps.l0] at h,fun _ _ _ _ _ r h=>by simp [spec_DrownedSumps.l1] at h⟩
 | k + 1=>by
  obtain ⟨ih0,ih1,ih2⟩:=spec_DrownedSumps.mono_l k
  refine ⟨?_,?_,?_⟩
  ·intro y0 y1 y2 y3
   unfold spec_DrownedSumps.j0
   repeat' first
   | (with_reducible exact ih0 _ _ _ _)
   | (with_reducible exact ih1 _ _ _ _)
   | (with_reducible exact ih2 _ _ _ _ _)
   | (with_reducible exact spec_l23Good.mono _ _)
   | (with_reducible exact spec_l23Sumps.mono _ _)
   | (with_reducible exact LeO.refl _)
   | (with_reducible exact LeO.none _)
   | (with_reducible refine LeO.ite ?_ ?_)
   | (with_reducible refine LeO.bind ?_ (fun _=>?_))
   | exact ih0 _ _ _ _
   | exact ih1 _ _ _ _
   | exact ih2 _ _ _ _ _
  ·intro y0 y1 y2 y3
   unfold spec_DrownedSumps.l0
   repeat' first
   | (with_reducible exact ih0 _ _ _ _)
   | (with_reducible exact ih1 _ _ _ _)
   | (with_reducible exact ih2 _ _ _ _ _)
   | (with_reducible exact spec_l23Good.mono _ _)
   | (with_reducible exact spec_l23Sumps.mono _ _)
   | (with_reducible exact LeO.refl _)
   | (with_reducible exact LeO.none _)
   | (with_reducible refine LeO.ite ?_ ?_)
   | (with_reducible refine LeO.bind ?_ (fun _=>?_))
   | exact ih0 _ _ _ _
   | exact ih1 _ _ _ _
   | exact ih2 _ _ _ _ _
  ·intro y0 y1 y2 y3 y4
   unfold spec_DrownedSumps.l1
   repeat' first
   | (with_reducible exact ih0 _ _ _ _)
   | (with_reducible exact ih1 _ _ _ _)
   | (with_reducible exact ih2 _ _ _ _ _)
   | (with_reducible exact spec_l23Good.mono _ _)
   | (with_reducible exact spec_l23Sumps.mono _ _)
   | (with_reducible exact LeO.refl _)
   | (with_reducible exact LeO.none _)
   | (with_reducible refine LeO.ite ?_ ?_)
   | (with_reducible refine LeO.bind ?_ (fun _=>?_))
   | exact ih0 _ _ _ _
   | exact ih1 _ _ _ _
   | exact ih2 _ _ _ _ _
theorem spec_DrownedSumps.mono : ∀ a0 a1 k,LeO (spec_DrownedSumps.f k a0 a1) (spec_DrownedSumps.f (k + 1) a0 a1):=by
 intro a0 a1 k
 obtain ⟨ih0,ih1,ih2⟩:=spec_DrownedSumps.mono_l k
 unfold spec_DrownedSumps.f
 repeat' first
   | (with_reducible exact ih0 _ _ _ _)
   | (with_reducible exact ih1 _ _ _ _)
   | (with_reducible exact ih2 _ _ _ _ _)
   | (with_reducible exact spec_l23Good.mono _ _)
   | (with_reducible exact spec_l23Sumps.mono _ _)
   | (with_reducible exact LeO.refl _)
   | (with_reducible exact LeO.none _)
   | (with_reducible refine LeO.ite ?_ ?_)
   | (with_reducible refine LeO.bind ?_ (fun _=>?_))
   | exact ih0 _ _ _ _
   | exact ih1 _ _ _ _
   | exact ih2 _ _ _ _ _
set_option maxHeartbeats 8000000 in
set_option maxRecDepth 100000 in
theorem spec_DrownedSumps.calls (k : Nat) (A0 : Option Addr) (c0 : Nat) (l0 : List (S30)) (A1 : Option Addr) (c1 : Nat) (l1 : List (S44)) (r1 : List Int) (r2 : Bool) (w : World) (hr0 : Kd.C k30 w A0 l0.length l0) (hc0 : l0.length≤c0) (hr1 : Kd.C k44 w A1 l1.length l1) (hc1 : l1.length≤c1) (h : spec_DrownedSumps.f k l0 l1=some (r1,r2)) :
  Calls Try.prog 45 #[.slice A0 l0.length c0,.slice A1 l1.length c1] w fun e w'=>∃ v0_ : Value,e = .returned (.tuple #[v0_,.bool r2])∧Kd.R (Kd.int .i64) 3 w' w.heap.size (fun _=>True) v0_ r1∧Below w.heap.size w w':=by
 have HR0:=amk hr0
 have HC0:=amk hc0
 clear hr0 hc0
 have HR1:=amk hr1
 have HC1:=amk hc1
 clear hr1 hc1
 have HB:=amk (Below.refl w.heap.size w)
 have H : ((some (([] : List Int) : List Int)).bind fun y725=>((spec_l23Good.f k l0).bind fun t728=>(if t728=true then ((spec_l23Sumps.f k l1).bind fun t729=>(spec_DrownedSumps.j0 k l0 l1 y725 (!t729))) else (spec_DrownedSumps.j0 k l0 l1 y725 true))))=some (r1,r2):=h
 clear h
 obtain ⟨y725,hy725⟩ : ∃ y_ : List Int,y_=(([] : List Int)):=⟨_,rfl⟩
 replace H : ((spec_l23Good.f k l0).bind fun t728=>(if t728=true then ((spec_l23Sumps.f k l1).bind fun t729=>(spec_DrownedSumps.j0 k l0 l1 y725 (!t729))) else (spec_DrownedSumps.j0 k l0 l1 y725 true)))=some (r1,r2):=by first | (rw [hy725];with_reducible exact H)|(have H2_:=(Option.bind_some _ _).symm.trans H;rw [hy725];with_reducible exact H2_)|(have H2_:=(Option.bind_some _ _).symm.trans H;with_reducible exact H2_) | with_reducible exact H | (rw [hy725];exact H) | exact H
 have Ny725:=amk hy725
 clear hy725
 have HC3:=amk H
 clear H
 go_enter Try.func45,Try.ntmps45
 go_upto_region 2 with (first | ((with_reducible refine gate_dst (N:=9) rfl ?_);refine Kd.R_lit (Kd.int .i64) _ 3 ?hg (N:=9) ?hd (xs:=([] : List Int)) (inner:=[]) (ok:=fun _=>True) (okp:=fun _=>True) ?hr ?hp (fun _ hk=>hk) trivial (Below.refl _ _) (Nat.le_refl _) (by simp) ?_;(case hd=>rfl);(case hg=>rfl);(case hr=>first | (go_simp;done)|(go_simp;rfl));(case hp=>exact (Reps.none _ _));intro v726 w4 ho5 hb hg_ hnew_;clear hg_ hnew_;(first | rw [← Ny725.out] at ho5 | (simp only [Int.reduceToNat] at ho5;rw [← Ny725.out] at ho5));have HO727:=amk (Kd.R_lower ho5 (below_size (bel HB)));replace HB:=amk (below_step (bel HB) hb);clear hb ho5))
 repeat (go_quiet (first | ((with_reducible refine gate_dst (N:=9) rfl ?_);refine Kd.R_lit (Kd.int .i64) _ 3 ?hg (N:=9) ?hd (xs:=([] : List Int)) (inner:=[]) (ok:=fun _=>True) (okp:=fun _=>True) ?hr ?hp (fun _ hk=>hk) trivial (Below.refl _ _) (Nat.le_refl _) (by simp) ?_;(case hd=>rfl);(case hg=>rfl);(case hr=>first | (go_simp;done)|(go_simp;rfl));(case hp=>exact (Reps.none _ _));intro v726 w4 ho5 hb hg_ hnew_;clear hg_ hnew_;(first | rw [← Ny725.out] at ho5 | (simp only [Int.reduceToNat] at ho5;rw [← Ny725.out] at ho5));have HO727:=amk (Kd.R_lower ho5 (below_size (bel HB)));replace HB:=amk (below_step (bel HB) hb);clear hb ho5));go_upto_region 2 with (first | ((with_reducible refine gate_dst (N:=9) rfl ?_);refine Kd.R_lit (Kd.int .i64) _ 3 ?hg (N:=9) ?hd (xs:=([] : List Int)) (inner:=[]) (ok:=fun _=>True) (okp:=fun _=>True) ?hr ?hp (fun _ hk=>hk) trivial (Below.refl _ _) (Nat.le_refl _) (by simp) ?_;(case hd=>rfl);(case hg=>rfl);(case hr=>first | (go_simp;done)|(go_simp;rfl));(case hp=>exact (Reps.none _ _));intro v726 w4 ho5 hb hg_ hnew_;clear hg_ hnew_;(first | rw [← Ny725.out] at ho5 | (simp only [Int.reduceToNat] at ho5;rw [← Ny725.out] at ho5));have HO727:=amk (Kd.R_lower ho5 (below_size (bel HB)));replace HB:=amk (below_step (bel HB) hb);clear hb ho5)))
 (try simp only [Act.put,List.setIfInBounds_toArray,List.set_cons_zero,List.set_cons_succ])
 go_cut [17] (fun v17 wc=>∃ (kq : Nat) (x17_2 : Bool),v17 = .bool x17_2∧Aside0 (spec_DrownedSumps.j0 kq l0 l1 y725 x17_2=some (r1,r2))∧Aside0 (kq≤k)∧Aside0 (Kd.R (Kd.int .i64) 3 wc w.heap.size (fun _=>True) v726 y725)∧Aside0 (Below w.heap.size w wc))
 case first=>
  have H:=HC3.out
  clear HC3
  replace H:=obs H
  obtain ⟨t728,A60,H⟩:=H
  replace H : (if t728=true then ((spec_l23Sumps.f k l1).bind fun t729=>(spec_DrownedSumps.j0 k l0 l1 y725 (!t729))) else (spec_DrownedSumps.j0 k l0 l1 y725 true))=some (r1,r2):=H
  have A6:=amk A60
  clear A60
  by_cases c7 : t728=true
  ·subst c7
   have H1 : ((spec_l23Sumps.f k l1).bind fun t729=>(spec_DrownedSumps.j0 k l0 l1 y725 (!t729)))=some (r1,r2):=by rw [if_pos rfl] at H;exact H
   clear H
   have H:=H1
   clear H1
   replace H:=obs H
   obtain ⟨t729,A80,H⟩:=H
   replace H : (spec_DrownedSumps.j0 k l0 l1 y725 (!t729))=some (r1,r2):=H
   have A8:=amk A80
   clear A80
   have H':=amk H
   clear H
   go_wp2_with (first | (go_at_call 53;(with_reducible refine (spec_l23Good.calls k _ _ l0 true _ ?side1 ?side2 A6.out).mono ?_);(case side1=>exact ccc (Kd.C_below HR0.out HB.out));(case side2=>exact HC0.out);rintro e w9 ⟨rfl,hb⟩;replace HO727:=amk (Kd.R_below (rrr HO727) hb);replace HB:=amk (below_step (bel HB) hb);(try clear hb))|(go_at_call 71;(with_reducible refine (spec_l23Sumps.calls k _ _ l1 t729 _ ?side1 ?side2 A8.out).mono ?_);(case side1=>exact ccc (Kd.C_below HR1.out HB.out));(case side2=>exact HC1.out);rintro e w10 ⟨rfl,hb⟩;replace HO727:=amk (Kd.R_below (rrr HO727) hb);replace HB:=amk (below_step (bel HB) hb);(try clear hb)))
   repeat (go_quiet (first | (go_at_call 53;(with_reducible refine (spec_l23Good.calls k _ _ l0 true _ ?side1 ?side2 A6.out).mono ?_);(case side1=>exact ccc (Kd.C_below HR0.out HB.out));(case side2=>exact HC0.out);rintro e w9 ⟨rfl,hb⟩;replace HO727:=amk (Kd.R_below (rrr HO727) hb);replace HB:=amk (below_step (bel HB) hb);(try clear hb))|(go_at_call 71;(with_reducible refine (spec_l23Sumps.calls k _ _ l1 t729 _ ?side1 ?side2 A8.out).mono ?_);(case side1=>exact ccc (Kd.C_below HR1.out HB.out));(case side2=>exact HC1.out);rintro e w10 ⟨rfl,hb⟩;replace HO727:=amk (Kd.R_below (rrr HO727) hb);replace HB:=amk (below_step (bel HB) hb);(try clear hb)));try go_wp2_with (first | (go_at_call 53;(with_reducible refine (spec_l23Good.calls k _ _ l0 true _ ?side1 ?side2 A6.out).mono ?_);(case side1=>exact ccc (Kd.C_below HR0.out HB.out));(case side2=>exact HC0.out);rintro e w9 ⟨rfl,hb⟩;replace HO727:=amk (Kd.R_below (rrr HO727) hb);replace HB:=amk (below_step (bel HB) hb);(try clear hb))|(go_at_call 71;(with_reducible refine (spec_l23Sumps.calls k _ _ l1 t729 _ ?side1 ?side2 A8.out).mono ?_);(case side1=>exact ccc (Kd.C_below HR1.out HB.out));(case side2=>exact HC1.out);rintro e w10 ⟨rfl,hb⟩;replace HO727:=amk (Kd.R_below (rrr HO727) hb);replace HB:=amk (below_step (bel HB) hb);(try clear hb))))
   go_meet
   case rel=>exact ⟨_,(!t729),rsd,H',⟨by first | omega | exact Nat.le_refl _⟩,⟨rrr HO727⟩,⟨bel HB⟩⟩
  ·replace c7:=Bool.eq_false_iff.mpr c7
   subst c7
   have H1 : (spec_DrownedSumps.j0 k l0 l1 y725 true)=some (r1,r2):=by rw [if_neg (show ¬ (false=true) by decide)] at H;exact H
   clear H
   have H:=H1
   clear H1
   have H':=amk H
   clear H
   go_wp2_with (first | (go_at_call 53;(with_reducible refine (spec_l23Good.calls k _ _ l0 false _ ?side1 ?side2 A6.out).mono ?_);(case side1=>exact ccc (Kd.C_below HR0.out HB.out));(case side2=>exact HC0.out);rintro e w11 ⟨rfl,hb⟩;replace HO727:=amk (Kd.R_below (rrr HO727) hb);replace HB:=amk (below_step (bel HB) hb);(try clear hb)))
   repeat (go_quiet (first | (go_at_call 53;(with_reducible refine (spec_l23Good.calls k _ _ l0 false _ ?side1 ?side2 A6.out).mono ?_);(case side1=>exact ccc (Kd.C_below HR0.out HB.out));(case side2=>exact HC0.out);rintro e w11 ⟨rfl,hb⟩;replace HO727:=amk (Kd.R_below (rrr HO727) hb);replace HB:=amk (below_step (bel HB) hb);(try clear hb)));try go_wp2_with (first | (go_at_call 53;(with_reducible refine (spec_l23Good.calls k _ _ l0 false _ ?side1 ?side2 A6.out).mono ?_);(case side1=>exact ccc (Kd.C_below HR0.out HB.out));(case side2=>exact HC0.out);rintro e w11 ⟨rfl,hb⟩;replace HO727:=amk (Kd.R_below (rrr HO727) hb);replace HB:=amk (below_step (bel HB) hb);(try clear hb))))
   go_meet
   case rel=>exact ⟨_,(true),rsd,H',⟨by first | omega | exact Nat.le_refl _⟩,⟨rrr HO727⟩,⟨bel HB⟩⟩
 case rest=>
  clear HC3
  try clear c1
  try clear p2
  try clear c4
  try clear c7
  obtain ⟨kq,x17_2,rfl,HA,HJ2,HO_6,HB⟩:=hcut
  cases kq with
  | zero=>exact absurd HA.out (by simp [spec_DrownedSumps.j0])
  | succ kj2=>
   have H:=HA.out
   clear HA
   simp only [spec_DrownedSumps.j0] at H
   by_cases c12 : x17_2=true
   ·subst c12
    have H1 : (some (y725,false))=some (r1,r2):=by rw [if_pos rfl] at H;exact H
    clear H
    have H:=H1
    clear H1
    simp only [Option.some.injEq,Prod.mk.injEq] at H
    obtain ⟨rfl,rfl⟩:=H
    go_wp2
    repeat (go_quiet (fail);try go_wp2)
    go_ret2
    exact ⟨_,erw0,rrr HO_6,bel HB⟩
   ·replace c12:=Bool.eq_false_iff.mpr c12
    subst c12
    have H1 : (spec_DrownedSumps.l0 kj2 l0 l1 y725 0)=some (r1,r2):=by rw [if_neg (show ¬ (false=true) by decide)] at H;exact H
    clear H
    have H:=H1
    clear H1
    have H':=amk H
    clear H
    go_wp2
    repeat (go_quiet (fail);try go_wp2)
    go_loopg [6,7] kj2 (fun kq v6 v7 w'=>∃ (x6_2 : List Int) (x7_2 : Int),v7 = .int .i64 x7_2∧Aside0 (spec_DrownedSumps.l0 kq l0 l1 x6_2 x7_2=some (r1,r2))∧Aside0 (kq≤kj2)∧Aside0 (Kd.R (Kd.int .i64) 3 w' w.heap.size (fun _=>True) v6 x6_2)∧Aside0 (Below w.heap.size w w'))
    case atStart=>exact ⟨(y725),(0),rsd,H',⟨Nat.le_refl _⟩,⟨rrr HO_6⟩,⟨bel HB⟩⟩
    case round=>
     clear H'
     try clear c1
     try clear p2
     try clear c4
     try clear c7
     try clear c12
     try clear p2
     obtain ⟨x6_2,x7_2,rfl,HA,HK2,HO_6,HB⟩:=hrel
     cases gk with
     | zero=>exact absurd HA.out (by simp [spec_DrownedSumps.l0])
     | succ k2=>
      have H:=HA.out
      clear HA
      simp only [spec_DrownedSumps.l0] at H
      by_cases c13 : x7_2 < (l1.length : Int)
      ·rw [if_pos c13] at H
       have c13b0 : decide (x7_2 < (l1.length : Int))=true:=decide_eq_true c13
       clear c13
       have H':=amk H
       clear H
       go_wp2
       repeat (go_quiet (fail);try go_wp2)
       go_loopg [6,8] k2 (fun kq v6 v8 w'=>∃ (x6_3 : List Int) (x8_3 : Int),v8 = .int .i64 x8_3∧Aside0 (spec_DrownedSumps.l1 kq l0 l1 x6_3 x7_2 x8_3=some (r1,r2))∧Aside0 (kq≤k2)∧Aside0 (Kd.R (Kd.int .i64) 3 w' w.heap.size (fun _=>True) v6 x6_3)∧Aside0 (Below w.heap.size w w'))
       case atStart=>exact ⟨(x6_2),(0),rsd,H',⟨Nat.le_refl _⟩,⟨rrr HO_6⟩,⟨bel HB⟩⟩
       case round=>
        clear H'
        try clear c1
        try clear p2
        try clear c4
        try clear c7
        try clear c12
        try clear c13
        try clear c13b0
        try clear p2
        obtain ⟨x6_3,x8_3,rfl,HA,HK3,HO_6,HB⟩:=hrel
        cases gk with
        | zero=>exact absurd HA.out (by simp [spec_DrownedSumps.l1])
        | succ k3=>
         have H:=HA.out
         clear HA
         simp only [spec_DrownedSumps.l1] at H
         by_cases c14 : x8_3 < (l0.length : Int)
         ·rw [if_pos c14] at H
          have c14b0 : decide (x8_3 < (l0.length : Int))=true:=decide_eq_true c14
          clear c14
          by_cases c15 : 0≤x8_3
          ·rw [if_pos c15] at H
           have c15b0 : decide (0≤x8_3)=true:=decide_eq_true c15
           clear c15
           by_cases c16 : 0≤x7_2
           ·rw [if_pos c16] at H
            have c16b0 : decide (0≤x7_2)=true:=decide_eq_true c16
            clear c16
            by_cases c17 : x7_2 < (l1.length : Int)
            ·rw [if_pos c17] at H
             have c17b0 : decide (x7_2 < (l1.length : Int))=true:=decide_eq_true c17
             clear c17
             by_cases c18 : ((rd_T30 l0 x8_3).f1) > ((rd_T44 l1 x7_2).f1)
             ·rw [if_pos c18] at H
              have c18b0 : decide (((rd_T44 l1 x7_2).f1) < ((rd_T30 l0 x8_3).f1))=true:=decide_eq_true c18
              clear c18
              by_cases c19 : x6_3.length < 17592186044416
              ·rw [if_pos c19] at H
               have LMc19:=amk c19
               clear c19
               obtain ⟨y733,hy733⟩ : ∃ y_ : List Int,y_=(x6_3 ++ [(rd_T44 l1 x7_2).f0]):=⟨_,rfl⟩
               replace H : (spec_DrownedSumps.l0 k3 l0 l1 y733 (wrap64 (x7_2 + 1)))=some (r1,r2):=by first | (rw [hy733];with_reducible exact H)|(have H2_:=(Option.bind_some _ _).symm.trans H;rw [hy733];with_reducible exact H2_)|(have H2_:=(Option.bind_some _ _).symm.trans H;with_reducible exact H2_) | with_reducible exact H | (rw [hy733];exact H) | exact H
               have Ny733:=amk hy733
               clear hy733
               have H':=amk H
               clear H
               have p730 : 0≤(x8_3 : Int):=of_decide_eq_true ass
               have q730 : x8_3 < (l0.length : Int):=of_decide_eq_true ass
               obtain ⟨ad730,e730,hx730_0,hx730_1⟩:=at_T30 HR0.out x8_3 p730 q730
               cases e730
               replace hx730_0:=(HB.out.cell (World.block_lt_of_cell? w _ hx730_0)).trans hx730_0
               replace hx730_1:=(HB.out.cell (World.block_lt_of_cell? w _ hx730_1)).trans hx730_1
               replace p730:=eq_true p730
               replace q730:=eq_true q730
               have p731 : 0≤(x7_2 : Int):=of_decide_eq_true ass
               have q731 : x7_2 < (l1.length : Int):=of_decide_eq_true ass
               obtain ⟨ad731,e731,hx731_0,hx731_1,hx731_2⟩:=at_T44 HR1.out x7_2 p731 q731
               cases e731
               replace hx731_0:=(HB.out.cell (World.block_lt_of_cell? w _ hx731_0)).trans hx731_0
               replace hx731_1:=(HB.out.cell (World.block_lt_of_cell? w _ hx731_1)).trans hx731_1
               replace hx731_2:=(HB.out.cell (World.block_lt_of_cell? w _ hx731_2)).trans hx731_2
               replace p731:=eq_true p731
               replace q731:=eq_true q731
               have p732 : 0≤(x7_2 : Int):=of_decide_eq_true ass
               have q732 : x7_2 < (l1.length : Int):=of_decide_eq_true ass
               obtain ⟨ad732,e732,hx732_0,hx732_1,hx732_2⟩:=at_T44 HR1.out x7_2 p732 q732
               obtain rfl : ad731=ad732:=(by injection e732)
               replace hx732_0:=(HB.out.cell (World.block_lt_of_cell? w _ hx732_0)).trans hx732_0
               replace hx732_1:=(HB.out.cell (World.block_lt_of_cell? w _ hx732_1)).trans hx732_1
               replace hx732_2:=(HB.out.cell (World.block_lt_of_cell? w _ hx732_2)).trans hx732_2
               replace p732:=eq_true p732
               replace q732:=eq_true q732
               go_wp2_with (first | ((with_reducible refine gate_builtin (b:=.append) (xs:=#[.tmp 42,.tmp 48]) rfl ?_);at_builtin;refine Kd.R_append (Kd.int .i64) (w0:=w) w.heap.size rfl (.tmp 42) (.tmp 48) 63 3 (.int .i64 0) 8 rfl Try.underlying63 info3 rfl (by decide) (by omega) u6 x6_3 ((rd_T44 l1 x7_2).f0) [.int .i64 ((rd_T44 l1 x7_2).f0)] (fun _=>True) (fun _=>False) rfl rfl ?aP (fun _ hk=>hk.elim) ?aF ?aO ?aB ?aS ?aL ?_;(case aP=>exact rfl);(case aB=>exact (bel HB));(case aF=>exact (fun _ _=>trivial));(case aO=>exact (rrr HO_6));(case aS=>exact (below_size (bel HB)));(case aL=>have:=LMc19.out;omega);intro v734 w20 ho hb hg hat;rw [← Ny733.out] at ho;replace HB:=amk (hb);have HO735:=amk (ho);clear HO_6;clear ho hb hg hat))
               repeat (go_quiet (first | ((with_reducible refine gate_builtin (b:=.append) (xs:=#[.tmp 42,.tmp 48]) rfl ?_);at_builtin;refine Kd.R_append (Kd.int .i64) (w0:=w) w.heap.size rfl (.tmp 42) (.tmp 48) 63 3 (.int .i64 0) 8 rfl Try.underlying63 info3 rfl (by decide) (by omega) u6 x6_3 ((rd_T44 l1 x7_2).f0) [.int .i64 ((rd_T44 l1 x7_2).f0)] (fun _=>True) (fun _=>False) rfl rfl ?aP (fun _ hk=>hk.elim) ?aF ?aO ?aB ?aS ?aL ?_;(case aP=>exact rfl);(case aB=>exact (bel HB));(case aF=>exact (fun _ _=>trivial));(case aO=>exact (rrr HO_6));(case aS=>exact (below_size (bel HB)));(case aL=>have:=LMc19.out;omega);intro v734 w20 ho hb hg hat;rw [← Ny733.out] at ho;replace HB:=amk (hb);have HO735:=amk (ho);clear HO_6;clear ho hb hg hat));try go_wp2_with (first | ((with_reducible refine gate_builtin (b:=.append) (xs:=#[.tmp 42,.tmp 48]) rfl ?_);at_builtin;refine Kd.R_append (Kd.int .i64) (w0:=w) w.heap.size rfl (.tmp 42) (.tmp 48) 63 3 (.int .i64 0) 8 rfl Try.underlying63 info3 rfl (by decide) (by omega) u6 x6_3 ((rd_T44 l1 x7_2).f0) [.int .i64 ((rd_T44 l1 x7_2).f0)] (fun _=>True) (fun _=>False) rfl rfl ?aP (fun _ hk=>hk.elim) ?aF ?aO ?aB ?aS ?aL ?_;(case aP=>exact rfl);(case aB=>exact (bel HB));(case aF=>exact (fun _ _=>trivial));(case aO=>exact (rrr HO_6));(case aS=>exact (below_size (bel HB)));(case aL=>have:=LMc19.out;omega);intro v734 w20 ho hb hg hat;rw [← Ny733.out] at ho;replace HB:=amk (hb);have HO735:=amk (ho);clear HO_6;clear ho hb hg hat)))
               go_roundg k3
               case measure=>have:=HJ2.out;have:=HK2.out;have:=HK3.out;omega
               case rel=>exact ⟨(y733),(wrap64 (x7_2 + 1)),rsd,H',⟨by have:=HJ2.out;have:=HK2.out;have:=HK3.out;omega⟩,⟨rrr HO735⟩,⟨bel HB⟩⟩
              ·rw [if_neg c19] at H
               exact absurd H (by simp)
             ·rw [if_neg c18] at H
              have c18b0 : decide (((rd_T44 l1 x7_2).f1) < ((rd_T30 l0 x8_3).f1))=false:=decide_eq_false c18
              clear c18
              have H':=amk H
              clear H
              have p730 : 0≤(x8_3 : Int):=of_decide_eq_true ass
              have q730 : x8_3 < (l0.length : Int):=of_decide_eq_true ass
              obtain ⟨ad730,e730,hx730_0,hx730_1⟩:=at_T30 HR0.out x8_3 p730 q730
              cases e730
              replace hx730_0:=(HB.out.cell (World.block_lt_of_cell? w _ hx730_0)).trans hx730_0
              replace hx730_1:=(HB.out.cell (World.block_lt_of_cell? w _ hx730_1)).trans hx730_1
              replace p730:=eq_true p730
              replace q730:=eq_true q730
              have p731 : 0≤(x7_2 : Int):=of_decide_eq_true ass
              have q731 : x7_2 < (l1.length : Int):=of_decide_eq_true ass
              obtain ⟨ad731,e731,hx731_0,hx731_1,hx731_2⟩:=at_T44 HR1.out x7_2 p731 q731
              cases e731
              replace hx731_0:=(HB.out.cell (World.block_lt_of_cell? w _ hx731_0)).trans hx731_0
              replace hx731_1:=(HB.out.cell (World.block_lt_of_cell? w _ hx731_1)).trans hx731_1
              replace hx731_2:=(HB.out.cell (World.block_lt_of_cell? w _ hx731_2)).trans hx731_2
              replace p731:=eq_true p731
              replace q731:=eq_true q731
              go_wp2
              repeat (go_quiet (fail);try go_wp2)
              go_roundg k3
              case measure=>have:=HJ2.out;have:=HK2.out;have:=HK3.out;omega
              case rel=>exact ⟨(x6_3),(wrap64 (x8_3 + 1)),rsd,H',⟨by have:=HJ2.out;have:=HK2.out;have:=HK3.out;omega⟩,⟨rrr HO_6⟩,⟨bel HB⟩⟩
            ·rw [if_neg c17] at H
             exact absurd H (by simp)
           ·rw [if_neg c16] at H
            exact absurd H (by simp)
          ·rw [if_neg c15] at H
           exact absurd H (by simp)
         ·rw [if_neg c14] at H
          have c14b0 : decide (x8_3 < (l0.length : Int))=false:=decide_eq_false c14
          clear c14
          have H':=amk H
          clear H
          go_wp2
          repeat (go_quiet (fail);try go_wp2)
          go_roundg k3
          case measure=>have:=HJ2.out;have:=HK2.out;have:=HK3.out;omega
          case rel=>exact ⟨(x6_3),(wrap64 (x7_2 + 1)),rsd,H',⟨by have:=HJ2.out;have:=HK2.out;have:=HK3.out;omega⟩,⟨rrr HO_6⟩,⟨bel HB⟩⟩
      ·rw [if_neg c13] at H
       have c13b0 : decide (x7_2 < (l1.length : Int))=false:=decide_eq_false c13
       clear c13
       simp only [Option.some.injEq,Prod.mk.injEq] at H
       obtain ⟨rfl,rfl⟩:=H
       go_wp2
       repeat (go_quiet (fail);try go_wp2)
       go_ret2
       exact ⟨_,erw0,rrr HO_6,bel HB⟩
def spec_AreSumps.f (k : Nat) (l0 : List (S44)) : Option (Bool):=(spec_l23Sumps.f k l0).bind fun t701=>(some t701)
theorem spec_AreSumps.mono : ∀ a0 k,LeO (spec_AreSumps.f k a0) (spec_AreSumps.f (k + 1) a0):=by
 intro a0 k
 unfold spec_AreSumps.f
 repeat' first
   | (with_reducible exact spec_l23Sumps.mono _ _)
   | (with_reducible exact LeO.refl _)
   | (with_reducible exact LeO.none _)
   | (with_reducible refine LeO.ite ?_ ?_)
   | (with_reducible refine LeO.bind ?_ (fun _=>?_))
set_option maxHeartbeats 8000000 in
set_option maxRecDepth 100000 in
theorem spec_AreSumps.calls (k : Nat) (A0 : Option Addr) (c0 : Nat) (l0 : List (S44)) (r : Bool) (w : World) (hr0 : Kd.C k44 w A0 l0.length l0) (hc0 : l0.length≤c0) (h : spec_AreSumps.f k l0=some r) :
  Calls Try.prog 42 #[.slice A0 l0.length c0] w fun e w'=>e = .returned (.bool r)∧Below w.heap.size w w':=by
 have HR0:=amk hr0
 have HC0:=amk hc0
 clear hr0 hc0
 have HB:=amk (Below.refl w.heap.size w)
 have H : ((spec_l23Sumps.f k l0).bind fun t701=>(some t701))=some r:=h
 clear h
 replace H:=obs H
 obtain ⟨t701,A20,H⟩:=H
 replace H : (some t701)=some r:=H
 have A2:=amk A20
 clear A20
 obtain rfl:=Option.some.inj H
 go_enter Try.func42,Try.ntmps42
 go_wp2_with (first | ((with_reducible refine gate_callee (f:=71) rfl ?_);refine goesL_ (some 4) rfl rfl Try.func71 (by kernel_rfl) rfl #[.slice A0 l0.length c0] rfl mtt ?_;(with_reducible refine (spec_l23Sumps.calls k _ _ l0 t701 _ ?side1 ?side2 A2.out).mono ?_);(case side1=>exact ccc HR0.out);(case side2=>exact HC0.out);rintro e w3 ⟨rfl,hb⟩;refine ⟨_,rfl,?_⟩;replace HB:=amk (below_step (bel HB) hb);(try clear hb)))
 go_ret
 exact ⟨erw0,bel HB⟩
end Go.Proofs.Ytldifiededjgjaa.P
namespace Go.Proofs.Ytldifiededjgjaa.Pu
open Go.RowKit Go.Proofs.Ytldifiededjgjaa.P Go.Proofs.YtldifiededjgjaaW.PrintWords
noncomputable def isOpenR (l : List S30) (s : S44) (h : Int) : Bool × Bool:=if inB l h && sumpB s then (op l s.f2 h,true) else (false,false)
theorem isOpenR_t {l : List S30} {s : S44} {h : Int} (a : inB l h=true) (b : sumpB s=true) : isOpenR l s h=(op l s.f2 h,true):=by unfold isOpenR;rw [a,b];rfl
theorem isOpenR_a {l : List S30} {s : S44} {h : Int} (a : ¬ inB l h=true) : isOpenR l s h=(false,false):=by unfold isOpenR;rw [Bool.eq_false_iff.mpr a];rfl
theorem isOpenR_b {l : List S30} {s : S44} {h : Int} (a : ¬ sumpB s=true) : isOpenR l s h=(false,false):=by unfold isOpenR;rw [Bool.eq_false_iff.mpr a,Bool.and_false];rfl
theorem iisopen (l : List S30) (s : S44) (h : Int) (hl : (l.length : Int)≤1000000000000) : Ev (fun k=>impl_IsOpen.f k l s.f0 s.f1 s.f2 h) (isOpenR l s h):=by
 unfold impl_IsOpen.f
 refine Ev.bind (ihas l h hl) ?_
 by_cases a : inB l h=true
 ·refine Ev.pos a (Ev.bindS (isump s) ?_)
  by_cases b : sumpB s=true
  ·exact Ev.pos b (Ev.bind (iopen (in_of a) _ _ _) (Ev.to (Ev.now _) (isOpenR_t a b).symm))
  ·exact Ev.neg b (Ev.to (Ev.now _) (isOpenR_b b).symm)
 ·exact Ev.neg a (Ev.to (Ev.now _) (isOpenR_a a).symm)
theorem sisopen (l : List S30) (s : S44) (h : Int) (hl : (l.length : Int)≤1000000000000) : Ev (fun k=>spec_IsOpen.f k l s.f0 s.f1 s.f2 h) (isOpenR l s h):=by
 unfold spec_IsOpen.f
 refine Ev.bind (swithin l h hl) ?_
 by_cases a : inB l h=true
 ·refine Ev.pos a (Ev.bindS (ssump s) ?_)
  by_cases b : sumpB s=true
  ·exact Ev.pos b (Ev.bind (sopen (in_of a) _ _ _) (Ev.to (Ev.now _) (isOpenR_t a b).symm))
  ·exact Ev.neg b (Ev.to (Ev.now _) (isOpenR_b b).symm)
 ·exact Ev.neg a (Ev.to (Ev.now _) (isOpenR_a a).symm)
noncomputable def Q1 (l : List S30) (o h : Int) : Bool:=inB l h && op l o h
theorem Q1_out {l : List S30} (o : Int) {x : Int} (h : ¬ InH l x) : Q1 l o x=false:=by unfold Q1;rw [inB_false h];rfl
theorem scan_skip (Q : Int→Bool) : ∀ (n : Nat) (h : Int) (R : List (Int × Int)),(∀ x,h≤x→x < h + n→Q x=false)→scan Q n h R=R:=by
 intro n
 induction n with
 | zero=>intro h R _;rfl
 | succ n ih=>
  intro h R q
  have e : stp Q R h=R:=stp_no R (by rw [q h (Int.le_refl _) (by omega)];simp)
  show scan Q n (h + 1) (stp Q R h)=R
  rw [e]
  exact ih (h + 1) R (fun x a b=>q x (by omega) (by omega))
theorem scan_add (Q : Int→Bool) : ∀ (m n : Nat) (h : Int) (R : List (Int × Int)),scan Q (m + n) h R=scan Q n (h + m) (scan Q m h R):=by
 intro m
 induction m with
 | zero=>intro n h R;rw [Nat.zero_add,show h + ((0 : Nat) : Int)=h from by omega];rfl
 | succ m ih=>
  intro n h R
  rw [show m + 1 + n=(m + n) + 1 from by omega]
  show scan Q (m + n) (h + 1) (stp Q R h)=scan Q n (h + ((m + 1 : Nat) : Int)) (scan Q m (h + 1) (stp Q R h))
  rw [ih,show h + 1 + (m : Int)=h + ((m + 1 : Nat) : Int) from by omega]
theorem scan_in (Q : Int→Bool) (lo hi : Int) (h0 : 0≤lo) (h1 : hi≤999) (h2 : lo≤hi + 1) (out : ∀ x,¬ (lo≤x∧x≤hi)→Q x=false) : scan Q 1000 0 []=scan Q (hi + 1 - lo).toNat lo []:=by
 have e : (1000 : Nat)=lo.toNat + ((hi + 1 - lo).toNat + (999 - hi).toNat):=by omega
 rw [e,scan_add,scan_skip Q lo.toNat 0 [] (fun x a b=>out x (by omega)),scan_add,scan_skip Q (999 - hi).toNat _ _ (fun x a b=>out x (by omega)),show (0 : Int) + (lo.toNat : Int)=lo from by omega]
noncomputable def spansR (l : List S30) (s : S44) : List (List Int) × Bool:=if goodB l && sumpB s then (tbl (scan (Q1 l s.f2) 1000 0 []),true) else ([],false)
theorem spansR_t {l : List S30} {s : S44} (a : goodB l=true) (b : sumpB s=true) : spansR l s=(tbl (scan (Q1 l s.f2) 1000 0 []),true):=by unfold spansR;rw [a,b];rfl
theorem spansR_a {l : List S30} {s : S44} (a : ¬ goodB l=true) : spansR l s=([],false):=by unfold spansR;rw [Bool.eq_false_iff.mpr a];rfl
theorem spansR_b {l : List S30} {s : S44} (a : ¬ sumpB s=true) : spansR l s=([],false):=by unfold spansR;rw [Bool.eq_false_iff.mpr a,Bool.and_false];rfl
theorem ispansF (l : List S30) (s : S44) (hl : (l.length : Int)≤1000000000000) : Ev (fun k=>impl_OpenSpans.f k l s.f0 s.f1 s.f2) (spansR l s):=by
 unfold impl_OpenSpans.f
 have i0 : ¬ (goodB l && sumpB s)=true→Ev (fun k=>impl_OpenSpans.j0 k true l s.f0 s.f1 s.f2) (spansR l s):=by
  intro h
  refine Ev.step (fun k=>impl_OpenSpans.j0.eq_2 true l s.f0 s.f1 s.f2 k) (Ev.pos rfl (Ev.to (Ev.now _) ?_))
  unfold spansR
  rw [if_neg h]
 refine Ev.bind (igood l hl) ?_
 by_cases a : goodB l=true
 ·refine Ev.pos a (Ev.bindS (isump s) ?_)
  by_cases b : sumpB s=true
  ·rw [b]
   obtain ⟨lo,hi,hh,h0,h1,h2,hin⟩:=hours_in (good_of a)
   have evp : ∀ x,lo≤x→x < lo + ((hi + 1 - lo).toNat : Int)→Ev (fun k=>(fun (k : Nat) (x_ : Int)=>impl_OpenSpans_1.f k x_ s.f0 s.f1 s.f2 l) k x) (Q1 l s.f2 x):=by
    intro x u v
    have i:=(hin x).mp ⟨u,by omega⟩
    show Ev (fun k=>impl_OpenSpans_1.f k x s.f0 s.f1 s.f2 l) (Q1 l s.f2 x)
    unfold impl_OpenSpans_1.f
    refine Ev.bind (iopen i _ _ _) (Ev.to (Ev.now _) ?_)
    unfold Q1
    rw [inB_true i,Bool.true_and]
   obtain ⟨K,hK⟩:=Ev.all (fun (k : Nat) (x_ : Int)=>impl_OpenSpans_1.f k x_ s.f0 s.f1 s.f2 l) (Q1 l s.f2) lo _ evp
   have sp : Ev (fun k=>impl_spans.f k lo hi (fun x_ : Int=>impl_OpenSpans_1.f k x_ s.f0 s.f1 s.f2 l)) (tbl (scan (Q1 l s.f2) (hi + 1 - lo).toNat lo [])):=
    ⟨K + 2000000,fun k hk=>ispans (Q1 l s.f2) _ lo hi h0 (by omega) k (by omega) (fun x u v=>hK k (by omega) x u (by omega))⟩
   have e:=scan_in (Q1 l s.f2) lo hi h0 h1 h2 (fun x hx=>Q1_out _ (fun i=>hx ((hin x).mpr i)))
   refine Ev.step (fun k=>impl_OpenSpans.j0.eq_2 _ l s.f0 s.f1 s.f2 k) (Ev.neg (by simp) (Ev.bind hh (Ev.bind sp (Ev.to (Ev.now _) ?_))))
   rw [spansR_t a b,e]
  ·have bf:=Bool.eq_false_iff.mpr b
   rw [bf]
   exact i0 (by simp [bf])
 ·exact Ev.neg a (i0 (by simp [a]))
theorem sspans_l0 (l : List S30) (s : S44) (hl : (l.length : Int)≤1000000000000) : ∀ (d : Nat) (h : Int) (R : List (Int × Int)),0≤h→1000 - h=d→R.length + d≤1000 →
  Ev (fun k=>spec_OpenSpans.l0 k l (tbl R) h s.f0 s.f1 s.f2) (tbl (scan (Q1 l s.f2) d h R),true):=by
 intro d
 induction d with
 | zero=>intro h R h0 hd hR;exact Ev.step (fun k=>spec_OpenSpans.l0.eq_2 l (tbl R) h s.f0 s.f1 s.f2 k) (Ev.neg (by omega) (Ev.now _))
 | succ d ih=>
  intro h R h0 hd hR
  have w : wrap64 (h + 1)=h + 1:=wr (by omega) (by omega)
  have w1 : wrap64 (h - 1)=h - 1:=wr (by omega) (by omega)
  have le:=stp_len (Q1 l s.f2) R h
  have go:=ih (h + 1) (stp (Q1 l s.f2) R h) (by omega) (by omega) (by omega)
  have off : Q1 l s.f2 h=false→Ev (fun k=>spec_OpenSpans.j2 k l (tbl R) h true s.f0 s.f1 s.f2) (tbl (scan (Q1 l s.f2) d (h + 1) (stp (Q1 l s.f2) R h)),true):=by
   intro q
   refine Ev.step (fun k=>spec_OpenSpans.j2.eq_2 l (tbl R) h true s.f0 s.f1 s.f2 k) (Ev.pos rfl ?_)
   rw [w]
   have e:=stp_no (Q:=Q1 l s.f2) (h:=h) R (by rw [q];simp)
   rw [e] at go ⊢
   exact go
  refine Ev.step (fun k=>spec_OpenSpans.l0.eq_2 l (tbl R) h s.f0 s.f1 s.f2 k) (Ev.pos (by omega) (Ev.bind (swithin l h hl) ?_))
  show Ev _ (tbl (scan (Q1 l s.f2) d (h + 1) (stp (Q1 l s.f2) R h)),true)
  by_cases i : InH l h
  ·have ib:=inB_true i
   refine Ev.pos ib (Ev.bind (sopen i _ _ _) ?_)
   by_cases o : op l s.f2 h=true
   ·have q : Q1 l s.f2 h=true:=by unfold Q1;rw [ib,o];rfl
    rw [o]
    refine Ev.step (fun k=>spec_OpenSpans.j2.eq_2 l (tbl R) h _ s.f0 s.f1 s.f2 k) (Ev.neg (by simp) ?_)
    simp only [w,w1,tbl_len]
    rcases R with _ | ⟨⟨a,b⟩,t⟩
    ·rw [stp_nil q] at go ⊢
     refine Ev.neg (by simp) (Ev.pos (by simp) ?_)
     exact go
    ·have w0 : wrap64 (((((a,b) :: t : List (Int × Int)).length : Nat) : Int) - 1)=(t.length : Int):=by
      simp only [List.length_cons] at hR ⊢
      rw [wr (by omega) (by omega)]
      omega
     have len2 : ((tp (a,b)).length : Int)=2:=rfl
     have r1 : rd (tp (a,b)) 1=b:=rfl
     have r0 : rd (tp (a,b)) 0=a:=rfl
     simp only [w0,tbl_last,len2,r1,r0]
     refine Ev.pos (by simp only [List.length_cons];omega) (Ev.pos (by omega) (Ev.pos (by simp only [List.length_cons];omega) (Ev.pos (by omega) ?_)))
     by_cases c2 : b=h - 1
     ·rw [stp_join t q c2] at go ⊢
      refine Ev.pos c2 (Ev.pos (by omega) ?_)
      have st : ([a,h] : List Int)=tp (a,h):=rfl
      rw [st,Int.toNat_natCast,tbl_set]
      exact go
     ·rw [stp_new t q c2] at go ⊢
      refine Ev.neg c2 (Ev.pos (by simp only [List.length_cons] at hR ⊢;omega) ?_)
      have st : ([h,h] : List Int)=tp (h,h):=rfl
      rw [st,tbl_add]
      exact go
   ·have of:=Bool.eq_false_iff.mpr o
    rw [of]
    exact off (by unfold Q1;rw [of,Bool.and_false])
  ·exact Ev.neg (by rw [inB_false i];simp) (off (Q1_out _ i))
theorem sspansF (l : List S30) (s : S44) (hl : (l.length : Int)≤1000000000000) : Ev (fun k=>spec_OpenSpans.f k l s.f0 s.f1 s.f2) (spansR l s):=by
 unfold spec_OpenSpans.f
 have s0 : ¬ (goodB l && sumpB s)=true→Ev (fun k=>spec_OpenSpans.j0 k l [] true s.f0 s.f1 s.f2) (spansR l s):=by
  intro h
  refine Ev.step (fun k=>spec_OpenSpans.j0.eq_2 l [] true s.f0 s.f1 s.f2 k) (Ev.pos rfl (Ev.to (Ev.now _) ?_))
  unfold spansR
  rw [if_neg h]
 refine Ev.someb (Ev.bind (sgood l hl) ?_)
 by_cases a : goodB l=true
 ·refine Ev.pos a (Ev.bindS (ssump s) ?_)
  by_cases b : sumpB s=true
  ·rw [b,spansR_t a b]
   exact Ev.step (fun k=>spec_OpenSpans.j0.eq_2 l [] _ s.f0 s.f1 s.f2 k) (Ev.neg (by simp) (sspans_l0 l s hl 1000 0 [] (Int.le_refl _) rfl (by simp)))
  ·have bf:=Bool.eq_false_iff.mpr b
   rw [bf]
   exact s0 (by simp [bf])
 ·exact Ev.neg a (s0 (by simp [a]))
noncomputable def closedR (l : List S30) (ss : List S44) (h : Int) : List Int × Bool:=if inB l h && sumpsB ss then (shut l h ss,true) else ([],false)
theorem closedR_t {l : List S30} {ss : List S44} {h : Int} (a : inB l h=true) (b : sumpsB ss=true) : closedR l ss h=(shut l h ss,true):=by unfold closedR;rw [a,b];rfl
theorem iclosed_l0 {l : List S30} {h : Int} (g : InH l h) (ss : List S44) (hl : (ss.length : Int)≤1000000000000) : ∀ (L M : List S44) (i : Int) (out : List Int),0≤i→i=M.length→M ++ L=ss→out.length≤M.length →
  Ev (fun k=>impl_ClosedSumps.l0 k l h out ss (ss.length : Int) i) (out ++ shut l h L,true):=by
 intro L
 induction L with
 | nil=>
  intro M i out h0 hi e ho
  have len:=congrArg List.length e
  simp at len
  exact Ev.step (fun k=>impl_ClosedSumps.l0.eq_2 l h out ss _ i k) (Ev.neg (by omega) (Ev.to (Ev.now _) (by simp [shut])))
 | cons s L ih=>
  intro M i out h0 hi e ho
  have len:=congrArg List.length e
  simp at len
  have w : wrap64 (i + 1)=i + 1:=wr (by omega) (by omega)
  have rd0:=rd44 ss M L s e i hi
  refine Ev.step (fun k=>impl_ClosedSumps.l0.eq_2 l h out ss _ i k) (Ev.pos (by omega) (Ev.pos h0 (Ev.pos (by omega) ?_)))
  simp only [rd0,w]
  refine Ev.bind (iopen g _ _ _) ?_
  have nx:=fun out' ho'=>ih (M ++ [s]) (i + 1) out' (by omega) (by simp;omega) (by rw [← e];simp) ho'
  by_cases c : op l s.f2 h=true
  ·refine Ev.pos c (Ev.to (nx out (by simp;omega)) ?_)
   simp [shut,c]
  ·refine Ev.neg c (Ev.pos (by omega) (Ev.to (nx _ (by simp;omega)) ?_))
   simp [shut,c]
theorem iclosed (l : List S30) (ss : List S44) (h : Int) (hl : (l.length : Int)≤1000000000000) (hs : (ss.length : Int)≤1000000000000) : Ev (fun k=>impl_ClosedSumps.f k l ss h) (closedR l ss h):=by
 unfold impl_ClosedSumps.f
 have i0 : ¬ (inB l h && sumpsB ss)=true→Ev (fun k=>impl_ClosedSumps.j0 k l ss h true) (closedR l ss h):=by
  intro c
  refine Ev.step (fun k=>impl_ClosedSumps.j0.eq_2 l ss h true k) (Ev.pos rfl (Ev.to (Ev.now _) ?_))
  unfold closedR
  rw [if_neg c]
 refine Ev.bind (ihas l h hl) ?_
 by_cases a : inB l h=true
 ·refine Ev.pos a (Ev.bind (isumps ss hs) ?_)
  by_cases b : sumpsB ss=true
  ·rw [b,closedR_t a b]
   exact Ev.step (fun k=>impl_ClosedSumps.j0.eq_2 l ss h _ k) (Ev.neg (by simp) (iclosed_l0 (in_of a) ss hs ss [] 0 [] (Int.le_refl _) rfl rfl (Nat.le_refl _)))
  ·have bf:=Bool.eq_false_iff.mpr b
   rw [bf]
   exact i0 (by simp [bf])
 ·exact Ev.neg a (i0 (by simp [a]))
theorem sclosedF (l : List S30) (ss : List S44) (h : Int) (hl : (l.length : Int)≤1000000000000) (hs : (ss.length : Int)≤1000000000000) : Ev (fun k=>spec_ClosedSumps.f k l ss h) (closedR l ss h):=by
 unfold spec_ClosedSumps.f
 have bad : ¬ (inB l h && sumpsB ss)=true→(([] : List Int),false)=closedR l ss h:=by
  intro c
  unfold closedR
  rw [if_neg c]
 refine Ev.bind (swithin l h hl) ?_
 by_cases a : inB l h=true
 ·refine Ev.pos a (Ev.bind (ssumps ss hs) ?_)
  by_cases b : sumpsB ss=true
  ·rw [closedR_t a b]
   exact Ev.pos b (Ev.bind (sclosed (in_of a) ss hs) (Ev.now _))
  ·exact Ev.neg b (Ev.to (Ev.now _) (bad (by simp [b])))
 ·exact Ev.neg a (Ev.to (Ev.now _) (bad (by simp [a])))
theorem sareSumps (l : List S44) (hl : (l.length : Int)≤1000000000000) : Ev (fun k=>spec_AreSumps.f k l) (sumpsB l):=by
 unfold spec_AreSumps.f
 exact Ev.bind (ssumps l hl) (Ev.now _)
def under (l : List S30) (s : S44) : Bool:=l.any (fun r=>decide (r.f1 > s.f1))
def drown (l : List S30) (ss : List S44) : List Int:=(ss.filter (under l)).map (·.f0)
noncomputable def drownedR (l : List S30) (ss : List S44) : List Int × Bool:=if goodB l && sumpsB ss then (drown l ss,true) else ([],false)
theorem drownedR_t {l : List S30} {ss : List S44} (a : goodB l=true) (b : sumpsB ss=true) : drownedR l ss=(drown l ss,true):=by unfold drownedR;rw [a,b];rfl
theorem rd30 (l M L : List S30) (s : S30) (e : M ++ s :: L=l) (i : Int) (hi : i=M.length) : rd_T30 l i=s:=by
 unfold rd_T30
 rw [← e,hi,Int.toNat_natCast]
 simp [List.getD_eq_getElem?_getD]
theorem iunder_l0 (l : List S30) (hl : (l.length : Int)≤1000000000000) (s : S44) : ∀ (L M : List S30) (i : Int),0≤i→i=M.length→M ++ L=l →
  ∃ r,(r ≥ 0 ↔ under L s=true)∧Ev (fun k=>impl_Reading_93.l0 k l (fun x_ : S30=>impl_DrownedSumps_1.f x_.f0 x_.f1 s.f0 s.f1 s.f2) (l.length : Int) i) r:=by
 intro L
 induction L with
 | nil=>
  intro M i h0 hi e
  have len:=congrArg List.length e
  simp at len
  exact ⟨-1,by simp [under],Ev.step (fun k=>impl_Reading_93.l0.eq_2 l _ _ i k) (Ev.neg (by omega) (Ev.now _))⟩
 | cons r L ih=>
  intro M i h0 hi e
  have len:=congrArg List.length e
  simp at len
  have w : wrap64 (i + 1)=i + 1:=wr (by omega) (by omega)
  have rd0:=rd30 l M L r e i hi
  obtain ⟨q,hq,ev⟩:=ih (M ++ [r]) (i + 1) (by omega) (by simp;omega) (by rw [← e];simp)
  by_cases c : r.f1 > s.f1
  ·refine ⟨i,by simp [under,c,h0],Ev.step (fun k=>impl_Reading_93.l0.eq_2 l _ _ i k) (Ev.pos (by omega) (Ev.pos h0 (Ev.pos (by omega) ?_)))⟩
   rw [rd0]
   exact Ev.someb (Ev.pos (decide_eq_true c) (Ev.now _))
  ·refine ⟨q,by rw [hq];simp [under,c],Ev.step (fun k=>impl_Reading_93.l0.eq_2 l _ _ i k) (Ev.pos (by omega) (Ev.pos h0 (Ev.pos (by omega) ?_)))⟩
   rw [rd0,w]
   exact Ev.someb (Ev.neg (by simp [c]) ev)
theorem iunder (l : List S30) (hl : (l.length : Int)≤1000000000000) (s : S44) : Ev (fun k=>impl_Reading_82.f k l (fun x_ : S30=>impl_DrownedSumps_1.f x_.f0 x_.f1 s.f0 s.f1 s.f2)) (under l s):=by
 obtain ⟨r,hr,ev⟩:=iunder_l0 l hl s l [] 0 (Int.le_refl _) rfl rfl
 unfold impl_Reading_82.f impl_Reading_93.f
 refine Ev.bind ev (Ev.to (Ev.now _) ?_)
 by_cases c : r ≥ 0
 ·rw [hr.mp c]
  exact decide_eq_true c
 ·rw [Bool.eq_false_iff.mpr (fun h=>c (hr.mpr h))]
  exact decide_eq_false c
theorem idrown_l0 (l : List S30) (ss : List S44) (hl : (l.length : Int)≤1000000000000) (hs : (ss.length : Int)≤1000000000000) : ∀ (L M : List S44) (i : Int) (out : List Int),0≤i→i=M.length→M ++ L=ss→out.length≤M.length →
  Ev (fun k=>impl_DrownedSumps.l0 k l out ss (ss.length : Int) i) (out ++ drown l L,true):=by
 intro L
 induction L with
 | nil=>
  intro M i out h0 hi e ho
  have len:=congrArg List.length e
  simp at len
  exact Ev.step (fun k=>impl_DrownedSumps.l0.eq_2 l out ss _ i k) (Ev.neg (by omega) (Ev.to (Ev.now _) (by simp [drown])))
 | cons s L ih=>
  intro M i out h0 hi e ho
  have len:=congrArg List.length e
  simp at len
  have w : wrap64 (i + 1)=i + 1:=wr (by omega) (by omega)
  have rd0:=rd44 ss M L s e i hi
  refine Ev.step (fun k=>impl_DrownedSumps.l0.eq_2 l out ss _ i k) (Ev.pos (by omega) (Ev.pos h0 (Ev.pos (by omega) ?_)))
  simp only [rd0,w]
  refine Ev.bind (iunder l hl s) ?_
  have nx:=fun out' ho'=>ih (M ++ [s]) (i + 1) out' (by omega) (by simp;omega) (by rw [← e];simp) ho'
  by_cases c : under l s=true
  ·refine Ev.pos c (Ev.pos (by omega) (Ev.to (nx _ (by simp;omega)) ?_))
   simp [drown,c]
  ·refine Ev.neg c (Ev.to (nx out (by simp;omega)) ?_)
   simp [drown,c]
theorem idrowned (l : List S30) (ss : List S44) (hl : (l.length : Int)≤1000000000000) (hs : (ss.length : Int)≤1000000000000) : Ev (fun k=>impl_DrownedSumps.f k l ss) (drownedR l ss):=by
 unfold impl_DrownedSumps.f
 have i0 : ¬ (goodB l && sumpsB ss)=true→Ev (fun k=>impl_DrownedSumps.j0 k l ss true) (drownedR l ss):=by
  intro c
  refine Ev.step (fun k=>impl_DrownedSumps.j0.eq_2 l ss true k) (Ev.pos rfl (Ev.to (Ev.now _) ?_))
  unfold drownedR
  rw [if_neg c]
 refine Ev.bind (igood l hl) ?_
 by_cases a : goodB l=true
 ·refine Ev.pos a (Ev.bind (isumps ss hs) ?_)
  by_cases b : sumpsB ss=true
  ·rw [b,drownedR_t a b]
   exact Ev.step (fun k=>impl_DrownedSumps.j0.eq_2 l ss _ k) (Ev.neg (by simp) (idrown_l0 l ss hl hs ss [] 0 [] (Int.le_refl _) rfl rfl (Nat.le_refl _)))
  ·have bf:=Bool.eq_false_iff.mpr b
   rw [bf]
   exact i0 (by simp [bf])
 ·exact Ev.neg a (i0 (by simp [a]))
theorem sdrown_l1 (l : List S30) (ss : List S44) (hl : (l.length : Int)≤1000000000000) (s : S44) (i : Int) (h0 : 0≤i) (h1 : i < ss.length) (hi : rd_T44 ss i=s) (out : List Int) (ho : out.length < 17592186044416) (r : List Int × Bool)
  (yes : under l s=true→Ev (fun k=>spec_DrownedSumps.l0 k l ss (out ++ [s.f0]) (wrap64 (i + 1))) r) (no : under l s=false→Ev (fun k=>spec_DrownedSumps.l0 k l ss out (wrap64 (i + 1))) r) :
  ∀ (L M : List S30) (j : Int),0≤j→j=M.length→M ++ L=l→(∀ x ∈ M,¬ x.f1 > s.f1)→Ev (fun k=>spec_DrownedSumps.l1 k l ss out i j) r:=by
 intro L
 induction L with
 | nil=>
  intro M j j0 hj e hM
  have len:=congrArg List.length e
  simp at len
  refine Ev.step (fun k=>spec_DrownedSumps.l1.eq_2 l ss out i j k) (Ev.neg (by omega) (no ?_))
  rw [List.append_nil] at e
  subst e
  unfold under
  rw [List.any_eq_false]
  intro x hx
  simp [hM x hx]
 | cons q L ih=>
  intro M j j0 hj e hM
  have len:=congrArg List.length e
  simp at len
  have w : wrap64 (j + 1)=j + 1:=wr (by omega) (by omega)
  have rd0:=rd30 l M L q e j hj
  refine Ev.step (fun k=>spec_DrownedSumps.l1.eq_2 l ss out i j k) (Ev.pos (by omega) (Ev.pos j0 (Ev.pos h0 (Ev.pos h1 ?_))))
  simp only [rd0,hi]
  by_cases c : q.f1 > s.f1
  ·refine Ev.pos c (Ev.pos ho (yes ?_))
   unfold under
   rw [List.any_eq_true]
   exact ⟨q,by rw [← e];simp,by simp [c]⟩
  ·refine Ev.neg c ?_
   rw [w]
   exact ih (M ++ [q]) (j + 1) (by omega) (by simp;omega) (by rw [← e];simp) (fun x hx=>by
    rcases List.mem_append.mp hx with m | m
    ·exact hM x m
    ·obtain rfl:=List.mem_singleton.mp m
     exact c)
theorem sdrown_l0 (l : List S30) (ss : List S44) (hl : (l.length : Int)≤1000000000000) (hs : (ss.length : Int)≤1000000000000) : ∀ (L M : List S44) (i : Int) (out : List Int),0≤i→i=M.length→M ++ L=ss→out.length≤M.length →
  Ev (fun k=>spec_DrownedSumps.l0 k l ss out i) (out ++ drown l L,true):=by
 intro L
 induction L with
 | nil=>
  intro M i out h0 hi e ho
  have len:=congrArg List.length e
  simp at len
  exact Ev.step (fun k=>spec_DrownedSumps.l0.eq_2 l ss out i k) (Ev.neg (by omega) (Ev.to (Ev.now _) (by simp [drown])))
 | cons s L ih=>
  intro M i out h0 hi e ho
  have len:=congrArg List.length e
  simp at len
  have w : wrap64 (i + 1)=i + 1:=wr (by omega) (by omega)
  have rd0:=rd44 ss M L s e i hi
  have nx:=fun out' ho'=>ih (M ++ [s]) (i + 1) out' (by omega) (by simp;omega) (by rw [← e];simp) ho'
  refine Ev.step (fun k=>spec_DrownedSumps.l0.eq_2 l ss out i k) (Ev.pos (by omega) ?_)
  refine sdrown_l1 l ss hl s i h0 (by omega) rd0 out (by omega) _ (fun c=>?_) (fun c=>?_) l [] 0 (Int.le_refl _) rfl rfl (fun x hx=>by cases hx)
  ·rw [w]
   exact Ev.to (nx _ (by simp;omega)) (by simp [drown,c])
  ·rw [w]
   exact Ev.to (nx out (by simp;omega)) (by simp [drown,c])
theorem sdrowned (l : List S30) (ss : List S44) (hl : (l.length : Int)≤1000000000000) (hs : (ss.length : Int)≤1000000000000) : Ev (fun k=>spec_DrownedSumps.f k l ss) (drownedR l ss):=by
 unfold spec_DrownedSumps.f
 have i0 : ¬ (goodB l && sumpsB ss)=true→Ev (fun k=>spec_DrownedSumps.j0 k l ss [] true) (drownedR l ss):=by
  intro c
  refine Ev.step (fun k=>spec_DrownedSumps.j0.eq_2 l ss [] true k) (Ev.pos rfl (Ev.to (Ev.now _) ?_))
  unfold drownedR
  rw [if_neg c]
 refine Ev.someb (Ev.bind (sgood l hl) ?_)
 by_cases a : goodB l=true
 ·refine Ev.pos a (Ev.bind (ssumps ss hs) ?_)
  by_cases b : sumpsB ss=true
  ·rw [b,drownedR_t a b]
   exact Ev.step (fun k=>spec_DrownedSumps.j0.eq_2 l ss [] _ k) (Ev.neg (by simp) (sdrown_l0 l ss hl hs ss [] 0 [] (Int.le_refl _) rfl rfl (Nat.le_refl _)))
  ·have bf:=Bool.eq_false_iff.mpr b
   rw [bf]
   exact i0 (by simp [bf])
 ·exact Ev.neg a (i0 (by simp [a]))
end Go.Proofs.Ytldifiededjgjaa.Pu
namespace Go.Proofs.Ytldifiededjgjaa.P
open Go.RowKit Go.Proofs.YtldifiededjgjaaW.PrintWords Go.Proofs.YtldifiededjgjaaW.PrintLast Go.Proofs.YtldifiededjgjaaW.PrintMore
attribute [local go_sem] max2_int min2_int max_two min_two max_three min_three max_four min_four
set_option linter.unusedVariables false
set_option linter.unusedSimpArgs false
def laws_szSumpS.f (l0 : List (S38)) (a1 : Int) : Option (Int):=if (wrap64 (a1 - (l0.length : Int))) < 0 then (some (-1)) else (some (wrap64 (a1 - (l0.length : Int))))
set_option maxHeartbeats 8000000 in
set_option maxRecDepth 100000 in
theorem laws_szSumpS.calls (A0 : Option Addr) (c0 : Nat) (l0 : List (S38)) (a1 : Int) (r : Int) (w : World) (hr0 : Kd.C k38 w A0 l0.length l0) (hc0 : l0.length≤c0) (h : laws_szSumpS.f l0 a1=some r) :
  Calls Try.prog 27 #[.slice A0 l0.length c0,.int .i64 a1] w fun e w'=>e = .returned (.int .i64 r)∧Drawn0 w w':=by
 have HR0:=amk hr0
 have HC0:=amk hc0
 clear hr0 hc0
 have H : (if (wrap64 (a1 - (l0.length : Int))) < 0 then (some (-1)) else (some (wrap64 (a1 - (l0.length : Int)))))=some r:=h
 clear h
 by_cases c3 : (wrap64 (a1 - (l0.length : Int))) < 0
 ·rw [if_pos c3] at H
  have c3b0 : decide ((wrap64 (a1 - (l0.length : Int))) < 0)=true:=decide_eq_true c3
  clear c3
  obtain rfl:=Option.some.inj H
  go_enter Try.func27,Try.ntmps27
  go_wp2
  go_ret
  exact ⟨rsd,by repeat (first | exact Drawn0.refl _ | apply Drawn0.step)⟩
 ·rw [if_neg c3] at H
  have c3b0 : decide ((wrap64 (a1 - (l0.length : Int))) < 0)=false:=decide_eq_false c3
  clear c3
  obtain rfl:=Option.some.inj H
  go_enter Try.func27,Try.ntmps27
  go_wp2
  go_ret
  exact ⟨rsd,by repeat (first | exact Drawn0.refl _ | apply Drawn0.step)⟩
def laws_toSumpS.l0 : Nat→List (S38)→List (S44)→Int→Option ((List (S44)))
 | 0,_,_,_=>none
 | k + 1,x0,x3,x4=>if x4 < (x0.length : Int) then (if 0≤x4 then ((laws_toSump.f ((rd_T38 x0 x4).f0) ((rd_T38 x0 x4).f1) ((rd_T38 x0 x4).f2)).bind fun bt497=>(if x4 < (x3.length : Int) then (laws_toSumpS.l0 k x0 (x3.set (x4 : Int).toNat (⟨bt497.1,bt497.2.1,bt497.2.2⟩ : S44)) (wrap64 (x4 + 1))) else (none))) else (none)) else (some x3)
def laws_toSumpS.f (k : Nat) (l0 : List (S38)) : Option ((List (S44))):=if 0≤(l0.length : Int) then (if ((l0.length : Int) : Int).toNat≤11728124029610 then (laws_toSumpS.l0 k l0 (List.replicate ((l0.length : Int) : Int).toNat z44) 0) else (none)) else (none)
theorem laws_toSumpS.mono_l : ∀ k,(∀ y0 y1 y2,LeO (laws_toSumpS.l0 k y0 y1 y2) (laws_toSumpS.l0 (k + 1) y0 y1 y2))
 | 0=>fun _ _ _ r h=>by simp [laws_toSumpS.l0] at h
 | k + 1=>by
  have ih0:=laws_toSumpS.mono_l k
  ·intro y0 y1 y2
   unfold laws_toSumpS.l0
   repeat' first
   | (with_reducible exact ih0 _ _ _)
   | (with_reducible exact LeO.refl _)
   | (with_reducible exact LeO.none _)
   | (with_reducible refine LeO.ite ?_ ?_)
   | (with_reducible refine LeO.bind ?_ (fun _=>?_))
   | exact ih0 _ _ _
theorem laws_toSumpS.mono : ∀ a0 k,LeO (laws_toSumpS.f k a0) (laws_toSumpS.f (k + 1) a0):=by
 intro a0 k
 have ih0:=laws_toSumpS.mono_l k
 unfold laws_toSumpS.f
 repeat' first
   | (with_reducible exact ih0 _ _ _)
   | (with_reducible exact LeO.refl _)
   | (with_reducible exact LeO.none _)
   | (with_reducible refine LeO.ite ?_ ?_)
   | (with_reducible refine LeO.bind ?_ (fun _=>?_))
   | exact ih0 _ _ _
set_option maxHeartbeats 8000000 in
set_option maxRecDepth 100000 in
theorem laws_toSumpS.calls (k : Nat) (A0 : Option Addr) (c0 : Nat) (l0 : List (S38)) (r : List (S44)) (w : World) (hr0 : Kd.C k38 w A0 l0.length l0) (hc0 : l0.length≤c0) (h : laws_toSumpS.f k l0=some r) :
  Calls Try.prog 29 #[.slice A0 l0.length c0] w fun e w'=>∃ v0_ : Value,e = .returned (v0_)∧Kd.R k44 44 w' w.heap.size (fun _=>True) v0_ r∧Below w.heap.size w w':=by
 have hu38:=Try.underlying38
 have hu44:=Try.underlying44
 have HR0:=amk hr0
 have HC0:=amk hc0
 clear hr0 hc0
 have HB:=amk (Below.refl w.heap.size w)
 have H : (if 0≤(l0.length : Int) then (if ((l0.length : Int) : Int).toNat≤11728124029610 then (laws_toSumpS.l0 k l0 (List.replicate ((l0.length : Int) : Int).toNat z44) 0) else (none)) else (none))=some r:=h
 clear h
 by_cases c2 : 0≤(l0.length : Int)
 ·rw [if_pos c2] at H
  have c2b0:=eq_true c2
  have c2b1 : decide (0≤(l0.length : Int))=true:=decide_eq_true c2
  clear c2
  by_cases c3 : ((l0.length : Int) : Int).toNat≤11728124029610
  ·rw [if_pos c3] at H
   have c3b0:=eq_true c3
   have c3b1 : decide (((l0.length : Int) : Int).toNat≤11728124029610)=true:=decide_eq_true c3
   clear c3
   obtain ⟨y493,hy493⟩ : ∃ y_ : List (S44),y_=(List.replicate ((l0.length : Int) : Int).toNat z44):=⟨_,rfl⟩
   replace H : (laws_toSumpS.l0 k l0 y493 0)=some r:=by first | (rw [hy493];with_reducible exact H)|(have H2_:=(Option.bind_some _ _).symm.trans H;rw [hy493];with_reducible exact H2_)|(have H2_:=(Option.bind_some _ _).symm.trans H;with_reducible exact H2_) | with_reducible exact H | (rw [hy493];exact H) | exact H
   have Ny493:=amk hy493
   clear hy493
   have H':=amk H
   clear H
   go_enter Try.func29,Try.ntmps29
   go_wp2_with (first | ((with_reducible refine gate_dst (N:=7) rfl ?_);refine Kd.R_make k44 _ 44 rfl (N:=7) rfl 55 _ _ rfl (l0.length : Int) rfl rfl Try.underlying55 (.agg #[(.int .i64 0),(.int .i64 0),(.int .i64 0)]) 24 info44 rfl (by decide) (by omega) z44 (ok:=fun _=>True) (okp:=fun _=>True) (k44_mkM _ _ _ z44) (fun _ hk=>hk) trivial (of_decide_eq_true ass) (Nat.le_trans (Nat.mul_le_mul_right _ (of_decide_eq_true ass : (l0.length : Int).toNat≤11728124029610)) (by omega)) (Below.refl _ _) (Nat.le_refl _) ?_;intro v494 w4 ho5 hb hg_ hnew_;clear hg_ hnew_;(first | rw [← Ny493.out] at ho5 | (simp only [Int.reduceToNat] at ho5;rw [← Ny493.out] at ho5));have HO495:=amk (Kd.R_lower ho5 (below_size (bel HB)));replace HB:=amk (below_step (bel HB) hb);clear hb ho5))
   go_loopg [4] k (fun kq v4 w'=>∃ (x3_1 : List (S44)) (x4_1 : Int),v4 = .int .i64 x4_1∧Aside0 (laws_toSumpS.l0 kq l0 x3_1 x4_1=some r)∧Aside0 (kq≤k)∧Aside0 (Kd.R k44 44 w' w.heap.size (fun _=>True) v494 x3_1)∧Aside0 (Below w.heap.size w w'))
   case atStart=>exact ⟨(y493),(0),rsd,H',⟨Nat.le_refl _⟩,⟨rrr HO495⟩,⟨bel HB⟩⟩
   case round=>
    clear H'
    try clear c2
    try clear c2b0
    try clear c2b1
    try clear p2
    try clear c3
    try clear c3b0
    try clear c3b1
    obtain ⟨x3_1,x4_1,rfl,HA,HK1,HO_3,HB⟩:=hrel
    cases gk with
    | zero=>exact absurd HA.out (by simp [laws_toSumpS.l0])
    | succ k1=>
     have H:=HA.out
     clear HA
     simp only [laws_toSumpS.l0] at H
     by_cases c6 : x4_1 < (l0.length : Int)
     ·rw [if_pos c6] at H
      have c6b0 : decide (x4_1 < (l0.length : Int))=true:=decide_eq_true c6
      clear c6
      by_cases c7 : 0≤x4_1
      ·rw [if_pos c7] at H
       have c7b0 : decide (0≤x4_1)=true:=decide_eq_true c7
       clear c7
       replace H:=obs H
       obtain ⟨⟨t497,t498,t499⟩,A80,H⟩:=H
       replace H : (if x4_1 < (x3_1.length : Int) then (laws_toSumpS.l0 k1 l0 (x3_1.set (x4_1 : Int).toNat (⟨t497,t498,t499⟩ : S44)) (wrap64 (x4_1 + 1))) else (none))=some r:=H
       have A8:=amk A80
       clear A80
       by_cases c9 : x4_1 < (x3_1.length : Int)
       ·rw [if_pos c9] at H
        have c9b0 : decide (x4_1 < (x3_1.length : Int))=true:=decide_eq_true c9
        clear c9
        obtain ⟨y500,hy500⟩ : ∃ y_ : List (S44),y_=(x3_1.set (x4_1 : Int).toNat (⟨t497,t498,t499⟩ : S44)):=⟨_,rfl⟩
        replace H : (laws_toSumpS.l0 k1 l0 y500 (wrap64 (x4_1 + 1)))=some r:=by first | (rw [hy500];with_reducible exact H)|(have H2_:=(Option.bind_some _ _).symm.trans H;rw [hy500];with_reducible exact H2_)|(have H2_:=(Option.bind_some _ _).symm.trans H;with_reducible exact H2_) | with_reducible exact H | (rw [hy500];exact H) | exact H
        have Ny500:=amk hy500
        clear hy500
        have H':=amk H
        clear H
        have p496 : 0≤(x4_1 : Int):=of_decide_eq_true ass
        have q496 : x4_1 < (l0.length : Int):=of_decide_eq_true ass
        obtain ⟨ad496,e496,hx496_0,hx496_1,hx496_2⟩:=at_T38 HR0.out x4_1 p496 q496
        cases e496
        replace hx496_0:=(HB.out.cell (World.block_lt_of_cell? w _ hx496_0)).trans hx496_0
        replace hx496_1:=(HB.out.cell (World.block_lt_of_cell? w _ hx496_1)).trans hx496_1
        replace hx496_2:=(HB.out.cell (World.block_lt_of_cell? w _ hx496_2)).trans hx496_2
        replace p496:=eq_true p496
        replace q496:=eq_true q496
        go_wp2_with (first | ((with_reducible refine gate_callee (f:=20) rfl ?_);refine goesL_ (some 20) rfl rfl Try.func20 (by kernel_rfl) rfl #[.agg #[.int .i64 ((rd_T38 l0 x4_1).f0),.int .i64 ((rd_T38 l0 x4_1).f1),.int .i64 ((rd_T38 l0 x4_1).f2)]] rfl mtt ?_;(with_reducible refine (laws_toSump.calls ((rd_T38 l0 x4_1).f0) ((rd_T38 l0 x4_1).f1) ((rd_T38 l0 x4_1).f2) t497 t498 t499 _ A8.out).mono ?_);rintro e w11 ⟨rfl,hb⟩;refine ⟨_,rfl,?_⟩;replace HO_3:=amk (Kd.R_below (rrr HO_3) hb);replace HB:=amk (below_step (bel HB) hb);(try clear hb);have p10 : 0≤(x4_1 : Int):=of_decide_eq_true ass;have q10 : (x4_1 : Int) < ((x3_1.length : Int) : Int):=of_decide_eq_true ass;obtain ⟨go10,co10,eo10,gb10,gl10,cl10,HG10⟩:=Kd.R_form HO_3.out (by omega);(first | cases eo10 | (injection eo10 with ea_ en_ ec_;(first | subst ea_ | (injection ea_ with ea_;subst ea_));subst ec_;clear en_));have GB10:=amk gb10;have GG10:=amk HG10;clear gb10 gl10 HG10;obtain ⟨ce10,hcl10,hM10,hcc10,hfr10⟩:=Kd.R_elem HO_3.out z44 (x4_1 : Int) p10 q10;obtain rfl:=k44_openM hM10;have hx10_0 : w11.cell? ⟨go10,(x4_1 : Int).toNat * 3,none⟩=some (.int .i64 ((rd_T44 x3_1 x4_1).f0)):=hcc10 0 _ rfl;have hx10_1 : w11.cell? ⟨go10,(x4_1 : Int).toNat * 3 + 1,none⟩=some (.int .i64 ((rd_T44 x3_1 x4_1).f1)):=hcc10 1 _ rfl;have hx10_2 : w11.cell? ⟨go10,(x4_1 : Int).toNat * 3 + 2,none⟩=some (.int .i64 ((rd_T44 x3_1 x4_1).f2)):=hcc10 2 _ rfl;have hf10_0 : w11.frozen? ⟨go10,(x4_1 : Int).toNat * 3,none⟩=false:=hfr10 0;have hf10_1 : w11.frozen? ⟨go10,(x4_1 : Int).toNat * 3 + 1,none⟩=false:=hfr10 1;have hf10_2 : w11.frozen? ⟨go10,(x4_1 : Int).toNat * 3 + 2,none⟩=false:=hfr10 2;((try clear hcl10);(try clear hcc10);(try clear hfr10);(try clear hM10));replace p10:=eq_true p10;replace q10:=eq_true q10;have HX12:=amk (show Kd.R k44 44 w11 w.heap.size (fun _=>True) (.slice (some ⟨go10,0,none⟩) x3_1.length co10) x3_1 from (rrr HO_3));obtain ⟨ce12,hcl12,hM12,hcc12,hfr12⟩:=Kd.R_elem HX12.out z44 (x4_1 : Int) (of_decide_eq_true ass) (by have h_ : (x4_1 : Int) < ((x3_1.length : Int) : Int):=of_decide_eq_true ass;first | exact h_ | (have e_:=(Kd.R_reads' HO_3.out).1;omega) | simpa using h_);obtain rfl:=k44_openM hM12;have HP12:=Kd.R_seg HX12.out (x4_1 : Int) (of_decide_eq_true ass) (by have h_ : (x4_1 : Int) < ((x3_1.length : Int) : Int):=of_decide_eq_true ass;first | exact h_ | (have e_:=(Kd.R_reads' HO_3.out).1;omega) | simpa using h_) (seg:=[.int .i64 t497,.int .i64 t498,.int .i64 t499]) (j:=0) hcl12 hcc12 (show 3≤3 from by decide) (x':=(⟨t497,t498,t499⟩ : S44)) (k44_mkM _ _ _ (⟨t497,t498,t499⟩ : S44)) (fun _ hk=>hk);have hx12_0:=hcc12 0 _ rfl;(try simp only [show (k44).sz=3 from rfl,Nat.mul_one,Nat.add_zero] at hx12_0);have hf12_0:=hfr12 0;(try simp only [show (k44).sz=3 from rfl,Nat.mul_one,Nat.add_zero] at hf12_0);have hx12_1:=hcc12 1 _ rfl;(try simp only [show (k44).sz=3 from rfl,Nat.mul_one,Nat.add_zero] at hx12_1);have hf12_1:=hfr12 1;(try simp only [show (k44).sz=3 from rfl,Nat.mul_one,Nat.add_zero] at hf12_1);have hx12_2:=hcc12 2 _ rfl;(try simp only [show (k44).sz=3 from rfl,Nat.mul_one,Nat.add_zero] at hx12_2);have hf12_2:=hfr12 2;(try simp only [show (k44).sz=3 from rfl,Nat.mul_one,Nat.add_zero] at hf12_2);((try clear hcl12);(try clear hcc12);(try clear hfr12);(try clear hM12)))|((with_reducible refine gate_store (t:=44) (p:=21) rfl ?_);refine store_event (t:=44) (p:=21) (v:=?vo_w13) (w1:=(((w11.setCell ⟨go10,(x4_1 : Int).toNat * 3,none⟩ (.int .i64 t497)).setCell ⟨go10,(x4_1 : Int).toNat * 3 + 1,none⟩ (.int .i64 t498)).setCell ⟨go10,(x4_1 : Int).toNat * 3 + 2,none⟩ (.int .i64 t499))) ?hg ?ho ?hn ?hr ?_;(case ho=>rfl);(case hg=>rfl);(case hn=>rfl);(case hr=>first | (go_simp;done)|(go_simp;rfl));intro w13 hw;have hg : w11.grownBy w13 (some go10):=(by rw [hw];exact HP12.2);have hp_ : Kd.R k44 44 w13 w.heap.size (fun _=>True) (.slice (some ⟨go10,0,none⟩) x3_1.length co10) y500:=(by rw [hw,Ny500.out];exact HP12.1);clear HP12;replace HO_3:=amk (hp_);replace HB:=amk ((by rw [hw];exact below_set (below_set (below_set (HB.out) GB10.out) GB10.out) GB10.out : Below w.heap.size w w13));clear hg hw hp_))
        go_roundg k1
        case measure=>have:=HK1.out;omega
        case rel=>exact ⟨(y500),(wrap64 (x4_1 + 1)),rsd,H',⟨by have:=HK1.out;omega⟩,⟨rrr HO_3⟩,⟨bel HB⟩⟩
       ·rw [if_neg c9] at H
        exact absurd H (by simp)
      ·rw [if_neg c7] at H
       exact absurd H (by simp)
     ·rw [if_neg c6] at H
      have c6b0 : decide (x4_1 < (l0.length : Int))=false:=decide_eq_false c6
      clear c6
      obtain rfl:=Option.some.inj H
      go_wp2
      go_ret
      exact ⟨_,erw0,rrr HO_3,bel HB⟩
  ·rw [if_neg c3] at H
   exact absurd H (by simp)
 ·rw [if_neg c2] at H
  exact absurd H (by simp)
def laws_eqSump.f (a0_0 : Int) (a0_1 : Int) (a0_2 : Int) (a1_0 : Int) (a1_1 : Int) (a1_2 : Int) : Option (Bool):=if a0_0=a1_0 then (if a0_1=a1_1 then (if a0_2=a1_2 then (some true) else (some false)) else (some false)) else (some false)
set_option maxHeartbeats 8000000 in
set_option maxRecDepth 100000 in
theorem laws_eqSump.calls (a0_0 : Int) (a0_1 : Int) (a0_2 : Int) (a1_0 : Int) (a1_1 : Int) (a1_2 : Int) (r : Bool) (w : World) (h : laws_eqSump.f a0_0 a0_1 a0_2 a1_0 a1_1 a1_2=some r) :
  Calls Try.prog 77 #[.agg #[.int .i64 a0_0,.int .i64 a0_1,.int .i64 a0_2],.agg #[.int .i64 a1_0,.int .i64 a1_1,.int .i64 a1_2]] w fun e w'=>e = .returned (.bool r)∧Below w.heap.size w w':=by
 have hu44:=Try.underlying44
 have HB:=amk (Below.refl w.heap.size w)
 have H : (if a0_0=a1_0 then (if a0_1=a1_1 then (if a0_2=a1_2 then (some true) else (some false)) else (some false)) else (some false))=some r:=h
 clear h
 by_cases c3 : a0_0=a1_0
 ·rw [if_pos c3] at H
  have c3b0 : (a0_0 == a1_0)=true:=beq_iff_eq.mpr c3
  have c3b1 : (a0_0 != a1_0)=false:=bne_eq_false_iff_eq.mpr c3
  clear c3
  by_cases c4 : a0_1=a1_1
  ·rw [if_pos c4] at H
   have c4b0 : (a0_1 == a1_1)=true:=beq_iff_eq.mpr c4
   have c4b1 : (a0_1 != a1_1)=false:=bne_eq_false_iff_eq.mpr c4
   clear c4
   by_cases c5 : a0_2=a1_2
   ·rw [if_pos c5] at H
    have c5b0 : (a0_2 == a1_2)=true:=beq_iff_eq.mpr c5
    have c5b1 : (a0_2 != a1_2)=false:=bne_eq_false_iff_eq.mpr c5
    clear c5
    obtain rfl:=Option.some.inj H
    go_enter Try.func77,Try.ntmps77
    go_wp2_with (first | ((with_reducible refine gate_dst (N:=2) rfl ?_);refine box_event ?hg (N:=2) ?hd (cs:=#[.int .i64 a0_0,.int .i64 a0_1,.int .i64 a0_2]) (t:=44) ?hr ?_;(case hd=>rfl);(case hg=>rfl);(case hr=>first | (go_simp;done)|(go_simp;rfl));intro gb526 hg w6 hbox hb;have BK526:=amk (hbox);have GW526:=amk ((by rw [hg];exact (below_size (bel HB)) : w.heap.size≤gb526));have GE526:=amk ((by rw [hg];exact (below_size (bel HB)) : w.heap.size≤gb526));replace HB:=amk (below_step (bel HB) hb);clear hb hbox hg)|((with_reducible refine gate_dst (N:=3) rfl ?_);refine box_event ?hg (N:=3) ?hd (cs:=#[.int .i64 a1_0,.int .i64 a1_1,.int .i64 a1_2]) (t:=44) ?hr ?_;(case hd=>rfl);(case hg=>rfl);(case hr=>first | (go_simp;done)|(go_simp;rfl));intro gb527 hg w7 hbox hb;have BK527:=amk (hbox);have GW527:=amk ((by rw [hg];exact (below_size (bel1 HB GE526.out)) : w.heap.size≤gb527));have GE527:=amk ((by rw [hg];exact (below_size (bel1 HB GE526.out)) : w.heap.size≤gb527));replace HB:=amk (below_step (bel1 HB GE526.out) hb);have NB526_527:=amk ((by rw [hg];exact Nat.ne_of_lt (blk_lt (g:=gb526) (o:=.cells #[.int .i64 a0_0,.int .i64 a0_1,.int .i64 a0_2] 44 (0,0)) (bkk BK526)) : gb526 ≠ gb527));have NB527_526:=amk ((by rw [hg];exact Nat.ne_of_gt (blk_lt (g:=gb526) (o:=.cells #[.int .i64 a0_0,.int .i64 a0_1,.int .i64 a0_2] 44 (0,0)) (bkk BK526)) : gb527 ≠ gb526));replace BK526:=amk (blk_below (g:=gb526) (o:=.cells #[.int .i64 a0_0,.int .i64 a0_1,.int .i64 a0_2] 44 (0,0)) (bkk BK526) hb);clear hb hbox hg;have hnb8:=NB526_527.out;have hnc8:=NB527_526.out;have hcz9_0 : w7.cell? ⟨gb526,0,none⟩=some (.int .i64 a0_0):=(blk_cell BK526.out 0).trans rfl;have hcz9_1 : w7.cell? ⟨gb526,1,none⟩=some (.int .i64 a0_1):=(blk_cell BK526.out 1).trans rfl;have hcz9_2 : w7.cell? ⟨gb526,2,none⟩=some (.int .i64 a0_2):=(blk_cell BK526.out 2).trans rfl;have hfz9_0:=blk_frozen BK526.out 0;have hfz9_1:=blk_frozen BK526.out 1;have hfz9_2:=blk_frozen BK526.out 2;have hcz10_0 : w7.cell? ⟨gb527,0,none⟩=some (.int .i64 a1_0):=(blk_cell BK527.out 0).trans rfl;have hcz10_1 : w7.cell? ⟨gb527,1,none⟩=some (.int .i64 a1_1):=(blk_cell BK527.out 1).trans rfl;have hcz10_2 : w7.cell? ⟨gb527,2,none⟩=some (.int .i64 a1_2):=(blk_cell BK527.out 2).trans rfl;have hfz10_0:=blk_frozen BK527.out 0;have hfz10_1:=blk_frozen BK527.out 1;have hfz10_2:=blk_frozen BK527.out 2))
    go_ret
    exact ⟨erw0,bel2 HB GE526.out GE527.out⟩
   ·rw [if_neg c5] at H
    have c5b0 : (a0_2 == a1_2)=false:=beq_eq_false_iff_ne.mpr c5
    have c5b1 : (a0_2 != a1_2)=true:=bne_iff_ne.mpr c5
    obtain rfl:=Option.some.inj H
    go_enter Try.func77,Try.ntmps77
    go_wp2_with (first | ((with_reducible refine gate_dst (N:=2) rfl ?_);refine box_event ?hg (N:=2) ?hd (cs:=#[.int .i64 a0_0,.int .i64 a0_1,.int .i64 a0_2]) (t:=44) ?hr ?_;(case hd=>rfl);(case hg=>rfl);(case hr=>first | (go_simp;done)|(go_simp;rfl));intro gb526 hg w11 hbox hb;have BK526:=amk (hbox);have GW526:=amk ((by rw [hg];exact (below_size (bel HB)) : w.heap.size≤gb526));have GE526:=amk ((by rw [hg];exact (below_size (bel HB)) : w.heap.size≤gb526));replace HB:=amk (below_step (bel HB) hb);clear hb hbox hg)|((with_reducible refine gate_dst (N:=3) rfl ?_);refine box_event ?hg (N:=3) ?hd (cs:=#[.int .i64 a1_0,.int .i64 a1_1,.int .i64 a1_2]) (t:=44) ?hr ?_;(case hd=>rfl);(case hg=>rfl);(case hr=>first | (go_simp;done)|(go_simp;rfl));intro gb527 hg w12 hbox hb;have BK527:=amk (hbox);have GW527:=amk ((by rw [hg];exact (below_size (bel1 HB GE526.out)) : w.heap.size≤gb527));have GE527:=amk ((by rw [hg];exact (below_size (bel1 HB GE526.out)) : w.heap.size≤gb527));replace HB:=amk (below_step (bel1 HB GE526.out) hb);have NB526_527:=amk ((by rw [hg];exact Nat.ne_of_lt (blk_lt (g:=gb526) (o:=.cells #[.int .i64 a0_0,.int .i64 a0_1,.int .i64 a0_2] 44 (0,0)) (bkk BK526)) : gb526 ≠ gb527));have NB527_526:=amk ((by rw [hg];exact Nat.ne_of_gt (blk_lt (g:=gb526) (o:=.cells #[.int .i64 a0_0,.int .i64 a0_1,.int .i64 a0_2] 44 (0,0)) (bkk BK526)) : gb527 ≠ gb526));replace BK526:=amk (blk_below (g:=gb526) (o:=.cells #[.int .i64 a0_0,.int .i64 a0_1,.int .i64 a0_2] 44 (0,0)) (bkk BK526) hb);clear hb hbox hg;have hnb13:=NB526_527.out;have hnc13:=NB527_526.out;have hcz14_0 : w12.cell? ⟨gb526,0,none⟩=some (.int .i64 a0_0):=(blk_cell BK526.out 0).trans rfl;have hcz14_1 : w12.cell? ⟨gb526,1,none⟩=some (.int .i64 a0_1):=(blk_cell BK526.out 1).trans rfl;have hcz14_2 : w12.cell? ⟨gb526,2,none⟩=some (.int .i64 a0_2):=(blk_cell BK526.out 2).trans rfl;have hfz14_0:=blk_frozen BK526.out 0;have hfz14_1:=blk_frozen BK526.out 1;have hfz14_2:=blk_frozen BK526.out 2;have hcz15_0 : w12.cell? ⟨gb527,0,none⟩=some (.int .i64 a1_0):=(blk_cell BK527.out 0).trans rfl;have hcz15_1 : w12.cell? ⟨gb527,1,none⟩=some (.int .i64 a1_1):=(blk_cell BK527.out 1).trans rfl;have hcz15_2 : w12.cell? ⟨gb527,2,none⟩=some (.int .i64 a1_2):=(blk_cell BK527.out 2).trans rfl;have hfz15_0:=blk_frozen BK527.out 0;have hfz15_1:=blk_frozen BK527.out 1;have hfz15_2:=blk_frozen BK527.out 2))
    go_ret
    exact ⟨erw0,bel2 HB GE526.out GE527.out⟩
  ·rw [if_neg c4] at H
   have c4b0 : (a0_1 == a1_1)=false:=beq_eq_false_iff_ne.mpr c4
   have c4b1 : (a0_1 != a1_1)=true:=bne_iff_ne.mpr c4
   obtain rfl:=Option.some.inj H
   go_enter Try.func77,Try.ntmps77
   go_wp2_with (first | ((with_reducible refine gate_dst (N:=2) rfl ?_);refine box_event ?hg (N:=2) ?hd (cs:=#[.int .i64 a0_0,.int .i64 a0_1,.int .i64 a0_2]) (t:=44) ?hr ?_;(case hd=>rfl);(case hg=>rfl);(case hr=>first | (go_simp;done)|(go_simp;rfl));intro gb526 hg w16 hbox hb;have BK526:=amk (hbox);have GW526:=amk ((by rw [hg];exact (below_size (bel HB)) : w.heap.size≤gb526));have GE526:=amk ((by rw [hg];exact (below_size (bel HB)) : w.heap.size≤gb526));replace HB:=amk (below_step (bel HB) hb);clear hb hbox hg)|((with_reducible refine gate_dst (N:=3) rfl ?_);refine box_event ?hg (N:=3) ?hd (cs:=#[.int .i64 a1_0,.int .i64 a1_1,.int .i64 a1_2]) (t:=44) ?hr ?_;(case hd=>rfl);(case hg=>rfl);(case hr=>first | (go_simp;done)|(go_simp;rfl));intro gb527 hg w17 hbox hb;have BK527:=amk (hbox);have GW527:=amk ((by rw [hg];exact (below_size (bel1 HB GE526.out)) : w.heap.size≤gb527));have GE527:=amk ((by rw [hg];exact (below_size (bel1 HB GE526.out)) : w.heap.size≤gb527));replace HB:=amk (below_step (bel1 HB GE526.out) hb);have NB526_527:=amk ((by rw [hg];exact Nat.ne_of_lt (blk_lt (g:=gb526) (o:=.cells #[.int .i64 a0_0,.int .i64 a0_1,.int .i64 a0_2] 44 (0,0)) (bkk BK526)) : gb526 ≠ gb527));have NB527_526:=amk ((by rw [hg];exact Nat.ne_of_gt (blk_lt (g:=gb526) (o:=.cells #[.int .i64 a0_0,.int .i64 a0_1,.int .i64 a0_2] 44 (0,0)) (bkk BK526)) : gb527 ≠ gb526));replace BK526:=amk (blk_below (g:=gb526) (o:=.cells #[.int .i64 a0_0,.int .i64 a0_1,.int .i64 a0_2] 44 (0,0)) (bkk BK526) hb);clear hb hbox hg;have hnb18:=NB526_527.out;have hnc18:=NB527_526.out;have hcz19_0 : w17.cell? ⟨gb526,0,none⟩=some (.int .i64 a0_0):=(blk_cell BK526.out 0).trans rfl;have hcz19_1 : w17.cell? ⟨gb526,1,none⟩=some (.int .i64 a0_1):=(blk_cell BK526.out 1).trans rfl;have hcz19_2 : w17.cell? ⟨gb526,2,none⟩=some (.int .i64 a0_2):=(blk_cell BK526.out 2).trans rfl;have hfz19_0:=blk_frozen BK526.out 0;have hfz19_1:=blk_frozen BK526.out 1;have hfz19_2:=blk_frozen BK526.out 2;have hcz20_0 : w17.cell? ⟨gb527,0,none⟩=some (.int .i64 a1_0):=(blk_cell BK527.out 0).trans rfl;have hcz20_1 : w17.cell? ⟨gb527,1,none⟩=some (.int .i64 a1_1):=(blk_cell BK527.out 1).trans rfl;have hcz20_2 : w17.cell? ⟨gb527,2,none⟩=some (.int .i64 a1_2):=(blk_cell BK527.out 2).trans rfl;have hfz20_0:=blk_frozen BK527.out 0;have hfz20_1:=blk_frozen BK527.out 1;have hfz20_2:=blk_frozen BK527.out 2))
   go_ret
   exact ⟨erw0,bel2 HB GE526.out GE527.out⟩
 ·rw [if_neg c3] at H
  have c3b0 : (a0_0 == a1_0)=false:=beq_eq_false_iff_ne.mpr c3
  have c3b1 : (a0_0 != a1_0)=true:=bne_iff_ne.mpr c3
  obtain rfl:=Option.some.inj H
  go_enter Try.func77,Try.ntmps77
  go_wp2_with (first | ((with_reducible refine gate_dst (N:=2) rfl ?_);refine box_event ?hg (N:=2) ?hd (cs:=#[.int .i64 a0_0,.int .i64 a0_1,.int .i64 a0_2]) (t:=44) ?hr ?_;(case hd=>rfl);(case hg=>rfl);(case hr=>first | (go_simp;done)|(go_simp;rfl));intro gb526 hg w21 hbox hb;have BK526:=amk (hbox);have GW526:=amk ((by rw [hg];exact (below_size (bel HB)) : w.heap.size≤gb526));have GE526:=amk ((by rw [hg];exact (below_size (bel HB)) : w.heap.size≤gb526));replace HB:=amk (below_step (bel HB) hb);clear hb hbox hg)|((with_reducible refine gate_dst (N:=3) rfl ?_);refine box_event ?hg (N:=3) ?hd (cs:=#[.int .i64 a1_0,.int .i64 a1_1,.int .i64 a1_2]) (t:=44) ?hr ?_;(case hd=>rfl);(case hg=>rfl);(case hr=>first | (go_simp;done)|(go_simp;rfl));intro gb527 hg w22 hbox hb;have BK527:=amk (hbox);have GW527:=amk ((by rw [hg];exact (below_size (bel1 HB GE526.out)) : w.heap.size≤gb527));have GE527:=amk ((by rw [hg];exact (below_size (bel1 HB GE526.out)) : w.heap.size≤gb527));replace HB:=amk (below_step (bel1 HB GE526.out) hb);have NB526_527:=amk ((by rw [hg];exact Nat.ne_of_lt (blk_lt (g:=gb526) (o:=.cells #[.int .i64 a0_0,.int .i64 a0_1,.int .i64 a0_2] 44 (0,0)) (bkk BK526)) : gb526 ≠ gb527));have NB527_526:=amk ((by rw [hg];exact Nat.ne_of_gt (blk_lt (g:=gb526) (o:=.cells #[.int .i64 a0_0,.int .i64 a0_1,.int .i64 a0_2] 44 (0,0)) (bkk BK526)) : gb527 ≠ gb526));replace BK526:=amk (blk_below (g:=gb526) (o:=.cells #[.int .i64 a0_0,.int .i64 a0_1,.int .i64 a0_2] 44 (0,0)) (bkk BK526) hb);clear hb hbox hg;have hnb23:=NB526_527.out;have hnc23:=NB527_526.out;have hcz24_0 : w22.cell? ⟨gb526,0,none⟩=some (.int .i64 a0_0):=(blk_cell BK526.out 0).trans rfl;have hcz24_1 : w22.cell? ⟨gb526,1,none⟩=some (.int .i64 a0_1):=(blk_cell BK526.out 1).trans rfl;have hcz24_2 : w22.cell? ⟨gb526,2,none⟩=some (.int .i64 a0_2):=(blk_cell BK526.out 2).trans rfl;have hfz24_0:=blk_frozen BK526.out 0;have hfz24_1:=blk_frozen BK526.out 1;have hfz24_2:=blk_frozen BK526.out 2;have hcz25_0 : w22.cell? ⟨gb527,0,none⟩=some (.int .i64 a1_0):=(blk_cell BK527.out 0).trans rfl;have hcz25_1 : w22.cell? ⟨gb527,1,none⟩=some (.int .i64 a1_1):=(blk_cell BK527.out 1).trans rfl;have hcz25_2 : w22.cell? ⟨gb527,2,none⟩=some (.int .i64 a1_2):=(blk_cell BK527.out 2).trans rfl;have hfz25_0:=blk_frozen BK527.out 0;have hfz25_1:=blk_frozen BK527.out 1;have hfz25_2:=blk_frozen BK527.out 2))
  go_ret
  exact ⟨erw0,bel2 HB GE526.out GE527.out⟩
def laws_eqSumpS.l0 : Nat→List (S44)→List (S44)→Int→Option (Bool)
 | 0,_,_,_=>none
 | k + 1,x0,x1,x5=>if x5 < (x0.length : Int) then (if 0≤x5 then (if x5 < (x1.length : Int) then ((laws_eqSump.f ((rd_T44 x0 x5).f0) ((rd_T44 x0 x5).f1) ((rd_T44 x0 x5).f2) ((rd_T44 x1 x5).f0) ((rd_T44 x1 x5).f1) ((rd_T44 x1 x5).f2)).bind fun t530=>(if t530=true then (laws_eqSumpS.l0 k x0 x1 (wrap64 (x5 + 1))) else (some false))) else (none)) else (none)) else (some true)
def laws_eqSumpS.f (k : Nat) (l0 : List (S44)) (l1 : List (S44)) : Option (Bool):=if (l0.length : Int)=(l1.length : Int) then (laws_eqSumpS.l0 k l0 l1 0) else (some false)
theorem laws_eqSumpS.mono_l : ∀ k,(∀ y0 y1 y2,LeO (laws_eqSumpS.l0 k y0 y1 y2) (laws_eqSumpS.l0 (k + 1) y0 y1 y2))
 | 0=>fun _ _ _ r h=>by simp [laws_eqSumpS.l0] at h
 | k + 1=>by
  have ih0:=laws_eqSumpS.mono_l k
  ·intro y0 y1 y2
   unfold laws_eqSumpS.l0
   repeat' first
   | (with_reducible exact ih0 _ _ _)
   | (with_reducible exact LeO.refl _)
   | (with_reducible exact LeO.none _)
   | (with_reducible refine LeO.ite ?_ ?_)
   | (with_reducible refine LeO.bind ?_ (fun _=>?_))
   | exact ih0 _ _ _
theorem laws_eqSumpS.mono : ∀ a0 a1 k,LeO (laws_eqSumpS.f k a0 a1) (laws_eqSumpS.f (k + 1) a0 a1):=by
 intro a0 a1 k
 have ih0:=laws_eqSumpS.mono_l k
 unfold laws_eqSumpS.f
 repeat' first
   | (with_reducible exact ih0 _ _ _)
   | (with_reducible exact LeO.refl _)
   | (with_reducible exact LeO.none _)
   | (with_reducible refine LeO.ite ?_ ?_)
   | (with_reducible refine LeO.bind ?_ (fun _=>?_))
   | exact ih0 _ _ _
def laws_eqSumpS.T6 : Bool × List (List Nat × List Nat):=(true,[([],[]),([],[]),([0,1],[0,1]),([2],[2]),([],[]),([],[]),([4,5],[4,5]),([6],[6]),([3,7],[3,7]),([8],[8])])
def laws_eqSumpS.B6 : List Nat:=[0,0,3,7,0,0,48,112,255,511]
theorem laws_eqSumpS.tab6 : rtab .any (opsOf Try.f31 6)=laws_eqSumpS.T6:=by kernel_rfl
theorem laws_eqSumpS.bits6 : waitsOk laws_eqSumpS.T6.2 laws_eqSumpS.B6=true:=by kernel_rfl
set_option maxHeartbeats 8000000 in
set_option maxRecDepth 100000 in
theorem laws_eqSumpS.calls (k : Nat) (A0 : Option Addr) (c0 : Nat) (l0 : List (S44)) (A1 : Option Addr) (c1 : Nat) (l1 : List (S44)) (r : Bool) (w : World) (hr0 : Kd.C k44 w A0 l0.length l0) (hc0 : l0.length≤c0) (hr1 : Kd.C k44 w A1 l1.length l1) (hc1 : l1.length≤c1) (h : laws_eqSumpS.f k l0 l1=some r) :
  Calls Try.prog 31 #[.slice A0 l0.length c0,.slice A1 l1.length c1] w fun e w'=>e = .returned (.bool r)∧Below w.heap.size w w':=by
 have hu44:=Try.underlying44
 have HR0:=amk hr0
 have HC0:=amk hc0
 clear hr0 hc0
 have HR1:=amk hr1
 have HC1:=amk hc1
 clear hr1 hc1
 have HB:=amk (Below.refl w.heap.size w)
 have H : (if (l0.length : Int)=(l1.length : Int) then (laws_eqSumpS.l0 k l0 l1 0) else (some false))=some r:=h
 clear h
 by_cases c3 : (l0.length : Int)=(l1.length : Int)
 ·rw [if_pos c3] at H
  have c3b0 : ((l0.length : Int) == (l1.length : Int))=true:=beq_iff_eq.mpr c3
  have c3b1 : ((l0.length : Int) != (l1.length : Int))=false:=bne_eq_false_iff_eq.mpr c3
  have c3b2 : (l0.length == l1.length)=true:=by first | simpa using c3 | (simp at c3 ⊢;omega)
  clear c3
  have H':=amk H
  clear H
  go_enter Try.func31,Try.ntmps31
  go_wp2
  go_loopg [5] k (fun kq v5 w'=>∃ (x5_1 : Int),v5 = .int .i64 x5_1∧Aside0 (laws_eqSumpS.l0 kq l0 l1 x5_1=some r)∧Aside0 (kq≤k)∧Aside0 (Below w.heap.size w w'))
  case atStart=>exact ⟨(0),rsd,H',⟨Nat.le_refl _⟩,⟨bel HB⟩⟩
  case round=>
   clear H'
   try clear c1
   try clear p2
   try clear c3
   try clear c3b0
   try clear c3b1
   try clear c3b2
   obtain ⟨x5_1,rfl,HA,HK1,HB⟩:=hrel
   cases gk with
   | zero=>exact absurd HA.out (by simp [laws_eqSumpS.l0])
   | succ k1=>
    have H:=HA.out
    clear HA
    simp only [laws_eqSumpS.l0] at H
    by_cases c4 : x5_1 < (l0.length : Int)
    ·rw [if_pos c4] at H
     have c4b0 : decide (x5_1 < (l0.length : Int))=true:=decide_eq_true c4
     clear c4
     by_cases c5 : 0≤x5_1
     ·rw [if_pos c5] at H
      have c5b0 : decide (0≤x5_1)=true:=decide_eq_true c5
      clear c5
      by_cases c6 : x5_1 < (l1.length : Int)
      ·rw [if_pos c6] at H
       have c6b0 : decide (x5_1 < (l1.length : Int))=true:=decide_eq_true c6
       clear c6
       replace H:=obs H
       obtain ⟨t530,A70,H⟩:=H
       replace H : (if t530=true then (laws_eqSumpS.l0 k1 l0 l1 (wrap64 (x5_1 + 1))) else (some false))=some r:=H
       have A7:=amk A70
       clear A70
       by_cases c8 : t530=true
       ·subst c8
        have H1 : (laws_eqSumpS.l0 k1 l0 l1 (wrap64 (x5_1 + 1)))=some r:=by rw [if_pos rfl] at H;exact H
        clear H
        have H:=H1
        clear H1
        have H':=amk H
        clear H
        try go_wp2
        have n0_:=amk (below_drew1 HB.out)
        clear HB
        have HB:=n0_
        clear n0_
        have p528 : 0≤(x5_1 : Int):=of_decide_eq_true ass
        have q528 : x5_1 < (l0.length : Int):=of_decide_eq_true ass
        obtain ⟨ad528,e528,hx528_0,hx528_1,hx528_2⟩:=at_T44 HR0.out x5_1 p528 q528
        have hw528_2:=hx528_2
        have hw528_1:=hx528_1
        have hw528_0:=hx528_0
        cases e528
        replace hx528_0:=(HB.out.cell (World.block_lt_of_cell? w _ hx528_0)).trans hx528_0
        replace hx528_1:=(HB.out.cell (World.block_lt_of_cell? w _ hx528_1)).trans hx528_1
        replace hx528_2:=(HB.out.cell (World.block_lt_of_cell? w _ hx528_2)).trans hx528_2
        replace p528:=eq_true p528
        replace q528:=eq_true q528
        have p529 : 0≤(x5_1 : Int):=of_decide_eq_true ass
        have q529 : x5_1 < (l1.length : Int):=of_decide_eq_true ass
        obtain ⟨ad529,e529,hx529_0,hx529_1,hx529_2⟩:=at_T44 HR1.out x5_1 p529 q529
        have hw529_2:=hx529_2
        have hw529_1:=hx529_1
        have hw529_0:=hx529_0
        cases e529
        replace hx529_0:=(HB.out.cell (World.block_lt_of_cell? w _ hx529_0)).trans hx529_0
        replace hx529_1:=(HB.out.cell (World.block_lt_of_cell? w _ hx529_1)).trans hx529_1
        replace hx529_2:=(HB.out.cell (World.block_lt_of_cell? w _ hx529_2)).trans hx529_2
        replace p529:=eq_true p529
        replace q529:=eq_true q529
        refine start_ (n:=10) (S:=fun w'=>w'.cell? (ad528.add ((x5_1).toNat * 3))=some (.int .i64 ((rd_T44 l0 x5_1).f0))∧w'.cell? ⟨(ad528.add ((x5_1).toNat * 3)).block,(ad528.add ((x5_1).toNat * 3)).off + 1,none⟩=some (.int .i64 ((rd_T44 l0 x5_1).f1))∧w'.cell? ⟨(ad528.add ((x5_1).toNat * 3)).block,(ad528.add ((x5_1).toNat * 3)).off + 2,none⟩=some (.int .i64 ((rd_T44 l0 x5_1).f2))∧w'.cell? (ad529.add ((x5_1).toNat * 3))=some (.int .i64 ((rd_T44 l1 x5_1).f0))∧w'.cell? ⟨(ad529.add ((x5_1).toNat * 3)).block,(ad529.add ((x5_1).toNat * 3)).off + 1,none⟩=some (.int .i64 ((rd_T44 l1 x5_1).f1))∧w'.cell? ⟨(ad529.add ((x5_1).toNat * 3)).block,(ad529.add ((x5_1).toNat * 3)).off + 2,none⟩=some (.int .i64 ((rd_T44 l1 x5_1).f2))) (ds:=[]) #[F0,F0,F0,F0,F0,F0,F0,F0,F0,F0] (by kernel_rfl) rfl rfl ⟨((HB.out.cell (World.block_lt_of_cell? w _ hw528_0)).trans hw528_0),((HB.out.cell (World.block_lt_of_cell? w _ hw528_1)).trans hw528_1),((HB.out.cell (World.block_lt_of_cell? w _ hw528_2)).trans hw528_2),((HB.out.cell (World.block_lt_of_cell? w _ hw529_0)).trans hw529_0),((HB.out.cell (World.block_lt_of_cell? w _ hw529_1)).trans hw529_1),((HB.out.cell (World.block_lt_of_cell? w _ hw529_2)).trans hw529_2)⟩ (fun hHeld=>?_);refine with_tabW laws_eqSumpS.tab6 laws_eqSumpS.bits6 (fun HT_ HW_=>?_)
        generalize wr.drew=w9 at HB hx528_0 hx528_1 hx528_2 hx529_0 hx529_1 hx529_2 hHeld ⊢
        refine pure_ (i:=0) (N:=some 17) (v:=?_) (a':=?_) #[T0,F0,F0,F0,F0,F0,F0,F0,F0,F0] rfl rfl (any_of HT_.out (by kernel_rfl)) (fun _ _ _ h=>h) (Or.inl ⟨by rfl,?_⟩) ?_ ?_
        rotate_left
        ·intro w'
         go_simp
         with_reducible rfl
        rotate_left
        ·simp only [Act.put,sI,sZ,sS,i64_w,i32_w]
         rfl
        refine pure_ (i:=1) (N:=some 18) (v:=?_) (a':=?_) #[T0,T0,F0,F0,F0,F0,F0,F0,F0,F0] rfl rfl (any_of HT_.out (by kernel_rfl)) (fun _ _ _ h=>h) (Or.inl ⟨by rfl,?_⟩) ?_ ?_
        rotate_left
        ·intro w'
         go_simp
         with_reducible rfl
        rotate_left
        ·simp only [Act.put,sI,sZ,sS,i64_w,i32_w]
         rfl
        refine pure_ (i:=2) (N:=some 19) (v:=?_) (a':=?_) #[T0,T0,T0,F0,F0,F0,F0,F0,F0,F0] rfl rfl (any_of HT_.out (by kernel_rfl)) (fun _ _ _ h=>h) (Or.inl ⟨by rfl,?_⟩) ?_ ?_
        rotate_left
        ·intro w'
         go_simp
         with_reducible rfl
        rotate_left
        ·simp only [Act.put,sI,sZ,sS,i64_w,i32_w]
         rfl
        refine pure_ (i:=4) (N:=some 21) (v:=?_) (a':=?_) #[T0,T0,T0,F0,T0,F0,F0,F0,F0,F0] rfl rfl (any_of HT_.out (by kernel_rfl)) (fun _ _ _ h=>h) (Or.inl ⟨by rfl,?_⟩) ?_ ?_
        rotate_left
        ·intro w'
         go_simp
         with_reducible rfl
        rotate_left
        ·simp only [Act.put,sI,sZ,sS,i64_w,i32_w]
         rfl
        refine pure_ (i:=5) (N:=some 22) (v:=?_) (a':=?_) #[T0,T0,T0,F0,T0,T0,F0,F0,F0,F0] rfl rfl (any_of HT_.out (by kernel_rfl)) (fun _ _ _ h=>h) (Or.inl ⟨by rfl,?_⟩) ?_ ?_
        rotate_left
        ·intro w'
         go_simp
         with_reducible rfl
        rotate_left
        ·simp only [Act.put,sI,sZ,sS,i64_w,i32_w]
         rfl
        refine pure_ (i:=6) (N:=some 23) (v:=?_) (a':=?_) #[T0,T0,T0,F0,T0,T0,T0,F0,F0,F0] rfl rfl (any_of HT_.out (by kernel_rfl)) (fun _ _ _ h=>h) (Or.inl ⟨by rfl,?_⟩) ?_ ?_
        rotate_left
        ·intro w'
         go_simp
         with_reducible rfl
        rotate_left
        ·simp only [Act.put,sI,sZ,sS,i64_w,i32_w]
         rfl
        refine take_ (i:=3) (N:=some 20) (v:=?_) (a':=?_) #[T0,T0,T0,T0,T0,T0,T0,F0,F0,F0] rfl rfl (take_ofW HT_.out HW_.out (by kernel_rfl)) (fun _ _ _ h=>h) (Or.inl ⟨by rfl,?_⟩) hHeld ?_ ?_
        rotate_left
        ·rintro w' ⟨s0,s1,s2,s3,s4,s5⟩
         go_simp
         with_reducible rfl
        rotate_left
        ·simp only [Act.put,sI,sZ,sS,i64_w,i32_w]
         rfl
        refine take_ (i:=7) (N:=some 24) (v:=?_) (a':=?_) #[T0,T0,T0,T0,T0,T0,T0,T0,F0,F0] rfl rfl (take_ofW HT_.out HW_.out (by kernel_rfl)) (fun _ _ _ h=>h) (Or.inl ⟨by rfl,?_⟩) hHeld ?_ ?_
        rotate_left
        ·rintro w' ⟨s0,s1,s2,s3,s4,s5⟩
         go_simp
         with_reducible rfl
        rotate_left
        ·simp only [Act.put,sI,sZ,sS,i64_w,i32_w]
         rfl
        refine one_ (i:=8) (N:=some 25) #[T0,T0,T0,T0,T0,T0,T0,T0,T0,F0] rfl rfl (one_of HT_.out (by kernel_rfl)) (by decide) (fun K hK=>?_)
        refine goes_ Try.func77 (by kernel_rfl) rfl #[.agg #[.int .i64 ((rd_T44 l0 x5_1).f0),.int .i64 ((rd_T44 l0 x5_1).f1),.int .i64 ((rd_T44 l0 x5_1).f2)],.agg #[.int .i64 ((rd_T44 l1 x5_1).f0),.int .i64 ((rd_T44 l1 x5_1).f1),.int .i64 ((rd_T44 l1 x5_1).f2)]] (by rfl) rfl rfl mtt ?_
        with_reducible refine (laws_eqSump.calls ((rd_T44 l0 x5_1).f0) ((rd_T44 l0 x5_1).f1) ((rd_T44 l0 x5_1).f2) ((rd_T44 l1 x5_1).f0) ((rd_T44 l1 x5_1).f1) ((rd_T44 l1 x5_1).f2) true _ A7.out).mono ?_
        rintro e w10 ⟨rfl,hb⟩
        refine ⟨_,rfl,?_⟩
        have n0_:=amk (below_step (bel HB) hb)
        clear HB
        have HB:=n0_
        clear n0_
        (try clear hb)
        (try clear hb2)
        (try clear hk)
        (try clear hi)
        refine hK.out _ _ ⟨((HB.out.cell (World.block_lt_of_cell? w _ hw528_0)).trans hw528_0),((HB.out.cell (World.block_lt_of_cell? w _ hw528_1)).trans hw528_1),((HB.out.cell (World.block_lt_of_cell? w _ hw528_2)).trans hw528_2),((HB.out.cell (World.block_lt_of_cell? w _ hw529_0)).trans hw529_0),((HB.out.cell (World.block_lt_of_cell? w _ hw529_1)).trans hw529_1),((HB.out.cell (World.block_lt_of_cell? w _ hw529_2)).trans hw529_2)⟩ (fun hHeld=>?_)
        clear hK K
        refine norm_ (a':=?_) ?_ ?_
        rotate_left
        ·show Act.put _ (some 25) _=_
         simp only [Act.put,sI,sZ,sS,i64_w,i32_w]
         rfl
        refine pure_ (i:=9) (N:=some 26) (v:=?_) (a':=?_) #[T0,T0,T0,T0,T0,T0,T0,T0,T0,T0] rfl rfl (any_of HT_.out (by kernel_rfl)) (fun _ _ _ h=>h) (Or.inl ⟨by rfl,?_⟩) ?_ ?_
        rotate_left
        ·intro w'
         go_simp
         with_reducible rfl
        rotate_left
        ·simp only [Act.put,sI,sZ,sS,i64_w,i32_w]
         rfl
        refine done_ (done_of HT_.out (by kernel_rfl)) ?_
        try go_wp2
        go_roundg k1
        case measure=>have:=HK1.out;omega
        case rel=>exact ⟨(wrap64 (x5_1 + 1)),rsd,H',⟨by have:=HK1.out;omega⟩,⟨bel HB⟩⟩
       ·replace c8:=Bool.eq_false_iff.mpr c8
        subst c8
        have H1 : (some false)=some r:=by rw [if_neg (show ¬ (false=true) by decide)] at H;exact H
        clear H
        have H:=H1
        clear H1
        obtain rfl:=Option.some.inj H
        try go_wp2
        have n0_:=amk (below_drew1 HB.out)
        clear HB
        have HB:=n0_
        clear n0_
        have p528 : 0≤(x5_1 : Int):=of_decide_eq_true ass
        have q528 : x5_1 < (l0.length : Int):=of_decide_eq_true ass
        obtain ⟨ad528,e528,hx528_0,hx528_1,hx528_2⟩:=at_T44 HR0.out x5_1 p528 q528
        have hw528_2:=hx528_2
        have hw528_1:=hx528_1
        have hw528_0:=hx528_0
        cases e528
        replace hx528_0:=(HB.out.cell (World.block_lt_of_cell? w _ hx528_0)).trans hx528_0
        replace hx528_1:=(HB.out.cell (World.block_lt_of_cell? w _ hx528_1)).trans hx528_1
        replace hx528_2:=(HB.out.cell (World.block_lt_of_cell? w _ hx528_2)).trans hx528_2
        replace p528:=eq_true p528
        replace q528:=eq_true q528
        have p529 : 0≤(x5_1 : Int):=of_decide_eq_true ass
        have q529 : x5_1 < (l1.length : Int):=of_decide_eq_true ass
        obtain ⟨ad529,e529,hx529_0,hx529_1,hx529_2⟩:=at_T44 HR1.out x5_1 p529 q529
        have hw529_2:=hx529_2
        have hw529_1:=hx529_1
        have hw529_0:=hx529_0
        cases e529
        replace hx529_0:=(HB.out.cell (World.block_lt_of_cell? w _ hx529_0)).trans hx529_0
        replace hx529_1:=(HB.out.cell (World.block_lt_of_cell? w _ hx529_1)).trans hx529_1
        replace hx529_2:=(HB.out.cell (World.block_lt_of_cell? w _ hx529_2)).trans hx529_2
        replace p529:=eq_true p529
        replace q529:=eq_true q529
        refine start_ (n:=10) (S:=fun w'=>w'.cell? (ad528.add ((x5_1).toNat * 3))=some (.int .i64 ((rd_T44 l0 x5_1).f0))∧w'.cell? ⟨(ad528.add ((x5_1).toNat * 3)).block,(ad528.add ((x5_1).toNat * 3)).off + 1,none⟩=some (.int .i64 ((rd_T44 l0 x5_1).f1))∧w'.cell? ⟨(ad528.add ((x5_1).toNat * 3)).block,(ad528.add ((x5_1).toNat * 3)).off + 2,none⟩=some (.int .i64 ((rd_T44 l0 x5_1).f2))∧w'.cell? (ad529.add ((x5_1).toNat * 3))=some (.int .i64 ((rd_T44 l1 x5_1).f0))∧w'.cell? ⟨(ad529.add ((x5_1).toNat * 3)).block,(ad529.add ((x5_1).toNat * 3)).off + 1,none⟩=some (.int .i64 ((rd_T44 l1 x5_1).f1))∧w'.cell? ⟨(ad529.add ((x5_1).toNat * 3)).block,(ad529.add ((x5_1).toNat * 3)).off + 2,none⟩=some (.int .i64 ((rd_T44 l1 x5_1).f2))) (ds:=[]) #[F0,F0,F0,F0,F0,F0,F0,F0,F0,F0] (by kernel_rfl) rfl rfl ⟨((HB.out.cell (World.block_lt_of_cell? w _ hw528_0)).trans hw528_0),((HB.out.cell (World.block_lt_of_cell? w _ hw528_1)).trans hw528_1),((HB.out.cell (World.block_lt_of_cell? w _ hw528_2)).trans hw528_2),((HB.out.cell (World.block_lt_of_cell? w _ hw529_0)).trans hw529_0),((HB.out.cell (World.block_lt_of_cell? w _ hw529_1)).trans hw529_1),((HB.out.cell (World.block_lt_of_cell? w _ hw529_2)).trans hw529_2)⟩ (fun hHeld=>?_);refine with_tabW laws_eqSumpS.tab6 laws_eqSumpS.bits6 (fun HT_ HW_=>?_)
        generalize wr.drew=w11 at HB hx528_0 hx528_1 hx528_2 hx529_0 hx529_1 hx529_2 hHeld ⊢
        refine pure_ (i:=0) (N:=some 17) (v:=?_) (a':=?_) #[T0,F0,F0,F0,F0,F0,F0,F0,F0,F0] rfl rfl (any_of HT_.out (by kernel_rfl)) (fun _ _ _ h=>h) (Or.inl ⟨by rfl,?_⟩) ?_ ?_
        rotate_left
        ·intro w'
         go_simp
         with_reducible rfl
        rotate_left
        ·simp only [Act.put,sI,sZ,sS,i64_w,i32_w]
         rfl
        refine pure_ (i:=1) (N:=some 18) (v:=?_) (a':=?_) #[T0,T0,F0,F0,F0,F0,F0,F0,F0,F0] rfl rfl (any_of HT_.out (by kernel_rfl)) (fun _ _ _ h=>h) (Or.inl ⟨by rfl,?_⟩) ?_ ?_
        rotate_left
        ·intro w'
         go_simp
         with_reducible rfl
        rotate_left
        ·simp only [Act.put,sI,sZ,sS,i64_w,i32_w]
         rfl
        refine pure_ (i:=2) (N:=some 19) (v:=?_) (a':=?_) #[T0,T0,T0,F0,F0,F0,F0,F0,F0,F0] rfl rfl (any_of HT_.out (by kernel_rfl)) (fun _ _ _ h=>h) (Or.inl ⟨by rfl,?_⟩) ?_ ?_
        rotate_left
        ·intro w'
         go_simp
         with_reducible rfl
        rotate_left
        ·simp only [Act.put,sI,sZ,sS,i64_w,i32_w]
         rfl
        refine pure_ (i:=4) (N:=some 21) (v:=?_) (a':=?_) #[T0,T0,T0,F0,T0,F0,F0,F0,F0,F0] rfl rfl (any_of HT_.out (by kernel_rfl)) (fun _ _ _ h=>h) (Or.inl ⟨by rfl,?_⟩) ?_ ?_
        rotate_left
        ·intro w'
         go_simp
         with_reducible rfl
        rotate_left
        ·simp only [Act.put,sI,sZ,sS,i64_w,i32_w]
         rfl
        refine pure_ (i:=5) (N:=some 22) (v:=?_) (a':=?_) #[T0,T0,T0,F0,T0,T0,F0,F0,F0,F0] rfl rfl (any_of HT_.out (by kernel_rfl)) (fun _ _ _ h=>h) (Or.inl ⟨by rfl,?_⟩) ?_ ?_
        rotate_left
        ·intro w'
         go_simp
         with_reducible rfl
        rotate_left
        ·simp only [Act.put,sI,sZ,sS,i64_w,i32_w]
         rfl
        refine pure_ (i:=6) (N:=some 23) (v:=?_) (a':=?_) #[T0,T0,T0,F0,T0,T0,T0,F0,F0,F0] rfl rfl (any_of HT_.out (by kernel_rfl)) (fun _ _ _ h=>h) (Or.inl ⟨by rfl,?_⟩) ?_ ?_
        rotate_left
        ·intro w'
         go_simp
         with_reducible rfl
        rotate_left
        ·simp only [Act.put,sI,sZ,sS,i64_w,i32_w]
         rfl
        refine take_ (i:=3) (N:=some 20) (v:=?_) (a':=?_) #[T0,T0,T0,T0,T0,T0,T0,F0,F0,F0] rfl rfl (take_ofW HT_.out HW_.out (by kernel_rfl)) (fun _ _ _ h=>h) (Or.inl ⟨by rfl,?_⟩) hHeld ?_ ?_
        rotate_left
        ·rintro w' ⟨s0,s1,s2,s3,s4,s5⟩
         go_simp
         with_reducible rfl
        rotate_left
        ·simp only [Act.put,sI,sZ,sS,i64_w,i32_w]
         rfl
        refine take_ (i:=7) (N:=some 24) (v:=?_) (a':=?_) #[T0,T0,T0,T0,T0,T0,T0,T0,F0,F0] rfl rfl (take_ofW HT_.out HW_.out (by kernel_rfl)) (fun _ _ _ h=>h) (Or.inl ⟨by rfl,?_⟩) hHeld ?_ ?_
        rotate_left
        ·rintro w' ⟨s0,s1,s2,s3,s4,s5⟩
         go_simp
         with_reducible rfl
        rotate_left
        ·simp only [Act.put,sI,sZ,sS,i64_w,i32_w]
         rfl
        refine one_ (i:=8) (N:=some 25) #[T0,T0,T0,T0,T0,T0,T0,T0,T0,F0] rfl rfl (one_of HT_.out (by kernel_rfl)) (by decide) (fun K hK=>?_)
        refine goes_ Try.func77 (by kernel_rfl) rfl #[.agg #[.int .i64 ((rd_T44 l0 x5_1).f0),.int .i64 ((rd_T44 l0 x5_1).f1),.int .i64 ((rd_T44 l0 x5_1).f2)],.agg #[.int .i64 ((rd_T44 l1 x5_1).f0),.int .i64 ((rd_T44 l1 x5_1).f1),.int .i64 ((rd_T44 l1 x5_1).f2)]] (by rfl) rfl rfl mtt ?_
        with_reducible refine (laws_eqSump.calls ((rd_T44 l0 x5_1).f0) ((rd_T44 l0 x5_1).f1) ((rd_T44 l0 x5_1).f2) ((rd_T44 l1 x5_1).f0) ((rd_T44 l1 x5_1).f1) ((rd_T44 l1 x5_1).f2) false _ A7.out).mono ?_
        rintro e w12 ⟨rfl,hb⟩
        refine ⟨_,rfl,?_⟩
        have n0_:=amk (below_step (bel HB) hb)
        clear HB
        have HB:=n0_
        clear n0_
        (try clear hb)
        (try clear hb2)
        (try clear hk)
        (try clear hi)
        refine hK.out _ _ ⟨((HB.out.cell (World.block_lt_of_cell? w _ hw528_0)).trans hw528_0),((HB.out.cell (World.block_lt_of_cell? w _ hw528_1)).trans hw528_1),((HB.out.cell (World.block_lt_of_cell? w _ hw528_2)).trans hw528_2),((HB.out.cell (World.block_lt_of_cell? w _ hw529_0)).trans hw529_0),((HB.out.cell (World.block_lt_of_cell? w _ hw529_1)).trans hw529_1),((HB.out.cell (World.block_lt_of_cell? w _ hw529_2)).trans hw529_2)⟩ (fun hHeld=>?_)
        clear hK K
        refine norm_ (a':=?_) ?_ ?_
        rotate_left
        ·show Act.put _ (some 25) _=_
         simp only [Act.put,sI,sZ,sS,i64_w,i32_w]
         rfl
        refine pure_ (i:=9) (N:=some 26) (v:=?_) (a':=?_) #[T0,T0,T0,T0,T0,T0,T0,T0,T0,T0] rfl rfl (any_of HT_.out (by kernel_rfl)) (fun _ _ _ h=>h) (Or.inl ⟨by rfl,?_⟩) ?_ ?_
        rotate_left
        ·intro w'
         go_simp
         with_reducible rfl
        rotate_left
        ·simp only [Act.put,sI,sZ,sS,i64_w,i32_w]
         rfl
        refine done_ (done_of HT_.out (by kernel_rfl)) ?_
        try go_wp2
        go_ret
        exact ⟨erw0,bel HB⟩
      ·rw [if_neg c6] at H
       exact absurd H (by simp)
     ·rw [if_neg c5] at H
      exact absurd H (by simp)
    ·rw [if_neg c4] at H
     have c4b0 : decide (x5_1 < (l0.length : Int))=false:=decide_eq_false c4
     clear c4
     obtain rfl:=Option.some.inj H
     go_wp2
     go_ret
     exact ⟨erw0,bel HB⟩
 ·rw [if_neg c3] at H
  have c3b0 : ((l0.length : Int) == (l1.length : Int))=false:=beq_eq_false_iff_ne.mpr c3
  have c3b1 : ((l0.length : Int) != (l1.length : Int))=true:=bne_iff_ne.mpr c3
  have c3b2 : (l0.length == l1.length)=false:=by first | simpa using c3 | (simp at c3 ⊢;omega)
  obtain rfl:=Option.some.inj H
  go_enter Try.func31,Try.ntmps31
  go_wp2
  go_ret
  exact ⟨erw0,bel HB⟩
def laws_FnExactOpenFor.j0 : Nat→List (S93)→List (S38)→List (S30)→List (S44)→Bool→Option (Bool)
 | 0,_,_,_,_,_=>none
 | k + 1,x0,x1,x10,x11,x51=>if x51=true then (some false) else ((laws_toReadingS.f k x0).bind fun t549=>((laws_eqReadingS.f k x10 t549).bind fun t552=>(if t552=true then ((laws_toSumpS.f k x1).bind fun t553=>((laws_eqSumpS.f k x11 t553).bind fun t556=>(if t556=true then (some true) else (some false)))) else (some false))))
def laws_FnExactOpenFor.f (k : Nat) (l0 : List (S93)) (l1 : List (S38)) (a2 : Int) : Option (Bool):=(laws_szReadingS.f l0 1048576).bind fun t531=>(if t531 < 0 then (some true) else ((laws_szSumpS.f l1 t531).bind fun t532=>(if t532 < 0 then (some true) else ((laws_toReadingS.f k l0).bind fun t533=>((laws_toSumpS.f k l1).bind fun t536=>((spec_OpenFor.f k t533 t536 a2).bind fun bt539=>((laws_toReadingS.f k l0).bind fun t541=>((laws_toSumpS.f k l1).bind fun t544=>((impl_OpenFor.f k t541 t544 a2).bind fun bt547=>(if bt547.1=bt539.1 then (laws_FnExactOpenFor.j0 k l0 l1 t541 t544 (bt547.2 != bt539.2)) else (laws_FnExactOpenFor.j0 k l0 l1 t541 t544 true)))))))))))
theorem laws_FnExactOpenFor.mono_l : ∀ k,(∀ y0 y1 y2 y3 y4,LeO (laws_FnExactOpenFor.j0 k y0 y1 y2 y3 y4) (laws_FnExactOpenFor.j0 (k + 1) y0 y1 y2 y3 y4))
 | 0=>fun _ _ _ _ _ r h=>by simp [laws_FnExactOpenFor.j0] at h
 | k + 1=>by
  have ih0:=laws_FnExactOpenFor.mono_l k
  ·intro y0 y1 y2 y3 y4
   unfold laws_FnExactOpenFor.j0
   repeat' first
   | (with_reducible exact ih0 _ _ _ _ _)
   | (with_reducible exact impl_OpenFor.mono _ _ _ _)
   | (with_reducible exact laws_eqReadingS.mono _ _ _)
   | (with_reducible exact laws_eqSumpS.mono _ _ _)
   | (with_reducible exact laws_toReadingS.mono _ _)
   | (with_reducible exact laws_toSumpS.mono _ _)
   | (with_reducible exact spec_OpenFor.mono _ _ _ _)
   | (with_reducible exact LeO.refl _)
   | (with_reducible exact LeO.none _)
   | (with_reducible refine LeO.ite ?_ ?_)
   | (with_reducible refine LeO.bind ?_ (fun _=>?_))
   | exact ih0 _ _ _ _ _
theorem laws_FnExactOpenFor.mono : ∀ a0 a1 a2 k,LeO (laws_FnExactOpenFor.f k a0 a1 a2) (laws_FnExactOpenFor.f (k + 1) a0 a1 a2):=by
 intro a0 a1 a2 k
 have ih0:=laws_FnExactOpenFor.mono_l k
 unfold laws_FnExactOpenFor.f
 repeat' first
   | (with_reducible exact ih0 _ _ _ _ _)
   | (with_reducible exact impl_OpenFor.mono _ _ _ _)
   | (with_reducible exact laws_eqReadingS.mono _ _ _)
   | (with_reducible exact laws_eqSumpS.mono _ _ _)
   | (with_reducible exact laws_toReadingS.mono _ _)
   | (with_reducible exact laws_toSumpS.mono _ _)
   | (with_reducible exact spec_OpenFor.mono _ _ _ _)
   | (with_reducible exact LeO.refl _)
   | (with_reducible exact LeO.none _)
   | (with_reducible refine LeO.ite ?_ ?_)
   | (with_reducible refine LeO.bind ?_ (fun _=>?_))
   | exact ih0 _ _ _ _ _
set_option maxHeartbeats 8000000 in
set_option maxRecDepth 100000 in
theorem laws_FnExactOpenFor.calls (k : Nat) (A0 : Option Addr) (c0 : Nat) (l0 : List (S93)) (A1 : Option Addr) (c1 : Nat) (l1 : List (S38)) (a2 : Int) (r : Bool) (w : World) (hr0 : Kd.C k93 w A0 l0.length l0) (hc0 : l0.length≤c0) (hr1 : Kd.C k38 w A1 l1.length l1) (hc1 : l1.length≤c1) (h : laws_FnExactOpenFor.f k l0 l1 a2=some r) :
  Calls Try.prog 5 #[.slice A0 l0.length c0,.slice A1 l1.length c1,.int .i64 a2] w fun e w'=>e = .returned (.bool r)∧Below w.heap.size w w':=by
 have HR0:=amk hr0
 have HC0:=amk hc0
 clear hr0 hc0
 have HR1:=amk hr1
 have HC1:=amk hc1
 clear hr1 hc1
 have HB:=amk (Below.refl w.heap.size w)
 have H : ((laws_szReadingS.f l0 1048576).bind fun t531=>(if t531 < 0 then (some true) else ((laws_szSumpS.f l1 t531).bind fun t532=>(if t532 < 0 then (some true) else ((laws_toReadingS.f k l0).bind fun t533=>((laws_toSumpS.f k l1).bind fun t536=>((spec_OpenFor.f k t533 t536 a2).bind fun bt539=>((laws_toReadingS.f k l0).bind fun t541=>((laws_toSumpS.f k l1).bind fun t544=>((impl_OpenFor.f k t541 t544 a2).bind fun bt547=>(if bt547.1=bt539.1 then (laws_FnExactOpenFor.j0 k l0 l1 t541 t544 (bt547.2 != bt539.2)) else (laws_FnExactOpenFor.j0 k l0 l1 t541 t544 true))))))))))))=some r:=h
 clear h
 replace H:=obs H
 obtain ⟨t531,A40,H⟩:=H
 replace H : (if t531 < 0 then (some true) else ((laws_szSumpS.f l1 t531).bind fun t532=>(if t532 < 0 then (some true) else ((laws_toReadingS.f k l0).bind fun t533=>((laws_toSumpS.f k l1).bind fun t536=>((spec_OpenFor.f k t533 t536 a2).bind fun bt539=>((laws_toReadingS.f k l0).bind fun t541=>((laws_toSumpS.f k l1).bind fun t544=>((impl_OpenFor.f k t541 t544 a2).bind fun bt547=>(if bt547.1=bt539.1 then (laws_FnExactOpenFor.j0 k l0 l1 t541 t544 (bt547.2 != bt539.2)) else (laws_FnExactOpenFor.j0 k l0 l1 t541 t544 true)))))))))))=some r:=H
 have A4:=amk A40
 clear A40
 by_cases c5 : t531 < 0
 ·rw [if_pos c5] at H
  have c5b0 : decide (t531 < 0)=true:=decide_eq_true c5
  clear c5
  obtain rfl:=Option.some.inj H
  go_enter Try.func5,Try.ntmps5
  go_wp2_with (first | ((with_reducible refine gate_callee (f:=17) rfl ?_);refine goesL_ (some 16) rfl rfl Try.func17 (by kernel_rfl) rfl #[.slice A0 l0.length c0,.int .i64 1048576] rfl mtt ?_;(with_reducible refine (laws_szReadingS.calls _ _ l0 1048576 t531 _ ?side1 ?side2 A4.out).mono ?_);(case side1=>exact ccc HR0.out);(case side2=>exact HC0.out);rintro e w' ⟨rfl,⟨nd,rfl⟩⟩;refine ⟨_,rfl,?_⟩))
  go_ret
  exact ⟨erw0,bel HB⟩
 ·rw [if_neg c5] at H
  have c5b0 : decide (t531 < 0)=false:=decide_eq_false c5
  clear c5
  replace H:=obs H
  obtain ⟨t532,A60,H⟩:=H
  replace H : (if t532 < 0 then (some true) else ((laws_toReadingS.f k l0).bind fun t533=>((laws_toSumpS.f k l1).bind fun t536=>((spec_OpenFor.f k t533 t536 a2).bind fun bt539=>((laws_toReadingS.f k l0).bind fun t541=>((laws_toSumpS.f k l1).bind fun t544=>((impl_OpenFor.f k t541 t544 a2).bind fun bt547=>(if bt547.1=bt539.1 then (laws_FnExactOpenFor.j0 k l0 l1 t541 t544 (bt547.2 != bt539.2)) else (laws_FnExactOpenFor.j0 k l0 l1 t541 t544 true)))))))))=some r:=H
  have A6:=amk A60
  clear A60
  by_cases c7 : t532 < 0
  ·rw [if_pos c7] at H
   have c7b0 : decide (t532 < 0)=true:=decide_eq_true c7
   clear c7
   obtain rfl:=Option.some.inj H
   go_enter Try.func5,Try.ntmps5
   go_wp2_with (first | ((with_reducible refine gate_callee (f:=17) rfl ?_);refine goesL_ (some 16) rfl rfl Try.func17 (by kernel_rfl) rfl #[.slice A0 l0.length c0,.int .i64 1048576] rfl mtt ?_;(with_reducible refine (laws_szReadingS.calls _ _ l0 1048576 t531 _ ?side1 ?side2 A4.out).mono ?_);(case side1=>exact ccc HR0.out);(case side2=>exact HC0.out);rintro e w' ⟨rfl,⟨nd,rfl⟩⟩;refine ⟨_,rfl,?_⟩)|((with_reducible refine gate_callee (f:=27) rfl ?_);refine goesL_ (some 21) rfl rfl Try.func27 (by kernel_rfl) rfl #[.slice A1 l1.length c1,.int .i64 t531] rfl mtt ?_;(with_reducible refine (laws_szSumpS.calls _ _ l1 t531 t532 _ ?side1 ?side2 A6.out).mono ?_);(case side1=>exact ccc HR1.out);(case side2=>exact HC1.out);rintro e w' ⟨rfl,⟨nd,rfl⟩⟩;refine ⟨_,rfl,?_⟩))
   go_ret
   exact ⟨erw0,bel HB⟩
  ·rw [if_neg c7] at H
   have c7b0 : decide (t532 < 0)=false:=decide_eq_false c7
   clear c7
   replace H:=obs H
   obtain ⟨t533,A80,H⟩:=H
   replace H : ((laws_toSumpS.f k l1).bind fun t536=>((spec_OpenFor.f k t533 t536 a2).bind fun bt539=>((laws_toReadingS.f k l0).bind fun t541=>((laws_toSumpS.f k l1).bind fun t544=>((impl_OpenFor.f k t541 t544 a2).bind fun bt547=>(if bt547.1=bt539.1 then (laws_FnExactOpenFor.j0 k l0 l1 t541 t544 (bt547.2 != bt539.2)) else (laws_FnExactOpenFor.j0 k l0 l1 t541 t544 true)))))))=some r:=H
   have A8:=amk A80
   clear A80
   replace H:=obs H
   obtain ⟨t536,A90,H⟩:=H
   replace H : ((spec_OpenFor.f k t533 t536 a2).bind fun bt539=>((laws_toReadingS.f k l0).bind fun t541=>((laws_toSumpS.f k l1).bind fun t544=>((impl_OpenFor.f k t541 t544 a2).bind fun bt547=>(if bt547.1=bt539.1 then (laws_FnExactOpenFor.j0 k l0 l1 t541 t544 (bt547.2 != bt539.2)) else (laws_FnExactOpenFor.j0 k l0 l1 t541 t544 true))))))=some r:=H
   have A9:=amk A90
   clear A90
   replace H:=obs H
   obtain ⟨⟨t539,t540⟩,A100,H⟩:=H
   replace H : ((laws_toReadingS.f k l0).bind fun t541=>((laws_toSumpS.f k l1).bind fun t544=>((impl_OpenFor.f k t541 t544 a2).bind fun bt547=>(if bt547.1=t539 then (laws_FnExactOpenFor.j0 k l0 l1 t541 t544 (bt547.2 != t540)) else (laws_FnExactOpenFor.j0 k l0 l1 t541 t544 true)))))=some r:=H
   have A10:=amk A100
   clear A100
   replace H:=obs H
   obtain ⟨t541,A110,H⟩:=H
   replace H : ((laws_toSumpS.f k l1).bind fun t544=>((impl_OpenFor.f k t541 t544 a2).bind fun bt547=>(if bt547.1=t539 then (laws_FnExactOpenFor.j0 k l0 l1 t541 t544 (bt547.2 != t540)) else (laws_FnExactOpenFor.j0 k l0 l1 t541 t544 true))))=some r:=H
   have A11:=amk A110
   clear A110
   replace H:=obs H
   obtain ⟨t544,A120,H⟩:=H
   replace H : ((impl_OpenFor.f k t541 t544 a2).bind fun bt547=>(if bt547.1=t539 then (laws_FnExactOpenFor.j0 k l0 l1 t541 t544 (bt547.2 != t540)) else (laws_FnExactOpenFor.j0 k l0 l1 t541 t544 true)))=some r:=H
   have A12:=amk A120
   clear A120
   replace H:=obs H
   obtain ⟨⟨t547,t548⟩,A130,H⟩:=H
   replace H : (if t547=t539 then (laws_FnExactOpenFor.j0 k l0 l1 t541 t544 (t548 != t540)) else (laws_FnExactOpenFor.j0 k l0 l1 t541 t544 true))=some r:=H
   have A13:=amk A130
   clear A130
   have HC14:=amk H
   clear H
   go_enter Try.func5,Try.ntmps5
   go_upto_region 12 with (first | ((with_reducible refine gate_callee (f:=17) rfl ?_);refine goesL_ (some 16) rfl rfl Try.func17 (by kernel_rfl) rfl #[.slice A0 l0.length c0,.int .i64 1048576] rfl mtt ?_;(with_reducible refine (laws_szReadingS.calls _ _ l0 1048576 t531 _ ?side1 ?side2 A4.out).mono ?_);(case side1=>exact ccc HR0.out);(case side2=>exact HC0.out);rintro e w' ⟨rfl,⟨nd,rfl⟩⟩;refine ⟨_,rfl,?_⟩)|((with_reducible refine gate_callee (f:=27) rfl ?_);refine goesL_ (some 21) rfl rfl Try.func27 (by kernel_rfl) rfl #[.slice A1 l1.length c1,.int .i64 t531] rfl mtt ?_;(with_reducible refine (laws_szSumpS.calls _ _ l1 t531 t532 _ ?side1 ?side2 A6.out).mono ?_);(case side1=>exact ccc HR1.out);(case side2=>exact HC1.out);rintro e w' ⟨rfl,⟨nd,rfl⟩⟩;refine ⟨_,rfl,?_⟩)|((with_reducible refine gate_callee (f:=19) rfl ?_);refine goesL_ (some 26) rfl rfl Try.func19 (by kernel_rfl) rfl #[.slice A0 l0.length c0] rfl mtt ?_;(with_reducible refine (laws_toReadingS.calls k _ _ l0 t533 _ ?side1 ?side2 A8.out).mono ?_);(case side1=>exact ccc HR0.out);(case side2=>exact HC0.out);rintro e w15 ⟨v534,rfl,ho0,hb⟩;refine ⟨_,rfl,?_⟩;have HO535:=amk (Kd.R_lower ho0 (below_size (bel HB)));replace HB:=amk (below_step (bel HB) hb);(try clear hb ho0))|((with_reducible refine gate_callee (f:=29) rfl ?_);refine goesL_ (some 28) rfl rfl Try.func29 (by kernel_rfl) rfl #[.slice A1 l1.length c1] rfl mtt ?_;(with_reducible refine (laws_toSumpS.calls k _ _ l1 t536 _ ?side1 ?side2 A9.out).mono ?_);(case side1=>exact ccc (Kd.C_below HR1.out HB.out));(case side2=>exact HC1.out);rintro e w16 ⟨v537,rfl,ho0,hb⟩;refine ⟨_,rfl,?_⟩;replace HO535:=amk (Kd.R_below (rrr HO535) hb);have HO538:=amk (Kd.R_lower ho0 (below_size (bel HB)));replace HB:=amk (below_step (bel HB) hb);(try clear hb ho0);obtain ⟨Ao17,co17,eo17⟩:=Kd.R_slice HO535.out;subst eo17;obtain ⟨Ao18,co18,eo18⟩:=Kd.R_slice HO538.out;subst eo18)|((with_reducible refine gate_callee (f:=28) rfl ?_);refine goesL_ (some 30) rfl rfl Try.func28 (by kernel_rfl) rfl #[.slice Ao17 t533.length co17,.slice Ao18 t536.length co18,.int .i64 a2] rfl mtt ?_;(with_reducible refine (spec_OpenFor.calls k _ _ t533 _ _ t536 a2 t539 t540 _ ?side1 ?side2 ?side3 ?side4 A10.out).mono ?_);(case side1=>exact ccc (Kd.R_reads' HO535.out).2.2);(case side2=>exact (Kd.R_reads' HO535.out).2.1);(case side3=>exact ccc (Kd.R_reads' HO538.out).2.2);(case side4=>exact (Kd.R_reads' HO538.out).2.1);rintro e w19 ⟨rfl,hb⟩;refine ⟨_,rfl,?_⟩;replace HO535:=amk (Kd.R_below (rrr HO535) hb);replace HO538:=amk (Kd.R_below (rrr HO538) hb);replace HB:=amk (below_step (bel HB) hb);(try clear hb))|((with_reducible refine gate_callee (f:=19) rfl ?_);refine goesL_ (some 34) rfl rfl Try.func19 (by kernel_rfl) rfl #[.slice A0 l0.length c0] rfl mtt ?_;(with_reducible refine (laws_toReadingS.calls k _ _ l0 t541 _ ?side1 ?side2 A11.out).mono ?_);(case side1=>exact ccc (Kd.C_below HR0.out HB.out));(case side2=>exact HC0.out);rintro e w20 ⟨v542,rfl,ho0,hb⟩;refine ⟨_,rfl,?_⟩;replace HO538:=amk (Kd.R_below (rrr HO538) hb);have HO543:=amk (Kd.R_lower (Kd.R_new' ho0 (Kd.R_lt (rrr HO535))) (below_size (bel HB)));replace HO535:=amk (Kd.R_elder' (rrr HO535) (Kd.R_base ho0) hb);replace HB:=amk (below_step (bel HB) hb);(try clear hb ho0))|((with_reducible refine gate_callee (f:=29) rfl ?_);refine goesL_ (some 36) rfl rfl Try.func29 (by kernel_rfl) rfl #[.slice A1 l1.length c1] rfl mtt ?_;(with_reducible refine (laws_toSumpS.calls k _ _ l1 t544 _ ?side1 ?side2 A12.out).mono ?_);(case side1=>exact ccc (Kd.C_below HR1.out HB.out));(case side2=>exact HC1.out);rintro e w21 ⟨v545,rfl,ho0,hb⟩;refine ⟨_,rfl,?_⟩;replace HO535:=amk (Kd.R_below (rrr HO535) hb);replace HO543:=amk (Kd.R_below (rrr HO543) hb);have HO546:=amk (Kd.R_lower (Kd.R_new' ho0 (Kd.R_lt (rrr HO538))) (below_size (bel HB)));replace HO538:=amk (Kd.R_elder' (rrr HO538) (Kd.R_base ho0) hb);replace HB:=amk (below_step (bel HB) hb);(try clear hb ho0);obtain ⟨Ao22,co22,eo22⟩:=Kd.R_slice HO543.out;subst eo22;obtain ⟨Ao23,co23,eo23⟩:=Kd.R_slice HO546.out;subst eo23)|((with_reducible refine gate_callee (f:=30) rfl ?_);refine goesL_ (some 41) rfl rfl Try.func30 (by kernel_rfl) rfl #[.slice Ao22 t541.length co22,.slice Ao23 t544.length co23,.int .i64 a2] rfl mtt ?_;(with_reducible refine (impl_OpenFor.calls k _ _ t541 _ _ t544 a2 t547 t548 _ ?side1 ?side2 ?side3 ?side4 A13.out).mono ?_);(case side1=>exact ccc (Kd.R_reads' HO543.out).2.2);(case side2=>exact (Kd.R_reads' HO543.out).2.1);(case side3=>exact ccc (Kd.R_reads' HO546.out).2.2);(case side4=>exact (Kd.R_reads' HO546.out).2.1);rintro e w24 ⟨rfl,hb⟩;refine ⟨_,rfl,?_⟩;replace HO535:=amk (Kd.R_below (rrr HO535) hb);replace HO538:=amk (Kd.R_below (rrr HO538) hb);replace HO543:=amk (Kd.R_below (rrr HO543) hb);replace HO546:=amk (Kd.R_below (rrr HO546) hb);replace HB:=amk (below_step (bel HB) hb);(try clear hb)))
   (try simp only [Act.put,List.setIfInBounds_toArray,List.set_cons_zero,List.set_cons_succ])
   go_cut [51] (fun v51 wc=>∃ (kq : Nat) (x51_13 : Bool),v51 = .bool x51_13∧Aside0 (laws_FnExactOpenFor.j0 kq l0 l1 t541 t544 x51_13=some r)∧Aside0 (kq≤k)∧Aside0 (Kd.R k30 30 wc w.heap.size (fun _=>True) (.slice Ao22 t541.length co22) t541)∧Aside0 (Kd.R k44 44 wc w.heap.size (fun _=>True) (.slice Ao23 t544.length co23) t544)∧Aside0 (Below w.heap.size w wc))
   case first=>
    have H:=HC14.out
    clear HC14
    by_cases c25 : t547=t539
    ·rw [if_pos c25] at H
     have c25b0 : (t547 == t539)=true:=beq_iff_eq.mpr c25
     have c25b1 : (t547 != t539)=false:=bne_eq_false_iff_eq.mpr c25
     clear c25
     (first | rw [c25b0] | (simp only [i64_w,i32_w];rw [c25b0]) | skip)
     have H':=amk H
     clear H
     go_wp2
     go_meet
     case rel=>exact ⟨_,((t548 != t540)),rsd,H',⟨by first | omega | exact Nat.le_refl _⟩,⟨by (with_reducible repeat (first | apply Kd.R_alloc | apply Kd.R_drewN | apply Kd.R_drew));exact Kd.R_mono HO543.out (fun _ hk=>trivial)⟩,⟨by (with_reducible repeat (first | apply Kd.R_alloc | apply Kd.R_drewN | apply Kd.R_drew));exact Kd.R_mono HO546.out (fun _ hk=>trivial)⟩,⟨bel HB⟩⟩
    ·rw [if_neg c25] at H
     have c25b0 : (t547 == t539)=false:=beq_eq_false_iff_ne.mpr c25
     have c25b1 : (t547 != t539)=true:=bne_iff_ne.mpr c25
     (first | rw [c25b0] | (simp only [i64_w,i32_w];rw [c25b0]) | skip)
     have H':=amk H
     clear H
     go_wp2
     go_meet
     case rel=>exact ⟨_,(true),rsd,H',⟨by first | omega | exact Nat.le_refl _⟩,⟨by (with_reducible repeat (first | apply Kd.R_alloc | apply Kd.R_drewN | apply Kd.R_drew));exact Kd.R_mono HO543.out (fun _ hk=>trivial)⟩,⟨by (with_reducible repeat (first | apply Kd.R_alloc | apply Kd.R_drewN | apply Kd.R_drew));exact Kd.R_mono HO546.out (fun _ hk=>trivial)⟩,⟨bel HB⟩⟩
   case rest=>
    clear HC14
    try clear c1
    try clear c2
    try clear p2
    try clear c3
    try clear c5
    try clear c5b0
    try clear c7
    try clear c7b0
    try clear c17
    try clear c19
    try clear c25
    try clear c25b0
    try clear c25b1
    obtain ⟨kq,x51_13,rfl,HA,HJ13,HO_10,HO_11,HB⟩:=hcut
    cases kq with
    | zero=>exact absurd HA.out (by simp [laws_FnExactOpenFor.j0])
    | succ kj13=>
     have H:=HA.out
     clear HA
     simp only [laws_FnExactOpenFor.j0] at H
     by_cases c26 : x51_13=true
     ·subst c26
      have H1 : (some false)=some r:=by rw [if_pos rfl] at H;exact H
      clear H
      have H:=H1
      clear H1
      obtain rfl:=Option.some.inj H
      go_wp2
      go_ret
      exact ⟨erw0,bel HB⟩
     ·replace c26:=Bool.eq_false_iff.mpr c26
      subst c26
      have H1 : ((laws_toReadingS.f kj13 l0).bind fun t549=>((laws_eqReadingS.f kj13 t541 t549).bind fun t552=>(if t552=true then ((laws_toSumpS.f kj13 l1).bind fun t553=>((laws_eqSumpS.f kj13 t544 t553).bind fun t556=>(if t556=true then (some true) else (some false)))) else (some false))))=some r:=by rw [if_neg (show ¬ (false=true) by decide)] at H;exact H
      clear H
      have H:=H1
      clear H1
      replace H:=obs H
      obtain ⟨t549,A270,H⟩:=H
      replace H : ((laws_eqReadingS.f kj13 t541 t549).bind fun t552=>(if t552=true then ((laws_toSumpS.f kj13 l1).bind fun t553=>((laws_eqSumpS.f kj13 t544 t553).bind fun t556=>(if t556=true then (some true) else (some false)))) else (some false)))=some r:=H
      have A27:=amk A270
      clear A270
      replace H:=obs H
      obtain ⟨t552,A280,H⟩:=H
      replace H : (if t552=true then ((laws_toSumpS.f kj13 l1).bind fun t553=>((laws_eqSumpS.f kj13 t544 t553).bind fun t556=>(if t556=true then (some true) else (some false)))) else (some false))=some r:=H
      have A28:=amk A280
      clear A280
      by_cases c29 : t552=true
      ·subst c29
       have H1 : ((laws_toSumpS.f kj13 l1).bind fun t553=>((laws_eqSumpS.f kj13 t544 t553).bind fun t556=>(if t556=true then (some true) else (some false))))=some r:=by rw [if_pos rfl] at H;exact H
       clear H
       have H:=H1
       clear H1
       replace H:=obs H
       obtain ⟨t553,A300,H⟩:=H
       replace H : ((laws_eqSumpS.f kj13 t544 t553).bind fun t556=>(if t556=true then (some true) else (some false)))=some r:=H
       have A30:=amk A300
       clear A300
       replace H:=obs H
       obtain ⟨t556,A310,H⟩:=H
       replace H : (if t556=true then (some true) else (some false))=some r:=H
       have A31:=amk A310
       clear A310
       by_cases c32 : t556=true
       ·subst c32
        have H1 : (some true)=some r:=by rw [if_pos rfl] at H;exact H
        clear H
        have H:=H1
        clear H1
        obtain rfl:=Option.some.inj H
        go_wp2_with (first | ((with_reducible refine gate_callee (f:=19) rfl ?_);refine goesL_ (some 54) rfl rfl Try.func19 (by kernel_rfl) rfl #[.slice A0 l0.length c0] rfl mtt ?_;(with_reducible refine (laws_toReadingS.calls kj13 _ _ l0 t549 _ ?side1 ?side2 A27.out).mono ?_);(case side1=>exact ccc (Kd.C_below HR0.out HB.out));(case side2=>exact HC0.out);rintro e w33 ⟨v550,rfl,ho0,hb⟩;refine ⟨_,rfl,?_⟩;replace HO_11:=amk (Kd.R_below (rrr HO_11) hb);have HO551:=amk (Kd.R_lower (Kd.R_new' ho0 (Kd.R_lt (rrr HO_10))) (below_size (bel HB)));replace HO_10:=amk (Kd.R_elder' (rrr HO_10) (Kd.R_base ho0) hb);replace HB:=amk (below_step (bel HB) hb);(try clear hb ho0);obtain ⟨Ao34,co34,eo34⟩:=Kd.R_slice HO551.out;subst eo34)|((with_reducible refine gate_callee (f:=23) rfl ?_);refine goesL_ (some 55) rfl rfl Try.func23 (by kernel_rfl) rfl #[.slice Ao22 t541.length co22,.slice Ao34 t549.length co34] rfl mtt ?_;(with_reducible refine (laws_eqReadingS.calls kj13 _ _ t541 _ _ t549 true _ ?side1 ?side2 ?side3 ?side4 A28.out).mono ?_);(case side1=>exact ccc (Kd.R_reads' HO_10.out).2.2);(case side2=>exact (Kd.R_reads' HO_10.out).2.1);(case side3=>exact ccc (Kd.R_reads' HO551.out).2.2);(case side4=>exact (Kd.R_reads' HO551.out).2.1);rintro e w35 ⟨rfl,hb⟩;refine ⟨_,rfl,?_⟩;replace HO_10:=amk (Kd.R_below (rrr HO_10) hb);replace HO_11:=amk (Kd.R_below (rrr HO_11) hb);replace HO551:=amk (Kd.R_below (rrr HO551) hb);replace HB:=amk (below_step (bel HB) hb);(try clear hb))|((with_reducible refine gate_callee (f:=29) rfl ?_);refine goesL_ (some 59) rfl rfl Try.func29 (by kernel_rfl) rfl #[.slice A1 l1.length c1] rfl mtt ?_;(with_reducible refine (laws_toSumpS.calls kj13 _ _ l1 t553 _ ?side1 ?side2 A30.out).mono ?_);(case side1=>exact ccc (Kd.C_below HR1.out HB.out));(case side2=>exact HC1.out);rintro e w36 ⟨v554,rfl,ho0,hb⟩;refine ⟨_,rfl,?_⟩;replace HO_10:=amk (Kd.R_below (rrr HO_10) hb);replace HO551:=amk (Kd.R_below (rrr HO551) hb);have HO555:=amk (Kd.R_lower (Kd.R_new' ho0 (Kd.R_lt (rrr HO_11))) (below_size (bel HB)));replace HO_11:=amk (Kd.R_elder' (rrr HO_11) (Kd.R_base ho0) hb);replace HB:=amk (below_step (bel HB) hb);(try clear hb ho0);obtain ⟨Ao37,co37,eo37⟩:=Kd.R_slice HO555.out;subst eo37)|((with_reducible refine gate_callee (f:=31) rfl ?_);refine goesL_ (some 60) rfl rfl Try.func31 (by kernel_rfl) rfl #[.slice Ao23 t544.length co23,.slice Ao37 t553.length co37] rfl mtt ?_;(with_reducible refine (laws_eqSumpS.calls kj13 _ _ t544 _ _ t553 true _ ?side1 ?side2 ?side3 ?side4 A31.out).mono ?_);(case side1=>exact ccc (Kd.R_reads' HO_11.out).2.2);(case side2=>exact (Kd.R_reads' HO_11.out).2.1);(case side3=>exact ccc (Kd.R_reads' HO555.out).2.2);(case side4=>exact (Kd.R_reads' HO555.out).2.1);rintro e w38 ⟨rfl,hb⟩;refine ⟨_,rfl,?_⟩;replace HO_10:=amk (Kd.R_below (rrr HO_10) hb);replace HO_11:=amk (Kd.R_below (rrr HO_11) hb);replace HO551:=amk (Kd.R_below (rrr HO551) hb);replace HO555:=amk (Kd.R_below (rrr HO555) hb);replace HB:=amk (below_step (bel HB) hb);(try clear hb)))
        go_ret
        exact ⟨erw0,bel HB⟩
       ·replace c32:=Bool.eq_false_iff.mpr c32
        subst c32
        have H1 : (some false)=some r:=by rw [if_neg (show ¬ (false=true) by decide)] at H;exact H
        clear H
        have H:=H1
        clear H1
        obtain rfl:=Option.some.inj H
        go_wp2_with (first | ((with_reducible refine gate_callee (f:=19) rfl ?_);refine goesL_ (some 54) rfl rfl Try.func19 (by kernel_rfl) rfl #[.slice A0 l0.length c0] rfl mtt ?_;(with_reducible refine (laws_toReadingS.calls kj13 _ _ l0 t549 _ ?side1 ?side2 A27.out).mono ?_);(case side1=>exact ccc (Kd.C_below HR0.out HB.out));(case side2=>exact HC0.out);rintro e w39 ⟨v550,rfl,ho0,hb⟩;refine ⟨_,rfl,?_⟩;replace HO_11:=amk (Kd.R_below (rrr HO_11) hb);have HO551:=amk (Kd.R_lower (Kd.R_new' ho0 (Kd.R_lt (rrr HO_10))) (below_size (bel HB)));replace HO_10:=amk (Kd.R_elder' (rrr HO_10) (Kd.R_base ho0) hb);replace HB:=amk (below_step (bel HB) hb);(try clear hb ho0);obtain ⟨Ao40,co40,eo40⟩:=Kd.R_slice HO551.out;subst eo40)|((with_reducible refine gate_callee (f:=23) rfl ?_);refine goesL_ (some 55) rfl rfl Try.func23 (by kernel_rfl) rfl #[.slice Ao22 t541.length co22,.slice Ao40 t549.length co40] rfl mtt ?_;(with_reducible refine (laws_eqReadingS.calls kj13 _ _ t541 _ _ t549 true _ ?side1 ?side2 ?side3 ?side4 A28.out).mono ?_);(case side1=>exact ccc (Kd.R_reads' HO_10.out).2.2);(case side2=>exact (Kd.R_reads' HO_10.out).2.1);(case side3=>exact ccc (Kd.R_reads' HO551.out).2.2);(case side4=>exact (Kd.R_reads' HO551.out).2.1);rintro e w41 ⟨rfl,hb⟩;refine ⟨_,rfl,?_⟩;replace HO_10:=amk (Kd.R_below (rrr HO_10) hb);replace HO_11:=amk (Kd.R_below (rrr HO_11) hb);replace HO551:=amk (Kd.R_below (rrr HO551) hb);replace HB:=amk (below_step (bel HB) hb);(try clear hb))|((with_reducible refine gate_callee (f:=29) rfl ?_);refine goesL_ (some 59) rfl rfl Try.func29 (by kernel_rfl) rfl #[.slice A1 l1.length c1] rfl mtt ?_;(with_reducible refine (laws_toSumpS.calls kj13 _ _ l1 t553 _ ?side1 ?side2 A30.out).mono ?_);(case side1=>exact ccc (Kd.C_below HR1.out HB.out));(case side2=>exact HC1.out);rintro e w42 ⟨v554,rfl,ho0,hb⟩;refine ⟨_,rfl,?_⟩;replace HO_10:=amk (Kd.R_below (rrr HO_10) hb);replace HO551:=amk (Kd.R_below (rrr HO551) hb);have HO555:=amk (Kd.R_lower (Kd.R_new' ho0 (Kd.R_lt (rrr HO_11))) (below_size (bel HB)));replace HO_11:=amk (Kd.R_elder' (rrr HO_11) (Kd.R_base ho0) hb);replace HB:=amk (below_step (bel HB) hb);(try clear hb ho0);obtain ⟨Ao43,co43,eo43⟩:=Kd.R_slice HO555.out;subst eo43)|((with_reducible refine gate_callee (f:=31) rfl ?_);refine goesL_ (some 60) rfl rfl Try.func31 (by kernel_rfl) rfl #[.slice Ao23 t544.length co23,.slice Ao43 t553.length co43] rfl mtt ?_;(with_reducible refine (laws_eqSumpS.calls kj13 _ _ t544 _ _ t553 false _ ?side1 ?side2 ?side3 ?side4 A31.out).mono ?_);(case side1=>exact ccc (Kd.R_reads' HO_11.out).2.2);(case side2=>exact (Kd.R_reads' HO_11.out).2.1);(case side3=>exact ccc (Kd.R_reads' HO555.out).2.2);(case side4=>exact (Kd.R_reads' HO555.out).2.1);rintro e w44 ⟨rfl,hb⟩;refine ⟨_,rfl,?_⟩;replace HO_10:=amk (Kd.R_below (rrr HO_10) hb);replace HO_11:=amk (Kd.R_below (rrr HO_11) hb);replace HO551:=amk (Kd.R_below (rrr HO551) hb);replace HO555:=amk (Kd.R_below (rrr HO555) hb);replace HB:=amk (below_step (bel HB) hb);(try clear hb)))
        go_ret
        exact ⟨erw0,bel HB⟩
      ·replace c29:=Bool.eq_false_iff.mpr c29
       subst c29
       have H1 : (some false)=some r:=by rw [if_neg (show ¬ (false=true) by decide)] at H;exact H
       clear H
       have H:=H1
       clear H1
       obtain rfl:=Option.some.inj H
       go_wp2_with (first | ((with_reducible refine gate_callee (f:=19) rfl ?_);refine goesL_ (some 54) rfl rfl Try.func19 (by kernel_rfl) rfl #[.slice A0 l0.length c0] rfl mtt ?_;(with_reducible refine (laws_toReadingS.calls kj13 _ _ l0 t549 _ ?side1 ?side2 A27.out).mono ?_);(case side1=>exact ccc (Kd.C_below HR0.out HB.out));(case side2=>exact HC0.out);rintro e w45 ⟨v550,rfl,ho0,hb⟩;refine ⟨_,rfl,?_⟩;replace HO_11:=amk (Kd.R_below (rrr HO_11) hb);have HO551:=amk (Kd.R_lower (Kd.R_new' ho0 (Kd.R_lt (rrr HO_10))) (below_size (bel HB)));replace HO_10:=amk (Kd.R_elder' (rrr HO_10) (Kd.R_base ho0) hb);replace HB:=amk (below_step (bel HB) hb);(try clear hb ho0);obtain ⟨Ao46,co46,eo46⟩:=Kd.R_slice HO551.out;subst eo46)|((with_reducible refine gate_callee (f:=23) rfl ?_);refine goesL_ (some 55) rfl rfl Try.func23 (by kernel_rfl) rfl #[.slice Ao22 t541.length co22,.slice Ao46 t549.length co46] rfl mtt ?_;(with_reducible refine (laws_eqReadingS.calls kj13 _ _ t541 _ _ t549 false _ ?side1 ?side2 ?side3 ?side4 A28.out).mono ?_);(case side1=>exact ccc (Kd.R_reads' HO_10.out).2.2);(case side2=>exact (Kd.R_reads' HO_10.out).2.1);(case side3=>exact ccc (Kd.R_reads' HO551.out).2.2);(case side4=>exact (Kd.R_reads' HO551.out).2.1);rintro e w47 ⟨rfl,hb⟩;refine ⟨_,rfl,?_⟩;replace HO_10:=amk (Kd.R_below (rrr HO_10) hb);replace HO_11:=amk (Kd.R_below (rrr HO_11) hb);replace HO551:=amk (Kd.R_below (rrr HO551) hb);replace HB:=amk (below_step (bel HB) hb);(try clear hb)))
       go_ret
       exact ⟨erw0,bel HB⟩
end Go.Proofs.Ytldifiededjgjaa.P
namespace Go.Proofs.Ytldifiededjgjaa.Pu
open Go.RowKit Go.Proofs.Ytldifiededjgjaa.P Go.Proofs.YtldifiededjgjaaW.PrintWords
def cv30 (x : S93) : S30:=⟨x.f0,x.f1⟩
def cv44 (x : S38) : S44:=⟨x.f0,x.f1,x.f2⟩
theorem set_mid {α : Type} (M : List α) (z y : α) (n : Nat) (i : Int) (hi : i=M.length) : (M ++ List.replicate (n + 1) z).set i.toNat y=(M ++ [y]) ++ List.replicate n z:=by
 rw [hi,Int.toNat_natCast,List.set_append_right _ _ (Nat.le_refl _),Nat.sub_self,List.replicate_succ]
 simp
theorem to30_l0 (l : List S93) (hl : (l.length : Int)≤1000000000000) : ∀ (L M : List S93) (i : Int),i=M.length→M ++ L=l→Ev (fun k=>laws_toReadingS.l0 k l (M.map cv30 ++ List.replicate L.length z30) i) (l.map cv30):=by
 intro L
 induction L with
 | nil=>
  intro M i hi e
  rw [List.append_nil] at e
  subst e
  refine Ev.step (fun k=>laws_toReadingS.l0.eq_2 _ _ i k) (Ev.neg (by omega) (Ev.to (Ev.now _) (by simp)))
 | cons s L ih=>
  intro M i hi e
  have len:=congrArg List.length e
  simp at len
  have w : wrap64 (i + 1)=i + 1:=wr (by omega) (by omega)
  have rd0 : rd_T93 l i=s:=by
   unfold rd_T93
   rw [← e,hi,Int.toNat_natCast]
   simp [List.getD_eq_getElem?_getD]
  refine Ev.step (fun k=>laws_toReadingS.l0.eq_2 _ _ i k) (Ev.pos (by omega) (Ev.pos (by omega) (Ev.bindS rfl (Ev.pos (by simp;omega) ?_))))
  simp only [rd0,w,List.length_cons]
  rw [set_mid _ _ _ _ _ (by simp [hi])]
  have:=ih (M ++ [s]) (i + 1) (by simp;omega) (by rw [← e];simp)
  rw [List.map_append] at this
  exact this
theorem to30 (l : List S93) (hl : (l.length : Int)≤1000000000000) : Ev (fun k=>laws_toReadingS.f k l) (l.map cv30):=by
 unfold laws_toReadingS.f
 refine Ev.pos (by omega) (Ev.pos (by rw [Int.toNat_natCast];omega) ?_)
 rw [Int.toNat_natCast]
 exact to30_l0 l hl l [] 0 rfl rfl
theorem to44_l0 (l : List S38) (hl : (l.length : Int)≤1000000000000) : ∀ (L M : List S38) (i : Int),i=M.length→M ++ L=l→Ev (fun k=>laws_toSumpS.l0 k l (M.map cv44 ++ List.replicate L.length z44) i) (l.map cv44):=by
 intro L
 induction L with
 | nil=>
  intro M i hi e
  rw [List.append_nil] at e
  subst e
  refine Ev.step (fun k=>laws_toSumpS.l0.eq_2 _ _ i k) (Ev.neg (by omega) (Ev.to (Ev.now _) (by simp)))
 | cons s L ih=>
  intro M i hi e
  have len:=congrArg List.length e
  simp at len
  have w : wrap64 (i + 1)=i + 1:=wr (by omega) (by omega)
  have rd0 : rd_T38 l i=s:=by
   unfold rd_T38
   rw [← e,hi,Int.toNat_natCast]
   simp [List.getD_eq_getElem?_getD]
  refine Ev.step (fun k=>laws_toSumpS.l0.eq_2 _ _ i k) (Ev.pos (by omega) (Ev.pos (by omega) (Ev.bindS rfl (Ev.pos (by simp;omega) ?_))))
  simp only [rd0,w,List.length_cons]
  rw [set_mid _ _ _ _ _ (by simp [hi])]
  have:=ih (M ++ [s]) (i + 1) (by simp;omega) (by rw [← e];simp)
  rw [List.map_append] at this
  exact this
theorem to44 (l : List S38) (hl : (l.length : Int)≤1000000000000) : Ev (fun k=>laws_toSumpS.f k l) (l.map cv44):=by
 unfold laws_toSumpS.f
 refine Ev.pos (by omega) (Ev.pos (by rw [Int.toNat_natCast];omega) ?_)
 rw [Int.toNat_natCast]
 exact to44_l0 l hl l [] 0 rfl rfl
theorem eq30_l0 (l : List S30) (hl : (l.length : Int)≤1000000000000) : ∀ (d : Nat) (i : Int),0≤i→(l.length : Int) - i=d→Ev (fun k=>laws_eqReadingS.l0 k l l i) true:=by
 intro d
 induction d with
 | zero=>intro i h0 hd;exact Ev.step (fun k=>laws_eqReadingS.l0.eq_2 l l i k) (Ev.neg (by omega) (Ev.now _))
 | succ d ih=>
  intro i h0 hd
  have w : wrap64 (i + 1)=i + 1:=wr (by omega) (by omega)
  refine Ev.step (fun k=>laws_eqReadingS.l0.eq_2 l l i k) (Ev.pos (by omega) (Ev.pos h0 (Ev.pos (by omega) (Ev.bindS (a:=true) ?_ (Ev.pos rfl ?_)))))
  ·unfold laws_eqReading.f;simp
  ·rw [w];exact ih (i + 1) (by omega) (by omega)
theorem eq30 (l : List S30) (hl : (l.length : Int)≤1000000000000) : Ev (fun k=>laws_eqReadingS.f k l l) true:=by
 unfold laws_eqReadingS.f
 exact Ev.pos rfl (eq30_l0 l hl l.length 0 (Int.le_refl _) (by omega))
theorem eq44_l0 (l : List S44) (hl : (l.length : Int)≤1000000000000) : ∀ (d : Nat) (i : Int),0≤i→(l.length : Int) - i=d→Ev (fun k=>laws_eqSumpS.l0 k l l i) true:=by
 intro d
 induction d with
 | zero=>intro i h0 hd;exact Ev.step (fun k=>laws_eqSumpS.l0.eq_2 l l i k) (Ev.neg (by omega) (Ev.now _))
 | succ d ih=>
  intro i h0 hd
  have w : wrap64 (i + 1)=i + 1:=wr (by omega) (by omega)
  refine Ev.step (fun k=>laws_eqSumpS.l0.eq_2 l l i k) (Ev.pos (by omega) (Ev.pos h0 (Ev.pos (by omega) (Ev.bindS (a:=true) ?_ (Ev.pos rfl ?_)))))
  ·unfold laws_eqSump.f;simp
  ·rw [w];exact ih (i + 1) (by omega) (by omega)
theorem eq44 (l : List S44) (hl : (l.length : Int)≤1000000000000) : Ev (fun k=>laws_eqSumpS.f k l l) true:=by
 unfold laws_eqSumpS.f
 exact Ev.pos rfl (eq44_l0 l hl l.length 0 (Int.le_refl _) (by omega))
theorem FnExactOpenFor (l0 : List S93) (l1 : List S38) (c : Int) (h0 : (l0.length : Int)≤1000000000000000) (h1 : (l1.length : Int)≤1000000000000000) : ∃ k,laws_FnExactOpenFor.f k l0 l1 c=some true:=by
 have key : Ev (fun k=>laws_FnExactOpenFor.f k l0 l1 c) true:=by
  unfold laws_FnExactOpenFor.f laws_szReadingS.f laws_szSumpS.f
  have e : wrap64 (1048576 - (l0.length : Int))=1048576 - (l0.length : Int):=wr (by omega) (by omega)
  rw [e]
  by_cases b0 : 1048576 - (l0.length : Int) < 0
  ·rw [if_pos b0]
   exact Ev.someb (Ev.pos (by omega) (Ev.now _))
  rw [if_neg b0]
  refine Ev.someb (Ev.neg b0 ?_)
  have e' : wrap64 (1048576 - (l0.length : Int) - (l1.length : Int))=1048576 - (l0.length : Int) - (l1.length : Int):=wr (by omega) (by omega)
  rw [e']
  by_cases b1 : 1048576 - (l0.length : Int) - (l1.length : Int) < 0
  ·rw [if_pos b1]
   exact Ev.someb (Ev.pos (by omega) (Ev.now _))
  rw [if_neg b1]
  refine Ev.someb (Ev.neg b1 ?_)
  have t0:=to30 l0 (by omega)
  have t1:=to44 l1 (by omega)
  have n0 : ((l0.map cv30).length : Int)≤1000000000000:=by rw [List.length_map];omega
  have n1 : ((l1.map cv44).length : Int)≤1000000000000:=by rw [List.length_map];omega
  obtain ⟨r,sr,ir,_⟩:=OpenFor_both (l0.map cv30) (l1.map cv44) c n0 n1
  refine Ev.bind t0 (Ev.bind t1 (Ev.bind sr (Ev.bind t0 (Ev.bind t1 (Ev.bind ir (Ev.pos rfl ?_))))))
  refine Ev.step (fun k=>laws_FnExactOpenFor.j0.eq_2 l0 l1 _ _ _ k) (Ev.neg (by simp) (Ev.bind t0 (Ev.bind (eq30 _ n0) (Ev.pos rfl (Ev.bind t1 (Ev.bind (eq44 _ n1) (Ev.pos rfl (Ev.now _))))))))
 exact key.rounds
def tot : List (List Int)→Int
 | []=>0
 | x :: L=>(x.length : Int) + tot L
def ups : List (List Int)→Int→List (List Int)
 | [],_=>[]
 | x :: L,a=>up a x.length :: ups L (a + x.length)
theorem tot_nn : ∀ L,0≤tot L
 | []=>Int.le_refl _
 | x :: L=>by have:=tot_nn L;unfold tot;omega
theorem ups_len : ∀ L a,(ups L a).length=L.length
 | [],_=>rfl
 | x :: L,a=>by simp [ups,ups_len L]
theorem rdL_mid (M L : List (List Int)) (s : List Int) (i : Int) (hi : i=M.length) : (M ++ s :: L).getD i.toNat []=s:=by
 rw [hi,Int.toNat_natCast]
 simp [List.getD_eq_getElem?_getD]
theorem markSS_l0 : ∀ (L M : List (List Int)) (a i : Int),i=M.length→(M.length : Int) + L.length≤1000000000000→(∀ x ∈ L,(x.length : Int)≤1000000000000)→0≤a→a + tot L≤8000000000000000000 →
  Ev (fun k=>laws_markIntSS.l0 k (M ++ L) a i) (a + tot L,M ++ ups L a):=by
 intro L
 induction L with
 | nil=>
  intro M a i hi hl hx h0 h1
  refine Ev.step (fun k=>laws_markIntSS.l0.eq_2 _ _ _ k) (Ev.neg (by simp;omega) (Ev.to (Ev.now _) (by simp [ups,tot])))
 | cons s L ih=>
  intro M a i hi hl hx h0 h1
  have tn:=tot_nn L
  have hs:=hx s List.mem_cons_self
  simp only [List.length_cons] at hl
  simp only [tot] at h1
  have w : wrap64 (i + 1)=i + 1:=wr (by omega) (by omega)
  have r0 : laws_markIntSS.rd (M ++ s :: L) i=s:=rdL_mid M L s i hi
  refine Ev.step (fun k=>laws_markIntSS.l0.eq_2 _ _ _ k) (Ev.pos (by simp;omega) (Ev.pos (by omega) ?_))
  rw [r0,w]
  refine Ev.bind (mark_ok s a (by omega) h0 (by omega)) ?_
  simp only []
  rw [set_at _ _ _ _ _ hi]
  refine Ev.to (ih (M ++ [up a s.length]) (a + s.length) (i + 1) (by simp;omega) (by simp;omega) (fun x h=>hx x (List.mem_cons_of_mem _ h)) (by omega) (by omega)) ?_
  simp only [ups,tot,List.append_assoc,List.cons_append,List.nil_append,Prod.mk.injEq,and_true]
  omega
theorem heldSS_l0 : ∀ (L M : List (List Int)) (a i : Int),i=M.length→(M.length : Int) + L.length≤1000000000000→(∀ x ∈ L,(x.length : Int)≤1000000000000)→0≤a→a + tot L≤8000000000000000000 →
  Ev (fun k=>laws_heldIntSS.l0 k (M ++ ups L a) a i) (a + tot L):=by
 intro L
 induction L with
 | nil=>
  intro M a i hi hl hx h0 h1
  refine Ev.step (fun k=>laws_heldIntSS.l0.eq_2 _ _ _ k) (Ev.neg (by simp [ups];omega) (Ev.to (Ev.now _) (by simp [tot])))
 | cons s L ih=>
  intro M a i hi hl hx h0 h1
  have tn:=tot_nn L
  have hs:=hx s List.mem_cons_self
  simp only [List.length_cons] at hl
  simp only [tot] at h1
  have w : wrap64 (i + 1)=i + 1:=wr (by omega) (by omega)
  have r0 : rd_L4 (M ++ ups (s :: L) a) i=up a s.length:=rdL_mid M _ _ i hi
  refine Ev.step (fun k=>laws_heldIntSS.l0.eq_2 _ _ _ k) (Ev.pos (by simp [ups_len];omega) (Ev.pos (by omega) ?_))
  rw [r0,w]
  refine Ev.bind (held_ok s.length a (by omega) h0 (by omega)) (Ev.neg (by omega) ?_)
  have:=ih (M ++ [up a s.length]) (a + s.length) (i + 1) (by simp;omega) (by simp;omega) (fun x h=>hx x (List.mem_cons_of_mem _ h)) (by omega) (by omega)
  rw [List.append_assoc] at this
  refine Ev.to this ?_
  simp only [tot]
  omega
theorem eqSS_l0 (l : List (List Int)) (hl : (l.length : Int)≤1000000000000) (hx : ∀ x ∈ l,(x.length : Int)≤1000000000000) : ∀ (d : Nat) (i : Int),0≤i→(l.length : Int) - i=d→Ev (fun k=>laws_eqIntSS.l0 k l l i) true:=by
 intro d
 induction d with
 | zero=>intro i h0 hd;exact Ev.step (fun k=>laws_eqIntSS.l0.eq_2 l l i k) (Ev.neg (by omega) (Ev.now _))
 | succ d ih=>
  intro i h0 hd
  have w : wrap64 (i + 1)=i + 1:=wr (by omega) (by omega)
  have hr : ((rd_L4 l i).length : Int)≤1000000000000:=by
   unfold rd_L4
   rw [List.getD_eq_getElem?_getD,List.getElem?_eq_getElem (show i.toNat < l.length by omega)]
   exact hx _ (List.getElem_mem _)
  refine Ev.step (fun k=>laws_eqIntSS.l0.eq_2 l l i k) (Ev.pos (by omega) (Ev.pos (by omega) (Ev.pos (by omega) (Ev.bind (eqI _ (by omega)) (Ev.pos rfl ?_)))))
  rw [w]
  exact ih (i + 1) (by omega) (by omega)
theorem eqSS (l : List (List Int)) (hl : (l.length : Int)≤1000000000000) (hx : ∀ x ∈ l,(x.length : Int)≤1000000000000) : Ev (fun k=>laws_eqIntSS.f k l l) true:=by
 unfold laws_eqIntSS.f
 exact Ev.pos rfl (eqSS_l0 l hl hx l.length 0 (Int.le_refl _) (by omega))
theorem markR_l0 : ∀ (d : Nat) (l : List S30) (a i : Int),(l.length : Int)≤1000000000000→0≤i→(l.length : Int) - i=d→0≤a→a + 2 * d≤8000000000000000000 →
  ∃ r,Ev (fun k=>laws_markReadingS.l0 k l a i) r∧0≤r.1:=by
 intro d
 induction d with
 | zero=>intro l a i hl h0 hd ha hb;exact ⟨_,Ev.step (fun k=>laws_markReadingS.l0.eq_2 _ _ _ k) (Ev.neg (by omega) (Ev.now _)),ha⟩
 | succ d ih=>
  intro l a i hl h0 hd ha hb
  have w : wrap64 (i + 1)=i + 1:=wr (by omega) (by omega)
  have w1 : wrap64 (a + 1)=a + 1:=wr (by omega) (by omega)
  have w2 : wrap64 (a + 1 + 1)=a + 1 + 1:=wr (by omega) (by omega)
  obtain ⟨r,hr,h⟩:=ih ((l.set i.toNat (⟨a,(rd_T30 l i).f1⟩ : S30)).set i.toNat (⟨(rd_T30 (l.set i.toNat (⟨a,(rd_T30 l i).f1⟩ : S30)) i).f0,a + 1⟩ : S30)) (a + 1 + 1) (i + 1) (by simpa using hl) (by omega) (by simp;omega) (by omega) (by omega)
  refine ⟨r,Ev.step (fun k=>laws_markReadingS.l0.eq_2 _ _ _ k) (Ev.pos (by omega) (Ev.pos (by omega) (Ev.someb ?_))),h⟩
  rw [w1,w2,w]
  exact hr
theorem scan_len (Q : Int→Bool) : ∀ (n : Nat) (h : Int) (R : List (Int × Int)),(scan Q n h R).length≤R.length + n:=by
 intro n
 induction n with
 | zero=>intro h R;exact Nat.le_refl _
 | succ n ih=>
  intro h R
  have h1:=ih (h + 1) (stp Q R h)
  have h2:=stp_len Q R h
  show (scan Q n (h + 1) (stp Q R h)).length≤_
  omega
theorem tbl_small (Q : Int→Bool) (n : Nat) : (tbl (scan Q n 0 [])).length≤n:=by
 rw [tbl_len]
 exact Nat.le_trans (scan_len Q n 0 []) (by simp)
theorem tbl_two (R : List (Int × Int)) : ∀ x ∈ tbl R,x.length=2:=by
 intro x hx
 unfold tbl at hx
 rw [List.mem_reverse,List.mem_map] at hx
 obtain ⟨p,_,rfl⟩:=hx
 rfl
theorem small_pair {L : List (List Int)} {n : Nat} {b : Bool} {r : List (List Int) × Bool} (e : r=(L,b)) (h1 : L.length≤n) (h2 : ∀ x ∈ L,x.length=2) : r.1.length≤n∧∀ x ∈ r.1,x.length=2:=by subst e;exact ⟨h1,h2⟩
theorem spansR_small (l : List S30) (s : S44) : (spansR l s).1.length≤1000∧∀ x ∈ (spansR l s).1,x.length=2:=by
 by_cases a : goodB l=true
 ·by_cases b : sumpB s=true
  ·exact small_pair (spansR_t a b) (tbl_small _ _) (tbl_two _)
  ·exact small_pair (spansR_b b) (Nat.zero_le _) (fun x hx=>absurd hx List.not_mem_nil)
 ·exact small_pair (spansR_a a) (Nat.zero_le _) (fun x hx=>absurd hx List.not_mem_nil)
theorem tot_le (B : Int) (hB : 0≤B) : ∀ L : List (List Int),(∀ x ∈ L,(x.length : Int)≤B)→tot L≤B * L.length
 | [],_=>by simp [tot]
 | x :: L,h=>by
  have h1:=tot_le B hB L (fun y hy=>h y (List.mem_cons_of_mem _ hy))
  have h2:=h x List.mem_cons_self
  simp only [tot,List.length_cons]
  have : B * ((L.length + 1 : Nat) : Int)=B * (L.length : Int) + B:=by rw [Int.natCast_add,Int.mul_add];simp
  rw [this]
  omega
theorem FnExactOpenSpans (l0 : List S93) (a b c : Int) (h0 : (l0.length : Int)≤1000000000000000) :
  ∃ z,laws_szReadingS.f l0 1048576=some z∧(¬ z < 0→∃ k x y ok m0 xm m ym,laws_toReadingS.f k l0=some x∧laws_toSump.f a b c=some (a,b,c)∧spec_OpenSpans.f k x a b c=some (y,ok)∧impl_OpenSpans.f k x a b c=some (y,ok) ∧
   laws_eqIntSS.f k y y=some true∧laws_eqReadingS.f k x x=some true∧laws_markReadingS.f k x 1=some (m0,xm)∧¬ m0 < 0∧laws_markIntSS.f k y 1=some (m,ym)∧laws_heldIntSS.f k ym 1=some m∧¬ m < 0):=by
 unfold laws_szReadingS.f
 have e : wrap64 (1048576 - (l0.length : Int))=1048576 - (l0.length : Int):=wr (by omega) (by omega)
 rw [e]
 by_cases b0 : 1048576 - (l0.length : Int) < 0
 ·exact ⟨-1,by rw [if_pos b0],fun h=>absurd (show (-1 : Int) < 0 by omega) h⟩
 rw [if_neg b0]
 refine ⟨_,rfl,fun _=>?_⟩
 have n0 : ((l0.map cv30).length : Int)≤1000000000000:=by rw [List.length_map];omega
 have small:=spansR_small (l0.map cv30) ⟨a,b,c⟩
 have sx : ∀ x ∈ (spansR (l0.map cv30) ⟨a,b,c⟩).1,(x.length : Int)≤1000000000000:=fun x hx=>by have:=small.2 x hx;omega
 have sl : ((spansR (l0.map cv30) ⟨a,b,c⟩).1.length : Int)≤1000000000000:=by have:=small.1;omega
 have st:=tot_le 2 (by omega) (spansR (l0.map cv30) ⟨a,b,c⟩).1 (fun x hx=>by have:=small.2 x hx;omega)
 have sn:=tot_nn (spansR (l0.map cv30) ⟨a,b,c⟩).1
 obtain ⟨rm,e7,hrm⟩:=markR_l0 (l0.map cv30).length (l0.map cv30) 1 0 n0 (Int.le_refl _) (by omega) (by omega) (by omega)
 have e1:=to30 l0 (by omega)
 have e2:=sspansF (l0.map cv30) ⟨a,b,c⟩ n0
 have e3:=ispansF (l0.map cv30) ⟨a,b,c⟩ n0
 have e4:=eqSS _ sl sx
 have e5:=eq30 _ n0
 have e8:=markSS_l0 (spansR (l0.map cv30) ⟨a,b,c⟩).1 [] 1 0 rfl (by simpa using sl) sx (by omega) (by omega)
 have e9:=heldSS_l0 (spansR (l0.map cv30) ⟨a,b,c⟩).1 [] 1 0 rfl (by simpa using sl) sx (by omega) (by omega)
 obtain ⟨K1,e1⟩:=e1
 obtain ⟨K2,e2⟩:=e2
 obtain ⟨K3,e3⟩:=e3
 obtain ⟨K4,e4⟩:=e4
 obtain ⟨K5,e5⟩:=e5
 obtain ⟨K7,e7⟩:=e7
 obtain ⟨K8,e8⟩:=e8
 obtain ⟨K9,e9⟩:=e9
 have k0 : ∃ k,K1≤k∧K2≤k∧K3≤k∧K4≤k∧K5≤k∧K7≤k∧K8≤k∧K9≤k:=⟨K1 + K2 + K3 + K4 + K5 + K7 + K8 + K9,by omega⟩
 obtain ⟨k,q1,q2,q3,q4,q5,q7,q8,q9⟩:=k0
 refine ⟨k,_,(spansR (l0.map cv30) ⟨a,b,c⟩).1,(spansR (l0.map cv30) ⟨a,b,c⟩).2,rm.1,rm.2,_,_,e1 k q1,rfl,e2 k q2,e3 k q3,e4 k q4,e5 k q5,e7 k q7,by omega,e8 k q8,e9 k q9,by omega⟩
end Go.Proofs.Ytldifiededjgjaa.Pu
namespace Go.Proofs.Ytldifiededjgjaa.Opens
open Go.ChangeShapes Go.WideShapes Go.Deep Go.Proofs.YtldifiededjgjaaW.PrintWords
set_option linter.unusedVariables false
section
variable {H : Type} {enc : TypeId × Value→H} {P : Program} {w : World} {α β : Type}
def Opn (enc : TypeId × Value→H) (P : Program) (w : World) (t : TypeId) (d : Kd α) (ok : α→Prop) : Prop:=
 ∀ fuel cs x,DataW.trod enc P w 0 (fun _=>true) true fuel t cs=some x→∃ y,d.K w y cs∧ok y
theorem op_int {t : TypeId} {k : IntKind} (h : P.underlying t=some (.int k)) : Opn enc P w t (Kd.int k) (fun n=>(Lit.int k n).wf=true):=by
 intro fuel cs x hx
 obtain ⟨n,rfl,_,hw⟩:=DataW.trod_int h hx
 exact ⟨n,rfl,hw⟩
theorem op_bool {t : TypeId} (h : P.underlying t=some .bool) : Opn enc P w t Kd.bool (fun _=>True):=by
 intro fuel cs x hx
 obtain ⟨n,rfl,_⟩:=DataW.trod_bool h hx
 exact ⟨n,rfl,trivial⟩
theorem op_string {t : TypeId} (h : P.underlying t=some .string) : Opn enc P w t Kd.string (fun s=>s.size≤maxLen):=by
 intro fuel cs x hx
 obtain ⟨n,rfl,_,hw⟩:=DataW.trod_string h hx
 exact ⟨n,rfl,hw⟩
theorem op_iso {t : TypeId} {d : Kd α} {ok : α→Prop} (h : Opn enc P w t d ok) (f : β→α) (g : α→β) (fg : ∀ x,f (g x)=x) : Opn enc P w t (Kd.iso d f) (fun y=>ok (f y)):=by
 intro fuel cs x hx
 obtain ⟨y,hk,ho⟩:=h fuel cs x hx
 exact ⟨g y,by show d.K w (f (g y)) cs;rw [fg];exact hk,by show ok (f (g y));rw [fg];exact ho⟩
theorem op_imp {t : TypeId} {d : Kd α} {ok ok' : α→Prop} (h : Opn enc P w t d ok) (f : ∀ y,ok y→ok' y) : Opn enc P w t d ok':=by
 intro fuel cs x hx
 obtain ⟨y,hk,ho⟩:=h fuel cs x hx
 exact ⟨y,hk,f y ho⟩
def OpnF (enc : TypeId × Value→H) (P : Program) (w : World) (fs : List Field) (off : Nat) (d : Kd α) (ok : α→Prop) : Prop:=
 ∀ (n : Nat) (cs : List Value),cs.length=d.sz→(∀ f ∈ fs,∃ y,DataW.trod enc P w 0 (fun _=>true) true n f.type ((cs.drop (f.offset - off)).take (P.cellsOf f.type))=some y) →
  (∀ f ∈ fs,off≤f.offset)→∃ y,d.K w y cs∧ok y
theorem opf_one {f : Field} {off : Nat} {d : Kd α} {ok : α→Prop} (h : Opn enc P w f.type d ok) (ho : f.offset=off) (hz : P.cellsOf f.type=d.sz) : OpnF enc P w [f] off d ok:=by
 intro n cs hl hf _
 obtain ⟨y,hy⟩:=hf f List.mem_cons_self
 rw [ho,Nat.sub_self,List.drop_zero,hz,← hl,List.take_length] at hy
 exact h _ _ _ hy
theorem opf_cons {f : Field} {fs : List Field} {off : Nat} {a : Kd α} {b : Kd β} {oka : α→Prop} {okb : β→Prop} (h : Opn enc P w f.type a oka) (ho : f.offset=off) (hz : P.cellsOf f.type=a.sz) (r : OpnF enc P w fs (off + a.sz) b okb)
  (hfs : ∀ g ∈ fs,off + a.sz≤g.offset) : OpnF enc P w (f :: fs) off (Kd.pair a b) (fun y=>oka y.1∧okb y.2):=by
 intro n cs hl hf hoff
 have hl' : cs.length=a.sz + b.sz:=hl
 obtain ⟨y,hy⟩:=hf f List.mem_cons_self
 rw [ho,Nat.sub_self,List.drop_zero,hz] at hy
 obtain ⟨y0,k0,o0⟩:=h _ _ _ hy
 obtain ⟨y1,k1,o1⟩:=r n (cs.drop a.sz) (by rw [List.length_drop];omega) (fun g hg=>by
  obtain ⟨z,hz⟩:=hf g (List.mem_cons_of_mem _ hg)
  have:=hfs g hg
  refine ⟨z,?_⟩
  rw [List.drop_drop,show a.sz + (g.offset - (off + a.sz))=g.offset - off from by omega]
  exact hz) hfs
 exact ⟨(y0,y1),⟨cs.take a.sz,cs.drop a.sz,(List.take_append_drop _ _).symm,k0,k1⟩,o0,o1⟩
theorem op_struct {t : TypeId} {fs : Array Field} {d : Kd α} {ok : α→Prop} (hs : P.underlying t=some (.struct fs)) (hz : P.cellsOf t=d.sz) (h : OpnF enc P w fs.toList 0 d ok) : Opn enc P w t d ok:=by
 intro fuel cs x hx
 obtain ⟨xs,n,_,_,hlen,hxl,hf⟩:=DataW.trod_struct hs hx
 refine h n cs (by rw [hlen,hz]) (fun f hf'=>?_) (fun _ _=>Nat.zero_le _)
 obtain ⟨i,hi,rfl⟩:=List.getElem_of_mem hf'
 have hi' : i < fs.size:=by simpa using hi
 have:=hf i fs[i] (Array.getElem?_eq_getElem hi')
 rw [Nat.sub_zero]
 exact ⟨xs[i]'(by omega),by rw [List.getElem?_eq_getElem (by omega)] at this;simpa using this⟩
theorem max_le : maxLen≤9223372036854775807:=by decide
theorem op_slice {t e : TypeId} {d : Kd α} {ok : α→Prop} (hs : P.underlying t=some (.slice e)) (hz : P.cellsOf e=d.sz) (h : Opn enc P w e d ok) : Opn enc P w t (Kd.slice e d) (fun ys=>ys.length≤maxLen∧∀ y ∈ ys,ok y):=by
 intro fuel cs x hx
 rcases open_slice hs hx with ⟨rfl,_⟩ | ⟨a,len,cap,m,n,D,Pl,rfl,_,hl,hm,hmm,_,hi⟩
 ·exact ⟨[],⟨none,0,rfl,Nat.le_refl _,rfl,by simp,fun h=>absurd h (by simp)⟩,Nat.zero_le _,fun y hy=>by cases hy⟩
 ·have hm' : m=cap:=by simpa using hmm
  have key : ∀ i : Nat,i < len→∃ y,∃ c,c.length=d.sz∧d.K w y c∧ok y∧∀ j u,c[j]? = some u→w.cell? (a.add (i * d.sz + j))=some u:=by
   intro i hil
   obtain ⟨c,hc,ht⟩:=hi i (by omega)
   obtain ⟨_,hcl,hat⟩:=World.cells?_some hc
   obtain ⟨y,hk,ho⟩:=h _ _ _ ht
   rw [hz] at hcl hat
   refine ⟨y,c,hcl,hk,ho,fun j u hu=>?_⟩
   have hj : j < d.sz:=by rw [← hcl];exact (List.getElem?_eq_some_iff.1 hu).1
   rw [← Go.Deep.add_add,hat j hj,hu]
  have mk : ∀ len : Nat,(∀ i : Nat,i < len→∃ y,∃ c,c.length=d.sz∧d.K w y c∧ok y∧∀ j u,c[j]? = some u→w.cell? (a.add (i * d.sz + j))=some u)→∃ ys : List α,ys.length=len∧∀ j y,ys[j]? = some y→∃ c,c.length=d.sz∧d.K w y c∧ok y∧∀ i u,c[i]? = some u→w.cell? (a.add (j * d.sz + i))=some u:=by
   intro len key
   induction len with
   | zero=>exact ⟨[],rfl,fun j y hj=>by simp at hj⟩
   | succ len ih=>
    obtain ⟨ys,hl,hy⟩:=ih (fun i hi=>key i (by omega))
    obtain ⟨y,c,h1,h2,h3,h4⟩:=key len (by omega)
    refine ⟨ys ++ [y],by simp [hl],fun j z hj=>?_⟩
    by_cases hjl : j < len
    ·rw [List.getElem?_append_left (by omega)] at hj
     exact hy j z hj
    ·rw [List.getElem?_append_right (by omega)] at hj
     have : j=len:=by
      have:=(List.getElem?_eq_some_iff.1 hj).1
      simp at this
      omega
     subst this
     rw [hl,Nat.sub_self] at hj
     obtain rfl : y=z:=by simpa using hj
     exact ⟨c,h1,h2,h3,h4⟩
  obtain ⟨ys,hlen,hys⟩:=mk len key
  refine ⟨ys,⟨some a,cap,by rw [hlen],by omega,rfl,?_,fun _=>⟨a,rfl,fun j y hj=>?_⟩⟩,by omega,fun y hy=>?_⟩
  ·have:=max_le
   omega
  ·obtain ⟨c,h1,h2,_,h4⟩:=hys j y hj
   exact ⟨c,h1,h2,h4⟩
  ·obtain ⟨j,hj,rfl⟩:=List.getElem_of_mem hy
   obtain ⟨_,_,_,h3,_⟩:=hys j _ (List.getElem?_eq_getElem hj)
   exact h3
theorem sized_row {t e : TypeId} {a : Option Addr} {len cap : Nat} {d : DataW H} {ps : List MemPlace} {ts : List TypeId} {ds : List (DataW H)} {j : Nat}
  (hsz : (DataW.weightsEach P ts ds).all (·≤reachBytes)=true) (ht : ts[j]? = some t) (hd : ds[j]? = some d) (hu : P.underlying t=some (.slice e)) {B : Nat} (hB : P.bytesOf e=B)
  (h : DataW.Trod enc P w 0 (fun _=>true) true t (.slice a len cap) d ps) : len * B≤140737488351232:=by
 obtain ⟨fuel,hf⟩:=h
 rcases DataW.trod_slice hu hf with ⟨hcs,_⟩ | ⟨x,l,c,elems,rest,n,_,hcs,hx,_,_,_,hl,_⟩
 ·simp [Value.cells] at hcs
  obtain ⟨rfl,rfl,rfl⟩:=hcs
  simp
 ·simp [Value.cells] at hcs
  obtain ⟨rfl,rfl,rfl⟩:=hcs
  obtain ⟨hx,_⟩:=Prod.mk.inj hx
  subst hx
  have z:=sized_slice hsz ht hd hu
  rw [hB] at z
  have h1 : len≤(elems.map (·.1)).length + (rest.map (·.1)).length:=by simp;omega
  exact Nat.le_trans (Nat.mul_le_mul_right _ h1) z
end
end Go.Proofs.Ytldifiededjgjaa.Opens
