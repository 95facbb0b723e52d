/- For all inputs the law FnSumps answers true, and no call of it panics. -/
import Derived.Test.YtldifiededjgjaaQS2
namespace Go.Proofs.Ytldifiededjgjaa.P
open Go.RowKit Go.Proofs.YtldifiededjgjaaW.PrintWords Go.Proofs.YtldifiededjgjaaW.PrintLast Go.Proofs.YtldifiededjgjaaW.PrintMore
attribute [local go_sem] max2_int min2_int max_two min_two max_three min_three max_four min_four
set_option linter.unusedVariables false
set_option linter.unusedSimpArgs false
def spec_DrawOpenFor.f (k : Nat) (l0 : List Int) : Option ((List (S30)) × (List (S44)) × Int):=(spec_l1Cur_readings.f k l0 0 0).bind fun bt632=>((spec_l1Cur_sumps.f k l0 bt632.2.1 bt632.2.2).bind fun bt637=>((some (([1,2,5,30,100,0,101] : List Int) : List Int)).bind fun y642=>((spec_l1Cur_pick.f l0 bt637.2.1 bt637.2.2 24).bind fun bt645=>(if 0≤(wrap64 (5 + (wrap64 (Int.tdiv bt645.1 11)))) then (if (wrap64 (5 + (wrap64 (Int.tdiv bt645.1 11))))≤(y642.length : Int) then ((spec_l1Cur_among.f l0 bt645.2.1 bt645.2.2 (y642.take ((wrap64 (5 + (wrap64 (Int.tdiv bt645.1 11)))) : Int).toNat)).bind fun bt651=>(some (bt632.1,bt637.1,bt651.1))) else (none)) else (none)))))
theorem spec_DrawOpenFor.mono : ∀ a0 k,LeO (spec_DrawOpenFor.f k a0) (spec_DrawOpenFor.f (k + 1) a0):=by
 intro a0 k
 unfold spec_DrawOpenFor.f
 repeat' first
   | (with_reducible exact spec_l1Cur_readings.mono _ _ _ _)
   | (with_reducible exact spec_l1Cur_sumps.mono _ _ _ _)
   | (with_reducible exact LeO.refl _)
   | (with_reducible exact LeO.none _)
   | (with_reducible refine LeO.ite ?_ ?_)
   | (with_reducible refine LeO.bind ?_ (fun _=>?_))
set_option maxHeartbeats 8000000 in
set_option maxRecDepth 100000 in
theorem spec_DrawOpenFor.calls (k : Nat) (A0 : Option Addr) (c0 : Nat) (l0 : List Int) (r1 : List (S30)) (r2 : List (S44)) (r3 : Int) (w : World) (hr0 : Kd.C (Kd.int .u8) w A0 l0.length l0) (hc0 : l0.length≤c0) (h : spec_DrawOpenFor.f k l0=some (r1,r2,r3)) :
  Calls Try.prog 36 #[.slice A0 l0.length c0] w fun e w'=>∃ v0_ v1_ : Value,e = .returned (.tuple #[v0_,v1_,.int .i64 r3])∧Kd.R k30 30 w' w.heap.size (fun _=>True) v0_ r1∧Kd.R k44 44 w' w.heap.size (fun _=>True) v1_ r2∧Below w.heap.size w w':=by
 have hu77:=Try.underlying77
 have HR0:=amk hr0
 have HC0:=amk hc0
 clear hr0 hc0
 have HB:=amk (Below.refl w.heap.size w)
 have H : ((spec_l1Cur_readings.f k l0 0 0).bind fun bt632=>((spec_l1Cur_sumps.f k l0 bt632.2.1 bt632.2.2).bind fun bt637=>((some (([1,2,5,30,100,0,101] : List Int) : List Int)).bind fun y642=>((spec_l1Cur_pick.f l0 bt637.2.1 bt637.2.2 24).bind fun bt645=>(if 0≤(wrap64 (5 + (wrap64 (Int.tdiv bt645.1 11)))) then (if (wrap64 (5 + (wrap64 (Int.tdiv bt645.1 11))))≤(y642.length : Int) then ((spec_l1Cur_among.f l0 bt645.2.1 bt645.2.2 (y642.take ((wrap64 (5 + (wrap64 (Int.tdiv bt645.1 11)))) : Int).toNat)).bind fun bt651=>(some (bt632.1,bt637.1,bt651.1))) else (none)) else (none))))))=some (r1,r2,r3):=h
 clear h
 replace H:=obs H
 obtain ⟨⟨t632,t635,t636⟩,A20,H⟩:=H
 replace H : ((spec_l1Cur_sumps.f k l0 t635 t636).bind fun bt637=>((some (([1,2,5,30,100,0,101] : List Int) : List Int)).bind fun y642=>((spec_l1Cur_pick.f l0 bt637.2.1 bt637.2.2 24).bind fun bt645=>(if 0≤(wrap64 (5 + (wrap64 (Int.tdiv bt645.1 11)))) then (if (wrap64 (5 + (wrap64 (Int.tdiv bt645.1 11))))≤(y642.length : Int) then ((spec_l1Cur_among.f l0 bt645.2.1 bt645.2.2 (y642.take ((wrap64 (5 + (wrap64 (Int.tdiv bt645.1 11)))) : Int).toNat)).bind fun bt651=>(some (t632,bt637.1,bt651.1))) else (none)) else (none)))))=some (r1,r2,r3):=H
 have A2:=amk A20
 clear A20
 replace H:=obs H
 obtain ⟨⟨t637,t640,t641⟩,A30,H⟩:=H
 replace H : ((some (([1,2,5,30,100,0,101] : List Int) : List Int)).bind fun y642=>((spec_l1Cur_pick.f l0 t640 t641 24).bind fun bt645=>(if 0≤(wrap64 (5 + (wrap64 (Int.tdiv bt645.1 11)))) then (if (wrap64 (5 + (wrap64 (Int.tdiv bt645.1 11))))≤(y642.length : Int) then ((spec_l1Cur_among.f l0 bt645.2.1 bt645.2.2 (y642.take ((wrap64 (5 + (wrap64 (Int.tdiv bt645.1 11)))) : Int).toNat)).bind fun bt651=>(some (t632,t637,bt651.1))) else (none)) else (none))))=some (r1,r2,r3):=H
 have A3:=amk A30
 clear A30
 obtain ⟨y642,hy642⟩ : ∃ y_ : List Int,y_=(([1,2,5,30,100,0,101] : List Int)):=⟨_,rfl⟩
 replace H : ((spec_l1Cur_pick.f l0 t640 t641 24).bind fun bt645=>(if 0≤(wrap64 (5 + (wrap64 (Int.tdiv bt645.1 11)))) then (if (wrap64 (5 + (wrap64 (Int.tdiv bt645.1 11))))≤(y642.length : Int) then ((spec_l1Cur_among.f l0 bt645.2.1 bt645.2.2 (y642.take ((wrap64 (5 + (wrap64 (Int.tdiv bt645.1 11)))) : Int).toNat)).bind fun bt651=>(some (t632,t637,bt651.1))) else (none)) else (none)))=some (r1,r2,r3):=by first | (rw [hy642];with_reducible exact H)|(have H2_:=(Option.bind_some _ _).symm.trans H;rw [hy642];with_reducible exact H2_)|(have H2_:=(Option.bind_some _ _).symm.trans H;with_reducible exact H2_) | with_reducible exact H | (rw [hy642];exact H) | exact H
 have Ny642:=amk hy642
 clear hy642
 replace H:=obs H
 obtain ⟨⟨t645,t646,t647⟩,A40,H⟩:=H
 replace H : (if 0≤(wrap64 (5 + (wrap64 (Int.tdiv t645 11)))) then (if (wrap64 (5 + (wrap64 (Int.tdiv t645 11))))≤(y642.length : Int) then ((spec_l1Cur_among.f l0 t646 t647 (y642.take ((wrap64 (5 + (wrap64 (Int.tdiv t645 11)))) : Int).toNat)).bind fun bt651=>(some (t632,t637,bt651.1))) else (none)) else (none))=some (r1,r2,r3):=H
 have A4:=amk A40
 clear A40
 obtain ⟨ji5,hji5⟩ : ∃ j_ : Int,(wrap64 (5 + (wrap64 (Int.tdiv t645 11))))=j_:=⟨_,rfl⟩
 replace H : (if 0≤(ji5) then (if (ji5)≤(y642.length : Int) then ((spec_l1Cur_among.f l0 t646 t647 (y642.take ((ji5) : Int).toNat)).bind fun bt651=>(some (t632,t637,bt651.1))) else (none)) else (none))=some (r1,r2,r3):=by first | (rw [hji5] at H;exact H)|(simp only [hji5] at H ⊢;exact H)
 (try rw [hji5] at A2)
 (try rw [hji5] at A3)
 (try rw [hji5] at A4)
 have hji5w : (IntKind.i64.wrap (5 + (wrap64 (Int.tdiv t645 11))))=ji5:=(i64_w _).trans hji5
 by_cases c6 : 0≤(ji5)
 ·rw [if_pos c6] at H
  have c6b0:=eq_true c6
  have c6b1 : decide (0≤(ji5))=true:=decide_eq_true c6
  clear c6
  by_cases c7 : (ji5)≤(y642.length : Int)
  ·rw [if_pos c7] at H
   have c7b0:=eq_true c7
   have c7b1 : decide ((ji5)≤(y642.length : Int))=true:=decide_eq_true c7
   clear c7
   obtain ⟨y648,hy648⟩ : ∃ y_ : List Int,y_=(y642.take ((ji5) : Int).toNat):=⟨_,rfl⟩
   replace H : ((spec_l1Cur_among.f l0 t646 t647 y648).bind fun bt651=>(some (t632,t637,bt651.1)))=some (r1,r2,r3):=by first | (rw [hy648];with_reducible exact H)|(have H2_:=(Option.bind_some _ _).symm.trans H;rw [hy648];with_reducible exact H2_)|(have H2_:=(Option.bind_some _ _).symm.trans H;with_reducible exact H2_) | with_reducible exact H | (rw [hy648];exact H) | exact H
   have Ny648:=amk hy648
   clear hy648
   replace H:=obs H
   obtain ⟨⟨t651,t652,t653⟩,A80,H⟩:=H
   replace H : (some (t632,t637,t651))=some (r1,r2,r3):=H
   have A8:=amk A80
   clear A80
   simp only [Option.some.injEq,Prod.mk.injEq] at H
   obtain ⟨rfl,rfl,rfl⟩:=H
   go_enter Try.func36,Try.ntmps36
   go_wp2_with (first | ((with_reducible refine gate_dst (N:=10) rfl ?_);refine box_event ?hg (N:=10) ?hd (cs:=#[.slice A0 l0.length c0,.int .i64 0,.int .u64 0]) (t:=77) ?hr ?_;(case hd=>rfl);(case hg=>rfl);(case hr=>first | (go_simp;done)|(go_simp;rfl));intro gb631 hg w9 hbox hb;have HI631:=amk ((⟨_,_,hbox,(by rw [hg];exact (below_size (bel HB)) : w.heap.size≤gb631),HR0.out⟩ : IsS77 w w9 gb631 l0 0 0));replace HB:=amk (below_step (bel HB) hb);clear hb hbox hg)|((with_reducible refine gate_callee (f:=47) rfl ?_);refine goesL_ (some 12) rfl rfl Try.func47 (by kernel_rfl) rfl #[.pointer (some ⟨gb631,0,none⟩)] rfl mtt ?_;(with_reducible refine (spec_l1Cur_readings.calls k gb631 l0 0 0 t632 t635 t636 w _ ?side1 ?side2 A2.out).mono ?_);(case side1=>exact i77_0 HI631);(case side2=>exact bel1 HB (IsS77.ge HI631.out));rintro e w10 ⟨v633,rfl,ho0,hi,hb,hk⟩;refine ⟨_,rfl,?_⟩;have HO634:=amk (Kd.R_lower ho0 (below_size (bel1 HB (IsS77.ge HI631.out))));replace HB:=amk (hb);replace HI631:=amk (hi);(try clear hb hk hi ho0))|((with_reducible refine gate_callee (f:=79) rfl ?_);refine goesL_ (some 14) rfl rfl Try.func79 (by kernel_rfl) rfl #[.pointer (some ⟨gb631,0,none⟩)] rfl mtt ?_;(with_reducible refine (spec_l1Cur_sumps.calls k gb631 l0 t635 t636 t637 t640 t641 w _ ?side1 ?side2 A3.out).mono ?_);(case side1=>exact i77_0 HI631);(case side2=>exact bel1 HB (IsS77.ge HI631.out));rintro e w11 ⟨v638,rfl,ho0,hi,hb,hk⟩;refine ⟨_,rfl,?_⟩;replace HO634:=amk (Kd.R_mono (Kd.R_keep (IsS77.apart (show IsS77 w _ gb631 l0 t635 t636 from by exact i77_0 HI631) (rrr HO634) (by decide)) hk (fun _ h=>h.2)) (fun _ h=>h.1));have HO639:=amk (Kd.R_lower ho0 (below_size (bel1 HB (IsS77.ge HI631.out))));replace HB:=amk (hb);replace HI631:=amk (hi);(try clear hb hk hi ho0))|((with_reducible refine gate_dst (N:=18) rfl ?_);refine Kd.R_lit (Kd.int .i64) _ 3 ?hg (N:=18) ?hd (xs:=([1,2,5,30,100,0,101] : List Int)) (inner:=[.int .i64 1,.int .i64 2,.int .i64 5,.int .i64 30,.int .i64 100,.int .i64 0,.int .i64 101]) (ok:=fun _=>True) (okp:=fun _=>True) ?hr ?hp (fun _ hk=>hk) trivial (Below.refl _ _) (Nat.le_refl _) (by simp) ?_;(case hd=>rfl);(case hg=>rfl);(case hr=>first | (go_simp;done)|(go_simp;rfl));(case hp=>exact (Reps.one (show Kd.M (Kd.int .i64) _ _ _ 1 [.int .i64 1] from rfl) (Reps.one (show Kd.M (Kd.int .i64) _ _ _ 2 [.int .i64 2] from rfl) (Reps.one (show Kd.M (Kd.int .i64) _ _ _ 5 [.int .i64 5] from rfl) (Reps.one (show Kd.M (Kd.int .i64) _ _ _ 30 [.int .i64 30] from rfl) (Reps.one (show Kd.M (Kd.int .i64) _ _ _ 100 [.int .i64 100] from rfl) (Reps.one (show Kd.M (Kd.int .i64) _ _ _ 0 [.int .i64 0] from rfl) (Reps.one (show Kd.M (Kd.int .i64) _ _ _ 101 [.int .i64 101] from rfl) (Reps.none _ _)))))))));intro v643 w12 ho13 hb hg_ hnew_;clear hg_ hnew_;(first | rw [← Ny642.out] at ho13 | (simp only [Int.reduceToNat] at ho13;rw [← Ny642.out] at ho13));replace HO634:=amk (Kd.R_below (rrr HO634) hb);replace HO639:=amk (Kd.R_below (rrr HO639) hb);have HO644:=amk (Kd.R_lower ho13 (below_size (bel1 HB (IsS77.ge HI631.out))));replace HB:=amk (below_step (bel1 HB (IsS77.ge HI631.out)) hb);replace HI631:=amk (IsS77.below (i77_0 HI631) hb);clear hb ho13)|((with_reducible refine gate_callee (f:=81) rfl ?_);refine goesL_ (some 20) rfl rfl Try.func81 (by kernel_rfl) rfl #[.pointer (some ⟨gb631,0,none⟩),.int .i64 24] rfl mtt ?_;(with_reducible refine (spec_l1Cur_pick.calls gb631 l0 t640 t641 24 t645 t646 t647 w _ ?side1 ?side2 A4.out).mono ?_);(case side1=>exact i77_0 HI631);(case side2=>exact bel1 HB (IsS77.ge HI631.out));rintro e w14 ⟨rfl,hi,hb,hk⟩;refine ⟨_,rfl,?_⟩;replace HO634:=amk (Kd.R_mono (Kd.R_keep (IsS77.apart (show IsS77 w _ gb631 l0 t640 t641 from by exact i77_0 HI631) (rrr HO634) (by decide)) hk (fun _ h=>h.2)) (fun _ h=>h.1));replace HO639:=amk (Kd.R_mono (Kd.R_keep (IsS77.apart (show IsS77 w _ gb631 l0 t640 t641 from by exact i77_0 HI631) (rrr HO639) (by decide)) hk (fun _ h=>h.2)) (fun _ h=>h.1));replace HO644:=amk (Kd.R_mono (Kd.R_keep (IsS77.apart (show IsS77 w _ gb631 l0 t640 t641 from by exact i77_0 HI631) (rrr HO644) (by decide)) hk (fun _ h=>h.2)) (fun _ h=>h.1));replace HB:=amk (hb);replace HI631:=amk (hi);(try clear hb hk hi);obtain ⟨Ao15,co15,eo15⟩:=Kd.R_slice HO644.out;subst eo15;have q16 : ((ji5) : Int)≤((y642.length : Int) : Int):=of_decide_eq_true ass;obtain ⟨i016,hi016,_,hsz16,_⟩:=info_parts info3;have hcut16:=cut_to (P:=Try.prog) 63 3 .i64 Try.underlying63 hi016 Ao15 y642.length co15 (ji5) (of_decide_eq_true ass) q16 (Kd.R_reads' HO644.out).2.1;have hr16:=Kd.R_take (m:=((ji5) : Int).toNat) HO644.out (by omega);have hy16 : y648.length=((ji5) : Int).toNat:=(by rw [Ny648.out,List.length_take];omega);rw [← Ny648.out] at hr16;rw [← hy16] at hr16 hcut16;clear hy16 hi016 hsz16 HO644;have HO650:=amk hr16;clear hr16;replace q16:=eq_true q16)|((with_reducible refine gate_callee (f:=80) rfl ?_);refine goesL_ (some 24) rfl rfl Try.func80 (by kernel_rfl) rfl #[.pointer (some ⟨gb631,0,none⟩),.slice Ao15 y648.length co15] rfl mtt ?_;(with_reducible refine (spec_l1Cur_among.calls gb631 l0 t646 t647 _ _ y648 t651 t652 t653 w _ ?side1 ?side2 ?side3 ?side4 ?side5 A8.out).mono ?_);(case side1=>exact i77_0 HI631);(case side2=>exact bel1 HB (IsS77.ge HI631.out));(case side3=>exact ccc (Kd.R_reads' HO650.out).2.2);(case side4=>exact (Kd.R_reads' HO650.out).2.1);(case side5=>exact far_slice (IsS77.own_ne HI631.out HO650.out (by decide)));rintro e w17 ⟨rfl,hi,hb,hk⟩;refine ⟨_,rfl,?_⟩;replace HO634:=amk (Kd.R_mono (Kd.R_keep (IsS77.apart (show IsS77 w _ gb631 l0 t646 t647 from by exact i77_0 HI631) (rrr HO634) (by decide)) hk (fun _ h=>h.2)) (fun _ h=>h.1));replace HO639:=amk (Kd.R_mono (Kd.R_keep (IsS77.apart (show IsS77 w _ gb631 l0 t646 t647 from by exact i77_0 HI631) (rrr HO639) (by decide)) hk (fun _ h=>h.2)) (fun _ h=>h.1));replace HO650:=amk (Kd.R_mono (Kd.R_keep (IsS77.apart (show IsS77 w _ gb631 l0 t646 t647 from by exact i77_0 HI631) (rrr HO650) (by decide)) hk (fun _ h=>h.2)) (fun _ h=>h.1));replace HB:=amk (hb);replace HI631:=amk (hi);(try clear hb hk hi)))
   go_ret3
   exact ⟨_,_,by first | rfl | (simp [errW_none,errW_some] <;> rfl)|(simp only [← hji5];first | rfl | (simp [errW_none,errW_some] <;> rfl))|(simp [*,errW_none,errW_some] <;> rfl),rrr HO634,rrr HO639,bel1 HB (IsS77.ge HI631.out)⟩
  ·rw [if_neg c7] at H
   exact absurd H (by simp)
 ·rw [if_neg c6] at H
  exact absurd H (by simp)
mutual
def impl_ClosedSumps.j0 : Nat→List (S30)→List (S44)→Int→Bool→Option (List Int × Bool)
 | 0,_,_,_,_=>none
 | k + 1,x0,x1,x2,x19=>if x19=true then (some (([] : List Int),false)) else (impl_ClosedSumps.l0 k x0 x2 ([] : List Int) x1 (x1.length : Int) 0)
def impl_ClosedSumps.l0 : Nat→List (S30)→Int→List Int→List (S44)→Int→Int→Option (List Int × Bool)
 | 0,_,_,_,_,_,_=>none
 | k + 1,x0,x2,x8,x20,x21,x22=>if x22 < x21 then (if 0≤x22 then (if x22 < (x20.length : Int) then ((impl_Sump_open.f k ((rd_T44 x20 x22).f0) ((rd_T44 x20 x22).f1) ((rd_T44 x20 x22).f2) x0 x2).bind fun t658=>(if t658=true then (impl_ClosedSumps.l0 k x0 x2 x8 x20 x21 (wrap64 (x22 + 1))) else (if x8.length < 17592186044416 then (impl_ClosedSumps.l0 k x0 x2 (x8 ++ [(rd_T44 x20 x22).f0]) x20 x21 (wrap64 (x22 + 1))) else (none)))) else (none)) else (none)) else (some (x8,true))
end
def impl_ClosedSumps.f (k : Nat) (l0 : List (S30)) (l1 : List (S44)) (a2 : Int) : Option (List Int × Bool):=(impl_hasHour.f k l0 a2).bind fun t654=>(if t654=true then ((impl_AreSumps.f k l1).bind fun t655=>(impl_ClosedSumps.j0 k l0 l1 a2 (!t655))) else (impl_ClosedSumps.j0 k l0 l1 a2 true))
theorem impl_ClosedSumps.mono_l : ∀ k,(∀ y0 y1 y2 y3,LeO (impl_ClosedSumps.j0 k y0 y1 y2 y3) (impl_ClosedSumps.j0 (k + 1) y0 y1 y2 y3))∧(∀ y0 y1 y2 y3 y4 y5,LeO (impl_ClosedSumps.l0 k y0 y1 y2 y3 y4 y5) (impl_ClosedSumps.l0 (k + 1) y0 y1 y2 y3 y4 y5))
 | 0=>⟨fun _ _ _ _ r h=>by simp [impl_ClosedSumps.j0] at h,fun _ _ _ _ _ _ r h=>by simp [impl_ClosedSumps.l0] at h⟩
 | k + 1=>by
  obtain ⟨ih0,ih1⟩:=impl_ClosedSumps.mono_l k
  refine ⟨?_,?_⟩
  ·intro y0 y1 y2 y3
   unfold impl_ClosedSumps.j0
   repeat' first
   | (with_reducible exact ih0 _ _ _ _)
   | (with_reducible exact ih1 _ _ _ _ _ _)
   | (with_reducible exact impl_AreSumps.mono _ _)
   | (with_reducible exact impl_Sump_open.mono _ _ _ _ _ _)
   | (with_reducible exact impl_hasHour.mono _ _ _)
   | (with_reducible exact LeO.refl _)
   | (with_reducible exact LeO.none _)
   | (with_reducible refine LeO.ite ?_ ?_)
   | (with_reducible refine LeO.bind ?_ (fun _=>?_))
   | exact ih0 _ _ _ _
   | exact ih1 _ _ _ _ _ _
  ·intro y0 y1 y2 y3 y4 y5
   unfold impl_ClosedSumps.l0
   repeat' first
   | (with_reducible exact ih0 _ _ _ _)
   | (with_reducible exact ih1 _ _ _ _ _ _)
   | (with_reducible exact impl_AreSumps.mono _ _)
   | (with_reducible exact impl_Sump_open.mono _ _ _ _ _ _)
   | (with_reducible exact impl_hasHour.mono _ _ _)
   | (with_reducible exact LeO.refl _)
   | (with_reducible exact LeO.none _)
   | (with_reducible refine LeO.ite ?_ ?_)
   | (with_reducible refine LeO.bind ?_ (fun _=>?_))
   | exact ih0 _ _ _ _
   | exact ih1 _ _ _ _ _ _
theorem impl_ClosedSumps.mono : ∀ a0 a1 a2 k,LeO (impl_ClosedSumps.f k a0 a1 a2) (impl_ClosedSumps.f (k + 1) a0 a1 a2):=by
 intro a0 a1 a2 k
 obtain ⟨ih0,ih1⟩:=impl_ClosedSumps.mono_l k
 unfold impl_ClosedSumps.f
 repeat' first
   | (with_reducible exact ih0 _ _ _ _)
   | (with_reducible exact ih1 _ _ _ _ _ _)
   | (with_reducible exact impl_AreSumps.mono _ _)
   | (with_reducible exact impl_Sump_open.mono _ _ _ _ _ _)
   | (with_reducible exact impl_hasHour.mono _ _ _)
   | (with_reducible exact LeO.refl _)
   | (with_reducible exact LeO.none _)
   | (with_reducible refine LeO.ite ?_ ?_)
   | (with_reducible refine LeO.bind ?_ (fun _=>?_))
   | exact ih0 _ _ _ _
   | exact ih1 _ _ _ _ _ _
set_option maxHeartbeats 8000000 in
set_option maxRecDepth 100000 in
theorem impl_ClosedSumps.calls (k : Nat) (A0 : Option Addr) (c0 : Nat) (l0 : List (S30)) (A1 : Option Addr) (c1 : Nat) (l1 : List (S44)) (a2 : Int) (r1 : List Int) (r2 : Bool) (w : World) (hr0 : Kd.C k30 w A0 l0.length l0) (hc0 : l0.length≤c0) (hr1 : Kd.C k44 w A1 l1.length l1) (hc1 : l1.length≤c1) (h : impl_ClosedSumps.f k l0 l1 a2=some (r1,r2)) :
  Calls Try.prog 37 #[.slice A0 l0.length c0,.slice A1 l1.length c1,.int .i64 a2] w fun e w'=>∃ v0_ : Value,e = .returned (.tuple #[v0_,.bool r2])∧Kd.R (Kd.int .i64) 3 w' w.heap.size (fun _=>True) v0_ r1∧Below w.heap.size w w':=by
 have hu44:=Try.underlying44
 have HR0:=amk hr0
 have HC0:=amk hc0
 clear hr0 hc0
 have HR1:=amk hr1
 have HC1:=amk hc1
 clear hr1 hc1
 have HB:=amk (Below.refl w.heap.size w)
 have H : ((impl_hasHour.f k l0 a2).bind fun t654=>(if t654=true then ((impl_AreSumps.f k l1).bind fun t655=>(impl_ClosedSumps.j0 k l0 l1 a2 (!t655))) else (impl_ClosedSumps.j0 k l0 l1 a2 true)))=some (r1,r2):=h
 clear h
 have HC4:=amk H
 clear H
 go_enter Try.func37,Try.ntmps37
 go_upto_region 1 with (fail)
 go_cut [19] (fun v19 wc=>∃ (kq : Nat) (x19_3 : Bool),v19 = .bool x19_3∧Aside0 (impl_ClosedSumps.j0 kq l0 l1 a2 x19_3=some (r1,r2))∧Aside0 (kq≤k)∧Aside0 (Below w.heap.size w wc))
 case first=>
  have H:=HC4.out
  clear HC4
  replace H:=obs H
  obtain ⟨t654,A50,H⟩:=H
  replace H : (if t654=true then ((impl_AreSumps.f k l1).bind fun t655=>(impl_ClosedSumps.j0 k l0 l1 a2 (!t655))) else (impl_ClosedSumps.j0 k l0 l1 a2 true))=some (r1,r2):=H
  have A5:=amk A50
  clear A50
  by_cases c6 : t654=true
  ·subst c6
   have H1 : ((impl_AreSumps.f k l1).bind fun t655=>(impl_ClosedSumps.j0 k l0 l1 a2 (!t655)))=some (r1,r2):=by rw [if_pos rfl] at H;exact H
   clear H
   have H:=H1
   clear H1
   replace H:=obs H
   obtain ⟨t655,A70,H⟩:=H
   replace H : (impl_ClosedSumps.j0 k l0 l1 a2 (!t655))=some (r1,r2):=H
   have A7:=amk A70
   clear A70
   have H':=amk H
   clear H
   go_wp2_with (first | ((with_reducible refine gate_callee (f:=49) rfl ?_);refine goesL_ (some 13) rfl rfl Try.func49 (by kernel_rfl) rfl #[.slice A0 l0.length c0,.int .i64 a2] rfl mtt ?_;(with_reducible refine (impl_hasHour.calls k _ _ l0 a2 true _ ?side1 ?side2 A5.out).mono ?_);(case side1=>exact ccc (Kd.C_below HR0.out HB.out));(case side2=>exact HC0.out);rintro e w8 ⟨rfl,hb⟩;refine ⟨_,rfl,?_⟩;replace HB:=amk (below_step (bel HB) hb);(try clear hb))|(go_at_call 41;(with_reducible refine (impl_AreSumps.calls k _ _ l1 t655 _ ?side1 ?side2 A7.out).mono ?_);(case side1=>exact ccc (Kd.C_below HR1.out HB.out));(case side2=>exact HC1.out);rintro e w9 ⟨rfl,hb⟩;replace HB:=amk (below_step (bel HB) hb);(try clear hb)))
   go_meet
   case rel=>exact ⟨_,(!t655),rsd,H',⟨by first | omega | exact Nat.le_refl _⟩,⟨bel HB⟩⟩
  ·replace c6:=Bool.eq_false_iff.mpr c6
   subst c6
   have H1 : (impl_ClosedSumps.j0 k l0 l1 a2 true)=some (r1,r2):=by rw [if_neg (show ¬ (false=true) by decide)] at H;exact H
   clear H
   have H:=H1
   clear H1
   have H':=amk H
   clear H
   go_wp2_with (first | ((with_reducible refine gate_callee (f:=49) rfl ?_);refine goesL_ (some 13) rfl rfl Try.func49 (by kernel_rfl) rfl #[.slice A0 l0.length c0,.int .i64 a2] rfl mtt ?_;(with_reducible refine (impl_hasHour.calls k _ _ l0 a2 false _ ?side1 ?side2 A5.out).mono ?_);(case side1=>exact ccc (Kd.C_below HR0.out HB.out));(case side2=>exact HC0.out);rintro e w10 ⟨rfl,hb⟩;refine ⟨_,rfl,?_⟩;replace HB:=amk (below_step (bel HB) hb);(try clear hb)))
   go_meet
   case rel=>exact ⟨_,(true),rsd,H',⟨by first | omega | exact Nat.le_refl _⟩,⟨bel HB⟩⟩
 case rest=>
  clear HC4
  try clear c1
  try clear p2
  try clear c3
  try clear c4
  try clear c6
  obtain ⟨kq,x19_3,rfl,HA,HJ3,HB⟩:=hcut
  cases kq with
  | zero=>exact absurd HA.out (by simp [impl_ClosedSumps.j0])
  | succ kj3=>
   have H:=HA.out
   clear HA
   simp only [impl_ClosedSumps.j0] at H
   by_cases c11 : x19_3=true
   ·subst c11
    have H1 : (some (([] : List Int),false))=some (r1,r2):=by rw [if_pos rfl] at H;exact H
    clear H
    have H:=H1
    clear H1
    simp only [Option.some.injEq,Prod.mk.injEq] at H
    obtain ⟨rfl,rfl⟩:=H
    go_wp2
    go_ret2
    exact ⟨_,erw0,by first | exact Kd.R_nil _ _ _ _ _ | exact Kd.N_nil _ _ _ _ _ | exact Kd.V_nil _ _ _ _ _ | exact Kd.Q_nil _ _ _ _ _ | exact Kd.S_nil _ _ _ _ _,bel HB⟩
   ·replace c11:=Bool.eq_false_iff.mpr c11
    subst c11
    have H1 : (impl_ClosedSumps.l0 kj3 l0 a2 ([] : List Int) l1 (l1.length : Int) 0)=some (r1,r2):=by rw [if_neg (show ¬ (false=true) by decide)] at H;exact H
    clear H
    have H:=H1
    clear H1
    have H':=amk H
    clear H
    go_wp2
    go_loopg [8,22] kj3 (fun kq v8 v22 w'=>∃ (x8_2 : List Int) (x22_2 : Int),v22 = .int .i64 x22_2∧Aside0 (impl_ClosedSumps.l0 kq l0 a2 x8_2 l1 (l1.length : Int) x22_2=some (r1,r2))∧Aside0 (kq≤kj3)∧Aside0 (Kd.R (Kd.int .i64) 3 w' w.heap.size (fun _=>True) v8 x8_2)∧Aside0 (Below w.heap.size w w'))
    case atStart=>exact ⟨(([] : List Int)),(0),rsd,H',⟨Nat.le_refl _⟩,⟨by first | exact Kd.R_nil _ _ _ _ _ | exact Kd.N_nil _ _ _ _ _ | exact Kd.V_nil _ _ _ _ _ | exact Kd.Q_nil _ _ _ _ _ | exact Kd.S_nil _ _ _ _ _⟩,⟨bel HB⟩⟩
    case round=>
     clear H'
     try clear c1
     try clear p2
     try clear c3
     try clear c4
     try clear c6
     try clear c11
     try clear p2
     obtain ⟨x8_2,x22_2,rfl,HA,HK2,HO_8,HB⟩:=hrel
     cases gk with
     | zero=>exact absurd HA.out (by simp [impl_ClosedSumps.l0])
     | succ k2=>
      have H:=HA.out
      clear HA
      simp only [impl_ClosedSumps.l0] at H
      by_cases c12 : x22_2 < (l1.length : Int)
      ·rw [if_pos c12] at H
       have c12b0 : decide (x22_2 < (l1.length : Int))=true:=decide_eq_true c12
       clear c12
       by_cases c13 : 0≤x22_2
       ·rw [if_pos c13] at H
        have c13b0 : decide (0≤x22_2)=true:=decide_eq_true c13
        clear c13
        by_cases c14 : x22_2 < (l1.length : Int)
        ·rw [if_pos c14] at H
         have c14b0 : decide (x22_2 < (l1.length : Int))=true:=decide_eq_true c14
         clear c14
         replace H:=obs H
         obtain ⟨t658,A150,H⟩:=H
         replace H : (if t658=true then (impl_ClosedSumps.l0 k2 l0 a2 x8_2 l1 (l1.length : Int) (wrap64 (x22_2 + 1))) else (if x8_2.length < 17592186044416 then (impl_ClosedSumps.l0 k2 l0 a2 (x8_2 ++ [(rd_T44 l1 x22_2).f0]) l1 (l1.length : Int) (wrap64 (x22_2 + 1))) else (none)))=some (r1,r2):=H
         have A15:=amk A150
         clear A150
         by_cases c16 : t658=true
         ·subst c16
          have H1 : (impl_ClosedSumps.l0 k2 l0 a2 x8_2 l1 (l1.length : Int) (wrap64 (x22_2 + 1)))=some (r1,r2):=by rw [if_pos rfl] at H;exact H
          clear H
          have H:=H1
          clear H1
          have H':=amk H
          clear H
          have p656 : 0≤(x22_2 : Int):=of_decide_eq_true ass
          have q656 : x22_2 < (l1.length : Int):=of_decide_eq_true ass
          obtain ⟨ad656,e656,hx656_0,hx656_1,hx656_2⟩:=at_T44 HR1.out x22_2 p656 q656
          cases e656
          replace hx656_0:=(HB.out.cell (World.block_lt_of_cell? w _ hx656_0)).trans hx656_0
          replace hx656_1:=(HB.out.cell (World.block_lt_of_cell? w _ hx656_1)).trans hx656_1
          replace hx656_2:=(HB.out.cell (World.block_lt_of_cell? w _ hx656_2)).trans hx656_2
          replace p656:=eq_true p656
          replace q656:=eq_true q656
          go_wp2_with (first | ((with_reducible refine gate_dst (N:=10) rfl ?_);refine box_event ?hg (N:=10) ?hd (cs:=#[.int .i64 0,.int .i64 0,.int .i64 0]) (t:=44) ?hr ?_;(case hd=>rfl);(case hg=>rfl);(case hr=>first | (go_simp;done)|(go_simp;rfl));intro gb657 hg w17 hbox hb;replace HO_8:=amk (Kd.R_below (rrr HO_8) hb);have BK657:=amk (hbox);have GW657:=amk ((by rw [hg];exact (below_size (bel HB)) : w.heap.size≤gb657));have GE657:=amk ((by rw [hg];exact (below_size (bel HB)) : w.heap.size≤gb657));replace HB:=amk (below_step (bel HB) hb);clear hb hbox hg;have hcz18_0 : w17.cell? ⟨gb657,0,none⟩=some (.int .i64 0):=(blk_cell BK657.out 0).trans rfl;have hcz18_1 : w17.cell? ⟨gb657,1,none⟩=some (.int .i64 0):=(blk_cell BK657.out 1).trans rfl;have hcz18_2 : w17.cell? ⟨gb657,2,none⟩=some (.int .i64 0):=(blk_cell BK657.out 2).trans rfl;have hfz18_0:=blk_frozen BK657.out 0;have hfz18_1:=blk_frozen BK657.out 1;have hfz18_2:=blk_frozen BK657.out 2)|((with_reducible refine gate_callee (f:=66) rfl ?_);refine goesL_ (some 29) rfl rfl Try.func66 (by kernel_rfl) rfl #[.agg #[.int .i64 ((rd_T44 l1 x22_2).f0),.int .i64 ((rd_T44 l1 x22_2).f1),.int .i64 ((rd_T44 l1 x22_2).f2)],.slice A0 l0.length c0,.int .i64 a2] rfl mtt ?_;(with_reducible refine (impl_Sump_open.calls k2 ((rd_T44 l1 x22_2).f0) ((rd_T44 l1 x22_2).f1) ((rd_T44 l1 x22_2).f2) _ _ l0 a2 true _ ?side1 ?side2 A15.out).mono ?_);(case side1=>exact Kd.C_below HR0.out (bel1 HB GE657.out));(case side2=>exact HC0.out);rintro e w19 ⟨rfl,hb⟩;refine ⟨_,rfl,?_⟩;have n0_:=amk (Kd.R_below (by (with_reducible repeat (first | apply Kd.R_alloc | apply Kd.R_drewN | apply Kd.R_drew));exact (Kd.R_mono (Kd.R_far (p:=⟨gb657,2,none⟩) (Kd.R_far (p:=⟨gb657,1,none⟩) (Kd.R_far (p:=⟨gb657,0,none⟩) (Kd.R_types HO_8.out BK657.out (by decide)) (fun _ hk=>hk.2) (.int .i64 ((rd_T44 l1 x22_2).f0))) (fun _ hk=>hk.2) (.int .i64 ((rd_T44 l1 x22_2).f1))) (fun _ hk=>hk.2) (.int .i64 ((rd_T44 l1 x22_2).f2))) (fun _ h_=>h_.1))) hb);have n1_:=amk (blk_below (g:=gb657) (o:=.cells #[.int .i64 ((rd_T44 l1 x22_2).f0),.int .i64 ((rd_T44 l1 x22_2).f1),.int .i64 ((rd_T44 l1 x22_2).f2)] 44 (0,0)) (by (with_reducible repeat (first | refine blk_drewN ?_ _ | refine blk_drew ?_ | refine blk_alloc ?_ _));refine blk_put (cs:=#[.int .i64 ((rd_T44 l1 x22_2).f0),.int .i64 ((rd_T44 l1 x22_2).f1),.int .i64 0]) ?_ 2 _ rfl;(with_reducible repeat (first | refine blk_drewN ?_ _ | refine blk_drew ?_ | refine blk_alloc ?_ _));refine blk_put (cs:=#[.int .i64 ((rd_T44 l1 x22_2).f0),.int .i64 0,.int .i64 0]) ?_ 1 _ rfl;(with_reducible repeat (first | refine blk_drewN ?_ _ | refine blk_drew ?_ | refine blk_alloc ?_ _));refine blk_put (cs:=#[.int .i64 0,.int .i64 0,.int .i64 0]) ?_ 0 _ rfl;(with_reducible repeat (first | refine blk_drewN ?_ _ | refine blk_drew ?_ | refine blk_alloc ?_ _));exact BK657.out) hb);have n2_:=amk (below_step (bel1 HB GE657.out) hb);clear HO_8;clear BK657;clear HB;have HO_8:=n0_;have BK657:=n1_;have HB:=n2_;clear n0_ n1_ n2_;(try clear hb)))
          go_roundg k2
          case measure=>have:=HJ3.out;have:=HK2.out;omega
          case rel=>exact ⟨(x8_2),(wrap64 (x22_2 + 1)),rsd,H',⟨by have:=HJ3.out;have:=HK2.out;omega⟩,⟨rrr HO_8⟩,⟨bel1 HB GE657.out⟩⟩
         ·replace c16:=Bool.eq_false_iff.mpr c16
          subst c16
          have H1 : (if x8_2.length < 17592186044416 then (impl_ClosedSumps.l0 k2 l0 a2 (x8_2 ++ [(rd_T44 l1 x22_2).f0]) l1 (l1.length : Int) (wrap64 (x22_2 + 1))) else (none))=some (r1,r2):=by rw [if_neg (show ¬ (false=true) by decide)] at H;exact H
          clear H
          have H:=H1
          clear H1
          by_cases c20 : x8_2.length < 17592186044416
          ·rw [if_pos c20] at H
           have LMc20:=amk c20
           clear c20
           obtain ⟨y659,hy659⟩ : ∃ y_ : List Int,y_=(x8_2 ++ [(rd_T44 l1 x22_2).f0]):=⟨_,rfl⟩
           replace H : (impl_ClosedSumps.l0 k2 l0 a2 y659 l1 (l1.length : Int) (wrap64 (x22_2 + 1)))=some (r1,r2):=by first | (rw [hy659];with_reducible exact H)|(have H2_:=(Option.bind_some _ _).symm.trans H;rw [hy659];with_reducible exact H2_)|(have H2_:=(Option.bind_some _ _).symm.trans H;with_reducible exact H2_) | with_reducible exact H | (rw [hy659];exact H) | exact H
           have Ny659:=amk hy659
           clear hy659
           have H':=amk H
           clear H
           have p656 : 0≤(x22_2 : Int):=of_decide_eq_true ass
           have q656 : x22_2 < (l1.length : Int):=of_decide_eq_true ass
           obtain ⟨ad656,e656,hx656_0,hx656_1,hx656_2⟩:=at_T44 HR1.out x22_2 p656 q656
           cases e656
           replace hx656_0:=(HB.out.cell (World.block_lt_of_cell? w _ hx656_0)).trans hx656_0
           replace hx656_1:=(HB.out.cell (World.block_lt_of_cell? w _ hx656_1)).trans hx656_1
           replace hx656_2:=(HB.out.cell (World.block_lt_of_cell? w _ hx656_2)).trans hx656_2
           replace p656:=eq_true p656
           replace q656:=eq_true q656
           go_wp2_with (first | ((with_reducible refine gate_dst (N:=10) rfl ?_);refine box_event ?hg (N:=10) ?hd (cs:=#[.int .i64 0,.int .i64 0,.int .i64 0]) (t:=44) ?hr ?_;(case hd=>rfl);(case hg=>rfl);(case hr=>first | (go_simp;done)|(go_simp;rfl));intro gb657 hg w21 hbox hb;replace HO_8:=amk (Kd.R_below (rrr HO_8) hb);have BK657:=amk (hbox);have GW657:=amk ((by rw [hg];exact (below_size (bel HB)) : w.heap.size≤gb657));have GE657:=amk ((by rw [hg];exact (below_size (bel HB)) : w.heap.size≤gb657));replace HB:=amk (below_step (bel HB) hb);clear hb hbox hg;have hcz22_0 : w21.cell? ⟨gb657,0,none⟩=some (.int .i64 0):=(blk_cell BK657.out 0).trans rfl;have hcz22_1 : w21.cell? ⟨gb657,1,none⟩=some (.int .i64 0):=(blk_cell BK657.out 1).trans rfl;have hcz22_2 : w21.cell? ⟨gb657,2,none⟩=some (.int .i64 0):=(blk_cell BK657.out 2).trans rfl;have hfz22_0:=blk_frozen BK657.out 0;have hfz22_1:=blk_frozen BK657.out 1;have hfz22_2:=blk_frozen BK657.out 2)|((with_reducible refine gate_callee (f:=66) rfl ?_);refine goesL_ (some 29) rfl rfl Try.func66 (by kernel_rfl) rfl #[.agg #[.int .i64 ((rd_T44 l1 x22_2).f0),.int .i64 ((rd_T44 l1 x22_2).f1),.int .i64 ((rd_T44 l1 x22_2).f2)],.slice A0 l0.length c0,.int .i64 a2] rfl mtt ?_;(with_reducible refine (impl_Sump_open.calls k2 ((rd_T44 l1 x22_2).f0) ((rd_T44 l1 x22_2).f1) ((rd_T44 l1 x22_2).f2) _ _ l0 a2 false _ ?side1 ?side2 A15.out).mono ?_);(case side1=>exact Kd.C_below HR0.out (bel1 HB GE657.out));(case side2=>exact HC0.out);rintro e w23 ⟨rfl,hb⟩;refine ⟨_,rfl,?_⟩;have n0_:=amk (Kd.R_below (by (with_reducible repeat (first | apply Kd.R_alloc | apply Kd.R_drewN | apply Kd.R_drew));exact (Kd.R_mono (Kd.R_far (p:=⟨gb657,2,none⟩) (Kd.R_far (p:=⟨gb657,1,none⟩) (Kd.R_far (p:=⟨gb657,0,none⟩) (Kd.R_types HO_8.out BK657.out (by decide)) (fun _ hk=>hk.2) (.int .i64 ((rd_T44 l1 x22_2).f0))) (fun _ hk=>hk.2) (.int .i64 ((rd_T44 l1 x22_2).f1))) (fun _ hk=>hk.2) (.int .i64 ((rd_T44 l1 x22_2).f2))) (fun _ h_=>h_.1))) hb);have n1_:=amk (blk_below (g:=gb657) (o:=.cells #[.int .i64 ((rd_T44 l1 x22_2).f0),.int .i64 ((rd_T44 l1 x22_2).f1),.int .i64 ((rd_T44 l1 x22_2).f2)] 44 (0,0)) (by (with_reducible repeat (first | refine blk_drewN ?_ _ | refine blk_drew ?_ | refine blk_alloc ?_ _));refine blk_put (cs:=#[.int .i64 ((rd_T44 l1 x22_2).f0),.int .i64 ((rd_T44 l1 x22_2).f1),.int .i64 0]) ?_ 2 _ rfl;(with_reducible repeat (first | refine blk_drewN ?_ _ | refine blk_drew ?_ | refine blk_alloc ?_ _));refine blk_put (cs:=#[.int .i64 ((rd_T44 l1 x22_2).f0),.int .i64 0,.int .i64 0]) ?_ 1 _ rfl;(with_reducible repeat (first | refine blk_drewN ?_ _ | refine blk_drew ?_ | refine blk_alloc ?_ _));refine blk_put (cs:=#[.int .i64 0,.int .i64 0,.int .i64 0]) ?_ 0 _ rfl;(with_reducible repeat (first | refine blk_drewN ?_ _ | refine blk_drew ?_ | refine blk_alloc ?_ _));exact BK657.out) hb);have n2_:=amk (below_step (bel1 HB GE657.out) hb);clear HO_8;clear BK657;clear HB;have HO_8:=n0_;have BK657:=n1_;have HB:=n2_;clear n0_ n1_ n2_;(try clear hb);have hcz24_0 : w23.cell? ⟨gb657,0,none⟩=some (.int .i64 ((rd_T44 l1 x22_2).f0)):=(blk_cell BK657.out 0).trans rfl;have hcz24_1 : w23.cell? ⟨gb657,1,none⟩=some (.int .i64 ((rd_T44 l1 x22_2).f1)):=(blk_cell BK657.out 1).trans rfl;have hcz24_2 : w23.cell? ⟨gb657,2,none⟩=some (.int .i64 ((rd_T44 l1 x22_2).f2)):=(blk_cell BK657.out 2).trans rfl;have hfz24_0:=blk_frozen BK657.out 0;have hfz24_1:=blk_frozen BK657.out 1;have hfz24_2:=blk_frozen BK657.out 2)|((with_reducible refine gate_builtin (b:=.append) (xs:=#[.tmp 31,.tmp 34]) rfl ?_);at_builtin;refine Kd.R_append (Kd.int .i64) (w0:=w) w.heap.size rfl (.tmp 31) (.tmp 34) 63 3 (.int .i64 0) 8 rfl Try.underlying63 info3 rfl (by decide) (by omega) u8 x8_2 ((rd_T44 l1 x22_2).f0) [.int .i64 ((rd_T44 l1 x22_2).f0)] (fun _=>True) (fun _=>False) rfl rfl ?aP (fun _ hk=>hk.elim) ?aF ?aO ?aB ?aS ?aL ?_;(case aP=>exact rfl);(case aB=>exact (bel1 HB GE657.out));(case aF=>exact (fun _ _=>trivial));(case aO=>exact (rrr HO_8));(case aS=>exact (below_size (bel1 HB GE657.out)));(case aL=>have:=LMc20.out;omega);intro v660 w25 ho hb hg hat;rw [← Ny659.out] at ho;replace BK657:=amk (blk_grown (g:=gb657) (o:=.cells #[.int .i64 ((rd_T44 l1 x22_2).f0),.int .i64 ((rd_T44 l1 x22_2).f1),.int .i64 ((rd_T44 l1 x22_2).f2)] 44 (0,0)) (bkk BK657) hg (Kd.R_ne HO_8.out BK657.out (by decide)));replace HB:=amk (hb);have HO661:=amk (ho);clear HO_8;clear ho hb hg hat))
           go_roundg k2
           case measure=>have:=HJ3.out;have:=HK2.out;omega
           case rel=>exact ⟨(y659),(wrap64 (x22_2 + 1)),rsd,H',⟨by have:=HJ3.out;have:=HK2.out;omega⟩,⟨rrr HO661⟩,⟨bel1 HB GE657.out⟩⟩
          ·rw [if_neg c20] at H
           exact absurd H (by simp)
        ·rw [if_neg c14] at H
         exact absurd H (by simp)
       ·rw [if_neg c13] at H
        exact absurd H (by simp)
      ·rw [if_neg c12] at H
       have c12b0 : decide (x22_2 < (l1.length : Int))=false:=decide_eq_false c12
       clear c12
       simp only [Option.some.injEq,Prod.mk.injEq] at H
       obtain ⟨rfl,rfl⟩:=H
       go_wp2
       go_ret2
       exact ⟨_,erw0,rrr HO_8,bel HB⟩
def spec_DrawClosedSumps.f (k : Nat) (l0 : List Int) : Option ((List (S30)) × (List (S44)) × Int):=(spec_l1Cur_readings.f k l0 0 0).bind fun bt663=>((spec_l1Cur_sumps.f k l0 bt663.2.1 bt663.2.2).bind fun bt668=>((spec_l1Cur_hour23.f k l0 bt668.2.1 bt668.2.2 bt663.1).bind fun bt673=>(some (bt663.1,bt668.1,bt673.1))))
theorem spec_DrawClosedSumps.mono : ∀ a0 k,LeO (spec_DrawClosedSumps.f k a0) (spec_DrawClosedSumps.f (k + 1) a0):=by
 intro a0 k
 unfold spec_DrawClosedSumps.f
 repeat' first
   | (with_reducible exact spec_l1Cur_hour23.mono _ _ _ _ _)
   | (with_reducible exact spec_l1Cur_readings.mono _ _ _ _)
   | (with_reducible exact spec_l1Cur_sumps.mono _ _ _ _)
   | (with_reducible exact LeO.refl _)
   | (with_reducible exact LeO.none _)
   | (with_reducible refine LeO.ite ?_ ?_)
   | (with_reducible refine LeO.bind ?_ (fun _=>?_))
set_option maxHeartbeats 8000000 in
set_option maxRecDepth 100000 in
theorem spec_DrawClosedSumps.calls (k : Nat) (A0 : Option Addr) (c0 : Nat) (l0 : List Int) (r1 : List (S30)) (r2 : List (S44)) (r3 : Int) (w : World) (hr0 : Kd.C (Kd.int .u8) w A0 l0.length l0) (hc0 : l0.length≤c0) (h : spec_DrawClosedSumps.f k l0=some (r1,r2,r3)) :
  Calls Try.prog 38 #[.slice A0 l0.length c0] w fun e w'=>∃ v0_ v1_ : Value,e = .returned (.tuple #[v0_,v1_,.int .i64 r3])∧Kd.R k30 30 w' w.heap.size (fun _=>True) v0_ r1∧Kd.R k44 44 w' w.heap.size (fun _=>True) v1_ r2∧Below w.heap.size w w':=by
 have hu77:=Try.underlying77
 have HR0:=amk hr0
 have HC0:=amk hc0
 clear hr0 hc0
 have HB:=amk (Below.refl w.heap.size w)
 have H : ((spec_l1Cur_readings.f k l0 0 0).bind fun bt663=>((spec_l1Cur_sumps.f k l0 bt663.2.1 bt663.2.2).bind fun bt668=>((spec_l1Cur_hour23.f k l0 bt668.2.1 bt668.2.2 bt663.1).bind fun bt673=>(some (bt663.1,bt668.1,bt673.1)))))=some (r1,r2,r3):=h
 clear h
 replace H:=obs H
 obtain ⟨⟨t663,t666,t667⟩,A20,H⟩:=H
 replace H : ((spec_l1Cur_sumps.f k l0 t666 t667).bind fun bt668=>((spec_l1Cur_hour23.f k l0 bt668.2.1 bt668.2.2 t663).bind fun bt673=>(some (t663,bt668.1,bt673.1))))=some (r1,r2,r3):=H
 have A2:=amk A20
 clear A20
 replace H:=obs H
 obtain ⟨⟨t668,t671,t672⟩,A30,H⟩:=H
 replace H : ((spec_l1Cur_hour23.f k l0 t671 t672 t663).bind fun bt673=>(some (t663,t668,bt673.1)))=some (r1,r2,r3):=H
 have A3:=amk A30
 clear A30
 replace H:=obs H
 obtain ⟨⟨t673,t674,t675⟩,A40,H⟩:=H
 replace H : (some (t663,t668,t673))=some (r1,r2,r3):=H
 have A4:=amk A40
 clear A40
 simp only [Option.some.injEq,Prod.mk.injEq] at H
 obtain ⟨rfl,rfl,rfl⟩:=H
 go_enter Try.func38,Try.ntmps38
 go_wp2_with (first | ((with_reducible refine gate_dst (N:=10) rfl ?_);refine box_event ?hg (N:=10) ?hd (cs:=#[.slice A0 l0.length c0,.int .i64 0,.int .u64 0]) (t:=77) ?hr ?_;(case hd=>rfl);(case hg=>rfl);(case hr=>first | (go_simp;done)|(go_simp;rfl));intro gb662 hg w5 hbox hb;have HI662:=amk ((⟨_,_,hbox,(by rw [hg];exact (below_size (bel HB)) : w.heap.size≤gb662),HR0.out⟩ : IsS77 w w5 gb662 l0 0 0));replace HB:=amk (below_step (bel HB) hb);clear hb hbox hg)|((with_reducible refine gate_callee (f:=47) rfl ?_);refine goesL_ (some 12) rfl rfl Try.func47 (by kernel_rfl) rfl #[.pointer (some ⟨gb662,0,none⟩)] rfl mtt ?_;(with_reducible refine (spec_l1Cur_readings.calls k gb662 l0 0 0 t663 t666 t667 w _ ?side1 ?side2 A2.out).mono ?_);(case side1=>exact i77_0 HI662);(case side2=>exact bel1 HB (IsS77.ge HI662.out));rintro e w6 ⟨v664,rfl,ho0,hi,hb,hk⟩;refine ⟨_,rfl,?_⟩;have HO665:=amk (Kd.R_lower ho0 (below_size (bel1 HB (IsS77.ge HI662.out))));replace HB:=amk (hb);replace HI662:=amk (hi);(try clear hb hk hi ho0))|((with_reducible refine gate_callee (f:=79) rfl ?_);refine goesL_ (some 14) rfl rfl Try.func79 (by kernel_rfl) rfl #[.pointer (some ⟨gb662,0,none⟩)] rfl mtt ?_;(with_reducible refine (spec_l1Cur_sumps.calls k gb662 l0 t666 t667 t668 t671 t672 w _ ?side1 ?side2 A3.out).mono ?_);(case side1=>exact i77_0 HI662);(case side2=>exact bel1 HB (IsS77.ge HI662.out));rintro e w7 ⟨v669,rfl,ho0,hi,hb,hk⟩;refine ⟨_,rfl,?_⟩;replace HO665:=amk (Kd.R_mono (Kd.R_keep (IsS77.apart (show IsS77 w _ gb662 l0 t666 t667 from by exact i77_0 HI662) (rrr HO665) (by decide)) hk (fun _ h=>h.2)) (fun _ h=>h.1));have HO670:=amk (Kd.R_lower ho0 (below_size (bel1 HB (IsS77.ge HI662.out))));replace HB:=amk (hb);replace HI662:=amk (hi);(try clear hb hk hi ho0);obtain ⟨Ao8,co8,eo8⟩:=Kd.R_slice HO665.out;subst eo8)|((with_reducible refine gate_callee (f:=48) rfl ?_);refine goesL_ (some 19) rfl rfl Try.func48 (by kernel_rfl) rfl #[.pointer (some ⟨gb662,0,none⟩),.slice Ao8 t663.length co8] rfl mtt ?_;(with_reducible refine (spec_l1Cur_hour23.calls k gb662 l0 t671 t672 _ _ t663 t673 t674 t675 w _ ?side1 ?side2 ?side3 ?side4 A4.out).mono ?_);(case side1=>exact i77_0 HI662);(case side2=>exact bel1 HB (IsS77.ge HI662.out));(case side3=>exact Kd.C_foot_own (IsS77.apart (show IsS77 w _ gb662 l0 t671 t672 from by exact i77_0 HI662) (rrr HO665) (by decide)) (fun _ h_=>h_.2));(case side4=>exact (Kd.R_reads' HO665.out).2.1);rintro e w9 ⟨rfl,hi,hb,hk⟩;refine ⟨_,rfl,?_⟩;replace HO665:=amk (Kd.R_mono (Kd.R_keep (IsS77.apart (show IsS77 w _ gb662 l0 t671 t672 from by exact i77_0 HI662) (rrr HO665) (by decide)) hk (fun _ h=>h.2)) (fun _ h=>h.1));replace HO670:=amk (Kd.R_mono (Kd.R_keep (IsS77.apart (show IsS77 w _ gb662 l0 t671 t672 from by exact i77_0 HI662) (rrr HO670) (by decide)) hk (fun _ h=>h.2)) (fun _ h=>h.1));replace HB:=amk (hb);replace HI662:=amk (hi);(try clear hb hk hi)))
 go_ret3
 exact ⟨_,_,erw0,rrr HO665,rrr HO670,bel1 HB (IsS77.ge HI662.out)⟩
def spec_ClosedSumps.f (k : Nat) (l0 : List (S30)) (l1 : List (S44)) (a2 : Int) : Option (List Int × Bool):=(spec_l23Within.f k l0 a2).bind fun t676=>(if t676=true then ((spec_l23Sumps.f k l1).bind fun t677=>(if t677=true then ((spec_l23Closed.f k l0 l1 a2).bind fun t678=>(some (t678,true))) else (some ((([] : List Int)),false)))) else (some ((([] : List Int)),false)))
theorem spec_ClosedSumps.mono : ∀ a0 a1 a2 k,LeO (spec_ClosedSumps.f k a0 a1 a2) (spec_ClosedSumps.f (k + 1) a0 a1 a2):=by
 intro a0 a1 a2 k
 unfold spec_ClosedSumps.f
 repeat' first
   | (with_reducible exact spec_l23Closed.mono _ _ _ _)
   | (with_reducible exact spec_l23Sumps.mono _ _)
   | (with_reducible exact spec_l23Within.mono _ _ _)
   | (with_reducible exact LeO.refl _)
   | (with_reducible exact LeO.none _)
   | (with_reducible refine LeO.ite ?_ ?_)
   | (with_reducible refine LeO.bind ?_ (fun _=>?_))
set_option maxHeartbeats 8000000 in
set_option maxRecDepth 100000 in
theorem spec_ClosedSumps.calls (k : Nat) (A0 : Option Addr) (c0 : Nat) (l0 : List (S30)) (A1 : Option Addr) (c1 : Nat) (l1 : List (S44)) (a2 : Int) (r1 : List Int) (r2 : Bool) (w : World) (hr0 : Kd.C k30 w A0 l0.length l0) (hc0 : l0.length≤c0) (hr1 : Kd.C k44 w A1 l1.length l1) (hc1 : l1.length≤c1) (h : spec_ClosedSumps.f k l0 l1 a2=some (r1,r2)) :
  Calls Try.prog 39 #[.slice A0 l0.length c0,.slice A1 l1.length c1,.int .i64 a2] w fun e w'=>∃ v0_ : Value,e = .returned (.tuple #[v0_,.bool r2])∧Kd.R (Kd.int .i64) 3 w' w.heap.size (fun _=>True) v0_ r1∧Below w.heap.size w w':=by
 have HR0:=amk hr0
 have HC0:=amk hc0
 clear hr0 hc0
 have HR1:=amk hr1
 have HC1:=amk hc1
 clear hr1 hc1
 have HB:=amk (Below.refl w.heap.size w)
 have H : ((spec_l23Within.f k l0 a2).bind fun t676=>(if t676=true then ((spec_l23Sumps.f k l1).bind fun t677=>(if t677=true then ((spec_l23Closed.f k l0 l1 a2).bind fun t678=>(some (t678,true))) else (some ((([] : List Int)),false)))) else (some ((([] : List Int)),false))))=some (r1,r2):=h
 clear h
 replace H:=obs H
 obtain ⟨t676,A40,H⟩:=H
 replace H : (if t676=true then ((spec_l23Sumps.f k l1).bind fun t677=>(if t677=true then ((spec_l23Closed.f k l0 l1 a2).bind fun t678=>(some (t678,true))) else (some ((([] : List Int)),false)))) else (some ((([] : List Int)),false)))=some (r1,r2):=H
 have A4:=amk A40
 clear A40
 by_cases c5 : t676=true
 ·subst c5
  have H1 : ((spec_l23Sumps.f k l1).bind fun t677=>(if t677=true then ((spec_l23Closed.f k l0 l1 a2).bind fun t678=>(some (t678,true))) else (some ((([] : List Int)),false))))=some (r1,r2):=by rw [if_pos rfl] at H;exact H
  clear H
  have H:=H1
  clear H1
  replace H:=obs H
  obtain ⟨t677,A60,H⟩:=H
  replace H : (if t677=true then ((spec_l23Closed.f k l0 l1 a2).bind fun t678=>(some (t678,true))) else (some ((([] : List Int)),false)))=some (r1,r2):=H
  have A6:=amk A60
  clear A60
  by_cases c7 : t677=true
  ·subst c7
   have H1 : ((spec_l23Closed.f k l0 l1 a2).bind fun t678=>(some (t678,true)))=some (r1,r2):=by rw [if_pos rfl] at H;exact H
   clear H
   have H:=H1
   clear H1
   replace H:=obs H
   obtain ⟨t678,A80,H⟩:=H
   replace H : (some (t678,true))=some (r1,r2):=H
   have A8:=amk A80
   clear A80
   simp only [Option.some.injEq,Prod.mk.injEq] at H
   obtain ⟨rfl,rfl⟩:=H
   go_enter Try.func39,Try.ntmps39
   go_wp2_with (first | ((with_reducible refine gate_callee (f:=51) rfl ?_);refine goesL_ (some 10) rfl rfl Try.func51 (by kernel_rfl) rfl #[.slice A0 l0.length c0,.int .i64 a2] rfl mtt ?_;(with_reducible refine (spec_l23Within.calls k _ _ l0 a2 true _ ?side1 ?side2 A4.out).mono ?_);(case side1=>exact ccc HR0.out);(case side2=>exact HC0.out);rintro e w9 ⟨rfl,hb⟩;refine ⟨_,rfl,?_⟩;replace HB:=amk (below_step (bel HB) hb);(try clear hb))|(go_at_call 71;(with_reducible refine (spec_l23Sumps.calls k _ _ l1 true _ ?side1 ?side2 A6.out).mono ?_);(case side1=>exact ccc (Kd.C_below HR1.out HB.out));(case side2=>exact HC1.out);rintro e w10 ⟨rfl,hb⟩;replace HB:=amk (below_step (bel HB) hb);(try clear hb))|((with_reducible refine gate_callee (f:=73) rfl ?_);refine goesL_ (some 21) rfl rfl Try.func73 (by kernel_rfl) rfl #[.slice A0 l0.length c0,.slice A1 l1.length c1,.int .i64 a2] rfl mtt ?_;(with_reducible refine (spec_l23Closed.calls k _ _ l0 _ _ l1 a2 t678 _ ?side1 ?side2 ?side3 ?side4 A8.out).mono ?_);(case side1=>exact ccc (Kd.C_below HR0.out HB.out));(case side2=>exact HC0.out);(case side3=>exact ccc (Kd.C_below HR1.out HB.out));(case side4=>exact HC1.out);rintro e w11 ⟨v679,rfl,ho0,hb⟩;refine ⟨_,rfl,?_⟩;have HO680:=amk (Kd.R_lower ho0 (below_size (bel HB)));replace HB:=amk (below_step (bel HB) hb);(try clear hb ho0)))
   go_ret2
   exact ⟨_,erw0,rrr HO680,bel HB⟩
  ·replace c7:=Bool.eq_false_iff.mpr c7
   subst c7
   have H1 : (some ((([] : List Int)),false))=some (r1,r2):=by rw [if_neg (show ¬ (false=true) by decide)] at H;exact H
   clear H
   have H:=H1
   clear H1
   obtain ⟨y681,hy681⟩ : ∃ y_ : List Int,y_=(([] : List Int)):=⟨_,rfl⟩
   replace H : (some (y681,false))=some (r1,r2):=by first | (rw [hy681];with_reducible exact H)|(have H2_:=(Option.bind_some _ _).symm.trans H;rw [hy681];with_reducible exact H2_)|(have H2_:=(Option.bind_some _ _).symm.trans H;with_reducible exact H2_) | with_reducible exact H | (rw [hy681];exact H) | exact H
   have Ny681:=amk hy681
   clear hy681
   simp only [Option.some.injEq,Prod.mk.injEq] at H
   obtain ⟨rfl,rfl⟩:=H
   go_enter Try.func39,Try.ntmps39
   go_wp2_with (first | ((with_reducible refine gate_callee (f:=51) rfl ?_);refine goesL_ (some 10) rfl rfl Try.func51 (by kernel_rfl) rfl #[.slice A0 l0.length c0,.int .i64 a2] rfl mtt ?_;(with_reducible refine (spec_l23Within.calls k _ _ l0 a2 true _ ?side1 ?side2 A4.out).mono ?_);(case side1=>exact ccc HR0.out);(case side2=>exact HC0.out);rintro e w12 ⟨rfl,hb⟩;refine ⟨_,rfl,?_⟩;replace HB:=amk (below_step (bel HB) hb);(try clear hb))|(go_at_call 71;(with_reducible refine (spec_l23Sumps.calls k _ _ l1 false _ ?side1 ?side2 A6.out).mono ?_);(case side1=>exact ccc (Kd.C_below HR1.out HB.out));(case side2=>exact HC1.out);rintro e w13 ⟨rfl,hb⟩;replace HB:=amk (below_step (bel HB) hb);(try clear hb))|((with_reducible refine gate_dst (N:=17) rfl ?_);refine Kd.R_lit (Kd.int .i64) _ 3 ?hg (N:=17) ?hd (xs:=([] : List Int)) (inner:=[]) (ok:=fun _=>True) (okp:=fun _=>True) ?hr ?hp (fun _ hk=>hk) trivial (Below.refl _ _) (Nat.le_refl _) (by simp) ?_;(case hd=>rfl);(case hg=>rfl);(case hr=>first | (go_simp;done)|(go_simp;rfl));(case hp=>exact (Reps.none _ _));intro v682 w14 ho15 hb hg_ hnew_;clear hg_ hnew_;(first | rw [← Ny681.out] at ho15 | (simp only [Int.reduceToNat] at ho15;rw [← Ny681.out] at ho15));have HO683:=amk (Kd.R_lower ho15 (below_size (bel HB)));replace HB:=amk (below_step (bel HB) hb);clear hb ho15))
   go_ret2
   exact ⟨_,erw0,rrr HO683,bel HB⟩
 ·replace c5:=Bool.eq_false_iff.mpr c5
  subst c5
  have H1 : (some ((([] : List Int)),false))=some (r1,r2):=by rw [if_neg (show ¬ (false=true) by decide)] at H;exact H
  clear H
  have H:=H1
  clear H1
  obtain ⟨y684,hy684⟩ : ∃ y_ : List Int,y_=(([] : List Int)):=⟨_,rfl⟩
  replace H : (some (y684,false))=some (r1,r2):=by first | (rw [hy684];with_reducible exact H)|(have H2_:=(Option.bind_some _ _).symm.trans H;rw [hy684];with_reducible exact H2_)|(have H2_:=(Option.bind_some _ _).symm.trans H;with_reducible exact H2_) | with_reducible exact H | (rw [hy684];exact H) | exact H
  have Ny684:=amk hy684
  clear hy684
  simp only [Option.some.injEq,Prod.mk.injEq] at H
  obtain ⟨rfl,rfl⟩:=H
  go_enter Try.func39,Try.ntmps39
  go_wp2_with (first | ((with_reducible refine gate_callee (f:=51) rfl ?_);refine goesL_ (some 10) rfl rfl Try.func51 (by kernel_rfl) rfl #[.slice A0 l0.length c0,.int .i64 a2] rfl mtt ?_;(with_reducible refine (spec_l23Within.calls k _ _ l0 a2 false _ ?side1 ?side2 A4.out).mono ?_);(case side1=>exact ccc HR0.out);(case side2=>exact HC0.out);rintro e w16 ⟨rfl,hb⟩;refine ⟨_,rfl,?_⟩;replace HB:=amk (below_step (bel HB) hb);(try clear hb))|((with_reducible refine gate_dst (N:=17) rfl ?_);refine Kd.R_lit (Kd.int .i64) _ 3 ?hg (N:=17) ?hd (xs:=([] : List Int)) (inner:=[]) (ok:=fun _=>True) (okp:=fun _=>True) ?hr ?hp (fun _ hk=>hk) trivial (Below.refl _ _) (Nat.le_refl _) (by simp) ?_;(case hd=>rfl);(case hg=>rfl);(case hr=>first | (go_simp;done)|(go_simp;rfl));(case hp=>exact (Reps.none _ _));intro v685 w17 ho18 hb hg_ hnew_;clear hg_ hnew_;(first | rw [← Ny684.out] at ho18 | (simp only [Int.reduceToNat] at ho18;rw [← Ny684.out] at ho18));have HO686:=amk (Kd.R_lower ho18 (below_size (bel HB)));replace HB:=amk (below_step (bel HB) hb);clear hb ho18))
  go_ret2
  exact ⟨_,erw0,rrr HO686,bel HB⟩
def spec_AreSumps.f (k : Nat) (l0 : List (S44)) : Option (Bool):=(spec_l23Sumps.f k l0).bind fun t687=>(some t687)
theorem spec_AreSumps.mono : ∀ a0 k,LeO (spec_AreSumps.f k a0) (spec_AreSumps.f (k + 1) a0):=by
 intro a0 k
 unfold spec_AreSumps.f
 repeat' first
   | (with_reducible exact spec_l23Sumps.mono _ _)
   | (with_reducible exact LeO.refl _)
   | (with_reducible exact LeO.none _)
   | (with_reducible refine LeO.ite ?_ ?_)
   | (with_reducible refine LeO.bind ?_ (fun _=>?_))
set_option maxHeartbeats 8000000 in
set_option maxRecDepth 100000 in
theorem spec_AreSumps.calls (k : Nat) (A0 : Option Addr) (c0 : Nat) (l0 : List (S44)) (r : Bool) (w : World) (hr0 : Kd.C k44 w A0 l0.length l0) (hc0 : l0.length≤c0) (h : spec_AreSumps.f k l0=some r) :
  Calls Try.prog 42 #[.slice A0 l0.length c0] w fun e w'=>e = .returned (.bool r)∧Below w.heap.size w w':=by
 have HR0:=amk hr0
 have HC0:=amk hc0
 clear hr0 hc0
 have HB:=amk (Below.refl w.heap.size w)
 have H : ((spec_l23Sumps.f k l0).bind fun t687=>(some t687))=some r:=h
 clear h
 replace H:=obs H
 obtain ⟨t687,A20,H⟩:=H
 replace H : (some t687)=some r:=H
 have A2:=amk A20
 clear A20
 obtain rfl:=Option.some.inj H
 go_enter Try.func42,Try.ntmps42
 go_wp2_with (first | ((with_reducible refine gate_callee (f:=71) rfl ?_);refine goesL_ (some 4) rfl rfl Try.func71 (by kernel_rfl) rfl #[.slice A0 l0.length c0] rfl mtt ?_;(with_reducible refine (spec_l23Sumps.calls k _ _ l0 t687 _ ?side1 ?side2 A2.out).mono ?_);(case side1=>exact ccc HR0.out);(case side2=>exact HC0.out);rintro e w3 ⟨rfl,hb⟩;refine ⟨_,rfl,?_⟩;replace HB:=amk (below_step (bel HB) hb);(try clear hb)))
 go_ret
 exact ⟨erw0,bel HB⟩
def spec_DrawDrownedSumps.f (k : Nat) (l0 : List Int) : Option ((List (S30)) × (List (S44))):=(spec_l1Cur_readings.f k l0 0 0).bind fun bt689=>((spec_l1Cur_sumps.f k l0 bt689.2.1 bt689.2.2).bind fun bt694=>(some (bt689.1,bt694.1)))
theorem spec_DrawDrownedSumps.mono : ∀ a0 k,LeO (spec_DrawDrownedSumps.f k a0) (spec_DrawDrownedSumps.f (k + 1) a0):=by
 intro a0 k
 unfold spec_DrawDrownedSumps.f
 repeat' first
   | (with_reducible exact spec_l1Cur_readings.mono _ _ _ _)
   | (with_reducible exact spec_l1Cur_sumps.mono _ _ _ _)
   | (with_reducible exact LeO.refl _)
   | (with_reducible exact LeO.none _)
   | (with_reducible refine LeO.ite ?_ ?_)
   | (with_reducible refine LeO.bind ?_ (fun _=>?_))
set_option maxHeartbeats 8000000 in
set_option maxRecDepth 100000 in
theorem spec_DrawDrownedSumps.calls (k : Nat) (A0 : Option Addr) (c0 : Nat) (l0 : List Int) (r1 : List (S30)) (r2 : List (S44)) (w : World) (hr0 : Kd.C (Kd.int .u8) w A0 l0.length l0) (hc0 : l0.length≤c0) (h : spec_DrawDrownedSumps.f k l0=some (r1,r2)) :
  Calls Try.prog 43 #[.slice A0 l0.length c0] w fun e w'=>∃ v0_ v1_ : Value,e = .returned (.tuple #[v0_,v1_])∧Kd.R k30 30 w' w.heap.size (fun _=>True) v0_ r1∧Kd.R k44 44 w' w.heap.size (fun _=>True) v1_ r2∧Below w.heap.size w w':=by
 have hu77:=Try.underlying77
 have HR0:=amk hr0
 have HC0:=amk hc0
 clear hr0 hc0
 have HB:=amk (Below.refl w.heap.size w)
 have H : ((spec_l1Cur_readings.f k l0 0 0).bind fun bt689=>((spec_l1Cur_sumps.f k l0 bt689.2.1 bt689.2.2).bind fun bt694=>(some (bt689.1,bt694.1))))=some (r1,r2):=h
 clear h
 replace H:=obs H
 obtain ⟨⟨t689,t692,t693⟩,A20,H⟩:=H
 replace H : ((spec_l1Cur_sumps.f k l0 t692 t693).bind fun bt694=>(some (t689,bt694.1)))=some (r1,r2):=H
 have A2:=amk A20
 clear A20
 replace H:=obs H
 obtain ⟨⟨t694,t697,t698⟩,A30,H⟩:=H
 replace H : (some (t689,t694))=some (r1,r2):=H
 have A3:=amk A30
 clear A30
 simp only [Option.some.injEq,Prod.mk.injEq] at H
 obtain ⟨rfl,rfl⟩:=H
 go_enter Try.func43,Try.ntmps43
 go_wp2_with (first | ((with_reducible refine gate_dst (N:=8) rfl ?_);refine box_event ?hg (N:=8) ?hd (cs:=#[.slice A0 l0.length c0,.int .i64 0,.int .u64 0]) (t:=77) ?hr ?_;(case hd=>rfl);(case hg=>rfl);(case hr=>first | (go_simp;done)|(go_simp;rfl));intro gb688 hg w4 hbox hb;have HI688:=amk ((⟨_,_,hbox,(by rw [hg];exact (below_size (bel HB)) : w.heap.size≤gb688),HR0.out⟩ : IsS77 w w4 gb688 l0 0 0));replace HB:=amk (below_step (bel HB) hb);clear hb hbox hg)|((with_reducible refine gate_callee (f:=47) rfl ?_);refine goesL_ (some 10) rfl rfl Try.func47 (by kernel_rfl) rfl #[.pointer (some ⟨gb688,0,none⟩)] rfl mtt ?_;(with_reducible refine (spec_l1Cur_readings.calls k gb688 l0 0 0 t689 t692 t693 w _ ?side1 ?side2 A2.out).mono ?_);(case side1=>exact i77_0 HI688);(case side2=>exact bel1 HB (IsS77.ge HI688.out));rintro e w5 ⟨v690,rfl,ho0,hi,hb,hk⟩;refine ⟨_,rfl,?_⟩;have HO691:=amk (Kd.R_lower ho0 (below_size (bel1 HB (IsS77.ge HI688.out))));replace HB:=amk (hb);replace HI688:=amk (hi);(try clear hb hk hi ho0))|((with_reducible refine gate_callee (f:=79) rfl ?_);refine goesL_ (some 13) rfl rfl Try.func79 (by kernel_rfl) rfl #[.pointer (some ⟨gb688,0,none⟩)] rfl mtt ?_;(with_reducible refine (spec_l1Cur_sumps.calls k gb688 l0 t692 t693 t694 t697 t698 w _ ?side1 ?side2 A3.out).mono ?_);(case side1=>exact i77_0 HI688);(case side2=>exact bel1 HB (IsS77.ge HI688.out));rintro e w6 ⟨v695,rfl,ho0,hi,hb,hk⟩;refine ⟨_,rfl,?_⟩;replace HO691:=amk (Kd.R_mono (Kd.R_keep (IsS77.apart (show IsS77 w _ gb688 l0 t692 t693 from by exact i77_0 HI688) (rrr HO691) (by decide)) hk (fun _ h=>h.2)) (fun _ h=>h.1));have HO696:=amk (Kd.R_lower ho0 (below_size (bel1 HB (IsS77.ge HI688.out))));replace HB:=amk (hb);replace HI688:=amk (hi);(try clear hb hk hi ho0)))
 go_ret2
 exact ⟨_,_,erw0,rrr HO691,rrr HO696,bel1 HB (IsS77.ge HI688.out)⟩
def impl_Reading_93.l0 : Nat→List (S30)→(S30→Option Bool)→Int→Int→Option (Int)
 | 0,_,_,_,_=>none
 | k + 1,x0,x1,x7,x8=>if x8 < x7 then (if 0≤x8 then (if x8 < (x0.length : Int) then ((x1 (⟨(rd_T30 x0 x8).f0,(rd_T30 x0 x8).f1⟩ : S30)).bind fun t700=>(if t700=true then (some x8) else (impl_Reading_93.l0 k x0 x1 x7 (wrap64 (x8 + 1))))) else (none)) else (none)) else (some (-1))
def impl_Reading_93.f (k : Nat) (l0 : List (S30)) (a1 : (S30→Option Bool)) : Option (Int):=impl_Reading_93.l0 k l0 a1 (l0.length : Int) 0
theorem impl_Reading_93.mono_l (p_ q_ : S30→Option Bool) (hpq_ : ∀ x_,LeO (p_ x_) (q_ x_)) : ∀ k,(∀ y0 y2 y3,LeO (impl_Reading_93.l0 k y0 p_ y2 y3) (impl_Reading_93.l0 (k + 1) y0 q_ y2 y3))
 | 0=>fun _ _ _ r h=>by simp [impl_Reading_93.l0] at h
 | k + 1=>by
  have ih0:=impl_Reading_93.mono_l p_ q_ hpq_ k
  ·intro y0 y2 y3
   unfold impl_Reading_93.l0
   repeat' first
   | (with_reducible exact ih0 _ _ _)
   | (with_reducible exact hpq_ _)
   | (with_reducible exact LeO.refl _)
   | (with_reducible exact LeO.none _)
   | (with_reducible refine LeO.ite ?_ ?_)
   | (with_reducible refine LeO.bind ?_ (fun _=>?_))
   | exact ih0 _ _ _
   | exact hpq_ _
theorem impl_Reading_93.mono : ∀ a0 (p_ q_ : S30→Option Bool) (k : Nat),(∀ x_,LeO (p_ x_) (q_ x_))→LeO (impl_Reading_93.f k a0 p_) (impl_Reading_93.f (k + 1) a0 q_):=by
 intro a0 p_ q_ k hpq_
 have ih0:=impl_Reading_93.mono_l p_ q_ hpq_ k
 unfold impl_Reading_93.f
 repeat' first
   | (with_reducible exact ih0 _ _ _)
   | (with_reducible exact hpq_ _)
   | (with_reducible exact LeO.refl _)
   | (with_reducible exact LeO.none _)
   | (with_reducible refine LeO.ite ?_ ?_)
   | (with_reducible refine LeO.bind ?_ (fun _=>?_))
   | exact ih0 _ _ _
   | exact hpq_ _
set_option maxHeartbeats 8000000 in
set_option maxRecDepth 100000 in
theorem impl_Reading_93.calls (k : Nat) (A0 : Option Addr) (c0 : Nat) (l0 : List (S30)) (gf1_ : Nat) (lb1_ : Array Value) (a1 : (S30→Option Bool)) (r : Int) (w : World) (hr0 : Kd.C k30 w A0 l0.length l0) (hc0 : l0.length≤c0) (eg1 : ∀ args_ w_,(callFunc gf1_ args_).run Try.prog w_ = .ok (.enter gf1_ args_) w_) (hp1 : ∀ (W_ : World) (x_ : S30) (b_ : Bool),a1 x_=some b_→Below w.heap.size w W_→Calls Try.prog gf1_ (#[.agg #[.int .i64 x_.f0,.int .i64 x_.f1]] ++ lb1_) W_ fun e w'=>e = .returned (.bool b_)∧Below W_.heap.size W_ w') (h : impl_Reading_93.f k l0 a1=some r) :
  Calls Try.prog 93 #[.slice A0 l0.length c0,.func (.func gf1_) #[] lb1_] w fun e w'=>e = .returned (.int .i64 r)∧Below w.heap.size w w':=by
 have hu30:=Try.underlying30
 have HR0:=amk hr0
 have HC0:=amk hc0
 clear hr0 hc0
 have HP1:=amk hp1
 clear hp1
 have HB:=amk (Below.refl w.heap.size w)
 have H : (impl_Reading_93.l0 k l0 a1 (l0.length : Int) 0)=some r:=h
 clear h
 have H':=amk H
 clear H
 go_enter Try.func93,Try.ntmps93
 go_wp2
 go_loopg [8] k (fun kq v8 w'=>∃ (x8_1 : Int),v8 = .int .i64 x8_1∧Aside0 (impl_Reading_93.l0 kq l0 a1 (l0.length : Int) x8_1=some r)∧Aside0 (kq≤k)∧Aside0 (Below w.heap.size w w'))
 case atStart=>exact ⟨(0),rsd,H',⟨Nat.le_refl _⟩,⟨bel HB⟩⟩
 case round=>
  clear H'
  try clear p1
  try clear p2
  obtain ⟨x8_1,rfl,HA,HK1,HB⟩:=hrel
  cases gk with
  | zero=>exact absurd HA.out (by simp [impl_Reading_93.l0])
  | succ k1=>
   have H:=HA.out
   clear HA
   simp only [impl_Reading_93.l0] at H
   by_cases c3 : x8_1 < (l0.length : Int)
   ·rw [if_pos c3] at H
    have c3b0 : decide (x8_1 < (l0.length : Int))=true:=decide_eq_true c3
    clear c3
    by_cases c4 : 0≤x8_1
    ·rw [if_pos c4] at H
     have c4b0 : decide (0≤x8_1)=true:=decide_eq_true c4
     clear c4
     by_cases c5 : x8_1 < (l0.length : Int)
     ·rw [if_pos c5] at H
      have c5b0 : decide (x8_1 < (l0.length : Int))=true:=decide_eq_true c5
      clear c5
      replace H:=obs H
      obtain ⟨t700,A60,H⟩:=H
      replace H : (if t700=true then (some x8_1) else (impl_Reading_93.l0 k1 l0 a1 (l0.length : Int) (wrap64 (x8_1 + 1))))=some r:=H
      have A6:=amk A60
      clear A60
      by_cases c7 : t700=true
      ·subst c7
       have H1 : (some x8_1)=some r:=by rw [if_pos rfl] at H;exact H
       clear H
       have H:=H1
       clear H1
       obtain rfl:=Option.some.inj H
       have p699 : 0≤(x8_1 : Int):=of_decide_eq_true ass
       have q699 : x8_1 < (l0.length : Int):=of_decide_eq_true ass
       obtain ⟨ad699,e699,hx699_0,hx699_1⟩:=at_T30 HR0.out x8_1 p699 q699
       cases e699
       replace hx699_0:=(HB.out.cell (World.block_lt_of_cell? w _ hx699_0)).trans hx699_0
       replace hx699_1:=(HB.out.cell (World.block_lt_of_cell? w _ hx699_1)).trans hx699_1
       replace p699:=eq_true p699
       replace q699:=eq_true q699
       go_wp2_with (first | ((with_reducible refine (HP1.out _ _ true A6.out ?sidefp).mono ?_);(case sidefp=>exact bel HB);rintro e w8 ⟨rfl,hb⟩;replace HB:=amk (below_step (bel HB) hb);(try clear hb)))
       go_ret
       exact ⟨erw0,bel HB⟩
      ·replace c7:=Bool.eq_false_iff.mpr c7
       subst c7
       have H1 : (impl_Reading_93.l0 k1 l0 a1 (l0.length : Int) (wrap64 (x8_1 + 1)))=some r:=by rw [if_neg (show ¬ (false=true) by decide)] at H;exact H
       clear H
       have H:=H1
       clear H1
       have H':=amk H
       clear H
       have p699 : 0≤(x8_1 : Int):=of_decide_eq_true ass
       have q699 : x8_1 < (l0.length : Int):=of_decide_eq_true ass
       obtain ⟨ad699,e699,hx699_0,hx699_1⟩:=at_T30 HR0.out x8_1 p699 q699
       cases e699
       replace hx699_0:=(HB.out.cell (World.block_lt_of_cell? w _ hx699_0)).trans hx699_0
       replace hx699_1:=(HB.out.cell (World.block_lt_of_cell? w _ hx699_1)).trans hx699_1
       replace p699:=eq_true p699
       replace q699:=eq_true q699
       go_wp2_with (first | ((with_reducible refine (HP1.out _ _ false A6.out ?sidefp).mono ?_);(case sidefp=>exact bel HB);rintro e w9 ⟨rfl,hb⟩;replace HB:=amk (below_step (bel HB) hb);(try clear hb)))
       go_roundg k1
       case measure=>have:=HK1.out;omega
       case rel=>exact ⟨(wrap64 (x8_1 + 1)),rsd,H',⟨by have:=HK1.out;omega⟩,⟨bel HB⟩⟩
     ·rw [if_neg c5] at H
      exact absurd H (by simp)
    ·rw [if_neg c4] at H
     exact absurd H (by simp)
   ·rw [if_neg c3] at H
    have c3b0 : decide (x8_1 < (l0.length : Int))=false:=decide_eq_false c3
    clear c3
    obtain rfl:=Option.some.inj H
    go_wp2
    go_ret
    exact ⟨erw0,bel HB⟩
def impl_Reading_82.f (k : Nat) (l0 : List (S30)) (a1 : (S30→Option Bool)) : Option (Bool):=(impl_Reading_93.f k l0 a1).bind fun t701=>(some (decide (t701 ≥ 0)))
theorem impl_Reading_82.mono : ∀ a0 (p_ q_ : S30→Option Bool) (k : Nat),(∀ x_,LeO (p_ x_) (q_ x_))→LeO (impl_Reading_82.f k a0 p_) (impl_Reading_82.f (k + 1) a0 q_):=by
 intro a0 p_ q_ k hpq_
 unfold impl_Reading_82.f
 repeat' first
   | (with_reducible exact hpq_ _)
   | (with_reducible exact impl_Reading_93.mono _ _ _ _ (fun x_=>hpq_ x_))
   | (with_reducible exact LeO.refl _)
   | (with_reducible exact LeO.none _)
   | (with_reducible refine LeO.ite ?_ ?_)
   | (with_reducible refine LeO.bind ?_ (fun _=>?_))
   | exact hpq_ _
   | exact impl_Reading_93.mono _ _ _ _ (fun x_=>hpq_ x_)
set_option maxHeartbeats 8000000 in
set_option maxRecDepth 100000 in
theorem impl_Reading_82.calls (k : Nat) (A0 : Option Addr) (c0 : Nat) (l0 : List (S30)) (gf1_ : Nat) (lb1_ : Array Value) (a1 : (S30→Option Bool)) (r : Bool) (w : World) (hr0 : Kd.C k30 w A0 l0.length l0) (hc0 : l0.length≤c0) (eg1 : ∀ args_ w_,(callFunc gf1_ args_).run Try.prog w_ = .ok (.enter gf1_ args_) w_) (hp1 : ∀ (W_ : World) (x_ : S30) (b_ : Bool),a1 x_=some b_→Below w.heap.size w W_→Calls Try.prog gf1_ (#[.agg #[.int .i64 x_.f0,.int .i64 x_.f1]] ++ lb1_) W_ fun e w'=>e = .returned (.bool b_)∧Below W_.heap.size W_ w') (h : impl_Reading_82.f k l0 a1=some r) :
  Calls Try.prog 82 #[.slice A0 l0.length c0,.func (.func gf1_) #[] lb1_] w fun e w'=>e = .returned (.bool r)∧Below w.heap.size w w':=by
 have HR0:=amk hr0
 have HC0:=amk hc0
 clear hr0 hc0
 have HP1:=amk hp1
 clear hp1
 have HB:=amk (Below.refl w.heap.size w)
 have H : ((impl_Reading_93.f k l0 a1).bind fun t701=>(some (decide (t701 ≥ 0))))=some r:=h
 clear h
 replace H:=obs H
 obtain ⟨t701,A30,H⟩:=H
 replace H : (some (decide (t701 ≥ 0)))=some r:=H
 have A3:=amk A30
 clear A30
 obtain rfl:=Option.some.inj H
 go_enter Try.func82,Try.ntmps82
 go_wp2_with (first | ((with_reducible refine gate_callee (f:=93) rfl ?_);refine goesL_ (some 7) rfl rfl Try.func93 (by kernel_rfl) rfl #[.slice A0 l0.length c0,.func (.func gf1_) #[] lb1_] rfl mtt ?_;(with_reducible refine (impl_Reading_93.calls k _ _ l0 gf1_ lb1_ a1 t701 _ ?side1 ?side2 ?side3 ?side4 A3.out).mono ?_);(case side1=>exact ccc HR0.out);(case side2=>exact HC0.out);(case side3=>exact eg1);(case side4=>exact fun W_ x_ b_ hx_ hW_=>HP1.out W_ x_ b_ hx_ (below_step (bel HB) hW_));rintro e w4 ⟨rfl,hb⟩;refine ⟨_,rfl,?_⟩;replace HB:=amk (below_step (bel HB) hb);(try clear hb)))
 go_ret
 exact ⟨erw0,bel HB⟩
def impl_DrownedSumps_1.f (a0_0 : Int) (a0_1 : Int) (a1_0 : Int) (a1_1 : Int) (a1_2 : Int) : Option (Bool):=some (decide (a0_1 > a1_1))
set_option maxHeartbeats 8000000 in
set_option maxRecDepth 100000 in
theorem impl_DrownedSumps_1.calls (a0_0 : Int) (a0_1 : Int) (gc1_ : Nat) (a1_0 : Int) (a1_1 : Int) (a1_2 : Int) (r : Bool) (w : World) (hk1 : w.heap[gc1_]? = some (.cells #[.int .i64 a1_0,.int .i64 a1_1,.int .i64 a1_2] 44 (0,0))) (h : impl_DrownedSumps_1.f a0_0 a0_1 a1_0 a1_1 a1_2=some r) :
  Calls Try.prog 83 #[.agg #[.int .i64 a0_0,.int .i64 a0_1],.pointer (some ⟨gc1_,0,none⟩)] w fun e w'=>e = .returned (.bool r)∧Below w.heap.size w w':=by
 have hu30:=Try.underlying30
 have BK1:=amk hk1
 clear hk1
 have HB:=amk (Below.refl w.heap.size w)
 have H : (some (decide (a0_1 > a1_1)))=some r:=h
 clear h
 obtain rfl:=Option.some.inj H
 go_enter Try.func83,Try.ntmps83
 go_wp2_with (first | ((with_reducible refine gate_dst (N:=2) rfl ?_);refine box_event ?hg (N:=2) ?hd (cs:=#[.int .i64 a0_0,.int .i64 a0_1]) (t:=30) ?hr ?_;(case hd=>rfl);(case hg=>rfl);(case hr=>first | (go_simp;done)|(go_simp;rfl));intro gb702 hg w3 hbox hb;have BK702:=amk (hbox);have GW702:=amk ((by rw [hg];exact (below_size (bel HB)) : w.heap.size≤gb702));have GE702:=amk ((by rw [hg];exact (below_size (bel HB)) : w.heap.size≤gb702));replace HB:=amk (below_step (bel HB) hb);have NB1_702:=amk ((by rw [hg];exact Nat.ne_of_lt (blk_lt (g:=gc1_) (o:=.cells #[.int .i64 a1_0,.int .i64 a1_1,.int .i64 a1_2] 44 (0,0)) (bkk BK1)) : gc1_ ≠ gb702));have NB702_1:=amk ((by rw [hg];exact Nat.ne_of_gt (blk_lt (g:=gc1_) (o:=.cells #[.int .i64 a1_0,.int .i64 a1_1,.int .i64 a1_2] 44 (0,0)) (bkk BK1)) : gb702 ≠ gc1_));replace BK1:=amk (blk_below (g:=gc1_) (o:=.cells #[.int .i64 a1_0,.int .i64 a1_1,.int .i64 a1_2] 44 (0,0)) (bkk BK1) hb);clear hb hbox hg;have hnb4:=NB702_1.out;have hnc4:=NB1_702.out;have hcz5_0 : w3.cell? ⟨gb702,0,none⟩=some (.int .i64 a0_0):=(blk_cell BK702.out 0).trans rfl;have hcz5_1 : w3.cell? ⟨gb702,1,none⟩=some (.int .i64 a0_1):=(blk_cell BK702.out 1).trans rfl;have hfz5_0:=blk_frozen BK702.out 0;have hfz5_1:=blk_frozen BK702.out 1;have hcz6_0 : w3.cell? ⟨gc1_,0,none⟩=some (.int .i64 a1_0):=(blk_cell BK1.out 0).trans rfl;have hcz6_1 : w3.cell? ⟨gc1_,1,none⟩=some (.int .i64 a1_1):=(blk_cell BK1.out 1).trans rfl;have hcz6_2 : w3.cell? ⟨gc1_,2,none⟩=some (.int .i64 a1_2):=(blk_cell BK1.out 2).trans rfl;have hfz6_0:=blk_frozen BK1.out 0;have hfz6_1:=blk_frozen BK1.out 1;have hfz6_2:=blk_frozen BK1.out 2))
 go_ret
 exact ⟨erw0,bel1 HB GE702.out⟩
mutual
def impl_DrownedSumps.j0 : Nat→List (S30)→List (S44)→Bool→Option (List Int × Bool)
 | 0,_,_,_=>none
 | k + 1,x0,x1,x16=>if x16=true then (some (([] : List Int),false)) else (impl_DrownedSumps.l0 k x0 ([] : List Int) x1 (x1.length : Int) 0)
def impl_DrownedSumps.l0 : Nat→List (S30)→List Int→List (S44)→Int→Int→Option (List Int × Bool)
 | 0,_,_,_,_,_=>none
 | k + 1,x0,x6,x17,x18,x19=>if x19 < x18 then (if 0≤x19 then (if x19 < (x17.length : Int) then ((impl_Reading_82.f k x0 (fun x_ : S30=>impl_DrownedSumps_1.f x_.f0 x_.f1 ((rd_T44 x17 x19).f0) ((rd_T44 x17 x19).f1) ((rd_T44 x17 x19).f2))).bind fun t707=>(if t707=true then (if x6.length < 17592186044416 then (impl_DrownedSumps.l0 k x0 (x6 ++ [(rd_T44 x17 x19).f0]) x17 x18 (wrap64 (x19 + 1))) else (none)) else (impl_DrownedSumps.l0 k x0 x6 x17 x18 (wrap64 (x19 + 1))))) else (none)) else (none)) else (some (x6,true))
end
def impl_DrownedSumps.f (k : Nat) (l0 : List (S30)) (l1 : List (S44)) : Option (List Int × Bool):=(impl_AreReadings.f k l0).bind fun t703=>(if t703=true then ((impl_AreSumps.f k l1).bind fun t704=>(impl_DrownedSumps.j0 k l0 l1 (!t704))) else (impl_DrownedSumps.j0 k l0 l1 true))
theorem impl_DrownedSumps.mono_l : ∀ k,(∀ y0 y1 y2,LeO (impl_DrownedSumps.j0 k y0 y1 y2) (impl_DrownedSumps.j0 (k + 1) y0 y1 y2))∧(∀ y0 y1 y2 y3 y4,LeO (impl_DrownedSumps.l0 k y0 y1 y2 y3 y4) (impl_DrownedSumps.l0 (k + 1) y0 y1 y2 y3 y4))
 | 0=>⟨fun _ _ _ r h=>by simp [impl_DrownedSumps.j0] at h,fun _ _ _ _ _ r h=>by simp [impl_DrownedSumps.l0] at h⟩
 | k + 1=>by
  obtain ⟨ih0,ih1⟩:=impl_DrownedSumps.mono_l k
  refine ⟨?_,?_⟩
  ·intro y0 y1 y2
   unfold impl_DrownedSumps.j0
   repeat' first
   | (with_reducible exact ih0 _ _ _)
   | (with_reducible exact ih1 _ _ _ _ _)
   | (with_reducible exact impl_AreReadings.mono _ _)
   | (with_reducible exact impl_AreSumps.mono _ _)
   | (with_reducible exact impl_Reading_82.mono _ _ _ _ (fun _=>by first | exact LeO.refl _ | exact impl_OpenSpans_1.mono _ _ _ _ _ _ | exact impl_OpenFor_1_1.mono _ _ _ _ _ _ | exact impl_OpenFor_1.mono _ _ _ _))
   | (with_reducible exact LeO.refl _)
   | (with_reducible exact LeO.none _)
   | (with_reducible refine LeO.ite ?_ ?_)
   | (with_reducible refine LeO.bind ?_ (fun _=>?_))
   | exact ih0 _ _ _
   | exact ih1 _ _ _ _ _
   | exact impl_Reading_82.mono _ _ _ _ (fun _=>by first | exact LeO.refl _ | exact impl_OpenSpans_1.mono _ _ _ _ _ _ | exact impl_OpenFor_1_1.mono _ _ _ _ _ _ | exact impl_OpenFor_1.mono _ _ _ _)
  ·intro y0 y1 y2 y3 y4
   unfold impl_DrownedSumps.l0
   repeat' first
   | (with_reducible exact ih0 _ _ _)
   | (with_reducible exact ih1 _ _ _ _ _)
   | (with_reducible exact impl_AreReadings.mono _ _)
   | (with_reducible exact impl_AreSumps.mono _ _)
   | (with_reducible exact impl_Reading_82.mono _ _ _ _ (fun _=>by first | exact LeO.refl _ | exact impl_OpenSpans_1.mono _ _ _ _ _ _ | exact impl_OpenFor_1_1.mono _ _ _ _ _ _ | exact impl_OpenFor_1.mono _ _ _ _))
   | (with_reducible exact LeO.refl _)
   | (with_reducible exact LeO.none _)
   | (with_reducible refine LeO.ite ?_ ?_)
   | (with_reducible refine LeO.bind ?_ (fun _=>?_))
   | exact ih0 _ _ _
   | exact ih1 _ _ _ _ _
   | exact impl_Reading_82.mono _ _ _ _ (fun _=>by first | exact LeO.refl _ | exact impl_OpenSpans_1.mono _ _ _ _ _ _ | exact impl_OpenFor_1_1.mono _ _ _ _ _ _ | exact impl_OpenFor_1.mono _ _ _ _)
theorem impl_DrownedSumps.mono : ∀ a0 a1 k,LeO (impl_DrownedSumps.f k a0 a1) (impl_DrownedSumps.f (k + 1) a0 a1):=by
 intro a0 a1 k
 obtain ⟨ih0,ih1⟩:=impl_DrownedSumps.mono_l k
 unfold impl_DrownedSumps.f
 repeat' first
   | (with_reducible exact ih0 _ _ _)
   | (with_reducible exact ih1 _ _ _ _ _)
   | (with_reducible exact impl_AreReadings.mono _ _)
   | (with_reducible exact impl_AreSumps.mono _ _)
   | (with_reducible exact impl_Reading_82.mono _ _ _ _ (fun _=>by first | exact LeO.refl _ | exact impl_OpenSpans_1.mono _ _ _ _ _ _ | exact impl_OpenFor_1_1.mono _ _ _ _ _ _ | exact impl_OpenFor_1.mono _ _ _ _))
   | (with_reducible exact LeO.refl _)
   | (with_reducible exact LeO.none _)
   | (with_reducible refine LeO.ite ?_ ?_)
   | (with_reducible refine LeO.bind ?_ (fun _=>?_))
   | exact ih0 _ _ _
   | exact ih1 _ _ _ _ _
   | exact impl_Reading_82.mono _ _ _ _ (fun _=>by first | exact LeO.refl _ | exact impl_OpenSpans_1.mono _ _ _ _ _ _ | exact impl_OpenFor_1_1.mono _ _ _ _ _ _ | exact impl_OpenFor_1.mono _ _ _ _)
set_option maxHeartbeats 8000000 in
set_option maxRecDepth 100000 in
theorem impl_DrownedSumps.calls (k : Nat) (A0 : Option Addr) (c0 : Nat) (l0 : List (S30)) (A1 : Option Addr) (c1 : Nat) (l1 : List (S44)) (r1 : List Int) (r2 : Bool) (w : World) (hr0 : Kd.C k30 w A0 l0.length l0) (hc0 : l0.length≤c0) (hr1 : Kd.C k44 w A1 l1.length l1) (hc1 : l1.length≤c1) (h : impl_DrownedSumps.f k l0 l1=some (r1,r2)) :
  Calls Try.prog 44 #[.slice A0 l0.length c0,.slice A1 l1.length c1] w fun e w'=>∃ v0_ : Value,e = .returned (.tuple #[v0_,.bool r2])∧Kd.R (Kd.int .i64) 3 w' w.heap.size (fun _=>True) v0_ r1∧Below w.heap.size w w':=by
 have hu44:=Try.underlying44
 have HR0:=amk hr0
 have HC0:=amk hc0
 clear hr0 hc0
 have HR1:=amk hr1
 have HC1:=amk hc1
 clear hr1 hc1
 have HB:=amk (Below.refl w.heap.size w)
 have H : ((impl_AreReadings.f k l0).bind fun t703=>(if t703=true then ((impl_AreSumps.f k l1).bind fun t704=>(impl_DrownedSumps.j0 k l0 l1 (!t704))) else (impl_DrownedSumps.j0 k l0 l1 true)))=some (r1,r2):=h
 clear h
 have HC3:=amk H
 clear H
 have hmf_ : ∀ (fn_ : Fn) (first_ cap_ : Array Value) (w_ : World),(Instr.makeFunc fn_ first_ cap_).run Try.prog w_ = .ok (.func fn_ first_ cap_) w_:=fun _ _ _ _=>rfl
 go_enter Try.func44,Try.ntmps44
 go_upto_region 1 with (fail)
 go_cut [16] (fun v16 wc=>∃ (kq : Nat) (x16_2 : Bool),v16 = .bool x16_2∧Aside0 (impl_DrownedSumps.j0 kq l0 l1 x16_2=some (r1,r2))∧Aside0 (kq≤k)∧Aside0 (Below w.heap.size w wc))
 case first=>
  have H:=HC3.out
  clear HC3
  replace H:=obs H
  obtain ⟨t703,A40,H⟩:=H
  replace H : (if t703=true then ((impl_AreSumps.f k l1).bind fun t704=>(impl_DrownedSumps.j0 k l0 l1 (!t704))) else (impl_DrownedSumps.j0 k l0 l1 true))=some (r1,r2):=H
  have A4:=amk A40
  clear A40
  by_cases c5 : t703=true
  ·subst c5
   have H1 : ((impl_AreSumps.f k l1).bind fun t704=>(impl_DrownedSumps.j0 k l0 l1 (!t704)))=some (r1,r2):=by rw [if_pos rfl] at H;exact H
   clear H
   have H:=H1
   clear H1
   replace H:=obs H
   obtain ⟨t704,A60,H⟩:=H
   replace H : (impl_DrownedSumps.j0 k l0 l1 (!t704))=some (r1,r2):=H
   have A6:=amk A60
   clear A60
   have H':=amk H
   clear H
   go_wp2_with (first | ((with_reducible refine gate_callee (f:=15) rfl ?_);refine goesL_ (some 10) rfl rfl Try.func15 (by kernel_rfl) rfl #[.slice A0 l0.length c0] rfl mtt ?_;(with_reducible refine (impl_AreReadings.calls k _ _ l0 true _ ?side1 ?side2 A4.out).mono ?_);(case side1=>exact ccc (Kd.C_below HR0.out HB.out));(case side2=>exact HC0.out);rintro e w7 ⟨rfl,hb⟩;refine ⟨_,rfl,?_⟩;replace HB:=amk (below_step (bel HB) hb);(try clear hb))|(go_at_call 41;(with_reducible refine (impl_AreSumps.calls k _ _ l1 t704 _ ?side1 ?side2 A6.out).mono ?_);(case side1=>exact ccc (Kd.C_below HR1.out HB.out));(case side2=>exact HC1.out);rintro e w8 ⟨rfl,hb⟩;replace HB:=amk (below_step (bel HB) hb);(try clear hb)))
   go_meet
   case rel=>exact ⟨_,(!t704),rsd,H',⟨by first | omega | exact Nat.le_refl _⟩,⟨bel HB⟩⟩
  ·replace c5:=Bool.eq_false_iff.mpr c5
   subst c5
   have H1 : (impl_DrownedSumps.j0 k l0 l1 true)=some (r1,r2):=by rw [if_neg (show ¬ (false=true) by decide)] at H;exact H
   clear H
   have H:=H1
   clear H1
   have H':=amk H
   clear H
   go_wp2_with (first | ((with_reducible refine gate_callee (f:=15) rfl ?_);refine goesL_ (some 10) rfl rfl Try.func15 (by kernel_rfl) rfl #[.slice A0 l0.length c0] rfl mtt ?_;(with_reducible refine (impl_AreReadings.calls k _ _ l0 false _ ?side1 ?side2 A4.out).mono ?_);(case side1=>exact ccc (Kd.C_below HR0.out HB.out));(case side2=>exact HC0.out);rintro e w9 ⟨rfl,hb⟩;refine ⟨_,rfl,?_⟩;replace HB:=amk (below_step (bel HB) hb);(try clear hb)))
   go_meet
   case rel=>exact ⟨_,(true),rsd,H',⟨by first | omega | exact Nat.le_refl _⟩,⟨bel HB⟩⟩
 case rest=>
  clear HC3
  try clear c1
  try clear p2
  try clear c4
  try clear c5
  obtain ⟨kq,x16_2,rfl,HA,HJ2,HB⟩:=hcut
  cases kq with
  | zero=>exact absurd HA.out (by simp [impl_DrownedSumps.j0])
  | succ kj2=>
   have H:=HA.out
   clear HA
   simp only [impl_DrownedSumps.j0] at H
   by_cases c10 : x16_2=true
   ·subst c10
    have H1 : (some (([] : List Int),false))=some (r1,r2):=by rw [if_pos rfl] at H;exact H
    clear H
    have H:=H1
    clear H1
    simp only [Option.some.injEq,Prod.mk.injEq] at H
    obtain ⟨rfl,rfl⟩:=H
    go_wp2
    go_ret2
    exact ⟨_,erw0,by first | exact Kd.R_nil _ _ _ _ _ | exact Kd.N_nil _ _ _ _ _ | exact Kd.V_nil _ _ _ _ _ | exact Kd.Q_nil _ _ _ _ _ | exact Kd.S_nil _ _ _ _ _,bel HB⟩
   ·replace c10:=Bool.eq_false_iff.mpr c10
    subst c10
    have H1 : (impl_DrownedSumps.l0 kj2 l0 ([] : List Int) l1 (l1.length : Int) 0)=some (r1,r2):=by rw [if_neg (show ¬ (false=true) by decide)] at H;exact H
    clear H
    have H:=H1
    clear H1
    have H':=amk H
    clear H
    go_wp2
    go_loopg [6,19] kj2 (fun kq v6 v19 w'=>∃ (x6_2 : List Int) (x19_2 : Int),v19 = .int .i64 x19_2∧Aside0 (impl_DrownedSumps.l0 kq l0 x6_2 l1 (l1.length : Int) x19_2=some (r1,r2))∧Aside0 (kq≤kj2)∧Aside0 (Kd.R (Kd.int .i64) 3 w' w.heap.size (fun _=>True) v6 x6_2)∧Aside0 (Below w.heap.size w w'))
    case atStart=>exact ⟨(([] : List Int)),(0),rsd,H',⟨Nat.le_refl _⟩,⟨by first | exact Kd.R_nil _ _ _ _ _ | exact Kd.N_nil _ _ _ _ _ | exact Kd.V_nil _ _ _ _ _ | exact Kd.Q_nil _ _ _ _ _ | exact Kd.S_nil _ _ _ _ _⟩,⟨bel HB⟩⟩
    case round=>
     clear H'
     try clear c1
     try clear p2
     try clear c4
     try clear c5
     try clear c10
     try clear p2
     obtain ⟨x6_2,x19_2,rfl,HA,HK2,HO_6,HB⟩:=hrel
     cases gk with
     | zero=>exact absurd HA.out (by simp [impl_DrownedSumps.l0])
     | succ k2=>
      have H:=HA.out
      clear HA
      simp only [impl_DrownedSumps.l0] at H
      by_cases c11 : x19_2 < (l1.length : Int)
      ·rw [if_pos c11] at H
       have c11b0 : decide (x19_2 < (l1.length : Int))=true:=decide_eq_true c11
       clear c11
       by_cases c12 : 0≤x19_2
       ·rw [if_pos c12] at H
        have c12b0 : decide (0≤x19_2)=true:=decide_eq_true c12
        clear c12
        by_cases c13 : x19_2 < (l1.length : Int)
        ·rw [if_pos c13] at H
         have c13b0 : decide (x19_2 < (l1.length : Int))=true:=decide_eq_true c13
         clear c13
         replace H:=obs H
         obtain ⟨t707,A140,H⟩:=H
         replace H : (if t707=true then (if x6_2.length < 17592186044416 then (impl_DrownedSumps.l0 k2 l0 (x6_2 ++ [(rd_T44 l1 x19_2).f0]) l1 (l1.length : Int) (wrap64 (x19_2 + 1))) else (none)) else (impl_DrownedSumps.l0 k2 l0 x6_2 l1 (l1.length : Int) (wrap64 (x19_2 + 1))))=some (r1,r2):=H
         have A14:=amk A140
         clear A140
         by_cases c15 : t707=true
         ·subst c15
          have H1 : (if x6_2.length < 17592186044416 then (impl_DrownedSumps.l0 k2 l0 (x6_2 ++ [(rd_T44 l1 x19_2).f0]) l1 (l1.length : Int) (wrap64 (x19_2 + 1))) else (none))=some (r1,r2):=by rw [if_pos rfl] at H;exact H
          clear H
          have H:=H1
          clear H1
          by_cases c16 : x6_2.length < 17592186044416
          ·rw [if_pos c16] at H
           have LMc16:=amk c16
           clear c16
           obtain ⟨y708,hy708⟩ : ∃ y_ : List Int,y_=(x6_2 ++ [(rd_T44 l1 x19_2).f0]):=⟨_,rfl⟩
           replace H : (impl_DrownedSumps.l0 k2 l0 y708 l1 (l1.length : Int) (wrap64 (x19_2 + 1)))=some (r1,r2):=by first | (rw [hy708];with_reducible exact H)|(have H2_:=(Option.bind_some _ _).symm.trans H;rw [hy708];with_reducible exact H2_)|(have H2_:=(Option.bind_some _ _).symm.trans H;with_reducible exact H2_) | with_reducible exact H | (rw [hy708];exact H) | exact H
           have Ny708:=amk hy708
           clear hy708
           have H':=amk H
           clear H
           have p705 : 0≤(x19_2 : Int):=of_decide_eq_true ass
           have q705 : x19_2 < (l1.length : Int):=of_decide_eq_true ass
           obtain ⟨ad705,e705,hx705_0,hx705_1,hx705_2⟩:=at_T44 HR1.out x19_2 p705 q705
           cases e705
           replace hx705_0:=(HB.out.cell (World.block_lt_of_cell? w _ hx705_0)).trans hx705_0
           replace hx705_1:=(HB.out.cell (World.block_lt_of_cell? w _ hx705_1)).trans hx705_1
           replace hx705_2:=(HB.out.cell (World.block_lt_of_cell? w _ hx705_2)).trans hx705_2
           replace p705:=eq_true p705
           replace q705:=eq_true q705
           go_wp2_with (first | ((with_reducible refine gate_dst (N:=8) rfl ?_);refine box_event ?hg (N:=8) ?hd (cs:=#[.int .i64 0,.int .i64 0,.int .i64 0]) (t:=44) ?hr ?_;(case hd=>rfl);(case hg=>rfl);(case hr=>first | (go_simp;done)|(go_simp;rfl));intro gb706 hg w17 hbox hb;replace HO_6:=amk (Kd.R_below (rrr HO_6) hb);have BK706:=amk (hbox);have GW706:=amk ((by rw [hg];exact (below_size (bel HB)) : w.heap.size≤gb706));have GE706:=amk ((by rw [hg];exact (below_size (bel HB)) : w.heap.size≤gb706));replace HB:=amk (below_step (bel HB) hb);clear hb hbox hg;have hcz18_0 : w17.cell? ⟨gb706,0,none⟩=some (.int .i64 0):=(blk_cell BK706.out 0).trans rfl;have hcz18_1 : w17.cell? ⟨gb706,1,none⟩=some (.int .i64 0):=(blk_cell BK706.out 1).trans rfl;have hcz18_2 : w17.cell? ⟨gb706,2,none⟩=some (.int .i64 0):=(blk_cell BK706.out 2).trans rfl;have hfz18_0:=blk_frozen BK706.out 0;have hfz18_1:=blk_frozen BK706.out 1;have hfz18_2:=blk_frozen BK706.out 2)|((with_reducible refine gate_callee (f:=82) rfl ?_);refine goesL_ (some 25) rfl rfl Try.func82 (by kernel_rfl) rfl #[.slice A0 l0.length c0,.func (.func 83) #[] #[.pointer (some ⟨gb706,0,none⟩)]] rfl mtt ?_;(with_reducible refine (impl_Reading_82.calls k2 _ _ l0 83 #[.pointer (some ⟨gb706,0,none⟩)] (fun x_ : S30=>impl_DrownedSumps_1.f x_.f0 x_.f1 ((rd_T44 l1 x19_2).f0) ((rd_T44 l1 x19_2).f1) ((rd_T44 l1 x19_2).f2)) true _ ?side1 ?side2 ?side3 ?side4 A14.out).mono ?_);(case side1=>exact Kd.C_below HR0.out (bel1 HB GE706.out));(case side2=>exact HC0.out);(case side3=>exact enters_fn Try.func83 (by kernel_rfl) rfl);(case side4=>intro W_ x_ b_ hx_ hW_;exact (impl_DrownedSumps_1.calls x_.f0 x_.f1 gb706 ((rd_T44 l1 x19_2).f0) ((rd_T44 l1 x19_2).f1) ((rd_T44 l1 x19_2).f2) b_ W_ (blk_below (by (with_reducible repeat (first | refine blk_drewN ?_ _ | refine blk_drew ?_ | refine blk_alloc ?_ _));refine blk_put (cs:=#[.int .i64 ((rd_T44 l1 x19_2).f0),.int .i64 ((rd_T44 l1 x19_2).f1),.int .i64 0]) ?_ 2 _ rfl;(with_reducible repeat (first | refine blk_drewN ?_ _ | refine blk_drew ?_ | refine blk_alloc ?_ _));refine blk_put (cs:=#[.int .i64 ((rd_T44 l1 x19_2).f0),.int .i64 0,.int .i64 0]) ?_ 1 _ rfl;(with_reducible repeat (first | refine blk_drewN ?_ _ | refine blk_drew ?_ | refine blk_alloc ?_ _));refine blk_put (cs:=#[.int .i64 0,.int .i64 0,.int .i64 0]) ?_ 0 _ rfl;(with_reducible repeat (first | refine blk_drewN ?_ _ | refine blk_drew ?_ | refine blk_alloc ?_ _));exact BK706.out) hW_) hx_).mono (fun _ _ h_=>⟨h_.1,h_.2⟩));rintro e w19 ⟨rfl,hb⟩;refine ⟨_,rfl,?_⟩;have n0_:=amk (Kd.R_below (by (with_reducible repeat (first | apply Kd.R_alloc | apply Kd.R_drewN | apply Kd.R_drew));exact (Kd.R_mono (Kd.R_far (p:=⟨gb706,2,none⟩) (Kd.R_far (p:=⟨gb706,1,none⟩) (Kd.R_far (p:=⟨gb706,0,none⟩) (Kd.R_types HO_6.out BK706.out (by decide)) (fun _ hk=>hk.2) (.int .i64 ((rd_T44 l1 x19_2).f0))) (fun _ hk=>hk.2) (.int .i64 ((rd_T44 l1 x19_2).f1))) (fun _ hk=>hk.2) (.int .i64 ((rd_T44 l1 x19_2).f2))) (fun _ h_=>h_.1))) hb);have n1_:=amk (blk_below (g:=gb706) (o:=.cells #[.int .i64 ((rd_T44 l1 x19_2).f0),.int .i64 ((rd_T44 l1 x19_2).f1),.int .i64 ((rd_T44 l1 x19_2).f2)] 44 (0,0)) (by (with_reducible repeat (first | refine blk_drewN ?_ _ | refine blk_drew ?_ | refine blk_alloc ?_ _));refine blk_put (cs:=#[.int .i64 ((rd_T44 l1 x19_2).f0),.int .i64 ((rd_T44 l1 x19_2).f1),.int .i64 0]) ?_ 2 _ rfl;(with_reducible repeat (first | refine blk_drewN ?_ _ | refine blk_drew ?_ | refine blk_alloc ?_ _));refine blk_put (cs:=#[.int .i64 ((rd_T44 l1 x19_2).f0),.int .i64 0,.int .i64 0]) ?_ 1 _ rfl;(with_reducible repeat (first | refine blk_drewN ?_ _ | refine blk_drew ?_ | refine blk_alloc ?_ _));refine blk_put (cs:=#[.int .i64 0,.int .i64 0,.int .i64 0]) ?_ 0 _ rfl;(with_reducible repeat (first | refine blk_drewN ?_ _ | refine blk_drew ?_ | refine blk_alloc ?_ _));exact BK706.out) hb);have n2_:=amk (below_step (bel1 HB GE706.out) hb);clear HO_6;clear BK706;clear HB;have HO_6:=n0_;have BK706:=n1_;have HB:=n2_;clear n0_ n1_ n2_;(try clear hb);have hcz20_0 : w19.cell? ⟨gb706,0,none⟩=some (.int .i64 ((rd_T44 l1 x19_2).f0)):=(blk_cell BK706.out 0).trans rfl;have hcz20_1 : w19.cell? ⟨gb706,1,none⟩=some (.int .i64 ((rd_T44 l1 x19_2).f1)):=(blk_cell BK706.out 1).trans rfl;have hcz20_2 : w19.cell? ⟨gb706,2,none⟩=some (.int .i64 ((rd_T44 l1 x19_2).f2)):=(blk_cell BK706.out 2).trans rfl;have hfz20_0:=blk_frozen BK706.out 0;have hfz20_1:=blk_frozen BK706.out 1;have hfz20_2:=blk_frozen BK706.out 2)|((with_reducible refine gate_builtin (b:=.append) (xs:=#[.tmp 26,.tmp 29]) rfl ?_);at_builtin;refine Kd.R_append (Kd.int .i64) (w0:=w) w.heap.size rfl (.tmp 26) (.tmp 29) 63 3 (.int .i64 0) 8 rfl Try.underlying63 info3 rfl (by decide) (by omega) u6 x6_2 ((rd_T44 l1 x19_2).f0) [.int .i64 ((rd_T44 l1 x19_2).f0)] (fun _=>True) (fun _=>False) rfl rfl ?aP (fun _ hk=>hk.elim) ?aF ?aO ?aB ?aS ?aL ?_;(case aP=>exact rfl);(case aB=>exact (bel1 HB GE706.out));(case aF=>exact (fun _ _=>trivial));(case aO=>exact (rrr HO_6));(case aS=>exact (below_size (bel1 HB GE706.out)));(case aL=>have:=LMc16.out;omega);intro v709 w21 ho hb hg hat;rw [← Ny708.out] at ho;replace BK706:=amk (blk_grown (g:=gb706) (o:=.cells #[.int .i64 ((rd_T44 l1 x19_2).f0),.int .i64 ((rd_T44 l1 x19_2).f1),.int .i64 ((rd_T44 l1 x19_2).f2)] 44 (0,0)) (bkk BK706) hg (Kd.R_ne HO_6.out BK706.out (by decide)));replace HB:=amk (hb);have HO710:=amk (ho);clear HO_6;clear ho hb hg hat))
           go_roundg k2
           case measure=>have:=HJ2.out;have:=HK2.out;omega
           case rel=>exact ⟨(y708),(wrap64 (x19_2 + 1)),rsd,H',⟨by have:=HJ2.out;have:=HK2.out;omega⟩,⟨rrr HO710⟩,⟨bel1 HB GE706.out⟩⟩
          ·rw [if_neg c16] at H
           exact absurd H (by simp)
         ·replace c15:=Bool.eq_false_iff.mpr c15
          subst c15
          have H1 : (impl_DrownedSumps.l0 k2 l0 x6_2 l1 (l1.length : Int) (wrap64 (x19_2 + 1)))=some (r1,r2):=by rw [if_neg (show ¬ (false=true) by decide)] at H;exact H
          clear H
          have H:=H1
          clear H1
          have H':=amk H
          clear H
          have p705 : 0≤(x19_2 : Int):=of_decide_eq_true ass
          have q705 : x19_2 < (l1.length : Int):=of_decide_eq_true ass
          obtain ⟨ad705,e705,hx705_0,hx705_1,hx705_2⟩:=at_T44 HR1.out x19_2 p705 q705
          cases e705
          replace hx705_0:=(HB.out.cell (World.block_lt_of_cell? w _ hx705_0)).trans hx705_0
          replace hx705_1:=(HB.out.cell (World.block_lt_of_cell? w _ hx705_1)).trans hx705_1
          replace hx705_2:=(HB.out.cell (World.block_lt_of_cell? w _ hx705_2)).trans hx705_2
          replace p705:=eq_true p705
          replace q705:=eq_true q705
          go_wp2_with (first | ((with_reducible refine gate_dst (N:=8) rfl ?_);refine box_event ?hg (N:=8) ?hd (cs:=#[.int .i64 0,.int .i64 0,.int .i64 0]) (t:=44) ?hr ?_;(case hd=>rfl);(case hg=>rfl);(case hr=>first | (go_simp;done)|(go_simp;rfl));intro gb706 hg w22 hbox hb;replace HO_6:=amk (Kd.R_below (rrr HO_6) hb);have BK706:=amk (hbox);have GW706:=amk ((by rw [hg];exact (below_size (bel HB)) : w.heap.size≤gb706));have GE706:=amk ((by rw [hg];exact (below_size (bel HB)) : w.heap.size≤gb706));replace HB:=amk (below_step (bel HB) hb);clear hb hbox hg;have hcz23_0 : w22.cell? ⟨gb706,0,none⟩=some (.int .i64 0):=(blk_cell BK706.out 0).trans rfl;have hcz23_1 : w22.cell? ⟨gb706,1,none⟩=some (.int .i64 0):=(blk_cell BK706.out 1).trans rfl;have hcz23_2 : w22.cell? ⟨gb706,2,none⟩=some (.int .i64 0):=(blk_cell BK706.out 2).trans rfl;have hfz23_0:=blk_frozen BK706.out 0;have hfz23_1:=blk_frozen BK706.out 1;have hfz23_2:=blk_frozen BK706.out 2)|((with_reducible refine gate_callee (f:=82) rfl ?_);refine goesL_ (some 25) rfl rfl Try.func82 (by kernel_rfl) rfl #[.slice A0 l0.length c0,.func (.func 83) #[] #[.pointer (some ⟨gb706,0,none⟩)]] rfl mtt ?_;(with_reducible refine (impl_Reading_82.calls k2 _ _ l0 83 #[.pointer (some ⟨gb706,0,none⟩)] (fun x_ : S30=>impl_DrownedSumps_1.f x_.f0 x_.f1 ((rd_T44 l1 x19_2).f0) ((rd_T44 l1 x19_2).f1) ((rd_T44 l1 x19_2).f2)) false _ ?side1 ?side2 ?side3 ?side4 A14.out).mono ?_);(case side1=>exact Kd.C_below HR0.out (bel1 HB GE706.out));(case side2=>exact HC0.out);(case side3=>exact enters_fn Try.func83 (by kernel_rfl) rfl);(case side4=>intro W_ x_ b_ hx_ hW_;exact (impl_DrownedSumps_1.calls x_.f0 x_.f1 gb706 ((rd_T44 l1 x19_2).f0) ((rd_T44 l1 x19_2).f1) ((rd_T44 l1 x19_2).f2) b_ W_ (blk_below (by (with_reducible repeat (first | refine blk_drewN ?_ _ | refine blk_drew ?_ | refine blk_alloc ?_ _));refine blk_put (cs:=#[.int .i64 ((rd_T44 l1 x19_2).f0),.int .i64 ((rd_T44 l1 x19_2).f1),.int .i64 0]) ?_ 2 _ rfl;(with_reducible repeat (first | refine blk_drewN ?_ _ | refine blk_drew ?_ | refine blk_alloc ?_ _));refine blk_put (cs:=#[.int .i64 ((rd_T44 l1 x19_2).f0),.int .i64 0,.int .i64 0]) ?_ 1 _ rfl;(with_reducible repeat (first | refine blk_drewN ?_ _ | refine blk_drew ?_ | refine blk_alloc ?_ _));refine blk_put (cs:=#[.int .i64 0,.int .i64 0,.int .i64 0]) ?_ 0 _ rfl;(with_reducible repeat (first | refine blk_drewN ?_ _ | refine blk_drew ?_ | refine blk_alloc ?_ _));exact BK706.out) hW_) hx_).mono (fun _ _ h_=>⟨h_.1,h_.2⟩));rintro e w24 ⟨rfl,hb⟩;refine ⟨_,rfl,?_⟩;have n0_:=amk (Kd.R_below (by (with_reducible repeat (first | apply Kd.R_alloc | apply Kd.R_drewN | apply Kd.R_drew));exact (Kd.R_mono (Kd.R_far (p:=⟨gb706,2,none⟩) (Kd.R_far (p:=⟨gb706,1,none⟩) (Kd.R_far (p:=⟨gb706,0,none⟩) (Kd.R_types HO_6.out BK706.out (by decide)) (fun _ hk=>hk.2) (.int .i64 ((rd_T44 l1 x19_2).f0))) (fun _ hk=>hk.2) (.int .i64 ((rd_T44 l1 x19_2).f1))) (fun _ hk=>hk.2) (.int .i64 ((rd_T44 l1 x19_2).f2))) (fun _ h_=>h_.1))) hb);have n1_:=amk (blk_below (g:=gb706) (o:=.cells #[.int .i64 ((rd_T44 l1 x19_2).f0),.int .i64 ((rd_T44 l1 x19_2).f1),.int .i64 ((rd_T44 l1 x19_2).f2)] 44 (0,0)) (by (with_reducible repeat (first | refine blk_drewN ?_ _ | refine blk_drew ?_ | refine blk_alloc ?_ _));refine blk_put (cs:=#[.int .i64 ((rd_T44 l1 x19_2).f0),.int .i64 ((rd_T44 l1 x19_2).f1),.int .i64 0]) ?_ 2 _ rfl;(with_reducible repeat (first | refine blk_drewN ?_ _ | refine blk_drew ?_ | refine blk_alloc ?_ _));refine blk_put (cs:=#[.int .i64 ((rd_T44 l1 x19_2).f0),.int .i64 0,.int .i64 0]) ?_ 1 _ rfl;(with_reducible repeat (first | refine blk_drewN ?_ _ | refine blk_drew ?_ | refine blk_alloc ?_ _));refine blk_put (cs:=#[.int .i64 0,.int .i64 0,.int .i64 0]) ?_ 0 _ rfl;(with_reducible repeat (first | refine blk_drewN ?_ _ | refine blk_drew ?_ | refine blk_alloc ?_ _));exact BK706.out) hb);have n2_:=amk (below_step (bel1 HB GE706.out) hb);clear HO_6;clear BK706;clear HB;have HO_6:=n0_;have BK706:=n1_;have HB:=n2_;clear n0_ n1_ n2_;(try clear hb)))
          go_roundg k2
          case measure=>have:=HJ2.out;have:=HK2.out;omega
          case rel=>exact ⟨(x6_2),(wrap64 (x19_2 + 1)),rsd,H',⟨by have:=HJ2.out;have:=HK2.out;omega⟩,⟨rrr HO_6⟩,⟨bel1 HB GE706.out⟩⟩
        ·rw [if_neg c13] at H
         exact absurd H (by simp)
       ·rw [if_neg c12] at H
        exact absurd H (by simp)
      ·rw [if_neg c11] at H
       have c11b0 : decide (x19_2 < (l1.length : Int))=false:=decide_eq_false c11
       clear c11
       simp only [Option.some.injEq,Prod.mk.injEq] at H
       obtain ⟨rfl,rfl⟩:=H
       go_wp2
       go_ret2
       exact ⟨_,erw0,rrr HO_6,bel HB⟩
mutual
def spec_DrownedSumps.j0 : Nat→List (S30)→List (S44)→List Int→Bool→Option (List Int × Bool)
 | 0,_,_,_,_=>none
 | k + 1,x0,x1,x6,x17=>if x17=true then (some (x6,false)) else (spec_DrownedSumps.l0 k x0 x1 x6 0)
def spec_DrownedSumps.l0 : Nat→List (S30)→List (S44)→List Int→Int→Option (List Int × Bool)
 | 0,_,_,_,_=>none
 | k + 1,x0,x1,x6,x7=>if x7 < (x1.length : Int) then (spec_DrownedSumps.l1 k x0 x1 x6 x7 0) else (some (x6,true))
def spec_DrownedSumps.l1 : Nat→List (S30)→List (S44)→List Int→Int→Int→Option (List Int × Bool)
 | 0,_,_,_,_,_=>none
 | k + 1,x0,x1,x6,x7,x8=>if x8 < (x0.length : Int) then (if 0≤x8 then (if 0≤x7 then (if x7 < (x1.length : Int) then (if ((rd_T30 x0 x8).f1) > ((rd_T44 x1 x7).f1) then (if x6.length < 17592186044416 then (spec_DrownedSumps.l0 k x0 x1 (x6 ++ [(rd_T44 x1 x7).f0]) (wrap64 (x7 + 1))) else (none)) else (spec_DrownedSumps.l1 k x0 x1 x6 x7 (wrap64 (x8 + 1)))) else (none)) else (none)) else (none)) else (spec_DrownedSumps.l0 k x0 x1 x6 (wrap64 (x7 + 1)))
end
def spec_DrownedSumps.f (k : Nat) (l0 : List (S30)) (l1 : List (S44)) : Option (List Int × Bool):=(some (([] : List Int) : List Int)).bind fun y711=>((spec_l23Good.f k l0).bind fun t714=>(if t714=true then ((spec_l23Sumps.f k l1).bind fun t715=>(spec_DrownedSumps.j0 k l0 l1 y711 (!t715))) else (spec_DrownedSumps.j0 k l0 l1 y711 true)))
theorem spec_DrownedSumps.mono_l : ∀ k,(∀ y0 y1 y2 y3,LeO (spec_DrownedSumps.j0 k y0 y1 y2 y3) (spec_DrownedSumps.j0 (k + 1) y0 y1 y2 y3))∧(∀ y0 y1 y2 y3,LeO (spec_DrownedSumps.l0 k y0 y1 y2 y3) (spec_DrownedSumps.l0 (k + 1) y0 y1 y2 y3))∧(∀ y0 y1 y2 y3 y4,LeO (spec_DrownedSumps.l1 k y0 y1 y2 y3 y4) (spec_DrownedSumps.l1 (k + 1) y0 y1 y2 y3 y4))
 | 0=>⟨fun _ _ _ _ r h=>by simp [spec_DrownedSumps.j0] at h,fun _ _ _ _ r h=>by simp [spec_DrownedSumps.l0] at h,fun _ _ _ _ _ r h=>by simp [spec_DrownedSumps.l1] at h⟩
 | k + 1=>by
  obtain ⟨ih0,ih1,ih2⟩:=spec_DrownedSumps.mono_l k
  refine ⟨?_,?_,?_⟩
  ·intro y0 y1 y2 y3
   unfold spec_DrownedSumps.j0
   repeat' first
   | (with_reducible exact ih0 _ _ _ _)
   | (with_reducible exact ih1 _ _ _ _)
   | (with_reducible exact ih2 _ _ _ _ _)
   | (with_reducible exact spec_l23Good.mono _ _)
   | (with_reducible exact spec_l23Sumps.mono _ _)
   | (with_reducible exact LeO.refl _)
   | (with_reducible exact LeO.none _)
   | (with_reducible refine LeO.ite ?_ ?_)
   | (with_reducible refine LeO.bind ?_ (fun _=>?_))
   | exact ih0 _ _ _ _
   | exact ih1 _ _ _ _
   | exact ih2 _ _ _ _ _
  ·intro y0 y1 y2 y3
   unfold spec_DrownedSumps.l0
   repeat' first
   | (with_reducible exact ih0 _ _ _ _)
   | (with_reducible exact ih1 _ _ _ _)
   | (with_reducible exact ih2 _ _ _ _ _)
   | (with_reducible exact spec_l23Good.mono _ _)
   | (with_reducible exact spec_l23Sumps.mono _ _)
   | (with_reducible exact LeO.refl _)
   | (with_reducible exact LeO.none _)
   | (with_reducible refine LeO.ite ?_ ?_)
   | (with_reducible refine LeO.bind ?_ (fun _=>?_))
   | exact ih0 _ _ _ _
   | exact ih1 _ _ _ _
   | exact ih2 _ _ _ _ _
  ·intro y0 y1 y2 y3 y4
   unfold spec_DrownedSumps.l1
   repeat' first
   | (with_reducible exact ih0 _ _ _ _)
   | (with_reducible exact ih1 _ _ _ _)
   | (with_reducible exact ih2 _ _ _ _ _)
   | (with_reducible exact spec_l23Good.mono _ _)
   | (with_reducible exact spec_l23Sumps.mono _ _)
   | (with_reducible exact LeO.refl _)
   | (with_reducible exact LeO.none _)
   | (with_reducible refine LeO.ite ?_ ?_)
   | (with_reducible refine LeO.bind ?_ (fun _=>?_))
   | exact ih0 _ _ _ _
   | exact ih1 _ _ _ _
   | exact ih2 _ _ _ _ _
theorem spec_DrownedSumps.mono : ∀ a0 a1 k,LeO (spec_DrownedSumps.f k a0 a1) (spec_DrownedSumps.f (k + 1) a0 a1):=by
 intro a0 a1 k
 obtain ⟨ih0,ih1,ih2⟩:=spec_DrownedSumps.mono_l k
 unfold spec_DrownedSumps.f
 repeat' first
   | (with_reducible exact ih0 _ _ _ _)
   | (with_reducible exact ih1 _ _ _ _)
   | (with_reducible exact ih2 _ _ _ _ _)
   | (with_reducible exact spec_l23Good.mono _ _)
   | (with_reducible exact spec_l23Sumps.mono _ _)
   | (with_reducible exact LeO.refl _)
   | (with_reducible exact LeO.none _)
   | (with_reducible refine LeO.ite ?_ ?_)
   | (with_reducible refine LeO.bind ?_ (fun _=>?_))
   | exact ih0 _ _ _ _
   | exact ih1 _ _ _ _
   | exact ih2 _ _ _ _ _
set_option maxHeartbeats 8000000 in
set_option maxRecDepth 100000 in
theorem spec_DrownedSumps.calls (k : Nat) (A0 : Option Addr) (c0 : Nat) (l0 : List (S30)) (A1 : Option Addr) (c1 : Nat) (l1 : List (S44)) (r1 : List Int) (r2 : Bool) (w : World) (hr0 : Kd.C k30 w A0 l0.length l0) (hc0 : l0.length≤c0) (hr1 : Kd.C k44 w A1 l1.length l1) (hc1 : l1.length≤c1) (h : spec_DrownedSumps.f k l0 l1=some (r1,r2)) :
  Calls Try.prog 45 #[.slice A0 l0.length c0,.slice A1 l1.length c1] w fun e w'=>∃ v0_ : Value,e = .returned (.tuple #[v0_,.bool r2])∧Kd.R (Kd.int .i64) 3 w' w.heap.size (fun _=>True) v0_ r1∧Below w.heap.size w w':=by
 have HR0:=amk hr0
 have HC0:=amk hc0
 clear hr0 hc0
 have HR1:=amk hr1
 have HC1:=amk hc1
 clear hr1 hc1
 have HB:=amk (Below.refl w.heap.size w)
 have H : ((some (([] : List Int) : List Int)).bind fun y711=>((spec_l23Good.f k l0).bind fun t714=>(if t714=true then ((spec_l23Sumps.f k l1).bind fun t715=>(spec_DrownedSumps.j0 k l0 l1 y711 (!t715))) else (spec_DrownedSumps.j0 k l0 l1 y711 true))))=some (r1,r2):=h
 clear h
 obtain ⟨y711,hy711⟩ : ∃ y_ : List Int,y_=(([] : List Int)):=⟨_,rfl⟩
 replace H : ((spec_l23Good.f k l0).bind fun t714=>(if t714=true then ((spec_l23Sumps.f k l1).bind fun t715=>(spec_DrownedSumps.j0 k l0 l1 y711 (!t715))) else (spec_DrownedSumps.j0 k l0 l1 y711 true)))=some (r1,r2):=by first | (rw [hy711];with_reducible exact H)|(have H2_:=(Option.bind_some _ _).symm.trans H;rw [hy711];with_reducible exact H2_)|(have H2_:=(Option.bind_some _ _).symm.trans H;with_reducible exact H2_) | with_reducible exact H | (rw [hy711];exact H) | exact H
 have Ny711:=amk hy711
 clear hy711
 have HC3:=amk H
 clear H
 go_enter Try.func45,Try.ntmps45
 go_upto_region 2 with (first | ((with_reducible refine gate_dst (N:=9) rfl ?_);refine Kd.R_lit (Kd.int .i64) _ 3 ?hg (N:=9) ?hd (xs:=([] : List Int)) (inner:=[]) (ok:=fun _=>True) (okp:=fun _=>True) ?hr ?hp (fun _ hk=>hk) trivial (Below.refl _ _) (Nat.le_refl _) (by simp) ?_;(case hd=>rfl);(case hg=>rfl);(case hr=>first | (go_simp;done)|(go_simp;rfl));(case hp=>exact (Reps.none _ _));intro v712 w4 ho5 hb hg_ hnew_;clear hg_ hnew_;(first | rw [← Ny711.out] at ho5 | (simp only [Int.reduceToNat] at ho5;rw [← Ny711.out] at ho5));have HO713:=amk (Kd.R_lower ho5 (below_size (bel HB)));replace HB:=amk (below_step (bel HB) hb);clear hb ho5))
 repeat (go_quiet (first | ((with_reducible refine gate_dst (N:=9) rfl ?_);refine Kd.R_lit (Kd.int .i64) _ 3 ?hg (N:=9) ?hd (xs:=([] : List Int)) (inner:=[]) (ok:=fun _=>True) (okp:=fun _=>True) ?hr ?hp (fun _ hk=>hk) trivial (Below.refl _ _) (Nat.le_refl _) (by simp) ?_;(case hd=>rfl);(case hg=>rfl);(case hr=>first | (go_simp;done)|(go_simp;rfl));(case hp=>exact (Reps.none _ _));intro v712 w4 ho5 hb hg_ hnew_;clear hg_ hnew_;(first | rw [← Ny711.out] at ho5 | (simp only [Int.reduceToNat] at ho5;rw [← Ny711.out] at ho5));have HO713:=amk (Kd.R_lower ho5 (below_size (bel HB)));replace HB:=amk (below_step (bel HB) hb);clear hb ho5));go_upto_region 2 with (first | ((with_reducible refine gate_dst (N:=9) rfl ?_);refine Kd.R_lit (Kd.int .i64) _ 3 ?hg (N:=9) ?hd (xs:=([] : List Int)) (inner:=[]) (ok:=fun _=>True) (okp:=fun _=>True) ?hr ?hp (fun _ hk=>hk) trivial (Below.refl _ _) (Nat.le_refl _) (by simp) ?_;(case hd=>rfl);(case hg=>rfl);(case hr=>first | (go_simp;done)|(go_simp;rfl));(case hp=>exact (Reps.none _ _));intro v712 w4 ho5 hb hg_ hnew_;clear hg_ hnew_;(first | rw [← Ny711.out] at ho5 | (simp only [Int.reduceToNat] at ho5;rw [← Ny711.out] at ho5));have HO713:=amk (Kd.R_lower ho5 (below_size (bel HB)));replace HB:=amk (below_step (bel HB) hb);clear hb ho5)))
 (try simp only [Act.put,List.setIfInBounds_toArray,List.set_cons_zero,List.set_cons_succ])
 go_cut [17] (fun v17 wc=>∃ (kq : Nat) (x17_2 : Bool),v17 = .bool x17_2∧Aside0 (spec_DrownedSumps.j0 kq l0 l1 y711 x17_2=some (r1,r2))∧Aside0 (kq≤k)∧Aside0 (Kd.R (Kd.int .i64) 3 wc w.heap.size (fun _=>True) v712 y711)∧Aside0 (Below w.heap.size w wc))
 case first=>
  have H:=HC3.out
  clear HC3
  replace H:=obs H
  obtain ⟨t714,A60,H⟩:=H
  replace H : (if t714=true then ((spec_l23Sumps.f k l1).bind fun t715=>(spec_DrownedSumps.j0 k l0 l1 y711 (!t715))) else (spec_DrownedSumps.j0 k l0 l1 y711 true))=some (r1,r2):=H
  have A6:=amk A60
  clear A60
  by_cases c7 : t714=true
  ·subst c7
   have H1 : ((spec_l23Sumps.f k l1).bind fun t715=>(spec_DrownedSumps.j0 k l0 l1 y711 (!t715)))=some (r1,r2):=by rw [if_pos rfl] at H;exact H
   clear H
   have H:=H1
   clear H1
   replace H:=obs H
   obtain ⟨t715,A80,H⟩:=H
   replace H : (spec_DrownedSumps.j0 k l0 l1 y711 (!t715))=some (r1,r2):=H
   have A8:=amk A80
   clear A80
   have H':=amk H
   clear H
   go_wp2_with (first | (go_at_call 53;(with_reducible refine (spec_l23Good.calls k _ _ l0 true _ ?side1 ?side2 A6.out).mono ?_);(case side1=>exact ccc (Kd.C_below HR0.out HB.out));(case side2=>exact HC0.out);rintro e w9 ⟨rfl,hb⟩;replace HO713:=amk (Kd.R_below (rrr HO713) hb);replace HB:=amk (below_step (bel HB) hb);(try clear hb))|(go_at_call 71;(with_reducible refine (spec_l23Sumps.calls k _ _ l1 t715 _ ?side1 ?side2 A8.out).mono ?_);(case side1=>exact ccc (Kd.C_below HR1.out HB.out));(case side2=>exact HC1.out);rintro e w10 ⟨rfl,hb⟩;replace HO713:=amk (Kd.R_below (rrr HO713) hb);replace HB:=amk (below_step (bel HB) hb);(try clear hb)))
   repeat (go_quiet (first | (go_at_call 53;(with_reducible refine (spec_l23Good.calls k _ _ l0 true _ ?side1 ?side2 A6.out).mono ?_);(case side1=>exact ccc (Kd.C_below HR0.out HB.out));(case side2=>exact HC0.out);rintro e w9 ⟨rfl,hb⟩;replace HO713:=amk (Kd.R_below (rrr HO713) hb);replace HB:=amk (below_step (bel HB) hb);(try clear hb))|(go_at_call 71;(with_reducible refine (spec_l23Sumps.calls k _ _ l1 t715 _ ?side1 ?side2 A8.out).mono ?_);(case side1=>exact ccc (Kd.C_below HR1.out HB.out));(case side2=>exact HC1.out);rintro e w10 ⟨rfl,hb⟩;replace HO713:=amk (Kd.R_below (rrr HO713) hb);replace HB:=amk (below_step (bel HB) hb);(try clear hb)));try go_wp2_with (first | (go_at_call 53;(with_reducible refine (spec_l23Good.calls k _ _ l0 true _ ?side1 ?side2 A6.out).mono ?_);(case side1=>exact ccc (Kd.C_below HR0.out HB.out));(case side2=>exact HC0.out);rintro e w9 ⟨rfl,hb⟩;replace HO713:=amk (Kd.R_below (rrr HO713) hb);replace HB:=amk (below_step (bel HB) hb);(try clear hb))|(go_at_call 71;(with_reducible refine (spec_l23Sumps.calls k _ _ l1 t715 _ ?side1 ?side2 A8.out).mono ?_);(case side1=>exact ccc (Kd.C_below HR1.out HB.out));(case side2=>exact HC1.out);rintro e w10 ⟨rfl,hb⟩;replace HO713:=amk (Kd.R_below (rrr HO713) hb);replace HB:=amk (below_step (bel HB) hb);(try clear hb))))
   go_meet
   case rel=>exact ⟨_,(!t715),rsd,H',⟨by first | omega | exact Nat.le_refl _⟩,⟨rrr HO713⟩,⟨bel HB⟩⟩
  ·replace c7:=Bool.eq_false_iff.mpr c7
   subst c7
   have H1 : (spec_DrownedSumps.j0 k l0 l1 y711 true)=some (r1,r2):=by rw [if_neg (show ¬ (false=true) by decide)] at H;exact H
   clear H
   have H:=H1
   clear H1
   have H':=amk H
   clear H
   go_wp2_with (first | (go_at_call 53;(with_reducible refine (spec_l23Good.calls k _ _ l0 false _ ?side1 ?side2 A6.out).mono ?_);(case side1=>exact ccc (Kd.C_below HR0.out HB.out));(case side2=>exact HC0.out);rintro e w11 ⟨rfl,hb⟩;replace HO713:=amk (Kd.R_below (rrr HO713) hb);replace HB:=amk (below_step (bel HB) hb);(try clear hb)))
   repeat (go_quiet (first | (go_at_call 53;(with_reducible refine (spec_l23Good.calls k _ _ l0 false _ ?side1 ?side2 A6.out).mono ?_);(case side1=>exact ccc (Kd.C_below HR0.out HB.out));(case side2=>exact HC0.out);rintro e w11 ⟨rfl,hb⟩;replace HO713:=amk (Kd.R_below (rrr HO713) hb);replace HB:=amk (below_step (bel HB) hb);(try clear hb)));try go_wp2_with (first | (go_at_call 53;(with_reducible refine (spec_l23Good.calls k _ _ l0 false _ ?side1 ?side2 A6.out).mono ?_);(case side1=>exact ccc (Kd.C_below HR0.out HB.out));(case side2=>exact HC0.out);rintro e w11 ⟨rfl,hb⟩;replace HO713:=amk (Kd.R_below (rrr HO713) hb);replace HB:=amk (below_step (bel HB) hb);(try clear hb))))
   go_meet
   case rel=>exact ⟨_,(true),rsd,H',⟨by first | omega | exact Nat.le_refl _⟩,⟨rrr HO713⟩,⟨bel HB⟩⟩
 case rest=>
  clear HC3
  try clear c1
  try clear p2
  try clear c4
  try clear c7
  obtain ⟨kq,x17_2,rfl,HA,HJ2,HO_6,HB⟩:=hcut
  cases kq with
  | zero=>exact absurd HA.out (by simp [spec_DrownedSumps.j0])
  | succ kj2=>
   have H:=HA.out
   clear HA
   simp only [spec_DrownedSumps.j0] at H
   by_cases c12 : x17_2=true
   ·subst c12
    have H1 : (some (y711,false))=some (r1,r2):=by rw [if_pos rfl] at H;exact H
    clear H
    have H:=H1
    clear H1
    simp only [Option.some.injEq,Prod.mk.injEq] at H
    obtain ⟨rfl,rfl⟩:=H
    go_wp2
    repeat (go_quiet (fail);try go_wp2)
    go_ret2
    exact ⟨_,erw0,rrr HO_6,bel HB⟩
   ·replace c12:=Bool.eq_false_iff.mpr c12
    subst c12
    have H1 : (spec_DrownedSumps.l0 kj2 l0 l1 y711 0)=some (r1,r2):=by rw [if_neg (show ¬ (false=true) by decide)] at H;exact H
    clear H
    have H:=H1
    clear H1
    have H':=amk H
    clear H
    go_wp2
    repeat (go_quiet (fail);try go_wp2)
    go_loopg [6,7] kj2 (fun kq v6 v7 w'=>∃ (x6_2 : List Int) (x7_2 : Int),v7 = .int .i64 x7_2∧Aside0 (spec_DrownedSumps.l0 kq l0 l1 x6_2 x7_2=some (r1,r2))∧Aside0 (kq≤kj2)∧Aside0 (Kd.R (Kd.int .i64) 3 w' w.heap.size (fun _=>True) v6 x6_2)∧Aside0 (Below w.heap.size w w'))
    case atStart=>exact ⟨(y711),(0),rsd,H',⟨Nat.le_refl _⟩,⟨rrr HO_6⟩,⟨bel HB⟩⟩
    case round=>
     clear H'
     try clear c1
     try clear p2
     try clear c4
     try clear c7
     try clear c12
     try clear p2
     obtain ⟨x6_2,x7_2,rfl,HA,HK2,HO_6,HB⟩:=hrel
     cases gk with
     | zero=>exact absurd HA.out (by simp [spec_DrownedSumps.l0])
     | succ k2=>
      have H:=HA.out
      clear HA
      simp only [spec_DrownedSumps.l0] at H
      by_cases c13 : x7_2 < (l1.length : Int)
      ·rw [if_pos c13] at H
       have c13b0 : decide (x7_2 < (l1.length : Int))=true:=decide_eq_true c13
       clear c13
       have H':=amk H
       clear H
       go_wp2
       repeat (go_quiet (fail);try go_wp2)
       go_loopg [6,8] k2 (fun kq v6 v8 w'=>∃ (x6_3 : List Int) (x8_3 : Int),v8 = .int .i64 x8_3∧Aside0 (spec_DrownedSumps.l1 kq l0 l1 x6_3 x7_2 x8_3=some (r1,r2))∧Aside0 (kq≤k2)∧Aside0 (Kd.R (Kd.int .i64) 3 w' w.heap.size (fun _=>True) v6 x6_3)∧Aside0 (Below w.heap.size w w'))
       case atStart=>exact ⟨(x6_2),(0),rsd,H',⟨Nat.le_refl _⟩,⟨rrr HO_6⟩,⟨bel HB⟩⟩
       case round=>
        clear H'
        try clear c1
        try clear p2
        try clear c4
        try clear c7
        try clear c12
        try clear c13
        try clear c13b0
        try clear p2
        obtain ⟨x6_3,x8_3,rfl,HA,HK3,HO_6,HB⟩:=hrel
        cases gk with
        | zero=>exact absurd HA.out (by simp [spec_DrownedSumps.l1])
        | succ k3=>
         have H:=HA.out
         clear HA
         simp only [spec_DrownedSumps.l1] at H
         by_cases c14 : x8_3 < (l0.length : Int)
         ·rw [if_pos c14] at H
          have c14b0 : decide (x8_3 < (l0.length : Int))=true:=decide_eq_true c14
          clear c14
          by_cases c15 : 0≤x8_3
          ·rw [if_pos c15] at H
           have c15b0 : decide (0≤x8_3)=true:=decide_eq_true c15
           clear c15
           by_cases c16 : 0≤x7_2
           ·rw [if_pos c16] at H
            have c16b0 : decide (0≤x7_2)=true:=decide_eq_true c16
            clear c16
            by_cases c17 : x7_2 < (l1.length : Int)
            ·rw [if_pos c17] at H
             have c17b0 : decide (x7_2 < (l1.length : Int))=true:=decide_eq_true c17
             clear c17
             by_cases c18 : ((rd_T30 l0 x8_3).f1) > ((rd_T44 l1 x7_2).f1)
             ·rw [if_pos c18] at H
              have c18b0 : decide (((rd_T44 l1 x7_2).f1) < ((rd_T30 l0 x8_3).f1))=true:=decide_eq_true c18
              clear c18
              by_cases c19 : x6_3.length < 17592186044416
              ·rw [if_pos c19] at H
               have LMc19:=amk c19
               clear c19
               obtain ⟨y719,hy719⟩ : ∃ y_ : List Int,y_=(x6_3 ++ [(rd_T44 l1 x7_2).f0]):=⟨_,rfl⟩
               replace H : (spec_DrownedSumps.l0 k3 l0 l1 y719 (wrap64 (x7_2 + 1)))=some (r1,r2):=by first | (rw [hy719];with_reducible exact H)|(have H2_:=(Option.bind_some _ _).symm.trans H;rw [hy719];with_reducible exact H2_)|(have H2_:=(Option.bind_some _ _).symm.trans H;with_reducible exact H2_) | with_reducible exact H | (rw [hy719];exact H) | exact H
               have Ny719:=amk hy719
               clear hy719
               have H':=amk H
               clear H
               have p716 : 0≤(x8_3 : Int):=of_decide_eq_true ass
               have q716 : x8_3 < (l0.length : Int):=of_decide_eq_true ass
               obtain ⟨ad716,e716,hx716_0,hx716_1⟩:=at_T30 HR0.out x8_3 p716 q716
               cases e716
               replace hx716_0:=(HB.out.cell (World.block_lt_of_cell? w _ hx716_0)).trans hx716_0
               replace hx716_1:=(HB.out.cell (World.block_lt_of_cell? w _ hx716_1)).trans hx716_1
               replace p716:=eq_true p716
               replace q716:=eq_true q716
               have p717 : 0≤(x7_2 : Int):=of_decide_eq_true ass
               have q717 : x7_2 < (l1.length : Int):=of_decide_eq_true ass
               obtain ⟨ad717,e717,hx717_0,hx717_1,hx717_2⟩:=at_T44 HR1.out x7_2 p717 q717
               cases e717
               replace hx717_0:=(HB.out.cell (World.block_lt_of_cell? w _ hx717_0)).trans hx717_0
               replace hx717_1:=(HB.out.cell (World.block_lt_of_cell? w _ hx717_1)).trans hx717_1
               replace hx717_2:=(HB.out.cell (World.block_lt_of_cell? w _ hx717_2)).trans hx717_2
               replace p717:=eq_true p717
               replace q717:=eq_true q717
               have p718 : 0≤(x7_2 : Int):=of_decide_eq_true ass
               have q718 : x7_2 < (l1.length : Int):=of_decide_eq_true ass
               obtain ⟨ad718,e718,hx718_0,hx718_1,hx718_2⟩:=at_T44 HR1.out x7_2 p718 q718
               obtain rfl : ad717=ad718:=(by injection e718)
               replace hx718_0:=(HB.out.cell (World.block_lt_of_cell? w _ hx718_0)).trans hx718_0
               replace hx718_1:=(HB.out.cell (World.block_lt_of_cell? w _ hx718_1)).trans hx718_1
               replace hx718_2:=(HB.out.cell (World.block_lt_of_cell? w _ hx718_2)).trans hx718_2
               replace p718:=eq_true p718
               replace q718:=eq_true q718
               go_wp2_with (first | ((with_reducible refine gate_builtin (b:=.append) (xs:=#[.tmp 42,.tmp 48]) rfl ?_);at_builtin;refine Kd.R_append (Kd.int .i64) (w0:=w) w.heap.size rfl (.tmp 42) (.tmp 48) 63 3 (.int .i64 0) 8 rfl Try.underlying63 info3 rfl (by decide) (by omega) u6 x6_3 ((rd_T44 l1 x7_2).f0) [.int .i64 ((rd_T44 l1 x7_2).f0)] (fun _=>True) (fun _=>False) rfl rfl ?aP (fun _ hk=>hk.elim) ?aF ?aO ?aB ?aS ?aL ?_;(case aP=>exact rfl);(case aB=>exact (bel HB));(case aF=>exact (fun _ _=>trivial));(case aO=>exact (rrr HO_6));(case aS=>exact (below_size (bel HB)));(case aL=>have:=LMc19.out;omega);intro v720 w20 ho hb hg hat;rw [← Ny719.out] at ho;replace HB:=amk (hb);have HO721:=amk (ho);clear HO_6;clear ho hb hg hat))
               repeat (go_quiet (first | ((with_reducible refine gate_builtin (b:=.append) (xs:=#[.tmp 42,.tmp 48]) rfl ?_);at_builtin;refine Kd.R_append (Kd.int .i64) (w0:=w) w.heap.size rfl (.tmp 42) (.tmp 48) 63 3 (.int .i64 0) 8 rfl Try.underlying63 info3 rfl (by decide) (by omega) u6 x6_3 ((rd_T44 l1 x7_2).f0) [.int .i64 ((rd_T44 l1 x7_2).f0)] (fun _=>True) (fun _=>False) rfl rfl ?aP (fun _ hk=>hk.elim) ?aF ?aO ?aB ?aS ?aL ?_;(case aP=>exact rfl);(case aB=>exact (bel HB));(case aF=>exact (fun _ _=>trivial));(case aO=>exact (rrr HO_6));(case aS=>exact (below_size (bel HB)));(case aL=>have:=LMc19.out;omega);intro v720 w20 ho hb hg hat;rw [← Ny719.out] at ho;replace HB:=amk (hb);have HO721:=amk (ho);clear HO_6;clear ho hb hg hat));try go_wp2_with (first | ((with_reducible refine gate_builtin (b:=.append) (xs:=#[.tmp 42,.tmp 48]) rfl ?_);at_builtin;refine Kd.R_append (Kd.int .i64) (w0:=w) w.heap.size rfl (.tmp 42) (.tmp 48) 63 3 (.int .i64 0) 8 rfl Try.underlying63 info3 rfl (by decide) (by omega) u6 x6_3 ((rd_T44 l1 x7_2).f0) [.int .i64 ((rd_T44 l1 x7_2).f0)] (fun _=>True) (fun _=>False) rfl rfl ?aP (fun _ hk=>hk.elim) ?aF ?aO ?aB ?aS ?aL ?_;(case aP=>exact rfl);(case aB=>exact (bel HB));(case aF=>exact (fun _ _=>trivial));(case aO=>exact (rrr HO_6));(case aS=>exact (below_size (bel HB)));(case aL=>have:=LMc19.out;omega);intro v720 w20 ho hb hg hat;rw [← Ny719.out] at ho;replace HB:=amk (hb);have HO721:=amk (ho);clear HO_6;clear ho hb hg hat)))
               go_roundg k3
               case measure=>have:=HJ2.out;have:=HK2.out;have:=HK3.out;omega
               case rel=>exact ⟨(y719),(wrap64 (x7_2 + 1)),rsd,H',⟨by have:=HJ2.out;have:=HK2.out;have:=HK3.out;omega⟩,⟨rrr HO721⟩,⟨bel HB⟩⟩
              ·rw [if_neg c19] at H
               exact absurd H (by simp)
             ·rw [if_neg c18] at H
              have c18b0 : decide (((rd_T44 l1 x7_2).f1) < ((rd_T30 l0 x8_3).f1))=false:=decide_eq_false c18
              clear c18
              have H':=amk H
              clear H
              have p716 : 0≤(x8_3 : Int):=of_decide_eq_true ass
              have q716 : x8_3 < (l0.length : Int):=of_decide_eq_true ass
              obtain ⟨ad716,e716,hx716_0,hx716_1⟩:=at_T30 HR0.out x8_3 p716 q716
              cases e716
              replace hx716_0:=(HB.out.cell (World.block_lt_of_cell? w _ hx716_0)).trans hx716_0
              replace hx716_1:=(HB.out.cell (World.block_lt_of_cell? w _ hx716_1)).trans hx716_1
              replace p716:=eq_true p716
              replace q716:=eq_true q716
              have p717 : 0≤(x7_2 : Int):=of_decide_eq_true ass
              have q717 : x7_2 < (l1.length : Int):=of_decide_eq_true ass
              obtain ⟨ad717,e717,hx717_0,hx717_1,hx717_2⟩:=at_T44 HR1.out x7_2 p717 q717
              cases e717
              replace hx717_0:=(HB.out.cell (World.block_lt_of_cell? w _ hx717_0)).trans hx717_0
              replace hx717_1:=(HB.out.cell (World.block_lt_of_cell? w _ hx717_1)).trans hx717_1
              replace hx717_2:=(HB.out.cell (World.block_lt_of_cell? w _ hx717_2)).trans hx717_2
              replace p717:=eq_true p717
              replace q717:=eq_true q717
              go_wp2
              repeat (go_quiet (fail);try go_wp2)
              go_roundg k3
              case measure=>have:=HJ2.out;have:=HK2.out;have:=HK3.out;omega
              case rel=>exact ⟨(x6_3),(wrap64 (x8_3 + 1)),rsd,H',⟨by have:=HJ2.out;have:=HK2.out;have:=HK3.out;omega⟩,⟨rrr HO_6⟩,⟨bel HB⟩⟩
            ·rw [if_neg c17] at H
             exact absurd H (by simp)
           ·rw [if_neg c16] at H
            exact absurd H (by simp)
          ·rw [if_neg c15] at H
           exact absurd H (by simp)
         ·rw [if_neg c14] at H
          have c14b0 : decide (x8_3 < (l0.length : Int))=false:=decide_eq_false c14
          clear c14
          have H':=amk H
          clear H
          go_wp2
          repeat (go_quiet (fail);try go_wp2)
          go_roundg k3
          case measure=>have:=HJ2.out;have:=HK2.out;have:=HK3.out;omega
          case rel=>exact ⟨(x6_3),(wrap64 (x7_2 + 1)),rsd,H',⟨by have:=HJ2.out;have:=HK2.out;have:=HK3.out;omega⟩,⟨rrr HO_6⟩,⟨bel HB⟩⟩
      ·rw [if_neg c13] at H
       have c13b0 : decide (x7_2 < (l1.length : Int))=false:=decide_eq_false c13
       clear c13
       simp only [Option.some.injEq,Prod.mk.injEq] at H
       obtain ⟨rfl,rfl⟩:=H
       go_wp2
       repeat (go_quiet (fail);try go_wp2)
       go_ret2
       exact ⟨_,erw0,rrr HO_6,bel HB⟩
def laws_rHas.l0 : Nat→List Int→Int→Int→Option (Bool)
 | 0,_,_,_=>none
 | k + 1,x0,x1,x5=>if x5 < (x0.length : Int) then (if 0≤x5 then (if (rd x0 x5)=x1 then (some true) else (laws_rHas.l0 k x0 x1 (wrap64 (x5 + 1)))) else (none)) else (some false)
def laws_rHas.f (k : Nat) (l0 : List Int) (a1 : Int) : Option (Bool):=laws_rHas.l0 k l0 a1 0
theorem laws_rHas.mono_l : ∀ k,(∀ y0 y1 y2,LeO (laws_rHas.l0 k y0 y1 y2) (laws_rHas.l0 (k + 1) y0 y1 y2))
 | 0=>fun _ _ _ r h=>by simp [laws_rHas.l0] at h
 | k + 1=>by
  have ih0:=laws_rHas.mono_l k
  ·intro y0 y1 y2
   unfold laws_rHas.l0
   repeat' first
   | (with_reducible exact ih0 _ _ _)
   | (with_reducible exact LeO.refl _)
   | (with_reducible exact LeO.none _)
   | (with_reducible refine LeO.ite ?_ ?_)
   | (with_reducible refine LeO.bind ?_ (fun _=>?_))
   | exact ih0 _ _ _
theorem laws_rHas.mono : ∀ a0 a1 k,LeO (laws_rHas.f k a0 a1) (laws_rHas.f (k + 1) a0 a1):=by
 intro a0 a1 k
 have ih0:=laws_rHas.mono_l k
 unfold laws_rHas.f
 repeat' first
   | (with_reducible exact ih0 _ _ _)
   | (with_reducible exact LeO.refl _)
   | (with_reducible exact LeO.none _)
   | (with_reducible refine LeO.ite ?_ ?_)
   | (with_reducible refine LeO.bind ?_ (fun _=>?_))
   | exact ih0 _ _ _
set_option maxHeartbeats 8000000 in
set_option maxRecDepth 100000 in
theorem laws_rHas.calls (k : Nat) (A0 : Option Addr) (c0 : Nat) (l0 : List Int) (a1 : Int) (r : Bool) (w : World) (hr0 : Kd.C (Kd.int .i64) w A0 l0.length l0) (hc0 : l0.length≤c0) (h : laws_rHas.f k l0 a1=some r) :
  Calls Try.prog 46 #[.slice A0 l0.length c0,.int .i64 a1] w fun e w'=>e = .returned (.bool r)∧Drawn0 w w':=by
 have HR0:=amk hr0
 have HC0:=amk hc0
 clear hr0 hc0
 have H : (laws_rHas.l0 k l0 a1 0)=some r:=h
 clear h
 have H':=amk H
 clear H
 go_enter Try.func46,Try.ntmps46
 go_wp2
 go_loopg [5] k (fun kq v5 w'=>∃ (x5_1 : Int),v5 = .int .i64 x5_1∧Aside0 (laws_rHas.l0 kq l0 a1 x5_1=some r)∧Aside0 (kq≤k)∧Drawn0 w w')
 case atStart=>exact ⟨(0),rsd,H',⟨Nat.le_refl _⟩,by repeat (first | exact Drawn0.refl _ | apply Drawn0.step)⟩
 case round=>
  clear H'
  try clear p2
  obtain ⟨x5_1,rfl,HA,HK1,⟨m1,rfl⟩⟩:=hrel
  cases gk with
  | zero=>exact absurd HA.out (by simp [laws_rHas.l0])
  | succ k1=>
   have H:=HA.out
   clear HA
   simp only [laws_rHas.l0] at H
   by_cases c3 : x5_1 < (l0.length : Int)
   ·rw [if_pos c3] at H
    have c3b0 : decide (x5_1 < (l0.length : Int))=true:=decide_eq_true c3
    clear c3
    by_cases c4 : 0≤x5_1
    ·rw [if_pos c4] at H
     have c4b0 : decide (0≤x5_1)=true:=decide_eq_true c4
     clear c4
     by_cases c5 : (rd l0 x5_1)=a1
     ·rw [if_pos c5] at H
      have c5b0 : ((rd l0 x5_1) == a1)=true:=beq_iff_eq.mpr c5
      have c5b1 : ((rd l0 x5_1) != a1)=false:=bne_eq_false_iff_eq.mpr c5
      clear c5
      obtain rfl:=Option.some.inj H
      have p722 : 0≤(x5_1 : Int):=of_decide_eq_true ass
      have q722 : x5_1 < (l0.length : Int):=of_decide_eq_true ass
      obtain ⟨ad722,e722,hx722_0⟩:=Kd.at_int HR0.out x5_1 p722 q722
      cases e722
      replace p722:=eq_true p722
      replace q722:=eq_true q722
      go_wp2
      go_ret
      exact ⟨rsd,by repeat (first | exact Drawn0.refl _ | apply Drawn0.step)⟩
     ·rw [if_neg c5] at H
      have c5b0 : ((rd l0 x5_1) == a1)=false:=beq_eq_false_iff_ne.mpr c5
      have c5b1 : ((rd l0 x5_1) != a1)=true:=bne_iff_ne.mpr c5
      have H':=amk H
      clear H
      have p722 : 0≤(x5_1 : Int):=of_decide_eq_true ass
      have q722 : x5_1 < (l0.length : Int):=of_decide_eq_true ass
      obtain ⟨ad722,e722,hx722_0⟩:=Kd.at_int HR0.out x5_1 p722 q722
      cases e722
      replace p722:=eq_true p722
      replace q722:=eq_true q722
      go_wp2
      go_roundg k1
      case measure=>have:=HK1.out;omega
      case rel=>exact ⟨(wrap64 (x5_1 + 1)),rsd,H',⟨by have:=HK1.out;omega⟩,by repeat (first | exact Drawn0.refl _ | apply Drawn0.step)⟩
    ·rw [if_neg c4] at H
     exact absurd H (by simp)
   ·rw [if_neg c3] at H
    have c3b0 : decide (x5_1 < (l0.length : Int))=false:=decide_eq_false c3
    clear c3
    obtain rfl:=Option.some.inj H
    go_wp2
    go_ret
    exact ⟨rsd,by repeat (first | exact Drawn0.refl _ | apply Drawn0.step)⟩
end Go.Proofs.Ytldifiededjgjaa.P
