/- For all inputs the law FnSumps answers true, and no call of it panics. -/
import Derived.Test.YtldifiededjgjaaQS0
namespace Go.Proofs.Ytldifiededjgjaa.P
open Go.RowKit Go.Proofs.YtldifiededjgjaaW.PrintWords Go.Proofs.YtldifiededjgjaaW.PrintLast Go.Proofs.YtldifiededjgjaaW.PrintMore
attribute [local go_sem] max2_int min2_int max_two min_two max_three min_three max_four min_four
set_option linter.unusedVariables false
set_option linter.unusedSimpArgs false
def impl_isSump.f (a0_0 : Int) (a0_1 : Int) (a0_2 : Int) : Option (Bool):=(impl_isStation.f a0_0).bind fun t375=>(if t375=true then ((impl_isLevel.f a0_1).bind fun t376=>(if t376=true then ((impl_isLevel.f a0_2).bind fun t377=>(if t377=true then (some (decide (a0_2≤a0_1))) else (some false))) else (some false))) else (some false))
set_option maxHeartbeats 8000000 in
set_option maxRecDepth 100000 in
theorem impl_isSump.calls (a0_0 : Int) (a0_1 : Int) (a0_2 : Int) (r : Bool) (w : World) (h : impl_isSump.f a0_0 a0_1 a0_2=some r) :
  Calls Try.prog 62 #[.agg #[.int .i64 a0_0,.int .i64 a0_1,.int .i64 a0_2]] w fun e w'=>e = .returned (.bool r)∧Below w.heap.size w w':=by
 have hu44:=Try.underlying44
 have HB:=amk (Below.refl w.heap.size w)
 have H : ((impl_isStation.f a0_0).bind fun t375=>(if t375=true then ((impl_isLevel.f a0_1).bind fun t376=>(if t376=true then ((impl_isLevel.f a0_2).bind fun t377=>(if t377=true then (some (decide (a0_2≤a0_1))) else (some false))) else (some false))) else (some false)))=some r:=h
 clear h
 replace H:=obs H
 obtain ⟨t375,A20,H⟩:=H
 replace H : (if t375=true then ((impl_isLevel.f a0_1).bind fun t376=>(if t376=true then ((impl_isLevel.f a0_2).bind fun t377=>(if t377=true then (some (decide (a0_2≤a0_1))) else (some false))) else (some false))) else (some false))=some r:=H
 have A2:=amk A20
 clear A20
 by_cases c3 : t375=true
 ·subst c3
  have H1 : ((impl_isLevel.f a0_1).bind fun t376=>(if t376=true then ((impl_isLevel.f a0_2).bind fun t377=>(if t377=true then (some (decide (a0_2≤a0_1))) else (some false))) else (some false)))=some r:=by rw [if_pos rfl] at H;exact H
  clear H
  have H:=H1
  clear H1
  replace H:=obs H
  obtain ⟨t376,A40,H⟩:=H
  replace H : (if t376=true then ((impl_isLevel.f a0_2).bind fun t377=>(if t377=true then (some (decide (a0_2≤a0_1))) else (some false))) else (some false))=some r:=H
  have A4:=amk A40
  clear A40
  by_cases c5 : t376=true
  ·subst c5
   have H1 : ((impl_isLevel.f a0_2).bind fun t377=>(if t377=true then (some (decide (a0_2≤a0_1))) else (some false)))=some r:=by rw [if_pos rfl] at H;exact H
   clear H
   have H:=H1
   clear H1
   replace H:=obs H
   obtain ⟨t377,A60,H⟩:=H
   replace H : (if t377=true then (some (decide (a0_2≤a0_1))) else (some false))=some r:=H
   have A6:=amk A60
   clear A60
   by_cases c7 : t377=true
   ·subst c7
    have H1 : (some (decide (a0_2≤a0_1)))=some r:=by rw [if_pos rfl] at H;exact H
    clear H
    have H:=H1
    clear H1
    obtain rfl:=Option.some.inj H
    go_enter Try.func62,Try.ntmps62
    go_wp2_with (first | ((with_reducible refine gate_dst (N:=1) rfl ?_);refine box_event ?hg (N:=1) ?hd (cs:=#[.int .i64 a0_0,.int .i64 a0_1,.int .i64 a0_2]) (t:=44) ?hr ?_;(case hd=>rfl);(case hg=>rfl);(case hr=>first | (go_simp;done)|(go_simp;rfl));intro gb374 hg w8 hbox hb;have BK374:=amk (hbox);have GW374:=amk ((by rw [hg];exact (below_size (bel HB)) : w.heap.size≤gb374));have GE374:=amk ((by rw [hg];exact (below_size (bel HB)) : w.heap.size≤gb374));replace HB:=amk (below_step (bel HB) hb);clear hb hbox hg;have hcz9_0 : w8.cell? ⟨gb374,0,none⟩=some (.int .i64 a0_0):=(blk_cell BK374.out 0).trans rfl;have hcz9_1 : w8.cell? ⟨gb374,1,none⟩=some (.int .i64 a0_1):=(blk_cell BK374.out 1).trans rfl;have hcz9_2 : w8.cell? ⟨gb374,2,none⟩=some (.int .i64 a0_2):=(blk_cell BK374.out 2).trans rfl;have hfz9_0:=blk_frozen BK374.out 0;have hfz9_1:=blk_frozen BK374.out 1;have hfz9_2:=blk_frozen BK374.out 2)|((with_reducible refine gate_callee (f:=90) rfl ?_);refine goesL_ (some 5) rfl rfl Try.func90 (by kernel_rfl) rfl #[.int .i64 a0_0] rfl mtt ?_;(with_reducible refine (impl_isStation.calls a0_0 true _ A2.out).mono ?_);rintro e w' ⟨rfl,⟨nd,rfl⟩⟩;refine ⟨_,rfl,?_⟩)|(go_at_call 58;(with_reducible refine (impl_isLevel.calls a0_1 true _ A4.out).mono ?_);rintro e w' ⟨rfl,⟨nd,rfl⟩⟩)|(go_at_call 58;(with_reducible refine (impl_isLevel.calls a0_2 true _ A6.out).mono ?_);rintro e w' ⟨rfl,⟨nd,rfl⟩⟩))
    go_ret
    exact ⟨erw0,bel1 HB GE374.out⟩
   ·replace c7:=Bool.eq_false_iff.mpr c7
    subst c7
    have H1 : (some false)=some r:=by rw [if_neg (show ¬ (false=true) by decide)] at H;exact H
    clear H
    have H:=H1
    clear H1
    obtain rfl:=Option.some.inj H
    go_enter Try.func62,Try.ntmps62
    go_wp2_with (first | ((with_reducible refine gate_dst (N:=1) rfl ?_);refine box_event ?hg (N:=1) ?hd (cs:=#[.int .i64 a0_0,.int .i64 a0_1,.int .i64 a0_2]) (t:=44) ?hr ?_;(case hd=>rfl);(case hg=>rfl);(case hr=>first | (go_simp;done)|(go_simp;rfl));intro gb374 hg w10 hbox hb;have BK374:=amk (hbox);have GW374:=amk ((by rw [hg];exact (below_size (bel HB)) : w.heap.size≤gb374));have GE374:=amk ((by rw [hg];exact (below_size (bel HB)) : w.heap.size≤gb374));replace HB:=amk (below_step (bel HB) hb);clear hb hbox hg;have hcz11_0 : w10.cell? ⟨gb374,0,none⟩=some (.int .i64 a0_0):=(blk_cell BK374.out 0).trans rfl;have hcz11_1 : w10.cell? ⟨gb374,1,none⟩=some (.int .i64 a0_1):=(blk_cell BK374.out 1).trans rfl;have hcz11_2 : w10.cell? ⟨gb374,2,none⟩=some (.int .i64 a0_2):=(blk_cell BK374.out 2).trans rfl;have hfz11_0:=blk_frozen BK374.out 0;have hfz11_1:=blk_frozen BK374.out 1;have hfz11_2:=blk_frozen BK374.out 2)|((with_reducible refine gate_callee (f:=90) rfl ?_);refine goesL_ (some 5) rfl rfl Try.func90 (by kernel_rfl) rfl #[.int .i64 a0_0] rfl mtt ?_;(with_reducible refine (impl_isStation.calls a0_0 true _ A2.out).mono ?_);rintro e w' ⟨rfl,⟨nd,rfl⟩⟩;refine ⟨_,rfl,?_⟩)|(go_at_call 58;(with_reducible refine (impl_isLevel.calls a0_1 true _ A4.out).mono ?_);rintro e w' ⟨rfl,⟨nd,rfl⟩⟩)|(go_at_call 58;(with_reducible refine (impl_isLevel.calls a0_2 false _ A6.out).mono ?_);rintro e w' ⟨rfl,⟨nd,rfl⟩⟩))
    go_ret
    exact ⟨erw0,bel1 HB GE374.out⟩
  ·replace c5:=Bool.eq_false_iff.mpr c5
   subst c5
   have H1 : (some false)=some r:=by rw [if_neg (show ¬ (false=true) by decide)] at H;exact H
   clear H
   have H:=H1
   clear H1
   obtain rfl:=Option.some.inj H
   go_enter Try.func62,Try.ntmps62
   go_wp2_with (first | ((with_reducible refine gate_dst (N:=1) rfl ?_);refine box_event ?hg (N:=1) ?hd (cs:=#[.int .i64 a0_0,.int .i64 a0_1,.int .i64 a0_2]) (t:=44) ?hr ?_;(case hd=>rfl);(case hg=>rfl);(case hr=>first | (go_simp;done)|(go_simp;rfl));intro gb374 hg w12 hbox hb;have BK374:=amk (hbox);have GW374:=amk ((by rw [hg];exact (below_size (bel HB)) : w.heap.size≤gb374));have GE374:=amk ((by rw [hg];exact (below_size (bel HB)) : w.heap.size≤gb374));replace HB:=amk (below_step (bel HB) hb);clear hb hbox hg;have hcz13_0 : w12.cell? ⟨gb374,0,none⟩=some (.int .i64 a0_0):=(blk_cell BK374.out 0).trans rfl;have hcz13_1 : w12.cell? ⟨gb374,1,none⟩=some (.int .i64 a0_1):=(blk_cell BK374.out 1).trans rfl;have hcz13_2 : w12.cell? ⟨gb374,2,none⟩=some (.int .i64 a0_2):=(blk_cell BK374.out 2).trans rfl;have hfz13_0:=blk_frozen BK374.out 0;have hfz13_1:=blk_frozen BK374.out 1;have hfz13_2:=blk_frozen BK374.out 2)|((with_reducible refine gate_callee (f:=90) rfl ?_);refine goesL_ (some 5) rfl rfl Try.func90 (by kernel_rfl) rfl #[.int .i64 a0_0] rfl mtt ?_;(with_reducible refine (impl_isStation.calls a0_0 true _ A2.out).mono ?_);rintro e w' ⟨rfl,⟨nd,rfl⟩⟩;refine ⟨_,rfl,?_⟩)|(go_at_call 58;(with_reducible refine (impl_isLevel.calls a0_1 false _ A4.out).mono ?_);rintro e w' ⟨rfl,⟨nd,rfl⟩⟩))
   go_ret
   exact ⟨erw0,bel1 HB GE374.out⟩
 ·replace c3:=Bool.eq_false_iff.mpr c3
  subst c3
  have H1 : (some false)=some r:=by rw [if_neg (show ¬ (false=true) by decide)] at H;exact H
  clear H
  have H:=H1
  clear H1
  obtain rfl:=Option.some.inj H
  go_enter Try.func62,Try.ntmps62
  go_wp2_with (first | ((with_reducible refine gate_dst (N:=1) rfl ?_);refine box_event ?hg (N:=1) ?hd (cs:=#[.int .i64 a0_0,.int .i64 a0_1,.int .i64 a0_2]) (t:=44) ?hr ?_;(case hd=>rfl);(case hg=>rfl);(case hr=>first | (go_simp;done)|(go_simp;rfl));intro gb374 hg w14 hbox hb;have BK374:=amk (hbox);have GW374:=amk ((by rw [hg];exact (below_size (bel HB)) : w.heap.size≤gb374));have GE374:=amk ((by rw [hg];exact (below_size (bel HB)) : w.heap.size≤gb374));replace HB:=amk (below_step (bel HB) hb);clear hb hbox hg;have hcz15_0 : w14.cell? ⟨gb374,0,none⟩=some (.int .i64 a0_0):=(blk_cell BK374.out 0).trans rfl;have hcz15_1 : w14.cell? ⟨gb374,1,none⟩=some (.int .i64 a0_1):=(blk_cell BK374.out 1).trans rfl;have hcz15_2 : w14.cell? ⟨gb374,2,none⟩=some (.int .i64 a0_2):=(blk_cell BK374.out 2).trans rfl;have hfz15_0:=blk_frozen BK374.out 0;have hfz15_1:=blk_frozen BK374.out 1;have hfz15_2:=blk_frozen BK374.out 2)|((with_reducible refine gate_callee (f:=90) rfl ?_);refine goesL_ (some 5) rfl rfl Try.func90 (by kernel_rfl) rfl #[.int .i64 a0_0] rfl mtt ?_;(with_reducible refine (impl_isStation.calls a0_0 false _ A2.out).mono ?_);rintro e w' ⟨rfl,⟨nd,rfl⟩⟩;refine ⟨_,rfl,?_⟩))
  go_ret
  exact ⟨erw0,bel1 HB GE374.out⟩
def impl_spans.l0 : Nat→Int→(Int→Option Bool)→List (List Int)→Int→Option ((List (List Int)))
 | 0,_,_,_,_=>none
 | k + 1,x1,x2,x7,x8=>if x8≤x1 then ((x2 x8).bind fun t378=>(if t378=true then (if (wrap64 ((x7.length : Int) - 1)) ≥ 0 then (if 0≤(wrap64 ((x7.length : Int) - 1)) then (if (wrap64 ((x7.length : Int) - 1)) < (x7.length : Int) then (if 1 < ((rd_L4 x7 (wrap64 ((x7.length : Int) - 1))).length : Int) then (if (rd (rd_L4 x7 (wrap64 ((x7.length : Int) - 1))) 1)=(wrap64 (x8 - 1)) then (impl_spans.l0 k x1 x2 (x7.set ((wrap64 ((x7.length : Int) - 1)) : Int).toNat ((rd_L4 x7 (wrap64 ((x7.length : Int) - 1))).set (1 : Int).toNat x8)) (wrap64 (x8 + 1))) else (if x7.length < 5864062014805 then (impl_spans.l0 k x1 x2 (x7 ++ [(([x8,x8] : List Int))]) (wrap64 (x8 + 1))) else (none))) else (none)) else (none)) else (none)) else (if x7.length < 5864062014805 then (impl_spans.l0 k x1 x2 (x7 ++ [(([x8,x8] : List Int))]) (wrap64 (x8 + 1))) else (none))) else (impl_spans.l0 k x1 x2 x7 (wrap64 (x8 + 1))))) else (some x7)
def impl_spans.f (k : Nat) (a0 : Int) (a1 : Int) (a2 : (Int→Option Bool)) : Option ((List (List Int))):=impl_spans.l0 k a1 a2 ([] : List (List Int)) a0
theorem impl_spans.mono_l (p_ q_ : Int→Option Bool) (hpq_ : ∀ x_,LeO (p_ x_) (q_ x_)) : ∀ k,(∀ y0 y2 y3,LeO (impl_spans.l0 k y0 p_ y2 y3) (impl_spans.l0 (k + 1) y0 q_ y2 y3))
 | 0=>fun _ _ _ r h=>by simp [impl_spans.l0] at h
 | k + 1=>by
  have ih0:=impl_spans.mono_l p_ q_ hpq_ k
  ·intro y0 y2 y3
   unfold impl_spans.l0
   repeat' first
   | (with_reducible exact ih0 _ _ _)
   | (with_reducible exact hpq_ _)
   | (with_reducible exact LeO.refl _)
   | (with_reducible exact LeO.none _)
   | (with_reducible refine LeO.ite ?_ ?_)
   | (with_reducible refine LeO.bind ?_ (fun _=>?_))
   | exact ih0 _ _ _
   | exact hpq_ _
theorem impl_spans.mono : ∀ a0 a1 (p_ q_ : Int→Option Bool) (k : Nat),(∀ x_,LeO (p_ x_) (q_ x_))→LeO (impl_spans.f k a0 a1 p_) (impl_spans.f (k + 1) a0 a1 q_):=by
 intro a0 a1 p_ q_ k hpq_
 have ih0:=impl_spans.mono_l p_ q_ hpq_ k
 unfold impl_spans.f
 repeat' first
   | (with_reducible exact ih0 _ _ _)
   | (with_reducible exact hpq_ _)
   | (with_reducible exact LeO.refl _)
   | (with_reducible exact LeO.none _)
   | (with_reducible refine LeO.ite ?_ ?_)
   | (with_reducible refine LeO.bind ?_ (fun _=>?_))
   | exact ih0 _ _ _
   | exact hpq_ _
set_option maxHeartbeats 8000000 in
set_option maxRecDepth 100000 in
theorem impl_spans.calls (k : Nat) (a0 : Int) (a1 : Int) (gf2_ : Nat) (lb2_ : Array Value) (a2 : (Int→Option Bool)) (r : List (List Int)) (w : World) (eg2 : ∀ args_ w_,(callFunc gf2_ args_).run Try.prog w_ = .ok (.enter gf2_ args_) w_) (hp2 : ∀ (W_ : World) (x_ : Int) (b_ : Bool),a2 x_=some b_→Below w.heap.size w W_→Calls Try.prog gf2_ (#[.int .i64 x_] ++ lb2_) W_ fun e w'=>e = .returned (.bool b_)∧Below W_.heap.size W_ w') (h : impl_spans.f k a0 a1 a2=some r) :
  Calls Try.prog 64 #[.int .i64 a0,.int .i64 a1,.func (.func gf2_) #[] lb2_] w fun e w'=>∃ v0_ : Value,e = .returned (v0_)∧Kd.S (Kd.slice 3 (Kd.int .i64)) 63 w' w.heap.size (fun _=>True) v0_ r∧Below w.heap.size w w':=by
 have HP2:=amk hp2
 clear hp2
 have HB:=amk (Below.refl w.heap.size w)
 have H : (impl_spans.l0 k a1 a2 ([] : List (List Int)) a0)=some r:=h
 clear h
 have H':=amk H
 clear H
 go_enter Try.func64,Try.ntmps64
 go_wp2
 go_loopg [7,8] k (fun kq v7 v8 w'=>∃ (x7_1 : List (List Int)) (x8_1 : Int),v8 = .int .i64 x8_1∧Aside0 (impl_spans.l0 kq a1 a2 x7_1 x8_1=some r)∧Aside0 (kq≤k)∧Aside0 (Kd.S (Kd.slice 3 (Kd.int .i64)) 63 w' w.heap.size (fun _=>True) v7 x7_1)∧Aside0 (Below w.heap.size w w'))
 case atStart=>exact ⟨(([] : List (List Int))),(a0),rsd,H',⟨Nat.le_refl _⟩,⟨by first | exact Kd.S_nil _ _ _ _ _ | exact Kd.N_nil _ _ _ _ _ | exact Kd.V_nil _ _ _ _ _ | exact Kd.Q_nil _ _ _ _ _ | exact Kd.R_nil _ _ _ _ _⟩,⟨bel HB⟩⟩
 case round=>
  clear H'
  try clear p2
  obtain ⟨x7_1,x8_1,rfl,HA,HK1,HO_7,HB⟩:=hrel
  cases gk with
  | zero=>exact absurd HA.out (by simp [impl_spans.l0])
  | succ k1=>
   have H:=HA.out
   clear HA
   simp only [impl_spans.l0] at H
   by_cases c4 : x8_1≤a1
   ·rw [if_pos c4] at H
    have c4b0 : decide (x8_1≤a1)=true:=decide_eq_true c4
    clear c4
    replace H:=obs H
    obtain ⟨t378,A50,H⟩:=H
    replace H : (if t378=true then (if (wrap64 ((x7_1.length : Int) - 1)) ≥ 0 then (if 0≤(wrap64 ((x7_1.length : Int) - 1)) then (if (wrap64 ((x7_1.length : Int) - 1)) < (x7_1.length : Int) then (if 1 < ((rd_L4 x7_1 (wrap64 ((x7_1.length : Int) - 1))).length : Int) then (if (rd (rd_L4 x7_1 (wrap64 ((x7_1.length : Int) - 1))) 1)=(wrap64 (x8_1 - 1)) then (impl_spans.l0 k1 a1 a2 (x7_1.set ((wrap64 ((x7_1.length : Int) - 1)) : Int).toNat ((rd_L4 x7_1 (wrap64 ((x7_1.length : Int) - 1))).set (1 : Int).toNat x8_1)) (wrap64 (x8_1 + 1))) else (if x7_1.length < 5864062014805 then (impl_spans.l0 k1 a1 a2 (x7_1 ++ [(([x8_1,x8_1] : List Int))]) (wrap64 (x8_1 + 1))) else (none))) else (none)) else (none)) else (none)) else (if x7_1.length < 5864062014805 then (impl_spans.l0 k1 a1 a2 (x7_1 ++ [(([x8_1,x8_1] : List Int))]) (wrap64 (x8_1 + 1))) else (none))) else (impl_spans.l0 k1 a1 a2 x7_1 (wrap64 (x8_1 + 1))))=some r:=H
    have A5:=amk A50
    clear A50
    by_cases c6 : t378=true
    ·subst c6
     have H1 : (if (wrap64 ((x7_1.length : Int) - 1)) ≥ 0 then (if 0≤(wrap64 ((x7_1.length : Int) - 1)) then (if (wrap64 ((x7_1.length : Int) - 1)) < (x7_1.length : Int) then (if 1 < ((rd_L4 x7_1 (wrap64 ((x7_1.length : Int) - 1))).length : Int) then (if (rd (rd_L4 x7_1 (wrap64 ((x7_1.length : Int) - 1))) 1)=(wrap64 (x8_1 - 1)) then (impl_spans.l0 k1 a1 a2 (x7_1.set ((wrap64 ((x7_1.length : Int) - 1)) : Int).toNat ((rd_L4 x7_1 (wrap64 ((x7_1.length : Int) - 1))).set (1 : Int).toNat x8_1)) (wrap64 (x8_1 + 1))) else (if x7_1.length < 5864062014805 then (impl_spans.l0 k1 a1 a2 (x7_1 ++ [(([x8_1,x8_1] : List Int))]) (wrap64 (x8_1 + 1))) else (none))) else (none)) else (none)) else (none)) else (if x7_1.length < 5864062014805 then (impl_spans.l0 k1 a1 a2 (x7_1 ++ [(([x8_1,x8_1] : List Int))]) (wrap64 (x8_1 + 1))) else (none)))=some r:=by rw [if_pos rfl] at H;exact H
     clear H
     have H:=H1
     clear H1
     by_cases c7 : (wrap64 ((x7_1.length : Int) - 1)) ≥ 0
     ·rw [if_pos c7] at H
      have c7b0 : decide (0≤(wrap64 ((x7_1.length : Int) - 1)))=true:=decide_eq_true c7
      clear c7
      obtain ⟨ji8,hji8⟩ : ∃ j_ : Int,(wrap64 ((x7_1.length : Int) - 1))=j_:=⟨_,rfl⟩
      replace H : (if 0≤(ji8) then (if (ji8) < (x7_1.length : Int) then (if 1 < ((rd_L4 x7_1 (ji8)).length : Int) then (if (rd (rd_L4 x7_1 (ji8)) 1)=(wrap64 (x8_1 - 1)) then (impl_spans.l0 k1 a1 a2 (x7_1.set ((ji8) : Int).toNat ((rd_L4 x7_1 (ji8)).set (1 : Int).toNat x8_1)) (wrap64 (x8_1 + 1))) else (if x7_1.length < 5864062014805 then (impl_spans.l0 k1 a1 a2 (x7_1 ++ [(([x8_1,x8_1] : List Int))]) (wrap64 (x8_1 + 1))) else (none))) else (none)) else (none)) else (none))=some r:=by first | (rw [hji8] at H;exact H)|(simp only [hji8] at H ⊢;exact H)
      (try rw [hji8] at c7b0)
      (try rw [hji8] at A5)
      have hji8w : (IntKind.i64.wrap ((x7_1.length : Int) - 1))=ji8:=(i64_w _).trans hji8
      by_cases c9 : 0≤(ji8)
      ·rw [if_pos c9] at H
       have c9b0 : decide (0≤(ji8))=true:=decide_eq_true c9
       clear c9
       by_cases c10 : (ji8) < (x7_1.length : Int)
       ·rw [if_pos c10] at H
        have c10b0 : decide ((ji8) < (x7_1.length : Int))=true:=decide_eq_true c10
        clear c10
        by_cases c11 : 1 < ((rd_L4 x7_1 (ji8)).length : Int)
        ·rw [if_pos c11] at H
         have c11b0 : decide (1 < ((rd_L4 x7_1 (ji8)).length : Int))=true:=decide_eq_true c11
         have c11b1 : decide (1 < (rd_L4 x7_1 (ji8)).length)=true:=decide_eq_true (by omega)
         clear c11
         by_cases c12 : (rd (rd_L4 x7_1 (ji8)) 1)=(wrap64 (x8_1 - 1))
         ·rw [if_pos c12] at H
          have c12b0 : ((rd (rd_L4 x7_1 (ji8)) 1) == (wrap64 (x8_1 - 1)))=true:=beq_iff_eq.mpr c12
          have c12b1 : ((rd (rd_L4 x7_1 (ji8)) 1) != (wrap64 (x8_1 - 1)))=false:=bne_eq_false_iff_eq.mpr c12
          clear c12
          obtain ⟨y382,hy382⟩ : ∃ y_ : List Int,y_=((rd_L4 x7_1 (ji8)).set (1 : Int).toNat x8_1):=⟨_,rfl⟩
          replace H : (impl_spans.l0 k1 a1 a2 (x7_1.set ((ji8) : Int).toNat y382) (wrap64 (x8_1 + 1)))=some r:=by first | (rw [hy382];with_reducible exact H)|(have H2_:=(Option.bind_some _ _).symm.trans H;rw [hy382];with_reducible exact H2_)|(have H2_:=(Option.bind_some _ _).symm.trans H;with_reducible exact H2_) | with_reducible exact H | (rw [hy382];exact H) | exact H
          have Ny382:=amk hy382
          clear hy382
          obtain ⟨y384,hy384⟩ : ∃ y_ : List (List Int),y_=(x7_1.set ((ji8) : Int).toNat y382):=⟨_,rfl⟩
          replace H : (impl_spans.l0 k1 a1 a2 y384 (wrap64 (x8_1 + 1)))=some r:=by first | (rw [hy384];with_reducible exact H)|(have H2_:=(Option.bind_some _ _).symm.trans H;rw [hy384];with_reducible exact H2_)|(have H2_:=(Option.bind_some _ _).symm.trans H;with_reducible exact H2_) | with_reducible exact H | (rw [hy384];exact H) | exact H
          have Ny384:=amk hy384
          clear hy384
          have H':=amk H
          clear H
          go_wp2_with (first | ((with_reducible refine (HP2.out _ _ true A5.out ?sidefp).mono ?_);(case sidefp=>exact bel HB);rintro e w14 ⟨rfl,hb⟩;replace HO_7:=amk (Kd.S_below (sss HO_7) hb);replace HB:=amk (below_step (bel HB) hb);(try clear hb);obtain ⟨Ao15,co15,eo15⟩:=Kd.S_slice HO_7.out;subst eo15;have p379 : 0≤((ji8) : Int):=of_decide_eq_true ass;have q379 : (ji8) < (x7_1.length : Int):=of_decide_eq_true ass;obtain ⟨ad379,A379_0,c379_0,e379,hx379_0,hl379_0,hi379_0⟩:=at_L4 (Kd.S_reads' HO_7.out).2.2 (ji8) p379 q379;cases e379;obtain ⟨ce379,hce379,hMe379,hcc379⟩:=Kd.S_get HO_7.out [] (ji8) p379 (by first | exact q379 | exact of_decide_eq_true ass | (have e_:=(Kd.S_reads' HO_7.out).1;omega));obtain ⟨ve379_0,rfl,ge379_0⟩:=hMe379;have hv379_0:=hcc379 0 _ rfl;rw [Nat.add_zero,show ((Kd.slice 3 (Kd.int .i64))).sz=1 from rfl,Nat.mul_one] at hv379_0;replace hv379_0:=Option.some.inj (hv379_0.symm.trans hx379_0);rw [hv379_0] at ge379_0;have HL379_0:=amk (show Kd.R (Kd.int .i64) 3 _ _ _ _ (rd_L4 x7_1 (ji8)) from ge379_0);clear hv379_0 ge379_0;have HX379_0:=amk hx379_0;clear hcc379 hce379;have HR379_0:=amk hi379_0;have HC379_0:=amk hl379_0;clear hi379_0 hl379_0;replace p379:=eq_true p379;replace q379:=eq_true q379;have p380 : 0≤(1 : Int):=(by omega);have q380 : 1 < ((rd_L4 x7_1 (ji8)).length : Int):=of_decide_eq_true ass;obtain ⟨ad380,e380,hx380_0⟩:=Kd.at_int (by repeat (first | (with_reducible exact HR379_0.out)|(with_reducible refine Kd.C_alloc ?_ _)|(with_reducible refine Kd.C_drewN ?_ _)|(with_reducible refine Kd.C_drew ?_) | exact HR379_0.out)) 1 p380 q380;cases e380;(try simp only [show (1 : Int).toNat=1 from rfl,Nat.reduceMul,Nat.reduceEqDiff,Go.Addr.add,↓reduceIte] at hx380_0);have qi380 : (1 < (rd_L4 x7_1 (ji8)).length)=True:=eq_true (by omega);(try rw [show ((1 : Int)).toNat=1 from rfl] at hx380_0);replace p380:=eq_true p380;replace q380:=eq_true q380;have p381 : 0≤((ji8) : Int):=of_decide_eq_true ass;have q381 : (ji8) < (x7_1.length : Int):=of_decide_eq_true ass;obtain ⟨ad381,A381_0,c381_0,e381,hx381_0,hl381_0,hi381_0⟩:=at_L4 (Kd.S_reads' HO_7.out).2.2 (ji8) p381 q381;obtain rfl : ad379=ad381:=(by injection e381);obtain ⟨ce381,hce381,hMe381,hcc381⟩:=Kd.S_get HO_7.out [] (ji8) p381 (by first | exact q381 | exact of_decide_eq_true ass | (have e_:=(Kd.S_reads' HO_7.out).1;omega));obtain ⟨ve381_0,rfl,ge381_0⟩:=hMe381;have hv381_0:=hcc381 0 _ rfl;rw [Nat.add_zero,show ((Kd.slice 3 (Kd.int .i64))).sz=1 from rfl,Nat.mul_one] at hv381_0;replace hv381_0:=Option.some.inj (hv381_0.symm.trans hx381_0);rw [hv381_0] at ge381_0;have HL381_0:=amk (show Kd.R (Kd.int .i64) 3 _ _ _ _ (rd_L4 x7_1 (ji8)) from ge381_0);clear hv381_0 ge381_0;have HX381_0:=amk hx381_0;clear hcc381 hce381;have HR381_0:=amk hi381_0;have HC381_0:=amk hl381_0;clear hi381_0 hl381_0;replace p381:=eq_true p381;replace q381:=eq_true q381;have ea_:=Option.some.inj (hx379_0.symm.trans hx381_0);injection ea_ with ea_ en_ ec_;subst ea_;subst ec_;clear en_;have p13 : 0≤(1 : Int):=(by omega);have q13 : (1 : Int) < (((rd_L4 x7_1 (ji8)).length : Int) : Int):=of_decide_eq_true ass;have qi13 : (1 < (rd_L4 x7_1 (ji8)).length)=True:=eq_true (by omega);obtain ⟨go13,co13,eo13,gb13,gl13,cl13,HG13⟩:=Kd.R_form HL381_0.out (by omega);(first | cases eo13 | (injection eo13 with ea_ en_ ec_;(first | subst ea_ | (injection ea_ with ea_;subst ea_));subst ec_;clear en_));have GB13:=amk gb13;have GG13:=amk HG13;clear gb13 gl13 HG13;(first | simp only [add_plain] at hx380_0 | skip);obtain ⟨hx13_0,hf13_0⟩:=Kd.R_celln 0 HL381_0.out (1 : Int) p13 q13;(try rw [show ((1 : Int)).toNat=1 from rfl] at hx13_0);(try simp only [Nat.reduceMul,Nat.zero_mul,Nat.zero_add,Nat.reduceAdd] at hx13_0);(try rw [show ((1 : Int)).toNat=1 from rfl] at hf13_0);(try simp only [Nat.reduceMul,Nat.zero_mul,Nat.zero_add,Nat.reduceAdd] at hf13_0);replace p13:=eq_true p13;replace q13:=eq_true q13;have hq16 : ((ji8) : Int) < (x7_1.length : Int):=(by have h_ : ((ji8) : Int) < ((x7_1.length : Int) : Int):=of_decide_eq_true ass;first | exact h_ | (have e_:=(Kd.S_reads' HO_7.out).1;omega) | simpa only [List.length_set,List.length_set] using h_);obtain ⟨oki16,ce16,hcl16,hM16,hcc16,hok16,hbk16⟩:=Kd.S_borrow HO_7.out [] ((ji8) : Int) (of_decide_eq_true ass) hq16;obtain ⟨ve16_0,rfl,ge16_0⟩:=hM16;have hv16:=hcc16 0 _ rfl;rw [Nat.add_zero,show ((Kd.slice 3 (Kd.int .i64))).sz=1 from rfl,Nat.mul_one] at hv16;replace hv16:=Option.some.inj (hv16.symm.trans HX381_0.out);subst hv16;clear hcc16 hcl16;replace ge16_0:=(show Kd.R (Kd.int .i64) 3 _ _ _ _ (rd_L4 x7_1 (ji8)) from ge16_0);have HP16:=Kd.R_putg ge16_0 (1 : Int) x8_1)|((with_reducible refine gate_store (t:=3) (p:=41) rfl ?_);refine store_event (t:=3) (p:=41) (v:=?vo_w17) (w1:=(w14.setCell ⟨go13,1,none⟩ (.int .i64 x8_1))) ?hg ?ho ?hn ?hr ?_;(case ho=>rfl);(case hg=>rfl);(case hn=>rfl);(case hr=>first | (go_simp;done)|(go_simp;rfl));intro w17 hw;have hg : w14.grownBy w17 (some go13):=(by rw [hw];exact HP16.2);have hz_ : Kd.R (Kd.int .i64) 3 w17 w.heap.size oki16 (.slice (some ⟨go13,0,none⟩) (rd_L4 x7_1 (ji8)).length c379_0) y382:=(by rw [hw,Ny382.out];exact HP16.1);have hp_ : Kd.S (Kd.slice 3 (Kd.int .i64)) 63 w17 w.heap.size (fun _=>True) (.slice (some ad379) x7_1.length co15) y384:=(by rw [Ny384.out];exact hbk16 hg (fun k_ e_=>by injection e_ with e_;subst e_;exact ge16_0.1 _ rfl) (Kd.M_row hz_));have hm_:=Kd.R_mono hz_ hok16;clear HP16 hbk16;replace HO_7:=amk (hp_);replace HB:=amk ((by rw [hw];exact below_set (HB.out) GB13.out : Below w.heap.size w w17));have HL397:=amk (hm_);have HC383:=amk ((Kd.R_reads' hm_).2.1);clear HL379_0 HL381_0;clear hg hw hp_ hz_ hm_ hok16))
          go_roundg k1
          case measure=>have:=HK1.out;omega
          case rel=>exact ⟨(y384),(wrap64 (x8_1 + 1)),rsd,H',⟨by have:=HK1.out;omega⟩,⟨sss HO_7⟩,⟨bel HB⟩⟩
         ·rw [if_neg c12] at H
          have c12b0 : ((rd (rd_L4 x7_1 (ji8)) 1) == (wrap64 (x8_1 - 1)))=false:=beq_eq_false_iff_ne.mpr c12
          have c12b1 : ((rd (rd_L4 x7_1 (ji8)) 1) != (wrap64 (x8_1 - 1)))=true:=bne_iff_ne.mpr c12
          obtain ⟨y385,hy385⟩ : ∃ y_ : List Int,y_=(([x8_1,x8_1] : List Int)):=⟨_,rfl⟩
          replace H : (if x7_1.length < 5864062014805 then (impl_spans.l0 k1 a1 a2 (x7_1 ++ [y385]) (wrap64 (x8_1 + 1))) else (none))=some r:=by first | (rw [hy385];with_reducible exact H)|(have H2_:=(Option.bind_some _ _).symm.trans H;rw [hy385];with_reducible exact H2_)|(have H2_:=(Option.bind_some _ _).symm.trans H;with_reducible exact H2_) | with_reducible exact H | (rw [hy385];exact H) | exact H
          have Ny385:=amk hy385
          clear hy385
          by_cases c18 : x7_1.length < 5864062014805
          ·rw [if_pos c18] at H
           have LMc18:=amk c18
           clear c18
           obtain ⟨y388,hy388⟩ : ∃ y_ : List (List Int),y_=(x7_1 ++ [y385]):=⟨_,rfl⟩
           replace H : (impl_spans.l0 k1 a1 a2 y388 (wrap64 (x8_1 + 1)))=some r:=by first | (rw [hy388];with_reducible exact H)|(have H2_:=(Option.bind_some _ _).symm.trans H;rw [hy388];with_reducible exact H2_)|(have H2_:=(Option.bind_some _ _).symm.trans H;with_reducible exact H2_) | with_reducible exact H | (rw [hy388];exact H) | exact H
           have Ny388:=amk hy388
           clear hy388
           have H':=amk H
           clear H
           go_wp2_with (first | ((with_reducible refine (HP2.out _ _ true A5.out ?sidefp).mono ?_);(case sidefp=>exact bel HB);rintro e w19 ⟨rfl,hb⟩;replace HO_7:=amk (Kd.S_below (sss HO_7) hb);replace HB:=amk (below_step (bel HB) hb);(try clear hb);obtain ⟨Ao20,co20,eo20⟩:=Kd.S_slice HO_7.out;subst eo20;have p379 : 0≤((ji8) : Int):=of_decide_eq_true ass;have q379 : (ji8) < (x7_1.length : Int):=of_decide_eq_true ass;obtain ⟨ad379,A379_0,c379_0,e379,hx379_0,hl379_0,hi379_0⟩:=at_L4 (Kd.S_reads' HO_7.out).2.2 (ji8) p379 q379;cases e379;obtain ⟨ce379,hce379,hMe379,hcc379⟩:=Kd.S_get HO_7.out [] (ji8) p379 (by first | exact q379 | exact of_decide_eq_true ass | (have e_:=(Kd.S_reads' HO_7.out).1;omega));obtain ⟨ve379_0,rfl,ge379_0⟩:=hMe379;have hv379_0:=hcc379 0 _ rfl;rw [Nat.add_zero,show ((Kd.slice 3 (Kd.int .i64))).sz=1 from rfl,Nat.mul_one] at hv379_0;replace hv379_0:=Option.some.inj (hv379_0.symm.trans hx379_0);rw [hv379_0] at ge379_0;have HL379_0:=amk (show Kd.R (Kd.int .i64) 3 _ _ _ _ (rd_L4 x7_1 (ji8)) from ge379_0);clear hv379_0 ge379_0;have HX379_0:=amk hx379_0;clear hcc379 hce379;have HR379_0:=amk hi379_0;have HC379_0:=amk hl379_0;clear hi379_0 hl379_0;replace p379:=eq_true p379;replace q379:=eq_true q379;have p380 : 0≤(1 : Int):=(by omega);have q380 : 1 < ((rd_L4 x7_1 (ji8)).length : Int):=of_decide_eq_true ass;obtain ⟨ad380,e380,hx380_0⟩:=Kd.at_int (by repeat (first | (with_reducible exact HR379_0.out)|(with_reducible refine Kd.C_alloc ?_ _)|(with_reducible refine Kd.C_drewN ?_ _)|(with_reducible refine Kd.C_drew ?_) | exact HR379_0.out)) 1 p380 q380;cases e380;(try simp only [show (1 : Int).toNat=1 from rfl,Nat.reduceMul,Nat.reduceEqDiff,Go.Addr.add,↓reduceIte] at hx380_0);have qi380 : (1 < (rd_L4 x7_1 (ji8)).length)=True:=eq_true (by omega);(try rw [show ((1 : Int)).toNat=1 from rfl] at hx380_0);replace p380:=eq_true p380;replace q380:=eq_true q380)|((with_reducible refine gate_dst (N:=45) rfl ?_);refine Kd.R_lit (Kd.int .i64) _ 3 ?hg (N:=45) ?hd (xs:=([x8_1,x8_1] : List Int)) (inner:=[.int .i64 x8_1,.int .i64 x8_1]) (ok:=fun _=>True) (okp:=fun _=>True) ?hr ?hp (fun _ hk=>hk) trivial (Below.refl _ _) (Nat.le_refl _) (by simp) ?_;(case hd=>rfl);(case hg=>rfl);(case hr=>first | (go_simp;done)|(go_simp;rfl));(case hp=>exact (Reps.one (show Kd.M (Kd.int .i64) _ _ _ x8_1 [.int .i64 x8_1] from rfl) (Reps.one (show Kd.M (Kd.int .i64) _ _ _ x8_1 [.int .i64 x8_1] from rfl) (Reps.none _ _))));intro v386 w21 ho22 hb hg_ hnew_;clear hg_ hnew_;(first | rw [← Ny385.out] at ho22 | (simp only [Int.reduceToNat] at ho22;rw [← Ny385.out] at ho22));replace HO_7:=amk (Kd.S_elder' (sss HO_7) (Kd.R_base ho22) hb);have HO387:=amk (Kd.R_lower (Kd.R_new' ho22 (Kd.R_lt (rrr HL379_0))) (below_size (bel HB)));replace HL379_0:=amk (Kd.R_elder' (rrr HL379_0) (Kd.R_base ho22) hb);replace HR379_0:=amk (Kd.C_below (by repeat (first | (with_reducible exact HR379_0.out)|(with_reducible refine Kd.C_alloc ?_ _)|(with_reducible refine Kd.C_drewN ?_ _)|(with_reducible refine Kd.C_drew ?_) | exact HR379_0.out)) hb);replace HX379_0:=amk (pw_cell_below hb HX379_0.out);replace HB:=amk (below_step (bel HB) hb);clear hb ho22;obtain ⟨Ao24,co24,eo24⟩:=Kd.R_slice HO387.out;subst eo24)|((with_reducible refine gate_builtin (b:=.append) (xs:=#[.tmp 42,.tmp 46]) rfl ?_);at_builtin;refine Kd.S_append (Kd.slice 3 (Kd.int .i64)) (w0:=w) w.heap.size rfl (.tmp 42) (.tmp 46) 40 63 (.slice none 0 0) 24 rfl Try.underlying40 info63 rfl (by decide) (by omega) (.slice (some ad379) x7_1.length co20) x7_1 y385 [.slice Ao24 y385.length co24] (fun _=>True) (fun k_=>some k_=(.slice Ao24 y385.length co24 : Value).ownBlock) rfl rfl ?aP (fun k_ hk_=>((Kd.R_mono (ok':=fun k_=>((fun _=>True)) k_∧some k_ ≠ (.slice (some ad379) x7_1.length co20 : Value).ownBlock) (Kd.R_apart' (HO387.out) (Kd.S_typed HO_7.out) (by decide)) (fun k_ hk=>⟨trivial,hk.2⟩))).1 k_ hk_.symm) ?aF ?aO ?aB ?aS ?aL ?_;(case aP=>exact Kd.M_row (Kd.R_mono (Kd.R_tight rfl (Kd.R_mono (ok':=fun k_=>((fun _=>True)) k_∧some k_ ≠ (.slice (some ad379) x7_1.length co20 : Value).ownBlock) (Kd.R_apart' (HO387.out) (Kd.S_typed HO_7.out) (by decide)) (fun k_ hk=>⟨trivial,hk.2⟩))) (fun _ h_=>h_)));(case aB=>exact (bel HB));(case aF=>exact (fun _ _=>trivial));(case aO=>exact (by (with_reducible repeat (first | apply Kd.S_alloc | apply Kd.S_drewN | apply Kd.S_drew));exact Kd.S_mono HO_7.out (fun k_ hk=>⟨trivial,fun e_=>hk.2 e_⟩)));(case aS=>exact (below_size (bel HB)));(case aL=>have:=LMc18.out;omega);intro v389 w23 ho hb hg hat;rw [← Ny388.out] at ho;replace HL379_0:=amk (Kd.R_after (ok:=(fun k_=>some k_ ≠ (.slice Ao24 y385.length co24 : Value).ownBlock)) (by (with_reducible repeat (first | apply Kd.R_alloc | apply Kd.R_drewN | apply Kd.R_drew));exact Kd.R_mono HL379_0.out (fun _ hk=>⟨hk.2,hk.1.2⟩)) hg hat);replace HB:=amk (hb);have HO390:=amk (ho);clear HO387 HO_7;clear ho hb hg hat))
           go_roundg k1
           case measure=>have:=HK1.out;omega
           case rel=>exact ⟨(y388),(wrap64 (x8_1 + 1)),rsd,H',⟨by have:=HK1.out;omega⟩,⟨sss HO390⟩,⟨bel HB⟩⟩
          ·rw [if_neg c18] at H
           exact absurd H (by simp)
        ·rw [if_neg c11] at H
         exact absurd H (by simp)
       ·rw [if_neg c10] at H
        exact absurd H (by simp)
      ·rw [if_neg c9] at H
       exact absurd H (by simp)
     ·rw [if_neg c7] at H
      have c7b0 : decide (0≤(wrap64 ((x7_1.length : Int) - 1)))=false:=decide_eq_false c7
      clear c7
      obtain ⟨y391,hy391⟩ : ∃ y_ : List Int,y_=(([x8_1,x8_1] : List Int)):=⟨_,rfl⟩
      replace H : (if x7_1.length < 5864062014805 then (impl_spans.l0 k1 a1 a2 (x7_1 ++ [y391]) (wrap64 (x8_1 + 1))) else (none))=some r:=by first | (rw [hy391];with_reducible exact H)|(have H2_:=(Option.bind_some _ _).symm.trans H;rw [hy391];with_reducible exact H2_)|(have H2_:=(Option.bind_some _ _).symm.trans H;with_reducible exact H2_) | with_reducible exact H | (rw [hy391];exact H) | exact H
      have Ny391:=amk hy391
      clear hy391
      by_cases c25 : x7_1.length < 5864062014805
      ·rw [if_pos c25] at H
       have LMc25:=amk c25
       clear c25
       obtain ⟨y394,hy394⟩ : ∃ y_ : List (List Int),y_=(x7_1 ++ [y391]):=⟨_,rfl⟩
       replace H : (impl_spans.l0 k1 a1 a2 y394 (wrap64 (x8_1 + 1)))=some r:=by first | (rw [hy394];with_reducible exact H)|(have H2_:=(Option.bind_some _ _).symm.trans H;rw [hy394];with_reducible exact H2_)|(have H2_:=(Option.bind_some _ _).symm.trans H;with_reducible exact H2_) | with_reducible exact H | (rw [hy394];exact H) | exact H
       have Ny394:=amk hy394
       clear hy394
       have H':=amk H
       clear H
       go_wp2_with (first | ((with_reducible refine (HP2.out _ _ true A5.out ?sidefp).mono ?_);(case sidefp=>exact bel HB);rintro e w26 ⟨rfl,hb⟩;replace HO_7:=amk (Kd.S_below (sss HO_7) hb);replace HB:=amk (below_step (bel HB) hb);(try clear hb);obtain ⟨Ao27,co27,eo27⟩:=Kd.S_slice HO_7.out;subst eo27)|((with_reducible refine gate_dst (N:=45) rfl ?_);refine Kd.R_lit (Kd.int .i64) _ 3 ?hg (N:=45) ?hd (xs:=([x8_1,x8_1] : List Int)) (inner:=[.int .i64 x8_1,.int .i64 x8_1]) (ok:=fun _=>True) (okp:=fun _=>True) ?hr ?hp (fun _ hk=>hk) trivial (Below.refl _ _) (Nat.le_refl _) (by simp) ?_;(case hd=>rfl);(case hg=>rfl);(case hr=>first | (go_simp;done)|(go_simp;rfl));(case hp=>exact (Reps.one (show Kd.M (Kd.int .i64) _ _ _ x8_1 [.int .i64 x8_1] from rfl) (Reps.one (show Kd.M (Kd.int .i64) _ _ _ x8_1 [.int .i64 x8_1] from rfl) (Reps.none _ _))));intro v392 w28 ho29 hb hg_ hnew_;clear hg_ hnew_;(first | rw [← Ny391.out] at ho29 | (simp only [Int.reduceToNat] at ho29;rw [← Ny391.out] at ho29));replace HO_7:=amk (Kd.S_elder' (sss HO_7) (Kd.R_base ho29) hb);have HO393:=amk (Kd.R_lower ho29 (below_size (bel HB)));replace HB:=amk (below_step (bel HB) hb);clear hb ho29;obtain ⟨Ao31,co31,eo31⟩:=Kd.R_slice HO393.out;subst eo31)|((with_reducible refine gate_builtin (b:=.append) (xs:=#[.tmp 42,.tmp 46]) rfl ?_);at_builtin;refine Kd.S_append (Kd.slice 3 (Kd.int .i64)) (w0:=w) w.heap.size rfl (.tmp 42) (.tmp 46) 40 63 (.slice none 0 0) 24 rfl Try.underlying40 info63 rfl (by decide) (by omega) (.slice Ao27 x7_1.length co27) x7_1 y391 [.slice Ao31 y391.length co31] (fun _=>True) (fun k_=>some k_=(.slice Ao31 y391.length co31 : Value).ownBlock) rfl rfl ?aP (fun k_ hk_=>((Kd.R_mono (ok':=fun k_=>((fun _=>True)) k_∧some k_ ≠ (.slice Ao27 x7_1.length co27 : Value).ownBlock) (Kd.R_apart' (HO393.out) (Kd.S_typed HO_7.out) (by decide)) (fun k_ hk=>⟨trivial,hk.2⟩))).1 k_ hk_.symm) ?aF ?aO ?aB ?aS ?aL ?_;(case aP=>exact Kd.M_row (Kd.R_mono (Kd.R_tight rfl (Kd.R_mono (ok':=fun k_=>((fun _=>True)) k_∧some k_ ≠ (.slice Ao27 x7_1.length co27 : Value).ownBlock) (Kd.R_apart' (HO393.out) (Kd.S_typed HO_7.out) (by decide)) (fun k_ hk=>⟨trivial,hk.2⟩))) (fun _ h_=>h_)));(case aB=>exact (bel HB));(case aF=>exact (fun _ _=>trivial));(case aO=>exact (by (with_reducible repeat (first | apply Kd.S_alloc | apply Kd.S_drewN | apply Kd.S_drew));exact Kd.S_mono HO_7.out (fun k_ hk=>⟨trivial,fun e_=>hk.2 e_⟩)));(case aS=>exact (below_size (bel HB)));(case aL=>have:=LMc25.out;omega);intro v395 w30 ho hb hg hat;rw [← Ny394.out] at ho;replace HB:=amk (hb);have HO396:=amk (ho);clear HO393 HO_7;clear ho hb hg hat))
       go_roundg k1
       case measure=>have:=HK1.out;omega
       case rel=>exact ⟨(y394),(wrap64 (x8_1 + 1)),rsd,H',⟨by have:=HK1.out;omega⟩,⟨sss HO396⟩,⟨bel HB⟩⟩
      ·rw [if_neg c25] at H
       exact absurd H (by simp)
    ·replace c6:=Bool.eq_false_iff.mpr c6
     subst c6
     have H1 : (impl_spans.l0 k1 a1 a2 x7_1 (wrap64 (x8_1 + 1)))=some r:=by rw [if_neg (show ¬ (false=true) by decide)] at H;exact H
     clear H
     have H:=H1
     clear H1
     have H':=amk H
     clear H
     go_wp2_with (first | ((with_reducible refine (HP2.out _ _ false A5.out ?sidefp).mono ?_);(case sidefp=>exact bel HB);rintro e w32 ⟨rfl,hb⟩;replace HO_7:=amk (Kd.S_below (sss HO_7) hb);replace HB:=amk (below_step (bel HB) hb);(try clear hb)))
     go_roundg k1
     case measure=>have:=HK1.out;omega
     case rel=>exact ⟨(x7_1),(wrap64 (x8_1 + 1)),rsd,H',⟨by have:=HK1.out;omega⟩,⟨sss HO_7⟩,⟨bel HB⟩⟩
   ·rw [if_neg c4] at H
    have c4b0 : decide (x8_1≤a1)=false:=decide_eq_false c4
    clear c4
    obtain rfl:=Option.some.inj H
    go_wp2
    go_ret
    exact ⟨_,erw0,sss HO_7,bel HB⟩
def impl_absolute.f (a0 : Int) : Option (Int):=some (mx a0 (wrap64 (-a0)))
set_option maxHeartbeats 8000000 in
set_option maxRecDepth 100000 in
theorem impl_absolute.calls (a0 : Int) (r : Int) (w : World) (h : impl_absolute.f a0=some r) :
  Calls Try.prog 94 #[.int .i64 a0] w fun e w'=>e = .returned (.int .i64 r)∧Below w.heap.size w w':=by
 have HB:=amk (Below.refl w.heap.size w)
 have H : (some (mx a0 (wrap64 (-a0))))=some r:=h
 clear h
 obtain ⟨ji2,hji2⟩ : ∃ j_ : Int,(mx a0 (wrap64 (-a0)))=j_:=⟨_,rfl⟩
 replace H : (some ji2)=some r:=by first | (rw [hji2] at H;exact H)|(simp only [hji2] at H ⊢;exact H)
 have hji2_ : (if a0 < (wrap64 (-a0)) then (wrap64 (-a0)) else a0)=ji2:=hji2
 obtain rfl:=Option.some.inj H
 go_enter Try.func94,Try.ntmps94
 go_wp2
 go_ret
 exact ⟨by first | rfl | (simp [errW_none,errW_some] <;> rfl)|(simp only [← hji2];first | rfl | (simp [errW_none,errW_some] <;> rfl))|(simp [*,errW_none,errW_some] <;> rfl),bel HB⟩
def impl_gcd.l0 : Nat→Int→Int→Option (Int)
 | 0,_,_=>none
 | k + 1,x0,x1=>if x1=0 then ((impl_absolute.f x0).bind fun t213=>(some t213)) else (impl_gcd.l0 k x1 (Int.tmod x0 x1))
def impl_gcd.f (k : Nat) (a0 : Int) (a1 : Int) : Option (Int):=impl_gcd.l0 k a0 a1
theorem impl_gcd.mono_l : ∀ k,(∀ y0 y1,LeO (impl_gcd.l0 k y0 y1) (impl_gcd.l0 (k + 1) y0 y1))
 | 0=>fun _ _ r h=>by simp [impl_gcd.l0] at h
 | k + 1=>by
  have ih0:=impl_gcd.mono_l k
  ·intro y0 y1
   unfold impl_gcd.l0
   repeat' first
   | (with_reducible exact ih0 _ _)
   | (with_reducible exact LeO.refl _)
   | (with_reducible exact LeO.none _)
   | (with_reducible refine LeO.ite ?_ ?_)
   | (with_reducible refine LeO.bind ?_ (fun _=>?_))
   | exact ih0 _ _
theorem impl_gcd.mono : ∀ a0 a1 k,LeO (impl_gcd.f k a0 a1) (impl_gcd.f (k + 1) a0 a1):=by
 intro a0 a1 k
 have ih0:=impl_gcd.mono_l k
 unfold impl_gcd.f
 repeat' first
   | (with_reducible exact ih0 _ _)
   | (with_reducible exact LeO.refl _)
   | (with_reducible exact LeO.none _)
   | (with_reducible refine LeO.ite ?_ ?_)
   | (with_reducible refine LeO.bind ?_ (fun _=>?_))
   | exact ih0 _ _
set_option maxHeartbeats 8000000 in
set_option maxRecDepth 100000 in
theorem impl_gcd.calls (k : Nat) (a0 : Int) (a1 : Int) (r : Int) (w : World) (h : impl_gcd.f k a0 a1=some r) :
  Calls Try.prog 86 #[.int .i64 a0,.int .i64 a1] w fun e w'=>e = .returned (.int .i64 r)∧Below w.heap.size w w':=by
 have HB:=amk (Below.refl w.heap.size w)
 have H : (impl_gcd.l0 k a0 a1)=some r:=h
 clear h
 have H':=amk H
 clear H
 go_enter Try.func86,Try.ntmps86
 go_wp2
 repeat (go_quiet (fail);try go_wp2)
 go_loopg [0,1] k (fun kq v0 v1 w'=>∃ (x0_1 : Int) (x1_1 : Int),v0 = .int .i64 x0_1∧v1 = .int .i64 x1_1∧Aside0 (impl_gcd.l0 kq x0_1 x1_1=some r)∧Aside0 (kq≤k)∧Aside0 (Below w.heap.size w w'))
 case atStart=>exact ⟨(a0),(a1),rsd,rsd,H',⟨Nat.le_refl _⟩,⟨bel HB⟩⟩
 case round=>
  clear H'
  try clear p2
  obtain ⟨x0_1,x1_1,rfl,rfl,HA,HK1,HB⟩:=hrel
  cases gk with
  | zero=>exact absurd HA.out (by simp [impl_gcd.l0])
  | succ k1=>
   have H:=HA.out
   clear HA
   simp only [impl_gcd.l0] at H
   by_cases c3 : x1_1=0
   ·rw [if_pos c3] at H
    have c3b0 : (x1_1 == 0)=true:=beq_iff_eq.mpr c3
    have c3b1 : (x1_1 != 0)=false:=bne_eq_false_iff_eq.mpr c3
    clear c3
    replace H:=obs H
    obtain ⟨t213,A40,H⟩:=H
    replace H : (some t213)=some r:=H
    have A4:=amk A40
    clear A40
    obtain rfl:=Option.some.inj H
    go_wp2_with (first | (go_at_call 94;(with_reducible refine (impl_absolute.calls x0_1 t213 _ A4.out).mono ?_);rintro e w5 ⟨rfl,hb⟩;replace HB:=amk (below_step (bel HB) hb);(try clear hb)))
    repeat (go_quiet (first | (go_at_call 94;(with_reducible refine (impl_absolute.calls x0_1 t213 _ A4.out).mono ?_);rintro e w5 ⟨rfl,hb⟩;replace HB:=amk (below_step (bel HB) hb);(try clear hb)));try go_wp2_with (first | (go_at_call 94;(with_reducible refine (impl_absolute.calls x0_1 t213 _ A4.out).mono ?_);rintro e w5 ⟨rfl,hb⟩;replace HB:=amk (below_step (bel HB) hb);(try clear hb))))
    go_ret
    exact ⟨erw0,bel HB⟩
   ·rw [if_neg c3] at H
    have c3b0 : (x1_1 == 0)=false:=beq_eq_false_iff_ne.mpr c3
    have c3b1 : (x1_1 != 0)=true:=bne_iff_ne.mpr c3
    have H':=amk H
    clear H
    go_wp2
    repeat (go_quiet (fail);try go_wp2)
    go_roundg k1
    case measure=>have:=HK1.out;omega
    case rel=>exact ⟨(x1_1),(Int.tmod x0_1 x1_1),rsd,rsd,H',⟨by have:=HK1.out;omega⟩,⟨bel HB⟩⟩
def impl_reduced.f (k : Nat) (a0 : Int) (a1 : Int) : Option (Int × Int):=(impl_gcd.f k a0 a1).bind fun t214=>(if t214=0 then (none) else (some (wrap64 (Int.tdiv a0 t214),wrap64 (Int.tdiv a1 t214))))
theorem impl_reduced.mono : ∀ a0 a1 k,LeO (impl_reduced.f k a0 a1) (impl_reduced.f (k + 1) a0 a1):=by
 intro a0 a1 k
 unfold impl_reduced.f
 repeat' first
   | (with_reducible exact impl_gcd.mono _ _ _)
   | (with_reducible exact LeO.refl _)
   | (with_reducible exact LeO.none _)
   | (with_reducible refine LeO.ite ?_ ?_)
   | (with_reducible refine LeO.bind ?_ (fun _=>?_))
set_option maxHeartbeats 8000000 in
set_option maxRecDepth 100000 in
theorem impl_reduced.calls (k : Nat) (a0 : Int) (a1 : Int) (r1 : Int) (r2 : Int) (w : World) (h : impl_reduced.f k a0 a1=some (r1,r2)) :
  Calls Try.prog 54 #[.int .i64 a0,.int .i64 a1] w fun e w'=>e = .returned (.tuple #[.int .i64 r1,.int .i64 r2])∧Below w.heap.size w w':=by
 have HB:=amk (Below.refl w.heap.size w)
 have H : ((impl_gcd.f k a0 a1).bind fun t214=>(if t214=0 then (none) else (some (wrap64 (Int.tdiv a0 t214),wrap64 (Int.tdiv a1 t214)))))=some (r1,r2):=h
 clear h
 replace H:=obs H
 obtain ⟨t214,A30,H⟩:=H
 replace H : (if t214=0 then (none) else (some (wrap64 (Int.tdiv a0 t214),wrap64 (Int.tdiv a1 t214))))=some (r1,r2):=H
 have A3:=amk A30
 clear A30
 by_cases c4 : t214=0
 ·rw [if_pos c4] at H
  exact absurd H (by simp)
 ·rw [if_neg c4] at H
  have c4b0 : (t214 == 0)=false:=beq_eq_false_iff_ne.mpr c4
  have c4b1 : (t214 != 0)=true:=bne_iff_ne.mpr c4
  simp only [Option.some.injEq,Prod.mk.injEq] at H
  obtain ⟨rfl,rfl⟩:=H
  go_enter Try.func54,Try.ntmps54
  go_wp2_with (first | (go_at_call 86;(with_reducible refine (impl_gcd.calls k a0 a1 t214 _ A3.out).mono ?_);rintro e w5 ⟨rfl,hb⟩;replace HB:=amk (below_step (bel HB) hb);(try clear hb)))
  repeat (go_quiet (first | (go_at_call 86;(with_reducible refine (impl_gcd.calls k a0 a1 t214 _ A3.out).mono ?_);rintro e w5 ⟨rfl,hb⟩;replace HB:=amk (below_step (bel HB) hb);(try clear hb)));try go_wp2_with (first | (go_at_call 86;(with_reducible refine (impl_gcd.calls k a0 a1 t214 _ A3.out).mono ?_);rintro e w5 ⟨rfl,hb⟩;replace HB:=amk (below_step (bel HB) hb);(try clear hb))))
  go_ret2
  exact ⟨erw0,bel HB⟩
def impl_levelIn.l0 : Nat→List (S30)→Int→Int→Option (Int × Int)
 | 0,_,_,_=>none
 | k + 1,x0,x1,x5=>if (wrap64 (x5 + 1)) < (x0.length : Int) then (if 0≤(wrap64 (x5 + 1)) then (if ((rd_T30 x0 (wrap64 (x5 + 1))).f0)≤x1 then (impl_levelIn.l0 k x0 x1 (wrap64 (x5 + 1))) else (if 0≤x5 then (if x5 < (x0.length : Int) then (if ((rd_T30 x0 x5).f0)=x1 then (some ((rd_T30 x0 x5).f1,1)) else ((impl_reduced.f k (wrap64 ((wrap64 (((rd_T30 x0 x5).f1) * (wrap64 (((rd_T30 x0 (wrap64 (x5 + 1))).f0) - x1)))) + (wrap64 (((rd_T30 x0 (wrap64 (x5 + 1))).f1) * (wrap64 (x1 - ((rd_T30 x0 x5).f0))))))) (wrap64 (((rd_T30 x0 (wrap64 (x5 + 1))).f0) - ((rd_T30 x0 x5).f0)))).bind fun bt221=>(some (bt221.1,bt221.2)))) else (none)) else (none))) else (none)) else (if 0≤x5 then (if x5 < (x0.length : Int) then (if ((rd_T30 x0 x5).f0)=x1 then (some ((rd_T30 x0 x5).f1,1)) else (if 0≤(wrap64 (x5 + 1)) then (none) else (none))) else (none)) else (none))
def impl_levelIn.f (k : Nat) (l0 : List (S30)) (a1 : Int) : Option (Int × Int):=impl_levelIn.l0 k l0 a1 0
theorem impl_levelIn.mono_l : ∀ k,(∀ y0 y1 y2,LeO (impl_levelIn.l0 k y0 y1 y2) (impl_levelIn.l0 (k + 1) y0 y1 y2))
 | 0=>fun _ _ _ r h=>by simp [impl_levelIn.l0] at h
 | k + 1=>by
  have ih0:=impl_levelIn.mono_l k
  ·intro y0 y1 y2
   unfold impl_levelIn.l0
   repeat' first
   | (with_reducible exact ih0 _ _ _)
   | (with_reducible exact impl_reduced.mono _ _ _)
   | (with_reducible exact LeO.refl _)
   | (with_reducible exact LeO.none _)
   | (with_reducible refine LeO.ite ?_ ?_)
   | (with_reducible refine LeO.bind ?_ (fun _=>?_))
   | exact ih0 _ _ _
theorem impl_levelIn.mono : ∀ a0 a1 k,LeO (impl_levelIn.f k a0 a1) (impl_levelIn.f (k + 1) a0 a1):=by
 intro a0 a1 k
 have ih0:=impl_levelIn.mono_l k
 unfold impl_levelIn.f
 repeat' first
   | (with_reducible exact ih0 _ _ _)
   | (with_reducible exact impl_reduced.mono _ _ _)
   | (with_reducible exact LeO.refl _)
   | (with_reducible exact LeO.none _)
   | (with_reducible refine LeO.ite ?_ ?_)
   | (with_reducible refine LeO.bind ?_ (fun _=>?_))
   | exact ih0 _ _ _
set_option maxHeartbeats 8000000 in
set_option maxRecDepth 100000 in
theorem impl_levelIn.calls (k : Nat) (A0 : Option Addr) (c0 : Nat) (l0 : List (S30)) (a1 : Int) (r1 : Int) (r2 : Int) (w : World) (hr0 : Kd.C k30 w A0 l0.length l0) (hc0 : l0.length≤c0) (h : impl_levelIn.f k l0 a1=some (r1,r2)) :
  Calls Try.prog 50 #[.slice A0 l0.length c0,.int .i64 a1] w fun e w'=>e = .returned (.agg #[.int .i64 r1,.int .i64 r2])∧Below w.heap.size w w':=by
 have hu82:=Try.underlying82
 have hu30:=Try.underlying30
 have HR0:=amk hr0
 have HC0:=amk hc0
 clear hr0 hc0
 have HB:=amk (Below.refl w.heap.size w)
 have H : (impl_levelIn.l0 k l0 a1 0)=some (r1,r2):=h
 clear h
 have H':=amk H
 clear H
 go_enter Try.func50,Try.ntmps50
 go_wp2_with (first | ((with_reducible refine gate_dst (N:=4) rfl ?_);refine box_event ?hg (N:=4) ?hd (cs:=#[.int .i64 0,.int .i64 0]) (t:=82) ?hr ?_;(case hd=>rfl);(case hg=>rfl);(case hr=>first | (go_simp;done)|(go_simp;rfl));intro gb215 hg w3 hbox hb;have BK215:=amk (hbox);have GW215:=amk ((by rw [hg];exact (below_size (bel HB)) : w.heap.size≤gb215));have GE215:=amk ((by rw [hg];exact (below_size (bel HB)) : w.heap.size≤gb215));replace HB:=amk (below_step (bel HB) hb);clear hb hbox hg))
 go_loopg [5] k (fun kq v5 w'=>∃ (x5_1 : Int),v5 = .int .i64 x5_1∧Aside0 (impl_levelIn.l0 kq l0 a1 x5_1=some (r1,r2))∧Aside0 (kq≤k)∧Aside0 (w'.heap[gb215]? = some (.cells #[.int .i64 0,.int .i64 0] 82 (0,0)))∧Aside0 (Below w.heap.size w w'))
 case atStart=>exact ⟨(0),rsd,H',⟨Nat.le_refl _⟩,⟨by (with_reducible repeat (first | refine blk_drewN ?_ _ | refine blk_drew ?_ | refine blk_alloc ?_ _));exact BK215.out⟩,⟨bel1 HB GE215.out⟩⟩
 case round=>
  clear H'
  try clear p2
  obtain ⟨x5_1,rfl,HA,HK1,BK215,HB⟩:=hrel
  cases gk with
  | zero=>exact absurd HA.out (by simp [impl_levelIn.l0])
  | succ k1=>
   have H:=HA.out
   clear HA
   simp only [impl_levelIn.l0] at H
   by_cases c4 : (wrap64 (x5_1 + 1)) < (l0.length : Int)
   ·rw [if_pos c4] at H
    have c4b0 : decide ((wrap64 (x5_1 + 1)) < (l0.length : Int))=true:=decide_eq_true c4
    clear c4
    obtain ⟨ji5,hji5⟩ : ∃ j_ : Int,(wrap64 (x5_1 + 1))=j_:=⟨_,rfl⟩
    replace H : (if 0≤(ji5) then (if ((rd_T30 l0 (ji5)).f0)≤a1 then (impl_levelIn.l0 k1 l0 a1 ji5) else (if 0≤x5_1 then (if x5_1 < (l0.length : Int) then (if ((rd_T30 l0 x5_1).f0)=a1 then (some ((rd_T30 l0 x5_1).f1,1)) else ((impl_reduced.f k1 (wrap64 ((wrap64 (((rd_T30 l0 x5_1).f1) * (wrap64 (((rd_T30 l0 (ji5)).f0) - a1)))) + (wrap64 (((rd_T30 l0 (ji5)).f1) * (wrap64 (a1 - ((rd_T30 l0 x5_1).f0))))))) (wrap64 (((rd_T30 l0 (ji5)).f0) - ((rd_T30 l0 x5_1).f0)))).bind fun bt221=>(some (bt221.1,bt221.2)))) else (none)) else (none))) else (none))=some (r1,r2):=by first | (rw [hji5] at H;exact H)|(simp only [hji5] at H ⊢;exact H)
    (try rw [hji5] at c4b0)
    have hji5w : (IntKind.i64.wrap (x5_1 + 1))=ji5:=(i64_w _).trans hji5
    by_cases c6 : 0≤(ji5)
    ·rw [if_pos c6] at H
     have c6b0 : decide (0≤(ji5))=true:=decide_eq_true c6
     clear c6
     by_cases c7 : ((rd_T30 l0 (ji5)).f0)≤a1
     ·rw [if_pos c7] at H
      have c7b0 : decide (((rd_T30 l0 (ji5)).f0)≤a1)=true:=decide_eq_true c7
      clear c7
      have H':=amk H
      clear H
      have p216 : 0≤((ji5) : Int):=of_decide_eq_true ass
      have q216 : (ji5) < (l0.length : Int):=of_decide_eq_true ass
      obtain ⟨ad216,e216,hx216_0,hx216_1⟩:=at_T30 HR0.out (ji5) p216 q216
      cases e216
      replace hx216_0:=(HB.out.cell (World.block_lt_of_cell? w _ hx216_0)).trans hx216_0
      replace hx216_1:=(HB.out.cell (World.block_lt_of_cell? w _ hx216_1)).trans hx216_1
      replace p216:=eq_true p216
      replace q216:=eq_true q216
      go_wp2
      go_roundg k1
      case measure=>have:=HK1.out;omega
      case rel=>exact ⟨(ji5),(by first | rfl | (simp;done)|(simp only [← hji5] <;> (first | rfl | simp))|(simp [*];done)),H',⟨by have:=HK1.out;omega⟩,⟨by (with_reducible repeat (first | refine blk_drewN ?_ _ | refine blk_drew ?_ | refine blk_alloc ?_ _));exact BK215.out⟩,⟨bel1 HB GE215.out⟩⟩
     ·rw [if_neg c7] at H
      have c7b0 : decide (((rd_T30 l0 (ji5)).f0)≤a1)=false:=decide_eq_false c7
      clear c7
      by_cases c8 : 0≤x5_1
      ·rw [if_pos c8] at H
       have c8b0 : decide (0≤x5_1)=true:=decide_eq_true c8
       clear c8
       by_cases c9 : x5_1 < (l0.length : Int)
       ·rw [if_pos c9] at H
        have c9b0 : decide (x5_1 < (l0.length : Int))=true:=decide_eq_true c9
        clear c9
        by_cases c10 : ((rd_T30 l0 x5_1).f0)=a1
        ·rw [if_pos c10] at H
         have c10b0 : (((rd_T30 l0 x5_1).f0) == a1)=true:=beq_iff_eq.mpr c10
         have c10b1 : (((rd_T30 l0 x5_1).f0) != a1)=false:=bne_eq_false_iff_eq.mpr c10
         clear c10
         simp only [Option.some.injEq,Prod.mk.injEq] at H
         obtain ⟨rfl,rfl⟩:=H
         have p216 : 0≤((ji5) : Int):=of_decide_eq_true ass
         have q216 : (ji5) < (l0.length : Int):=of_decide_eq_true ass
         obtain ⟨ad216,e216,hx216_0,hx216_1⟩:=at_T30 HR0.out (ji5) p216 q216
         cases e216
         replace hx216_0:=(HB.out.cell (World.block_lt_of_cell? w _ hx216_0)).trans hx216_0
         replace hx216_1:=(HB.out.cell (World.block_lt_of_cell? w _ hx216_1)).trans hx216_1
         replace p216:=eq_true p216
         replace q216:=eq_true q216
         have p217 : 0≤(x5_1 : Int):=of_decide_eq_true ass
         have q217 : x5_1 < (l0.length : Int):=of_decide_eq_true ass
         obtain ⟨ad217,e217,hx217_0,hx217_1⟩:=at_T30 HR0.out x5_1 p217 q217
         obtain rfl : ad216=ad217:=(by injection e217)
         replace hx217_0:=(HB.out.cell (World.block_lt_of_cell? w _ hx217_0)).trans hx217_0
         replace hx217_1:=(HB.out.cell (World.block_lt_of_cell? w _ hx217_1)).trans hx217_1
         replace p217:=eq_true p217
         replace q217:=eq_true q217
         go_wp2_with (first | ((with_reducible refine gate_dst (N:=6) rfl ?_);refine box_event ?hg (N:=6) ?hd (cs:=#[.int .i64 0,.int .i64 0]) (t:=30) ?hr ?_;(case hd=>rfl);(case hg=>rfl);(case hr=>first | (go_simp;done)|(go_simp;rfl));intro gb218 hg w11 hbox hb;have BK218:=amk (hbox);have GW218:=amk ((by rw [hg];exact (below_size (bel1 HB GE215.out)) : w.heap.size≤gb218));have GE218:=amk ((by rw [hg];exact (below_size (bel1 HB GE215.out)) : w.heap.size≤gb218));replace HB:=amk (below_step (bel1 HB GE215.out) hb);have NB215_218:=amk ((by rw [hg];exact Nat.ne_of_lt (blk_lt (g:=gb215) (o:=.cells #[.int .i64 0,.int .i64 0] 82 (0,0)) (bkk BK215)) : gb215 ≠ gb218));have NB218_215:=amk ((by rw [hg];exact Nat.ne_of_gt (blk_lt (g:=gb215) (o:=.cells #[.int .i64 0,.int .i64 0] 82 (0,0)) (bkk BK215)) : gb218 ≠ gb215));replace BK215:=amk (blk_below (g:=gb215) (o:=.cells #[.int .i64 0,.int .i64 0] 82 (0,0)) (bkk BK215) hb);clear hb hbox hg;have hnb12:=NB218_215.out;have hnc12:=NB215_218.out;have hcz13_0 : w11.cell? ⟨gb218,0,none⟩=some (.int .i64 0):=(blk_cell BK218.out 0).trans rfl;have hcz13_1 : w11.cell? ⟨gb218,1,none⟩=some (.int .i64 0):=(blk_cell BK218.out 1).trans rfl;have hfz13_0:=blk_frozen BK218.out 0;have hfz13_1:=blk_frozen BK218.out 1;have hcz14_0 : w11.cell? ⟨gb215,0,none⟩=some (.int .i64 0):=(blk_cell BK215.out 0).trans rfl;have hcz14_1 : w11.cell? ⟨gb215,1,none⟩=some (.int .i64 0):=(blk_cell BK215.out 1).trans rfl;have hfz14_0:=blk_frozen BK215.out 0;have hfz14_1:=blk_frozen BK215.out 1))
         refine bodyPost_ret (results_cell_row rfl _ _ gb215 82 #[.int .i64 ((rd_T30 l0 x5_1).f1),.int .i64 1] (0,0) _ rfl (by (with_reducible repeat (first | refine blk_drewN ?_ _ | refine blk_drew ?_ | refine blk_alloc ?_ _));refine blk_put (cs:=#[.int .i64 ((rd_T30 l0 x5_1).f1),.int .i64 0]) ?_ 1 _ rfl;(with_reducible repeat (first | refine blk_drewN ?_ _ | refine blk_drew ?_ | refine blk_alloc ?_ _));refine blk_put (cs:=#[.int .i64 0,.int .i64 0]) ?_ 0 _ rfl;(with_reducible repeat (first | refine blk_drewN ?_ _ | refine blk_drew ?_ | refine blk_alloc ?_ _));refine blk_far ?_ NB215_218.out _;(with_reducible repeat (first | refine blk_drewN ?_ _ | refine blk_drew ?_ | refine blk_alloc ?_ _));refine blk_far ?_ NB215_218.out _;(with_reducible repeat (first | refine blk_drewN ?_ _ | refine blk_drew ?_ | refine blk_alloc ?_ _));exact BK215.out) Try.underlying82 rfl (by kernel_rfl)) rfl ?_
         exact ⟨by first | rfl | (simp [errW_none,errW_some] <;> rfl)|(simp only [← hji5];first | rfl | (simp [errW_none,errW_some] <;> rfl))|(simp [*,errW_none,errW_some] <;> rfl),bel2 HB GE215.out GE218.out⟩
        ·rw [if_neg c10] at H
         have c10b0 : (((rd_T30 l0 x5_1).f0) == a1)=false:=beq_eq_false_iff_ne.mpr c10
         have c10b1 : (((rd_T30 l0 x5_1).f0) != a1)=true:=bne_iff_ne.mpr c10
         replace H:=obs H
         obtain ⟨⟨t221,t222⟩,A150,H⟩:=H
         replace H : (some (t221,t222))=some (r1,r2):=H
         have A15:=amk A150
         clear A150
         simp only [Option.some.injEq,Prod.mk.injEq] at H
         obtain ⟨rfl,rfl⟩:=H
         have p216 : 0≤((ji5) : Int):=of_decide_eq_true ass
         have q216 : (ji5) < (l0.length : Int):=of_decide_eq_true ass
         obtain ⟨ad216,e216,hx216_0,hx216_1⟩:=at_T30 HR0.out (ji5) p216 q216
         cases e216
         replace hx216_0:=(HB.out.cell (World.block_lt_of_cell? w _ hx216_0)).trans hx216_0
         replace hx216_1:=(HB.out.cell (World.block_lt_of_cell? w _ hx216_1)).trans hx216_1
         replace p216:=eq_true p216
         replace q216:=eq_true q216
         have p217 : 0≤(x5_1 : Int):=of_decide_eq_true ass
         have q217 : x5_1 < (l0.length : Int):=of_decide_eq_true ass
         obtain ⟨ad217,e217,hx217_0,hx217_1⟩:=at_T30 HR0.out x5_1 p217 q217
         obtain rfl : ad216=ad217:=(by injection e217)
         replace hx217_0:=(HB.out.cell (World.block_lt_of_cell? w _ hx217_0)).trans hx217_0
         replace hx217_1:=(HB.out.cell (World.block_lt_of_cell? w _ hx217_1)).trans hx217_1
         replace p217:=eq_true p217
         replace q217:=eq_true q217
         go_wp2_with (first | ((with_reducible refine gate_dst (N:=6) rfl ?_);refine box_event ?hg (N:=6) ?hd (cs:=#[.int .i64 0,.int .i64 0]) (t:=30) ?hr ?_;(case hd=>rfl);(case hg=>rfl);(case hr=>first | (go_simp;done)|(go_simp;rfl));intro gb218 hg w16 hbox hb;have BK218:=amk (hbox);have GW218:=amk ((by rw [hg];exact (below_size (bel1 HB GE215.out)) : w.heap.size≤gb218));have GE218:=amk ((by rw [hg];exact (below_size (bel1 HB GE215.out)) : w.heap.size≤gb218));replace HB:=amk (below_step (bel1 HB GE215.out) hb);have NB215_218:=amk ((by rw [hg];exact Nat.ne_of_lt (blk_lt (g:=gb215) (o:=.cells #[.int .i64 0,.int .i64 0] 82 (0,0)) (bkk BK215)) : gb215 ≠ gb218));have NB218_215:=amk ((by rw [hg];exact Nat.ne_of_gt (blk_lt (g:=gb215) (o:=.cells #[.int .i64 0,.int .i64 0] 82 (0,0)) (bkk BK215)) : gb218 ≠ gb215));replace BK215:=amk (blk_below (g:=gb215) (o:=.cells #[.int .i64 0,.int .i64 0] 82 (0,0)) (bkk BK215) hb);clear hb hbox hg;have hnb17:=NB218_215.out;have hnc17:=NB215_218.out;have hcz18_0 : w16.cell? ⟨gb218,0,none⟩=some (.int .i64 0):=(blk_cell BK218.out 0).trans rfl;have hcz18_1 : w16.cell? ⟨gb218,1,none⟩=some (.int .i64 0):=(blk_cell BK218.out 1).trans rfl;have hfz18_0:=blk_frozen BK218.out 0;have hfz18_1:=blk_frozen BK218.out 1;have p219 : 0≤((ji5) : Int):=of_decide_eq_true ass;have q219 : (ji5) < (l0.length : Int):=of_decide_eq_true ass;obtain ⟨ad219,e219,hx219_0,hx219_1⟩:=at_T30 HR0.out (ji5) p219 q219;obtain rfl : ad216=ad219:=(by injection e219);have hn219_0 : ad216.block ≠ gb218:=Nat.ne_of_lt (Nat.lt_of_lt_of_le (by have:=World.block_lt_of_cell? _ _ hx219_0;first | rwa [add_block] at this | exact this) GW218.out);have hn219_1 : ad216.block ≠ gb218:=Nat.ne_of_lt (Nat.lt_of_lt_of_le (by have:=World.block_lt_of_cell? _ _ hx219_0;first | rwa [add_block] at this | exact this) GW218.out);replace hx219_0:=(HB.out.cell (World.block_lt_of_cell? w _ hx219_0)).trans hx219_0;replace hx219_1:=(HB.out.cell (World.block_lt_of_cell? w _ hx219_1)).trans hx219_1;replace hx219_0:=(cell_far (p:=⟨gb218,0,none⟩) (by first | (rw [add_block];exact hn219_0)|(show (Addr.add _ _).block ≠ _;rw [add_block];exact hn219_0) | exact hn219_0) (.int .i64 ((rd_T30 l0 x5_1).f0))).trans hx219_0;replace hx219_1:=(cell_far (p:=⟨gb218,0,none⟩) (by first | (rw [add_block];exact hn219_0)|(show (Addr.add _ _).block ≠ _;rw [add_block];exact hn219_0) | exact hn219_0) (.int .i64 ((rd_T30 l0 x5_1).f0))).trans hx219_1;replace hx219_0:=(cell_far (p:=⟨gb218,1,none⟩) (by first | (rw [add_block];exact hn219_1)|(show (Addr.add _ _).block ≠ _;rw [add_block];exact hn219_1) | exact hn219_1) (.int .i64 ((rd_T30 l0 x5_1).f1))).trans hx219_0;replace hx219_1:=(cell_far (p:=⟨gb218,1,none⟩) (by first | (rw [add_block];exact hn219_1)|(show (Addr.add _ _).block ≠ _;rw [add_block];exact hn219_1) | exact hn219_1) (.int .i64 ((rd_T30 l0 x5_1).f1))).trans hx219_1;clear hn219_0;clear hn219_1;replace p219:=eq_true p219;replace q219:=eq_true q219)|((with_reducible refine gate_dst (N:=7) rfl ?_);refine box_event ?hg (N:=7) ?hd (cs:=#[.int .i64 0,.int .i64 0]) (t:=30) ?hr ?_;(case hd=>rfl);(case hg=>rfl);(case hr=>first | (go_simp;done)|(go_simp;rfl));intro gb220 hg w19 hbox hb;have BK220:=amk (hbox);have GW220:=amk ((by rw [hg];exact (below_size (bel2 HB GE215.out GE218.out)) : w.heap.size≤gb220));have GE220:=amk ((by rw [hg];exact (below_size (bel2 HB GE215.out GE218.out)) : w.heap.size≤gb220));replace HB:=amk (below_step (bel2 HB GE215.out GE218.out) hb);have NB215_220:=amk ((by rw [hg];exact Nat.ne_of_lt (blk_lt (g:=gb215) (o:=.cells #[.int .i64 0,.int .i64 0] 82 (0,0)) (by (with_reducible repeat (first | refine blk_drewN ?_ _ | refine blk_drew ?_ | refine blk_alloc ?_ _));refine blk_far ?_ NB215_218.out _;(with_reducible repeat (first | refine blk_drewN ?_ _ | refine blk_drew ?_ | refine blk_alloc ?_ _));refine blk_far ?_ NB215_218.out _;(with_reducible repeat (first | refine blk_drewN ?_ _ | refine blk_drew ?_ | refine blk_alloc ?_ _));exact BK215.out)) : gb215 ≠ gb220));have NB220_215:=amk ((by rw [hg];exact Nat.ne_of_gt (blk_lt (g:=gb215) (o:=.cells #[.int .i64 0,.int .i64 0] 82 (0,0)) (by (with_reducible repeat (first | refine blk_drewN ?_ _ | refine blk_drew ?_ | refine blk_alloc ?_ _));refine blk_far ?_ NB215_218.out _;(with_reducible repeat (first | refine blk_drewN ?_ _ | refine blk_drew ?_ | refine blk_alloc ?_ _));refine blk_far ?_ NB215_218.out _;(with_reducible repeat (first | refine blk_drewN ?_ _ | refine blk_drew ?_ | refine blk_alloc ?_ _));exact BK215.out)) : gb220 ≠ gb215));replace BK215:=amk (blk_below (g:=gb215) (o:=.cells #[.int .i64 0,.int .i64 0] 82 (0,0)) (by (with_reducible repeat (first | refine blk_drewN ?_ _ | refine blk_drew ?_ | refine blk_alloc ?_ _));refine blk_far ?_ NB215_218.out _;(with_reducible repeat (first | refine blk_drewN ?_ _ | refine blk_drew ?_ | refine blk_alloc ?_ _));refine blk_far ?_ NB215_218.out _;(with_reducible repeat (first | refine blk_drewN ?_ _ | refine blk_drew ?_ | refine blk_alloc ?_ _));exact BK215.out) hb);have NB218_220:=amk ((by rw [hg];exact Nat.ne_of_lt (blk_lt (g:=gb218) (o:=.cells #[.int .i64 ((rd_T30 l0 x5_1).f0),.int .i64 ((rd_T30 l0 x5_1).f1)] 30 (0,0)) (by (with_reducible repeat (first | refine blk_drewN ?_ _ | refine blk_drew ?_ | refine blk_alloc ?_ _));refine blk_put (cs:=#[.int .i64 ((rd_T30 l0 x5_1).f0),.int .i64 0]) ?_ 1 _ rfl;(with_reducible repeat (first | refine blk_drewN ?_ _ | refine blk_drew ?_ | refine blk_alloc ?_ _));refine blk_put (cs:=#[.int .i64 0,.int .i64 0]) ?_ 0 _ rfl;(with_reducible repeat (first | refine blk_drewN ?_ _ | refine blk_drew ?_ | refine blk_alloc ?_ _));exact BK218.out)) : gb218 ≠ gb220));have NB220_218:=amk ((by rw [hg];exact Nat.ne_of_gt (blk_lt (g:=gb218) (o:=.cells #[.int .i64 ((rd_T30 l0 x5_1).f0),.int .i64 ((rd_T30 l0 x5_1).f1)] 30 (0,0)) (by (with_reducible repeat (first | refine blk_drewN ?_ _ | refine blk_drew ?_ | refine blk_alloc ?_ _));refine blk_put (cs:=#[.int .i64 ((rd_T30 l0 x5_1).f0),.int .i64 0]) ?_ 1 _ rfl;(with_reducible repeat (first | refine blk_drewN ?_ _ | refine blk_drew ?_ | refine blk_alloc ?_ _));refine blk_put (cs:=#[.int .i64 0,.int .i64 0]) ?_ 0 _ rfl;(with_reducible repeat (first | refine blk_drewN ?_ _ | refine blk_drew ?_ | refine blk_alloc ?_ _));exact BK218.out)) : gb220 ≠ gb218));replace BK218:=amk (blk_below (g:=gb218) (o:=.cells #[.int .i64 ((rd_T30 l0 x5_1).f0),.int .i64 ((rd_T30 l0 x5_1).f1)] 30 (0,0)) (by (with_reducible repeat (first | refine blk_drewN ?_ _ | refine blk_drew ?_ | refine blk_alloc ?_ _));refine blk_put (cs:=#[.int .i64 ((rd_T30 l0 x5_1).f0),.int .i64 0]) ?_ 1 _ rfl;(with_reducible repeat (first | refine blk_drewN ?_ _ | refine blk_drew ?_ | refine blk_alloc ?_ _));refine blk_put (cs:=#[.int .i64 0,.int .i64 0]) ?_ 0 _ rfl;(with_reducible repeat (first | refine blk_drewN ?_ _ | refine blk_drew ?_ | refine blk_alloc ?_ _));exact BK218.out) hb);clear hb hbox hg;have hnb20:=NB220_215.out;have hnc20:=NB215_220.out;have hnb21:=NB220_218.out;have hnc21:=NB218_220.out;have hcz22_0 : w19.cell? ⟨gb220,0,none⟩=some (.int .i64 0):=(blk_cell BK220.out 0).trans rfl;have hcz22_1 : w19.cell? ⟨gb220,1,none⟩=some (.int .i64 0):=(blk_cell BK220.out 1).trans rfl;have hfz22_0:=blk_frozen BK220.out 0;have hfz22_1:=blk_frozen BK220.out 1;have hcz23_0 : w19.cell? ⟨gb218,0,none⟩=some (.int .i64 ((rd_T30 l0 x5_1).f0)):=(blk_cell BK218.out 0).trans rfl;have hcz23_1 : w19.cell? ⟨gb218,1,none⟩=some (.int .i64 ((rd_T30 l0 x5_1).f1)):=(blk_cell BK218.out 1).trans rfl;have hfz23_0:=blk_frozen BK218.out 0;have hfz23_1:=blk_frozen BK218.out 1)|((with_reducible refine gate_callee (f:=54) rfl ?_);refine goesL_ (some 64) rfl rfl Try.func54 (by kernel_rfl) rfl #[.int .i64 (wrap64 ((wrap64 (((rd_T30 l0 x5_1).f1) * (wrap64 (((rd_T30 l0 (ji5)).f0) - a1)))) + (wrap64 (((rd_T30 l0 (ji5)).f1) * (wrap64 (a1 - ((rd_T30 l0 x5_1).f0))))))),.int .i64 (wrap64 (((rd_T30 l0 (ji5)).f0) - ((rd_T30 l0 x5_1).f0)))] rfl (by (try simp only [List.map_toArray,List.map_cons,List.map_nil]);first | done | (simp only [hji5];rfl) | rfl | (simp only [List.length_drop,List.length_take];rfl)) ?_;(with_reducible refine (impl_reduced.calls k1 (wrap64 ((wrap64 (((rd_T30 l0 x5_1).f1) * (wrap64 (((rd_T30 l0 (ji5)).f0) - a1)))) + (wrap64 (((rd_T30 l0 (ji5)).f1) * (wrap64 (a1 - ((rd_T30 l0 x5_1).f0))))))) (wrap64 (((rd_T30 l0 (ji5)).f0) - ((rd_T30 l0 x5_1).f0))) t221 t222 _ A15.out).mono ?_);rintro e w24 ⟨rfl,hb⟩;refine ⟨_,rfl,?_⟩;replace BK215:=amk (blk_below (g:=gb215) (o:=.cells #[.int .i64 0,.int .i64 0] 82 (0,0)) (by (with_reducible repeat (first | refine blk_drewN ?_ _ | refine blk_drew ?_ | refine blk_alloc ?_ _));refine blk_far ?_ NB215_220.out _;(with_reducible repeat (first | refine blk_drewN ?_ _ | refine blk_drew ?_ | refine blk_alloc ?_ _));refine blk_far ?_ NB215_220.out _;(with_reducible repeat (first | refine blk_drewN ?_ _ | refine blk_drew ?_ | refine blk_alloc ?_ _));exact BK215.out) hb);replace BK218:=amk (blk_below (g:=gb218) (o:=.cells #[.int .i64 ((rd_T30 l0 x5_1).f0),.int .i64 ((rd_T30 l0 x5_1).f1)] 30 (0,0)) (by (with_reducible repeat (first | refine blk_drewN ?_ _ | refine blk_drew ?_ | refine blk_alloc ?_ _));refine blk_far ?_ NB218_220.out _;(with_reducible repeat (first | refine blk_drewN ?_ _ | refine blk_drew ?_ | refine blk_alloc ?_ _));refine blk_far ?_ NB218_220.out _;(with_reducible repeat (first | refine blk_drewN ?_ _ | refine blk_drew ?_ | refine blk_alloc ?_ _));exact BK218.out) hb);replace BK220:=amk (blk_below (g:=gb220) (o:=.cells #[.int .i64 ((rd_T30 l0 (ji5)).f0),.int .i64 ((rd_T30 l0 (ji5)).f1)] 30 (0,0)) (by (with_reducible repeat (first | refine blk_drewN ?_ _ | refine blk_drew ?_ | refine blk_alloc ?_ _));refine blk_put (cs:=#[.int .i64 ((rd_T30 l0 (ji5)).f0),.int .i64 0]) ?_ 1 _ rfl;(with_reducible repeat (first | refine blk_drewN ?_ _ | refine blk_drew ?_ | refine blk_alloc ?_ _));refine blk_put (cs:=#[.int .i64 0,.int .i64 0]) ?_ 0 _ rfl;(with_reducible repeat (first | refine blk_drewN ?_ _ | refine blk_drew ?_ | refine blk_alloc ?_ _));exact BK220.out) hb);replace HB:=amk (below_step (bel3 HB GE215.out GE218.out GE220.out) hb);(try clear hb);have hcz25_0 : w24.cell? ⟨gb215,0,none⟩=some (.int .i64 0):=(blk_cell BK215.out 0).trans rfl;have hcz25_1 : w24.cell? ⟨gb215,1,none⟩=some (.int .i64 0):=(blk_cell BK215.out 1).trans rfl;have hfz25_0:=blk_frozen BK215.out 0;have hfz25_1:=blk_frozen BK215.out 1))
         refine bodyPost_ret (results_cell_row rfl _ _ gb215 82 #[.int .i64 t221,.int .i64 t222] (0,0) _ rfl (by (with_reducible repeat (first | refine blk_drewN ?_ _ | refine blk_drew ?_ | refine blk_alloc ?_ _));refine blk_put (cs:=#[.int .i64 t221,.int .i64 0]) ?_ 1 _ rfl;(with_reducible repeat (first | refine blk_drewN ?_ _ | refine blk_drew ?_ | refine blk_alloc ?_ _));refine blk_put (cs:=#[.int .i64 0,.int .i64 0]) ?_ 0 _ rfl;(with_reducible repeat (first | refine blk_drewN ?_ _ | refine blk_drew ?_ | refine blk_alloc ?_ _));exact BK215.out) Try.underlying82 rfl (by kernel_rfl)) rfl ?_
         exact ⟨by first | rfl | (simp [errW_none,errW_some] <;> rfl)|(simp only [← hji5];first | rfl | (simp [errW_none,errW_some] <;> rfl))|(simp [*,errW_none,errW_some] <;> rfl),bel3 HB GE215.out GE218.out GE220.out⟩
       ·rw [if_neg c9] at H
        exact absurd H (by simp)
      ·rw [if_neg c8] at H
       exact absurd H (by simp)
    ·rw [if_neg c6] at H
     exact absurd H (by simp)
   ·rw [if_neg c4] at H
    have c4b0 : decide ((wrap64 (x5_1 + 1)) < (l0.length : Int))=false:=decide_eq_false c4
    clear c4
    by_cases c26 : 0≤x5_1
    ·rw [if_pos c26] at H
     have c26b0 : decide (0≤x5_1)=true:=decide_eq_true c26
     clear c26
     by_cases c27 : x5_1 < (l0.length : Int)
     ·rw [if_pos c27] at H
      have c27b0 : decide (x5_1 < (l0.length : Int))=true:=decide_eq_true c27
      clear c27
      by_cases c28 : ((rd_T30 l0 x5_1).f0)=a1
      ·rw [if_pos c28] at H
       have c28b0 : (((rd_T30 l0 x5_1).f0) == a1)=true:=beq_iff_eq.mpr c28
       have c28b1 : (((rd_T30 l0 x5_1).f0) != a1)=false:=bne_eq_false_iff_eq.mpr c28
       clear c28
       simp only [Option.some.injEq,Prod.mk.injEq] at H
       obtain ⟨rfl,rfl⟩:=H
       have p223 : 0≤(x5_1 : Int):=of_decide_eq_true ass
       have q223 : x5_1 < (l0.length : Int):=of_decide_eq_true ass
       obtain ⟨ad223,e223,hx223_0,hx223_1⟩:=at_T30 HR0.out x5_1 p223 q223
       cases e223
       replace hx223_0:=(HB.out.cell (World.block_lt_of_cell? w _ hx223_0)).trans hx223_0
       replace hx223_1:=(HB.out.cell (World.block_lt_of_cell? w _ hx223_1)).trans hx223_1
       replace p223:=eq_true p223
       replace q223:=eq_true q223
       go_wp2_with (first | ((with_reducible refine gate_dst (N:=6) rfl ?_);refine box_event ?hg (N:=6) ?hd (cs:=#[.int .i64 0,.int .i64 0]) (t:=30) ?hr ?_;(case hd=>rfl);(case hg=>rfl);(case hr=>first | (go_simp;done)|(go_simp;rfl));intro gb224 hg w29 hbox hb;have BK224:=amk (hbox);have GW224:=amk ((by rw [hg];exact (below_size (bel1 HB GE215.out)) : w.heap.size≤gb224));have GE224:=amk ((by rw [hg];exact (below_size (bel1 HB GE215.out)) : w.heap.size≤gb224));replace HB:=amk (below_step (bel1 HB GE215.out) hb);have NB215_224:=amk ((by rw [hg];exact Nat.ne_of_lt (blk_lt (g:=gb215) (o:=.cells #[.int .i64 0,.int .i64 0] 82 (0,0)) (bkk BK215)) : gb215 ≠ gb224));have NB224_215:=amk ((by rw [hg];exact Nat.ne_of_gt (blk_lt (g:=gb215) (o:=.cells #[.int .i64 0,.int .i64 0] 82 (0,0)) (bkk BK215)) : gb224 ≠ gb215));replace BK215:=amk (blk_below (g:=gb215) (o:=.cells #[.int .i64 0,.int .i64 0] 82 (0,0)) (bkk BK215) hb);clear hb hbox hg;have hnb30:=NB224_215.out;have hnc30:=NB215_224.out;have hcz31_0 : w29.cell? ⟨gb224,0,none⟩=some (.int .i64 0):=(blk_cell BK224.out 0).trans rfl;have hcz31_1 : w29.cell? ⟨gb224,1,none⟩=some (.int .i64 0):=(blk_cell BK224.out 1).trans rfl;have hfz31_0:=blk_frozen BK224.out 0;have hfz31_1:=blk_frozen BK224.out 1;have hcz32_0 : w29.cell? ⟨gb215,0,none⟩=some (.int .i64 0):=(blk_cell BK215.out 0).trans rfl;have hcz32_1 : w29.cell? ⟨gb215,1,none⟩=some (.int .i64 0):=(blk_cell BK215.out 1).trans rfl;have hfz32_0:=blk_frozen BK215.out 0;have hfz32_1:=blk_frozen BK215.out 1))
       refine bodyPost_ret (results_cell_row rfl _ _ gb215 82 #[.int .i64 ((rd_T30 l0 x5_1).f1),.int .i64 1] (0,0) _ rfl (by (with_reducible repeat (first | refine blk_drewN ?_ _ | refine blk_drew ?_ | refine blk_alloc ?_ _));refine blk_put (cs:=#[.int .i64 ((rd_T30 l0 x5_1).f1),.int .i64 0]) ?_ 1 _ rfl;(with_reducible repeat (first | refine blk_drewN ?_ _ | refine blk_drew ?_ | refine blk_alloc ?_ _));refine blk_put (cs:=#[.int .i64 0,.int .i64 0]) ?_ 0 _ rfl;(with_reducible repeat (first | refine blk_drewN ?_ _ | refine blk_drew ?_ | refine blk_alloc ?_ _));refine blk_far ?_ NB215_224.out _;(with_reducible repeat (first | refine blk_drewN ?_ _ | refine blk_drew ?_ | refine blk_alloc ?_ _));refine blk_far ?_ NB215_224.out _;(with_reducible repeat (first | refine blk_drewN ?_ _ | refine blk_drew ?_ | refine blk_alloc ?_ _));exact BK215.out) Try.underlying82 rfl (by kernel_rfl)) rfl ?_
       exact ⟨erw0,bel2 HB GE215.out GE224.out⟩
      ·rw [if_neg c28] at H
       have c28b0 : (((rd_T30 l0 x5_1).f0) == a1)=false:=beq_eq_false_iff_ne.mpr c28
       have c28b1 : (((rd_T30 l0 x5_1).f0) != a1)=true:=bne_iff_ne.mpr c28
       obtain ⟨ji33,hji33⟩ : ∃ j_ : Int,(wrap64 (x5_1 + 1))=j_:=⟨_,rfl⟩
       replace H : (if 0≤(ji33) then (none) else (none))=some (r1,r2):=by first | (rw [hji33] at H;exact H)|(simp only [hji33] at H ⊢;exact H)
       (try rw [hji33] at c4b0)
       have hji33w : (IntKind.i64.wrap (x5_1 + 1))=ji33:=(i64_w _).trans hji33
       by_cases c34 : 0≤(ji33)
       ·rw [if_pos c34] at H
        exact absurd H (by simp)
       ·rw [if_neg c34] at H
        exact absurd H (by simp)
     ·rw [if_neg c27] at H
      exact absurd H (by simp)
    ·rw [if_neg c26] at H
     exact absurd H (by simp)
def impl_Sump_open.f (k : Nat) (a0_0 : Int) (a0_1 : Int) (a0_2 : Int) (l1 : List (S30)) (a2 : Int) : Option (Bool):=(impl_levelIn.f k l1 a2).bind fun bt399=>(some (decide (bt399.1≤(wrap64 (a0_2 * bt399.2)))))
theorem impl_Sump_open.mono : ∀ a0 a1 a2 a3 a4 k,LeO (impl_Sump_open.f k a0 a1 a2 a3 a4) (impl_Sump_open.f (k + 1) a0 a1 a2 a3 a4):=by
 intro a0 a1 a2 a3 a4 k
 unfold impl_Sump_open.f
 repeat' first
   | (with_reducible exact impl_levelIn.mono _ _ _)
   | (with_reducible exact LeO.refl _)
   | (with_reducible exact LeO.none _)
   | (with_reducible refine LeO.ite ?_ ?_)
   | (with_reducible refine LeO.bind ?_ (fun _=>?_))
set_option maxHeartbeats 8000000 in
set_option maxRecDepth 100000 in
theorem impl_Sump_open.calls (k : Nat) (a0_0 : Int) (a0_1 : Int) (a0_2 : Int) (A1 : Option Addr) (c1 : Nat) (l1 : List (S30)) (a2 : Int) (r : Bool) (w : World) (hr1 : Kd.C k30 w A1 l1.length l1) (hc1 : l1.length≤c1) (h : impl_Sump_open.f k a0_0 a0_1 a0_2 l1 a2=some r) :
  Calls Try.prog 66 #[.agg #[.int .i64 a0_0,.int .i64 a0_1,.int .i64 a0_2],.slice A1 l1.length c1,.int .i64 a2] w fun e w'=>e = .returned (.bool r)∧Below w.heap.size w w':=by
 have hu44:=Try.underlying44
 have hu82:=Try.underlying82
 have HR1:=amk hr1
 have HC1:=amk hc1
 clear hr1 hc1
 have HB:=amk (Below.refl w.heap.size w)
 have H : ((impl_levelIn.f k l1 a2).bind fun bt399=>(some (decide (bt399.1≤(wrap64 (a0_2 * bt399.2))))))=some r:=h
 clear h
 replace H:=obs H
 obtain ⟨⟨t399,t400⟩,A40,H⟩:=H
 replace H : (some (decide (t399≤(wrap64 (a0_2 * t400)))))=some r:=H
 have A4:=amk A40
 clear A40
 obtain rfl:=Option.some.inj H
 go_enter Try.func66,Try.ntmps66
 go_wp2_with (first | ((with_reducible refine gate_dst (N:=3) rfl ?_);refine box_event ?hg (N:=3) ?hd (cs:=#[.int .i64 a0_0,.int .i64 a0_1,.int .i64 a0_2]) (t:=44) ?hr ?_;(case hd=>rfl);(case hg=>rfl);(case hr=>first | (go_simp;done)|(go_simp;rfl));intro gb398 hg w5 hbox hb;have BK398:=amk (hbox);have GW398:=amk ((by rw [hg];exact (below_size (bel HB)) : w.heap.size≤gb398));have GE398:=amk ((by rw [hg];exact (below_size (bel HB)) : w.heap.size≤gb398));replace HB:=amk (below_step (bel HB) hb);clear hb hbox hg)|((with_reducible refine gate_callee (f:=50) rfl ?_);refine goesL_ (some 10) rfl rfl Try.func50 (by kernel_rfl) rfl #[.slice A1 l1.length c1,.int .i64 a2] rfl mtt ?_;(with_reducible refine (impl_levelIn.calls k _ _ l1 a2 t399 t400 _ ?side1 ?side2 A4.out).mono ?_);(case side1=>exact ccc (Kd.C_below HR1.out HB.out));(case side2=>exact HC1.out);rintro e w6 ⟨rfl,hb⟩;refine ⟨_,rfl,?_⟩;replace BK398:=amk (blk_below (g:=gb398) (o:=.cells #[.int .i64 a0_0,.int .i64 a0_1,.int .i64 a0_2] 44 (0,0)) (bkk BK398) hb);replace HB:=amk (below_step (bel1 HB GE398.out) hb);(try clear hb))|((with_reducible refine gate_dst (N:=7) rfl ?_);refine box_event ?hg (N:=7) ?hd (cs:=#[.int .i64 0,.int .i64 0]) (t:=82) ?hr ?_;(case hd=>rfl);(case hg=>rfl);(case hr=>first | (go_simp;done)|(go_simp;rfl));intro gb401 hg w7 hbox hb;have BK401:=amk (hbox);have GW401:=amk ((by rw [hg];exact (below_size (bel1 HB GE398.out)) : w.heap.size≤gb401));have GE401:=amk ((by rw [hg];exact (below_size (bel1 HB GE398.out)) : w.heap.size≤gb401));replace HB:=amk (below_step (bel1 HB GE398.out) hb);have NB398_401:=amk ((by rw [hg];exact Nat.ne_of_lt (blk_lt (g:=gb398) (o:=.cells #[.int .i64 a0_0,.int .i64 a0_1,.int .i64 a0_2] 44 (0,0)) (bkk BK398)) : gb398 ≠ gb401));have NB401_398:=amk ((by rw [hg];exact Nat.ne_of_gt (blk_lt (g:=gb398) (o:=.cells #[.int .i64 a0_0,.int .i64 a0_1,.int .i64 a0_2] 44 (0,0)) (bkk BK398)) : gb401 ≠ gb398));replace BK398:=amk (blk_below (g:=gb398) (o:=.cells #[.int .i64 a0_0,.int .i64 a0_1,.int .i64 a0_2] 44 (0,0)) (bkk BK398) hb);clear hb hbox hg;have hnb8:=NB401_398.out;have hnc8:=NB398_401.out;have hcz9_0 : w7.cell? ⟨gb401,0,none⟩=some (.int .i64 0):=(blk_cell BK401.out 0).trans rfl;have hcz9_1 : w7.cell? ⟨gb401,1,none⟩=some (.int .i64 0):=(blk_cell BK401.out 1).trans rfl;have hfz9_0:=blk_frozen BK401.out 0;have hfz9_1:=blk_frozen BK401.out 1;have hcz10_0 : w7.cell? ⟨gb398,0,none⟩=some (.int .i64 a0_0):=(blk_cell BK398.out 0).trans rfl;have hcz10_1 : w7.cell? ⟨gb398,1,none⟩=some (.int .i64 a0_1):=(blk_cell BK398.out 1).trans rfl;have hcz10_2 : w7.cell? ⟨gb398,2,none⟩=some (.int .i64 a0_2):=(blk_cell BK398.out 2).trans rfl;have hfz10_0:=blk_frozen BK398.out 0;have hfz10_1:=blk_frozen BK398.out 1;have hfz10_2:=blk_frozen BK398.out 2))
 go_ret
 exact ⟨erw0,bel2 HB GE398.out GE401.out⟩
def impl_OpenSpans_1.f (k : Nat) (a0 : Int) (a1_0 : Int) (a1_1 : Int) (a1_2 : Int) (l2_0 : List (S30)) : Option (Bool):=(impl_Sump_open.f k a1_0 a1_1 a1_2 l2_0 a0).bind fun t402=>(some t402)
theorem impl_OpenSpans_1.mono : ∀ a0 a1 a2 a3 a4 k,LeO (impl_OpenSpans_1.f k a0 a1 a2 a3 a4) (impl_OpenSpans_1.f (k + 1) a0 a1 a2 a3 a4):=by
 intro a0 a1 a2 a3 a4 k
 unfold impl_OpenSpans_1.f
 repeat' first
   | (with_reducible exact impl_Sump_open.mono _ _ _ _ _ _)
   | (with_reducible exact LeO.refl _)
   | (with_reducible exact LeO.none _)
   | (with_reducible refine LeO.ite ?_ ?_)
   | (with_reducible refine LeO.bind ?_ (fun _=>?_))
set_option maxHeartbeats 8000000 in
set_option maxRecDepth 100000 in
theorem impl_OpenSpans_1.calls (k : Nat) (a0 : Int) (gc1_ : Nat) (a1_0 : Int) (a1_1 : Int) (a1_2 : Int) (gc2_ : Nat) (A2_0 : Option Addr) (c2_0 : Nat) (l2_0 : List (S30)) (r : Bool) (w : World) (hk1 : w.heap[gc1_]? = some (.cells #[.int .i64 a1_0,.int .i64 a1_1,.int .i64 a1_2] 44 (0,0))) (hr2_0 : Kd.C k30 w A2_0 l2_0.length l2_0) (hc2_0 : l2_0.length≤c2_0) (hk2 : w.heap[gc2_]? = some (.cells #[.slice A2_0 l2_0.length c2_0] 24 (0,0))) (h : impl_OpenSpans_1.f k a0 a1_0 a1_1 a1_2 l2_0=some r) :
  Calls Try.prog 65 #[.int .i64 a0,.pointer (some ⟨gc1_,0,none⟩),.pointer (some ⟨gc2_,0,none⟩)] w fun e w'=>e = .returned (.bool r)∧Below w.heap.size w w':=by
 have hu44:=Try.underlying44
 have HR2_0:=amk hr2_0
 have HC2_0:=amk hc2_0
 clear hr2_0 hc2_0
 have BK1:=amk hk1
 clear hk1
 have BK2:=amk hk2
 clear hk2
 have HB:=amk (Below.refl w.heap.size w)
 have H : ((impl_Sump_open.f k a1_0 a1_1 a1_2 l2_0 a0).bind fun t402=>(some t402))=some r:=h
 clear h
 replace H:=obs H
 obtain ⟨t402,A40,H⟩:=H
 replace H : (some t402)=some r:=H
 have A4:=amk A40
 clear A40
 obtain rfl:=Option.some.inj H
 have hcz5_0 : w.cell? ⟨gc1_,0,none⟩=some (.int .i64 a1_0):=(blk_cell BK1.out 0).trans rfl
 have hcz5_1 : w.cell? ⟨gc1_,1,none⟩=some (.int .i64 a1_1):=(blk_cell BK1.out 1).trans rfl
 have hcz5_2 : w.cell? ⟨gc1_,2,none⟩=some (.int .i64 a1_2):=(blk_cell BK1.out 2).trans rfl
 have hfz5_0:=blk_frozen BK1.out 0
 have hfz5_1:=blk_frozen BK1.out 1
 have hfz5_2:=blk_frozen BK1.out 2
 have hcz6_0 : w.cell? ⟨gc2_,0,none⟩=some (.slice A2_0 l2_0.length c2_0):=(blk_cell BK2.out 0).trans rfl
 have hfz6_0:=blk_frozen BK2.out 0
 go_enter Try.func65,Try.ntmps65
 go_wp2_with (first | ((with_reducible refine gate_callee (f:=66) rfl ?_);refine goesL_ (some 8) rfl rfl Try.func66 (by kernel_rfl) rfl #[.agg #[.int .i64 a1_0,.int .i64 a1_1,.int .i64 a1_2],.slice A2_0 l2_0.length c2_0,.int .i64 a0] rfl mtt ?_;(with_reducible refine (impl_Sump_open.calls k a1_0 a1_1 a1_2 _ _ l2_0 a0 t402 _ ?side1 ?side2 A4.out).mono ?_);(case side1=>exact ccc HR2_0.out);(case side2=>exact HC2_0.out);rintro e w7 ⟨rfl,hb⟩;refine ⟨_,rfl,?_⟩;replace BK1:=amk (blk_below (g:=gc1_) (o:=.cells #[.int .i64 a1_0,.int .i64 a1_1,.int .i64 a1_2] 44 (0,0)) (bkk BK1) hb);replace BK2:=amk (blk_below (g:=gc2_) (o:=.cells #[.slice A2_0 l2_0.length c2_0] 24 (0,0)) (bkk BK2) hb);replace HB:=amk (below_step (bel HB) hb);(try clear hb)))
 go_ret
 exact ⟨erw0,bel HB⟩
def impl_OpenSpans.j0 : Nat→Bool→List (S30)→Int→Int→Int→Option ((List (List Int)) × Bool)
 | 0,_,_,_,_,_=>none
 | k + 1,x15,x404000,x405000,x405001,x405002=>if x15=true then (some (([] : List (List Int)),false)) else ((impl_hours.f x404000).bind fun bt407=>((impl_spans.f k bt407.1 bt407.2 (fun x_ : Int=>impl_OpenSpans_1.f k x_ x405000 x405001 x405002 x404000)).bind fun t409=>(some (t409,true))))
def impl_OpenSpans.f (k : Nat) (l0 : List (S30)) (a1_0 : Int) (a1_1 : Int) (a1_2 : Int) : Option ((List (List Int)) × Bool):=(impl_AreReadings.f k l0).bind fun t405=>(if t405=true then ((impl_isSump.f a1_0 a1_1 a1_2).bind fun t406=>(impl_OpenSpans.j0 k (!t406) l0 a1_0 a1_1 a1_2)) else (impl_OpenSpans.j0 k true l0 a1_0 a1_1 a1_2))
theorem impl_OpenSpans.mono_l : ∀ k,(∀ y0 y1 y2 y3 y4,LeO (impl_OpenSpans.j0 k y0 y1 y2 y3 y4) (impl_OpenSpans.j0 (k + 1) y0 y1 y2 y3 y4))
 | 0=>fun _ _ _ _ _ r h=>by simp [impl_OpenSpans.j0] at h
 | k + 1=>by
  have ih0:=impl_OpenSpans.mono_l k
  ·intro y0 y1 y2 y3 y4
   unfold impl_OpenSpans.j0
   repeat' first
   | (with_reducible exact ih0 _ _ _ _ _)
   | (with_reducible exact impl_AreReadings.mono _ _)
   | (with_reducible exact impl_OpenSpans_1.mono _ _ _ _ _ _)
   | (with_reducible exact impl_spans.mono _ _ _ _ _ (fun _=>by first | exact LeO.refl _ | exact impl_OpenSpans_1.mono _ _ _ _ _ _))
   | (with_reducible exact LeO.refl _)
   | (with_reducible exact LeO.none _)
   | (with_reducible refine LeO.ite ?_ ?_)
   | (with_reducible refine LeO.bind ?_ (fun _=>?_))
   | exact ih0 _ _ _ _ _
   | exact impl_spans.mono _ _ _ _ _ (fun _=>by first | exact LeO.refl _ | exact impl_OpenSpans_1.mono _ _ _ _ _ _)
theorem impl_OpenSpans.mono : ∀ a0 a1 a2 a3 k,LeO (impl_OpenSpans.f k a0 a1 a2 a3) (impl_OpenSpans.f (k + 1) a0 a1 a2 a3):=by
 intro a0 a1 a2 a3 k
 have ih0:=impl_OpenSpans.mono_l k
 unfold impl_OpenSpans.f
 repeat' first
   | (with_reducible exact ih0 _ _ _ _ _)
   | (with_reducible exact impl_AreReadings.mono _ _)
   | (with_reducible exact impl_OpenSpans_1.mono _ _ _ _ _ _)
   | (with_reducible exact impl_spans.mono _ _ _ _ _ (fun _=>by first | exact LeO.refl _ | exact impl_OpenSpans_1.mono _ _ _ _ _ _))
   | (with_reducible exact LeO.refl _)
   | (with_reducible exact LeO.none _)
   | (with_reducible refine LeO.ite ?_ ?_)
   | (with_reducible refine LeO.bind ?_ (fun _=>?_))
   | exact ih0 _ _ _ _ _
   | exact impl_spans.mono _ _ _ _ _ (fun _=>by first | exact LeO.refl _ | exact impl_OpenSpans_1.mono _ _ _ _ _ _)
set_option maxHeartbeats 8000000 in
set_option maxRecDepth 100000 in
theorem impl_OpenSpans.calls (k : Nat) (A0 : Option Addr) (c0 : Nat) (l0 : List (S30)) (a1_0 : Int) (a1_1 : Int) (a1_2 : Int) (r1 : List (List Int)) (r2 : Bool) (w : World) (hr0 : Kd.C k30 w A0 l0.length l0) (hc0 : l0.length≤c0) (h : impl_OpenSpans.f k l0 a1_0 a1_1 a1_2=some (r1,r2)) :
  Calls Try.prog 21 #[.slice A0 l0.length c0,.agg #[.int .i64 a1_0,.int .i64 a1_1,.int .i64 a1_2]] w fun e w'=>∃ v0_ : Value,e = .returned (.tuple #[v0_,.bool r2])∧Kd.S (Kd.slice 3 (Kd.int .i64)) 63 w' w.heap.size (fun _=>True) v0_ r1∧Below w.heap.size w w':=by
 have hu44:=Try.underlying44
 have HR0:=amk hr0
 have HC0:=amk hc0
 clear hr0 hc0
 have HB:=amk (Below.refl w.heap.size w)
 have H : ((impl_AreReadings.f k l0).bind fun t405=>(if t405=true then ((impl_isSump.f a1_0 a1_1 a1_2).bind fun t406=>(impl_OpenSpans.j0 k (!t406) l0 a1_0 a1_1 a1_2)) else (impl_OpenSpans.j0 k true l0 a1_0 a1_1 a1_2)))=some (r1,r2):=h
 clear h
 have HC3:=amk H
 clear H
 have hmf_ : ∀ (fn_ : Fn) (first_ cap_ : Array Value) (w_ : World),(Instr.makeFunc fn_ first_ cap_).run Try.prog w_ = .ok (.func fn_ first_ cap_) w_:=fun _ _ _ _=>rfl
 go_enter Try.func21,Try.ntmps21
 go_upto_region 1 with (first | ((with_reducible refine gate_dst (N:=2) rfl ?_);refine box_event ?hg (N:=2) ?hd (cs:=#[.slice A0 l0.length c0]) (t:=24) ?hr ?_;(case hd=>rfl);(case hg=>rfl);(case hr=>first | (go_simp;done)|(go_simp;rfl));intro gb403 hg w4 hbox hb;have BK403:=amk (hbox);have GW403:=amk ((by rw [hg];exact (below_size (bel HB)) : w.heap.size≤gb403));have GE403:=amk ((by rw [hg];exact (below_size (bel HB)) : w.heap.size≤gb403));replace HB:=amk (below_step (bel HB) hb);clear hb hbox hg)|((with_reducible refine gate_dst (N:=3) rfl ?_);refine box_event ?hg (N:=3) ?hd (cs:=#[.int .i64 a1_0,.int .i64 a1_1,.int .i64 a1_2]) (t:=44) ?hr ?_;(case hd=>rfl);(case hg=>rfl);(case hr=>first | (go_simp;done)|(go_simp;rfl));intro gb404 hg w5 hbox hb;have BK404:=amk (hbox);have GW404:=amk ((by rw [hg];exact (below_size (bel1 HB GE403.out)) : w.heap.size≤gb404));have GE404:=amk ((by rw [hg];exact (below_size (bel1 HB GE403.out)) : w.heap.size≤gb404));replace HB:=amk (below_step (bel1 HB GE403.out) hb);have NB403_404:=amk ((by rw [hg];exact Nat.ne_of_lt (blk_lt (g:=gb403) (o:=.cells #[.slice A0 l0.length c0] 24 (0,0)) (bkk BK403)) : gb403 ≠ gb404));have NB404_403:=amk ((by rw [hg];exact Nat.ne_of_gt (blk_lt (g:=gb403) (o:=.cells #[.slice A0 l0.length c0] 24 (0,0)) (bkk BK403)) : gb404 ≠ gb403));replace BK403:=amk (blk_below (g:=gb403) (o:=.cells #[.slice A0 l0.length c0] 24 (0,0)) (bkk BK403) hb);clear hb hbox hg))
 (try simp only [Act.put,List.setIfInBounds_toArray,List.set_cons_zero,List.set_cons_succ])
 go_cut [15] (fun v15 wc=>∃ (kq : Nat) (x15_2 : Bool),v15 = .bool x15_2∧Aside0 (impl_OpenSpans.j0 kq x15_2 l0 a1_0 a1_1 a1_2=some (r1,r2))∧Aside0 (kq≤k)∧Aside0 (wc.heap[gb403]? = some (.cells #[(.slice A0 l0.length c0)] 24 (0,0)))∧Aside0 (wc.heap[gb404]? = some (.cells #[.int .i64 a1_0,.int .i64 a1_1,.int .i64 a1_2] 44 (0,0)))∧Aside0 (Below w.heap.size w wc))
 case first=>
  have H:=HC3.out
  clear HC3
  replace H:=obs H
  obtain ⟨t405,A60,H⟩:=H
  replace H : (if t405=true then ((impl_isSump.f a1_0 a1_1 a1_2).bind fun t406=>(impl_OpenSpans.j0 k (!t406) l0 a1_0 a1_1 a1_2)) else (impl_OpenSpans.j0 k true l0 a1_0 a1_1 a1_2))=some (r1,r2):=H
  have A6:=amk A60
  clear A60
  by_cases c7 : t405=true
  ·subst c7
   have H1 : ((impl_isSump.f a1_0 a1_1 a1_2).bind fun t406=>(impl_OpenSpans.j0 k (!t406) l0 a1_0 a1_1 a1_2))=some (r1,r2):=by rw [if_pos rfl] at H;exact H
   clear H
   have H:=H1
   clear H1
   replace H:=obs H
   obtain ⟨t406,A80,H⟩:=H
   replace H : (impl_OpenSpans.j0 k (!t406) l0 a1_0 a1_1 a1_2)=some (r1,r2):=H
   have A8:=amk A80
   clear A80
   have H':=amk H
   clear H
   have hnb9:=NB403_404.out
   have hnc9:=NB404_403.out
   have hcz10_0 : w5.cell? ⟨gb403,0,none⟩=some (.slice A0 l0.length c0):=(blk_cell BK403.out 0).trans rfl
   have hfz10_0:=blk_frozen BK403.out 0
   go_wp2_with (first | ((with_reducible refine gate_callee (f:=15) rfl ?_);refine goesL_ (some 9) rfl rfl Try.func15 (by kernel_rfl) rfl #[.slice A0 l0.length c0] rfl mtt ?_;(with_reducible refine (impl_AreReadings.calls k _ _ l0 true _ ?side1 ?side2 A6.out).mono ?_);(case side1=>exact ccc (Kd.C_below HR0.out HB.out));(case side2=>exact HC0.out);rintro e w11 ⟨rfl,hb⟩;refine ⟨_,rfl,?_⟩;replace BK403:=amk (blk_below (g:=gb403) (o:=.cells #[.slice A0 l0.length c0] 24 (0,0)) (bkk BK403) hb);replace BK404:=amk (blk_below (g:=gb404) (o:=.cells #[.int .i64 a1_0,.int .i64 a1_1,.int .i64 a1_2] 44 (0,0)) (bkk BK404) hb);replace HB:=amk (below_step (bel2 HB GE403.out GE404.out) hb);(try clear hb);have hcz12_0 : w11.cell? ⟨gb404,0,none⟩=some (.int .i64 a1_0):=(blk_cell BK404.out 0).trans rfl;have hcz12_1 : w11.cell? ⟨gb404,1,none⟩=some (.int .i64 a1_1):=(blk_cell BK404.out 1).trans rfl;have hcz12_2 : w11.cell? ⟨gb404,2,none⟩=some (.int .i64 a1_2):=(blk_cell BK404.out 2).trans rfl;have hfz12_0:=blk_frozen BK404.out 0;have hfz12_1:=blk_frozen BK404.out 1;have hfz12_2:=blk_frozen BK404.out 2)|(go_at_call 62;(with_reducible refine (impl_isSump.calls a1_0 a1_1 a1_2 t406 _ A8.out).mono ?_);rintro e w13 ⟨rfl,hb⟩;replace BK403:=amk (blk_below (g:=gb403) (o:=.cells #[.slice A0 l0.length c0] 24 (0,0)) (bkk BK403) hb);replace BK404:=amk (blk_below (g:=gb404) (o:=.cells #[.int .i64 a1_0,.int .i64 a1_1,.int .i64 a1_2] 44 (0,0)) (bkk BK404) hb);replace HB:=amk (below_step (bel2 HB GE403.out GE404.out) hb);(try clear hb)))
   go_meet
   case rel=>exact ⟨_,(!t406),rsd,H',⟨by first | omega | exact Nat.le_refl _⟩,⟨by (with_reducible repeat (first | refine blk_drewN ?_ _ | refine blk_drew ?_ | refine blk_alloc ?_ _));exact BK403.out⟩,⟨by (with_reducible repeat (first | refine blk_drewN ?_ _ | refine blk_drew ?_ | refine blk_alloc ?_ _));exact BK404.out⟩,⟨bel2 HB GE403.out GE404.out⟩⟩
  ·replace c7:=Bool.eq_false_iff.mpr c7
   subst c7
   have H1 : (impl_OpenSpans.j0 k true l0 a1_0 a1_1 a1_2)=some (r1,r2):=by rw [if_neg (show ¬ (false=true) by decide)] at H;exact H
   clear H
   have H:=H1
   clear H1
   have H':=amk H
   clear H
   have hnb14:=NB403_404.out
   have hnc14:=NB404_403.out
   have hcz15_0 : w5.cell? ⟨gb403,0,none⟩=some (.slice A0 l0.length c0):=(blk_cell BK403.out 0).trans rfl
   have hfz15_0:=blk_frozen BK403.out 0
   go_wp2_with (first | ((with_reducible refine gate_callee (f:=15) rfl ?_);refine goesL_ (some 9) rfl rfl Try.func15 (by kernel_rfl) rfl #[.slice A0 l0.length c0] rfl mtt ?_;(with_reducible refine (impl_AreReadings.calls k _ _ l0 false _ ?side1 ?side2 A6.out).mono ?_);(case side1=>exact ccc (Kd.C_below HR0.out HB.out));(case side2=>exact HC0.out);rintro e w16 ⟨rfl,hb⟩;refine ⟨_,rfl,?_⟩;replace BK403:=amk (blk_below (g:=gb403) (o:=.cells #[.slice A0 l0.length c0] 24 (0,0)) (bkk BK403) hb);replace BK404:=amk (blk_below (g:=gb404) (o:=.cells #[.int .i64 a1_0,.int .i64 a1_1,.int .i64 a1_2] 44 (0,0)) (bkk BK404) hb);replace HB:=amk (below_step (bel2 HB GE403.out GE404.out) hb);(try clear hb)))
   go_meet
   case rel=>exact ⟨_,(true),rsd,H',⟨by first | omega | exact Nat.le_refl _⟩,⟨by (with_reducible repeat (first | refine blk_drewN ?_ _ | refine blk_drew ?_ | refine blk_alloc ?_ _));exact BK403.out⟩,⟨by (with_reducible repeat (first | refine blk_drewN ?_ _ | refine blk_drew ?_ | refine blk_alloc ?_ _));exact BK404.out⟩,⟨bel2 HB GE403.out GE404.out⟩⟩
 case rest=>
  clear HC3
  try clear c1
  try clear c2
  try clear p2
  try clear c7
  try clear c9
  try clear c14
  try clear c15
  try clear hcz10_0
  try clear hcz12_0
  try clear hcz12_1
  try clear hcz12_2
  try clear hcz15_0
  try clear hfz10_0
  try clear hfz12_0
  try clear hfz12_1
  try clear hfz12_2
  try clear hfz15_0
  obtain ⟨kq,x15_2,rfl,HA,HJ2,BK403,BK404,HB⟩:=hcut
  cases kq with
  | zero=>exact absurd HA.out (by simp [impl_OpenSpans.j0])
  | succ kj2=>
   have H:=HA.out
   clear HA
   simp only [impl_OpenSpans.j0] at H
   by_cases c17 : x15_2=true
   ·subst c17
    have H1 : (some (([] : List (List Int)),false))=some (r1,r2):=by rw [if_pos rfl] at H;exact H
    clear H
    have H:=H1
    clear H1
    simp only [Option.some.injEq,Prod.mk.injEq] at H
    obtain ⟨rfl,rfl⟩:=H
    go_wp2
    go_ret2
    exact ⟨_,erw0,by first | exact Kd.S_nil _ _ _ _ _ | exact Kd.N_nil _ _ _ _ _ | exact Kd.V_nil _ _ _ _ _ | exact Kd.Q_nil _ _ _ _ _ | exact Kd.R_nil _ _ _ _ _,bel2 HB GE403.out GE404.out⟩
   ·replace c17:=Bool.eq_false_iff.mpr c17
    subst c17
    have H1 : ((impl_hours.f l0).bind fun bt407=>((impl_spans.f kj2 bt407.1 bt407.2 (fun x_ : Int=>impl_OpenSpans_1.f kj2 x_ a1_0 a1_1 a1_2 l0)).bind fun t409=>(some (t409,true))))=some (r1,r2):=by rw [if_neg (show ¬ (false=true) by decide)] at H;exact H
    clear H
    have H:=H1
    clear H1
    replace H:=obs H
    obtain ⟨⟨t407,t408⟩,A180,H⟩:=H
    replace H : ((impl_spans.f kj2 t407 t408 (fun x_ : Int=>impl_OpenSpans_1.f kj2 x_ a1_0 a1_1 a1_2 l0)).bind fun t409=>(some (t409,true)))=some (r1,r2):=H
    have A18:=amk A180
    clear A180
    replace H:=obs H
    obtain ⟨t409,A190,H⟩:=H
    replace H : (some (t409,true))=some (r1,r2):=H
    have A19:=amk A190
    clear A190
    simp only [Option.some.injEq,Prod.mk.injEq] at H
    obtain ⟨rfl,rfl⟩:=H
    have hnb20:=NB403_404.out
    have hnc20:=NB404_403.out
    have hcz21_0 : wc.cell? ⟨gb403,0,none⟩=some (.slice A0 l0.length c0):=(blk_cell BK403.out 0).trans rfl
    have hfz21_0:=blk_frozen BK403.out 0
    go_wp2_with (first | ((with_reducible refine gate_callee (f:=63) rfl ?_);refine goesL_ (some 18) rfl rfl Try.func63 (by kernel_rfl) rfl #[.slice A0 l0.length c0] rfl mtt ?_;(with_reducible refine (impl_hours.calls _ _ l0 t407 t408 _ ?side1 ?side2 A18.out).mono ?_);(case side1=>exact ccc (Kd.C_below HR0.out HB.out));(case side2=>exact HC0.out);rintro e w' ⟨rfl,⟨nd,rfl⟩⟩;refine ⟨_,rfl,?_⟩)|((with_reducible refine gate_callee (f:=64) rfl ?_);refine goesL_ (some 24) rfl rfl Try.func64 (by kernel_rfl) rfl #[.int .i64 t407,.int .i64 t408,.func (.func 65) #[] #[.pointer (some ⟨gb404,0,none⟩),.pointer (some ⟨gb403,0,none⟩)]] rfl mtt ?_;(with_reducible refine (impl_spans.calls kj2 t407 t408 65 #[.pointer (some ⟨gb404,0,none⟩),.pointer (some ⟨gb403,0,none⟩)] (fun x_ : Int=>impl_OpenSpans_1.f kj2 x_ a1_0 a1_1 a1_2 l0) t409 _ ?side1 ?side2 A19.out).mono ?_);(case side1=>exact enters_fn Try.func65 (by kernel_rfl) rfl);(case side2=>intro W_ x_ b_ hx_ hW_;exact (impl_OpenSpans_1.calls kj2 x_ gb404 a1_0 a1_1 a1_2 gb403 _ _ l0 b_ W_ (blk_below (bkk BK404) hW_) (Kd.C_below (show Kd.C k30 _ _ _ l0 from by repeat (first | exact (Kd.C_below HR0.out (bel2 HB GE403.out GE404.out))|(with_reducible refine Kd.C_alloc ?_ _)|(with_reducible refine Kd.C_drewN ?_ _)|(with_reducible refine Kd.C_drew ?_))) hW_) (by exact HC0.out) (blk_below (bkk BK403) hW_) hx_).mono (fun _ _ h_=>⟨h_.1,h_.2⟩));rintro e w22 ⟨v410,rfl,ho0,hb⟩;refine ⟨_,rfl,?_⟩;have HO411:=amk (Kd.S_lower ho0 (below_size (bel2 HB GE403.out GE404.out)));replace BK403:=amk (blk_below (g:=gb403) (o:=.cells #[.slice A0 l0.length c0] 24 (0,0)) (bkk BK403) hb);replace BK404:=amk (blk_below (g:=gb404) (o:=.cells #[.int .i64 a1_0,.int .i64 a1_1,.int .i64 a1_2] 44 (0,0)) (bkk BK404) hb);replace HB:=amk (below_step (bel2 HB GE403.out GE404.out) hb);(try clear hb ho0)))
    go_ret2
    exact ⟨_,erw0,sss HO411,bel2 HB GE403.out GE404.out⟩
mutual
def spec_l23Sumps.l0 : Nat→List (S44)→Int→Option (Bool)
 | 0,_,_=>none
 | k + 1,x0,x3=>if x3 < (x0.length : Int) then (if 0≤x3 then ((spec_l23Sump.f ((rd_T44 x0 x3).f0) ((rd_T44 x0 x3).f1) ((rd_T44 x0 x3).f2)).bind fun t460=>(if t460=true then (if x3 > 0 then (if 0≤(wrap64 (x3 - 1)) then (if (wrap64 (x3 - 1)) < (x0.length : Int) then (spec_l23Sumps.j1 k x0 x3 (decide (((rd_T44 x0 (wrap64 (x3 - 1))).f0) ≥ ((rd_T44 x0 x3).f0)))) else (none)) else (none)) else (spec_l23Sumps.j1 k x0 x3 false)) else (spec_l23Sumps.j1 k x0 x3 true))) else (none)) else (some true)
def spec_l23Sumps.j1 : Nat→List (S44)→Int→Bool→Option (Bool)
 | 0,_,_,_=>none
 | k + 1,x0,x3,x33=>if x33=true then (some false) else (spec_l23Sumps.l0 k x0 (wrap64 (x3 + 1)))
end
def spec_l23Sumps.f (k : Nat) (l0 : List (S44)) : Option (Bool):=spec_l23Sumps.l0 k l0 0
theorem spec_l23Sumps.mono_l : ∀ k,(∀ y0 y1,LeO (spec_l23Sumps.l0 k y0 y1) (spec_l23Sumps.l0 (k + 1) y0 y1))∧(∀ y0 y1 y2,LeO (spec_l23Sumps.j1 k y0 y1 y2) (spec_l23Sumps.j1 (k + 1) y0 y1 y2))
 | 0=>⟨fun _ _ r h=>by simp [spec_l23Sumps.l0] at h,fun _ _ _ r h=>by simp [spec_l23Sumps.j1] at h⟩
 | k + 1=>by
  obtain ⟨ih0,ih1⟩:=spec_l23Sumps.mono_l k
  refine ⟨?_,?_⟩
  ·intro y0 y1
   unfold spec_l23Sumps.l0
   repeat' first
   | (with_reducible exact ih0 _ _)
   | (with_reducible exact ih1 _ _ _)
   | (with_reducible exact LeO.refl _)
   | (with_reducible exact LeO.none _)
   | (with_reducible refine LeO.ite ?_ ?_)
   | (with_reducible refine LeO.bind ?_ (fun _=>?_))
   | exact ih0 _ _
   | exact ih1 _ _ _
  ·intro y0 y1 y2
   unfold spec_l23Sumps.j1
   repeat' first
   | (with_reducible exact ih0 _ _)
   | (with_reducible exact ih1 _ _ _)
   | (with_reducible exact LeO.refl _)
   | (with_reducible exact LeO.none _)
   | (with_reducible refine LeO.ite ?_ ?_)
   | (with_reducible refine LeO.bind ?_ (fun _=>?_))
   | exact ih0 _ _
   | exact ih1 _ _ _
theorem spec_l23Sumps.mono : ∀ a0 k,LeO (spec_l23Sumps.f k a0) (spec_l23Sumps.f (k + 1) a0):=by
 intro a0 k
 obtain ⟨ih0,ih1⟩:=spec_l23Sumps.mono_l k
 unfold spec_l23Sumps.f
 repeat' first
   | (with_reducible exact ih0 _ _)
   | (with_reducible exact ih1 _ _ _)
   | (with_reducible exact LeO.refl _)
   | (with_reducible exact LeO.none _)
   | (with_reducible refine LeO.ite ?_ ?_)
   | (with_reducible refine LeO.bind ?_ (fun _=>?_))
   | exact ih0 _ _
   | exact ih1 _ _ _
def spec_l23Sumps.T4 : Bool × List (List Nat × List Nat):=(true,[([],[]),([],[]),([0,1],[0,1]),([2],[2]),([3],[3]),([4],[4]),([5,4],[5]),([6],[6]),([7,6],[6,7]),([8,6,6],[6,8]),([9],[9]),([9],[9]),([11,9],[9,11]),([10,12,9],[9,10,12]),([13,9],[9,13]),([14,9],[9,14]),([9],[9]),([9],[9]),([16,17,9],[9,16,17]),([18,9],[9,18]),([19,9],[9,19]),([15,20,9],[9,15,20]),([9,21,6],[6,9,21]),([6,22],[6,22])])
def spec_l23Sumps.B4 : List Nat:=[0,0,3,7,15,31,63,127,255,511,1023,1023,3071,8191,16383,32767,1023,1023,197631,459775,984063,2097151,4194303,8388607]
theorem spec_l23Sumps.tab4 : rtab .any (opsOf Try.f71 4)=spec_l23Sumps.T4:=by kernel_rfl
theorem spec_l23Sumps.bits4 : waitsOk spec_l23Sumps.T4.2 spec_l23Sumps.B4=true:=by kernel_rfl
set_option maxHeartbeats 8000000 in
set_option maxRecDepth 100000 in
theorem spec_l23Sumps.calls (k : Nat) (A0 : Option Addr) (c0 : Nat) (l0 : List (S44)) (r : Bool) (w : World) (hr0 : Kd.C k44 w A0 l0.length l0) (hc0 : l0.length≤c0) (h : spec_l23Sumps.f k l0=some r) :
  Calls Try.prog 71 #[.slice A0 l0.length c0] w fun e w'=>e = .returned (.bool r)∧Below w.heap.size w w':=by
 have hu44:=Try.underlying44
 have HR0:=amk hr0
 have HC0:=amk hc0
 clear hr0 hc0
 have HB:=amk (Below.refl w.heap.size w)
 have H : (spec_l23Sumps.l0 k l0 0)=some r:=h
 clear h
 have H':=amk H
 clear H
 go_enter Try.func71,Try.ntmps71
 go_wp2
 go_loopg [3] k (fun kq v3 w'=>∃ (x3_1 : Int),v3 = .int .i64 x3_1∧Aside0 (spec_l23Sumps.l0 kq l0 x3_1=some r)∧Aside0 (kq≤k)∧Aside0 (Below w.heap.size w w'))
 case atStart=>exact ⟨(0),rsd,H',⟨Nat.le_refl _⟩,⟨bel HB⟩⟩
 case round=>
  clear H'
  obtain ⟨x3_1,rfl,HA,HK1,HB⟩:=hrel
  cases gk with
  | zero=>exact absurd HA.out (by simp [spec_l23Sumps.l0])
  | succ k1=>
   have H:=HA.out
   clear HA
   simp only [spec_l23Sumps.l0] at H
   by_cases c2 : x3_1 < (l0.length : Int)
   ·rw [if_pos c2] at H
    have c2b0 : decide (x3_1 < (l0.length : Int))=true:=decide_eq_true c2
    clear c2
    have HC3:=amk H
    clear H
    go_upto_region 4 with (fail)
    go_cut [33] (fun v33 wc=>∃ (kq : Nat) (x33_2 : Bool),v33 = .bool x33_2∧Aside0 (spec_l23Sumps.j1 kq l0 x3_1 x33_2=some r)∧Aside0 (kq≤k1)∧Aside0 (Below w.heap.size w wc))
    case first=>
     have H:=HC3.out
     clear HC3
     by_cases c4 : 0≤x3_1
     ·rw [if_pos c4] at H
      have c4b0 : decide (0≤x3_1)=true:=decide_eq_true c4
      clear c4
      (first | rw [c4b0] | (simp only [i64_w,i32_w];rw [c4b0]) | skip)
      replace H:=obs H
      obtain ⟨t460,A50,H⟩:=H
      replace H : (if t460=true then (if x3_1 > 0 then (if 0≤(wrap64 (x3_1 - 1)) then (if (wrap64 (x3_1 - 1)) < (l0.length : Int) then (spec_l23Sumps.j1 k1 l0 x3_1 (decide (((rd_T44 l0 (wrap64 (x3_1 - 1))).f0) ≥ ((rd_T44 l0 x3_1).f0)))) else (none)) else (none)) else (spec_l23Sumps.j1 k1 l0 x3_1 false)) else (spec_l23Sumps.j1 k1 l0 x3_1 true))=some r:=H
      have A5:=amk A50
      clear A50
      by_cases c6 : t460=true
      ·subst c6
       have H1 : (if x3_1 > 0 then (if 0≤(wrap64 (x3_1 - 1)) then (if (wrap64 (x3_1 - 1)) < (l0.length : Int) then (spec_l23Sumps.j1 k1 l0 x3_1 (decide (((rd_T44 l0 (wrap64 (x3_1 - 1))).f0) ≥ ((rd_T44 l0 x3_1).f0)))) else (none)) else (none)) else (spec_l23Sumps.j1 k1 l0 x3_1 false))=some r:=by rw [if_pos rfl] at H;exact H
       clear H
       have H:=H1
       clear H1
       by_cases c7 : x3_1 > 0
       ·rw [if_pos c7] at H
        have c7b0 : decide (0 < x3_1)=true:=decide_eq_true c7
        clear c7
        obtain ⟨ji8,hji8⟩ : ∃ j_ : Int,(wrap64 (x3_1 - 1))=j_:=⟨_,rfl⟩
        replace H : (if 0≤(ji8) then (if (ji8) < (l0.length : Int) then (spec_l23Sumps.j1 k1 l0 x3_1 (decide (((rd_T44 l0 (ji8)).f0) ≥ ((rd_T44 l0 x3_1).f0)))) else (none)) else (none))=some r:=by first | (rw [hji8] at H;exact H)|(simp only [hji8] at H ⊢;exact H)
        (try rw [hji8] at A5)
        have hji8w : (IntKind.i64.wrap (x3_1 - 1))=ji8:=(i64_w _).trans hji8
        by_cases c9 : 0≤(ji8)
        ·rw [if_pos c9] at H
         have c9b0 : decide (0≤(ji8))=true:=decide_eq_true c9
         clear c9
         by_cases c10 : (ji8) < (l0.length : Int)
         ·rw [if_pos c10] at H
          have c10b0 : decide ((ji8) < (l0.length : Int))=true:=decide_eq_true c10
          clear c10
          have H':=amk H
          clear H
          try go_wp2
          have n0_:=amk (below_drew1 HB.out)
          clear HB
          have HB:=n0_
          clear n0_
          have p459 : 0≤(x3_1 : Int):=of_decide_eq_true ass
          have q459 : x3_1 < (l0.length : Int):=of_decide_eq_true ass
          obtain ⟨ad459,e459,hx459_0,hx459_1,hx459_2⟩:=at_T44 HR0.out x3_1 p459 q459
          have hw459_2:=hx459_2
          have hw459_1:=hx459_1
          have hw459_0:=hx459_0
          cases e459
          replace hx459_0:=(HB.out.cell (World.block_lt_of_cell? w _ hx459_0)).trans hx459_0
          replace hx459_1:=(HB.out.cell (World.block_lt_of_cell? w _ hx459_1)).trans hx459_1
          replace hx459_2:=(HB.out.cell (World.block_lt_of_cell? w _ hx459_2)).trans hx459_2
          replace p459:=eq_true p459
          replace q459:=eq_true q459
          have p461 : 0≤((ji8) : Int):=of_decide_eq_true ass
          have q461 : (ji8) < (l0.length : Int):=of_decide_eq_true ass
          obtain ⟨ad461,e461,hx461_0,hx461_1,hx461_2⟩:=at_T44 HR0.out (ji8) p461 q461
          have hw461_2:=hx461_2
          have hw461_1:=hx461_1
          have hw461_0:=hx461_0
          obtain rfl : ad459=ad461:=(by injection e461)
          replace hx461_0:=(HB.out.cell (World.block_lt_of_cell? w _ hx461_0)).trans hx461_0
          replace hx461_1:=(HB.out.cell (World.block_lt_of_cell? w _ hx461_1)).trans hx461_1
          replace hx461_2:=(HB.out.cell (World.block_lt_of_cell? w _ hx461_2)).trans hx461_2
          replace p461:=eq_true p461
          replace q461:=eq_true q461
          have p462 : 0≤(x3_1 : Int):=of_decide_eq_true ass
          have q462 : x3_1 < (l0.length : Int):=of_decide_eq_true ass
          obtain ⟨ad462,e462,hx462_0,hx462_1,hx462_2⟩:=at_T44 HR0.out x3_1 p462 q462
          have hw462_2:=hx462_2
          have hw462_1:=hx462_1
          have hw462_0:=hx462_0
          obtain rfl : ad459=ad462:=(by injection e462)
          replace hx462_0:=(HB.out.cell (World.block_lt_of_cell? w _ hx462_0)).trans hx462_0
          replace hx462_1:=(HB.out.cell (World.block_lt_of_cell? w _ hx462_1)).trans hx462_1
          replace hx462_2:=(HB.out.cell (World.block_lt_of_cell? w _ hx462_2)).trans hx462_2
          replace p462:=eq_true p462
          replace q462:=eq_true q462
          refine start_ (n:=24) (S:=fun w'=>w'.cell? (ad459.add ((x3_1).toNat * 3))=some (.int .i64 ((rd_T44 l0 x3_1).f0))∧w'.cell? ⟨(ad459.add ((x3_1).toNat * 3)).block,(ad459.add ((x3_1).toNat * 3)).off + 1,none⟩=some (.int .i64 ((rd_T44 l0 x3_1).f1))∧w'.cell? ⟨(ad459.add ((x3_1).toNat * 3)).block,(ad459.add ((x3_1).toNat * 3)).off + 2,none⟩=some (.int .i64 ((rd_T44 l0 x3_1).f2))∧w'.cell? (ad459.add (((ji8)).toNat * 3))=some (.int .i64 ((rd_T44 l0 (ji8)).f0))∧w'.cell? ⟨(ad459.add (((ji8)).toNat * 3)).block,(ad459.add (((ji8)).toNat * 3)).off + 1,none⟩=some (.int .i64 ((rd_T44 l0 (ji8)).f1))∧w'.cell? ⟨(ad459.add (((ji8)).toNat * 3)).block,(ad459.add (((ji8)).toNat * 3)).off + 2,none⟩=some (.int .i64 ((rd_T44 l0 (ji8)).f2))∧w'.cell? (ad459.add ((x3_1).toNat * 3))=some (.int .i64 ((rd_T44 l0 x3_1).f0))∧w'.cell? ⟨(ad459.add ((x3_1).toNat * 3)).block,(ad459.add ((x3_1).toNat * 3)).off + 1,none⟩=some (.int .i64 ((rd_T44 l0 x3_1).f1))∧w'.cell? ⟨(ad459.add ((x3_1).toNat * 3)).block,(ad459.add ((x3_1).toNat * 3)).off + 2,none⟩=some (.int .i64 ((rd_T44 l0 x3_1).f2))) (ds:=[]) #[F0,F0,F0,F0,F0,F0,F0,F0,F0,F0,F0,F0,F0,F0,F0,F0,F0,F0,F0,F0,F0,F0,F0,F0] (by kernel_rfl) rfl rfl ⟨((HB.out.cell (World.block_lt_of_cell? w _ hw459_0)).trans hw459_0),((HB.out.cell (World.block_lt_of_cell? w _ hw459_1)).trans hw459_1),((HB.out.cell (World.block_lt_of_cell? w _ hw459_2)).trans hw459_2),((HB.out.cell (World.block_lt_of_cell? w _ hw461_0)).trans hw461_0),((HB.out.cell (World.block_lt_of_cell? w _ hw461_1)).trans hw461_1),((HB.out.cell (World.block_lt_of_cell? w _ hw461_2)).trans hw461_2),((HB.out.cell (World.block_lt_of_cell? w _ hw462_0)).trans hw462_0),((HB.out.cell (World.block_lt_of_cell? w _ hw462_1)).trans hw462_1),((HB.out.cell (World.block_lt_of_cell? w _ hw462_2)).trans hw462_2)⟩ (fun hHeld=>?_);refine with_tabW spec_l23Sumps.tab4 spec_l23Sumps.bits4 (fun HT_ HW_=>?_)
          generalize wr.drew=w11 at HB hx459_0 hx459_1 hx459_2 hx461_0 hx461_1 hx461_2 hx462_0 hx462_1 hx462_2 hHeld ⊢
          refine pure_ (i:=0) (N:=some 10) (v:=?_) (a':=?_) #[T0,F0,F0,F0,F0,F0,F0,F0,F0,F0,F0,F0,F0,F0,F0,F0,F0,F0,F0,F0,F0,F0,F0,F0] rfl rfl (any_of HT_.out (by kernel_rfl)) (fun _ _ _ h=>h) (Or.inl ⟨by rfl,?_⟩) ?_ ?_
          rotate_left
          ·intro w'
           go_simp
           with_reducible rfl
          rotate_left
          ·simp only [Act.put,sI,sZ,sS,i64_w,i32_w]
           rfl
          refine pure_ (i:=1) (N:=some 11) (v:=?_) (a':=?_) #[T0,T0,F0,F0,F0,F0,F0,F0,F0,F0,F0,F0,F0,F0,F0,F0,F0,F0,F0,F0,F0,F0,F0,F0] rfl rfl (any_of HT_.out (by kernel_rfl)) (fun _ _ _ h=>h) (Or.inl ⟨by rfl,?_⟩) ?_ ?_
          rotate_left
          ·intro w'
           go_simp
           with_reducible rfl
          rotate_left
          ·simp only [Act.put,sI,sZ,sS,i64_w,i32_w]
           rfl
          refine pure_ (i:=2) (N:=some 12) (v:=?_) (a':=?_) #[T0,T0,T0,F0,F0,F0,F0,F0,F0,F0,F0,F0,F0,F0,F0,F0,F0,F0,F0,F0,F0,F0,F0,F0] rfl rfl (any_of HT_.out (by kernel_rfl)) (fun _ _ _ h=>h) (Or.inl ⟨by rfl,?_⟩) ?_ ?_
          rotate_left
          ·intro w'
           go_simp
           with_reducible rfl
          rotate_left
          ·simp only [Act.put,sI,sZ,sS,i64_w,i32_w]
           rfl
          refine take_ (i:=3) (N:=some 13) (v:=?_) (a':=?_) #[T0,T0,T0,T0,F0,F0,F0,F0,F0,F0,F0,F0,F0,F0,F0,F0,F0,F0,F0,F0,F0,F0,F0,F0] rfl rfl (take_ofW HT_.out HW_.out (by kernel_rfl)) (fun _ _ _ h=>h) (Or.inl ⟨by rfl,?_⟩) hHeld ?_ ?_
          rotate_left
          ·rintro w' ⟨s0,s1,s2,s3,s4,s5,s6,s7,s8⟩
           go_simp
           with_reducible rfl
          rotate_left
          ·simp only [Act.put,sI,sZ,sS,i64_w,i32_w]
           rfl
          refine one_ (i:=4) (N:=some 14) #[T0,T0,T0,T0,T0,F0,F0,F0,F0,F0,F0,F0,F0,F0,F0,F0,F0,F0,F0,F0,F0,F0,F0,F0] rfl rfl (one_of HT_.out (by kernel_rfl)) (by decide) (fun K hK=>?_)
          refine goes_ Try.func59 (by kernel_rfl) rfl #[.agg #[.int .i64 ((rd_T44 l0 x3_1).f0),.int .i64 ((rd_T44 l0 x3_1).f1),.int .i64 ((rd_T44 l0 x3_1).f2)]] (by rfl) rfl rfl mtt ?_
          with_reducible refine (spec_l23Sump.calls ((rd_T44 l0 x3_1).f0) ((rd_T44 l0 x3_1).f1) ((rd_T44 l0 x3_1).f2) true _ A5.out).mono ?_
          rintro e w12 ⟨rfl,hb⟩
          refine ⟨_,rfl,?_⟩
          have n0_:=amk (below_step (bel HB) hb)
          clear HB
          have HB:=n0_
          clear n0_
          (try clear hb)
          (try clear hb2)
          (try clear hk)
          (try clear hi)
          refine hK.out _ _ ⟨((HB.out.cell (World.block_lt_of_cell? w _ hw459_0)).trans hw459_0),((HB.out.cell (World.block_lt_of_cell? w _ hw459_1)).trans hw459_1),((HB.out.cell (World.block_lt_of_cell? w _ hw459_2)).trans hw459_2),((HB.out.cell (World.block_lt_of_cell? w _ hw461_0)).trans hw461_0),((HB.out.cell (World.block_lt_of_cell? w _ hw461_1)).trans hw461_1),((HB.out.cell (World.block_lt_of_cell? w _ hw461_2)).trans hw461_2),((HB.out.cell (World.block_lt_of_cell? w _ hw462_0)).trans hw462_0),((HB.out.cell (World.block_lt_of_cell? w _ hw462_1)).trans hw462_1),((HB.out.cell (World.block_lt_of_cell? w _ hw462_2)).trans hw462_2)⟩ (fun hHeld=>?_)
          clear hK K
          refine norm_ (a':=?_) ?_ ?_
          rotate_left
          ·show Act.put _ (some 14) _=_
           simp only [Act.put,sI,sZ,sS,i64_w,i32_w]
           rfl
          refine pure_ (i:=5) (N:=some 15) (v:=?_) (a':=?_) #[T0,T0,T0,T0,T0,T0,F0,F0,F0,F0,F0,F0,F0,F0,F0,F0,F0,F0,F0,F0,F0,F0,F0,F0] rfl rfl (any_of HT_.out (by kernel_rfl)) (fun _ _ _ h=>h) (Or.inl ⟨by rfl,?_⟩) ?_ ?_
          rotate_left
          ·intro w'
           go_simp
           with_reducible rfl
          rotate_left
          ·simp only [Act.put,sI,sZ,sS,i64_w,i32_w]
           rfl
          refine pure_ (i:=6) (N:=some 16) (v:=?_) (a':=?_) #[T0,T0,T0,T0,T0,T0,T0,F0,F0,F0,F0,F0,F0,F0,F0,F0,F0,F0,F0,F0,F0,F0,F0,F0] rfl rfl (any_of HT_.out (by kernel_rfl)) (fun _ _ _ h=>h) (Or.inl ⟨by rfl,?_⟩) ?_ ?_
          rotate_left
          ·intro w'
           go_simp
           with_reducible rfl
          rotate_left
          ·simp only [Act.put,sI,sZ,sS,i64_w,i32_w]
           rfl
          refine pure_ (i:=7) (N:=some 17) (v:=?_) (a':=?_) #[T0,T0,T0,T0,T0,T0,T0,T0,F0,F0,F0,F0,F0,F0,F0,F0,F0,F0,F0,F0,F0,F0,F0,F0] rfl rfl (any_of HT_.out (by kernel_rfl)) (fun _ _ _ h=>h) (Or.inl ⟨by rfl,?_⟩) ?_ ?_
          rotate_left
          ·intro w'
           go_simp
           with_reducible rfl
          rotate_left
          ·simp only [Act.put,sI,sZ,sS,i64_w,i32_w]
           rfl
          refine pure_ (i:=8) (N:=some 18) (v:=?_) (a':=?_) #[T0,T0,T0,T0,T0,T0,T0,T0,T0,F0,F0,F0,F0,F0,F0,F0,F0,F0,F0,F0,F0,F0,F0,F0] rfl rfl (any_of HT_.out (by kernel_rfl)) (fun _ _ _ h=>h) (Or.inl ⟨by rfl,?_⟩) ?_ ?_
          rotate_left
          ·intro w'
           go_simp
           with_reducible rfl
          rotate_left
          ·simp only [Act.put,sI,sZ,sS,i64_w,i32_w]
           rfl
          refine pure_ (i:=9) (N:=some 19) (v:=?_) (a':=?_) #[T0,T0,T0,T0,T0,T0,T0,T0,T0,T0,F0,F0,F0,F0,F0,F0,F0,F0,F0,F0,F0,F0,F0,F0] rfl rfl (any_of HT_.out (by kernel_rfl)) (fun _ _ _ h=>h) (Or.inl ⟨by rfl,?_⟩) ?_ ?_
          rotate_left
          ·intro w'
           go_simp
           with_reducible rfl
          rotate_left
          ·simp only [Act.put,sI,sZ,sS,i64_w,i32_w]
           rfl
          refine pure_ (i:=10) (N:=some 20) (v:=?_) (a':=?_) #[T0,T0,T0,T0,T0,T0,T0,T0,T0,T0,T0,F0,F0,F0,F0,F0,F0,F0,F0,F0,F0,F0,F0,F0] rfl rfl (any_of HT_.out (by kernel_rfl)) (fun _ _ _ h=>h) (Or.inl ⟨by rfl,?_⟩) ?_ ?_
          rotate_left
          ·intro w'
           go_simp
           with_reducible rfl
          rotate_left
          ·simp only [Act.put,sI,sZ,sS,i64_w,i32_w]
           rfl
          refine pure_ (i:=11) (N:=some 21) (v:=?_) (a':=?_) #[T0,T0,T0,T0,T0,T0,T0,T0,T0,T0,T0,T0,F0,F0,F0,F0,F0,F0,F0,F0,F0,F0,F0,F0] rfl rfl (any_of HT_.out (by kernel_rfl)) (fun _ _ _ h=>h) (Or.inl ⟨by rfl,?_⟩) ?_ ?_
          rotate_left
          ·intro w'
           go_simp
           with_reducible rfl
          rotate_left
          ·simp only [Act.put,sI,sZ,sS,i64_w,i32_w]
           rfl
          refine pure_ (i:=12) (N:=some 22) (v:=?_) (a':=?_) #[T0,T0,T0,T0,T0,T0,T0,T0,T0,T0,T0,T0,T0,F0,F0,F0,F0,F0,F0,F0,F0,F0,F0,F0] rfl rfl (any_of HT_.out (by kernel_rfl)) (fun _ _ _ h=>h) (Or.inl ⟨by rfl,?_⟩) ?_ ?_
          rotate_left
          ·intro w'
           go_simp
           with_reducible rfl
          rotate_left
          ·simp only [Act.put,sI,sZ,sS,i64_w,i32_w]
           rfl
          refine pure_ (i:=13) (N:=some 23) (v:=?_) (a':=?_) #[T0,T0,T0,T0,T0,T0,T0,T0,T0,T0,T0,T0,T0,T0,F0,F0,F0,F0,F0,F0,F0,F0,F0,F0] rfl rfl (any_of HT_.out (by kernel_rfl)) (fun _ _ _ h=>h) (Or.inl ⟨by rfl,?_⟩) ?_ ?_
          rotate_left
          ·intro w'
           go_simp
           with_reducible rfl
          rotate_left
          ·simp only [Act.put,sI,sZ,sS,i64_w,i32_w]
           rfl
          refine pure_ (i:=14) (N:=some 24) (v:=?_) (a':=?_) #[T0,T0,T0,T0,T0,T0,T0,T0,T0,T0,T0,T0,T0,T0,T0,F0,F0,F0,F0,F0,F0,F0,F0,F0] rfl rfl (any_of HT_.out (by kernel_rfl)) (fun _ _ _ h=>h) (Or.inl ⟨by rfl,?_⟩) ?_ ?_
          rotate_left
          ·intro w'
           go_simp
           with_reducible rfl
          rotate_left
          ·simp only [Act.put,sI,sZ,sS,i64_w,i32_w]
           rfl
          refine pure_ (i:=16) (N:=some 26) (v:=?_) (a':=?_) #[T0,T0,T0,T0,T0,T0,T0,T0,T0,T0,T0,T0,T0,T0,T0,F0,T0,F0,F0,F0,F0,F0,F0,F0] rfl rfl (any_of HT_.out (by kernel_rfl)) (fun _ _ _ h=>h) (Or.inl ⟨by rfl,?_⟩) ?_ ?_
          rotate_left
          ·intro w'
           go_simp
           with_reducible rfl
          rotate_left
          ·simp only [Act.put,sI,sZ,sS,i64_w,i32_w]
           rfl
          refine pure_ (i:=17) (N:=some 27) (v:=?_) (a':=?_) #[T0,T0,T0,T0,T0,T0,T0,T0,T0,T0,T0,T0,T0,T0,T0,F0,T0,T0,F0,F0,F0,F0,F0,F0] rfl rfl (any_of HT_.out (by kernel_rfl)) (fun _ _ _ h=>h) (Or.inl ⟨by rfl,?_⟩) ?_ ?_
          rotate_left
          ·intro w'
           go_simp
           with_reducible rfl
          rotate_left
          ·simp only [Act.put,sI,sZ,sS,i64_w,i32_w]
           rfl
          refine pure_ (i:=18) (N:=some 28) (v:=?_) (a':=?_) #[T0,T0,T0,T0,T0,T0,T0,T0,T0,T0,T0,T0,T0,T0,T0,F0,T0,T0,T0,F0,F0,F0,F0,F0] rfl rfl (any_of HT_.out (by kernel_rfl)) (fun _ _ _ h=>h) (Or.inl ⟨by rfl,?_⟩) ?_ ?_
          rotate_left
          ·intro w'
           go_simp
           with_reducible rfl
          rotate_left
          ·simp only [Act.put,sI,sZ,sS,i64_w,i32_w]
           rfl
          refine pure_ (i:=19) (N:=some 29) (v:=?_) (a':=?_) #[T0,T0,T0,T0,T0,T0,T0,T0,T0,T0,T0,T0,T0,T0,T0,F0,T0,T0,T0,T0,F0,F0,F0,F0] rfl rfl (any_of HT_.out (by kernel_rfl)) (fun _ _ _ h=>h) (Or.inl ⟨by rfl,?_⟩) ?_ ?_
          rotate_left
          ·intro w'
           go_simp
           with_reducible rfl
          rotate_left
          ·simp only [Act.put,sI,sZ,sS,i64_w,i32_w]
           rfl
          refine take_ (i:=15) (N:=some 25) (v:=?_) (a':=?_) #[T0,T0,T0,T0,T0,T0,T0,T0,T0,T0,T0,T0,T0,T0,T0,T0,T0,T0,T0,T0,F0,F0,F0,F0] rfl rfl (take_ofW HT_.out HW_.out (by kernel_rfl)) (fun _ _ _ h=>h) (Or.inl ⟨by rfl,?_⟩) hHeld ?_ ?_
          rotate_left
          ·rintro w' ⟨s0,s1,s2,s3,s4,s5,s6,s7,s8⟩
           go_simp
           with_reducible rfl
          rotate_left
          ·simp only [Act.put,sI,sZ,sS,i64_w,i32_w]
           rfl
          refine take_ (i:=20) (N:=some 30) (v:=?_) (a':=?_) #[T0,T0,T0,T0,T0,T0,T0,T0,T0,T0,T0,T0,T0,T0,T0,T0,T0,T0,T0,T0,T0,F0,F0,F0] rfl rfl (take_ofW HT_.out HW_.out (by kernel_rfl)) (fun _ _ _ h=>h) (Or.inl ⟨by rfl,?_⟩) hHeld ?_ ?_
          rotate_left
          ·rintro w' ⟨s0,s1,s2,s3,s4,s5,s6,s7,s8⟩
           go_simp
           with_reducible rfl
          rotate_left
          ·simp only [Act.put,sI,sZ,sS,i64_w,i32_w]
           rfl
          refine pure_ (i:=21) (N:=some 31) (v:=?_) (a':=?_) #[T0,T0,T0,T0,T0,T0,T0,T0,T0,T0,T0,T0,T0,T0,T0,T0,T0,T0,T0,T0,T0,T0,F0,F0] rfl rfl (any_of HT_.out (by kernel_rfl)) (fun _ _ _ h=>h) (Or.inl ⟨by rfl,?_⟩) ?_ ?_
          rotate_left
          ·intro w'
           go_simp
           with_reducible rfl
          rotate_left
          ·simp only [Act.put,sI,sZ,sS,i64_w,i32_w]
           rfl
          refine pure_ (i:=22) (N:=some 32) (v:=?_) (a':=?_) #[T0,T0,T0,T0,T0,T0,T0,T0,T0,T0,T0,T0,T0,T0,T0,T0,T0,T0,T0,T0,T0,T0,T0,F0] rfl rfl (any_of HT_.out (by kernel_rfl)) (fun _ _ _ h=>h) (Or.inl ⟨by rfl,?_⟩) ?_ ?_
          rotate_left
          ·intro w'
           go_simp
           with_reducible rfl
          rotate_left
          ·simp only [Act.put,sI,sZ,sS,i64_w,i32_w]
           rfl
          refine pure_ (i:=23) (N:=some 33) (v:=?_) (a':=?_) #[T0,T0,T0,T0,T0,T0,T0,T0,T0,T0,T0,T0,T0,T0,T0,T0,T0,T0,T0,T0,T0,T0,T0,T0] rfl rfl (any_of HT_.out (by kernel_rfl)) (fun _ _ _ h=>h) (Or.inl ⟨by rfl,?_⟩) ?_ ?_
          rotate_left
          ·intro w'
           go_simp
           with_reducible rfl
          rotate_left
          ·simp only [Act.put,sI,sZ,sS,i64_w,i32_w]
           rfl
          refine done_ (done_of HT_.out (by kernel_rfl)) ?_
          try go_wp2
          go_meet
          case rel=>exact ⟨_,(decide (((rd_T44 l0 (ji8)).f0) ≥ ((rd_T44 l0 x3_1).f0))),(by first | rfl | (simp;done)|(simp only [← hji8] <;> (first | rfl | simp))|(simp [*];done)),H',⟨by have:=HK1.out;first | omega | exact Nat.le_refl _⟩,⟨bel HB⟩⟩
         ·rw [if_neg c10] at H
          exact absurd H (by simp)
        ·rw [if_neg c9] at H
         exact absurd H (by simp)
       ·rw [if_neg c7] at H
        have c7b0 : decide (0 < x3_1)=false:=decide_eq_false c7
        clear c7
        have H':=amk H
        clear H
        try go_wp2
        have n0_:=amk (below_drew1 HB.out)
        clear HB
        have HB:=n0_
        clear n0_
        have p459 : 0≤(x3_1 : Int):=of_decide_eq_true ass
        have q459 : x3_1 < (l0.length : Int):=of_decide_eq_true ass
        obtain ⟨ad459,e459,hx459_0,hx459_1,hx459_2⟩:=at_T44 HR0.out x3_1 p459 q459
        have hw459_2:=hx459_2
        have hw459_1:=hx459_1
        have hw459_0:=hx459_0
        cases e459
        replace hx459_0:=(HB.out.cell (World.block_lt_of_cell? w _ hx459_0)).trans hx459_0
        replace hx459_1:=(HB.out.cell (World.block_lt_of_cell? w _ hx459_1)).trans hx459_1
        replace hx459_2:=(HB.out.cell (World.block_lt_of_cell? w _ hx459_2)).trans hx459_2
        replace p459:=eq_true p459
        replace q459:=eq_true q459
        refine start_ (n:=24) (S:=fun w'=>w'.cell? (ad459.add ((x3_1).toNat * 3))=some (.int .i64 ((rd_T44 l0 x3_1).f0))∧w'.cell? ⟨(ad459.add ((x3_1).toNat * 3)).block,(ad459.add ((x3_1).toNat * 3)).off + 1,none⟩=some (.int .i64 ((rd_T44 l0 x3_1).f1))∧w'.cell? ⟨(ad459.add ((x3_1).toNat * 3)).block,(ad459.add ((x3_1).toNat * 3)).off + 2,none⟩=some (.int .i64 ((rd_T44 l0 x3_1).f2))) (ds:=[]) #[F0,F0,F0,F0,F0,F0,F0,F0,F0,F0,F0,F0,F0,F0,F0,F0,F0,F0,F0,F0,F0,F0,F0,F0] (by kernel_rfl) rfl rfl ⟨((HB.out.cell (World.block_lt_of_cell? w _ hw459_0)).trans hw459_0),((HB.out.cell (World.block_lt_of_cell? w _ hw459_1)).trans hw459_1),((HB.out.cell (World.block_lt_of_cell? w _ hw459_2)).trans hw459_2)⟩ (fun hHeld=>?_);refine with_tabW spec_l23Sumps.tab4 spec_l23Sumps.bits4 (fun HT_ HW_=>?_)
        generalize wr.drew=w13 at HB hx459_0 hx459_1 hx459_2 hHeld ⊢
        refine pure_ (i:=0) (N:=some 10) (v:=?_) (a':=?_) #[T0,F0,F0,F0,F0,F0,F0,F0,F0,F0,F0,F0,F0,F0,F0,F0,F0,F0,F0,F0,F0,F0,F0,F0] rfl rfl (any_of HT_.out (by kernel_rfl)) (fun _ _ _ h=>h) (Or.inl ⟨by rfl,?_⟩) ?_ ?_
        rotate_left
        ·intro w'
         go_simp
         with_reducible rfl
        rotate_left
        ·simp only [Act.put,sI,sZ,sS,i64_w,i32_w]
         rfl
        refine pure_ (i:=1) (N:=some 11) (v:=?_) (a':=?_) #[T0,T0,F0,F0,F0,F0,F0,F0,F0,F0,F0,F0,F0,F0,F0,F0,F0,F0,F0,F0,F0,F0,F0,F0] rfl rfl (any_of HT_.out (by kernel_rfl)) (fun _ _ _ h=>h) (Or.inl ⟨by rfl,?_⟩) ?_ ?_
        rotate_left
        ·intro w'
         go_simp
         with_reducible rfl
        rotate_left
        ·simp only [Act.put,sI,sZ,sS,i64_w,i32_w]
         rfl
        refine pure_ (i:=2) (N:=some 12) (v:=?_) (a':=?_) #[T0,T0,T0,F0,F0,F0,F0,F0,F0,F0,F0,F0,F0,F0,F0,F0,F0,F0,F0,F0,F0,F0,F0,F0] rfl rfl (any_of HT_.out (by kernel_rfl)) (fun _ _ _ h=>h) (Or.inl ⟨by rfl,?_⟩) ?_ ?_
        rotate_left
        ·intro w'
         go_simp
         with_reducible rfl
        rotate_left
        ·simp only [Act.put,sI,sZ,sS,i64_w,i32_w]
         rfl
        refine take_ (i:=3) (N:=some 13) (v:=?_) (a':=?_) #[T0,T0,T0,T0,F0,F0,F0,F0,F0,F0,F0,F0,F0,F0,F0,F0,F0,F0,F0,F0,F0,F0,F0,F0] rfl rfl (take_ofW HT_.out HW_.out (by kernel_rfl)) (fun _ _ _ h=>h) (Or.inl ⟨by rfl,?_⟩) hHeld ?_ ?_
        rotate_left
        ·rintro w' ⟨s0,s1,s2⟩
         go_simp
         with_reducible rfl
        rotate_left
        ·simp only [Act.put,sI,sZ,sS,i64_w,i32_w]
         rfl
        refine one_ (i:=4) (N:=some 14) #[T0,T0,T0,T0,T0,F0,F0,F0,F0,F0,F0,F0,F0,F0,F0,F0,F0,F0,F0,F0,F0,F0,F0,F0] rfl rfl (one_of HT_.out (by kernel_rfl)) (by decide) (fun K hK=>?_)
        refine goes_ Try.func59 (by kernel_rfl) rfl #[.agg #[.int .i64 ((rd_T44 l0 x3_1).f0),.int .i64 ((rd_T44 l0 x3_1).f1),.int .i64 ((rd_T44 l0 x3_1).f2)]] (by rfl) rfl rfl mtt ?_
        with_reducible refine (spec_l23Sump.calls ((rd_T44 l0 x3_1).f0) ((rd_T44 l0 x3_1).f1) ((rd_T44 l0 x3_1).f2) true _ A5.out).mono ?_
        rintro e w14 ⟨rfl,hb⟩
        refine ⟨_,rfl,?_⟩
        have n0_:=amk (below_step (bel HB) hb)
        clear HB
        have HB:=n0_
        clear n0_
        (try clear hb)
        (try clear hb2)
        (try clear hk)
        (try clear hi)
        refine hK.out _ _ ⟨((HB.out.cell (World.block_lt_of_cell? w _ hw459_0)).trans hw459_0),((HB.out.cell (World.block_lt_of_cell? w _ hw459_1)).trans hw459_1),((HB.out.cell (World.block_lt_of_cell? w _ hw459_2)).trans hw459_2)⟩ (fun hHeld=>?_)
        clear hK K
        refine norm_ (a':=?_) ?_ ?_
        rotate_left
        ·show Act.put _ (some 14) _=_
         simp only [Act.put,sI,sZ,sS,i64_w,i32_w]
         rfl
        refine pure_ (i:=5) (N:=some 15) (v:=?_) (a':=?_) #[T0,T0,T0,T0,T0,T0,F0,F0,F0,F0,F0,F0,F0,F0,F0,F0,F0,F0,F0,F0,F0,F0,F0,F0] rfl rfl (any_of HT_.out (by kernel_rfl)) (fun _ _ _ h=>h) (Or.inl ⟨by rfl,?_⟩) ?_ ?_
        rotate_left
        ·intro w'
         go_simp
         with_reducible rfl
        rotate_left
        ·simp only [Act.put,sI,sZ,sS,i64_w,i32_w]
         rfl
        refine pure_ (i:=6) (N:=some 16) (v:=?_) (a':=?_) #[T0,T0,T0,T0,T0,T0,T0,F0,F0,F0,F0,F0,F0,F0,F0,F0,F0,F0,F0,F0,F0,F0,F0,F0] rfl rfl (any_of HT_.out (by kernel_rfl)) (fun _ _ _ h=>h) (Or.inl ⟨by rfl,?_⟩) ?_ ?_
        rotate_left
        ·intro w'
         go_simp
         with_reducible rfl
        rotate_left
        ·simp only [Act.put,sI,sZ,sS,i64_w,i32_w]
         rfl
        refine pure_ (i:=7) (N:=some 17) (v:=?_) (a':=?_) #[T0,T0,T0,T0,T0,T0,T0,T0,F0,F0,F0,F0,F0,F0,F0,F0,F0,F0,F0,F0,F0,F0,F0,F0] rfl rfl (any_of HT_.out (by kernel_rfl)) (fun _ _ _ h=>h) (Or.inl ⟨by rfl,?_⟩) ?_ ?_
        rotate_left
        ·intro w'
         go_simp
         with_reducible rfl
        rotate_left
        ·simp only [Act.put,sI,sZ,sS,i64_w,i32_w]
         rfl
        refine pure_ (i:=8) (N:=some 18) (v:=?_) (a':=?_) #[T0,T0,T0,T0,T0,T0,T0,T0,T0,F0,F0,F0,F0,F0,F0,F0,F0,F0,F0,F0,F0,F0,F0,F0] rfl rfl (any_of HT_.out (by kernel_rfl)) (fun _ _ _ h=>h) (Or.inl ⟨by rfl,?_⟩) ?_ ?_
        rotate_left
        ·intro w'
         go_simp
         with_reducible rfl
        rotate_left
        ·simp only [Act.put,sI,sZ,sS,i64_w,i32_w]
         rfl
        refine pure_ (i:=9) (N:=some 19) (v:=?_) (a':=?_) #[T0,T0,T0,T0,T0,T0,T0,T0,T0,T0,F0,F0,F0,F0,F0,F0,F0,F0,F0,F0,F0,F0,F0,F0] rfl rfl (any_of HT_.out (by kernel_rfl)) (fun _ _ _ h=>h) (Or.inl ⟨by rfl,?_⟩) ?_ ?_
        rotate_left
        ·intro w'
         go_simp
         with_reducible rfl
        rotate_left
        ·simp only [Act.put,sI,sZ,sS,i64_w,i32_w]
         rfl
        refine pure_ (i:=10) (N:=some 20) (v:=undef) (a':=?_) #[T0,T0,T0,T0,T0,T0,T0,T0,T0,T0,T0,F0,F0,F0,F0,F0,F0,F0,F0,F0,F0,F0,F0,F0] rfl rfl (any_of HT_.out (by kernel_rfl)) (fun _ _ _ h=>h) (Or.inr ⟨by rfl,rfl⟩) ?_ ?_
        rotate_left
        ·simp only [Act.put,sI,sZ,sS,i64_w,i32_w]
         rfl
        refine pure_ (i:=11) (N:=some 21) (v:=undef) (a':=?_) #[T0,T0,T0,T0,T0,T0,T0,T0,T0,T0,T0,T0,F0,F0,F0,F0,F0,F0,F0,F0,F0,F0,F0,F0] rfl rfl (any_of HT_.out (by kernel_rfl)) (fun _ _ _ h=>h) (Or.inr ⟨by rfl,rfl⟩) ?_ ?_
        rotate_left
        ·simp only [Act.put,sI,sZ,sS,i64_w,i32_w]
         rfl
        refine pure_ (i:=12) (N:=some 22) (v:=undef) (a':=?_) #[T0,T0,T0,T0,T0,T0,T0,T0,T0,T0,T0,T0,T0,F0,F0,F0,F0,F0,F0,F0,F0,F0,F0,F0] rfl rfl (any_of HT_.out (by kernel_rfl)) (fun _ _ _ h=>h) (Or.inr ⟨by rfl,rfl⟩) ?_ ?_
        rotate_left
        ·simp only [Act.put,sI,sZ,sS,i64_w,i32_w]
         rfl
        refine pure_ (i:=13) (N:=some 23) (v:=undef) (a':=?_) #[T0,T0,T0,T0,T0,T0,T0,T0,T0,T0,T0,T0,T0,T0,F0,F0,F0,F0,F0,F0,F0,F0,F0,F0] rfl rfl (any_of HT_.out (by kernel_rfl)) (fun _ _ _ h=>h) (Or.inr ⟨by rfl,rfl⟩) ?_ ?_
        rotate_left
        ·simp only [Act.put,sI,sZ,sS,i64_w,i32_w]
         rfl
        refine pure_ (i:=14) (N:=some 24) (v:=undef) (a':=?_) #[T0,T0,T0,T0,T0,T0,T0,T0,T0,T0,T0,T0,T0,T0,T0,F0,F0,F0,F0,F0,F0,F0,F0,F0] rfl rfl (any_of HT_.out (by kernel_rfl)) (fun _ _ _ h=>h) (Or.inr ⟨by rfl,rfl⟩) ?_ ?_
        rotate_left
        ·simp only [Act.put,sI,sZ,sS,i64_w,i32_w]
         rfl
        refine pure_ (i:=15) (N:=some 25) (v:=undef) (a':=?_) #[T0,T0,T0,T0,T0,T0,T0,T0,T0,T0,T0,T0,T0,T0,T0,T0,F0,F0,F0,F0,F0,F0,F0,F0] rfl rfl (any_of HT_.out (by kernel_rfl)) (fun _ _ _ h=>h) (Or.inr ⟨by rfl,rfl⟩) ?_ ?_
        rotate_left
        ·simp only [Act.put,sI,sZ,sS,i64_w,i32_w]
         rfl
        refine pure_ (i:=16) (N:=some 26) (v:=undef) (a':=?_) #[T0,T0,T0,T0,T0,T0,T0,T0,T0,T0,T0,T0,T0,T0,T0,T0,T0,F0,F0,F0,F0,F0,F0,F0] rfl rfl (any_of HT_.out (by kernel_rfl)) (fun _ _ _ h=>h) (Or.inr ⟨by rfl,rfl⟩) ?_ ?_
        rotate_left
        ·simp only [Act.put,sI,sZ,sS,i64_w,i32_w]
         rfl
        refine pure_ (i:=17) (N:=some 27) (v:=undef) (a':=?_) #[T0,T0,T0,T0,T0,T0,T0,T0,T0,T0,T0,T0,T0,T0,T0,T0,T0,T0,F0,F0,F0,F0,F0,F0] rfl rfl (any_of HT_.out (by kernel_rfl)) (fun _ _ _ h=>h) (Or.inr ⟨by rfl,rfl⟩) ?_ ?_
        rotate_left
        ·simp only [Act.put,sI,sZ,sS,i64_w,i32_w]
         rfl
        refine pure_ (i:=18) (N:=some 28) (v:=undef) (a':=?_) #[T0,T0,T0,T0,T0,T0,T0,T0,T0,T0,T0,T0,T0,T0,T0,T0,T0,T0,T0,F0,F0,F0,F0,F0] rfl rfl (any_of HT_.out (by kernel_rfl)) (fun _ _ _ h=>h) (Or.inr ⟨by rfl,rfl⟩) ?_ ?_
        rotate_left
        ·simp only [Act.put,sI,sZ,sS,i64_w,i32_w]
         rfl
        refine pure_ (i:=19) (N:=some 29) (v:=undef) (a':=?_) #[T0,T0,T0,T0,T0,T0,T0,T0,T0,T0,T0,T0,T0,T0,T0,T0,T0,T0,T0,T0,F0,F0,F0,F0] rfl rfl (any_of HT_.out (by kernel_rfl)) (fun _ _ _ h=>h) (Or.inr ⟨by rfl,rfl⟩) ?_ ?_
        rotate_left
        ·simp only [Act.put,sI,sZ,sS,i64_w,i32_w]
         rfl
        refine pure_ (i:=20) (N:=some 30) (v:=undef) (a':=?_) #[T0,T0,T0,T0,T0,T0,T0,T0,T0,T0,T0,T0,T0,T0,T0,T0,T0,T0,T0,T0,T0,F0,F0,F0] rfl rfl (any_of HT_.out (by kernel_rfl)) (fun _ _ _ h=>h) (Or.inr ⟨by rfl,rfl⟩) ?_ ?_
        rotate_left
        ·simp only [Act.put,sI,sZ,sS,i64_w,i32_w]
         rfl
        refine pure_ (i:=21) (N:=some 31) (v:=undef) (a':=?_) #[T0,T0,T0,T0,T0,T0,T0,T0,T0,T0,T0,T0,T0,T0,T0,T0,T0,T0,T0,T0,T0,T0,F0,F0] rfl rfl (any_of HT_.out (by kernel_rfl)) (fun _ _ _ h=>h) (Or.inr ⟨by rfl,rfl⟩) ?_ ?_
        rotate_left
        ·simp only [Act.put,sI,sZ,sS,i64_w,i32_w]
         rfl
        refine pure_ (i:=22) (N:=some 32) (v:=?_) (a':=?_) #[T0,T0,T0,T0,T0,T0,T0,T0,T0,T0,T0,T0,T0,T0,T0,T0,T0,T0,T0,T0,T0,T0,T0,F0] rfl rfl (any_of HT_.out (by kernel_rfl)) (fun _ _ _ h=>h) (Or.inl ⟨by rfl,?_⟩) ?_ ?_
        rotate_left
        ·intro w'
         go_simp
         with_reducible rfl
        rotate_left
        ·simp only [Act.put,sI,sZ,sS,i64_w,i32_w]
         rfl
        refine pure_ (i:=23) (N:=some 33) (v:=?_) (a':=?_) #[T0,T0,T0,T0,T0,T0,T0,T0,T0,T0,T0,T0,T0,T0,T0,T0,T0,T0,T0,T0,T0,T0,T0,T0] rfl rfl (any_of HT_.out (by kernel_rfl)) (fun _ _ _ h=>h) (Or.inl ⟨by rfl,?_⟩) ?_ ?_
        rotate_left
        ·intro w'
         go_simp
         with_reducible rfl
        rotate_left
        ·simp only [Act.put,sI,sZ,sS,i64_w,i32_w]
         rfl
        refine done_ (done_of HT_.out (by kernel_rfl)) ?_
        try go_wp2
        go_meet
        case rel=>exact ⟨_,(false),rsd,H',⟨by have:=HK1.out;first | omega | exact Nat.le_refl _⟩,⟨bel HB⟩⟩
      ·replace c6:=Bool.eq_false_iff.mpr c6
       subst c6
       have H1 : (spec_l23Sumps.j1 k1 l0 x3_1 true)=some r:=by rw [if_neg (show ¬ (false=true) by decide)] at H;exact H
       clear H
       have H:=H1
       clear H1
       have H':=amk H
       clear H
       try go_wp2
       have n0_:=amk (below_drew1 HB.out)
       clear HB
       have HB:=n0_
       clear n0_
       have p459 : 0≤(x3_1 : Int):=of_decide_eq_true ass
       have q459 : x3_1 < (l0.length : Int):=of_decide_eq_true ass
       obtain ⟨ad459,e459,hx459_0,hx459_1,hx459_2⟩:=at_T44 HR0.out x3_1 p459 q459
       have hw459_2:=hx459_2
       have hw459_1:=hx459_1
       have hw459_0:=hx459_0
       cases e459
       replace hx459_0:=(HB.out.cell (World.block_lt_of_cell? w _ hx459_0)).trans hx459_0
       replace hx459_1:=(HB.out.cell (World.block_lt_of_cell? w _ hx459_1)).trans hx459_1
       replace hx459_2:=(HB.out.cell (World.block_lt_of_cell? w _ hx459_2)).trans hx459_2
       replace p459:=eq_true p459
       replace q459:=eq_true q459
       refine start_ (n:=24) (S:=fun w'=>w'.cell? (ad459.add ((x3_1).toNat * 3))=some (.int .i64 ((rd_T44 l0 x3_1).f0))∧w'.cell? ⟨(ad459.add ((x3_1).toNat * 3)).block,(ad459.add ((x3_1).toNat * 3)).off + 1,none⟩=some (.int .i64 ((rd_T44 l0 x3_1).f1))∧w'.cell? ⟨(ad459.add ((x3_1).toNat * 3)).block,(ad459.add ((x3_1).toNat * 3)).off + 2,none⟩=some (.int .i64 ((rd_T44 l0 x3_1).f2))) (ds:=[]) #[F0,F0,F0,F0,F0,F0,F0,F0,F0,F0,F0,F0,F0,F0,F0,F0,F0,F0,F0,F0,F0,F0,F0,F0] (by kernel_rfl) rfl rfl ⟨((HB.out.cell (World.block_lt_of_cell? w _ hw459_0)).trans hw459_0),((HB.out.cell (World.block_lt_of_cell? w _ hw459_1)).trans hw459_1),((HB.out.cell (World.block_lt_of_cell? w _ hw459_2)).trans hw459_2)⟩ (fun hHeld=>?_);refine with_tabW spec_l23Sumps.tab4 spec_l23Sumps.bits4 (fun HT_ HW_=>?_)
       generalize wr.drew=w15 at HB hx459_0 hx459_1 hx459_2 hHeld ⊢
       refine pure_ (i:=0) (N:=some 10) (v:=?_) (a':=?_) #[T0,F0,F0,F0,F0,F0,F0,F0,F0,F0,F0,F0,F0,F0,F0,F0,F0,F0,F0,F0,F0,F0,F0,F0] rfl rfl (any_of HT_.out (by kernel_rfl)) (fun _ _ _ h=>h) (Or.inl ⟨by rfl,?_⟩) ?_ ?_
       rotate_left
       ·intro w'
        go_simp
        with_reducible rfl
       rotate_left
       ·simp only [Act.put,sI,sZ,sS,i64_w,i32_w]
        rfl
       refine pure_ (i:=1) (N:=some 11) (v:=?_) (a':=?_) #[T0,T0,F0,F0,F0,F0,F0,F0,F0,F0,F0,F0,F0,F0,F0,F0,F0,F0,F0,F0,F0,F0,F0,F0] rfl rfl (any_of HT_.out (by kernel_rfl)) (fun _ _ _ h=>h) (Or.inl ⟨by rfl,?_⟩) ?_ ?_
       rotate_left
       ·intro w'
        go_simp
        with_reducible rfl
       rotate_left
       ·simp only [Act.put,sI,sZ,sS,i64_w,i32_w]
        rfl
       refine pure_ (i:=2) (N:=some 12) (v:=?_) (a':=?_) #[T0,T0,T0,F0,F0,F0,F0,F0,F0,F0,F0,F0,F0,F0,F0,F0,F0,F0,F0,F0,F0,F0,F0,F0] rfl rfl (any_of HT_.out (by kernel_rfl)) (fun _ _ _ h=>h) (Or.inl ⟨by rfl,?_⟩) ?_ ?_
       rotate_left
       ·intro w'
        go_simp
        with_reducible rfl
       rotate_left
       ·simp only [Act.put,sI,sZ,sS,i64_w,i32_w]
        rfl
       refine take_ (i:=3) (N:=some 13) (v:=?_) (a':=?_) #[T0,T0,T0,T0,F0,F0,F0,F0,F0,F0,F0,F0,F0,F0,F0,F0,F0,F0,F0,F0,F0,F0,F0,F0] rfl rfl (take_ofW HT_.out HW_.out (by kernel_rfl)) (fun _ _ _ h=>h) (Or.inl ⟨by rfl,?_⟩) hHeld ?_ ?_
       rotate_left
       ·rintro w' ⟨s0,s1,s2⟩
        go_simp
        with_reducible rfl
       rotate_left
       ·simp only [Act.put,sI,sZ,sS,i64_w,i32_w]
        rfl
       refine one_ (i:=4) (N:=some 14) #[T0,T0,T0,T0,T0,F0,F0,F0,F0,F0,F0,F0,F0,F0,F0,F0,F0,F0,F0,F0,F0,F0,F0,F0] rfl rfl (one_of HT_.out (by kernel_rfl)) (by decide) (fun K hK=>?_)
       refine goes_ Try.func59 (by kernel_rfl) rfl #[.agg #[.int .i64 ((rd_T44 l0 x3_1).f0),.int .i64 ((rd_T44 l0 x3_1).f1),.int .i64 ((rd_T44 l0 x3_1).f2)]] (by rfl) rfl rfl mtt ?_
       with_reducible refine (spec_l23Sump.calls ((rd_T44 l0 x3_1).f0) ((rd_T44 l0 x3_1).f1) ((rd_T44 l0 x3_1).f2) false _ A5.out).mono ?_
       rintro e w16 ⟨rfl,hb⟩
       refine ⟨_,rfl,?_⟩
       have n0_:=amk (below_step (bel HB) hb)
       clear HB
       have HB:=n0_
       clear n0_
       (try clear hb)
       (try clear hb2)
       (try clear hk)
       (try clear hi)
       refine hK.out _ _ ⟨((HB.out.cell (World.block_lt_of_cell? w _ hw459_0)).trans hw459_0),((HB.out.cell (World.block_lt_of_cell? w _ hw459_1)).trans hw459_1),((HB.out.cell (World.block_lt_of_cell? w _ hw459_2)).trans hw459_2)⟩ (fun hHeld=>?_)
       clear hK K
       refine norm_ (a':=?_) ?_ ?_
       rotate_left
       ·show Act.put _ (some 14) _=_
        simp only [Act.put,sI,sZ,sS,i64_w,i32_w]
        rfl
       refine pure_ (i:=5) (N:=some 15) (v:=?_) (a':=?_) #[T0,T0,T0,T0,T0,T0,F0,F0,F0,F0,F0,F0,F0,F0,F0,F0,F0,F0,F0,F0,F0,F0,F0,F0] rfl rfl (any_of HT_.out (by kernel_rfl)) (fun _ _ _ h=>h) (Or.inl ⟨by rfl,?_⟩) ?_ ?_
       rotate_left
       ·intro w'
        go_simp
        with_reducible rfl
       rotate_left
       ·simp only [Act.put,sI,sZ,sS,i64_w,i32_w]
        rfl
       refine pure_ (i:=6) (N:=some 16) (v:=?_) (a':=?_) #[T0,T0,T0,T0,T0,T0,T0,F0,F0,F0,F0,F0,F0,F0,F0,F0,F0,F0,F0,F0,F0,F0,F0,F0] rfl rfl (any_of HT_.out (by kernel_rfl)) (fun _ _ _ h=>h) (Or.inl ⟨by rfl,?_⟩) ?_ ?_
       rotate_left
       ·intro w'
        go_simp
        with_reducible rfl
       rotate_left
       ·simp only [Act.put,sI,sZ,sS,i64_w,i32_w]
        rfl
       refine pure_ (i:=7) (N:=some 17) (v:=undef) (a':=?_) #[T0,T0,T0,T0,T0,T0,T0,T0,F0,F0,F0,F0,F0,F0,F0,F0,F0,F0,F0,F0,F0,F0,F0,F0] rfl rfl (any_of HT_.out (by kernel_rfl)) (fun _ _ _ h=>h) (Or.inr ⟨by rfl,rfl⟩) ?_ ?_
       rotate_left
       ·simp only [Act.put,sI,sZ,sS,i64_w,i32_w]
        rfl
       refine pure_ (i:=8) (N:=some 18) (v:=undef) (a':=?_) #[T0,T0,T0,T0,T0,T0,T0,T0,T0,F0,F0,F0,F0,F0,F0,F0,F0,F0,F0,F0,F0,F0,F0,F0] rfl rfl (any_of HT_.out (by kernel_rfl)) (fun _ _ _ h=>h) (Or.inr ⟨by rfl,rfl⟩) ?_ ?_
       rotate_left
       ·simp only [Act.put,sI,sZ,sS,i64_w,i32_w]
        rfl
       refine pure_ (i:=9) (N:=some 19) (v:=undef) (a':=?_) #[T0,T0,T0,T0,T0,T0,T0,T0,T0,T0,F0,F0,F0,F0,F0,F0,F0,F0,F0,F0,F0,F0,F0,F0] rfl rfl (any_of HT_.out (by kernel_rfl)) (fun _ _ _ h=>h) (Or.inr ⟨by rfl,rfl⟩) ?_ ?_
       rotate_left
       ·simp only [Act.put,sI,sZ,sS,i64_w,i32_w]
        rfl
       refine pure_ (i:=10) (N:=some 20) (v:=undef) (a':=?_) #[T0,T0,T0,T0,T0,T0,T0,T0,T0,T0,T0,F0,F0,F0,F0,F0,F0,F0,F0,F0,F0,F0,F0,F0] rfl rfl (any_of HT_.out (by kernel_rfl)) (fun _ _ _ h=>h) (Or.inr ⟨by rfl,rfl⟩) ?_ ?_
       rotate_left
       ·simp only [Act.put,sI,sZ,sS,i64_w,i32_w]
        rfl
       refine pure_ (i:=11) (N:=some 21) (v:=undef) (a':=?_) #[T0,T0,T0,T0,T0,T0,T0,T0,T0,T0,T0,T0,F0,F0,F0,F0,F0,F0,F0,F0,F0,F0,F0,F0] rfl rfl (any_of HT_.out (by kernel_rfl)) (fun _ _ _ h=>h) (Or.inr ⟨by rfl,rfl⟩) ?_ ?_
       rotate_left
       ·simp only [Act.put,sI,sZ,sS,i64_w,i32_w]
        rfl
       refine pure_ (i:=12) (N:=some 22) (v:=undef) (a':=?_) #[T0,T0,T0,T0,T0,T0,T0,T0,T0,T0,T0,T0,T0,F0,F0,F0,F0,F0,F0,F0,F0,F0,F0,F0] rfl rfl (any_of HT_.out (by kernel_rfl)) (fun _ _ _ h=>h) (Or.inr ⟨by rfl,rfl⟩) ?_ ?_
       rotate_left
       ·simp only [Act.put,sI,sZ,sS,i64_w,i32_w]
        rfl
       refine pure_ (i:=13) (N:=some 23) (v:=undef) (a':=?_) #[T0,T0,T0,T0,T0,T0,T0,T0,T0,T0,T0,T0,T0,T0,F0,F0,F0,F0,F0,F0,F0,F0,F0,F0] rfl rfl (any_of HT_.out (by kernel_rfl)) (fun _ _ _ h=>h) (Or.inr ⟨by rfl,rfl⟩) ?_ ?_
       rotate_left
       ·simp only [Act.put,sI,sZ,sS,i64_w,i32_w]
        rfl
       refine pure_ (i:=14) (N:=some 24) (v:=undef) (a':=?_) #[T0,T0,T0,T0,T0,T0,T0,T0,T0,T0,T0,T0,T0,T0,T0,F0,F0,F0,F0,F0,F0,F0,F0,F0] rfl rfl (any_of HT_.out (by kernel_rfl)) (fun _ _ _ h=>h) (Or.inr ⟨by rfl,rfl⟩) ?_ ?_
       rotate_left
       ·simp only [Act.put,sI,sZ,sS,i64_w,i32_w]
        rfl
       refine pure_ (i:=15) (N:=some 25) (v:=undef) (a':=?_) #[T0,T0,T0,T0,T0,T0,T0,T0,T0,T0,T0,T0,T0,T0,T0,T0,F0,F0,F0,F0,F0,F0,F0,F0] rfl rfl (any_of HT_.out (by kernel_rfl)) (fun _ _ _ h=>h) (Or.inr ⟨by rfl,rfl⟩) ?_ ?_
       rotate_left
       ·simp only [Act.put,sI,sZ,sS,i64_w,i32_w]
        rfl
       refine pure_ (i:=16) (N:=some 26) (v:=undef) (a':=?_) #[T0,T0,T0,T0,T0,T0,T0,T0,T0,T0,T0,T0,T0,T0,T0,T0,T0,F0,F0,F0,F0,F0,F0,F0] rfl rfl (any_of HT_.out (by kernel_rfl)) (fun _ _ _ h=>h) (Or.inr ⟨by rfl,rfl⟩) ?_ ?_
       rotate_left
       ·simp only [Act.put,sI,sZ,sS,i64_w,i32_w]
        rfl
       refine pure_ (i:=17) (N:=some 27) (v:=undef) (a':=?_) #[T0,T0,T0,T0,T0,T0,T0,T0,T0,T0,T0,T0,T0,T0,T0,T0,T0,T0,F0,F0,F0,F0,F0,F0] rfl rfl (any_of HT_.out (by kernel_rfl)) (fun _ _ _ h=>h) (Or.inr ⟨by rfl,rfl⟩) ?_ ?_
       rotate_left
       ·simp only [Act.put,sI,sZ,sS,i64_w,i32_w]
        rfl
       refine pure_ (i:=18) (N:=some 28) (v:=undef) (a':=?_) #[T0,T0,T0,T0,T0,T0,T0,T0,T0,T0,T0,T0,T0,T0,T0,T0,T0,T0,T0,F0,F0,F0,F0,F0] rfl rfl (any_of HT_.out (by kernel_rfl)) (fun _ _ _ h=>h) (Or.inr ⟨by rfl,rfl⟩) ?_ ?_
       rotate_left
       ·simp only [Act.put,sI,sZ,sS,i64_w,i32_w]
        rfl
       refine pure_ (i:=19) (N:=some 29) (v:=undef) (a':=?_) #[T0,T0,T0,T0,T0,T0,T0,T0,T0,T0,T0,T0,T0,T0,T0,T0,T0,T0,T0,T0,F0,F0,F0,F0] rfl rfl (any_of HT_.out (by kernel_rfl)) (fun _ _ _ h=>h) (Or.inr ⟨by rfl,rfl⟩) ?_ ?_
       rotate_left
       ·simp only [Act.put,sI,sZ,sS,i64_w,i32_w]
        rfl
       refine pure_ (i:=20) (N:=some 30) (v:=undef) (a':=?_) #[T0,T0,T0,T0,T0,T0,T0,T0,T0,T0,T0,T0,T0,T0,T0,T0,T0,T0,T0,T0,T0,F0,F0,F0] rfl rfl (any_of HT_.out (by kernel_rfl)) (fun _ _ _ h=>h) (Or.inr ⟨by rfl,rfl⟩) ?_ ?_
       rotate_left
       ·simp only [Act.put,sI,sZ,sS,i64_w,i32_w]
        rfl
       refine pure_ (i:=21) (N:=some 31) (v:=undef) (a':=?_) #[T0,T0,T0,T0,T0,T0,T0,T0,T0,T0,T0,T0,T0,T0,T0,T0,T0,T0,T0,T0,T0,T0,F0,F0] rfl rfl (any_of HT_.out (by kernel_rfl)) (fun _ _ _ h=>h) (Or.inr ⟨by rfl,rfl⟩) ?_ ?_
       rotate_left
       ·simp only [Act.put,sI,sZ,sS,i64_w,i32_w]
        rfl
       refine pure_ (i:=22) (N:=some 32) (v:=undef) (a':=?_) #[T0,T0,T0,T0,T0,T0,T0,T0,T0,T0,T0,T0,T0,T0,T0,T0,T0,T0,T0,T0,T0,T0,T0,F0] rfl rfl (any_of HT_.out (by kernel_rfl)) (fun _ _ _ h=>h) (Or.inr ⟨by rfl,rfl⟩) ?_ ?_
       rotate_left
       ·simp only [Act.put,sI,sZ,sS,i64_w,i32_w]
        rfl
       refine pure_ (i:=23) (N:=some 33) (v:=?_) (a':=?_) #[T0,T0,T0,T0,T0,T0,T0,T0,T0,T0,T0,T0,T0,T0,T0,T0,T0,T0,T0,T0,T0,T0,T0,T0] rfl rfl (any_of HT_.out (by kernel_rfl)) (fun _ _ _ h=>h) (Or.inl ⟨by rfl,?_⟩) ?_ ?_
       rotate_left
       ·intro w'
        go_simp
        with_reducible rfl
       rotate_left
       ·simp only [Act.put,sI,sZ,sS,i64_w,i32_w]
        rfl
       refine done_ (done_of HT_.out (by kernel_rfl)) ?_
       try go_wp2
       go_meet
       case rel=>exact ⟨_,(true),rsd,H',⟨by have:=HK1.out;first | omega | exact Nat.le_refl _⟩,⟨bel HB⟩⟩
     ·rw [if_neg c4] at H
      exact absurd H (by simp)
    case rest=>
     clear HC3
     try clear c1
     try clear p2
     try clear c4
     try clear p4
     try clear q4
     try clear hx4
     try clear c5
     try clear c6
     try clear c7
     try clear c7b0
     try clear c9
     try clear c10
     try clear hx459_0
     try clear hx459_1
     try clear hx459_2
     try clear hx461_0
     try clear hx461_1
     try clear hx461_2
     try clear hx462_0
     try clear hx462_1
     try clear hx462_2
     try clear p459
     try clear p461
     try clear p462
     try clear q459
     try clear q461
     try clear q462
     obtain ⟨kq,x33_2,rfl,HA,HJ2,HB⟩:=hcut
     cases kq with
     | zero=>exact absurd HA.out (by simp [spec_l23Sumps.j1])
     | succ kj2=>
      have H:=HA.out
      clear HA
      simp only [spec_l23Sumps.j1] at H
      by_cases c17 : x33_2=true
      ·subst c17
       have H1 : (some false)=some r:=by rw [if_pos rfl] at H;exact H
       clear H
       have H:=H1
       clear H1
       obtain rfl:=Option.some.inj H
       go_wp2
       go_ret
       exact ⟨erw0,bel HB⟩
      ·replace c17:=Bool.eq_false_iff.mpr c17
       subst c17
       have H1 : (spec_l23Sumps.l0 kj2 l0 (wrap64 (x3_1 + 1)))=some r:=by rw [if_neg (show ¬ (false=true) by decide)] at H;exact H
       clear H
       have H:=H1
       clear H1
       have H':=amk H
       clear H
       go_wp2
       go_roundg kj2
       case measure=>have:=HK1.out;have:=HJ2.out;omega
       case rel=>exact ⟨(wrap64 (x3_1 + 1)),rsd,H',⟨by have:=HK1.out;have:=HJ2.out;omega⟩,⟨bel HB⟩⟩
   ·rw [if_neg c2] at H
    have c2b0 : decide (x3_1 < (l0.length : Int))=false:=decide_eq_false c2
    clear c2
    obtain rfl:=Option.some.inj H
    go_wp2
    go_ret
    exact ⟨erw0,bel HB⟩
def spec_l23Closed.l0 : Nat→List (S30)→List (S44)→Int→List Int→Int→Option (List Int)
 | 0,_,_,_,_,_=>none
 | k + 1,x0,x1,x2,x7,x8=>if x8 < (x1.length : Int) then (if 0≤x8 then ((spec_l23Open.f k x0 ((rd_T44 x1 x8).f0) ((rd_T44 x1 x8).f1) ((rd_T44 x1 x8).f2) x2).bind fun t467=>(if t467=true then (spec_l23Closed.l0 k x0 x1 x2 x7 (wrap64 (x8 + 1))) else (if x7.length < 17592186044416 then (spec_l23Closed.l0 k x0 x1 x2 (x7 ++ [(rd_T44 x1 x8).f0]) (wrap64 (x8 + 1))) else (none)))) else (none)) else (some x7)
def spec_l23Closed.f (k : Nat) (l0 : List (S30)) (l1 : List (S44)) (a2 : Int) : Option (List Int):=spec_l23Closed.l0 k l0 l1 a2 (([] : List Int)) 0
theorem spec_l23Closed.mono_l : ∀ k,(∀ y0 y1 y2 y3 y4,LeO (spec_l23Closed.l0 k y0 y1 y2 y3 y4) (spec_l23Closed.l0 (k + 1) y0 y1 y2 y3 y4))
 | 0=>fun _ _ _ _ _ r h=>by simp [spec_l23Closed.l0] at h
 | k + 1=>by
  have ih0:=spec_l23Closed.mono_l k
  ·intro y0 y1 y2 y3 y4
   unfold spec_l23Closed.l0
   repeat' first
   | (with_reducible exact ih0 _ _ _ _ _)
   | (with_reducible exact spec_l23Open.mono _ _ _ _ _ _)
   | (with_reducible exact LeO.refl _)
   | (with_reducible exact LeO.none _)
   | (with_reducible refine LeO.ite ?_ ?_)
   | (with_reducible refine LeO.bind ?_ (fun _=>?_))
   | exact ih0 _ _ _ _ _
theorem spec_l23Closed.mono : ∀ a0 a1 a2 k,LeO (spec_l23Closed.f k a0 a1 a2) (spec_l23Closed.f (k + 1) a0 a1 a2):=by
 intro a0 a1 a2 k
 have ih0:=spec_l23Closed.mono_l k
 unfold spec_l23Closed.f
 repeat' first
   | (with_reducible exact ih0 _ _ _ _ _)
   | (with_reducible exact spec_l23Open.mono _ _ _ _ _ _)
   | (with_reducible exact LeO.refl _)
   | (with_reducible exact LeO.none _)
   | (with_reducible refine LeO.ite ?_ ?_)
   | (with_reducible refine LeO.bind ?_ (fun _=>?_))
   | exact ih0 _ _ _ _ _
set_option maxHeartbeats 8000000 in
set_option maxRecDepth 100000 in
theorem spec_l23Closed.calls (k : Nat) (A0 : Option Addr) (c0 : Nat) (l0 : List (S30)) (A1 : Option Addr) (c1 : Nat) (l1 : List (S44)) (a2 : Int) (r : List Int) (w : World) (hr0 : Kd.C k30 w A0 l0.length l0) (hc0 : l0.length≤c0) (hr1 : Kd.C k44 w A1 l1.length l1) (hc1 : l1.length≤c1) (h : spec_l23Closed.f k l0 l1 a2=some r) :
  Calls Try.prog 73 #[.slice A0 l0.length c0,.slice A1 l1.length c1,.int .i64 a2] w fun e w'=>∃ v0_ : Value,e = .returned (v0_)∧Kd.R (Kd.int .i64) 3 w' w.heap.size (fun _=>True) v0_ r∧Below w.heap.size w w':=by
 have hu44:=Try.underlying44
 have HR0:=amk hr0
 have HC0:=amk hc0
 clear hr0 hc0
 have HR1:=amk hr1
 have HC1:=amk hc1
 clear hr1 hc1
 have HB:=amk (Below.refl w.heap.size w)
 have H : (spec_l23Closed.l0 k l0 l1 a2 (([] : List Int)) 0)=some r:=h
 clear h
 obtain ⟨y463,hy463⟩ : ∃ y_ : List Int,y_=(([] : List Int)):=⟨_,rfl⟩
 replace H : (spec_l23Closed.l0 k l0 l1 a2 y463 0)=some r:=by first | (rw [hy463];with_reducible exact H)|(have H2_:=(Option.bind_some _ _).symm.trans H;rw [hy463];with_reducible exact H2_)|(have H2_:=(Option.bind_some _ _).symm.trans H;with_reducible exact H2_) | with_reducible exact H | (rw [hy463];exact H) | exact H
 have Ny463:=amk hy463
 clear hy463
 have H':=amk H
 clear H
 go_enter Try.func73,Try.ntmps73
 go_wp2_with (first | ((with_reducible refine gate_dst (N:=9) rfl ?_);refine Kd.R_lit (Kd.int .i64) _ 3 ?hg (N:=9) ?hd (xs:=([] : List Int)) (inner:=[]) (ok:=fun _=>True) (okp:=fun _=>True) ?hr ?hp (fun _ hk=>hk) trivial (Below.refl _ _) (Nat.le_refl _) (by simp) ?_;(case hd=>rfl);(case hg=>rfl);(case hr=>first | (go_simp;done)|(go_simp;rfl));(case hp=>exact (Reps.none _ _));intro v464 w4 ho5 hb hg_ hnew_;clear hg_ hnew_;(first | rw [← Ny463.out] at ho5 | (simp only [Int.reduceToNat] at ho5;rw [← Ny463.out] at ho5));have HO465:=amk (Kd.R_lower ho5 (below_size (bel HB)));replace HB:=amk (below_step (bel HB) hb);clear hb ho5))
 go_loopg [7,8] k (fun kq v7 v8 w'=>∃ (x7_1 : List Int) (x8_1 : Int),v8 = .int .i64 x8_1∧Aside0 (spec_l23Closed.l0 kq l0 l1 a2 x7_1 x8_1=some r)∧Aside0 (kq≤k)∧Aside0 (Kd.R (Kd.int .i64) 3 w' w.heap.size (fun _=>True) v7 x7_1)∧Aside0 (Below w.heap.size w w'))
 case atStart=>exact ⟨(y463),(0),rsd,H',⟨Nat.le_refl _⟩,⟨rrr HO465⟩,⟨bel HB⟩⟩
 case round=>
  clear H'
  try clear c1
  try clear p2
  obtain ⟨x7_1,x8_1,rfl,HA,HK1,HO_7,HB⟩:=hrel
  cases gk with
  | zero=>exact absurd HA.out (by simp [spec_l23Closed.l0])
  | succ k1=>
   have H:=HA.out
   clear HA
   simp only [spec_l23Closed.l0] at H
   by_cases c6 : x8_1 < (l1.length : Int)
   ·rw [if_pos c6] at H
    have c6b0 : decide (x8_1 < (l1.length : Int))=true:=decide_eq_true c6
    clear c6
    by_cases c7 : 0≤x8_1
    ·rw [if_pos c7] at H
     have c7b0 : decide (0≤x8_1)=true:=decide_eq_true c7
     clear c7
     replace H:=obs H
     obtain ⟨t467,A80,H⟩:=H
     replace H : (if t467=true then (spec_l23Closed.l0 k1 l0 l1 a2 x7_1 (wrap64 (x8_1 + 1))) else (if x7_1.length < 17592186044416 then (spec_l23Closed.l0 k1 l0 l1 a2 (x7_1 ++ [(rd_T44 l1 x8_1).f0]) (wrap64 (x8_1 + 1))) else (none)))=some r:=H
     have A8:=amk A80
     clear A80
     by_cases c9 : t467=true
     ·subst c9
      have H1 : (spec_l23Closed.l0 k1 l0 l1 a2 x7_1 (wrap64 (x8_1 + 1)))=some r:=by rw [if_pos rfl] at H;exact H
      clear H
      have H:=H1
      clear H1
      have H':=amk H
      clear H
      have p466 : 0≤(x8_1 : Int):=of_decide_eq_true ass
      have q466 : x8_1 < (l1.length : Int):=of_decide_eq_true ass
      obtain ⟨ad466,e466,hx466_0,hx466_1,hx466_2⟩:=at_T44 HR1.out x8_1 p466 q466
      cases e466
      replace hx466_0:=(HB.out.cell (World.block_lt_of_cell? w _ hx466_0)).trans hx466_0
      replace hx466_1:=(HB.out.cell (World.block_lt_of_cell? w _ hx466_1)).trans hx466_1
      replace hx466_2:=(HB.out.cell (World.block_lt_of_cell? w _ hx466_2)).trans hx466_2
      replace p466:=eq_true p466
      replace q466:=eq_true q466
      go_wp2_with (first | ((with_reducible refine gate_callee (f:=60) rfl ?_);refine goesL_ (some 22) rfl rfl Try.func60 (by kernel_rfl) rfl #[.slice A0 l0.length c0,.agg #[.int .i64 ((rd_T44 l1 x8_1).f0),.int .i64 ((rd_T44 l1 x8_1).f1),.int .i64 ((rd_T44 l1 x8_1).f2)],.int .i64 a2] rfl mtt ?_;(with_reducible refine (spec_l23Open.calls k1 _ _ l0 ((rd_T44 l1 x8_1).f0) ((rd_T44 l1 x8_1).f1) ((rd_T44 l1 x8_1).f2) a2 true _ ?side1 ?side2 A8.out).mono ?_);(case side1=>exact ccc (Kd.C_below HR0.out HB.out));(case side2=>exact HC0.out);rintro e w10 ⟨rfl,hb⟩;refine ⟨_,rfl,?_⟩;replace HO_7:=amk (Kd.R_below (rrr HO_7) hb);replace HB:=amk (below_step (bel HB) hb);(try clear hb)))
      go_roundg k1
      case measure=>have:=HK1.out;omega
      case rel=>exact ⟨(x7_1),(wrap64 (x8_1 + 1)),rsd,H',⟨by have:=HK1.out;omega⟩,⟨rrr HO_7⟩,⟨bel HB⟩⟩
     ·replace c9:=Bool.eq_false_iff.mpr c9
      subst c9
      have H1 : (if x7_1.length < 17592186044416 then (spec_l23Closed.l0 k1 l0 l1 a2 (x7_1 ++ [(rd_T44 l1 x8_1).f0]) (wrap64 (x8_1 + 1))) else (none))=some r:=by rw [if_neg (show ¬ (false=true) by decide)] at H;exact H
      clear H
      have H:=H1
      clear H1
      by_cases c11 : x7_1.length < 17592186044416
      ·rw [if_pos c11] at H
       have LMc11:=amk c11
       clear c11
       obtain ⟨y469,hy469⟩ : ∃ y_ : List Int,y_=(x7_1 ++ [(rd_T44 l1 x8_1).f0]):=⟨_,rfl⟩
       replace H : (spec_l23Closed.l0 k1 l0 l1 a2 y469 (wrap64 (x8_1 + 1)))=some r:=by first | (rw [hy469];with_reducible exact H)|(have H2_:=(Option.bind_some _ _).symm.trans H;rw [hy469];with_reducible exact H2_)|(have H2_:=(Option.bind_some _ _).symm.trans H;with_reducible exact H2_) | with_reducible exact H | (rw [hy469];exact H) | exact H
       have Ny469:=amk hy469
       clear hy469
       have H':=amk H
       clear H
       have p466 : 0≤(x8_1 : Int):=of_decide_eq_true ass
       have q466 : x8_1 < (l1.length : Int):=of_decide_eq_true ass
       obtain ⟨ad466,e466,hx466_0,hx466_1,hx466_2⟩:=at_T44 HR1.out x8_1 p466 q466
       cases e466
       replace hx466_0:=(HB.out.cell (World.block_lt_of_cell? w _ hx466_0)).trans hx466_0
       replace hx466_1:=(HB.out.cell (World.block_lt_of_cell? w _ hx466_1)).trans hx466_1
       replace hx466_2:=(HB.out.cell (World.block_lt_of_cell? w _ hx466_2)).trans hx466_2
       replace p466:=eq_true p466
       replace q466:=eq_true q466
       go_wp2_with (first | ((with_reducible refine gate_callee (f:=60) rfl ?_);refine goesL_ (some 22) rfl rfl Try.func60 (by kernel_rfl) rfl #[.slice A0 l0.length c0,.agg #[.int .i64 ((rd_T44 l1 x8_1).f0),.int .i64 ((rd_T44 l1 x8_1).f1),.int .i64 ((rd_T44 l1 x8_1).f2)],.int .i64 a2] rfl mtt ?_;(with_reducible refine (spec_l23Open.calls k1 _ _ l0 ((rd_T44 l1 x8_1).f0) ((rd_T44 l1 x8_1).f1) ((rd_T44 l1 x8_1).f2) a2 false _ ?side1 ?side2 A8.out).mono ?_);(case side1=>exact ccc (Kd.C_below HR0.out HB.out));(case side2=>exact HC0.out);rintro e w12 ⟨rfl,hb⟩;refine ⟨_,rfl,?_⟩;replace HO_7:=amk (Kd.R_below (rrr HO_7) hb);replace HB:=amk (below_step (bel HB) hb);(try clear hb);have p468 : 0≤(x8_1 : Int):=of_decide_eq_true ass;have q468 : x8_1 < (l1.length : Int):=of_decide_eq_true ass;obtain ⟨ad468,e468,hx468_0,hx468_1,hx468_2⟩:=at_T44 HR1.out x8_1 p468 q468;obtain rfl : ad466=ad468:=(by injection e468);replace hx468_0:=(HB.out.cell (World.block_lt_of_cell? w _ hx468_0)).trans hx468_0;replace hx468_1:=(HB.out.cell (World.block_lt_of_cell? w _ hx468_1)).trans hx468_1;replace hx468_2:=(HB.out.cell (World.block_lt_of_cell? w _ hx468_2)).trans hx468_2;replace p468:=eq_true p468;replace q468:=eq_true q468)|((with_reducible refine gate_builtin (b:=.append) (xs:=#[.tmp 24,.tmp 30]) rfl ?_);at_builtin;refine Kd.R_append (Kd.int .i64) (w0:=w) w.heap.size rfl (.tmp 24) (.tmp 30) 63 3 (.int .i64 0) 8 rfl Try.underlying63 info3 rfl (by decide) (by omega) u7 x7_1 ((rd_T44 l1 x8_1).f0) [.int .i64 ((rd_T44 l1 x8_1).f0)] (fun _=>True) (fun _=>False) rfl rfl ?aP (fun _ hk=>hk.elim) ?aF ?aO ?aB ?aS ?aL ?_;(case aP=>exact rfl);(case aB=>exact (bel HB));(case aF=>exact (fun _ _=>trivial));(case aO=>exact (rrr HO_7));(case aS=>exact (below_size (bel HB)));(case aL=>have:=LMc11.out;omega);intro v470 w13 ho hb hg hat;rw [← Ny469.out] at ho;replace HB:=amk (hb);have HO471:=amk (ho);clear HO_7;clear ho hb hg hat))
       go_roundg k1
       case measure=>have:=HK1.out;omega
       case rel=>exact ⟨(y469),(wrap64 (x8_1 + 1)),rsd,H',⟨by have:=HK1.out;omega⟩,⟨rrr HO471⟩,⟨bel HB⟩⟩
      ·rw [if_neg c11] at H
       exact absurd H (by simp)
    ·rw [if_neg c7] at H
     exact absurd H (by simp)
   ·rw [if_neg c6] at H
    have c6b0 : decide (x8_1 < (l1.length : Int))=false:=decide_eq_false c6
    clear c6
    obtain rfl:=Option.some.inj H
    go_wp2
    go_ret
    exact ⟨_,erw0,rrr HO_7,bel HB⟩
mutual
def spec_OpenFor.j0 : Nat→List (S30)→List (S44)→Int→Bool→Option (Int × Bool)
 | 0,_,_,_,_=>none
 | k + 1,x0,x1,x2,x22=>if x22=true then (some (0,false)) else (spec_OpenFor.l0 k x0 x1 x2 0 0)
def spec_OpenFor.l0 : Nat→List (S30)→List (S44)→Int→Int→Int→Option (Int × Bool)
 | 0,_,_,_,_,_=>none
 | k + 1,x0,x1,x2,x8,x9=>if x9≤999 then ((spec_l23Within.f k x0 x9).bind fun t475=>(if t475=true then ((spec_l23Closed.f k x0 x1 x9).bind fun t476=>(spec_OpenFor.j2 k x0 x1 x2 (wrap64 (x8 + 1)) x9 (decide ((t476.length : Int) > 0)))) else (spec_OpenFor.j2 k x0 x1 x2 (wrap64 (x8 + 1)) x9 true))) else (some (0,false))
def spec_OpenFor.j2 : Nat→List (S30)→List (S44)→Int→Int→Int→Bool→Option (Int × Bool)
 | 0,_,_,_,_,_,_=>none
 | k + 1,x0,x1,x2,x8,x9,x40=>if x40=true then (if 0=x2 then (some (wrap64 ((wrap64 (x9 - x2)) + 1),true)) else (spec_OpenFor.l0 k x0 x1 x2 0 (wrap64 (x9 + 1)))) else (if x8=x2 then (some (wrap64 ((wrap64 (x9 - x2)) + 1),true)) else (spec_OpenFor.l0 k x0 x1 x2 x8 (wrap64 (x9 + 1))))
end
def spec_OpenFor.f (k : Nat) (l0 : List (S30)) (l1 : List (S44)) (a2 : Int) : Option (Int × Bool):=(spec_l23Good.f k l0).bind fun t472=>(if t472=true then ((spec_l23Sumps.f k l1).bind fun t473=>(if t473=true then ((spec_l1In.f a2 1 100).bind fun t474=>(spec_OpenFor.j0 k l0 l1 a2 (!t474))) else (spec_OpenFor.j0 k l0 l1 a2 true))) else (spec_OpenFor.j0 k l0 l1 a2 true))
theorem spec_OpenFor.mono_l : ∀ k,(∀ y0 y1 y2 y3,LeO (spec_OpenFor.j0 k y0 y1 y2 y3) (spec_OpenFor.j0 (k + 1) y0 y1 y2 y3))∧(∀ y0 y1 y2 y3 y4,LeO (spec_OpenFor.l0 k y0 y1 y2 y3 y4) (spec_OpenFor.l0 (k + 1) y0 y1 y2 y3 y4))∧(∀ y0 y1 y2 y3 y4 y5,LeO (spec_OpenFor.j2 k y0 y1 y2 y3 y4 y5) (spec_OpenFor.j2 (k + 1) y0 y1 y2 y3 y4 y5))
 | 0=>⟨fun _ _ _ _ r h=>by simp [spec_OpenFor.j0] at h,fun _ _ _ _ _ r h=>by simp [spec_OpenFor.l0] at h,fun _ _ _ _ _ _ r h=>by simp [spec_OpenFor.j2] at h⟩
 | k + 1=>by
  obtain ⟨ih0,ih1,ih2⟩:=spec_OpenFor.mono_l k
  refine ⟨?_,?_,?_⟩
  ·intro y0 y1 y2 y3
   unfold spec_OpenFor.j0
   repeat' first
   | (with_reducible exact ih0 _ _ _ _)
   | (with_reducible exact ih1 _ _ _ _ _)
   | (with_reducible exact ih2 _ _ _ _ _ _)
   | (with_reducible exact spec_l23Closed.mono _ _ _ _)
   | (with_reducible exact spec_l23Good.mono _ _)
   | (with_reducible exact spec_l23Sumps.mono _ _)
   | (with_reducible exact spec_l23Within.mono _ _ _)
   | (with_reducible exact LeO.refl _)
   | (with_reducible exact LeO.none _)
   | (with_reducible refine LeO.ite ?_ ?_)
   | (with_reducible refine LeO.bind ?_ (fun _=>?_))
   | exact ih0 _ _ _ _
   | exact ih1 _ _ _ _ _
   | exact ih2 _ _ _ _ _ _
  ·intro y0 y1 y2 y3 y4
   unfold spec_OpenFor.l0
   repeat' first
   | (with_reducible exact ih0 _ _ _ _)
   | (with_reducible exact ih1 _ _ _ _ _)
   | (with_reducible exact ih2 _ _ _ _ _ _)
   | (with_reducible exact spec_l23Closed.mono _ _ _ _)
   | (with_reducible exact spec_l23Good.mono _ _)
   | (with_reducible exact spec_l23Sumps.mono _ _)
   | (with_reducible exact spec_l23Within.mono _ _ _)
   | (with_reducible exact LeO.refl _)
   | (with_reducible exact LeO.none _)
   | (with_reducible refine LeO.ite ?_ ?_)
   | (with_reducible refine LeO.bind ?_ (fun _=>?_))
   | exact ih0 _ _ _ _
   | exact ih1 _ _ _ _ _
   | exact ih2 _ _ _ _ _ _
  ·intro y0 y1 y2 y3 y4 y5
   unfold spec_OpenFor.j2
   repeat' first
   | (with_reducible exact ih0 _ _ _ _)
   | (with_reducible exact ih1 _ _ _ _ _)
   | (with_reducible exact ih2 _ _ _ _ _ _)
   | (with_reducible exact spec_l23Closed.mono _ _ _ _)
   | (with_reducible exact spec_l23Good.mono _ _)
   | (with_reducible exact spec_l23Sumps.mono _ _)
   | (with_reducible exact spec_l23Within.mono _ _ _)
   | (with_reducible exact LeO.refl _)
   | (with_reducible exact LeO.none _)
   | (with_reducible refine LeO.ite ?_ ?_)
   | (with_reducible refine LeO.bind ?_ (fun _=>?_))
   | exact ih0 _ _ _ _
   | exact ih1 _ _ _ _ _
   | exact ih2 _ _ _ _ _ _
theorem spec_OpenFor.mono : ∀ a0 a1 a2 k,LeO (spec_OpenFor.f k a0 a1 a2) (spec_OpenFor.f (k + 1) a0 a1 a2):=by
 intro a0 a1 a2 k
 obtain ⟨ih0,ih1,ih2⟩:=spec_OpenFor.mono_l k
 unfold spec_OpenFor.f
 repeat' first
   | (with_reducible exact ih0 _ _ _ _)
   | (with_reducible exact ih1 _ _ _ _ _)
   | (with_reducible exact ih2 _ _ _ _ _ _)
   | (with_reducible exact spec_l23Closed.mono _ _ _ _)
   | (with_reducible exact spec_l23Good.mono _ _)
   | (with_reducible exact spec_l23Sumps.mono _ _)
   | (with_reducible exact spec_l23Within.mono _ _ _)
   | (with_reducible exact LeO.refl _)
   | (with_reducible exact LeO.none _)
   | (with_reducible refine LeO.ite ?_ ?_)
   | (with_reducible refine LeO.bind ?_ (fun _=>?_))
   | exact ih0 _ _ _ _
   | exact ih1 _ _ _ _ _
   | exact ih2 _ _ _ _ _ _
set_option maxHeartbeats 8000000 in
set_option maxRecDepth 100000 in
theorem spec_OpenFor.calls (k : Nat) (A0 : Option Addr) (c0 : Nat) (l0 : List (S30)) (A1 : Option Addr) (c1 : Nat) (l1 : List (S44)) (a2 : Int) (r1 : Int) (r2 : Bool) (w : World) (hr0 : Kd.C k30 w A0 l0.length l0) (hc0 : l0.length≤c0) (hr1 : Kd.C k44 w A1 l1.length l1) (hc1 : l1.length≤c1) (h : spec_OpenFor.f k l0 l1 a2=some (r1,r2)) :
  Calls Try.prog 28 #[.slice A0 l0.length c0,.slice A1 l1.length c1,.int .i64 a2] w fun e w'=>e = .returned (.tuple #[.int .i64 r1,.bool r2])∧Below w.heap.size w w':=by
 have HR0:=amk hr0
 have HC0:=amk hc0
 clear hr0 hc0
 have HR1:=amk hr1
 have HC1:=amk hc1
 clear hr1 hc1
 have HB:=amk (Below.refl w.heap.size w)
 have H : ((spec_l23Good.f k l0).bind fun t472=>(if t472=true then ((spec_l23Sumps.f k l1).bind fun t473=>(if t473=true then ((spec_l1In.f a2 1 100).bind fun t474=>(spec_OpenFor.j0 k l0 l1 a2 (!t474))) else (spec_OpenFor.j0 k l0 l1 a2 true))) else (spec_OpenFor.j0 k l0 l1 a2 true)))=some (r1,r2):=h
 clear h
 have HC4:=amk H
 clear H
 go_enter Try.func28,Try.ntmps28
 go_upto_region 1 with (fail)
 go_cut [22] (fun v22 wc=>∃ (kq : Nat) (x22_3 : Bool),v22 = .bool x22_3∧Aside0 (spec_OpenFor.j0 kq l0 l1 a2 x22_3=some (r1,r2))∧Aside0 (kq≤k)∧Aside0 (Below w.heap.size w wc))
 case first=>
  have H:=HC4.out
  clear HC4
  replace H:=obs H
  obtain ⟨t472,A50,H⟩:=H
  replace H : (if t472=true then ((spec_l23Sumps.f k l1).bind fun t473=>(if t473=true then ((spec_l1In.f a2 1 100).bind fun t474=>(spec_OpenFor.j0 k l0 l1 a2 (!t474))) else (spec_OpenFor.j0 k l0 l1 a2 true))) else (spec_OpenFor.j0 k l0 l1 a2 true))=some (r1,r2):=H
  have A5:=amk A50
  clear A50
  by_cases c6 : t472=true
  ·subst c6
   have H1 : ((spec_l23Sumps.f k l1).bind fun t473=>(if t473=true then ((spec_l1In.f a2 1 100).bind fun t474=>(spec_OpenFor.j0 k l0 l1 a2 (!t474))) else (spec_OpenFor.j0 k l0 l1 a2 true)))=some (r1,r2):=by rw [if_pos rfl] at H;exact H
   clear H
   have H:=H1
   clear H1
   replace H:=obs H
   obtain ⟨t473,A70,H⟩:=H
   replace H : (if t473=true then ((spec_l1In.f a2 1 100).bind fun t474=>(spec_OpenFor.j0 k l0 l1 a2 (!t474))) else (spec_OpenFor.j0 k l0 l1 a2 true))=some (r1,r2):=H
   have A7:=amk A70
   clear A70
   by_cases c8 : t473=true
   ·subst c8
    have H1 : ((spec_l1In.f a2 1 100).bind fun t474=>(spec_OpenFor.j0 k l0 l1 a2 (!t474)))=some (r1,r2):=by rw [if_pos rfl] at H;exact H
    clear H
    have H:=H1
    clear H1
    replace H:=obs H
    obtain ⟨t474,A90,H⟩:=H
    replace H : (spec_OpenFor.j0 k l0 l1 a2 (!t474))=some (r1,r2):=H
    have A9:=amk A90
    clear A90
    have H':=amk H
    clear H
    go_wp2_with (first | ((with_reducible refine gate_callee (f:=53) rfl ?_);refine goesL_ (some 11) rfl rfl Try.func53 (by kernel_rfl) rfl #[.slice A0 l0.length c0] rfl mtt ?_;(with_reducible refine (spec_l23Good.calls k _ _ l0 true _ ?side1 ?side2 A5.out).mono ?_);(case side1=>exact ccc (Kd.C_below HR0.out HB.out));(case side2=>exact HC0.out);rintro e w10 ⟨rfl,hb⟩;refine ⟨_,rfl,?_⟩;replace HB:=amk (below_step (bel HB) hb);(try clear hb))|(go_at_call 71;(with_reducible refine (spec_l23Sumps.calls k _ _ l1 true _ ?side1 ?side2 A7.out).mono ?_);(case side1=>exact ccc (Kd.C_below HR1.out HB.out));(case side2=>exact HC1.out);rintro e w11 ⟨rfl,hb⟩;replace HB:=amk (below_step (bel HB) hb);(try clear hb))|(go_at_call 72;(with_reducible refine (spec_l1In.calls a2 1 100 t474 _ A9.out).mono ?_);rintro e w' ⟨rfl,⟨nd,rfl⟩⟩))
    go_meet
    case rel=>exact ⟨_,(!t474),rsd,H',⟨by first | omega | exact Nat.le_refl _⟩,⟨bel HB⟩⟩
   ·replace c8:=Bool.eq_false_iff.mpr c8
    subst c8
    have H1 : (spec_OpenFor.j0 k l0 l1 a2 true)=some (r1,r2):=by rw [if_neg (show ¬ (false=true) by decide)] at H;exact H
    clear H
    have H:=H1
    clear H1
    have H':=amk H
    clear H
    go_wp2_with (first | ((with_reducible refine gate_callee (f:=53) rfl ?_);refine goesL_ (some 11) rfl rfl Try.func53 (by kernel_rfl) rfl #[.slice A0 l0.length c0] rfl mtt ?_;(with_reducible refine (spec_l23Good.calls k _ _ l0 true _ ?side1 ?side2 A5.out).mono ?_);(case side1=>exact ccc (Kd.C_below HR0.out HB.out));(case side2=>exact HC0.out);rintro e w12 ⟨rfl,hb⟩;refine ⟨_,rfl,?_⟩;replace HB:=amk (below_step (bel HB) hb);(try clear hb))|(go_at_call 71;(with_reducible refine (spec_l23Sumps.calls k _ _ l1 false _ ?side1 ?side2 A7.out).mono ?_);(case side1=>exact ccc (Kd.C_below HR1.out HB.out));(case side2=>exact HC1.out);rintro e w13 ⟨rfl,hb⟩;replace HB:=amk (below_step (bel HB) hb);(try clear hb)))
    go_meet
    case rel=>exact ⟨_,(true),rsd,H',⟨by first | omega | exact Nat.le_refl _⟩,⟨bel HB⟩⟩
  ·replace c6:=Bool.eq_false_iff.mpr c6
   subst c6
   have H1 : (spec_OpenFor.j0 k l0 l1 a2 true)=some (r1,r2):=by rw [if_neg (show ¬ (false=true) by decide)] at H;exact H
   clear H
   have H:=H1
   clear H1
   have H':=amk H
   clear H
   go_wp2_with (first | ((with_reducible refine gate_callee (f:=53) rfl ?_);refine goesL_ (some 11) rfl rfl Try.func53 (by kernel_rfl) rfl #[.slice A0 l0.length c0] rfl mtt ?_;(with_reducible refine (spec_l23Good.calls k _ _ l0 false _ ?side1 ?side2 A5.out).mono ?_);(case side1=>exact ccc (Kd.C_below HR0.out HB.out));(case side2=>exact HC0.out);rintro e w14 ⟨rfl,hb⟩;refine ⟨_,rfl,?_⟩;replace HB:=amk (below_step (bel HB) hb);(try clear hb)))
   go_meet
   case rel=>exact ⟨_,(true),rsd,H',⟨by first | omega | exact Nat.le_refl _⟩,⟨bel HB⟩⟩
 case rest=>
  clear HC4
  try clear c1
  try clear c2
  try clear p2
  try clear c5
  try clear c6
  try clear c8
  obtain ⟨kq,x22_3,rfl,HA,HJ3,HB⟩:=hcut
  cases kq with
  | zero=>exact absurd HA.out (by simp [spec_OpenFor.j0])
  | succ kj3=>
   have H:=HA.out
   clear HA
   simp only [spec_OpenFor.j0] at H
   by_cases c15 : x22_3=true
   ·subst c15
    have H1 : (some (0,false))=some (r1,r2):=by rw [if_pos rfl] at H;exact H
    clear H
    have H:=H1
    clear H1
    simp only [Option.some.injEq,Prod.mk.injEq] at H
    obtain ⟨rfl,rfl⟩:=H
    go_wp2
    go_ret2
    exact ⟨erw0,bel HB⟩
   ·replace c15:=Bool.eq_false_iff.mpr c15
    subst c15
    have H1 : (spec_OpenFor.l0 kj3 l0 l1 a2 0 0)=some (r1,r2):=by rw [if_neg (show ¬ (false=true) by decide)] at H;exact H
    clear H
    have H:=H1
    clear H1
    have H':=amk H
    clear H
    go_wp2
    go_loopg [8,9] kj3 (fun kq v8 v9 w'=>∃ (x8_2 : Int) (x9_2 : Int),v8 = .int .i64 x8_2∧v9 = .int .i64 x9_2∧Aside0 (spec_OpenFor.l0 kq l0 l1 a2 x8_2 x9_2=some (r1,r2))∧Aside0 (kq≤kj3)∧Aside0 (Below w.heap.size w w'))
    case atStart=>exact ⟨(0),(0),rsd,rsd,H',⟨Nat.le_refl _⟩,⟨bel HB⟩⟩
    case round=>
     clear H'
     try clear c1
     try clear c2
     try clear p2
     try clear c5
     try clear c6
     try clear c8
     try clear c15
     try clear p2
     obtain ⟨x8_2,x9_2,rfl,rfl,HA,HK2,HB⟩:=hrel
     cases gk with
     | zero=>exact absurd HA.out (by simp [spec_OpenFor.l0])
     | succ k2=>
      have H:=HA.out
      clear HA
      simp only [spec_OpenFor.l0] at H
      by_cases c16 : x9_2≤999
      ·rw [if_pos c16] at H
       have c16b0 : decide (x9_2≤999)=true:=decide_eq_true c16
       clear c16
       have HC17:=amk H
       clear H
       go_upto_region 8 with (fail)
       go_cut [40] (fun v40 wc=>∃ (kq : Nat) (x40_16 : Bool),v40 = .bool x40_16∧Aside0 (spec_OpenFor.j2 kq l0 l1 a2 (wrap64 (x8_2 + 1)) x9_2 x40_16=some (r1,r2))∧Aside0 (kq≤k2)∧Aside0 (Below w.heap.size w wc))
       case first=>
        have H:=HC17.out
        clear HC17
        replace H:=obs H
        obtain ⟨t475,A180,H⟩:=H
        replace H : (if t475=true then ((spec_l23Closed.f k2 l0 l1 x9_2).bind fun t476=>(spec_OpenFor.j2 k2 l0 l1 a2 (wrap64 (x8_2 + 1)) x9_2 (decide ((t476.length : Int) > 0)))) else (spec_OpenFor.j2 k2 l0 l1 a2 (wrap64 (x8_2 + 1)) x9_2 true))=some (r1,r2):=H
        have A18:=amk A180
        clear A180
        by_cases c19 : t475=true
        ·subst c19
         have H1 : ((spec_l23Closed.f k2 l0 l1 x9_2).bind fun t476=>(spec_OpenFor.j2 k2 l0 l1 a2 (wrap64 (x8_2 + 1)) x9_2 (decide ((t476.length : Int) > 0))))=some (r1,r2):=by rw [if_pos rfl] at H;exact H
         clear H
         have H:=H1
         clear H1
         replace H:=obs H
         obtain ⟨t476,A200,H⟩:=H
         replace H : (spec_OpenFor.j2 k2 l0 l1 a2 (wrap64 (x8_2 + 1)) x9_2 (decide ((t476.length : Int) > 0)))=some (r1,r2):=H
         have A20:=amk A200
         clear A200
         have H':=amk H
         clear H
         go_wp2_with (first | ((with_reducible refine gate_callee (f:=51) rfl ?_);refine goesL_ (some 31) rfl rfl Try.func51 (by kernel_rfl) rfl #[.slice A0 l0.length c0,.int .i64 x9_2] rfl mtt ?_;(with_reducible refine (spec_l23Within.calls k2 _ _ l0 x9_2 true _ ?side1 ?side2 A18.out).mono ?_);(case side1=>exact ccc (Kd.C_below HR0.out HB.out));(case side2=>exact HC0.out);rintro e w21 ⟨rfl,hb⟩;refine ⟨_,rfl,?_⟩;replace HB:=amk (below_step (bel HB) hb);(try clear hb))|(go_at_call 73;(with_reducible refine (spec_l23Closed.calls k2 _ _ l0 _ _ l1 x9_2 t476 _ ?side1 ?side2 ?side3 ?side4 A20.out).mono ?_);(case side1=>exact ccc (Kd.C_below HR0.out HB.out));(case side2=>exact HC0.out);(case side3=>exact ccc (Kd.C_below HR1.out HB.out));(case side4=>exact HC1.out);rintro e w22 ⟨v477,rfl,ho0,hb⟩;have HO478:=amk (Kd.R_lower ho0 (below_size (bel HB)));replace HB:=amk (below_step (bel HB) hb);(try clear hb ho0);obtain ⟨Ao23,co23,eo23⟩:=Kd.R_slice HO478.out;subst eo23))
         go_meet
         case rel=>exact ⟨_,(decide ((t476.length : Int) > 0)),rsd,H',⟨by have:=HJ3.out;have:=HK2.out;first | omega | exact Nat.le_refl _⟩,⟨bel HB⟩⟩
        ·replace c19:=Bool.eq_false_iff.mpr c19
         subst c19
         have H1 : (spec_OpenFor.j2 k2 l0 l1 a2 (wrap64 (x8_2 + 1)) x9_2 true)=some (r1,r2):=by rw [if_neg (show ¬ (false=true) by decide)] at H;exact H
         clear H
         have H:=H1
         clear H1
         have H':=amk H
         clear H
         go_wp2_with (first | ((with_reducible refine gate_callee (f:=51) rfl ?_);refine goesL_ (some 31) rfl rfl Try.func51 (by kernel_rfl) rfl #[.slice A0 l0.length c0,.int .i64 x9_2] rfl mtt ?_;(with_reducible refine (spec_l23Within.calls k2 _ _ l0 x9_2 false _ ?side1 ?side2 A18.out).mono ?_);(case side1=>exact ccc (Kd.C_below HR0.out HB.out));(case side2=>exact HC0.out);rintro e w24 ⟨rfl,hb⟩;refine ⟨_,rfl,?_⟩;replace HB:=amk (below_step (bel HB) hb);(try clear hb)))
         go_meet
         case rel=>exact ⟨_,(true),rsd,H',⟨by have:=HJ3.out;have:=HK2.out;first | omega | exact Nat.le_refl _⟩,⟨bel HB⟩⟩
       case rest=>
        clear HC17
        try clear c1
        try clear c2
        try clear p2
        try clear c5
        try clear c6
        try clear p6
        try clear c8
        try clear c15
        try clear c16
        try clear c16b0
        try clear c19
        try clear p2
        obtain ⟨kq,x40_16,rfl,HA,HJ16,HB⟩:=hcut
        cases kq with
        | zero=>exact absurd HA.out (by simp [spec_OpenFor.j2])
        | succ kj16=>
         have H:=HA.out
         clear HA
         simp only [spec_OpenFor.j2] at H
         by_cases c25 : x40_16=true
         ·subst c25
          have H1 : (if 0=a2 then (some (wrap64 ((wrap64 (x9_2 - a2)) + 1),true)) else (spec_OpenFor.l0 kj16 l0 l1 a2 0 (wrap64 (x9_2 + 1))))=some (r1,r2):=by rw [if_pos rfl] at H;exact H
          clear H
          have H:=H1
          clear H1
          by_cases c26 : 0=a2
          ·rw [if_pos c26] at H
           have c26b0 : (0 == a2)=true:=beq_iff_eq.mpr c26
           have c26b1 : (0 != a2)=false:=bne_eq_false_iff_eq.mpr c26
           clear c26
           simp only [Option.some.injEq,Prod.mk.injEq] at H
           obtain ⟨rfl,rfl⟩:=H
           go_wp2
           go_ret2
           exact ⟨erw0,bel HB⟩
          ·rw [if_neg c26] at H
           have c26b0 : (0 == a2)=false:=beq_eq_false_iff_ne.mpr c26
           have c26b1 : (0 != a2)=true:=bne_iff_ne.mpr c26
           have H':=amk H
           clear H
           go_wp2
           go_roundg kj16
           case measure=>have:=HJ3.out;have:=HK2.out;have:=HJ16.out;omega
           case rel=>exact ⟨(0),(wrap64 (x9_2 + 1)),rsd,rsd,H',⟨by have:=HJ3.out;have:=HK2.out;have:=HJ16.out;omega⟩,⟨bel HB⟩⟩
         ·replace c25:=Bool.eq_false_iff.mpr c25
          subst c25
          have H1 : (if (wrap64 (x8_2 + 1))=a2 then (some (wrap64 ((wrap64 (x9_2 - a2)) + 1),true)) else (spec_OpenFor.l0 kj16 l0 l1 a2 (wrap64 (x8_2 + 1)) (wrap64 (x9_2 + 1))))=some (r1,r2):=by rw [if_neg (show ¬ (false=true) by decide)] at H;exact H
          clear H
          have H:=H1
          clear H1
          by_cases c27 : (wrap64 (x8_2 + 1))=a2
          ·rw [if_pos c27] at H
           have c27b0 : ((wrap64 (x8_2 + 1)) == a2)=true:=beq_iff_eq.mpr c27
           have c27b1 : ((wrap64 (x8_2 + 1)) != a2)=false:=bne_eq_false_iff_eq.mpr c27
           clear c27
           simp only [Option.some.injEq,Prod.mk.injEq] at H
           obtain ⟨rfl,rfl⟩:=H
           go_wp2
           go_ret2
           exact ⟨erw0,bel HB⟩
          ·rw [if_neg c27] at H
           have c27b0 : ((wrap64 (x8_2 + 1)) == a2)=false:=beq_eq_false_iff_ne.mpr c27
           have c27b1 : ((wrap64 (x8_2 + 1)) != a2)=true:=bne_iff_ne.mpr c27
           have H':=amk H
           clear H
           go_wp2
           go_roundg kj16
           case measure=>have:=HJ3.out;have:=HK2.out;have:=HJ16.out;omega
           case rel=>exact ⟨((wrap64 (x8_2 + 1))),(wrap64 (x9_2 + 1)),rsd,rsd,H',⟨by have:=HJ3.out;have:=HK2.out;have:=HJ16.out;omega⟩,⟨bel HB⟩⟩
      ·rw [if_neg c16] at H
       have c16b0 : decide (x9_2≤999)=false:=decide_eq_false c16
       clear c16
       simp only [Option.some.injEq,Prod.mk.injEq] at H
       obtain ⟨rfl,rfl⟩:=H
       go_wp2
       go_ret2
       exact ⟨erw0,bel HB⟩
mutual
def impl_AreSumps.l0 : Nat→List (S44)→List (S44)→Int→Int→Option (Bool)
 | 0,_,_,_,_=>none
 | k + 1,x0,x5,x6,x7=>if x7 < x6 then (if 0≤x7 then (if x7 < (x5.length : Int) then ((impl_isSump.f ((rd_T44 x5 x7).f0) ((rd_T44 x5 x7).f1) ((rd_T44 x5 x7).f2)).bind fun t489=>(if t489=true then (if x7 > 0 then (if 0≤(wrap64 (x7 - 1)) then (if (wrap64 (x7 - 1)) < (x0.length : Int) then (impl_AreSumps.j1 k x0 x5 x6 x7 (decide (((rd_T44 x0 (wrap64 (x7 - 1))).f0) ≥ ((rd_T44 x5 x7).f0)))) else (none)) else (none)) else (impl_AreSumps.j1 k x0 x5 x6 x7 false)) else (impl_AreSumps.j1 k x0 x5 x6 x7 true))) else (none)) else (none)) else (some true)
def impl_AreSumps.j1 : Nat→List (S44)→List (S44)→Int→Int→Bool→Option (Bool)
 | 0,_,_,_,_,_=>none
 | k + 1,x0,x5,x6,x7,x29=>if x29=true then (some false) else (impl_AreSumps.l0 k x0 x5 x6 (wrap64 (x7 + 1)))
end
def impl_AreSumps.f (k : Nat) (l0 : List (S44)) : Option (Bool):=impl_AreSumps.l0 k l0 l0 (l0.length : Int) 0
theorem impl_AreSumps.mono_l : ∀ k,(∀ y0 y1 y2 y3,LeO (impl_AreSumps.l0 k y0 y1 y2 y3) (impl_AreSumps.l0 (k + 1) y0 y1 y2 y3))∧(∀ y0 y1 y2 y3 y4,LeO (impl_AreSumps.j1 k y0 y1 y2 y3 y4) (impl_AreSumps.j1 (k + 1) y0 y1 y2 y3 y4))
 | 0=>⟨fun _ _ _ _ r h=>by simp [impl_AreSumps.l0] at h,fun _ _ _ _ _ r h=>by simp [impl_AreSumps.j1] at h⟩
 | k + 1=>by
  obtain ⟨ih0,ih1⟩:=impl_AreSumps.mono_l k
  refine ⟨?_,?_⟩
  ·intro y0 y1 y2 y3
   unfold impl_AreSumps.l0
   repeat' first
   | (with_reducible exact ih0 _ _ _ _)
   | (with_reducible exact ih1 _ _ _ _ _)
   | (with_reducible exact LeO.refl _)
   | (with_reducible exact LeO.none _)
   | (with_reducible refine LeO.ite ?_ ?_)
   | (with_reducible refine LeO.bind ?_ (fun _=>?_))
   | exact ih0 _ _ _ _
   | exact ih1 _ _ _ _ _
  ·intro y0 y1 y2 y3 y4
   unfold impl_AreSumps.j1
   repeat' first
   | (with_reducible exact ih0 _ _ _ _)
   | (with_reducible exact ih1 _ _ _ _ _)
   | (with_reducible exact LeO.refl _)
   | (with_reducible exact LeO.none _)
   | (with_reducible refine LeO.ite ?_ ?_)
   | (with_reducible refine LeO.bind ?_ (fun _=>?_))
   | exact ih0 _ _ _ _
   | exact ih1 _ _ _ _ _
theorem impl_AreSumps.mono : ∀ a0 k,LeO (impl_AreSumps.f k a0) (impl_AreSumps.f (k + 1) a0):=by
 intro a0 k
 obtain ⟨ih0,ih1⟩:=impl_AreSumps.mono_l k
 unfold impl_AreSumps.f
 repeat' first
   | (with_reducible exact ih0 _ _ _ _)
   | (with_reducible exact ih1 _ _ _ _ _)
   | (with_reducible exact LeO.refl _)
   | (with_reducible exact LeO.none _)
   | (with_reducible refine LeO.ite ?_ ?_)
   | (with_reducible refine LeO.bind ?_ (fun _=>?_))
   | exact ih0 _ _ _ _
   | exact ih1 _ _ _ _ _
def impl_AreSumps.T4 : Bool × List (List Nat × List Nat):=(true,[([],[]),([0],[0]),([1],[1]),([2,1],[2]),([3],[3]),([4,3],[3,4]),([5,3,3],[3,5]),([6],[6]),([6],[6]),([8,6],[6,8]),([7,9,6],[6,7,9]),([10,6],[6,10]),([11,6],[6,11]),([6],[6]),([13,6],[6,13]),([12,14,6],[6,12,14]),([6,15,3],[3,6,15]),([3,16],[3,16])])
def impl_AreSumps.B4 : List Nat:=[0,1,3,7,15,31,63,127,127,383,1023,2047,4095,127,8319,32767,65535,131071]
theorem impl_AreSumps.tab4 : rtab .any (opsOf Try.f41 4)=impl_AreSumps.T4:=by kernel_rfl
theorem impl_AreSumps.bits4 : waitsOk impl_AreSumps.T4.2 impl_AreSumps.B4=true:=by kernel_rfl
set_option maxHeartbeats 8000000 in
set_option maxRecDepth 100000 in
theorem impl_AreSumps.calls (k : Nat) (A0 : Option Addr) (c0 : Nat) (l0 : List (S44)) (r : Bool) (w : World) (hr0 : Kd.C k44 w A0 l0.length l0) (hc0 : l0.length≤c0) (h : impl_AreSumps.f k l0=some r) :
  Calls Try.prog 41 #[.slice A0 l0.length c0] w fun e w'=>e = .returned (.bool r)∧Below w.heap.size w w':=by
 have hu44:=Try.underlying44
 have HR0:=amk hr0
 have HC0:=amk hc0
 clear hr0 hc0
 have HB:=amk (Below.refl w.heap.size w)
 have H : (impl_AreSumps.l0 k l0 l0 (l0.length : Int) 0)=some r:=h
 clear h
 have H':=amk H
 clear H
 go_enter Try.func41,Try.ntmps41
 go_wp2
 go_loopg [7] k (fun kq v7 w'=>∃ (x7_1 : Int),v7 = .int .i64 x7_1∧Aside0 (impl_AreSumps.l0 kq l0 l0 (l0.length : Int) x7_1=some r)∧Aside0 (kq≤k)∧Aside0 (Below w.heap.size w w'))
 case atStart=>exact ⟨(0),rsd,H',⟨Nat.le_refl _⟩,⟨bel HB⟩⟩
 case round=>
  clear H'
  obtain ⟨x7_1,rfl,HA,HK1,HB⟩:=hrel
  cases gk with
  | zero=>exact absurd HA.out (by simp [impl_AreSumps.l0])
  | succ k1=>
   have H:=HA.out
   clear HA
   simp only [impl_AreSumps.l0] at H
   by_cases c2 : x7_1 < (l0.length : Int)
   ·rw [if_pos c2] at H
    have c2b0 : decide (x7_1 < (l0.length : Int))=true:=decide_eq_true c2
    clear c2
    by_cases c3 : 0≤x7_1
    ·rw [if_pos c3] at H
     have c3b0 : decide (0≤x7_1)=true:=decide_eq_true c3
     clear c3
     by_cases c4 : x7_1 < (l0.length : Int)
     ·rw [if_pos c4] at H
      have c4b0 : decide (x7_1 < (l0.length : Int))=true:=decide_eq_true c4
      clear c4
      have HC5:=amk H
      clear H
      have p487 : 0≤(x7_1 : Int):=of_decide_eq_true ass
      have q487 : x7_1 < (l0.length : Int):=of_decide_eq_true ass
      obtain ⟨ad487,e487,hx487_0,hx487_1,hx487_2⟩:=at_T44 HR0.out x7_1 p487 q487
      cases e487
      replace hx487_0:=(HB.out.cell (World.block_lt_of_cell? w _ hx487_0)).trans hx487_0
      replace hx487_1:=(HB.out.cell (World.block_lt_of_cell? w _ hx487_1)).trans hx487_1
      replace hx487_2:=(HB.out.cell (World.block_lt_of_cell? w _ hx487_2)).trans hx487_2
      replace p487:=eq_true p487
      replace q487:=eq_true q487
      go_upto_region 4 with (first | ((with_reducible refine gate_dst (N:=4) rfl ?_);refine box_event ?hg (N:=4) ?hd (cs:=#[.int .i64 0,.int .i64 0,.int .i64 0]) (t:=44) ?hr ?_;(case hd=>rfl);(case hg=>rfl);(case hr=>first | (go_simp;done)|(go_simp;rfl));intro gb488 hg w6 hbox hb;have BK488:=amk (hbox);have GW488:=amk ((by rw [hg];exact (below_size (bel HB)) : w.heap.size≤gb488));have GE488:=amk ((by rw [hg];exact (below_size (bel HB)) : w.heap.size≤gb488));replace HB:=amk (below_step (bel HB) hb);clear hb hbox hg;have hcz7_0 : w6.cell? ⟨gb488,0,none⟩=some (.int .i64 0):=(blk_cell BK488.out 0).trans rfl;have hcz7_1 : w6.cell? ⟨gb488,1,none⟩=some (.int .i64 0):=(blk_cell BK488.out 1).trans rfl;have hcz7_2 : w6.cell? ⟨gb488,2,none⟩=some (.int .i64 0):=(blk_cell BK488.out 2).trans rfl;have hfz7_0:=blk_frozen BK488.out 0;have hfz7_1:=blk_frozen BK488.out 1;have hfz7_2:=blk_frozen BK488.out 2))
      (try simp only [Act.put,List.setIfInBounds_toArray,List.set_cons_zero,List.set_cons_succ])
      go_cut [29] (fun v29 wc=>∃ (kq : Nat) (x29_4 : Bool),v29 = .bool x29_4∧Aside0 (impl_AreSumps.j1 kq l0 l0 (l0.length : Int) x7_1 x29_4=some r)∧Aside0 (kq≤k1)∧Aside0 (wc.heap[gb488]? = some (.cells #[.int .i64 ((rd_T44 l0 x7_1).f0),.int .i64 ((rd_T44 l0 x7_1).f1),.int .i64 ((rd_T44 l0 x7_1).f2)] 44 (0,0)))∧Aside0 (Below w.heap.size w wc))
      case first=>
       have H:=HC5.out
       clear HC5
       replace H:=obs H
       obtain ⟨t489,A80,H⟩:=H
       replace H : (if t489=true then (if x7_1 > 0 then (if 0≤(wrap64 (x7_1 - 1)) then (if (wrap64 (x7_1 - 1)) < (l0.length : Int) then (impl_AreSumps.j1 k1 l0 l0 (l0.length : Int) x7_1 (decide (((rd_T44 l0 (wrap64 (x7_1 - 1))).f0) ≥ ((rd_T44 l0 x7_1).f0)))) else (none)) else (none)) else (impl_AreSumps.j1 k1 l0 l0 (l0.length : Int) x7_1 false)) else (impl_AreSumps.j1 k1 l0 l0 (l0.length : Int) x7_1 true))=some r:=H
       have A8:=amk A80
       clear A80
       by_cases c9 : t489=true
       ·subst c9
        have H1 : (if x7_1 > 0 then (if 0≤(wrap64 (x7_1 - 1)) then (if (wrap64 (x7_1 - 1)) < (l0.length : Int) then (impl_AreSumps.j1 k1 l0 l0 (l0.length : Int) x7_1 (decide (((rd_T44 l0 (wrap64 (x7_1 - 1))).f0) ≥ ((rd_T44 l0 x7_1).f0)))) else (none)) else (none)) else (impl_AreSumps.j1 k1 l0 l0 (l0.length : Int) x7_1 false))=some r:=by rw [if_pos rfl] at H;exact H
        clear H
        have H:=H1
        clear H1
        by_cases c10 : x7_1 > 0
        ·rw [if_pos c10] at H
         have c10b0 : decide (0 < x7_1)=true:=decide_eq_true c10
         clear c10
         (first | rw [c10b0] | (simp only [i64_w,i32_w];rw [c10b0]) | skip)
         obtain ⟨ji11,hji11⟩ : ∃ j_ : Int,(wrap64 (x7_1 - 1))=j_:=⟨_,rfl⟩
         replace H : (if 0≤(ji11) then (if (ji11) < (l0.length : Int) then (impl_AreSumps.j1 k1 l0 l0 (l0.length : Int) x7_1 (decide (((rd_T44 l0 (ji11)).f0) ≥ ((rd_T44 l0 x7_1).f0)))) else (none)) else (none))=some r:=by first | (rw [hji11] at H;exact H)|(simp only [hji11] at H ⊢;exact H)
         (try rw [hji11] at A8)
         have hji11w : (IntKind.i64.wrap (x7_1 - 1))=ji11:=(i64_w _).trans hji11
         by_cases c12 : 0≤(ji11)
         ·rw [if_pos c12] at H
          have c12b0 : decide (0≤(ji11))=true:=decide_eq_true c12
          clear c12
          by_cases c13 : (ji11) < (l0.length : Int)
          ·rw [if_pos c13] at H
           have c13b0 : decide ((ji11) < (l0.length : Int))=true:=decide_eq_true c13
           clear c13
           have H':=amk H
           clear H
           try go_wp2
           have n0_ : Aside0 ((((w6.setCell ⟨gb488,0,none⟩ (.int .i64 ((rd_T44 l0 x7_1).f0))).setCell ⟨gb488,1,none⟩ (.int .i64 ((rd_T44 l0 x7_1).f1))).setCell ⟨gb488,2,none⟩ (.int .i64 ((rd_T44 l0 x7_1).f2))).heap[gb488]? = some (.cells #[.int .i64 ((rd_T44 l0 x7_1).f0),.int .i64 ((rd_T44 l0 x7_1).f1),.int .i64 ((rd_T44 l0 x7_1).f2)] 44 (0,0))):=⟨by (with_reducible repeat (first | refine blk_drewN ?_ _ | refine blk_drew ?_ | refine blk_alloc ?_ _));refine blk_put (cs:=#[.int .i64 ((rd_T44 l0 x7_1).f0),.int .i64 ((rd_T44 l0 x7_1).f1),.int .i64 0]) ?_ 2 _ rfl;(with_reducible repeat (first | refine blk_drewN ?_ _ | refine blk_drew ?_ | refine blk_alloc ?_ _));refine blk_put (cs:=#[.int .i64 ((rd_T44 l0 x7_1).f0),.int .i64 0,.int .i64 0]) ?_ 1 _ rfl;(with_reducible repeat (first | refine blk_drewN ?_ _ | refine blk_drew ?_ | refine blk_alloc ?_ _));refine blk_put (cs:=#[.int .i64 0,.int .i64 0,.int .i64 0]) ?_ 0 _ rfl;(with_reducible repeat (first | refine blk_drewN ?_ _ | refine blk_drew ?_ | refine blk_alloc ?_ _));exact BK488.out⟩
           have n1_ : Aside0 (Below w.heap.size w (((w6.setCell ⟨gb488,0,none⟩ (.int .i64 ((rd_T44 l0 x7_1).f0))).setCell ⟨gb488,1,none⟩ (.int .i64 ((rd_T44 l0 x7_1).f1))).setCell ⟨gb488,2,none⟩ (.int .i64 ((rd_T44 l0 x7_1).f2)))):=⟨bel1 HB GE488.out⟩
           (try clear BK488)
           (try clear HB)
           generalize (((w6.setCell ⟨gb488,0,none⟩ (.int .i64 ((rd_T44 l0 x7_1).f0))).setCell ⟨gb488,1,none⟩ (.int .i64 ((rd_T44 l0 x7_1).f1))).setCell ⟨gb488,2,none⟩ (.int .i64 ((rd_T44 l0 x7_1).f2)))=w14 at n0_ n1_ ⊢
           have BK488:=n0_
           have HB:=n1_
           clear n0_ n1_
           have n0_:=amk (blk_drew BK488.out)
           have n1_:=amk (below_drew1 HB.out)
           clear BK488
           clear HB
           have BK488:=n0_
           have HB:=n1_
           clear n0_ n1_
           have p490 : 0≤((ji11) : Int):=of_decide_eq_true ass
           have q490 : (ji11) < (l0.length : Int):=of_decide_eq_true ass
           obtain ⟨ad490,e490,hx490_0,hx490_1,hx490_2⟩:=at_T44 HR0.out (ji11) p490 q490
           have hw490_2:=hx490_2
           have hw490_1:=hx490_1
           have hw490_0:=hx490_0
           obtain rfl : ad487=ad490:=(by injection e490)
           replace hx490_0:=(HB.out.cell (World.block_lt_of_cell? w _ hx490_0)).trans hx490_0
           replace hx490_1:=(HB.out.cell (World.block_lt_of_cell? w _ hx490_1)).trans hx490_1
           replace hx490_2:=(HB.out.cell (World.block_lt_of_cell? w _ hx490_2)).trans hx490_2
           replace p490:=eq_true p490
           replace q490:=eq_true q490
           refine start_ (n:=18) (S:=fun w'=>w'.cell? ⟨gb488,0,none⟩=some (.int .i64 ((rd_T44 l0 x7_1).f0))∧w'.cell? ⟨gb488,1,none⟩=some (.int .i64 ((rd_T44 l0 x7_1).f1))∧w'.cell? ⟨gb488,2,none⟩=some (.int .i64 ((rd_T44 l0 x7_1).f2))∧w'.cell? (ad487.add (((ji11)).toNat * 3))=some (.int .i64 ((rd_T44 l0 (ji11)).f0))∧w'.cell? ⟨(ad487.add (((ji11)).toNat * 3)).block,(ad487.add (((ji11)).toNat * 3)).off + 1,none⟩=some (.int .i64 ((rd_T44 l0 (ji11)).f1))∧w'.cell? ⟨(ad487.add (((ji11)).toNat * 3)).block,(ad487.add (((ji11)).toNat * 3)).off + 2,none⟩=some (.int .i64 ((rd_T44 l0 (ji11)).f2))) (ds:=[]) #[F0,F0,F0,F0,F0,F0,F0,F0,F0,F0,F0,F0,F0,F0,F0,F0,F0,F0] (by kernel_rfl) rfl rfl ⟨(blk_cell BK488.out 0).trans rfl,(blk_cell BK488.out 1).trans rfl,(blk_cell BK488.out 2).trans rfl,((HB.out.cell (World.block_lt_of_cell? w _ hw490_0)).trans hw490_0),((HB.out.cell (World.block_lt_of_cell? w _ hw490_1)).trans hw490_1),((HB.out.cell (World.block_lt_of_cell? w _ hw490_2)).trans hw490_2)⟩ (fun hHeld=>?_);refine with_tabW impl_AreSumps.tab4 impl_AreSumps.bits4 (fun HT_ HW_=>?_)
           generalize w14.drew=w15 at BK488 HB hx490_0 hx490_1 hx490_2 hHeld ⊢
           refine take_ (i:=0) (N:=some 12) (v:=?_) (a':=?_) #[T0,F0,F0,F0,F0,F0,F0,F0,F0,F0,F0,F0,F0,F0,F0,F0,F0,F0] rfl rfl (take_ofW HT_.out HW_.out (by kernel_rfl)) (fun _ _ _ h=>h) (Or.inl ⟨by rfl,?_⟩) hHeld ?_ ?_
           rotate_left
           ·rintro w' ⟨s0,s1,s2,s3,s4,s5⟩
            go_simp
            with_reducible rfl
           rotate_left
           ·simp only [Act.put,sI,sZ,sS,i64_w,i32_w]
            rfl
           refine one_ (i:=1) (N:=some 13) #[T0,T0,F0,F0,F0,F0,F0,F0,F0,F0,F0,F0,F0,F0,F0,F0,F0,F0] rfl rfl (one_of HT_.out (by kernel_rfl)) (by decide) (fun K hK=>?_)
           refine goes_ Try.func62 (by kernel_rfl) rfl #[.agg #[.int .i64 ((rd_T44 l0 x7_1).f0),.int .i64 ((rd_T44 l0 x7_1).f1),.int .i64 ((rd_T44 l0 x7_1).f2)]] (by rfl) rfl rfl mtt ?_
           with_reducible refine (impl_isSump.calls ((rd_T44 l0 x7_1).f0) ((rd_T44 l0 x7_1).f1) ((rd_T44 l0 x7_1).f2) true _ A8.out).mono ?_
           rintro e w16 ⟨rfl,hb⟩
           refine ⟨_,rfl,?_⟩
           have n0_:=amk (blk_below (g:=gb488) (o:=.cells #[.int .i64 ((rd_T44 l0 x7_1).f0),.int .i64 ((rd_T44 l0 x7_1).f1),.int .i64 ((rd_T44 l0 x7_1).f2)] 44 (0,0)) (bkk BK488) hb)
           have n1_:=amk (below_step (bel1 HB GE488.out) hb)
           clear BK488
           clear HB
           have BK488:=n0_
           have HB:=n1_
           clear n0_ n1_
           (try clear hb)
           (try clear hb2)
           (try clear hk)
           (try clear hi)
           refine hK.out _ _ ⟨(blk_cell BK488.out 0).trans rfl,(blk_cell BK488.out 1).trans rfl,(blk_cell BK488.out 2).trans rfl,((HB.out.cell (World.block_lt_of_cell? w _ hw490_0)).trans hw490_0),((HB.out.cell (World.block_lt_of_cell? w _ hw490_1)).trans hw490_1),((HB.out.cell (World.block_lt_of_cell? w _ hw490_2)).trans hw490_2)⟩ (fun hHeld=>?_)
           clear hK K
           refine norm_ (a':=?_) ?_ ?_
           rotate_left
           ·show Act.put _ (some 13) _=_
            simp only [Act.put,sI,sZ,sS,i64_w,i32_w]
            rfl
           refine pure_ (i:=2) (N:=some 14) (v:=?_) (a':=?_) #[T0,T0,T0,F0,F0,F0,F0,F0,F0,F0,F0,F0,F0,F0,F0,F0,F0,F0] rfl rfl (any_of HT_.out (by kernel_rfl)) (fun _ _ _ h=>h) (Or.inl ⟨by rfl,?_⟩) ?_ ?_
           rotate_left
           ·intro w'
            go_simp
            with_reducible rfl
           rotate_left
           ·simp only [Act.put,sI,sZ,sS,i64_w,i32_w]
            rfl
           refine pure_ (i:=3) (N:=some 15) (v:=?_) (a':=?_) #[T0,T0,T0,T0,F0,F0,F0,F0,F0,F0,F0,F0,F0,F0,F0,F0,F0,F0] rfl rfl (any_of HT_.out (by kernel_rfl)) (fun _ _ _ h=>h) (Or.inl ⟨by rfl,?_⟩) ?_ ?_
           rotate_left
           ·intro w'
            go_simp
            with_reducible rfl
           rotate_left
           ·simp only [Act.put,sI,sZ,sS,i64_w,i32_w]
            rfl
           refine pure_ (i:=4) (N:=some 16) (v:=?_) (a':=?_) #[T0,T0,T0,T0,T0,F0,F0,F0,F0,F0,F0,F0,F0,F0,F0,F0,F0,F0] rfl rfl (any_of HT_.out (by kernel_rfl)) (fun _ _ _ h=>h) (Or.inl ⟨by rfl,?_⟩) ?_ ?_
           rotate_left
           ·intro w'
            go_simp
            with_reducible rfl
           rotate_left
           ·simp only [Act.put,sI,sZ,sS,i64_w,i32_w]
            rfl
           refine pure_ (i:=5) (N:=some 17) (v:=?_) (a':=?_) #[T0,T0,T0,T0,T0,T0,F0,F0,F0,F0,F0,F0,F0,F0,F0,F0,F0,F0] rfl rfl (any_of HT_.out (by kernel_rfl)) (fun _ _ _ h=>h) (Or.inl ⟨by rfl,?_⟩) ?_ ?_
           rotate_left
           ·intro w'
            go_simp
            with_reducible rfl
           rotate_left
           ·simp only [Act.put,sI,sZ,sS,i64_w,i32_w]
            rfl
           refine pure_ (i:=6) (N:=some 18) (v:=?_) (a':=?_) #[T0,T0,T0,T0,T0,T0,T0,F0,F0,F0,F0,F0,F0,F0,F0,F0,F0,F0] rfl rfl (any_of HT_.out (by kernel_rfl)) (fun _ _ _ h=>h) (Or.inl ⟨by rfl,?_⟩) ?_ ?_
           rotate_left
           ·intro w'
            go_simp
            with_reducible rfl
           rotate_left
           ·simp only [Act.put,sI,sZ,sS,i64_w,i32_w]
            rfl
           refine pure_ (i:=7) (N:=some 19) (v:=?_) (a':=?_) #[T0,T0,T0,T0,T0,T0,T0,T0,F0,F0,F0,F0,F0,F0,F0,F0,F0,F0] rfl rfl (any_of HT_.out (by kernel_rfl)) (fun _ _ _ h=>h) (Or.inl ⟨by rfl,?_⟩) ?_ ?_
           rotate_left
           ·intro w'
            go_simp
            with_reducible rfl
           rotate_left
           ·simp only [Act.put,sI,sZ,sS,i64_w,i32_w]
            rfl
           refine pure_ (i:=8) (N:=some 20) (v:=?_) (a':=?_) #[T0,T0,T0,T0,T0,T0,T0,T0,T0,F0,F0,F0,F0,F0,F0,F0,F0,F0] rfl rfl (any_of HT_.out (by kernel_rfl)) (fun _ _ _ h=>h) (Or.inl ⟨by rfl,?_⟩) ?_ ?_
           rotate_left
           ·intro w'
            go_simp
            with_reducible rfl
           rotate_left
           ·simp only [Act.put,sI,sZ,sS,i64_w,i32_w]
            rfl
           refine pure_ (i:=9) (N:=some 21) (v:=?_) (a':=?_) #[T0,T0,T0,T0,T0,T0,T0,T0,T0,T0,F0,F0,F0,F0,F0,F0,F0,F0] rfl rfl (any_of HT_.out (by kernel_rfl)) (fun _ _ _ h=>h) (Or.inl ⟨by rfl,?_⟩) ?_ ?_
           rotate_left
           ·intro w'
            go_simp
            with_reducible rfl
           rotate_left
           ·simp only [Act.put,sI,sZ,sS,i64_w,i32_w]
            rfl
           refine pure_ (i:=10) (N:=some 22) (v:=?_) (a':=?_) #[T0,T0,T0,T0,T0,T0,T0,T0,T0,T0,T0,F0,F0,F0,F0,F0,F0,F0] rfl rfl (any_of HT_.out (by kernel_rfl)) (fun _ _ _ h=>h) (Or.inl ⟨by rfl,?_⟩) ?_ ?_
           rotate_left
           ·intro w'
            go_simp
            with_reducible rfl
           rotate_left
           ·simp only [Act.put,sI,sZ,sS,i64_w,i32_w]
            rfl
           refine pure_ (i:=11) (N:=some 23) (v:=?_) (a':=?_) #[T0,T0,T0,T0,T0,T0,T0,T0,T0,T0,T0,T0,F0,F0,F0,F0,F0,F0] rfl rfl (any_of HT_.out (by kernel_rfl)) (fun _ _ _ h=>h) (Or.inl ⟨by rfl,?_⟩) ?_ ?_
           rotate_left
           ·intro w'
            go_simp
            with_reducible rfl
           rotate_left
           ·simp only [Act.put,sI,sZ,sS,i64_w,i32_w]
            rfl
           refine pure_ (i:=13) (N:=some 25) (v:=?_) (a':=?_) #[T0,T0,T0,T0,T0,T0,T0,T0,T0,T0,T0,T0,F0,T0,F0,F0,F0,F0] rfl rfl (any_of HT_.out (by kernel_rfl)) (fun _ _ _ h=>h) (Or.inl ⟨by rfl,?_⟩) ?_ ?_
           rotate_left
           ·intro w'
            go_simp
            with_reducible rfl
           rotate_left
           ·simp only [Act.put,sI,sZ,sS,i64_w,i32_w]
            rfl
           refine take_ (i:=12) (N:=some 24) (v:=?_) (a':=?_) #[T0,T0,T0,T0,T0,T0,T0,T0,T0,T0,T0,T0,T0,T0,F0,F0,F0,F0] rfl rfl (take_ofW HT_.out HW_.out (by kernel_rfl)) (fun _ _ _ h=>h) (Or.inl ⟨by rfl,?_⟩) hHeld ?_ ?_
           rotate_left
           ·rintro w' ⟨s0,s1,s2,s3,s4,s5⟩
            go_simp
            with_reducible rfl
           rotate_left
           ·simp only [Act.put,sI,sZ,sS,i64_w,i32_w]
            rfl
           refine take_ (i:=14) (N:=some 26) (v:=?_) (a':=?_) #[T0,T0,T0,T0,T0,T0,T0,T0,T0,T0,T0,T0,T0,T0,T0,F0,F0,F0] rfl rfl (take_ofW HT_.out HW_.out (by kernel_rfl)) (fun _ _ _ h=>h) (Or.inl ⟨by rfl,?_⟩) hHeld ?_ ?_
           rotate_left
           ·rintro w' ⟨s0,s1,s2,s3,s4,s5⟩
            go_simp
            with_reducible rfl
           rotate_left
           ·simp only [Act.put,sI,sZ,sS,i64_w,i32_w]
            rfl
           refine pure_ (i:=15) (N:=some 27) (v:=?_) (a':=?_) #[T0,T0,T0,T0,T0,T0,T0,T0,T0,T0,T0,T0,T0,T0,T0,T0,F0,F0] rfl rfl (any_of HT_.out (by kernel_rfl)) (fun _ _ _ h=>h) (Or.inl ⟨by rfl,?_⟩) ?_ ?_
           rotate_left
           ·intro w'
            go_simp
            with_reducible rfl
           rotate_left
           ·simp only [Act.put,sI,sZ,sS,i64_w,i32_w]
            rfl
           refine pure_ (i:=16) (N:=some 28) (v:=?_) (a':=?_) #[T0,T0,T0,T0,T0,T0,T0,T0,T0,T0,T0,T0,T0,T0,T0,T0,T0,F0] rfl rfl (any_of HT_.out (by kernel_rfl)) (fun _ _ _ h=>h) (Or.inl ⟨by rfl,?_⟩) ?_ ?_
           rotate_left
           ·intro w'
            go_simp
            with_reducible rfl
           rotate_left
           ·simp only [Act.put,sI,sZ,sS,i64_w,i32_w]
            rfl
           refine pure_ (i:=17) (N:=some 29) (v:=?_) (a':=?_) #[T0,T0,T0,T0,T0,T0,T0,T0,T0,T0,T0,T0,T0,T0,T0,T0,T0,T0] rfl rfl (any_of HT_.out (by kernel_rfl)) (fun _ _ _ h=>h) (Or.inl ⟨by rfl,?_⟩) ?_ ?_
           rotate_left
           ·intro w'
            go_simp
            with_reducible rfl
           rotate_left
           ·simp only [Act.put,sI,sZ,sS,i64_w,i32_w]
            rfl
           refine done_ (done_of HT_.out (by kernel_rfl)) ?_
           try go_wp2
           go_meet
           case rel=>exact ⟨_,(decide (((rd_T44 l0 (ji11)).f0) ≥ ((rd_T44 l0 x7_1).f0))),(by first | rfl | (simp;done)|(simp only [← hji11] <;> (first | rfl | simp))|(simp [*];done)),H',⟨by have:=HK1.out;first | omega | exact Nat.le_refl _⟩,⟨by (with_reducible repeat (first | refine blk_drewN ?_ _ | refine blk_drew ?_ | refine blk_alloc ?_ _));exact BK488.out⟩,⟨bel1 HB GE488.out⟩⟩
          ·rw [if_neg c13] at H
           exact absurd H (by simp)
         ·rw [if_neg c12] at H
          exact absurd H (by simp)
        ·rw [if_neg c10] at H
         have c10b0 : decide (0 < x7_1)=false:=decide_eq_false c10
         clear c10
         (first | rw [c10b0] | (simp only [i64_w,i32_w];rw [c10b0]) | skip)
         have H':=amk H
         clear H
         try go_wp2
         have n0_ : Aside0 ((((w6.setCell ⟨gb488,0,none⟩ (.int .i64 ((rd_T44 l0 x7_1).f0))).setCell ⟨gb488,1,none⟩ (.int .i64 ((rd_T44 l0 x7_1).f1))).setCell ⟨gb488,2,none⟩ (.int .i64 ((rd_T44 l0 x7_1).f2))).heap[gb488]? = some (.cells #[.int .i64 ((rd_T44 l0 x7_1).f0),.int .i64 ((rd_T44 l0 x7_1).f1),.int .i64 ((rd_T44 l0 x7_1).f2)] 44 (0,0))):=⟨by (with_reducible repeat (first | refine blk_drewN ?_ _ | refine blk_drew ?_ | refine blk_alloc ?_ _));refine blk_put (cs:=#[.int .i64 ((rd_T44 l0 x7_1).f0),.int .i64 ((rd_T44 l0 x7_1).f1),.int .i64 0]) ?_ 2 _ rfl;(with_reducible repeat (first | refine blk_drewN ?_ _ | refine blk_drew ?_ | refine blk_alloc ?_ _));refine blk_put (cs:=#[.int .i64 ((rd_T44 l0 x7_1).f0),.int .i64 0,.int .i64 0]) ?_ 1 _ rfl;(with_reducible repeat (first | refine blk_drewN ?_ _ | refine blk_drew ?_ | refine blk_alloc ?_ _));refine blk_put (cs:=#[.int .i64 0,.int .i64 0,.int .i64 0]) ?_ 0 _ rfl;(with_reducible repeat (first | refine blk_drewN ?_ _ | refine blk_drew ?_ | refine blk_alloc ?_ _));exact BK488.out⟩
         have n1_ : Aside0 (Below w.heap.size w (((w6.setCell ⟨gb488,0,none⟩ (.int .i64 ((rd_T44 l0 x7_1).f0))).setCell ⟨gb488,1,none⟩ (.int .i64 ((rd_T44 l0 x7_1).f1))).setCell ⟨gb488,2,none⟩ (.int .i64 ((rd_T44 l0 x7_1).f2)))):=⟨bel1 HB GE488.out⟩
         (try clear BK488)
         (try clear HB)
         generalize (((w6.setCell ⟨gb488,0,none⟩ (.int .i64 ((rd_T44 l0 x7_1).f0))).setCell ⟨gb488,1,none⟩ (.int .i64 ((rd_T44 l0 x7_1).f1))).setCell ⟨gb488,2,none⟩ (.int .i64 ((rd_T44 l0 x7_1).f2)))=w17 at n0_ n1_ ⊢
         have BK488:=n0_
         have HB:=n1_
         clear n0_ n1_
         have n0_:=amk (blk_drew BK488.out)
         have n1_:=amk (below_drew1 HB.out)
         clear BK488
         clear HB
         have BK488:=n0_
         have HB:=n1_
         clear n0_ n1_
         refine start_ (n:=18) (S:=fun w'=>w'.cell? ⟨gb488,0,none⟩=some (.int .i64 ((rd_T44 l0 x7_1).f0))∧w'.cell? ⟨gb488,1,none⟩=some (.int .i64 ((rd_T44 l0 x7_1).f1))∧w'.cell? ⟨gb488,2,none⟩=some (.int .i64 ((rd_T44 l0 x7_1).f2))) (ds:=[]) #[F0,F0,F0,F0,F0,F0,F0,F0,F0,F0,F0,F0,F0,F0,F0,F0,F0,F0] (by kernel_rfl) rfl rfl ⟨(blk_cell BK488.out 0).trans rfl,(blk_cell BK488.out 1).trans rfl,(blk_cell BK488.out 2).trans rfl⟩ (fun hHeld=>?_);refine with_tabW impl_AreSumps.tab4 impl_AreSumps.bits4 (fun HT_ HW_=>?_)
         generalize w17.drew=w18 at BK488 HB hHeld ⊢
         refine take_ (i:=0) (N:=some 12) (v:=?_) (a':=?_) #[T0,F0,F0,F0,F0,F0,F0,F0,F0,F0,F0,F0,F0,F0,F0,F0,F0,F0] rfl rfl (take_ofW HT_.out HW_.out (by kernel_rfl)) (fun _ _ _ h=>h) (Or.inl ⟨by rfl,?_⟩) hHeld ?_ ?_
         rotate_left
         ·rintro w' ⟨s0,s1,s2⟩
          go_simp
          with_reducible rfl
         rotate_left
         ·simp only [Act.put,sI,sZ,sS,i64_w,i32_w]
          rfl
         refine one_ (i:=1) (N:=some 13) #[T0,T0,F0,F0,F0,F0,F0,F0,F0,F0,F0,F0,F0,F0,F0,F0,F0,F0] rfl rfl (one_of HT_.out (by kernel_rfl)) (by decide) (fun K hK=>?_)
         refine goes_ Try.func62 (by kernel_rfl) rfl #[.agg #[.int .i64 ((rd_T44 l0 x7_1).f0),.int .i64 ((rd_T44 l0 x7_1).f1),.int .i64 ((rd_T44 l0 x7_1).f2)]] (by rfl) rfl rfl mtt ?_
         with_reducible refine (impl_isSump.calls ((rd_T44 l0 x7_1).f0) ((rd_T44 l0 x7_1).f1) ((rd_T44 l0 x7_1).f2) true _ A8.out).mono ?_
         rintro e w19 ⟨rfl,hb⟩
         refine ⟨_,rfl,?_⟩
         have n0_:=amk (blk_below (g:=gb488) (o:=.cells #[.int .i64 ((rd_T44 l0 x7_1).f0),.int .i64 ((rd_T44 l0 x7_1).f1),.int .i64 ((rd_T44 l0 x7_1).f2)] 44 (0,0)) (bkk BK488) hb)
         have n1_:=amk (below_step (bel1 HB GE488.out) hb)
         clear BK488
         clear HB
         have BK488:=n0_
         have HB:=n1_
         clear n0_ n1_
         (try clear hb)
         (try clear hb2)
         (try clear hk)
         (try clear hi)
         refine hK.out _ _ ⟨(blk_cell BK488.out 0).trans rfl,(blk_cell BK488.out 1).trans rfl,(blk_cell BK488.out 2).trans rfl⟩ (fun hHeld=>?_)
         clear hK K
         refine norm_ (a':=?_) ?_ ?_
         rotate_left
         ·show Act.put _ (some 13) _=_
          simp only [Act.put,sI,sZ,sS,i64_w,i32_w]
          rfl
         refine pure_ (i:=2) (N:=some 14) (v:=?_) (a':=?_) #[T0,T0,T0,F0,F0,F0,F0,F0,F0,F0,F0,F0,F0,F0,F0,F0,F0,F0] rfl rfl (any_of HT_.out (by kernel_rfl)) (fun _ _ _ h=>h) (Or.inl ⟨by rfl,?_⟩) ?_ ?_
         rotate_left
         ·intro w'
          go_simp
          with_reducible rfl
         rotate_left
         ·simp only [Act.put,sI,sZ,sS,i64_w,i32_w]
          rfl
         refine pure_ (i:=3) (N:=some 15) (v:=?_) (a':=?_) #[T0,T0,T0,T0,F0,F0,F0,F0,F0,F0,F0,F0,F0,F0,F0,F0,F0,F0] rfl rfl (any_of HT_.out (by kernel_rfl)) (fun _ _ _ h=>h) (Or.inl ⟨by rfl,?_⟩) ?_ ?_
         rotate_left
         ·intro w'
          go_simp
          with_reducible rfl
         rotate_left
         ·simp only [Act.put,sI,sZ,sS,i64_w,i32_w]
          rfl
         refine pure_ (i:=4) (N:=some 16) (v:=?_) (a':=?_) #[T0,T0,T0,T0,T0,F0,F0,F0,F0,F0,F0,F0,F0,F0,F0,F0,F0,F0] rfl rfl (any_of HT_.out (by kernel_rfl)) (fun _ _ _ h=>h) (Or.inl ⟨by rfl,?_⟩) ?_ ?_
         rotate_left
         ·intro w'
          go_simp
          with_reducible rfl
         rotate_left
         ·simp only [Act.put,sI,sZ,sS,i64_w,i32_w]
          rfl
         refine pure_ (i:=5) (N:=some 17) (v:=?_) (a':=?_) #[T0,T0,T0,T0,T0,T0,F0,F0,F0,F0,F0,F0,F0,F0,F0,F0,F0,F0] rfl rfl (any_of HT_.out (by kernel_rfl)) (fun _ _ _ h=>h) (Or.inl ⟨by rfl,?_⟩) ?_ ?_
         rotate_left
         ·intro w'
          go_simp
          with_reducible rfl
         rotate_left
         ·simp only [Act.put,sI,sZ,sS,i64_w,i32_w]
          rfl
         refine pure_ (i:=6) (N:=some 18) (v:=?_) (a':=?_) #[T0,T0,T0,T0,T0,T0,T0,F0,F0,F0,F0,F0,F0,F0,F0,F0,F0,F0] rfl rfl (any_of HT_.out (by kernel_rfl)) (fun _ _ _ h=>h) (Or.inl ⟨by rfl,?_⟩) ?_ ?_
         rotate_left
         ·intro w'
          go_simp
          with_reducible rfl
         rotate_left
         ·simp only [Act.put,sI,sZ,sS,i64_w,i32_w]
          rfl
         refine pure_ (i:=7) (N:=some 19) (v:=undef) (a':=?_) #[T0,T0,T0,T0,T0,T0,T0,T0,F0,F0,F0,F0,F0,F0,F0,F0,F0,F0] rfl rfl (any_of HT_.out (by kernel_rfl)) (fun _ _ _ h=>h) (Or.inr ⟨by rfl,rfl⟩) ?_ ?_
         rotate_left
         ·simp only [Act.put,sI,sZ,sS,i64_w,i32_w]
          rfl
         refine pure_ (i:=8) (N:=some 20) (v:=undef) (a':=?_) #[T0,T0,T0,T0,T0,T0,T0,T0,T0,F0,F0,F0,F0,F0,F0,F0,F0,F0] rfl rfl (any_of HT_.out (by kernel_rfl)) (fun _ _ _ h=>h) (Or.inr ⟨by rfl,rfl⟩) ?_ ?_
         rotate_left
         ·simp only [Act.put,sI,sZ,sS,i64_w,i32_w]
          rfl
         refine pure_ (i:=9) (N:=some 21) (v:=undef) (a':=?_) #[T0,T0,T0,T0,T0,T0,T0,T0,T0,T0,F0,F0,F0,F0,F0,F0,F0,F0] rfl rfl (any_of HT_.out (by kernel_rfl)) (fun _ _ _ h=>h) (Or.inr ⟨by rfl,rfl⟩) ?_ ?_
         rotate_left
         ·simp only [Act.put,sI,sZ,sS,i64_w,i32_w]
          rfl
         refine pure_ (i:=10) (N:=some 22) (v:=undef) (a':=?_) #[T0,T0,T0,T0,T0,T0,T0,T0,T0,T0,T0,F0,F0,F0,F0,F0,F0,F0] rfl rfl (any_of HT_.out (by kernel_rfl)) (fun _ _ _ h=>h) (Or.inr ⟨by rfl,rfl⟩) ?_ ?_
         rotate_left
         ·simp only [Act.put,sI,sZ,sS,i64_w,i32_w]
          rfl
         refine pure_ (i:=11) (N:=some 23) (v:=undef) (a':=?_) #[T0,T0,T0,T0,T0,T0,T0,T0,T0,T0,T0,T0,F0,F0,F0,F0,F0,F0] rfl rfl (any_of HT_.out (by kernel_rfl)) (fun _ _ _ h=>h) (Or.inr ⟨by rfl,rfl⟩) ?_ ?_
         rotate_left
         ·simp only [Act.put,sI,sZ,sS,i64_w,i32_w]
          rfl
         refine pure_ (i:=12) (N:=some 24) (v:=undef) (a':=?_) #[T0,T0,T0,T0,T0,T0,T0,T0,T0,T0,T0,T0,T0,F0,F0,F0,F0,F0] rfl rfl (any_of HT_.out (by kernel_rfl)) (fun _ _ _ h=>h) (Or.inr ⟨by rfl,rfl⟩) ?_ ?_
         rotate_left
         ·simp only [Act.put,sI,sZ,sS,i64_w,i32_w]
          rfl
         refine pure_ (i:=13) (N:=some 25) (v:=undef) (a':=?_) #[T0,T0,T0,T0,T0,T0,T0,T0,T0,T0,T0,T0,T0,T0,F0,F0,F0,F0] rfl rfl (any_of HT_.out (by kernel_rfl)) (fun _ _ _ h=>h) (Or.inr ⟨by rfl,rfl⟩) ?_ ?_
         rotate_left
         ·simp only [Act.put,sI,sZ,sS,i64_w,i32_w]
          rfl
         refine pure_ (i:=14) (N:=some 26) (v:=undef) (a':=?_) #[T0,T0,T0,T0,T0,T0,T0,T0,T0,T0,T0,T0,T0,T0,T0,F0,F0,F0] rfl rfl (any_of HT_.out (by kernel_rfl)) (fun _ _ _ h=>h) (Or.inr ⟨by rfl,rfl⟩) ?_ ?_
         rotate_left
         ·simp only [Act.put,sI,sZ,sS,i64_w,i32_w]
          rfl
         refine pure_ (i:=15) (N:=some 27) (v:=undef) (a':=?_) #[T0,T0,T0,T0,T0,T0,T0,T0,T0,T0,T0,T0,T0,T0,T0,T0,F0,F0] rfl rfl (any_of HT_.out (by kernel_rfl)) (fun _ _ _ h=>h) (Or.inr ⟨by rfl,rfl⟩) ?_ ?_
         rotate_left
         ·simp only [Act.put,sI,sZ,sS,i64_w,i32_w]
          rfl
         refine pure_ (i:=16) (N:=some 28) (v:=?_) (a':=?_) #[T0,T0,T0,T0,T0,T0,T0,T0,T0,T0,T0,T0,T0,T0,T0,T0,T0,F0] rfl rfl (any_of HT_.out (by kernel_rfl)) (fun _ _ _ h=>h) (Or.inl ⟨by rfl,?_⟩) ?_ ?_
         rotate_left
         ·intro w'
          go_simp
          with_reducible rfl
         rotate_left
         ·simp only [Act.put,sI,sZ,sS,i64_w,i32_w]
          rfl
         refine pure_ (i:=17) (N:=some 29) (v:=?_) (a':=?_) #[T0,T0,T0,T0,T0,T0,T0,T0,T0,T0,T0,T0,T0,T0,T0,T0,T0,T0] rfl rfl (any_of HT_.out (by kernel_rfl)) (fun _ _ _ h=>h) (Or.inl ⟨by rfl,?_⟩) ?_ ?_
         rotate_left
         ·intro w'
          go_simp
          with_reducible rfl
         rotate_left
         ·simp only [Act.put,sI,sZ,sS,i64_w,i32_w]
          rfl
         refine done_ (done_of HT_.out (by kernel_rfl)) ?_
         try go_wp2
         go_meet
         case rel=>exact ⟨_,(false),rsd,H',⟨by have:=HK1.out;first | omega | exact Nat.le_refl _⟩,⟨by (with_reducible repeat (first | refine blk_drewN ?_ _ | refine blk_drew ?_ | refine blk_alloc ?_ _));exact BK488.out⟩,⟨bel1 HB GE488.out⟩⟩
       ·replace c9:=Bool.eq_false_iff.mpr c9
        subst c9
        have H1 : (impl_AreSumps.j1 k1 l0 l0 (l0.length : Int) x7_1 true)=some r:=by rw [if_neg (show ¬ (false=true) by decide)] at H;exact H
        clear H
        have H:=H1
        clear H1
        have H':=amk H
        clear H
        try go_wp2
        have n0_ : Aside0 ((((w6.setCell ⟨gb488,0,none⟩ (.int .i64 ((rd_T44 l0 x7_1).f0))).setCell ⟨gb488,1,none⟩ (.int .i64 ((rd_T44 l0 x7_1).f1))).setCell ⟨gb488,2,none⟩ (.int .i64 ((rd_T44 l0 x7_1).f2))).heap[gb488]? = some (.cells #[.int .i64 ((rd_T44 l0 x7_1).f0),.int .i64 ((rd_T44 l0 x7_1).f1),.int .i64 ((rd_T44 l0 x7_1).f2)] 44 (0,0))):=⟨by (with_reducible repeat (first | refine blk_drewN ?_ _ | refine blk_drew ?_ | refine blk_alloc ?_ _));refine blk_put (cs:=#[.int .i64 ((rd_T44 l0 x7_1).f0),.int .i64 ((rd_T44 l0 x7_1).f1),.int .i64 0]) ?_ 2 _ rfl;(with_reducible repeat (first | refine blk_drewN ?_ _ | refine blk_drew ?_ | refine blk_alloc ?_ _));refine blk_put (cs:=#[.int .i64 ((rd_T44 l0 x7_1).f0),.int .i64 0,.int .i64 0]) ?_ 1 _ rfl;(with_reducible repeat (first | refine blk_drewN ?_ _ | refine blk_drew ?_ | refine blk_alloc ?_ _));refine blk_put (cs:=#[.int .i64 0,.int .i64 0,.int .i64 0]) ?_ 0 _ rfl;(with_reducible repeat (first | refine blk_drewN ?_ _ | refine blk_drew ?_ | refine blk_alloc ?_ _));exact BK488.out⟩
        have n1_ : Aside0 (Below w.heap.size w (((w6.setCell ⟨gb488,0,none⟩ (.int .i64 ((rd_T44 l0 x7_1).f0))).setCell ⟨gb488,1,none⟩ (.int .i64 ((rd_T44 l0 x7_1).f1))).setCell ⟨gb488,2,none⟩ (.int .i64 ((rd_T44 l0 x7_1).f2)))):=⟨bel1 HB GE488.out⟩
        (try clear BK488)
        (try clear HB)
        generalize (((w6.setCell ⟨gb488,0,none⟩ (.int .i64 ((rd_T44 l0 x7_1).f0))).setCell ⟨gb488,1,none⟩ (.int .i64 ((rd_T44 l0 x7_1).f1))).setCell ⟨gb488,2,none⟩ (.int .i64 ((rd_T44 l0 x7_1).f2)))=w20 at n0_ n1_ ⊢
        have BK488:=n0_
        have HB:=n1_
        clear n0_ n1_
        have n0_:=amk (blk_drew BK488.out)
        have n1_:=amk (below_drew1 HB.out)
        clear BK488
        clear HB
        have BK488:=n0_
        have HB:=n1_
        clear n0_ n1_
        refine start_ (n:=18) (S:=fun w'=>w'.cell? ⟨gb488,0,none⟩=some (.int .i64 ((rd_T44 l0 x7_1).f0))∧w'.cell? ⟨gb488,1,none⟩=some (.int .i64 ((rd_T44 l0 x7_1).f1))∧w'.cell? ⟨gb488,2,none⟩=some (.int .i64 ((rd_T44 l0 x7_1).f2))) (ds:=[]) #[F0,F0,F0,F0,F0,F0,F0,F0,F0,F0,F0,F0,F0,F0,F0,F0,F0,F0] (by kernel_rfl) rfl rfl ⟨(blk_cell BK488.out 0).trans rfl,(blk_cell BK488.out 1).trans rfl,(blk_cell BK488.out 2).trans rfl⟩ (fun hHeld=>?_);refine with_tabW impl_AreSumps.tab4 impl_AreSumps.bits4 (fun HT_ HW_=>?_)
        generalize w20.drew=w21 at BK488 HB hHeld ⊢
        refine take_ (i:=0) (N:=some 12) (v:=?_) (a':=?_) #[T0,F0,F0,F0,F0,F0,F0,F0,F0,F0,F0,F0,F0,F0,F0,F0,F0,F0] rfl rfl (take_ofW HT_.out HW_.out (by kernel_rfl)) (fun _ _ _ h=>h) (Or.inl ⟨by rfl,?_⟩) hHeld ?_ ?_
        rotate_left
        ·rintro w' ⟨s0,s1,s2⟩
         go_simp
         with_reducible rfl
        rotate_left
        ·simp only [Act.put,sI,sZ,sS,i64_w,i32_w]
         rfl
        refine one_ (i:=1) (N:=some 13) #[T0,T0,F0,F0,F0,F0,F0,F0,F0,F0,F0,F0,F0,F0,F0,F0,F0,F0] rfl rfl (one_of HT_.out (by kernel_rfl)) (by decide) (fun K hK=>?_)
        refine goes_ Try.func62 (by kernel_rfl) rfl #[.agg #[.int .i64 ((rd_T44 l0 x7_1).f0),.int .i64 ((rd_T44 l0 x7_1).f1),.int .i64 ((rd_T44 l0 x7_1).f2)]] (by rfl) rfl rfl mtt ?_
        with_reducible refine (impl_isSump.calls ((rd_T44 l0 x7_1).f0) ((rd_T44 l0 x7_1).f1) ((rd_T44 l0 x7_1).f2) false _ A8.out).mono ?_
        rintro e w22 ⟨rfl,hb⟩
        refine ⟨_,rfl,?_⟩
        have n0_:=amk (blk_below (g:=gb488) (o:=.cells #[.int .i64 ((rd_T44 l0 x7_1).f0),.int .i64 ((rd_T44 l0 x7_1).f1),.int .i64 ((rd_T44 l0 x7_1).f2)] 44 (0,0)) (bkk BK488) hb)
        have n1_:=amk (below_step (bel1 HB GE488.out) hb)
        clear BK488
        clear HB
        have BK488:=n0_
        have HB:=n1_
        clear n0_ n1_
        (try clear hb)
        (try clear hb2)
        (try clear hk)
        (try clear hi)
        refine hK.out _ _ ⟨(blk_cell BK488.out 0).trans rfl,(blk_cell BK488.out 1).trans rfl,(blk_cell BK488.out 2).trans rfl⟩ (fun hHeld=>?_)
        clear hK K
        refine norm_ (a':=?_) ?_ ?_
        rotate_left
        ·show Act.put _ (some 13) _=_
         simp only [Act.put,sI,sZ,sS,i64_w,i32_w]
         rfl
        refine pure_ (i:=2) (N:=some 14) (v:=?_) (a':=?_) #[T0,T0,T0,F0,F0,F0,F0,F0,F0,F0,F0,F0,F0,F0,F0,F0,F0,F0] rfl rfl (any_of HT_.out (by kernel_rfl)) (fun _ _ _ h=>h) (Or.inl ⟨by rfl,?_⟩) ?_ ?_
        rotate_left
        ·intro w'
         go_simp
         with_reducible rfl
        rotate_left
        ·simp only [Act.put,sI,sZ,sS,i64_w,i32_w]
         rfl
        refine pure_ (i:=3) (N:=some 15) (v:=?_) (a':=?_) #[T0,T0,T0,T0,F0,F0,F0,F0,F0,F0,F0,F0,F0,F0,F0,F0,F0,F0] rfl rfl (any_of HT_.out (by kernel_rfl)) (fun _ _ _ h=>h) (Or.inl ⟨by rfl,?_⟩) ?_ ?_
        rotate_left
        ·intro w'
         go_simp
         with_reducible rfl
        rotate_left
        ·simp only [Act.put,sI,sZ,sS,i64_w,i32_w]
         rfl
        refine pure_ (i:=4) (N:=some 16) (v:=undef) (a':=?_) #[T0,T0,T0,T0,T0,F0,F0,F0,F0,F0,F0,F0,F0,F0,F0,F0,F0,F0] rfl rfl (any_of HT_.out (by kernel_rfl)) (fun _ _ _ h=>h) (Or.inr ⟨by rfl,rfl⟩) ?_ ?_
        rotate_left
        ·simp only [Act.put,sI,sZ,sS,i64_w,i32_w]
         rfl
        refine pure_ (i:=5) (N:=some 17) (v:=undef) (a':=?_) #[T0,T0,T0,T0,T0,T0,F0,F0,F0,F0,F0,F0,F0,F0,F0,F0,F0,F0] rfl rfl (any_of HT_.out (by kernel_rfl)) (fun _ _ _ h=>h) (Or.inr ⟨by rfl,rfl⟩) ?_ ?_
        rotate_left
        ·simp only [Act.put,sI,sZ,sS,i64_w,i32_w]
         rfl
        refine pure_ (i:=6) (N:=some 18) (v:=undef) (a':=?_) #[T0,T0,T0,T0,T0,T0,T0,F0,F0,F0,F0,F0,F0,F0,F0,F0,F0,F0] rfl rfl (any_of HT_.out (by kernel_rfl)) (fun _ _ _ h=>h) (Or.inr ⟨by rfl,rfl⟩) ?_ ?_
        rotate_left
        ·simp only [Act.put,sI,sZ,sS,i64_w,i32_w]
         rfl
        refine pure_ (i:=7) (N:=some 19) (v:=undef) (a':=?_) #[T0,T0,T0,T0,T0,T0,T0,T0,F0,F0,F0,F0,F0,F0,F0,F0,F0,F0] rfl rfl (any_of HT_.out (by kernel_rfl)) (fun _ _ _ h=>h) (Or.inr ⟨by rfl,rfl⟩) ?_ ?_
        rotate_left
        ·simp only [Act.put,sI,sZ,sS,i64_w,i32_w]
         rfl
        refine pure_ (i:=8) (N:=some 20) (v:=undef) (a':=?_) #[T0,T0,T0,T0,T0,T0,T0,T0,T0,F0,F0,F0,F0,F0,F0,F0,F0,F0] rfl rfl (any_of HT_.out (by kernel_rfl)) (fun _ _ _ h=>h) (Or.inr ⟨by rfl,rfl⟩) ?_ ?_
        rotate_left
        ·simp only [Act.put,sI,sZ,sS,i64_w,i32_w]
         rfl
        refine pure_ (i:=9) (N:=some 21) (v:=undef) (a':=?_) #[T0,T0,T0,T0,T0,T0,T0,T0,T0,T0,F0,F0,F0,F0,F0,F0,F0,F0] rfl rfl (any_of HT_.out (by kernel_rfl)) (fun _ _ _ h=>h) (Or.inr ⟨by rfl,rfl⟩) ?_ ?_
        rotate_left
        ·simp only [Act.put,sI,sZ,sS,i64_w,i32_w]
         rfl
        refine pure_ (i:=10) (N:=some 22) (v:=undef) (a':=?_) #[T0,T0,T0,T0,T0,T0,T0,T0,T0,T0,T0,F0,F0,F0,F0,F0,F0,F0] rfl rfl (any_of HT_.out (by kernel_rfl)) (fun _ _ _ h=>h) (Or.inr ⟨by rfl,rfl⟩) ?_ ?_
        rotate_left
        ·simp only [Act.put,sI,sZ,sS,i64_w,i32_w]
         rfl
        refine pure_ (i:=11) (N:=some 23) (v:=undef) (a':=?_) #[T0,T0,T0,T0,T0,T0,T0,T0,T0,T0,T0,T0,F0,F0,F0,F0,F0,F0] rfl rfl (any_of HT_.out (by kernel_rfl)) (fun _ _ _ h=>h) (Or.inr ⟨by rfl,rfl⟩) ?_ ?_
        rotate_left
        ·simp only [Act.put,sI,sZ,sS,i64_w,i32_w]
         rfl
        refine pure_ (i:=12) (N:=some 24) (v:=undef) (a':=?_) #[T0,T0,T0,T0,T0,T0,T0,T0,T0,T0,T0,T0,T0,F0,F0,F0,F0,F0] rfl rfl (any_of HT_.out (by kernel_rfl)) (fun _ _ _ h=>h) (Or.inr ⟨by rfl,rfl⟩) ?_ ?_
        rotate_left
        ·simp only [Act.put,sI,sZ,sS,i64_w,i32_w]
         rfl
        refine pure_ (i:=13) (N:=some 25) (v:=undef) (a':=?_) #[T0,T0,T0,T0,T0,T0,T0,T0,T0,T0,T0,T0,T0,T0,F0,F0,F0,F0] rfl rfl (any_of HT_.out (by kernel_rfl)) (fun _ _ _ h=>h) (Or.inr ⟨by rfl,rfl⟩) ?_ ?_
        rotate_left
        ·simp only [Act.put,sI,sZ,sS,i64_w,i32_w]
         rfl
        refine pure_ (i:=14) (N:=some 26) (v:=undef) (a':=?_) #[T0,T0,T0,T0,T0,T0,T0,T0,T0,T0,T0,T0,T0,T0,T0,F0,F0,F0] rfl rfl (any_of HT_.out (by kernel_rfl)) (fun _ _ _ h=>h) (Or.inr ⟨by rfl,rfl⟩) ?_ ?_
        rotate_left
        ·simp only [Act.put,sI,sZ,sS,i64_w,i32_w]
         rfl
        refine pure_ (i:=15) (N:=some 27) (v:=undef) (a':=?_) #[T0,T0,T0,T0,T0,T0,T0,T0,T0,T0,T0,T0,T0,T0,T0,T0,F0,F0] rfl rfl (any_of HT_.out (by kernel_rfl)) (fun _ _ _ h=>h) (Or.inr ⟨by rfl,rfl⟩) ?_ ?_
        rotate_left
        ·simp only [Act.put,sI,sZ,sS,i64_w,i32_w]
         rfl
        refine pure_ (i:=16) (N:=some 28) (v:=undef) (a':=?_) #[T0,T0,T0,T0,T0,T0,T0,T0,T0,T0,T0,T0,T0,T0,T0,T0,T0,F0] rfl rfl (any_of HT_.out (by kernel_rfl)) (fun _ _ _ h=>h) (Or.inr ⟨by rfl,rfl⟩) ?_ ?_
        rotate_left
        ·simp only [Act.put,sI,sZ,sS,i64_w,i32_w]
         rfl
        refine pure_ (i:=17) (N:=some 29) (v:=?_) (a':=?_) #[T0,T0,T0,T0,T0,T0,T0,T0,T0,T0,T0,T0,T0,T0,T0,T0,T0,T0] rfl rfl (any_of HT_.out (by kernel_rfl)) (fun _ _ _ h=>h) (Or.inl ⟨by rfl,?_⟩) ?_ ?_
        rotate_left
        ·intro w'
         go_simp
         with_reducible rfl
        rotate_left
        ·simp only [Act.put,sI,sZ,sS,i64_w,i32_w]
         rfl
        refine done_ (done_of HT_.out (by kernel_rfl)) ?_
        try go_wp2
        go_meet
        case rel=>exact ⟨_,(true),rsd,H',⟨by have:=HK1.out;first | omega | exact Nat.le_refl _⟩,⟨by (with_reducible repeat (first | refine blk_drewN ?_ _ | refine blk_drew ?_ | refine blk_alloc ?_ _));exact BK488.out⟩,⟨bel1 HB GE488.out⟩⟩
      case rest=>
       clear HC5
       try clear c1
       try clear c2
       try clear c2b0
       try clear p2
       try clear c3
       try clear c3b0
       try clear c4
       try clear c4b0
       try clear p4
       try clear q4
       try clear hx4
       try clear c6
       try clear p6
       try clear c9
       try clear c10
       try clear c10b0
       try clear c12
       try clear c12b0
       try clear c13
       try clear c13b0
       try clear hcz7_0
       try clear hcz7_1
       try clear hcz7_2
       try clear hfz7_0
       try clear hfz7_1
       try clear hfz7_2
       try clear hx487_0
       try clear hx487_1
       try clear hx487_2
       try clear hx490_0
       try clear hx490_1
       try clear hx490_2
       try clear p487
       try clear p490
       try clear q487
       try clear q490
       obtain ⟨kq,x29_4,rfl,HA,HJ4,BK488,HB⟩:=hcut
       cases kq with
       | zero=>exact absurd HA.out (by simp [impl_AreSumps.j1])
       | succ kj4=>
        have H:=HA.out
        clear HA
        simp only [impl_AreSumps.j1] at H
        by_cases c23 : x29_4=true
        ·subst c23
         have H1 : (some false)=some r:=by rw [if_pos rfl] at H;exact H
         clear H
         have H:=H1
         clear H1
         obtain rfl:=Option.some.inj H
         go_wp2
         go_ret
         exact ⟨erw0,bel1 HB GE488.out⟩
        ·replace c23:=Bool.eq_false_iff.mpr c23
         subst c23
         have H1 : (impl_AreSumps.l0 kj4 l0 l0 (l0.length : Int) (wrap64 (x7_1 + 1)))=some r:=by rw [if_neg (show ¬ (false=true) by decide)] at H;exact H
         clear H
         have H:=H1
         clear H1
         have H':=amk H
         clear H
         go_wp2
         go_roundg kj4
         case measure=>have:=HK1.out;have:=HJ4.out;omega
         case rel=>exact ⟨(wrap64 (x7_1 + 1)),rsd,H',⟨by have:=HK1.out;have:=HJ4.out;omega⟩,⟨bel1 HB GE488.out⟩⟩
     ·rw [if_neg c4] at H
      exact absurd H (by simp)
    ·rw [if_neg c3] at H
     exact absurd H (by simp)
   ·rw [if_neg c2] at H
    have c2b0 : decide (x7_1 < (l0.length : Int))=false:=decide_eq_false c2
    clear c2
    obtain rfl:=Option.some.inj H
    go_wp2
    go_ret
    exact ⟨erw0,bel HB⟩
def impl_OpenFor_1_1.f (k : Nat) (a0_0 : Int) (a0_1 : Int) (a0_2 : Int) (l1_0 : List (S30)) (a2_0 : Int) : Option (Bool):=(impl_Sump_open.f k a0_0 a0_1 a0_2 l1_0 a2_0).bind fun t495=>(some (!t495))
theorem impl_OpenFor_1_1.mono : ∀ a0 a1 a2 a3 a4 k,LeO (impl_OpenFor_1_1.f k a0 a1 a2 a3 a4) (impl_OpenFor_1_1.f (k + 1) a0 a1 a2 a3 a4):=by
 intro a0 a1 a2 a3 a4 k
 unfold impl_OpenFor_1_1.f
 repeat' first
   | (with_reducible exact impl_Sump_open.mono _ _ _ _ _ _)
   | (with_reducible exact LeO.refl _)
   | (with_reducible exact LeO.none _)
   | (with_reducible refine LeO.ite ?_ ?_)
   | (with_reducible refine LeO.bind ?_ (fun _=>?_))
set_option maxHeartbeats 8000000 in
set_option maxRecDepth 100000 in
theorem impl_OpenFor_1_1.calls (k : Nat) (a0_0 : Int) (a0_1 : Int) (a0_2 : Int) (gc1_ : Nat) (A1_0 : Option Addr) (c1_0 : Nat) (l1_0 : List (S30)) (gc2_ : Nat) (a2_0 : Int) (r : Bool) (w : World) (hr1_0 : Kd.C k30 w A1_0 l1_0.length l1_0) (hc1_0 : l1_0.length≤c1_0) (hk1 : w.heap[gc1_]? = some (.cells #[.slice A1_0 l1_0.length c1_0] 24 (0,0))) (hk2 : w.heap[gc2_]? = some (.cells #[.int .i64 a2_0] 3 (0,0))) (h : impl_OpenFor_1_1.f k a0_0 a0_1 a0_2 l1_0 a2_0=some r) :
  Calls Try.prog 76 #[.agg #[.int .i64 a0_0,.int .i64 a0_1,.int .i64 a0_2],.pointer (some ⟨gc1_,0,none⟩),.pointer (some ⟨gc2_,0,none⟩)] w fun e w'=>e = .returned (.bool r)∧Below w.heap.size w w':=by
 have hu44:=Try.underlying44
 have HR1_0:=amk hr1_0
 have HC1_0:=amk hc1_0
 clear hr1_0 hc1_0
 have BK1:=amk hk1
 clear hk1
 have BK2:=amk hk2
 clear hk2
 have HB:=amk (Below.refl w.heap.size w)
 have H : ((impl_Sump_open.f k a0_0 a0_1 a0_2 l1_0 a2_0).bind fun t495=>(some (!t495)))=some r:=h
 clear h
 replace H:=obs H
 obtain ⟨t495,A40,H⟩:=H
 replace H : (some (!t495))=some r:=H
 have A4:=amk A40
 clear A40
 obtain rfl:=Option.some.inj H
 go_enter Try.func76,Try.ntmps76
 go_wp2_with (first | ((with_reducible refine gate_dst (N:=3) rfl ?_);refine box_event ?hg (N:=3) ?hd (cs:=#[.int .i64 a0_0,.int .i64 a0_1,.int .i64 a0_2]) (t:=44) ?hr ?_;(case hd=>rfl);(case hg=>rfl);(case hr=>first | (go_simp;done)|(go_simp;rfl));intro gb494 hg w5 hbox hb;have BK494:=amk (hbox);have GW494:=amk ((by rw [hg];exact (below_size (bel HB)) : w.heap.size≤gb494));have GE494:=amk ((by rw [hg];exact (below_size (bel HB)) : w.heap.size≤gb494));replace HB:=amk (below_step (bel HB) hb);have NB1_494:=amk ((by rw [hg];exact Nat.ne_of_lt (blk_lt (g:=gc1_) (o:=.cells #[.slice A1_0 l1_0.length c1_0] 24 (0,0)) (bkk BK1)) : gc1_ ≠ gb494));have NB494_1:=amk ((by rw [hg];exact Nat.ne_of_gt (blk_lt (g:=gc1_) (o:=.cells #[.slice A1_0 l1_0.length c1_0] 24 (0,0)) (bkk BK1)) : gb494 ≠ gc1_));replace BK1:=amk (blk_below (g:=gc1_) (o:=.cells #[.slice A1_0 l1_0.length c1_0] 24 (0,0)) (bkk BK1) hb);have NB2_494:=amk ((by rw [hg];exact Nat.ne_of_lt (blk_lt (g:=gc2_) (o:=.cells #[.int .i64 a2_0] 3 (0,0)) (bkk BK2)) : gc2_ ≠ gb494));have NB494_2:=amk ((by rw [hg];exact Nat.ne_of_gt (blk_lt (g:=gc2_) (o:=.cells #[.int .i64 a2_0] 3 (0,0)) (bkk BK2)) : gb494 ≠ gc2_));replace BK2:=amk (blk_below (g:=gc2_) (o:=.cells #[.int .i64 a2_0] 3 (0,0)) (bkk BK2) hb);clear hb hbox hg;have hnb6:=NB494_1.out;have hnc6:=NB1_494.out;have hnb7:=NB494_2.out;have hnc7:=NB2_494.out;have hcz8_0 : w5.cell? ⟨gb494,0,none⟩=some (.int .i64 a0_0):=(blk_cell BK494.out 0).trans rfl;have hcz8_1 : w5.cell? ⟨gb494,1,none⟩=some (.int .i64 a0_1):=(blk_cell BK494.out 1).trans rfl;have hcz8_2 : w5.cell? ⟨gb494,2,none⟩=some (.int .i64 a0_2):=(blk_cell BK494.out 2).trans rfl;have hfz8_0:=blk_frozen BK494.out 0;have hfz8_1:=blk_frozen BK494.out 1;have hfz8_2:=blk_frozen BK494.out 2;have hcz9_0 : w5.cell? ⟨gc1_,0,none⟩=some (.slice A1_0 l1_0.length c1_0):=(blk_cell BK1.out 0).trans rfl;have hfz9_0:=blk_frozen BK1.out 0;have hcz10_0 : w5.cell? ⟨gc2_,0,none⟩=some (.int .i64 a2_0):=(blk_cell BK2.out 0).trans rfl;have hfz10_0:=blk_frozen BK2.out 0)|((with_reducible refine gate_callee (f:=66) rfl ?_);refine goesL_ (some 8) rfl rfl Try.func66 (by kernel_rfl) rfl #[.agg #[.int .i64 a0_0,.int .i64 a0_1,.int .i64 a0_2],.slice A1_0 l1_0.length c1_0,.int .i64 a2_0] rfl mtt ?_;(with_reducible refine (impl_Sump_open.calls k a0_0 a0_1 a0_2 _ _ l1_0 a2_0 t495 _ ?side1 ?side2 A4.out).mono ?_);(case side1=>exact ccc (Kd.C_below HR1_0.out HB.out));(case side2=>exact HC1_0.out);rintro e w11 ⟨rfl,hb⟩;refine ⟨_,rfl,?_⟩;replace BK1:=amk (blk_below (g:=gc1_) (o:=.cells #[.slice A1_0 l1_0.length c1_0] 24 (0,0)) (bkk BK1) hb);replace BK2:=amk (blk_below (g:=gc2_) (o:=.cells #[.int .i64 a2_0] 3 (0,0)) (bkk BK2) hb);replace BK494:=amk (blk_below (g:=gb494) (o:=.cells #[.int .i64 a0_0,.int .i64 a0_1,.int .i64 a0_2] 44 (0,0)) (bkk BK494) hb);replace HB:=amk (below_step (bel1 HB GE494.out) hb);(try clear hb)))
 go_ret
 exact ⟨erw0,bel1 HB GE494.out⟩
def impl_Sump_91.l0 : Nat→List (S44)→(S44→Option Bool)→Int→Int→Option (Int)
 | 0,_,_,_,_=>none
 | k + 1,x0,x1,x7,x8=>if x8 < x7 then (if 0≤x8 then (if x8 < (x0.length : Int) then ((x1 (⟨(rd_T44 x0 x8).f0,(rd_T44 x0 x8).f1,(rd_T44 x0 x8).f2⟩ : S44)).bind fun t492=>(if t492=true then (some x8) else (impl_Sump_91.l0 k x0 x1 x7 (wrap64 (x8 + 1))))) else (none)) else (none)) else (some (-1))
def impl_Sump_91.f (k : Nat) (l0 : List (S44)) (a1 : (S44→Option Bool)) : Option (Int):=impl_Sump_91.l0 k l0 a1 (l0.length : Int) 0
theorem impl_Sump_91.mono_l (p_ q_ : S44→Option Bool) (hpq_ : ∀ x_,LeO (p_ x_) (q_ x_)) : ∀ k,(∀ y0 y2 y3,LeO (impl_Sump_91.l0 k y0 p_ y2 y3) (impl_Sump_91.l0 (k + 1) y0 q_ y2 y3))
 | 0=>fun _ _ _ r h=>by simp [impl_Sump_91.l0] at h
 | k + 1=>by
  have ih0:=impl_Sump_91.mono_l p_ q_ hpq_ k
  ·intro y0 y2 y3
   unfold impl_Sump_91.l0
   repeat' first
   | (with_reducible exact ih0 _ _ _)
   | (with_reducible exact hpq_ _)
   | (with_reducible exact LeO.refl _)
   | (with_reducible exact LeO.none _)
   | (with_reducible refine LeO.ite ?_ ?_)
   | (with_reducible refine LeO.bind ?_ (fun _=>?_))
   | exact ih0 _ _ _
   | exact hpq_ _
theorem impl_Sump_91.mono : ∀ a0 (p_ q_ : S44→Option Bool) (k : Nat),(∀ x_,LeO (p_ x_) (q_ x_))→LeO (impl_Sump_91.f k a0 p_) (impl_Sump_91.f (k + 1) a0 q_):=by
 intro a0 p_ q_ k hpq_
 have ih0:=impl_Sump_91.mono_l p_ q_ hpq_ k
 unfold impl_Sump_91.f
 repeat' first
   | (with_reducible exact ih0 _ _ _)
   | (with_reducible exact hpq_ _)
   | (with_reducible exact LeO.refl _)
   | (with_reducible exact LeO.none _)
   | (with_reducible refine LeO.ite ?_ ?_)
   | (with_reducible refine LeO.bind ?_ (fun _=>?_))
   | exact ih0 _ _ _
   | exact hpq_ _
set_option maxHeartbeats 8000000 in
set_option maxRecDepth 100000 in
theorem impl_Sump_91.calls (k : Nat) (A0 : Option Addr) (c0 : Nat) (l0 : List (S44)) (gf1_ : Nat) (lb1_ : Array Value) (a1 : (S44→Option Bool)) (r : Int) (w : World) (hr0 : Kd.C k44 w A0 l0.length l0) (hc0 : l0.length≤c0) (eg1 : ∀ args_ w_,(callFunc gf1_ args_).run Try.prog w_ = .ok (.enter gf1_ args_) w_) (hp1 : ∀ (W_ : World) (x_ : S44) (b_ : Bool),a1 x_=some b_→Below w.heap.size w W_→Calls Try.prog gf1_ (#[.agg #[.int .i64 x_.f0,.int .i64 x_.f1,.int .i64 x_.f2]] ++ lb1_) W_ fun e w'=>e = .returned (.bool b_)∧Below W_.heap.size W_ w') (h : impl_Sump_91.f k l0 a1=some r) :
  Calls Try.prog 91 #[.slice A0 l0.length c0,.func (.func gf1_) #[] lb1_] w fun e w'=>e = .returned (.int .i64 r)∧Below w.heap.size w w':=by
 have hu44:=Try.underlying44
 have HR0:=amk hr0
 have HC0:=amk hc0
 clear hr0 hc0
 have HP1:=amk hp1
 clear hp1
 have HB:=amk (Below.refl w.heap.size w)
 have H : (impl_Sump_91.l0 k l0 a1 (l0.length : Int) 0)=some r:=h
 clear h
 have H':=amk H
 clear H
 go_enter Try.func91,Try.ntmps91
 go_wp2
 go_loopg [8] k (fun kq v8 w'=>∃ (x8_1 : Int),v8 = .int .i64 x8_1∧Aside0 (impl_Sump_91.l0 kq l0 a1 (l0.length : Int) x8_1=some r)∧Aside0 (kq≤k)∧Aside0 (Below w.heap.size w w'))
 case atStart=>exact ⟨(0),rsd,H',⟨Nat.le_refl _⟩,⟨bel HB⟩⟩
 case round=>
  clear H'
  try clear p1
  try clear p2
  obtain ⟨x8_1,rfl,HA,HK1,HB⟩:=hrel
  cases gk with
  | zero=>exact absurd HA.out (by simp [impl_Sump_91.l0])
  | succ k1=>
   have H:=HA.out
   clear HA
   simp only [impl_Sump_91.l0] at H
   by_cases c3 : x8_1 < (l0.length : Int)
   ·rw [if_pos c3] at H
    have c3b0 : decide (x8_1 < (l0.length : Int))=true:=decide_eq_true c3
    clear c3
    by_cases c4 : 0≤x8_1
    ·rw [if_pos c4] at H
     have c4b0 : decide (0≤x8_1)=true:=decide_eq_true c4
     clear c4
     by_cases c5 : x8_1 < (l0.length : Int)
     ·rw [if_pos c5] at H
      have c5b0 : decide (x8_1 < (l0.length : Int))=true:=decide_eq_true c5
      clear c5
      replace H:=obs H
      obtain ⟨t492,A60,H⟩:=H
      replace H : (if t492=true then (some x8_1) else (impl_Sump_91.l0 k1 l0 a1 (l0.length : Int) (wrap64 (x8_1 + 1))))=some r:=H
      have A6:=amk A60
      clear A60
      by_cases c7 : t492=true
      ·subst c7
       have H1 : (some x8_1)=some r:=by rw [if_pos rfl] at H;exact H
       clear H
       have H:=H1
       clear H1
       obtain rfl:=Option.some.inj H
       have p491 : 0≤(x8_1 : Int):=of_decide_eq_true ass
       have q491 : x8_1 < (l0.length : Int):=of_decide_eq_true ass
       obtain ⟨ad491,e491,hx491_0,hx491_1,hx491_2⟩:=at_T44 HR0.out x8_1 p491 q491
       cases e491
       replace hx491_0:=(HB.out.cell (World.block_lt_of_cell? w _ hx491_0)).trans hx491_0
       replace hx491_1:=(HB.out.cell (World.block_lt_of_cell? w _ hx491_1)).trans hx491_1
       replace hx491_2:=(HB.out.cell (World.block_lt_of_cell? w _ hx491_2)).trans hx491_2
       replace p491:=eq_true p491
       replace q491:=eq_true q491
       go_wp2_with (first | ((with_reducible refine (HP1.out _ _ true A6.out ?sidefp).mono ?_);(case sidefp=>exact bel HB);rintro e w8 ⟨rfl,hb⟩;replace HB:=amk (below_step (bel HB) hb);(try clear hb)))
       go_ret
       exact ⟨erw0,bel HB⟩
      ·replace c7:=Bool.eq_false_iff.mpr c7
       subst c7
       have H1 : (impl_Sump_91.l0 k1 l0 a1 (l0.length : Int) (wrap64 (x8_1 + 1)))=some r:=by rw [if_neg (show ¬ (false=true) by decide)] at H;exact H
       clear H
       have H:=H1
       clear H1
       have H':=amk H
       clear H
       have p491 : 0≤(x8_1 : Int):=of_decide_eq_true ass
       have q491 : x8_1 < (l0.length : Int):=of_decide_eq_true ass
       obtain ⟨ad491,e491,hx491_0,hx491_1,hx491_2⟩:=at_T44 HR0.out x8_1 p491 q491
       cases e491
       replace hx491_0:=(HB.out.cell (World.block_lt_of_cell? w _ hx491_0)).trans hx491_0
       replace hx491_1:=(HB.out.cell (World.block_lt_of_cell? w _ hx491_1)).trans hx491_1
       replace hx491_2:=(HB.out.cell (World.block_lt_of_cell? w _ hx491_2)).trans hx491_2
       replace p491:=eq_true p491
       replace q491:=eq_true q491
       go_wp2_with (first | ((with_reducible refine (HP1.out _ _ false A6.out ?sidefp).mono ?_);(case sidefp=>exact bel HB);rintro e w9 ⟨rfl,hb⟩;replace HB:=amk (below_step (bel HB) hb);(try clear hb)))
       go_roundg k1
       case measure=>have:=HK1.out;omega
       case rel=>exact ⟨(wrap64 (x8_1 + 1)),rsd,H',⟨by have:=HK1.out;omega⟩,⟨bel HB⟩⟩
     ·rw [if_neg c5] at H
      exact absurd H (by simp)
    ·rw [if_neg c4] at H
     exact absurd H (by simp)
   ·rw [if_neg c3] at H
    have c3b0 : decide (x8_1 < (l0.length : Int))=false:=decide_eq_false c3
    clear c3
    obtain rfl:=Option.some.inj H
    go_wp2
    go_ret
    exact ⟨erw0,bel HB⟩
def impl_Sump_75.f (k : Nat) (l0 : List (S44)) (a1 : (S44→Option Bool)) : Option (Bool):=(impl_Sump_91.f k l0 a1).bind fun t493=>(some (decide (t493 ≥ 0)))
theorem impl_Sump_75.mono : ∀ a0 (p_ q_ : S44→Option Bool) (k : Nat),(∀ x_,LeO (p_ x_) (q_ x_))→LeO (impl_Sump_75.f k a0 p_) (impl_Sump_75.f (k + 1) a0 q_):=by
 intro a0 p_ q_ k hpq_
 unfold impl_Sump_75.f
 repeat' first
   | (with_reducible exact hpq_ _)
   | (with_reducible exact impl_Sump_91.mono _ _ _ _ (fun x_=>hpq_ x_))
   | (with_reducible exact LeO.refl _)
   | (with_reducible exact LeO.none _)
   | (with_reducible refine LeO.ite ?_ ?_)
   | (with_reducible refine LeO.bind ?_ (fun _=>?_))
   | exact hpq_ _
   | exact impl_Sump_91.mono _ _ _ _ (fun x_=>hpq_ x_)
set_option maxHeartbeats 8000000 in
set_option maxRecDepth 100000 in
theorem impl_Sump_75.calls (k : Nat) (A0 : Option Addr) (c0 : Nat) (l0 : List (S44)) (gf1_ : Nat) (lb1_ : Array Value) (a1 : (S44→Option Bool)) (r : Bool) (w : World) (hr0 : Kd.C k44 w A0 l0.length l0) (hc0 : l0.length≤c0) (eg1 : ∀ args_ w_,(callFunc gf1_ args_).run Try.prog w_ = .ok (.enter gf1_ args_) w_) (hp1 : ∀ (W_ : World) (x_ : S44) (b_ : Bool),a1 x_=some b_→Below w.heap.size w W_→Calls Try.prog gf1_ (#[.agg #[.int .i64 x_.f0,.int .i64 x_.f1,.int .i64 x_.f2]] ++ lb1_) W_ fun e w'=>e = .returned (.bool b_)∧Below W_.heap.size W_ w') (h : impl_Sump_75.f k l0 a1=some r) :
  Calls Try.prog 75 #[.slice A0 l0.length c0,.func (.func gf1_) #[] lb1_] w fun e w'=>e = .returned (.bool r)∧Below w.heap.size w w':=by
 have HR0:=amk hr0
 have HC0:=amk hc0
 clear hr0 hc0
 have HP1:=amk hp1
 clear hp1
 have HB:=amk (Below.refl w.heap.size w)
 have H : ((impl_Sump_91.f k l0 a1).bind fun t493=>(some (decide (t493 ≥ 0))))=some r:=h
 clear h
 replace H:=obs H
 obtain ⟨t493,A30,H⟩:=H
 replace H : (some (decide (t493 ≥ 0)))=some r:=H
 have A3:=amk A30
 clear A30
 obtain rfl:=Option.some.inj H
 go_enter Try.func75,Try.ntmps75
 go_wp2_with (first | ((with_reducible refine gate_callee (f:=91) rfl ?_);refine goesL_ (some 7) rfl rfl Try.func91 (by kernel_rfl) rfl #[.slice A0 l0.length c0,.func (.func gf1_) #[] lb1_] rfl mtt ?_;(with_reducible refine (impl_Sump_91.calls k _ _ l0 gf1_ lb1_ a1 t493 _ ?side1 ?side2 ?side3 ?side4 A3.out).mono ?_);(case side1=>exact ccc HR0.out);(case side2=>exact HC0.out);(case side3=>exact eg1);(case side4=>exact fun W_ x_ b_ hx_ hW_=>HP1.out W_ x_ b_ hx_ (below_step (bel HB) hW_));rintro e w4 ⟨rfl,hb⟩;refine ⟨_,rfl,?_⟩;replace HB:=amk (below_step (bel HB) hb);(try clear hb)))
 go_ret
 exact ⟨erw0,bel HB⟩
def impl_OpenFor_1.f (k : Nat) (a0 : Int) (l1_0 : List (S44)) (l2_0 : List (S30)) : Option (Bool):=(impl_Sump_75.f k l1_0 (fun x_ : S44=>impl_OpenFor_1_1.f k x_.f0 x_.f1 x_.f2 l2_0 a0)).bind fun t497=>(some (!t497))
theorem impl_OpenFor_1.mono : ∀ a0 a1 a2 k,LeO (impl_OpenFor_1.f k a0 a1 a2) (impl_OpenFor_1.f (k + 1) a0 a1 a2):=by
 intro a0 a1 a2 k
 unfold impl_OpenFor_1.f
 repeat' first
   | (with_reducible exact impl_OpenFor_1_1.mono _ _ _ _ _ _)
   | (with_reducible exact impl_Sump_75.mono _ _ _ _ (fun _=>by first | exact LeO.refl _ | exact impl_OpenSpans_1.mono _ _ _ _ _ _ | exact impl_OpenFor_1_1.mono _ _ _ _ _ _ | exact impl_OpenFor_1.mono _ _ _ _))
   | (with_reducible exact LeO.refl _)
   | (with_reducible exact LeO.none _)
   | (with_reducible refine LeO.ite ?_ ?_)
   | (with_reducible refine LeO.bind ?_ (fun _=>?_))
   | exact impl_Sump_75.mono _ _ _ _ (fun _=>by first | exact LeO.refl _ | exact impl_OpenSpans_1.mono _ _ _ _ _ _ | exact impl_OpenFor_1_1.mono _ _ _ _ _ _ | exact impl_OpenFor_1.mono _ _ _ _)
set_option maxHeartbeats 8000000 in
set_option maxRecDepth 100000 in
theorem impl_OpenFor_1.calls (k : Nat) (a0 : Int) (gc1_ : Nat) (A1_0 : Option Addr) (c1_0 : Nat) (l1_0 : List (S44)) (gc2_ : Nat) (A2_0 : Option Addr) (c2_0 : Nat) (l2_0 : List (S30)) (r : Bool) (w : World) (hr1_0 : Kd.C k44 w A1_0 l1_0.length l1_0) (hc1_0 : l1_0.length≤c1_0) (hk1 : w.heap[gc1_]? = some (.cells #[.slice A1_0 l1_0.length c1_0] 55 (0,0))) (hr2_0 : Kd.C k30 w A2_0 l2_0.length l2_0) (hc2_0 : l2_0.length≤c2_0) (hk2 : w.heap[gc2_]? = some (.cells #[.slice A2_0 l2_0.length c2_0] 24 (0,0))) (h : impl_OpenFor_1.f k a0 l1_0 l2_0=some r) :
  Calls Try.prog 74 #[.int .i64 a0,.pointer (some ⟨gc1_,0,none⟩),.pointer (some ⟨gc2_,0,none⟩)] w fun e w'=>e = .returned (.bool r)∧Below w.heap.size w w':=by
 have HR1_0:=amk hr1_0
 have HC1_0:=amk hc1_0
 clear hr1_0 hc1_0
 have HR2_0:=amk hr2_0
 have HC2_0:=amk hc2_0
 clear hr2_0 hc2_0
 have BK1:=amk hk1
 clear hk1
 have BK2:=amk hk2
 clear hk2
 have HB:=amk (Below.refl w.heap.size w)
 have H : ((impl_Sump_75.f k l1_0 (fun x_ : S44=>impl_OpenFor_1_1.f k x_.f0 x_.f1 x_.f2 l2_0 a0)).bind fun t497=>(some (!t497)))=some r:=h
 clear h
 replace H:=obs H
 obtain ⟨t497,A40,H⟩:=H
 replace H : (some (!t497))=some r:=H
 have A4:=amk A40
 clear A40
 obtain rfl:=Option.some.inj H
 have hmf_ : ∀ (fn_ : Fn) (first_ cap_ : Array Value) (w_ : World),(Instr.makeFunc fn_ first_ cap_).run Try.prog w_ = .ok (.func fn_ first_ cap_) w_:=fun _ _ _ _=>rfl
 go_enter Try.func74,Try.ntmps74
 go_wp2_with (first | ((with_reducible refine gate_dst (N:=3) rfl ?_);refine box_event ?hg (N:=3) ?hd (cs:=#[.int .i64 a0]) (t:=3) ?hr ?_;(case hd=>rfl);(case hg=>rfl);(case hr=>first | (go_simp;done)|(go_simp;rfl));intro gb496 hg w5 hbox hb;have BK496:=amk (hbox);have GW496:=amk ((by rw [hg];exact (below_size (bel HB)) : w.heap.size≤gb496));have GE496:=amk ((by rw [hg];exact (below_size (bel HB)) : w.heap.size≤gb496));replace HB:=amk (below_step (bel HB) hb);have NB1_496:=amk ((by rw [hg];exact Nat.ne_of_lt (blk_lt (g:=gc1_) (o:=.cells #[.slice A1_0 l1_0.length c1_0] 55 (0,0)) (bkk BK1)) : gc1_ ≠ gb496));have NB496_1:=amk ((by rw [hg];exact Nat.ne_of_gt (blk_lt (g:=gc1_) (o:=.cells #[.slice A1_0 l1_0.length c1_0] 55 (0,0)) (bkk BK1)) : gb496 ≠ gc1_));replace BK1:=amk (blk_below (g:=gc1_) (o:=.cells #[.slice A1_0 l1_0.length c1_0] 55 (0,0)) (bkk BK1) hb);have NB2_496:=amk ((by rw [hg];exact Nat.ne_of_lt (blk_lt (g:=gc2_) (o:=.cells #[.slice A2_0 l2_0.length c2_0] 24 (0,0)) (bkk BK2)) : gc2_ ≠ gb496));have NB496_2:=amk ((by rw [hg];exact Nat.ne_of_gt (blk_lt (g:=gc2_) (o:=.cells #[.slice A2_0 l2_0.length c2_0] 24 (0,0)) (bkk BK2)) : gb496 ≠ gc2_));replace BK2:=amk (blk_below (g:=gc2_) (o:=.cells #[.slice A2_0 l2_0.length c2_0] 24 (0,0)) (bkk BK2) hb);clear hb hbox hg;have hnb6:=NB1_496.out;have hnc6:=NB496_1.out;have hcz7_0 : w5.cell? ⟨gc1_,0,none⟩=some (.slice A1_0 l1_0.length c1_0):=(blk_cell BK1.out 0).trans rfl;have hfz7_0:=blk_frozen BK1.out 0)|((with_reducible refine gate_callee (f:=75) rfl ?_);refine goesL_ (some 7) rfl rfl Try.func75 (by kernel_rfl) rfl #[.slice A1_0 l1_0.length c1_0,.func (.func 76) #[] #[.pointer (some ⟨gc2_,0,none⟩),.pointer (some ⟨gb496,0,none⟩)]] rfl mtt ?_;(with_reducible refine (impl_Sump_75.calls k _ _ l1_0 76 #[.pointer (some ⟨gc2_,0,none⟩),.pointer (some ⟨gb496,0,none⟩)] (fun x_ : S44=>impl_OpenFor_1_1.f k x_.f0 x_.f1 x_.f2 l2_0 a0) t497 _ ?side1 ?side2 ?side3 ?side4 A4.out).mono ?_);(case side1=>exact ccc (Kd.C_below HR1_0.out HB.out));(case side2=>exact HC1_0.out);(case side3=>exact enters_fn Try.func76 (by kernel_rfl) rfl);(case side4=>intro W_ x_ b_ hx_ hW_;exact (impl_OpenFor_1_1.calls k x_.f0 x_.f1 x_.f2 gc2_ _ _ l2_0 gb496 a0 b_ W_ (Kd.C_below (show Kd.C k30 _ _ _ l2_0 from by repeat (first | exact (Kd.C_below HR2_0.out HB.out)|(with_reducible refine Kd.C_alloc ?_ _)|(with_reducible refine Kd.C_drewN ?_ _)|(with_reducible refine Kd.C_drew ?_))) hW_) (by exact HC2_0.out) (blk_below (bkk BK2) hW_) (blk_below (bkk BK496) hW_) hx_).mono (fun _ _ h_=>⟨h_.1,h_.2⟩));rintro e w8 ⟨rfl,hb⟩;refine ⟨_,rfl,?_⟩;replace BK1:=amk (blk_below (g:=gc1_) (o:=.cells #[.slice A1_0 l1_0.length c1_0] 55 (0,0)) (bkk BK1) hb);replace BK2:=amk (blk_below (g:=gc2_) (o:=.cells #[.slice A2_0 l2_0.length c2_0] 24 (0,0)) (bkk BK2) hb);replace BK496:=amk (blk_below (g:=gb496) (o:=.cells #[.int .i64 a0] 3 (0,0)) (bkk BK496) hb);replace HB:=amk (below_step (bel1 HB GE496.out) hb);(try clear hb)))
 go_ret
 exact ⟨erw0,bel1 HB GE496.out⟩
mutual
def impl_OpenFor.j0 : Nat→Int→Bool→List (S30)→List (S44)→Option (Int × Bool)
 | 0,_,_,_,_=>none
 | k + 1,x2,x25,x499000,x500000=>if x25=true then (some (0,false)) else ((impl_hours.f x499000).bind fun bt503=>((impl_spans.f k bt503.1 bt503.2 (fun x_ : Int=>impl_OpenFor_1.f k x_ x500000 x499000)).bind fun t505=>(impl_OpenFor.l0 k x2 t505 (t505.length : Int) 0)))
def impl_OpenFor.l0 : Nat→Int→List (List Int)→Int→Int→Option (Int × Bool)
 | 0,_,_,_,_=>none
 | k + 1,x2,x35,x36,x37=>if x37 < x36 then (if 0≤x37 then (if x37 < (x35.length : Int) then (if 1 < ((rd_L4 x35 x37).length : Int) then (if 0 < ((rd_L4 x35 x37).length : Int) then (if (wrap64 ((wrap64 ((rd (rd_L4 x35 x37) 1) - (rd (rd_L4 x35 x37) 0))) + 1)) ≥ x2 then (some (rd (rd_L4 x35 x37) 0,true)) else (impl_OpenFor.l0 k x2 x35 x36 (wrap64 (x37 + 1)))) else (none)) else (none)) else (none)) else (none)) else (some (0,false))
end
def impl_OpenFor.f (k : Nat) (l0 : List (S30)) (l1 : List (S44)) (a2 : Int) : Option (Int × Bool):=(impl_AreReadings.f k l0).bind fun t500=>(if t500=true then ((impl_AreSumps.f k l1).bind fun t501=>(if t501=true then ((impl_within.f a2 1 100).bind fun t502=>(impl_OpenFor.j0 k a2 (!t502) l0 l1)) else (impl_OpenFor.j0 k a2 true l0 l1))) else (impl_OpenFor.j0 k a2 true l0 l1))
theorem impl_OpenFor.mono_l : ∀ k,(∀ y0 y1 y2 y3,LeO (impl_OpenFor.j0 k y0 y1 y2 y3) (impl_OpenFor.j0 (k + 1) y0 y1 y2 y3))∧(∀ y0 y1 y2 y3,LeO (impl_OpenFor.l0 k y0 y1 y2 y3) (impl_OpenFor.l0 (k + 1) y0 y1 y2 y3))
 | 0=>⟨fun _ _ _ _ r h=>by simp [impl_OpenFor.j0] at h,fun _ _ _ _ r h=>by simp [impl_OpenFor.l0] at h⟩
 | k + 1=>by
  obtain ⟨ih0,ih1⟩:=impl_OpenFor.mono_l k
  refine ⟨?_,?_⟩
  ·intro y0 y1 y2 y3
   unfold impl_OpenFor.j0
   repeat' first
   | (with_reducible exact ih0 _ _ _ _)
   | (with_reducible exact ih1 _ _ _ _)
   | (with_reducible exact impl_AreReadings.mono _ _)
   | (with_reducible exact impl_AreSumps.mono _ _)
   | (with_reducible exact impl_OpenFor_1.mono _ _ _ _)
   | (with_reducible exact impl_spans.mono _ _ _ _ _ (fun _=>by first | exact LeO.refl _ | exact impl_OpenSpans_1.mono _ _ _ _ _ _ | exact impl_OpenFor_1_1.mono _ _ _ _ _ _ | exact impl_OpenFor_1.mono _ _ _ _))
   | (with_reducible exact LeO.refl _)
   | (with_reducible exact LeO.none _)
   | (with_reducible refine LeO.ite ?_ ?_)
   | (with_reducible refine LeO.bind ?_ (fun _=>?_))
   | exact ih0 _ _ _ _
   | exact ih1 _ _ _ _
   | exact impl_spans.mono _ _ _ _ _ (fun _=>by first | exact LeO.refl _ | exact impl_OpenSpans_1.mono _ _ _ _ _ _ | exact impl_OpenFor_1_1.mono _ _ _ _ _ _ | exact impl_OpenFor_1.mono _ _ _ _)
  ·intro y0 y1 y2 y3
   unfold impl_OpenFor.l0
   repeat' first
   | (with_reducible exact ih0 _ _ _ _)
   | (with_reducible exact ih1 _ _ _ _)
   | (with_reducible exact impl_AreReadings.mono _ _)
   | (with_reducible exact impl_AreSumps.mono _ _)
   | (with_reducible exact impl_OpenFor_1.mono _ _ _ _)
   | (with_reducible exact impl_spans.mono _ _ _ _ _ (fun _=>by first | exact LeO.refl _ | exact impl_OpenSpans_1.mono _ _ _ _ _ _ | exact impl_OpenFor_1_1.mono _ _ _ _ _ _ | exact impl_OpenFor_1.mono _ _ _ _))
   | (with_reducible exact LeO.refl _)
   | (with_reducible exact LeO.none _)
   | (with_reducible refine LeO.ite ?_ ?_)
   | (with_reducible refine LeO.bind ?_ (fun _=>?_))
   | exact ih0 _ _ _ _
   | exact ih1 _ _ _ _
   | exact impl_spans.mono _ _ _ _ _ (fun _=>by first | exact LeO.refl _ | exact impl_OpenSpans_1.mono _ _ _ _ _ _ | exact impl_OpenFor_1_1.mono _ _ _ _ _ _ | exact impl_OpenFor_1.mono _ _ _ _)
theorem impl_OpenFor.mono : ∀ a0 a1 a2 k,LeO (impl_OpenFor.f k a0 a1 a2) (impl_OpenFor.f (k + 1) a0 a1 a2):=by
 intro a0 a1 a2 k
 obtain ⟨ih0,ih1⟩:=impl_OpenFor.mono_l k
 unfold impl_OpenFor.f
 repeat' first
   | (with_reducible exact ih0 _ _ _ _)
   | (with_reducible exact ih1 _ _ _ _)
   | (with_reducible exact impl_AreReadings.mono _ _)
   | (with_reducible exact impl_AreSumps.mono _ _)
   | (with_reducible exact impl_OpenFor_1.mono _ _ _ _)
   | (with_reducible exact impl_spans.mono _ _ _ _ _ (fun _=>by first | exact LeO.refl _ | exact impl_OpenSpans_1.mono _ _ _ _ _ _ | exact impl_OpenFor_1_1.mono _ _ _ _ _ _ | exact impl_OpenFor_1.mono _ _ _ _))
   | (with_reducible exact LeO.refl _)
   | (with_reducible exact LeO.none _)
   | (with_reducible refine LeO.ite ?_ ?_)
   | (with_reducible refine LeO.bind ?_ (fun _=>?_))
   | exact ih0 _ _ _ _
   | exact ih1 _ _ _ _
   | exact impl_spans.mono _ _ _ _ _ (fun _=>by first | exact LeO.refl _ | exact impl_OpenSpans_1.mono _ _ _ _ _ _ | exact impl_OpenFor_1_1.mono _ _ _ _ _ _ | exact impl_OpenFor_1.mono _ _ _ _)
set_option maxHeartbeats 8000000 in
set_option maxRecDepth 100000 in
theorem impl_OpenFor.calls (k : Nat) (A0 : Option Addr) (c0 : Nat) (l0 : List (S30)) (A1 : Option Addr) (c1 : Nat) (l1 : List (S44)) (a2 : Int) (r1 : Int) (r2 : Bool) (w : World) (hr0 : Kd.C k30 w A0 l0.length l0) (hc0 : l0.length≤c0) (hr1 : Kd.C k44 w A1 l1.length l1) (hc1 : l1.length≤c1) (h : impl_OpenFor.f k l0 l1 a2=some (r1,r2)) :
  Calls Try.prog 30 #[.slice A0 l0.length c0,.slice A1 l1.length c1,.int .i64 a2] w fun e w'=>e = .returned (.tuple #[.int .i64 r1,.bool r2])∧Below w.heap.size w w':=by
 have HR0:=amk hr0
 have HC0:=amk hc0
 clear hr0 hc0
 have HR1:=amk hr1
 have HC1:=amk hc1
 clear hr1 hc1
 have HB:=amk (Below.refl w.heap.size w)
 have H : ((impl_AreReadings.f k l0).bind fun t500=>(if t500=true then ((impl_AreSumps.f k l1).bind fun t501=>(if t501=true then ((impl_within.f a2 1 100).bind fun t502=>(impl_OpenFor.j0 k a2 (!t502) l0 l1)) else (impl_OpenFor.j0 k a2 true l0 l1))) else (impl_OpenFor.j0 k a2 true l0 l1)))=some (r1,r2):=h
 clear h
 have HC4:=amk H
 clear H
 have hmf_ : ∀ (fn_ : Fn) (first_ cap_ : Array Value) (w_ : World),(Instr.makeFunc fn_ first_ cap_).run Try.prog w_ = .ok (.func fn_ first_ cap_) w_:=fun _ _ _ _=>rfl
 go_enter Try.func30,Try.ntmps30
 go_upto_region 1 with (first | ((with_reducible refine gate_dst (N:=3) rfl ?_);refine box_event ?hg (N:=3) ?hd (cs:=#[.slice A0 l0.length c0]) (t:=24) ?hr ?_;(case hd=>rfl);(case hg=>rfl);(case hr=>first | (go_simp;done)|(go_simp;rfl));intro gb498 hg w5 hbox hb;have BK498:=amk (hbox);have GW498:=amk ((by rw [hg];exact (below_size (bel HB)) : w.heap.size≤gb498));have GE498:=amk ((by rw [hg];exact (below_size (bel HB)) : w.heap.size≤gb498));replace HB:=amk (below_step (bel HB) hb);clear hb hbox hg)|((with_reducible refine gate_dst (N:=4) rfl ?_);refine box_event ?hg (N:=4) ?hd (cs:=#[.slice A1 l1.length c1]) (t:=55) ?hr ?_;(case hd=>rfl);(case hg=>rfl);(case hr=>first | (go_simp;done)|(go_simp;rfl));intro gb499 hg w6 hbox hb;have BK499:=amk (hbox);have GW499:=amk ((by rw [hg];exact (below_size (bel1 HB GE498.out)) : w.heap.size≤gb499));have GE499:=amk ((by rw [hg];exact (below_size (bel1 HB GE498.out)) : w.heap.size≤gb499));replace HB:=amk (below_step (bel1 HB GE498.out) hb);have NB498_499:=amk ((by rw [hg];exact Nat.ne_of_lt (blk_lt (g:=gb498) (o:=.cells #[.slice A0 l0.length c0] 24 (0,0)) (bkk BK498)) : gb498 ≠ gb499));have NB499_498:=amk ((by rw [hg];exact Nat.ne_of_gt (blk_lt (g:=gb498) (o:=.cells #[.slice A0 l0.length c0] 24 (0,0)) (bkk BK498)) : gb499 ≠ gb498));replace BK498:=amk (blk_below (g:=gb498) (o:=.cells #[.slice A0 l0.length c0] 24 (0,0)) (bkk BK498) hb);clear hb hbox hg))
 repeat (go_quiet (first | ((with_reducible refine gate_dst (N:=3) rfl ?_);refine box_event ?hg (N:=3) ?hd (cs:=#[.slice A0 l0.length c0]) (t:=24) ?hr ?_;(case hd=>rfl);(case hg=>rfl);(case hr=>first | (go_simp;done)|(go_simp;rfl));intro gb498 hg w5 hbox hb;have BK498:=amk (hbox);have GW498:=amk ((by rw [hg];exact (below_size (bel HB)) : w.heap.size≤gb498));have GE498:=amk ((by rw [hg];exact (below_size (bel HB)) : w.heap.size≤gb498));replace HB:=amk (below_step (bel HB) hb);clear hb hbox hg)|((with_reducible refine gate_dst (N:=4) rfl ?_);refine box_event ?hg (N:=4) ?hd (cs:=#[.slice A1 l1.length c1]) (t:=55) ?hr ?_;(case hd=>rfl);(case hg=>rfl);(case hr=>first | (go_simp;done)|(go_simp;rfl));intro gb499 hg w6 hbox hb;have BK499:=amk (hbox);have GW499:=amk ((by rw [hg];exact (below_size (bel1 HB GE498.out)) : w.heap.size≤gb499));have GE499:=amk ((by rw [hg];exact (below_size (bel1 HB GE498.out)) : w.heap.size≤gb499));replace HB:=amk (below_step (bel1 HB GE498.out) hb);have NB498_499:=amk ((by rw [hg];exact Nat.ne_of_lt (blk_lt (g:=gb498) (o:=.cells #[.slice A0 l0.length c0] 24 (0,0)) (bkk BK498)) : gb498 ≠ gb499));have NB499_498:=amk ((by rw [hg];exact Nat.ne_of_gt (blk_lt (g:=gb498) (o:=.cells #[.slice A0 l0.length c0] 24 (0,0)) (bkk BK498)) : gb499 ≠ gb498));replace BK498:=amk (blk_below (g:=gb498) (o:=.cells #[.slice A0 l0.length c0] 24 (0,0)) (bkk BK498) hb);clear hb hbox hg));go_upto_region 1 with (first | ((with_reducible refine gate_dst (N:=3) rfl ?_);refine box_event ?hg (N:=3) ?hd (cs:=#[.slice A0 l0.length c0]) (t:=24) ?hr ?_;(case hd=>rfl);(case hg=>rfl);(case hr=>first | (go_simp;done)|(go_simp;rfl));intro gb498 hg w5 hbox hb;have BK498:=amk (hbox);have GW498:=amk ((by rw [hg];exact (below_size (bel HB)) : w.heap.size≤gb498));have GE498:=amk ((by rw [hg];exact (below_size (bel HB)) : w.heap.size≤gb498));replace HB:=amk (below_step (bel HB) hb);clear hb hbox hg)|((with_reducible refine gate_dst (N:=4) rfl ?_);refine box_event ?hg (N:=4) ?hd (cs:=#[.slice A1 l1.length c1]) (t:=55) ?hr ?_;(case hd=>rfl);(case hg=>rfl);(case hr=>first | (go_simp;done)|(go_simp;rfl));intro gb499 hg w6 hbox hb;have BK499:=amk (hbox);have GW499:=amk ((by rw [hg];exact (below_size (bel1 HB GE498.out)) : w.heap.size≤gb499));have GE499:=amk ((by rw [hg];exact (below_size (bel1 HB GE498.out)) : w.heap.size≤gb499));replace HB:=amk (below_step (bel1 HB GE498.out) hb);have NB498_499:=amk ((by rw [hg];exact Nat.ne_of_lt (blk_lt (g:=gb498) (o:=.cells #[.slice A0 l0.length c0] 24 (0,0)) (bkk BK498)) : gb498 ≠ gb499));have NB499_498:=amk ((by rw [hg];exact Nat.ne_of_gt (blk_lt (g:=gb498) (o:=.cells #[.slice A0 l0.length c0] 24 (0,0)) (bkk BK498)) : gb499 ≠ gb498));replace BK498:=amk (blk_below (g:=gb498) (o:=.cells #[.slice A0 l0.length c0] 24 (0,0)) (bkk BK498) hb);clear hb hbox hg)))
 (try simp only [Act.put,List.setIfInBounds_toArray,List.set_cons_zero,List.set_cons_succ])
 go_cut [25] (fun v25 wc=>∃ (kq : Nat) (x25_3 : Bool),v25 = .bool x25_3∧Aside0 (impl_OpenFor.j0 kq a2 x25_3 l0 l1=some (r1,r2))∧Aside0 (kq≤k)∧Aside0 (wc.heap[gb498]? = some (.cells #[(.slice A0 l0.length c0)] 24 (0,0)))∧Aside0 (wc.heap[gb499]? = some (.cells #[(.slice A1 l1.length c1)] 55 (0,0)))∧Aside0 (Below w.heap.size w wc))
 case first=>
  have H:=HC4.out
  clear HC4
  replace H:=obs H
  obtain ⟨t500,A70,H⟩:=H
  replace H : (if t500=true then ((impl_AreSumps.f k l1).bind fun t501=>(if t501=true then ((impl_within.f a2 1 100).bind fun t502=>(impl_OpenFor.j0 k a2 (!t502) l0 l1)) else (impl_OpenFor.j0 k a2 true l0 l1))) else (impl_OpenFor.j0 k a2 true l0 l1))=some (r1,r2):=H
  have A7:=amk A70
  clear A70
  by_cases c8 : t500=true
  ·subst c8
   have H1 : ((impl_AreSumps.f k l1).bind fun t501=>(if t501=true then ((impl_within.f a2 1 100).bind fun t502=>(impl_OpenFor.j0 k a2 (!t502) l0 l1)) else (impl_OpenFor.j0 k a2 true l0 l1)))=some (r1,r2):=by rw [if_pos rfl] at H;exact H
   clear H
   have H:=H1
   clear H1
   replace H:=obs H
   obtain ⟨t501,A90,H⟩:=H
   replace H : (if t501=true then ((impl_within.f a2 1 100).bind fun t502=>(impl_OpenFor.j0 k a2 (!t502) l0 l1)) else (impl_OpenFor.j0 k a2 true l0 l1))=some (r1,r2):=H
   have A9:=amk A90
   clear A90
   by_cases c10 : t501=true
   ·subst c10
    have H1 : ((impl_within.f a2 1 100).bind fun t502=>(impl_OpenFor.j0 k a2 (!t502) l0 l1))=some (r1,r2):=by rw [if_pos rfl] at H;exact H
    clear H
    have H:=H1
    clear H1
    replace H:=obs H
    obtain ⟨t502,A110,H⟩:=H
    replace H : (impl_OpenFor.j0 k a2 (!t502) l0 l1)=some (r1,r2):=H
    have A11:=amk A110
    clear A110
    have H':=amk H
    clear H
    have hnb12:=NB498_499.out
    have hnc12:=NB499_498.out
    have hcz13_0 : w6.cell? ⟨gb498,0,none⟩=some (.slice A0 l0.length c0):=(blk_cell BK498.out 0).trans rfl
    have hfz13_0:=blk_frozen BK498.out 0
    go_wp2_with (first | (go_at_call 15;(with_reducible refine (impl_AreReadings.calls k _ _ l0 true _ ?side1 ?side2 A7.out).mono ?_);(case side1=>exact ccc (Kd.C_below HR0.out HB.out));(case side2=>exact HC0.out);rintro e w14 ⟨rfl,hb⟩;replace BK498:=amk (blk_below (g:=gb498) (o:=.cells #[.slice A0 l0.length c0] 24 (0,0)) (bkk BK498) hb);replace BK499:=amk (blk_below (g:=gb499) (o:=.cells #[.slice A1 l1.length c1] 55 (0,0)) (bkk BK499) hb);replace HB:=amk (below_step (bel2 HB GE498.out GE499.out) hb);(try clear hb);have hcz15_0 : w14.cell? ⟨gb499,0,none⟩=some (.slice A1 l1.length c1):=(blk_cell BK499.out 0).trans rfl;have hfz15_0:=blk_frozen BK499.out 0)|(go_at_call 41;(with_reducible refine (impl_AreSumps.calls k _ _ l1 true _ ?side1 ?side2 A9.out).mono ?_);(case side1=>exact ccc (Kd.C_below HR1.out HB.out));(case side2=>exact HC1.out);rintro e w16 ⟨rfl,hb⟩;replace BK498:=amk (blk_below (g:=gb498) (o:=.cells #[.slice A0 l0.length c0] 24 (0,0)) (bkk BK498) hb);replace BK499:=amk (blk_below (g:=gb499) (o:=.cells #[.slice A1 l1.length c1] 55 (0,0)) (bkk BK499) hb);replace HB:=amk (below_step (bel2 HB GE498.out GE499.out) hb);(try clear hb))|(go_at_call 57;(with_reducible refine (impl_within.calls a2 1 100 t502 _ A11.out).mono ?_);rintro e w' ⟨rfl,⟨nd,rfl⟩⟩;(try exact ddd)))
    repeat (go_quiet (first | (go_at_call 15;(with_reducible refine (impl_AreReadings.calls k _ _ l0 true _ ?side1 ?side2 A7.out).mono ?_);(case side1=>exact ccc (Kd.C_below HR0.out HB.out));(case side2=>exact HC0.out);rintro e w14 ⟨rfl,hb⟩;replace BK498:=amk (blk_below (g:=gb498) (o:=.cells #[.slice A0 l0.length c0] 24 (0,0)) (bkk BK498) hb);replace BK499:=amk (blk_below (g:=gb499) (o:=.cells #[.slice A1 l1.length c1] 55 (0,0)) (bkk BK499) hb);replace HB:=amk (below_step (bel2 HB GE498.out GE499.out) hb);(try clear hb);have hcz15_0 : w14.cell? ⟨gb499,0,none⟩=some (.slice A1 l1.length c1):=(blk_cell BK499.out 0).trans rfl;have hfz15_0:=blk_frozen BK499.out 0)|(go_at_call 41;(with_reducible refine (impl_AreSumps.calls k _ _ l1 true _ ?side1 ?side2 A9.out).mono ?_);(case side1=>exact ccc (Kd.C_below HR1.out HB.out));(case side2=>exact HC1.out);rintro e w16 ⟨rfl,hb⟩;replace BK498:=amk (blk_below (g:=gb498) (o:=.cells #[.slice A0 l0.length c0] 24 (0,0)) (bkk BK498) hb);replace BK499:=amk (blk_below (g:=gb499) (o:=.cells #[.slice A1 l1.length c1] 55 (0,0)) (bkk BK499) hb);replace HB:=amk (below_step (bel2 HB GE498.out GE499.out) hb);(try clear hb))|(go_at_call 57;(with_reducible refine (impl_within.calls a2 1 100 t502 _ A11.out).mono ?_);rintro e w' ⟨rfl,⟨nd,rfl⟩⟩;(try exact ddd)));try go_wp2_with (first | (go_at_call 15;(with_reducible refine (impl_AreReadings.calls k _ _ l0 true _ ?side1 ?side2 A7.out).mono ?_);(case side1=>exact ccc (Kd.C_below HR0.out HB.out));(case side2=>exact HC0.out);rintro e w14 ⟨rfl,hb⟩;replace BK498:=amk (blk_below (g:=gb498) (o:=.cells #[.slice A0 l0.length c0] 24 (0,0)) (bkk BK498) hb);replace BK499:=amk (blk_below (g:=gb499) (o:=.cells #[.slice A1 l1.length c1] 55 (0,0)) (bkk BK499) hb);replace HB:=amk (below_step (bel2 HB GE498.out GE499.out) hb);(try clear hb);have hcz15_0 : w14.cell? ⟨gb499,0,none⟩=some (.slice A1 l1.length c1):=(blk_cell BK499.out 0).trans rfl;have hfz15_0:=blk_frozen BK499.out 0)|(go_at_call 41;(with_reducible refine (impl_AreSumps.calls k _ _ l1 true _ ?side1 ?side2 A9.out).mono ?_);(case side1=>exact ccc (Kd.C_below HR1.out HB.out));(case side2=>exact HC1.out);rintro e w16 ⟨rfl,hb⟩;replace BK498:=amk (blk_below (g:=gb498) (o:=.cells #[.slice A0 l0.length c0] 24 (0,0)) (bkk BK498) hb);replace BK499:=amk (blk_below (g:=gb499) (o:=.cells #[.slice A1 l1.length c1] 55 (0,0)) (bkk BK499) hb);replace HB:=amk (below_step (bel2 HB GE498.out GE499.out) hb);(try clear hb))|(go_at_call 57;(with_reducible refine (impl_within.calls a2 1 100 t502 _ A11.out).mono ?_);rintro e w' ⟨rfl,⟨nd,rfl⟩⟩;(try exact ddd))))
    go_meet
    case rel=>exact ⟨_,(!t502),rsd,H',⟨by first | omega | exact Nat.le_refl _⟩,⟨by (with_reducible repeat (first | refine blk_drewN ?_ _ | refine blk_drew ?_ | refine blk_alloc ?_ _));exact BK498.out⟩,⟨by (with_reducible repeat (first | refine blk_drewN ?_ _ | refine blk_drew ?_ | refine blk_alloc ?_ _));exact BK499.out⟩,⟨bel2 HB GE498.out GE499.out⟩⟩
   ·replace c10:=Bool.eq_false_iff.mpr c10
    subst c10
    have H1 : (impl_OpenFor.j0 k a2 true l0 l1)=some (r1,r2):=by rw [if_neg (show ¬ (false=true) by decide)] at H;exact H
    clear H
    have H:=H1
    clear H1
    have H':=amk H
    clear H
    have hnb17:=NB498_499.out
    have hnc17:=NB499_498.out
    have hcz18_0 : w6.cell? ⟨gb498,0,none⟩=some (.slice A0 l0.length c0):=(blk_cell BK498.out 0).trans rfl
    have hfz18_0:=blk_frozen BK498.out 0
    go_wp2_with (first | (go_at_call 15;(with_reducible refine (impl_AreReadings.calls k _ _ l0 true _ ?side1 ?side2 A7.out).mono ?_);(case side1=>exact ccc (Kd.C_below HR0.out HB.out));(case side2=>exact HC0.out);rintro e w19 ⟨rfl,hb⟩;replace BK498:=amk (blk_below (g:=gb498) (o:=.cells #[.slice A0 l0.length c0] 24 (0,0)) (bkk BK498) hb);replace BK499:=amk (blk_below (g:=gb499) (o:=.cells #[.slice A1 l1.length c1] 55 (0,0)) (bkk BK499) hb);replace HB:=amk (below_step (bel2 HB GE498.out GE499.out) hb);(try clear hb);have hcz20_0 : w19.cell? ⟨gb499,0,none⟩=some (.slice A1 l1.length c1):=(blk_cell BK499.out 0).trans rfl;have hfz20_0:=blk_frozen BK499.out 0)|(go_at_call 41;(with_reducible refine (impl_AreSumps.calls k _ _ l1 false _ ?side1 ?side2 A9.out).mono ?_);(case side1=>exact ccc (Kd.C_below HR1.out HB.out));(case side2=>exact HC1.out);rintro e w21 ⟨rfl,hb⟩;replace BK498:=amk (blk_below (g:=gb498) (o:=.cells #[.slice A0 l0.length c0] 24 (0,0)) (bkk BK498) hb);replace BK499:=amk (blk_below (g:=gb499) (o:=.cells #[.slice A1 l1.length c1] 55 (0,0)) (bkk BK499) hb);replace HB:=amk (below_step (bel2 HB GE498.out GE499.out) hb);(try clear hb)))
    repeat (go_quiet (first | (go_at_call 15;(with_reducible refine (impl_AreReadings.calls k _ _ l0 true _ ?side1 ?side2 A7.out).mono ?_);(case side1=>exact ccc (Kd.C_below HR0.out HB.out));(case side2=>exact HC0.out);rintro e w19 ⟨rfl,hb⟩;replace BK498:=amk (blk_below (g:=gb498) (o:=.cells #[.slice A0 l0.length c0] 24 (0,0)) (bkk BK498) hb);replace BK499:=amk (blk_below (g:=gb499) (o:=.cells #[.slice A1 l1.length c1] 55 (0,0)) (bkk BK499) hb);replace HB:=amk (below_step (bel2 HB GE498.out GE499.out) hb);(try clear hb);have hcz20_0 : w19.cell? ⟨gb499,0,none⟩=some (.slice A1 l1.length c1):=(blk_cell BK499.out 0).trans rfl;have hfz20_0:=blk_frozen BK499.out 0)|(go_at_call 41;(with_reducible refine (impl_AreSumps.calls k _ _ l1 false _ ?side1 ?side2 A9.out).mono ?_);(case side1=>exact ccc (Kd.C_below HR1.out HB.out));(case side2=>exact HC1.out);rintro e w21 ⟨rfl,hb⟩;replace BK498:=amk (blk_below (g:=gb498) (o:=.cells #[.slice A0 l0.length c0] 24 (0,0)) (bkk BK498) hb);replace BK499:=amk (blk_below (g:=gb499) (o:=.cells #[.slice A1 l1.length c1] 55 (0,0)) (bkk BK499) hb);replace HB:=amk (below_step (bel2 HB GE498.out GE499.out) hb);(try clear hb)));try go_wp2_with (first | (go_at_call 15;(with_reducible refine (impl_AreReadings.calls k _ _ l0 true _ ?side1 ?side2 A7.out).mono ?_);(case side1=>exact ccc (Kd.C_below HR0.out HB.out));(case side2=>exact HC0.out);rintro e w19 ⟨rfl,hb⟩;replace BK498:=amk (blk_below (g:=gb498) (o:=.cells #[.slice A0 l0.length c0] 24 (0,0)) (bkk BK498) hb);replace BK499:=amk (blk_below (g:=gb499) (o:=.cells #[.slice A1 l1.length c1] 55 (0,0)) (bkk BK499) hb);replace HB:=amk (below_step (bel2 HB GE498.out GE499.out) hb);(try clear hb);have hcz20_0 : w19.cell? ⟨gb499,0,none⟩=some (.slice A1 l1.length c1):=(blk_cell BK499.out 0).trans rfl;have hfz20_0:=blk_frozen BK499.out 0)|(go_at_call 41;(with_reducible refine (impl_AreSumps.calls k _ _ l1 false _ ?side1 ?side2 A9.out).mono ?_);(case side1=>exact ccc (Kd.C_below HR1.out HB.out));(case side2=>exact HC1.out);rintro e w21 ⟨rfl,hb⟩;replace BK498:=amk (blk_below (g:=gb498) (o:=.cells #[.slice A0 l0.length c0] 24 (0,0)) (bkk BK498) hb);replace BK499:=amk (blk_below (g:=gb499) (o:=.cells #[.slice A1 l1.length c1] 55 (0,0)) (bkk BK499) hb);replace HB:=amk (below_step (bel2 HB GE498.out GE499.out) hb);(try clear hb))))
    go_meet
    case rel=>exact ⟨_,(true),rsd,H',⟨by first | omega | exact Nat.le_refl _⟩,⟨by (with_reducible repeat (first | refine blk_drewN ?_ _ | refine blk_drew ?_ | refine blk_alloc ?_ _));exact BK498.out⟩,⟨by (with_reducible repeat (first | refine blk_drewN ?_ _ | refine blk_drew ?_ | refine blk_alloc ?_ _));exact BK499.out⟩,⟨bel2 HB GE498.out GE499.out⟩⟩
  ·replace c8:=Bool.eq_false_iff.mpr c8
   subst c8
   have H1 : (impl_OpenFor.j0 k a2 true l0 l1)=some (r1,r2):=by rw [if_neg (show ¬ (false=true) by decide)] at H;exact H
   clear H
   have H:=H1
   clear H1
   have H':=amk H
   clear H
   have hnb22:=NB498_499.out
   have hnc22:=NB499_498.out
   have hcz23_0 : w6.cell? ⟨gb498,0,none⟩=some (.slice A0 l0.length c0):=(blk_cell BK498.out 0).trans rfl
   have hfz23_0:=blk_frozen BK498.out 0
   go_wp2_with (first | (go_at_call 15;(with_reducible refine (impl_AreReadings.calls k _ _ l0 false _ ?side1 ?side2 A7.out).mono ?_);(case side1=>exact ccc (Kd.C_below HR0.out HB.out));(case side2=>exact HC0.out);rintro e w24 ⟨rfl,hb⟩;replace BK498:=amk (blk_below (g:=gb498) (o:=.cells #[.slice A0 l0.length c0] 24 (0,0)) (bkk BK498) hb);replace BK499:=amk (blk_below (g:=gb499) (o:=.cells #[.slice A1 l1.length c1] 55 (0,0)) (bkk BK499) hb);replace HB:=amk (below_step (bel2 HB GE498.out GE499.out) hb);(try clear hb)))
   repeat (go_quiet (first | (go_at_call 15;(with_reducible refine (impl_AreReadings.calls k _ _ l0 false _ ?side1 ?side2 A7.out).mono ?_);(case side1=>exact ccc (Kd.C_below HR0.out HB.out));(case side2=>exact HC0.out);rintro e w24 ⟨rfl,hb⟩;replace BK498:=amk (blk_below (g:=gb498) (o:=.cells #[.slice A0 l0.length c0] 24 (0,0)) (bkk BK498) hb);replace BK499:=amk (blk_below (g:=gb499) (o:=.cells #[.slice A1 l1.length c1] 55 (0,0)) (bkk BK499) hb);replace HB:=amk (below_step (bel2 HB GE498.out GE499.out) hb);(try clear hb)));try go_wp2_with (first | (go_at_call 15;(with_reducible refine (impl_AreReadings.calls k _ _ l0 false _ ?side1 ?side2 A7.out).mono ?_);(case side1=>exact ccc (Kd.C_below HR0.out HB.out));(case side2=>exact HC0.out);rintro e w24 ⟨rfl,hb⟩;replace BK498:=amk (blk_below (g:=gb498) (o:=.cells #[.slice A0 l0.length c0] 24 (0,0)) (bkk BK498) hb);replace BK499:=amk (blk_below (g:=gb499) (o:=.cells #[.slice A1 l1.length c1] 55 (0,0)) (bkk BK499) hb);replace HB:=amk (below_step (bel2 HB GE498.out GE499.out) hb);(try clear hb))))
   go_meet
   case rel=>exact ⟨_,(true),rsd,H',⟨by first | omega | exact Nat.le_refl _⟩,⟨by (with_reducible repeat (first | refine blk_drewN ?_ _ | refine blk_drew ?_ | refine blk_alloc ?_ _));exact BK498.out⟩,⟨by (with_reducible repeat (first | refine blk_drewN ?_ _ | refine blk_drew ?_ | refine blk_alloc ?_ _));exact BK499.out⟩,⟨bel2 HB GE498.out GE499.out⟩⟩
 case rest=>
  clear HC4
  try clear c1
  try clear c2
  try clear p2
  try clear c3
  try clear c8
  try clear c10
  try clear c12
  try clear c17
  try clear c22
  try clear hcz13_0
  try clear hcz15_0
  try clear hcz18_0
  try clear hcz20_0
  try clear hcz23_0
  try clear hfz13_0
  try clear hfz15_0
  try clear hfz18_0
  try clear hfz20_0
  try clear hfz23_0
  obtain ⟨kq,x25_3,rfl,HA,HJ3,BK498,BK499,HB⟩:=hcut
  cases kq with
  | zero=>exact absurd HA.out (by simp [impl_OpenFor.j0])
  | succ kj3=>
   have H:=HA.out
   clear HA
   simp only [impl_OpenFor.j0] at H
   by_cases c25 : x25_3=true
   ·subst c25
    have H1 : (some (0,false))=some (r1,r2):=by rw [if_pos rfl] at H;exact H
    clear H
    have H:=H1
    clear H1
    simp only [Option.some.injEq,Prod.mk.injEq] at H
    obtain ⟨rfl,rfl⟩:=H
    go_wp2
    repeat (go_quiet (fail);try go_wp2)
    go_ret2
    exact ⟨erw0,bel2 HB GE498.out GE499.out⟩
   ·replace c25:=Bool.eq_false_iff.mpr c25
    subst c25
    have H1 : ((impl_hours.f l0).bind fun bt503=>((impl_spans.f kj3 bt503.1 bt503.2 (fun x_ : Int=>impl_OpenFor_1.f kj3 x_ l1 l0)).bind fun t505=>(impl_OpenFor.l0 kj3 a2 t505 (t505.length : Int) 0)))=some (r1,r2):=by rw [if_neg (show ¬ (false=true) by decide)] at H;exact H
    clear H
    have H:=H1
    clear H1
    replace H:=obs H
    obtain ⟨⟨t503,t504⟩,A260,H⟩:=H
    replace H : ((impl_spans.f kj3 t503 t504 (fun x_ : Int=>impl_OpenFor_1.f kj3 x_ l1 l0)).bind fun t505=>(impl_OpenFor.l0 kj3 a2 t505 (t505.length : Int) 0))=some (r1,r2):=H
    have A26:=amk A260
    clear A260
    replace H:=obs H
    obtain ⟨t505,A270,H⟩:=H
    replace H : (impl_OpenFor.l0 kj3 a2 t505 (t505.length : Int) 0)=some (r1,r2):=H
    have A27:=amk A270
    clear A270
    have H':=amk H
    clear H
    have hnb28:=NB498_499.out
    have hnc28:=NB499_498.out
    have hcz29_0 : wc.cell? ⟨gb498,0,none⟩=some (.slice A0 l0.length c0):=(blk_cell BK498.out 0).trans rfl
    have hfz29_0:=blk_frozen BK498.out 0
    go_wp2_with (first | (go_at_call 63;(with_reducible refine (impl_hours.calls _ _ l0 t503 t504 _ ?side1 ?side2 A26.out).mono ?_);(case side1=>exact ccc (Kd.C_below HR0.out HB.out));(case side2=>exact HC0.out);rintro e w' ⟨rfl,⟨nd,rfl⟩⟩;(try exact ddd))|(go_at_call 64;(with_reducible refine (impl_spans.calls kj3 t503 t504 74 #[.pointer (some ⟨gb499,0,none⟩),.pointer (some ⟨gb498,0,none⟩)] (fun x_ : Int=>impl_OpenFor_1.f kj3 x_ l1 l0) t505 _ ?side1 ?side2 A27.out).mono ?_);(case side1=>exact enters_fn Try.func74 (by kernel_rfl) rfl);(case side2=>intro W_ x_ b_ hx_ hW_;exact (impl_OpenFor_1.calls kj3 x_ gb499 _ _ l1 gb498 _ _ l0 b_ W_ (Kd.C_below (show Kd.C k44 _ _ _ l1 from by repeat (first | exact (Kd.C_below HR1.out (bel2 HB GE498.out GE499.out))|(with_reducible refine Kd.C_alloc ?_ _)|(with_reducible refine Kd.C_drewN ?_ _)|(with_reducible refine Kd.C_drew ?_))) hW_) (by exact HC1.out) (blk_below (bkk BK499) hW_) (Kd.C_below (show Kd.C k30 _ _ _ l0 from by repeat (first | exact (Kd.C_below HR0.out (bel2 HB GE498.out GE499.out))|(with_reducible refine Kd.C_alloc ?_ _)|(with_reducible refine Kd.C_drewN ?_ _)|(with_reducible refine Kd.C_drew ?_))) hW_) (by exact HC0.out) (blk_below (bkk BK498) hW_) hx_).mono (fun _ _ h_=>⟨h_.1,h_.2⟩));rintro e w30 ⟨v506,rfl,ho0,hb⟩;have HO507:=amk (Kd.S_lower ho0 (below_size (bel2 HB GE498.out GE499.out)));replace BK498:=amk (blk_below (g:=gb498) (o:=.cells #[.slice A0 l0.length c0] 24 (0,0)) (bkk BK498) hb);replace BK499:=amk (blk_below (g:=gb499) (o:=.cells #[.slice A1 l1.length c1] 55 (0,0)) (bkk BK499) hb);replace HB:=amk (below_step (bel2 HB GE498.out GE499.out) hb);(try clear hb ho0);obtain ⟨Ao31,co31,eo31⟩:=Kd.S_slice HO507.out;subst eo31))
    repeat (go_quiet (first | (go_at_call 63;(with_reducible refine (impl_hours.calls _ _ l0 t503 t504 _ ?side1 ?side2 A26.out).mono ?_);(case side1=>exact ccc (Kd.C_below HR0.out HB.out));(case side2=>exact HC0.out);rintro e w' ⟨rfl,⟨nd,rfl⟩⟩;(try exact ddd))|(go_at_call 64;(with_reducible refine (impl_spans.calls kj3 t503 t504 74 #[.pointer (some ⟨gb499,0,none⟩),.pointer (some ⟨gb498,0,none⟩)] (fun x_ : Int=>impl_OpenFor_1.f kj3 x_ l1 l0) t505 _ ?side1 ?side2 A27.out).mono ?_);(case side1=>exact enters_fn Try.func74 (by kernel_rfl) rfl);(case side2=>intro W_ x_ b_ hx_ hW_;exact (impl_OpenFor_1.calls kj3 x_ gb499 _ _ l1 gb498 _ _ l0 b_ W_ (Kd.C_below (show Kd.C k44 _ _ _ l1 from by repeat (first | exact (Kd.C_below HR1.out (bel2 HB GE498.out GE499.out))|(with_reducible refine Kd.C_alloc ?_ _)|(with_reducible refine Kd.C_drewN ?_ _)|(with_reducible refine Kd.C_drew ?_))) hW_) (by exact HC1.out) (blk_below (bkk BK499) hW_) (Kd.C_below (show Kd.C k30 _ _ _ l0 from by repeat (first | exact (Kd.C_below HR0.out (bel2 HB GE498.out GE499.out))|(with_reducible refine Kd.C_alloc ?_ _)|(with_reducible refine Kd.C_drewN ?_ _)|(with_reducible refine Kd.C_drew ?_))) hW_) (by exact HC0.out) (blk_below (bkk BK498) hW_) hx_).mono (fun _ _ h_=>⟨h_.1,h_.2⟩));rintro e w30 ⟨v506,rfl,ho0,hb⟩;have HO507:=amk (Kd.S_lower ho0 (below_size (bel2 HB GE498.out GE499.out)));replace BK498:=amk (blk_below (g:=gb498) (o:=.cells #[.slice A0 l0.length c0] 24 (0,0)) (bkk BK498) hb);replace BK499:=amk (blk_below (g:=gb499) (o:=.cells #[.slice A1 l1.length c1] 55 (0,0)) (bkk BK499) hb);replace HB:=amk (below_step (bel2 HB GE498.out GE499.out) hb);(try clear hb ho0);obtain ⟨Ao31,co31,eo31⟩:=Kd.S_slice HO507.out;subst eo31));try go_wp2_with (first | (go_at_call 63;(with_reducible refine (impl_hours.calls _ _ l0 t503 t504 _ ?side1 ?side2 A26.out).mono ?_);(case side1=>exact ccc (Kd.C_below HR0.out HB.out));(case side2=>exact HC0.out);rintro e w' ⟨rfl,⟨nd,rfl⟩⟩;(try exact ddd))|(go_at_call 64;(with_reducible refine (impl_spans.calls kj3 t503 t504 74 #[.pointer (some ⟨gb499,0,none⟩),.pointer (some ⟨gb498,0,none⟩)] (fun x_ : Int=>impl_OpenFor_1.f kj3 x_ l1 l0) t505 _ ?side1 ?side2 A27.out).mono ?_);(case side1=>exact enters_fn Try.func74 (by kernel_rfl) rfl);(case side2=>intro W_ x_ b_ hx_ hW_;exact (impl_OpenFor_1.calls kj3 x_ gb499 _ _ l1 gb498 _ _ l0 b_ W_ (Kd.C_below (show Kd.C k44 _ _ _ l1 from by repeat (first | exact (Kd.C_below HR1.out (bel2 HB GE498.out GE499.out))|(with_reducible refine Kd.C_alloc ?_ _)|(with_reducible refine Kd.C_drewN ?_ _)|(with_reducible refine Kd.C_drew ?_))) hW_) (by exact HC1.out) (blk_below (bkk BK499) hW_) (Kd.C_below (show Kd.C k30 _ _ _ l0 from by repeat (first | exact (Kd.C_below HR0.out (bel2 HB GE498.out GE499.out))|(with_reducible refine Kd.C_alloc ?_ _)|(with_reducible refine Kd.C_drewN ?_ _)|(with_reducible refine Kd.C_drew ?_))) hW_) (by exact HC0.out) (blk_below (bkk BK498) hW_) hx_).mono (fun _ _ h_=>⟨h_.1,h_.2⟩));rintro e w30 ⟨v506,rfl,ho0,hb⟩;have HO507:=amk (Kd.S_lower ho0 (below_size (bel2 HB GE498.out GE499.out)));replace BK498:=amk (blk_below (g:=gb498) (o:=.cells #[.slice A0 l0.length c0] 24 (0,0)) (bkk BK498) hb);replace BK499:=amk (blk_below (g:=gb499) (o:=.cells #[.slice A1 l1.length c1] 55 (0,0)) (bkk BK499) hb);replace HB:=amk (below_step (bel2 HB GE498.out GE499.out) hb);(try clear hb ho0);obtain ⟨Ao31,co31,eo31⟩:=Kd.S_slice HO507.out;subst eo31)))
    go_loopg [37] kj3 (fun kq v37 w'=>∃ (x37_2 : Int),v37 = .int .i64 x37_2∧Aside0 (impl_OpenFor.l0 kq a2 t505 (t505.length : Int) x37_2=some (r1,r2))∧Aside0 (kq≤kj3)∧Aside0 (Kd.S (Kd.slice 3 (Kd.int .i64)) 63 w' w.heap.size (fun _=>True) (.slice Ao31 t505.length co31) t505)∧Aside0 (w'.heap[gb498]? = some (.cells #[(.slice A0 l0.length c0)] 24 (0,0)))∧Aside0 (w'.heap[gb499]? = some (.cells #[(.slice A1 l1.length c1)] 55 (0,0)))∧Aside0 (Below w.heap.size w w'))
    case atStart=>exact ⟨(0),rsd,H',⟨Nat.le_refl _⟩,⟨sss HO507⟩,⟨by (with_reducible repeat (first | refine blk_drewN ?_ _ | refine blk_drew ?_ | refine blk_alloc ?_ _));exact BK498.out⟩,⟨by (with_reducible repeat (first | refine blk_drewN ?_ _ | refine blk_drew ?_ | refine blk_alloc ?_ _));exact BK499.out⟩,⟨bel2 HB GE498.out GE499.out⟩⟩
    case round=>
     clear H'
     try clear c1
     try clear c2
     try clear p2
     try clear c3
     try clear c7
     try clear c8
     try clear c10
     try clear c12
     try clear c17
     try clear c22
     try clear c25
     try clear c28
     try clear c30
     try clear hcz13_0
     try clear hcz15_0
     try clear hcz18_0
     try clear hcz20_0
     try clear hcz23_0
     try clear hcz29_0
     try clear hfz13_0
     try clear hfz15_0
     try clear hfz18_0
     try clear hfz20_0
     try clear hfz23_0
     try clear hfz29_0
     try clear p2
     obtain ⟨x37_2,rfl,HA,HK2,HO_35,BK498,BK499,HB⟩:=hrel
     cases gk with
     | zero=>exact absurd HA.out (by simp [impl_OpenFor.l0])
     | succ k2=>
      have H:=HA.out
      clear HA
      simp only [impl_OpenFor.l0] at H
      by_cases c32 : x37_2 < (t505.length : Int)
      ·rw [if_pos c32] at H
       have c32b0 : decide (x37_2 < (t505.length : Int))=true:=decide_eq_true c32
       clear c32
       by_cases c33 : 0≤x37_2
       ·rw [if_pos c33] at H
        have c33b0 : decide (0≤x37_2)=true:=decide_eq_true c33
        clear c33
        by_cases c34 : x37_2 < (t505.length : Int)
        ·rw [if_pos c34] at H
         have c34b0 : decide (x37_2 < (t505.length : Int))=true:=decide_eq_true c34
         clear c34
         by_cases c35 : 1 < ((rd_L4 t505 x37_2).length : Int)
         ·rw [if_pos c35] at H
          have c35b0 : decide (1 < ((rd_L4 t505 x37_2).length : Int))=true:=decide_eq_true c35
          have c35b1 : decide (1 < (rd_L4 t505 x37_2).length)=true:=decide_eq_true (by omega)
          clear c35
          by_cases c36 : 0 < ((rd_L4 t505 x37_2).length : Int)
          ·rw [if_pos c36] at H
           have c36b0 : decide (0 < ((rd_L4 t505 x37_2).length : Int))=true:=decide_eq_true c36
           have c36b1 : decide (0 < (rd_L4 t505 x37_2).length)=true:=decide_eq_true (by omega)
           clear c36
           by_cases c37 : (wrap64 ((wrap64 ((rd (rd_L4 t505 x37_2) 1) - (rd (rd_L4 t505 x37_2) 0))) + 1)) ≥ a2
           ·rw [if_pos c37] at H
            have c37b0 : decide (a2≤(wrap64 ((wrap64 ((rd (rd_L4 t505 x37_2) 1) - (rd (rd_L4 t505 x37_2) 0))) + 1)))=true:=decide_eq_true c37
            clear c37
            simp only [Option.some.injEq,Prod.mk.injEq] at H
            obtain ⟨rfl,rfl⟩:=H
            have p508 : 0≤(x37_2 : Int):=of_decide_eq_true ass
            have q508 : x37_2 < (t505.length : Int):=of_decide_eq_true ass
            obtain ⟨ad508,A508_0,c508_0,e508,hx508_0,hl508_0,hi508_0⟩:=at_L4 (Kd.S_reads' HO_35.out).2.2 x37_2 p508 q508
            cases e508
            obtain ⟨ce508,hce508,hMe508,hcc508⟩:=Kd.S_get HO_35.out [] x37_2 p508 (by first | exact q508 | exact of_decide_eq_true ass | (have e_:=(Kd.S_reads' HO_35.out).1;omega))
            obtain ⟨ve508_0,rfl,ge508_0⟩:=hMe508
            have hv508_0:=hcc508 0 _ rfl
            rw [Nat.add_zero,show ((Kd.slice 3 (Kd.int .i64))).sz=1 from rfl,Nat.mul_one] at hv508_0
            replace hv508_0:=Option.some.inj (hv508_0.symm.trans hx508_0)
            rw [hv508_0] at ge508_0
            have HL508_0:=amk (show Kd.R (Kd.int .i64) 3 _ _ _ _ (rd_L4 t505 x37_2) from ge508_0)
            clear hv508_0 ge508_0
            clear hcc508 hce508
            have HR508_0:=amk hi508_0
            have HC508_0:=amk hl508_0
            clear hi508_0 hl508_0
            replace p508:=eq_true p508
            replace q508:=eq_true q508
            have p509 : 0≤(1 : Int):=(by omega)
            have q509 : 1 < ((rd_L4 t505 x37_2).length : Int):=of_decide_eq_true ass
            obtain ⟨ad509,e509,hx509_0⟩:=Kd.at_int (by repeat (first | (with_reducible exact HR508_0.out)|(with_reducible refine Kd.C_alloc ?_ _)|(with_reducible refine Kd.C_drewN ?_ _)|(with_reducible refine Kd.C_drew ?_) | exact HR508_0.out)) 1 p509 q509
            cases e509
            (try simp only [show (1 : Int).toNat=1 from rfl,Nat.reduceMul,Nat.reduceEqDiff,Go.Addr.add,↓reduceIte] at hx509_0)
            have qi509 : (1 < (rd_L4 t505 x37_2).length)=True:=eq_true (by omega)
            (try rw [show ((1 : Int)).toNat=1 from rfl] at hx509_0)
            replace p509:=eq_true p509
            replace q509:=eq_true q509
            have p510 : 0≤(0 : Int):=(by omega)
            have q510 : 0 < ((rd_L4 t505 x37_2).length : Int):=of_decide_eq_true ass
            obtain ⟨ad510,e510,hx510_0⟩:=Kd.at_int (by repeat (first | (with_reducible exact HR508_0.out)|(with_reducible refine Kd.C_alloc ?_ _)|(with_reducible refine Kd.C_drewN ?_ _)|(with_reducible refine Kd.C_drew ?_) | exact HR508_0.out)) 0 p510 q510
            obtain rfl : ad509=ad510:=(by injection e510)
            have qi510 : (0 < (rd_L4 t505 x37_2).length)=True:=eq_true (by omega)
            (try rw [show ((0 : Int)).toNat=0 from rfl] at hx510_0)
            (try rw [Addr.add_zero'] at hx510_0)
            replace p510:=eq_true p510
            replace q510:=eq_true q510
            have p511 : 0≤(0 : Int):=(by omega)
            have q511 : 0 < ((rd_L4 t505 x37_2).length : Int):=of_decide_eq_true ass
            obtain ⟨ad511,e511,hx511_0⟩:=Kd.at_int (by repeat (first | (with_reducible exact HR508_0.out)|(with_reducible refine Kd.C_alloc ?_ _)|(with_reducible refine Kd.C_drewN ?_ _)|(with_reducible refine Kd.C_drew ?_) | exact HR508_0.out)) 0 p511 q511
            obtain rfl : ad509=ad511:=(by injection e511)
            have qi511 : (0 < (rd_L4 t505 x37_2).length)=True:=eq_true (by omega)
            (try rw [show ((0 : Int)).toNat=0 from rfl] at hx511_0)
            (try rw [Addr.add_zero'] at hx511_0)
            replace p511:=eq_true p511
            replace q511:=eq_true q511
            go_wp2
            repeat (go_quiet (fail);try go_wp2)
            go_ret2
            exact ⟨erw0,bel2 HB GE498.out GE499.out⟩
           ·rw [if_neg c37] at H
            have c37b0 : decide (a2≤(wrap64 ((wrap64 ((rd (rd_L4 t505 x37_2) 1) - (rd (rd_L4 t505 x37_2) 0))) + 1)))=false:=decide_eq_false c37
            clear c37
            have H':=amk H
            clear H
            have p508 : 0≤(x37_2 : Int):=of_decide_eq_true ass
            have q508 : x37_2 < (t505.length : Int):=of_decide_eq_true ass
            obtain ⟨ad508,A508_0,c508_0,e508,hx508_0,hl508_0,hi508_0⟩:=at_L4 (Kd.S_reads' HO_35.out).2.2 x37_2 p508 q508
            cases e508
            obtain ⟨ce508,hce508,hMe508,hcc508⟩:=Kd.S_get HO_35.out [] x37_2 p508 (by first | exact q508 | exact of_decide_eq_true ass | (have e_:=(Kd.S_reads' HO_35.out).1;omega))
            obtain ⟨ve508_0,rfl,ge508_0⟩:=hMe508
            have hv508_0:=hcc508 0 _ rfl
            rw [Nat.add_zero,show ((Kd.slice 3 (Kd.int .i64))).sz=1 from rfl,Nat.mul_one] at hv508_0
            replace hv508_0:=Option.some.inj (hv508_0.symm.trans hx508_0)
            rw [hv508_0] at ge508_0
            have HL508_0:=amk (show Kd.R (Kd.int .i64) 3 _ _ _ _ (rd_L4 t505 x37_2) from ge508_0)
            clear hv508_0 ge508_0
            clear hcc508 hce508
            have HR508_0:=amk hi508_0
            have HC508_0:=amk hl508_0
            clear hi508_0 hl508_0
            replace p508:=eq_true p508
            replace q508:=eq_true q508
            have p509 : 0≤(1 : Int):=(by omega)
            have q509 : 1 < ((rd_L4 t505 x37_2).length : Int):=of_decide_eq_true ass
            obtain ⟨ad509,e509,hx509_0⟩:=Kd.at_int (by repeat (first | (with_reducible exact HR508_0.out)|(with_reducible refine Kd.C_alloc ?_ _)|(with_reducible refine Kd.C_drewN ?_ _)|(with_reducible refine Kd.C_drew ?_) | exact HR508_0.out)) 1 p509 q509
            cases e509
            (try simp only [show (1 : Int).toNat=1 from rfl,Nat.reduceMul,Nat.reduceEqDiff,Go.Addr.add,↓reduceIte] at hx509_0)
            have qi509 : (1 < (rd_L4 t505 x37_2).length)=True:=eq_true (by omega)
            (try rw [show ((1 : Int)).toNat=1 from rfl] at hx509_0)
            replace p509:=eq_true p509
            replace q509:=eq_true q509
            have p510 : 0≤(0 : Int):=(by omega)
            have q510 : 0 < ((rd_L4 t505 x37_2).length : Int):=of_decide_eq_true ass
            obtain ⟨ad510,e510,hx510_0⟩:=Kd.at_int (by repeat (first | (with_reducible exact HR508_0.out)|(with_reducible refine Kd.C_alloc ?_ _)|(with_reducible refine Kd.C_drewN ?_ _)|(with_reducible refine Kd.C_drew ?_) | exact HR508_0.out)) 0 p510 q510
            obtain rfl : ad509=ad510:=(by injection e510)
            have qi510 : (0 < (rd_L4 t505 x37_2).length)=True:=eq_true (by omega)
            (try rw [show ((0 : Int)).toNat=0 from rfl] at hx510_0)
            (try rw [Addr.add_zero'] at hx510_0)
            replace p510:=eq_true p510
            replace q510:=eq_true q510
            go_wp2
            repeat (go_quiet (fail);try go_wp2)
            go_roundg k2
            case measure=>have:=HJ3.out;have:=HK2.out;omega
            case rel=>exact ⟨(wrap64 (x37_2 + 1)),rsd,H',⟨by have:=HJ3.out;have:=HK2.out;omega⟩,⟨sss HO_35⟩,⟨by (with_reducible repeat (first | refine blk_drewN ?_ _ | refine blk_drew ?_ | refine blk_alloc ?_ _));exact BK498.out⟩,⟨by (with_reducible repeat (first | refine blk_drewN ?_ _ | refine blk_drew ?_ | refine blk_alloc ?_ _));exact BK499.out⟩,⟨bel2 HB GE498.out GE499.out⟩⟩
          ·rw [if_neg c36] at H
           exact absurd H (by simp)
         ·rw [if_neg c35] at H
          exact absurd H (by simp)
        ·rw [if_neg c34] at H
         exact absurd H (by simp)
       ·rw [if_neg c33] at H
        exact absurd H (by simp)
      ·rw [if_neg c32] at H
       have c32b0 : decide (x37_2 < (t505.length : Int))=false:=decide_eq_false c32
       clear c32
       simp only [Option.some.injEq,Prod.mk.injEq] at H
       obtain ⟨rfl,rfl⟩:=H
       go_wp2
       repeat (go_quiet (fail);try go_wp2)
       go_ret2
       exact ⟨erw0,bel2 HB GE498.out GE499.out⟩
end Go.Proofs.Ytldifiededjgjaa.P
