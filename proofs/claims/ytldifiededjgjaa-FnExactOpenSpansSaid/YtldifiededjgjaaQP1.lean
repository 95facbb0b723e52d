/- For all inputs the law FnExactOpenSpans answers true, and no call of it panics. -/
import Derived.Test.YtldifiededjgjaaQP0
namespace Go.Proofs.Ytldifiededjgjaa.P
open Go.RowKit Go.Proofs.YtldifiededjgjaaW.PrintWords Go.Proofs.YtldifiededjgjaaW.PrintLast Go.Proofs.YtldifiededjgjaaW.PrintMore
attribute [local go_sem] max2_int min2_int max_two min_two max_three min_three max_four min_four
set_option linter.unusedVariables false
set_option linter.unusedSimpArgs false
mutual
def impl_AreReadings.l0 : Nat→List (S30)→List (S30)→Int→Int→Option (Bool)
 | 0,_,_,_,_=>none
 | k + 1,x0,x5,x6,x7=>if x7 < x6 then (if 0≤x7 then (if x7 < (x5.length : Int) then ((impl_within.f ((rd_T30 x5 x7).f0) 0 999).bind fun t204=>(if t204=true then ((impl_isLevel.f ((rd_T30 x5 x7).f1)).bind fun t205=>(if t205=true then (if x7 > 0 then (if 0≤(wrap64 (x7 - 1)) then (if (wrap64 (x7 - 1)) < (x0.length : Int) then (impl_AreReadings.j1 k x0 x5 x6 x7 (decide (((rd_T30 x0 (wrap64 (x7 - 1))).f0) ≥ ((rd_T30 x5 x7).f0)))) else (none)) else (none)) else (impl_AreReadings.j1 k x0 x5 x6 x7 false)) else (impl_AreReadings.j1 k x0 x5 x6 x7 true))) else (impl_AreReadings.j1 k x0 x5 x6 x7 true))) else (none)) else (none)) else (some (decide ((x0.length : Int)≤15)))
def impl_AreReadings.j1 : Nat→List (S30)→List (S30)→Int→Int→Bool→Option (Bool)
 | 0,_,_,_,_,_=>none
 | k + 1,x0,x5,x6,x7,x36=>if x36=true then (some false) else (impl_AreReadings.l0 k x0 x5 x6 (wrap64 (x7 + 1)))
end
def impl_AreReadings.f (k : Nat) (l0 : List (S30)) : Option (Bool):=impl_AreReadings.l0 k l0 l0 (l0.length : Int) 0
theorem impl_AreReadings.mono_l : ∀ k,(∀ y0 y1 y2 y3,LeO (impl_AreReadings.l0 k y0 y1 y2 y3) (impl_AreReadings.l0 (k + 1) y0 y1 y2 y3))∧(∀ y0 y1 y2 y3 y4,LeO (impl_AreReadings.j1 k y0 y1 y2 y3 y4) (impl_AreReadings.j1 (k + 1) y0 y1 y2 y3 y4))
 | 0=>⟨fun _ _ _ _ r h=>by simp [impl_AreReadings.l0] at h,fun _ _ _ _ _ r h=>by simp [impl_AreReadings.j1] at h⟩
 | k + 1=>by
  obtain ⟨ih0,ih1⟩:=impl_AreReadings.mono_l k
  refine ⟨?_,?_⟩
  ·intro y0 y1 y2 y3
   unfold impl_AreReadings.l0
   repeat' first
   | (with_reducible exact ih0 _ _ _ _)
   | (with_reducible exact ih1 _ _ _ _ _)
   | (with_reducible exact LeO.refl _)
   | (with_reducible exact LeO.none _)
   | (with_reducible refine LeO.ite ?_ ?_)
   | (with_reducible refine LeO.bind ?_ (fun _=>?_))
   | exact ih0 _ _ _ _
   | exact ih1 _ _ _ _ _
  ·intro y0 y1 y2 y3 y4
   unfold impl_AreReadings.j1
   repeat' first
   | (with_reducible exact ih0 _ _ _ _)
   | (with_reducible exact ih1 _ _ _ _ _)
   | (with_reducible exact LeO.refl _)
   | (with_reducible exact LeO.none _)
   | (with_reducible refine LeO.ite ?_ ?_)
   | (with_reducible refine LeO.bind ?_ (fun _=>?_))
   | exact ih0 _ _ _ _
   | exact ih1 _ _ _ _ _
theorem impl_AreReadings.mono : ∀ a0 k,LeO (impl_AreReadings.f k a0) (impl_AreReadings.f (k + 1) a0):=by
 intro a0 k
 obtain ⟨ih0,ih1⟩:=impl_AreReadings.mono_l k
 unfold impl_AreReadings.f
 repeat' first
   | (with_reducible exact ih0 _ _ _ _)
   | (with_reducible exact ih1 _ _ _ _ _)
   | (with_reducible exact LeO.refl _)
   | (with_reducible exact LeO.none _)
   | (with_reducible refine LeO.ite ?_ ?_)
   | (with_reducible refine LeO.bind ?_ (fun _=>?_))
   | exact ih0 _ _ _ _
   | exact ih1 _ _ _ _ _
set_option maxHeartbeats 8000000 in
set_option maxRecDepth 100000 in
theorem impl_AreReadings.calls (k : Nat) (A0 : Option Addr) (c0 : Nat) (l0 : List (S30)) (r : Bool) (w : World) (hr0 : Kd.C k30 w A0 l0.length l0) (hc0 : l0.length≤c0) (h : impl_AreReadings.f k l0=some r) :
  Calls Try.prog 15 #[.slice A0 l0.length c0] w fun e w'=>e = .returned (.bool r)∧Below w.heap.size w w':=by
 have hu30:=Try.underlying30
 have HR0:=amk hr0
 have HC0:=amk hc0
 clear hr0 hc0
 have HB:=amk (Below.refl w.heap.size w)
 have H : (impl_AreReadings.l0 k l0 l0 (l0.length : Int) 0)=some r:=h
 clear h
 have H':=amk H
 clear H
 go_enter Try.func15,Try.ntmps15
 go_wp2
 repeat (go_quiet (fail);try go_wp2)
 go_loopg [7] k (fun kq v7 w'=>∃ (x7_1 : Int),v7 = .int .i64 x7_1∧Aside0 (impl_AreReadings.l0 kq l0 l0 (l0.length : Int) x7_1=some r)∧Aside0 (kq≤k)∧Aside0 (Below w.heap.size w w'))
 case atStart=>exact ⟨(0),rsd,H',⟨Nat.le_refl _⟩,⟨bel HB⟩⟩
 case round=>
  clear H'
  try clear c1
  obtain ⟨x7_1,rfl,HA,HK1,HB⟩:=hrel
  cases gk with
  | zero=>exact absurd HA.out (by simp [impl_AreReadings.l0])
  | succ k1=>
   have H:=HA.out
   clear HA
   simp only [impl_AreReadings.l0] at H
   by_cases c2 : x7_1 < (l0.length : Int)
   ·rw [if_pos c2] at H
    have c2b0 : decide (x7_1 < (l0.length : Int))=true:=decide_eq_true c2
    clear c2
    by_cases c3 : 0≤x7_1
    ·rw [if_pos c3] at H
     have c3b0 : decide (0≤x7_1)=true:=decide_eq_true c3
     clear c3
     by_cases c4 : x7_1 < (l0.length : Int)
     ·rw [if_pos c4] at H
      have c4b0 : decide (x7_1 < (l0.length : Int))=true:=decide_eq_true c4
      clear c4
      have HC5:=amk H
      clear H
      have p202 : 0≤(x7_1 : Int):=of_decide_eq_true ass
      have q202 : x7_1 < (l0.length : Int):=of_decide_eq_true ass
      obtain ⟨ad202,e202,hx202_0,hx202_1⟩:=at_T30 HR0.out x7_1 p202 q202
      cases e202
      replace hx202_0:=(HB.out.cell (World.block_lt_of_cell? w _ hx202_0)).trans hx202_0
      replace hx202_1:=(HB.out.cell (World.block_lt_of_cell? w _ hx202_1)).trans hx202_1
      replace p202:=eq_true p202
      replace q202:=eq_true q202
      go_upto_region 4 with (first | ((with_reducible refine gate_dst (N:=4) rfl ?_);refine box_event ?hg (N:=4) ?hd (cs:=#[.int .i64 0,.int .i64 0]) (t:=30) ?hr ?_;(case hd=>rfl);(case hg=>rfl);(case hr=>first | (go_simp;done)|(go_simp;rfl));intro gb203 hg w6 hbox hb;have BK203:=amk (hbox);have GW203:=amk ((by rw [hg];exact (below_size (bel HB)) : w.heap.size≤gb203));have GE203:=amk ((by rw [hg];exact (below_size (bel HB)) : w.heap.size≤gb203));replace HB:=amk (below_step (bel HB) hb);clear hb hbox hg;have hcz7_0 : w6.cell? ⟨gb203,0,none⟩=some (.int .i64 0):=(blk_cell BK203.out 0).trans rfl;have hcz7_1 : w6.cell? ⟨gb203,1,none⟩=some (.int .i64 0):=(blk_cell BK203.out 1).trans rfl;have hfz7_0:=blk_frozen BK203.out 0;have hfz7_1:=blk_frozen BK203.out 1))
      repeat (go_quiet (first | ((with_reducible refine gate_dst (N:=4) rfl ?_);refine box_event ?hg (N:=4) ?hd (cs:=#[.int .i64 0,.int .i64 0]) (t:=30) ?hr ?_;(case hd=>rfl);(case hg=>rfl);(case hr=>first | (go_simp;done)|(go_simp;rfl));intro gb203 hg w6 hbox hb;have BK203:=amk (hbox);have GW203:=amk ((by rw [hg];exact (below_size (bel HB)) : w.heap.size≤gb203));have GE203:=amk ((by rw [hg];exact (below_size (bel HB)) : w.heap.size≤gb203));replace HB:=amk (below_step (bel HB) hb);clear hb hbox hg;have hcz7_0 : w6.cell? ⟨gb203,0,none⟩=some (.int .i64 0):=(blk_cell BK203.out 0).trans rfl;have hcz7_1 : w6.cell? ⟨gb203,1,none⟩=some (.int .i64 0):=(blk_cell BK203.out 1).trans rfl;have hfz7_0:=blk_frozen BK203.out 0;have hfz7_1:=blk_frozen BK203.out 1));go_upto_region 4 with (first | ((with_reducible refine gate_dst (N:=4) rfl ?_);refine box_event ?hg (N:=4) ?hd (cs:=#[.int .i64 0,.int .i64 0]) (t:=30) ?hr ?_;(case hd=>rfl);(case hg=>rfl);(case hr=>first | (go_simp;done)|(go_simp;rfl));intro gb203 hg w6 hbox hb;have BK203:=amk (hbox);have GW203:=amk ((by rw [hg];exact (below_size (bel HB)) : w.heap.size≤gb203));have GE203:=amk ((by rw [hg];exact (below_size (bel HB)) : w.heap.size≤gb203));replace HB:=amk (below_step (bel HB) hb);clear hb hbox hg;have hcz7_0 : w6.cell? ⟨gb203,0,none⟩=some (.int .i64 0):=(blk_cell BK203.out 0).trans rfl;have hcz7_1 : w6.cell? ⟨gb203,1,none⟩=some (.int .i64 0):=(blk_cell BK203.out 1).trans rfl;have hfz7_0:=blk_frozen BK203.out 0;have hfz7_1:=blk_frozen BK203.out 1)))
      (try simp only [Act.put,List.setIfInBounds_toArray,List.set_cons_zero,List.set_cons_succ])
      go_cut [36] (fun v36 wc=>∃ (kq : Nat) (x36_4 : Bool),v36 = .bool x36_4∧Aside0 (impl_AreReadings.j1 kq l0 l0 (l0.length : Int) x7_1 x36_4=some r)∧Aside0 (kq≤k1)∧Aside0 (wc.heap[gb203]? = some (.cells #[.int .i64 ((rd_T30 l0 x7_1).f0),.int .i64 ((rd_T30 l0 x7_1).f1)] 30 (0,0)))∧Aside0 (Below w.heap.size w wc))
      case first=>
       have H:=HC5.out
       clear HC5
       replace H:=obs H
       obtain ⟨t204,A80,H⟩:=H
       replace H : (if t204=true then ((impl_isLevel.f ((rd_T30 l0 x7_1).f1)).bind fun t205=>(if t205=true then (if x7_1 > 0 then (if 0≤(wrap64 (x7_1 - 1)) then (if (wrap64 (x7_1 - 1)) < (l0.length : Int) then (impl_AreReadings.j1 k1 l0 l0 (l0.length : Int) x7_1 (decide (((rd_T30 l0 (wrap64 (x7_1 - 1))).f0) ≥ ((rd_T30 l0 x7_1).f0)))) else (none)) else (none)) else (impl_AreReadings.j1 k1 l0 l0 (l0.length : Int) x7_1 false)) else (impl_AreReadings.j1 k1 l0 l0 (l0.length : Int) x7_1 true))) else (impl_AreReadings.j1 k1 l0 l0 (l0.length : Int) x7_1 true))=some r:=H
       have A8:=amk A80
       clear A80
       by_cases c9 : t204=true
       ·subst c9
        have H1 : ((impl_isLevel.f ((rd_T30 l0 x7_1).f1)).bind fun t205=>(if t205=true then (if x7_1 > 0 then (if 0≤(wrap64 (x7_1 - 1)) then (if (wrap64 (x7_1 - 1)) < (l0.length : Int) then (impl_AreReadings.j1 k1 l0 l0 (l0.length : Int) x7_1 (decide (((rd_T30 l0 (wrap64 (x7_1 - 1))).f0) ≥ ((rd_T30 l0 x7_1).f0)))) else (none)) else (none)) else (impl_AreReadings.j1 k1 l0 l0 (l0.length : Int) x7_1 false)) else (impl_AreReadings.j1 k1 l0 l0 (l0.length : Int) x7_1 true)))=some r:=by rw [if_pos rfl] at H;exact H
        clear H
        have H:=H1
        clear H1
        replace H:=obs H
        obtain ⟨t205,A100,H⟩:=H
        replace H : (if t205=true then (if x7_1 > 0 then (if 0≤(wrap64 (x7_1 - 1)) then (if (wrap64 (x7_1 - 1)) < (l0.length : Int) then (impl_AreReadings.j1 k1 l0 l0 (l0.length : Int) x7_1 (decide (((rd_T30 l0 (wrap64 (x7_1 - 1))).f0) ≥ ((rd_T30 l0 x7_1).f0)))) else (none)) else (none)) else (impl_AreReadings.j1 k1 l0 l0 (l0.length : Int) x7_1 false)) else (impl_AreReadings.j1 k1 l0 l0 (l0.length : Int) x7_1 true))=some r:=H
        have A10:=amk A100
        clear A100
        by_cases c11 : t205=true
        ·subst c11
         have H1 : (if x7_1 > 0 then (if 0≤(wrap64 (x7_1 - 1)) then (if (wrap64 (x7_1 - 1)) < (l0.length : Int) then (impl_AreReadings.j1 k1 l0 l0 (l0.length : Int) x7_1 (decide (((rd_T30 l0 (wrap64 (x7_1 - 1))).f0) ≥ ((rd_T30 l0 x7_1).f0)))) else (none)) else (none)) else (impl_AreReadings.j1 k1 l0 l0 (l0.length : Int) x7_1 false))=some r:=by rw [if_pos rfl] at H;exact H
         clear H
         have H:=H1
         clear H1
         by_cases c12 : x7_1 > 0
         ·rw [if_pos c12] at H
          have c12b0 : decide (0 < x7_1)=true:=decide_eq_true c12
          clear c12
          (first | rw [c12b0] | (simp only [i64_w,i32_w];rw [c12b0]) | skip)
          obtain ⟨ji13,hji13⟩ : ∃ j_ : Int,(wrap64 (x7_1 - 1))=j_:=⟨_,rfl⟩
          replace H : (if 0≤(ji13) then (if (ji13) < (l0.length : Int) then (impl_AreReadings.j1 k1 l0 l0 (l0.length : Int) x7_1 (decide (((rd_T30 l0 (ji13)).f0) ≥ ((rd_T30 l0 x7_1).f0)))) else (none)) else (none))=some r:=by first | (rw [hji13] at H;exact H)|(simp only [hji13] at H ⊢;exact H)
          (try rw [hji13] at A8)
          (try rw [hji13] at A10)
          have hji13w : (IntKind.i64.wrap (x7_1 - 1))=ji13:=(i64_w _).trans hji13
          by_cases c14 : 0≤(ji13)
          ·rw [if_pos c14] at H
           have c14b0 : decide (0≤(ji13))=true:=decide_eq_true c14
           clear c14
           by_cases c15 : (ji13) < (l0.length : Int)
           ·rw [if_pos c15] at H
            have c15b0 : decide ((ji13) < (l0.length : Int))=true:=decide_eq_true c15
            clear c15
            have H':=amk H
            clear H
            have hcz16_0 : w6.cell? ⟨gb203,0,none⟩=some (.int .i64 0):=(blk_cell BK203.out 0).trans rfl
            have hcz16_1 : w6.cell? ⟨gb203,1,none⟩=some (.int .i64 0):=(blk_cell BK203.out 1).trans rfl
            have hfz16_0:=blk_frozen BK203.out 0
            have hfz16_1:=blk_frozen BK203.out 1
            go_wp2_with (first | (go_at_call 57;(with_reducible refine (impl_within.calls ((rd_T30 l0 x7_1).f0) 0 999 true _ A8.out).mono ?_);rintro e w' ⟨rfl,⟨nd,rfl⟩⟩;(try exact ddd))|(go_at_call 58;(with_reducible refine (impl_isLevel.calls ((rd_T30 l0 x7_1).f1) true _ A10.out).mono ?_);rintro e w' ⟨rfl,⟨nd,rfl⟩⟩;(try exact ddd);have p206 : 0≤((ji13) : Int):=of_decide_eq_true ass;have q206 : (ji13) < (l0.length : Int):=of_decide_eq_true ass;obtain ⟨ad206,e206,hx206_0,hx206_1⟩:=at_T30 HR0.out (ji13) p206 q206;obtain rfl : ad202=ad206:=(by injection e206);have hn206_0 : ad202.block ≠ gb203:=Nat.ne_of_lt (Nat.lt_of_lt_of_le (by have:=World.block_lt_of_cell? _ _ hx206_0;first | rwa [add_block] at this | exact this) GW203.out);have hn206_1 : ad202.block ≠ gb203:=Nat.ne_of_lt (Nat.lt_of_lt_of_le (by have:=World.block_lt_of_cell? _ _ hx206_0;first | rwa [add_block] at this | exact this) GW203.out);replace hx206_0:=(HB.out.cell (World.block_lt_of_cell? w _ hx206_0)).trans hx206_0;replace hx206_1:=(HB.out.cell (World.block_lt_of_cell? w _ hx206_1)).trans hx206_1;replace hx206_0:=(cell_far (p:=⟨gb203,0,none⟩) (by first | (rw [add_block];exact hn206_0)|(show (Addr.add _ _).block ≠ _;rw [add_block];exact hn206_0) | exact hn206_0) (.int .i64 ((rd_T30 l0 x7_1).f0))).trans hx206_0;replace hx206_1:=(cell_far (p:=⟨gb203,0,none⟩) (by first | (rw [add_block];exact hn206_0)|(show (Addr.add _ _).block ≠ _;rw [add_block];exact hn206_0) | exact hn206_0) (.int .i64 ((rd_T30 l0 x7_1).f0))).trans hx206_1;replace hx206_0:=(cell_far (p:=⟨gb203,1,none⟩) (by first | (rw [add_block];exact hn206_1)|(show (Addr.add _ _).block ≠ _;rw [add_block];exact hn206_1) | exact hn206_1) (.int .i64 ((rd_T30 l0 x7_1).f1))).trans hx206_0;replace hx206_1:=(cell_far (p:=⟨gb203,1,none⟩) (by first | (rw [add_block];exact hn206_1)|(show (Addr.add _ _).block ≠ _;rw [add_block];exact hn206_1) | exact hn206_1) (.int .i64 ((rd_T30 l0 x7_1).f1))).trans hx206_1;(try have hy206_0:=fun (n_ : Nat)=>(show ((((w6.drewN n_).setCell ⟨gb203,0,none⟩ (.int .i64 ((rd_T30 l0 x7_1).f0))).setCell ⟨gb203,1,none⟩ (.int .i64 ((rd_T30 l0 x7_1).f1)))).cell? _=some _ from hx206_0));(try have hy206_1:=fun (n_ : Nat)=>(show ((((w6.drewN n_).setCell ⟨gb203,0,none⟩ (.int .i64 ((rd_T30 l0 x7_1).f0))).setCell ⟨gb203,1,none⟩ (.int .i64 ((rd_T30 l0 x7_1).f1)))).cell? _=some _ from hx206_1));clear hn206_0;clear hn206_1;replace p206:=eq_true p206;replace q206:=eq_true q206))
            repeat (go_quiet (first | (go_at_call 57;(with_reducible refine (impl_within.calls ((rd_T30 l0 x7_1).f0) 0 999 true _ A8.out).mono ?_);rintro e w' ⟨rfl,⟨nd,rfl⟩⟩;(try exact ddd))|(go_at_call 58;(with_reducible refine (impl_isLevel.calls ((rd_T30 l0 x7_1).f1) true _ A10.out).mono ?_);rintro e w' ⟨rfl,⟨nd,rfl⟩⟩;(try exact ddd);have p206 : 0≤((ji13) : Int):=of_decide_eq_true ass;have q206 : (ji13) < (l0.length : Int):=of_decide_eq_true ass;obtain ⟨ad206,e206,hx206_0,hx206_1⟩:=at_T30 HR0.out (ji13) p206 q206;obtain rfl : ad202=ad206:=(by injection e206);have hn206_0 : ad202.block ≠ gb203:=Nat.ne_of_lt (Nat.lt_of_lt_of_le (by have:=World.block_lt_of_cell? _ _ hx206_0;first | rwa [add_block] at this | exact this) GW203.out);have hn206_1 : ad202.block ≠ gb203:=Nat.ne_of_lt (Nat.lt_of_lt_of_le (by have:=World.block_lt_of_cell? _ _ hx206_0;first | rwa [add_block] at this | exact this) GW203.out);replace hx206_0:=(HB.out.cell (World.block_lt_of_cell? w _ hx206_0)).trans hx206_0;replace hx206_1:=(HB.out.cell (World.block_lt_of_cell? w _ hx206_1)).trans hx206_1;replace hx206_0:=(cell_far (p:=⟨gb203,0,none⟩) (by first | (rw [add_block];exact hn206_0)|(show (Addr.add _ _).block ≠ _;rw [add_block];exact hn206_0) | exact hn206_0) (.int .i64 ((rd_T30 l0 x7_1).f0))).trans hx206_0;replace hx206_1:=(cell_far (p:=⟨gb203,0,none⟩) (by first | (rw [add_block];exact hn206_0)|(show (Addr.add _ _).block ≠ _;rw [add_block];exact hn206_0) | exact hn206_0) (.int .i64 ((rd_T30 l0 x7_1).f0))).trans hx206_1;replace hx206_0:=(cell_far (p:=⟨gb203,1,none⟩) (by first | (rw [add_block];exact hn206_1)|(show (Addr.add _ _).block ≠ _;rw [add_block];exact hn206_1) | exact hn206_1) (.int .i64 ((rd_T30 l0 x7_1).f1))).trans hx206_0;replace hx206_1:=(cell_far (p:=⟨gb203,1,none⟩) (by first | (rw [add_block];exact hn206_1)|(show (Addr.add _ _).block ≠ _;rw [add_block];exact hn206_1) | exact hn206_1) (.int .i64 ((rd_T30 l0 x7_1).f1))).trans hx206_1;(try have hy206_0:=fun (n_ : Nat)=>(show ((((w6.drewN n_).setCell ⟨gb203,0,none⟩ (.int .i64 ((rd_T30 l0 x7_1).f0))).setCell ⟨gb203,1,none⟩ (.int .i64 ((rd_T30 l0 x7_1).f1)))).cell? _=some _ from hx206_0));(try have hy206_1:=fun (n_ : Nat)=>(show ((((w6.drewN n_).setCell ⟨gb203,0,none⟩ (.int .i64 ((rd_T30 l0 x7_1).f0))).setCell ⟨gb203,1,none⟩ (.int .i64 ((rd_T30 l0 x7_1).f1)))).cell? _=some _ from hx206_1));clear hn206_0;clear hn206_1;replace p206:=eq_true p206;replace q206:=eq_true q206));try go_wp2_with (first | (go_at_call 57;(with_reducible refine (impl_within.calls ((rd_T30 l0 x7_1).f0) 0 999 true _ A8.out).mono ?_);rintro e w' ⟨rfl,⟨nd,rfl⟩⟩;(try exact ddd))|(go_at_call 58;(with_reducible refine (impl_isLevel.calls ((rd_T30 l0 x7_1).f1) true _ A10.out).mono ?_);rintro e w' ⟨rfl,⟨nd,rfl⟩⟩;(try exact ddd);have p206 : 0≤((ji13) : Int):=of_decide_eq_true ass;have q206 : (ji13) < (l0.length : Int):=of_decide_eq_true ass;obtain ⟨ad206,e206,hx206_0,hx206_1⟩:=at_T30 HR0.out (ji13) p206 q206;obtain rfl : ad202=ad206:=(by injection e206);have hn206_0 : ad202.block ≠ gb203:=Nat.ne_of_lt (Nat.lt_of_lt_of_le (by have:=World.block_lt_of_cell? _ _ hx206_0;first | rwa [add_block] at this | exact this) GW203.out);have hn206_1 : ad202.block ≠ gb203:=Nat.ne_of_lt (Nat.lt_of_lt_of_le (by have:=World.block_lt_of_cell? _ _ hx206_0;first | rwa [add_block] at this | exact this) GW203.out);replace hx206_0:=(HB.out.cell (World.block_lt_of_cell? w _ hx206_0)).trans hx206_0;replace hx206_1:=(HB.out.cell (World.block_lt_of_cell? w _ hx206_1)).trans hx206_1;replace hx206_0:=(cell_far (p:=⟨gb203,0,none⟩) (by first | (rw [add_block];exact hn206_0)|(show (Addr.add _ _).block ≠ _;rw [add_block];exact hn206_0) | exact hn206_0) (.int .i64 ((rd_T30 l0 x7_1).f0))).trans hx206_0;replace hx206_1:=(cell_far (p:=⟨gb203,0,none⟩) (by first | (rw [add_block];exact hn206_0)|(show (Addr.add _ _).block ≠ _;rw [add_block];exact hn206_0) | exact hn206_0) (.int .i64 ((rd_T30 l0 x7_1).f0))).trans hx206_1;replace hx206_0:=(cell_far (p:=⟨gb203,1,none⟩) (by first | (rw [add_block];exact hn206_1)|(show (Addr.add _ _).block ≠ _;rw [add_block];exact hn206_1) | exact hn206_1) (.int .i64 ((rd_T30 l0 x7_1).f1))).trans hx206_0;replace hx206_1:=(cell_far (p:=⟨gb203,1,none⟩) (by first | (rw [add_block];exact hn206_1)|(show (Addr.add _ _).block ≠ _;rw [add_block];exact hn206_1) | exact hn206_1) (.int .i64 ((rd_T30 l0 x7_1).f1))).trans hx206_1;(try have hy206_0:=fun (n_ : Nat)=>(show ((((w6.drewN n_).setCell ⟨gb203,0,none⟩ (.int .i64 ((rd_T30 l0 x7_1).f0))).setCell ⟨gb203,1,none⟩ (.int .i64 ((rd_T30 l0 x7_1).f1)))).cell? _=some _ from hx206_0));(try have hy206_1:=fun (n_ : Nat)=>(show ((((w6.drewN n_).setCell ⟨gb203,0,none⟩ (.int .i64 ((rd_T30 l0 x7_1).f0))).setCell ⟨gb203,1,none⟩ (.int .i64 ((rd_T30 l0 x7_1).f1)))).cell? _=some _ from hx206_1));clear hn206_0;clear hn206_1;replace p206:=eq_true p206;replace q206:=eq_true q206)))
            go_meet
            case rel=>exact ⟨_,(decide (((rd_T30 l0 (ji13)).f0) ≥ ((rd_T30 l0 x7_1).f0))),(by first | rfl | (simp;done)|(simp only [← hji13] <;> (first | rfl | simp))|(simp [*];done)),H',⟨by have:=HK1.out;first | omega | exact Nat.le_refl _⟩,⟨by (with_reducible repeat (first | refine blk_drewN ?_ _ | refine blk_drew ?_ | refine blk_alloc ?_ _));refine blk_put (cs:=#[.int .i64 ((rd_T30 l0 x7_1).f0),.int .i64 0]) ?_ 1 _ rfl;(with_reducible repeat (first | refine blk_drewN ?_ _ | refine blk_drew ?_ | refine blk_alloc ?_ _));refine blk_put (cs:=#[.int .i64 0,.int .i64 0]) ?_ 0 _ rfl;(with_reducible repeat (first | refine blk_drewN ?_ _ | refine blk_drew ?_ | refine blk_alloc ?_ _));exact BK203.out⟩,⟨bel1 HB GE203.out⟩⟩
           ·rw [if_neg c15] at H
            exact absurd H (by simp)
          ·rw [if_neg c14] at H
           exact absurd H (by simp)
         ·rw [if_neg c12] at H
          have c12b0 : decide (0 < x7_1)=false:=decide_eq_false c12
          clear c12
          (first | rw [c12b0] | (simp only [i64_w,i32_w];rw [c12b0]) | skip)
          have H':=amk H
          clear H
          have hcz17_0 : w6.cell? ⟨gb203,0,none⟩=some (.int .i64 0):=(blk_cell BK203.out 0).trans rfl
          have hcz17_1 : w6.cell? ⟨gb203,1,none⟩=some (.int .i64 0):=(blk_cell BK203.out 1).trans rfl
          have hfz17_0:=blk_frozen BK203.out 0
          have hfz17_1:=blk_frozen BK203.out 1
          go_wp2_with (first | (go_at_call 57;(with_reducible refine (impl_within.calls ((rd_T30 l0 x7_1).f0) 0 999 true _ A8.out).mono ?_);rintro e w' ⟨rfl,⟨nd,rfl⟩⟩;(try exact ddd))|(go_at_call 58;(with_reducible refine (impl_isLevel.calls ((rd_T30 l0 x7_1).f1) true _ A10.out).mono ?_);rintro e w' ⟨rfl,⟨nd,rfl⟩⟩;(try exact ddd)))
          repeat (go_quiet (first | (go_at_call 57;(with_reducible refine (impl_within.calls ((rd_T30 l0 x7_1).f0) 0 999 true _ A8.out).mono ?_);rintro e w' ⟨rfl,⟨nd,rfl⟩⟩;(try exact ddd))|(go_at_call 58;(with_reducible refine (impl_isLevel.calls ((rd_T30 l0 x7_1).f1) true _ A10.out).mono ?_);rintro e w' ⟨rfl,⟨nd,rfl⟩⟩;(try exact ddd)));try go_wp2_with (first | (go_at_call 57;(with_reducible refine (impl_within.calls ((rd_T30 l0 x7_1).f0) 0 999 true _ A8.out).mono ?_);rintro e w' ⟨rfl,⟨nd,rfl⟩⟩;(try exact ddd))|(go_at_call 58;(with_reducible refine (impl_isLevel.calls ((rd_T30 l0 x7_1).f1) true _ A10.out).mono ?_);rintro e w' ⟨rfl,⟨nd,rfl⟩⟩;(try exact ddd))))
          go_meet
          case rel=>exact ⟨_,(false),rsd,H',⟨by have:=HK1.out;first | omega | exact Nat.le_refl _⟩,⟨by (with_reducible repeat (first | refine blk_drewN ?_ _ | refine blk_drew ?_ | refine blk_alloc ?_ _));refine blk_put (cs:=#[.int .i64 ((rd_T30 l0 x7_1).f0),.int .i64 0]) ?_ 1 _ rfl;(with_reducible repeat (first | refine blk_drewN ?_ _ | refine blk_drew ?_ | refine blk_alloc ?_ _));refine blk_put (cs:=#[.int .i64 0,.int .i64 0]) ?_ 0 _ rfl;(with_reducible repeat (first | refine blk_drewN ?_ _ | refine blk_drew ?_ | refine blk_alloc ?_ _));exact BK203.out⟩,⟨bel1 HB GE203.out⟩⟩
        ·replace c11:=Bool.eq_false_iff.mpr c11
         subst c11
         have H1 : (impl_AreReadings.j1 k1 l0 l0 (l0.length : Int) x7_1 true)=some r:=by rw [if_neg (show ¬ (false=true) by decide)] at H;exact H
         clear H
         have H:=H1
         clear H1
         have H':=amk H
         clear H
         have hcz18_0 : w6.cell? ⟨gb203,0,none⟩=some (.int .i64 0):=(blk_cell BK203.out 0).trans rfl
         have hcz18_1 : w6.cell? ⟨gb203,1,none⟩=some (.int .i64 0):=(blk_cell BK203.out 1).trans rfl
         have hfz18_0:=blk_frozen BK203.out 0
         have hfz18_1:=blk_frozen BK203.out 1
         go_wp2_with (first | (go_at_call 57;(with_reducible refine (impl_within.calls ((rd_T30 l0 x7_1).f0) 0 999 true _ A8.out).mono ?_);rintro e w' ⟨rfl,⟨nd,rfl⟩⟩;(try exact ddd))|(go_at_call 58;(with_reducible refine (impl_isLevel.calls ((rd_T30 l0 x7_1).f1) false _ A10.out).mono ?_);rintro e w' ⟨rfl,⟨nd,rfl⟩⟩;(try exact ddd)))
         repeat (go_quiet (first | (go_at_call 57;(with_reducible refine (impl_within.calls ((rd_T30 l0 x7_1).f0) 0 999 true _ A8.out).mono ?_);rintro e w' ⟨rfl,⟨nd,rfl⟩⟩;(try exact ddd))|(go_at_call 58;(with_reducible refine (impl_isLevel.calls ((rd_T30 l0 x7_1).f1) false _ A10.out).mono ?_);rintro e w' ⟨rfl,⟨nd,rfl⟩⟩;(try exact ddd)));try go_wp2_with (first | (go_at_call 57;(with_reducible refine (impl_within.calls ((rd_T30 l0 x7_1).f0) 0 999 true _ A8.out).mono ?_);rintro e w' ⟨rfl,⟨nd,rfl⟩⟩;(try exact ddd))|(go_at_call 58;(with_reducible refine (impl_isLevel.calls ((rd_T30 l0 x7_1).f1) false _ A10.out).mono ?_);rintro e w' ⟨rfl,⟨nd,rfl⟩⟩;(try exact ddd))))
         go_meet
         case rel=>exact ⟨_,(true),rsd,H',⟨by have:=HK1.out;first | omega | exact Nat.le_refl _⟩,⟨by (with_reducible repeat (first | refine blk_drewN ?_ _ | refine blk_drew ?_ | refine blk_alloc ?_ _));refine blk_put (cs:=#[.int .i64 ((rd_T30 l0 x7_1).f0),.int .i64 0]) ?_ 1 _ rfl;(with_reducible repeat (first | refine blk_drewN ?_ _ | refine blk_drew ?_ | refine blk_alloc ?_ _));refine blk_put (cs:=#[.int .i64 0,.int .i64 0]) ?_ 0 _ rfl;(with_reducible repeat (first | refine blk_drewN ?_ _ | refine blk_drew ?_ | refine blk_alloc ?_ _));exact BK203.out⟩,⟨bel1 HB GE203.out⟩⟩
       ·replace c9:=Bool.eq_false_iff.mpr c9
        subst c9
        have H1 : (impl_AreReadings.j1 k1 l0 l0 (l0.length : Int) x7_1 true)=some r:=by rw [if_neg (show ¬ (false=true) by decide)] at H;exact H
        clear H
        have H:=H1
        clear H1
        have H':=amk H
        clear H
        have hcz19_0 : w6.cell? ⟨gb203,0,none⟩=some (.int .i64 0):=(blk_cell BK203.out 0).trans rfl
        have hcz19_1 : w6.cell? ⟨gb203,1,none⟩=some (.int .i64 0):=(blk_cell BK203.out 1).trans rfl
        have hfz19_0:=blk_frozen BK203.out 0
        have hfz19_1:=blk_frozen BK203.out 1
        go_wp2_with (first | (go_at_call 57;(with_reducible refine (impl_within.calls ((rd_T30 l0 x7_1).f0) 0 999 false _ A8.out).mono ?_);rintro e w' ⟨rfl,⟨nd,rfl⟩⟩;(try exact ddd)))
        repeat (go_quiet (first | (go_at_call 57;(with_reducible refine (impl_within.calls ((rd_T30 l0 x7_1).f0) 0 999 false _ A8.out).mono ?_);rintro e w' ⟨rfl,⟨nd,rfl⟩⟩;(try exact ddd)));try go_wp2_with (first | (go_at_call 57;(with_reducible refine (impl_within.calls ((rd_T30 l0 x7_1).f0) 0 999 false _ A8.out).mono ?_);rintro e w' ⟨rfl,⟨nd,rfl⟩⟩;(try exact ddd))))
        go_meet
        case rel=>exact ⟨_,(true),rsd,H',⟨by have:=HK1.out;first | omega | exact Nat.le_refl _⟩,⟨by (with_reducible repeat (first | refine blk_drewN ?_ _ | refine blk_drew ?_ | refine blk_alloc ?_ _));refine blk_put (cs:=#[.int .i64 ((rd_T30 l0 x7_1).f0),.int .i64 0]) ?_ 1 _ rfl;(with_reducible repeat (first | refine blk_drewN ?_ _ | refine blk_drew ?_ | refine blk_alloc ?_ _));refine blk_put (cs:=#[.int .i64 0,.int .i64 0]) ?_ 0 _ rfl;(with_reducible repeat (first | refine blk_drewN ?_ _ | refine blk_drew ?_ | refine blk_alloc ?_ _));exact BK203.out⟩,⟨bel1 HB GE203.out⟩⟩
      case rest=>
       clear HC5
       try clear c1
       try clear c2
       try clear c2b0
       try clear p2
       try clear q2
       try clear hx2
       try clear c3
       try clear c3b0
       try clear c4
       try clear c4b0
       try clear p6
       try clear c9
       try clear c11
       try clear c12
       try clear c12b0
       try clear c14
       try clear c14b0
       try clear c15
       try clear c15b0
       try clear hcz16_0
       try clear hcz16_1
       try clear hcz17_0
       try clear hcz17_1
       try clear hcz18_0
       try clear hcz18_1
       try clear hcz19_0
       try clear hcz19_1
       try clear hcz7_0
       try clear hcz7_1
       try clear hfz16_0
       try clear hfz16_1
       try clear hfz17_0
       try clear hfz17_1
       try clear hfz18_0
       try clear hfz18_1
       try clear hfz19_0
       try clear hfz19_1
       try clear hfz7_0
       try clear hfz7_1
       try clear hx202_0
       try clear hx202_1
       try clear hx206_0
       try clear hx206_1
       try clear p202
       try clear p206
       try clear q202
       try clear q206
       obtain ⟨kq,x36_4,rfl,HA,HJ4,BK203,HB⟩:=hcut
       cases kq with
       | zero=>exact absurd HA.out (by simp [impl_AreReadings.j1])
       | succ kj4=>
        have H:=HA.out
        clear HA
        simp only [impl_AreReadings.j1] at H
        by_cases c20 : x36_4=true
        ·subst c20
         have H1 : (some false)=some r:=by rw [if_pos rfl] at H;exact H
         clear H
         have H:=H1
         clear H1
         obtain rfl:=Option.some.inj H
         go_wp2
         repeat (go_quiet (fail);try go_wp2)
         go_ret
         exact ⟨erw0,bel1 HB GE203.out⟩
        ·replace c20:=Bool.eq_false_iff.mpr c20
         subst c20
         have H1 : (impl_AreReadings.l0 kj4 l0 l0 (l0.length : Int) (wrap64 (x7_1 + 1)))=some r:=by rw [if_neg (show ¬ (false=true) by decide)] at H;exact H
         clear H
         have H:=H1
         clear H1
         have H':=amk H
         clear H
         go_wp2
         repeat (go_quiet (fail);try go_wp2)
         go_roundg kj4
         case measure=>have:=HK1.out;have:=HJ4.out;omega
         case rel=>exact ⟨(wrap64 (x7_1 + 1)),rsd,H',⟨by have:=HK1.out;have:=HJ4.out;omega⟩,⟨bel1 HB GE203.out⟩⟩
     ·rw [if_neg c4] at H
      exact absurd H (by simp)
    ·rw [if_neg c3] at H
     exact absurd H (by simp)
   ·rw [if_neg c2] at H
    have c2b0 : decide (x7_1 < (l0.length : Int))=false:=decide_eq_false c2
    clear c2
    obtain rfl:=Option.some.inj H
    go_wp2
    repeat (go_quiet (fail);try go_wp2)
    go_ret
    exact ⟨erw0,bel HB⟩
def impl_hours.f (l0 : List (S30)) : Option (Int × Int):=if (l0.length : Int)=0 then (some (0,(-1))) else (if 0 < (l0.length : Int) then (if 0≤(wrap64 ((l0.length : Int) - 1)) then (if (wrap64 ((l0.length : Int) - 1)) < (l0.length : Int) then (some ((rd_T30 l0 0).f0,(rd_T30 l0 (wrap64 ((l0.length : Int) - 1))).f0)) else (none)) else (none)) else (none))
set_option maxHeartbeats 8000000 in
set_option maxRecDepth 100000 in
theorem impl_hours.calls (A0 : Option Addr) (c0 : Nat) (l0 : List (S30)) (r1 : Int) (r2 : Int) (w : World) (hr0 : Kd.C k30 w A0 l0.length l0) (hc0 : l0.length≤c0) (h : impl_hours.f l0=some (r1,r2)) :
  Calls Try.prog 63 #[.slice A0 l0.length c0] w fun e w'=>e = .returned (.tuple #[.int .i64 r1,.int .i64 r2])∧Drawn0 w w':=by
 have HR0:=amk hr0
 have HC0:=amk hc0
 clear hr0 hc0
 have H : (if (l0.length : Int)=0 then (some (0,(-1))) else (if 0 < (l0.length : Int) then (if 0≤(wrap64 ((l0.length : Int) - 1)) then (if (wrap64 ((l0.length : Int) - 1)) < (l0.length : Int) then (some ((rd_T30 l0 0).f0,(rd_T30 l0 (wrap64 ((l0.length : Int) - 1))).f0)) else (none)) else (none)) else (none)))=some (r1,r2):=h
 clear h
 by_cases c2 : (l0.length : Int)=0
 ·rw [if_pos c2] at H
  have c2b0 : ((l0.length : Int) == 0)=true:=beq_iff_eq.mpr c2
  have c2b1 : ((l0.length : Int) != 0)=false:=bne_eq_false_iff_eq.mpr c2
  clear c2
  simp only [Option.some.injEq,Prod.mk.injEq] at H
  obtain ⟨rfl,rfl⟩:=H
  go_enter Try.func63,Try.ntmps63
  go_wp2
  repeat (go_quiet (fail);try go_wp2)
  go_ret2
  exact ⟨rsd,by repeat (first | exact Drawn0.refl _ | apply Drawn0.step)⟩
 ·rw [if_neg c2] at H
  have c2b0 : ((l0.length : Int) == 0)=false:=beq_eq_false_iff_ne.mpr c2
  have c2b1 : ((l0.length : Int) != 0)=true:=bne_iff_ne.mpr c2
  have c2b2 : ¬ (l0 = []):=fun h_=>c2 (by rw [h_];rfl)
  by_cases c3 : 0 < (l0.length : Int)
  ·rw [if_pos c3] at H
   have c3b0 : decide (0 < (l0.length : Int))=true:=decide_eq_true c3
   have c3b1 : decide (0 < l0.length)=true:=decide_eq_true (by omega)
   clear c3
   obtain ⟨ji4,hji4⟩ : ∃ j_ : Int,(wrap64 ((l0.length : Int) - 1))=j_:=⟨_,rfl⟩
   replace H : (if 0≤(ji4) then (if (ji4) < (l0.length : Int) then (some ((rd_T30 l0 0).f0,(rd_T30 l0 (ji4)).f0)) else (none)) else (none))=some (r1,r2):=by first | (rw [hji4] at H;exact H)|(simp only [hji4] at H ⊢;exact H)
   have hji4w : (IntKind.i64.wrap ((l0.length : Int) - 1))=ji4:=(i64_w _).trans hji4
   by_cases c5 : 0≤(ji4)
   ·rw [if_pos c5] at H
    have c5b0 : decide (0≤(ji4))=true:=decide_eq_true c5
    clear c5
    by_cases c6 : (ji4) < (l0.length : Int)
    ·rw [if_pos c6] at H
     have c6b0 : decide ((ji4) < (l0.length : Int))=true:=decide_eq_true c6
     clear c6
     simp only [Option.some.injEq,Prod.mk.injEq] at H
     obtain ⟨rfl,rfl⟩:=H
     have p207 : 0≤(0 : Int):=(by omega)
     have q207 : 0 < (l0.length : Int):=of_decide_eq_true ass
     obtain ⟨ad207,e207,hx207_0,hx207_1⟩:=at_T30 HR0.out 0 p207 q207
     cases e207
     have qi207 : (0 < l0.length)=True:=eq_true (by omega)
     (try rw [show ((0 : Int)).toNat=0 from rfl] at hx207_0)
     (try rw [show 0 * 2=0 from rfl] at hx207_0)
     (try rw [Addr.add_zero'] at hx207_0)
     (try rw [show ((0 : Int)).toNat=0 from rfl] at hx207_1)
     (try rw [show 0 * 2=0 from rfl] at hx207_1)
     (try rw [Addr.add_zero'] at hx207_1)
     replace p207:=eq_true p207
     replace q207:=eq_true q207
     have p208 : 0≤((ji4) : Int):=of_decide_eq_true ass
     have q208 : (ji4) < (l0.length : Int):=of_decide_eq_true ass
     obtain ⟨ad208,e208,hx208_0,hx208_1⟩:=at_T30 HR0.out (ji4) p208 q208
     obtain rfl : ad207=ad208:=(by injection e208)
     replace p208:=eq_true p208
     replace q208:=eq_true q208
     go_enter Try.func63,Try.ntmps63
     go_wp2
     repeat (go_quiet (fail);try go_wp2)
     go_ret2
     exact ⟨by first | rfl | (simp;done)|(simp only [← hji4] <;> (first | rfl | simp))|(simp [*];done),by repeat (first | exact Drawn0.refl _ | apply Drawn0.step)⟩
    ·rw [if_neg c6] at H
     exact absurd H (by simp)
   ·rw [if_neg c5] at H
    exact absurd H (by simp)
  ·rw [if_neg c3] at H
   exact absurd H (by simp)
def impl_isStation.f (a0 : Int) : Option (Bool):=(impl_within.f a0 0 7).bind fun t373=>(some t373)
set_option maxHeartbeats 8000000 in
set_option maxRecDepth 100000 in
theorem impl_isStation.calls (a0 : Int) (r : Bool) (w : World) (h : impl_isStation.f a0=some r) :
  Calls Try.prog 90 #[.int .i64 a0] w fun e w'=>e = .returned (.bool r)∧Drawn0 w w':=by
 have H : ((impl_within.f a0 0 7).bind fun t373=>(some t373))=some r:=h
 clear h
 replace H:=obs H
 obtain ⟨t373,A20,H⟩:=H
 replace H : (some t373)=some r:=H
 have A2:=amk A20
 clear A20
 obtain rfl:=Option.some.inj H
 go_enter Try.func90,Try.ntmps90
 go_wp2_with (first | ((with_reducible refine gate_callee (f:=57) rfl ?_);refine goesL_ (some 4) rfl rfl Try.func57 (by kernel_rfl) rfl #[.int .i64 a0,.int .i64 0,.int .i64 7] rfl mtt ?_;(with_reducible refine (impl_within.calls a0 0 7 t373 _ A2.out).mono ?_);rintro e w' ⟨rfl,⟨nd,rfl⟩⟩;refine ⟨_,rfl,?_⟩))
 go_ret
 exact ⟨rsd,by repeat (first | exact Drawn0.refl _ | apply Drawn0.step)⟩
def impl_isSump.f (a0_0 : Int) (a0_1 : Int) (a0_2 : Int) : Option (Bool):=(impl_isStation.f a0_0).bind fun t375=>(if t375=true then ((impl_isLevel.f a0_1).bind fun t376=>(if t376=true then ((impl_isLevel.f a0_2).bind fun t377=>(if t377=true then (some (decide (a0_2≤a0_1))) else (some false))) else (some false))) else (some false))
set_option maxHeartbeats 8000000 in
set_option maxRecDepth 100000 in
theorem impl_isSump.calls (a0_0 : Int) (a0_1 : Int) (a0_2 : Int) (r : Bool) (w : World) (h : impl_isSump.f a0_0 a0_1 a0_2=some r) :
  Calls Try.prog 62 #[.agg #[.int .i64 a0_0,.int .i64 a0_1,.int .i64 a0_2]] w fun e w'=>e = .returned (.bool r)∧Below w.heap.size w w':=by
 have hu44:=Try.underlying44
 have HB:=amk (Below.refl w.heap.size w)
 have H : ((impl_isStation.f a0_0).bind fun t375=>(if t375=true then ((impl_isLevel.f a0_1).bind fun t376=>(if t376=true then ((impl_isLevel.f a0_2).bind fun t377=>(if t377=true then (some (decide (a0_2≤a0_1))) else (some false))) else (some false))) else (some false)))=some r:=h
 clear h
 replace H:=obs H
 obtain ⟨t375,A20,H⟩:=H
 replace H : (if t375=true then ((impl_isLevel.f a0_1).bind fun t376=>(if t376=true then ((impl_isLevel.f a0_2).bind fun t377=>(if t377=true then (some (decide (a0_2≤a0_1))) else (some false))) else (some false))) else (some false))=some r:=H
 have A2:=amk A20
 clear A20
 by_cases c3 : t375=true
 ·subst c3
  have H1 : ((impl_isLevel.f a0_1).bind fun t376=>(if t376=true then ((impl_isLevel.f a0_2).bind fun t377=>(if t377=true then (some (decide (a0_2≤a0_1))) else (some false))) else (some false)))=some r:=by rw [if_pos rfl] at H;exact H
  clear H
  have H:=H1
  clear H1
  replace H:=obs H
  obtain ⟨t376,A40,H⟩:=H
  replace H : (if t376=true then ((impl_isLevel.f a0_2).bind fun t377=>(if t377=true then (some (decide (a0_2≤a0_1))) else (some false))) else (some false))=some r:=H
  have A4:=amk A40
  clear A40
  by_cases c5 : t376=true
  ·subst c5
   have H1 : ((impl_isLevel.f a0_2).bind fun t377=>(if t377=true then (some (decide (a0_2≤a0_1))) else (some false)))=some r:=by rw [if_pos rfl] at H;exact H
   clear H
   have H:=H1
   clear H1
   replace H:=obs H
   obtain ⟨t377,A60,H⟩:=H
   replace H : (if t377=true then (some (decide (a0_2≤a0_1))) else (some false))=some r:=H
   have A6:=amk A60
   clear A60
   by_cases c7 : t377=true
   ·subst c7
    have H1 : (some (decide (a0_2≤a0_1)))=some r:=by rw [if_pos rfl] at H;exact H
    clear H
    have H:=H1
    clear H1
    obtain rfl:=Option.some.inj H
    go_enter Try.func62,Try.ntmps62
    go_wp2_with (first | ((with_reducible refine gate_dst (N:=1) rfl ?_);refine box_event ?hg (N:=1) ?hd (cs:=#[.int .i64 a0_0,.int .i64 a0_1,.int .i64 a0_2]) (t:=44) ?hr ?_;(case hd=>rfl);(case hg=>rfl);(case hr=>first | (go_simp;done)|(go_simp;rfl));intro gb374 hg w8 hbox hb;have BK374:=amk (hbox);have GW374:=amk ((by rw [hg];exact (below_size (bel HB)) : w.heap.size≤gb374));have GE374:=amk ((by rw [hg];exact (below_size (bel HB)) : w.heap.size≤gb374));replace HB:=amk (below_step (bel HB) hb);clear hb hbox hg;have hcz9_0 : w8.cell? ⟨gb374,0,none⟩=some (.int .i64 a0_0):=(blk_cell BK374.out 0).trans rfl;have hcz9_1 : w8.cell? ⟨gb374,1,none⟩=some (.int .i64 a0_1):=(blk_cell BK374.out 1).trans rfl;have hcz9_2 : w8.cell? ⟨gb374,2,none⟩=some (.int .i64 a0_2):=(blk_cell BK374.out 2).trans rfl;have hfz9_0:=blk_frozen BK374.out 0;have hfz9_1:=blk_frozen BK374.out 1;have hfz9_2:=blk_frozen BK374.out 2)|((with_reducible refine gate_callee (f:=90) rfl ?_);refine goesL_ (some 5) rfl rfl Try.func90 (by kernel_rfl) rfl #[.int .i64 a0_0] rfl mtt ?_;(with_reducible refine (impl_isStation.calls a0_0 true _ A2.out).mono ?_);rintro e w' ⟨rfl,⟨nd,rfl⟩⟩;refine ⟨_,rfl,?_⟩)|(go_at_call 58;(with_reducible refine (impl_isLevel.calls a0_1 true _ A4.out).mono ?_);rintro e w' ⟨rfl,⟨nd,rfl⟩⟩)|(go_at_call 58;(with_reducible refine (impl_isLevel.calls a0_2 true _ A6.out).mono ?_);rintro e w' ⟨rfl,⟨nd,rfl⟩⟩))
    go_ret
    exact ⟨erw0,bel1 HB GE374.out⟩
   ·replace c7:=Bool.eq_false_iff.mpr c7
    subst c7
    have H1 : (some false)=some r:=by rw [if_neg (show ¬ (false=true) by decide)] at H;exact H
    clear H
    have H:=H1
    clear H1
    obtain rfl:=Option.some.inj H
    go_enter Try.func62,Try.ntmps62
    go_wp2_with (first | ((with_reducible refine gate_dst (N:=1) rfl ?_);refine box_event ?hg (N:=1) ?hd (cs:=#[.int .i64 a0_0,.int .i64 a0_1,.int .i64 a0_2]) (t:=44) ?hr ?_;(case hd=>rfl);(case hg=>rfl);(case hr=>first | (go_simp;done)|(go_simp;rfl));intro gb374 hg w10 hbox hb;have BK374:=amk (hbox);have GW374:=amk ((by rw [hg];exact (below_size (bel HB)) : w.heap.size≤gb374));have GE374:=amk ((by rw [hg];exact (below_size (bel HB)) : w.heap.size≤gb374));replace HB:=amk (below_step (bel HB) hb);clear hb hbox hg;have hcz11_0 : w10.cell? ⟨gb374,0,none⟩=some (.int .i64 a0_0):=(blk_cell BK374.out 0).trans rfl;have hcz11_1 : w10.cell? ⟨gb374,1,none⟩=some (.int .i64 a0_1):=(blk_cell BK374.out 1).trans rfl;have hcz11_2 : w10.cell? ⟨gb374,2,none⟩=some (.int .i64 a0_2):=(blk_cell BK374.out 2).trans rfl;have hfz11_0:=blk_frozen BK374.out 0;have hfz11_1:=blk_frozen BK374.out 1;have hfz11_2:=blk_frozen BK374.out 2)|((with_reducible refine gate_callee (f:=90) rfl ?_);refine goesL_ (some 5) rfl rfl Try.func90 (by kernel_rfl) rfl #[.int .i64 a0_0] rfl mtt ?_;(with_reducible refine (impl_isStation.calls a0_0 true _ A2.out).mono ?_);rintro e w' ⟨rfl,⟨nd,rfl⟩⟩;refine ⟨_,rfl,?_⟩)|(go_at_call 58;(with_reducible refine (impl_isLevel.calls a0_1 true _ A4.out).mono ?_);rintro e w' ⟨rfl,⟨nd,rfl⟩⟩)|(go_at_call 58;(with_reducible refine (impl_isLevel.calls a0_2 false _ A6.out).mono ?_);rintro e w' ⟨rfl,⟨nd,rfl⟩⟩))
    go_ret
    exact ⟨erw0,bel1 HB GE374.out⟩
  ·replace c5:=Bool.eq_false_iff.mpr c5
   subst c5
   have H1 : (some false)=some r:=by rw [if_neg (show ¬ (false=true) by decide)] at H;exact H
   clear H
   have H:=H1
   clear H1
   obtain rfl:=Option.some.inj H
   go_enter Try.func62,Try.ntmps62
   go_wp2_with (first | ((with_reducible refine gate_dst (N:=1) rfl ?_);refine box_event ?hg (N:=1) ?hd (cs:=#[.int .i64 a0_0,.int .i64 a0_1,.int .i64 a0_2]) (t:=44) ?hr ?_;(case hd=>rfl);(case hg=>rfl);(case hr=>first | (go_simp;done)|(go_simp;rfl));intro gb374 hg w12 hbox hb;have BK374:=amk (hbox);have GW374:=amk ((by rw [hg];exact (below_size (bel HB)) : w.heap.size≤gb374));have GE374:=amk ((by rw [hg];exact (below_size (bel HB)) : w.heap.size≤gb374));replace HB:=amk (below_step (bel HB) hb);clear hb hbox hg;have hcz13_0 : w12.cell? ⟨gb374,0,none⟩=some (.int .i64 a0_0):=(blk_cell BK374.out 0).trans rfl;have hcz13_1 : w12.cell? ⟨gb374,1,none⟩=some (.int .i64 a0_1):=(blk_cell BK374.out 1).trans rfl;have hcz13_2 : w12.cell? ⟨gb374,2,none⟩=some (.int .i64 a0_2):=(blk_cell BK374.out 2).trans rfl;have hfz13_0:=blk_frozen BK374.out 0;have hfz13_1:=blk_frozen BK374.out 1;have hfz13_2:=blk_frozen BK374.out 2)|((with_reducible refine gate_callee (f:=90) rfl ?_);refine goesL_ (some 5) rfl rfl Try.func90 (by kernel_rfl) rfl #[.int .i64 a0_0] rfl mtt ?_;(with_reducible refine (impl_isStation.calls a0_0 true _ A2.out).mono ?_);rintro e w' ⟨rfl,⟨nd,rfl⟩⟩;refine ⟨_,rfl,?_⟩)|(go_at_call 58;(with_reducible refine (impl_isLevel.calls a0_1 false _ A4.out).mono ?_);rintro e w' ⟨rfl,⟨nd,rfl⟩⟩))
   go_ret
   exact ⟨erw0,bel1 HB GE374.out⟩
 ·replace c3:=Bool.eq_false_iff.mpr c3
  subst c3
  have H1 : (some false)=some r:=by rw [if_neg (show ¬ (false=true) by decide)] at H;exact H
  clear H
  have H:=H1
  clear H1
  obtain rfl:=Option.some.inj H
  go_enter Try.func62,Try.ntmps62
  go_wp2_with (first | ((with_reducible refine gate_dst (N:=1) rfl ?_);refine box_event ?hg (N:=1) ?hd (cs:=#[.int .i64 a0_0,.int .i64 a0_1,.int .i64 a0_2]) (t:=44) ?hr ?_;(case hd=>rfl);(case hg=>rfl);(case hr=>first | (go_simp;done)|(go_simp;rfl));intro gb374 hg w14 hbox hb;have BK374:=amk (hbox);have GW374:=amk ((by rw [hg];exact (below_size (bel HB)) : w.heap.size≤gb374));have GE374:=amk ((by rw [hg];exact (below_size (bel HB)) : w.heap.size≤gb374));replace HB:=amk (below_step (bel HB) hb);clear hb hbox hg;have hcz15_0 : w14.cell? ⟨gb374,0,none⟩=some (.int .i64 a0_0):=(blk_cell BK374.out 0).trans rfl;have hcz15_1 : w14.cell? ⟨gb374,1,none⟩=some (.int .i64 a0_1):=(blk_cell BK374.out 1).trans rfl;have hcz15_2 : w14.cell? ⟨gb374,2,none⟩=some (.int .i64 a0_2):=(blk_cell BK374.out 2).trans rfl;have hfz15_0:=blk_frozen BK374.out 0;have hfz15_1:=blk_frozen BK374.out 1;have hfz15_2:=blk_frozen BK374.out 2)|((with_reducible refine gate_callee (f:=90) rfl ?_);refine goesL_ (some 5) rfl rfl Try.func90 (by kernel_rfl) rfl #[.int .i64 a0_0] rfl mtt ?_;(with_reducible refine (impl_isStation.calls a0_0 false _ A2.out).mono ?_);rintro e w' ⟨rfl,⟨nd,rfl⟩⟩;refine ⟨_,rfl,?_⟩))
  go_ret
  exact ⟨erw0,bel1 HB GE374.out⟩
def impl_spans.l0 : Nat→Int→(Int→Option Bool)→List (List Int)→Int→Option ((List (List Int)))
 | 0,_,_,_,_=>none
 | k + 1,x1,x2,x7,x8=>if x8≤x1 then ((x2 x8).bind fun t378=>(if t378=true then (if (wrap64 ((x7.length : Int) - 1)) ≥ 0 then (if 0≤(wrap64 ((x7.length : Int) - 1)) then (if (wrap64 ((x7.length : Int) - 1)) < (x7.length : Int) then (if 1 < ((rd_L4 x7 (wrap64 ((x7.length : Int) - 1))).length : Int) then (if (rd (rd_L4 x7 (wrap64 ((x7.length : Int) - 1))) 1)=(wrap64 (x8 - 1)) then (impl_spans.l0 k x1 x2 (x7.set ((wrap64 ((x7.length : Int) - 1)) : Int).toNat ((rd_L4 x7 (wrap64 ((x7.length : Int) - 1))).set (1 : Int).toNat x8)) (wrap64 (x8 + 1))) else (if x7.length < 5864062014805 then (impl_spans.l0 k x1 x2 (x7 ++ [(([x8,x8] : List Int))]) (wrap64 (x8 + 1))) else (none))) else (none)) else (none)) else (none)) else (if x7.length < 5864062014805 then (impl_spans.l0 k x1 x2 (x7 ++ [(([x8,x8] : List Int))]) (wrap64 (x8 + 1))) else (none))) else (impl_spans.l0 k x1 x2 x7 (wrap64 (x8 + 1))))) else (some x7)
def impl_spans.f (k : Nat) (a0 : Int) (a1 : Int) (a2 : (Int→Option Bool)) : Option ((List (List Int))):=impl_spans.l0 k a1 a2 ([] : List (List Int)) a0
theorem impl_spans.mono_l (p_ q_ : Int→Option Bool) (hpq_ : ∀ x_,LeO (p_ x_) (q_ x_)) : ∀ k,(∀ y0 y2 y3,LeO (impl_spans.l0 k y0 p_ y2 y3) (impl_spans.l0 (k + 1) y0 q_ y2 y3))
 | 0=>fun _ _ _ r h=>by simp [impl_spans.l0] at h
 | k + 1=>by
  have ih0:=impl_spans.mono_l p_ q_ hpq_ k
  ·intro y0 y2 y3
   unfold impl_spans.l0
   repeat' first
   | (with_reducible exact ih0 _ _ _)
   | (with_reducible exact hpq_ _)
   | (with_reducible exact LeO.refl _)
   | (with_reducible exact LeO.none _)
   | (with_reducible refine LeO.ite ?_ ?_)
   | (with_reducible refine LeO.bind ?_ (fun _=>?_))
   | exact ih0 _ _ _
   | exact hpq_ _
theorem impl_spans.mono : ∀ a0 a1 (p_ q_ : Int→Option Bool) (k : Nat),(∀ x_,LeO (p_ x_) (q_ x_))→LeO (impl_spans.f k a0 a1 p_) (impl_spans.f (k + 1) a0 a1 q_):=by
 intro a0 a1 p_ q_ k hpq_
 have ih0:=impl_spans.mono_l p_ q_ hpq_ k
 unfold impl_spans.f
 repeat' first
   | (with_reducible exact ih0 _ _ _)
   | (with_reducible exact hpq_ _)
   | (with_reducible exact LeO.refl _)
   | (with_reducible exact LeO.none _)
   | (with_reducible refine LeO.ite ?_ ?_)
   | (with_reducible refine LeO.bind ?_ (fun _=>?_))
   | exact ih0 _ _ _
   | exact hpq_ _
set_option maxHeartbeats 8000000 in
set_option maxRecDepth 100000 in
theorem impl_spans.calls (k : Nat) (a0 : Int) (a1 : Int) (gf2_ : Nat) (lb2_ : Array Value) (a2 : (Int→Option Bool)) (r : List (List Int)) (w : World) (eg2 : ∀ args_ w_,(callFunc gf2_ args_).run Try.prog w_ = .ok (.enter gf2_ args_) w_) (hp2 : ∀ (W_ : World) (x_ : Int) (b_ : Bool),a2 x_=some b_→Below w.heap.size w W_→Calls Try.prog gf2_ (#[.int .i64 x_] ++ lb2_) W_ fun e w'=>e = .returned (.bool b_)∧Below W_.heap.size W_ w') (h : impl_spans.f k a0 a1 a2=some r) :
  Calls Try.prog 64 #[.int .i64 a0,.int .i64 a1,.func (.func gf2_) #[] lb2_] w fun e w'=>∃ v0_ : Value,e = .returned (v0_)∧Kd.S (Kd.slice 3 (Kd.int .i64)) 63 w' w.heap.size (fun _=>True) v0_ r∧Below w.heap.size w w':=by
 have HP2:=amk hp2
 clear hp2
 have HB:=amk (Below.refl w.heap.size w)
 have H : (impl_spans.l0 k a1 a2 ([] : List (List Int)) a0)=some r:=h
 clear h
 have H':=amk H
 clear H
 go_enter Try.func64,Try.ntmps64
 go_wp2
 go_loopg [7,8] k (fun kq v7 v8 w'=>∃ (x7_1 : List (List Int)) (x8_1 : Int),v8 = .int .i64 x8_1∧Aside0 (impl_spans.l0 kq a1 a2 x7_1 x8_1=some r)∧Aside0 (kq≤k)∧Aside0 (Kd.S (Kd.slice 3 (Kd.int .i64)) 63 w' w.heap.size (fun _=>True) v7 x7_1)∧Aside0 (Below w.heap.size w w'))
 case atStart=>exact ⟨(([] : List (List Int))),(a0),rsd,H',⟨Nat.le_refl _⟩,⟨by first | exact Kd.S_nil _ _ _ _ _ | exact Kd.N_nil _ _ _ _ _ | exact Kd.V_nil _ _ _ _ _ | exact Kd.Q_nil _ _ _ _ _ | exact Kd.R_nil _ _ _ _ _⟩,⟨bel HB⟩⟩
 case round=>
  clear H'
  try clear p2
  obtain ⟨x7_1,x8_1,rfl,HA,HK1,HO_7,HB⟩:=hrel
  cases gk with
  | zero=>exact absurd HA.out (by simp [impl_spans.l0])
  | succ k1=>
   have H:=HA.out
   clear HA
   simp only [impl_spans.l0] at H
   by_cases c4 : x8_1≤a1
   ·rw [if_pos c4] at H
    have c4b0 : decide (x8_1≤a1)=true:=decide_eq_true c4
    clear c4
    replace H:=obs H
    obtain ⟨t378,A50,H⟩:=H
    replace H : (if t378=true then (if (wrap64 ((x7_1.length : Int) - 1)) ≥ 0 then (if 0≤(wrap64 ((x7_1.length : Int) - 1)) then (if (wrap64 ((x7_1.length : Int) - 1)) < (x7_1.length : Int) then (if 1 < ((rd_L4 x7_1 (wrap64 ((x7_1.length : Int) - 1))).length : Int) then (if (rd (rd_L4 x7_1 (wrap64 ((x7_1.length : Int) - 1))) 1)=(wrap64 (x8_1 - 1)) then (impl_spans.l0 k1 a1 a2 (x7_1.set ((wrap64 ((x7_1.length : Int) - 1)) : Int).toNat ((rd_L4 x7_1 (wrap64 ((x7_1.length : Int) - 1))).set (1 : Int).toNat x8_1)) (wrap64 (x8_1 + 1))) else (if x7_1.length < 5864062014805 then (impl_spans.l0 k1 a1 a2 (x7_1 ++ [(([x8_1,x8_1] : List Int))]) (wrap64 (x8_1 + 1))) else (none))) else (none)) else (none)) else (none)) else (if x7_1.length < 5864062014805 then (impl_spans.l0 k1 a1 a2 (x7_1 ++ [(([x8_1,x8_1] : List Int))]) (wrap64 (x8_1 + 1))) else (none))) else (impl_spans.l0 k1 a1 a2 x7_1 (wrap64 (x8_1 + 1))))=some r:=H
    have A5:=amk A50
    clear A50
    by_cases c6 : t378=true
    ·subst c6
     have H1 : (if (wrap64 ((x7_1.length : Int) - 1)) ≥ 0 then (if 0≤(wrap64 ((x7_1.length : Int) - 1)) then (if (wrap64 ((x7_1.length : Int) - 1)) < (x7_1.length : Int) then (if 1 < ((rd_L4 x7_1 (wrap64 ((x7_1.length : Int) - 1))).length : Int) then (if (rd (rd_L4 x7_1 (wrap64 ((x7_1.length : Int) - 1))) 1)=(wrap64 (x8_1 - 1)) then (impl_spans.l0 k1 a1 a2 (x7_1.set ((wrap64 ((x7_1.length : Int) - 1)) : Int).toNat ((rd_L4 x7_1 (wrap64 ((x7_1.length : Int) - 1))).set (1 : Int).toNat x8_1)) (wrap64 (x8_1 + 1))) else (if x7_1.length < 5864062014805 then (impl_spans.l0 k1 a1 a2 (x7_1 ++ [(([x8_1,x8_1] : List Int))]) (wrap64 (x8_1 + 1))) else (none))) else (none)) else (none)) else (none)) else (if x7_1.length < 5864062014805 then (impl_spans.l0 k1 a1 a2 (x7_1 ++ [(([x8_1,x8_1] : List Int))]) (wrap64 (x8_1 + 1))) else (none)))=some r:=by rw [if_pos rfl] at H;exact H
     clear H
     have H:=H1
     clear H1
     by_cases c7 : (wrap64 ((x7_1.length : Int) - 1)) ≥ 0
     ·rw [if_pos c7] at H
      have c7b0 : decide (0≤(wrap64 ((x7_1.length : Int) - 1)))=true:=decide_eq_true c7
      clear c7
      obtain ⟨ji8,hji8⟩ : ∃ j_ : Int,(wrap64 ((x7_1.length : Int) - 1))=j_:=⟨_,rfl⟩
      replace H : (if 0≤(ji8) then (if (ji8) < (x7_1.length : Int) then (if 1 < ((rd_L4 x7_1 (ji8)).length : Int) then (if (rd (rd_L4 x7_1 (ji8)) 1)=(wrap64 (x8_1 - 1)) then (impl_spans.l0 k1 a1 a2 (x7_1.set ((ji8) : Int).toNat ((rd_L4 x7_1 (ji8)).set (1 : Int).toNat x8_1)) (wrap64 (x8_1 + 1))) else (if x7_1.length < 5864062014805 then (impl_spans.l0 k1 a1 a2 (x7_1 ++ [(([x8_1,x8_1] : List Int))]) (wrap64 (x8_1 + 1))) else (none))) else (none)) else (none)) else (none))=some r:=by first | (rw [hji8] at H;exact H)|(simp only [hji8] at H ⊢;exact H)
      (try rw [hji8] at c7b0)
      (try rw [hji8] at A5)
      have hji8w : (IntKind.i64.wrap ((x7_1.length : Int) - 1))=ji8:=(i64_w _).trans hji8
      by_cases c9 : 0≤(ji8)
      ·rw [if_pos c9] at H
       have c9b0 : decide (0≤(ji8))=true:=decide_eq_true c9
       clear c9
       by_cases c10 : (ji8) < (x7_1.length : Int)
       ·rw [if_pos c10] at H
        have c10b0 : decide ((ji8) < (x7_1.length : Int))=true:=decide_eq_true c10
        clear c10
        by_cases c11 : 1 < ((rd_L4 x7_1 (ji8)).length : Int)
        ·rw [if_pos c11] at H
         have c11b0 : decide (1 < ((rd_L4 x7_1 (ji8)).length : Int))=true:=decide_eq_true c11
         have c11b1 : decide (1 < (rd_L4 x7_1 (ji8)).length)=true:=decide_eq_true (by omega)
         clear c11
         by_cases c12 : (rd (rd_L4 x7_1 (ji8)) 1)=(wrap64 (x8_1 - 1))
         ·rw [if_pos c12] at H
          have c12b0 : ((rd (rd_L4 x7_1 (ji8)) 1) == (wrap64 (x8_1 - 1)))=true:=beq_iff_eq.mpr c12
          have c12b1 : ((rd (rd_L4 x7_1 (ji8)) 1) != (wrap64 (x8_1 - 1)))=false:=bne_eq_false_iff_eq.mpr c12
          clear c12
          obtain ⟨y382,hy382⟩ : ∃ y_ : List Int,y_=((rd_L4 x7_1 (ji8)).set (1 : Int).toNat x8_1):=⟨_,rfl⟩
          replace H : (impl_spans.l0 k1 a1 a2 (x7_1.set ((ji8) : Int).toNat y382) (wrap64 (x8_1 + 1)))=some r:=by first | (rw [hy382];with_reducible exact H)|(have H2_:=(Option.bind_some _ _).symm.trans H;rw [hy382];with_reducible exact H2_)|(have H2_:=(Option.bind_some _ _).symm.trans H;with_reducible exact H2_) | with_reducible exact H | (rw [hy382];exact H) | exact H
          have Ny382:=amk hy382
          clear hy382
          obtain ⟨y384,hy384⟩ : ∃ y_ : List (List Int),y_=(x7_1.set ((ji8) : Int).toNat y382):=⟨_,rfl⟩
          replace H : (impl_spans.l0 k1 a1 a2 y384 (wrap64 (x8_1 + 1)))=some r:=by first | (rw [hy384];with_reducible exact H)|(have H2_:=(Option.bind_some _ _).symm.trans H;rw [hy384];with_reducible exact H2_)|(have H2_:=(Option.bind_some _ _).symm.trans H;with_reducible exact H2_) | with_reducible exact H | (rw [hy384];exact H) | exact H
          have Ny384:=amk hy384
          clear hy384
          have H':=amk H
          clear H
          go_wp2_with (first | ((with_reducible refine (HP2.out _ _ true A5.out ?sidefp).mono ?_);(case sidefp=>exact bel HB);rintro e w14 ⟨rfl,hb⟩;replace HO_7:=amk (Kd.S_below (sss HO_7) hb);replace HB:=amk (below_step (bel HB) hb);(try clear hb);obtain ⟨Ao15,co15,eo15⟩:=Kd.S_slice HO_7.out;subst eo15;have p379 : 0≤((ji8) : Int):=of_decide_eq_true ass;have q379 : (ji8) < (x7_1.length : Int):=of_decide_eq_true ass;obtain ⟨ad379,A379_0,c379_0,e379,hx379_0,hl379_0,hi379_0⟩:=at_L4 (Kd.S_reads' HO_7.out).2.2 (ji8) p379 q379;cases e379;obtain ⟨ce379,hce379,hMe379,hcc379⟩:=Kd.S_get HO_7.out [] (ji8) p379 (by first | exact q379 | exact of_decide_eq_true ass | (have e_:=(Kd.S_reads' HO_7.out).1;omega));obtain ⟨ve379_0,rfl,ge379_0⟩:=hMe379;have hv379_0:=hcc379 0 _ rfl;rw [Nat.add_zero,show ((Kd.slice 3 (Kd.int .i64))).sz=1 from rfl,Nat.mul_one] at hv379_0;replace hv379_0:=Option.some.inj (hv379_0.symm.trans hx379_0);rw [hv379_0] at ge379_0;have HL379_0:=amk (show Kd.R (Kd.int .i64) 3 _ _ _ _ (rd_L4 x7_1 (ji8)) from ge379_0);clear hv379_0 ge379_0;have HX379_0:=amk hx379_0;clear hcc379 hce379;have HR379_0:=amk hi379_0;have HC379_0:=amk hl379_0;clear hi379_0 hl379_0;replace p379:=eq_true p379;replace q379:=eq_true q379;have p380 : 0≤(1 : Int):=(by omega);have q380 : 1 < ((rd_L4 x7_1 (ji8)).length : Int):=of_decide_eq_true ass;obtain ⟨ad380,e380,hx380_0⟩:=Kd.at_int (by repeat (first | (with_reducible exact HR379_0.out)|(with_reducible refine Kd.C_alloc ?_ _)|(with_reducible refine Kd.C_drewN ?_ _)|(with_reducible refine Kd.C_drew ?_) | exact HR379_0.out)) 1 p380 q380;cases e380;(try simp only [show (1 : Int).toNat=1 from rfl,Nat.reduceMul,Nat.reduceEqDiff,Go.Addr.add,↓reduceIte] at hx380_0);have qi380 : (1 < (rd_L4 x7_1 (ji8)).length)=True:=eq_true (by omega);(try rw [show ((1 : Int)).toNat=1 from rfl] at hx380_0);replace p380:=eq_true p380;replace q380:=eq_true q380;have p381 : 0≤((ji8) : Int):=of_decide_eq_true ass;have q381 : (ji8) < (x7_1.length : Int):=of_decide_eq_true ass;obtain ⟨ad381,A381_0,c381_0,e381,hx381_0,hl381_0,hi381_0⟩:=at_L4 (Kd.S_reads' HO_7.out).2.2 (ji8) p381 q381;obtain rfl : ad379=ad381:=(by injection e381);obtain ⟨ce381,hce381,hMe381,hcc381⟩:=Kd.S_get HO_7.out [] (ji8) p381 (by first | exact q381 | exact of_decide_eq_true ass | (have e_:=(Kd.S_reads' HO_7.out).1;omega));obtain ⟨ve381_0,rfl,ge381_0⟩:=hMe381;have hv381_0:=hcc381 0 _ rfl;rw [Nat.add_zero,show ((Kd.slice 3 (Kd.int .i64))).sz=1 from rfl,Nat.mul_one] at hv381_0;replace hv381_0:=Option.some.inj (hv381_0.symm.trans hx381_0);rw [hv381_0] at ge381_0;have HL381_0:=amk (show Kd.R (Kd.int .i64) 3 _ _ _ _ (rd_L4 x7_1 (ji8)) from ge381_0);clear hv381_0 ge381_0;have HX381_0:=amk hx381_0;clear hcc381 hce381;have HR381_0:=amk hi381_0;have HC381_0:=amk hl381_0;clear hi381_0 hl381_0;replace p381:=eq_true p381;replace q381:=eq_true q381;have ea_:=Option.some.inj (hx379_0.symm.trans hx381_0);injection ea_ with ea_ en_ ec_;subst ea_;subst ec_;clear en_;have p13 : 0≤(1 : Int):=(by omega);have q13 : (1 : Int) < (((rd_L4 x7_1 (ji8)).length : Int) : Int):=of_decide_eq_true ass;have qi13 : (1 < (rd_L4 x7_1 (ji8)).length)=True:=eq_true (by omega);obtain ⟨go13,co13,eo13,gb13,gl13,cl13,HG13⟩:=Kd.R_form HL381_0.out (by omega);(first | cases eo13 | (injection eo13 with ea_ en_ ec_;(first | subst ea_ | (injection ea_ with ea_;subst ea_));subst ec_;clear en_));have GB13:=amk gb13;have GG13:=amk HG13;clear gb13 gl13 HG13;(first | simp only [add_plain] at hx380_0 | skip);obtain ⟨hx13_0,hf13_0⟩:=Kd.R_celln 0 HL381_0.out (1 : Int) p13 q13;(try rw [show ((1 : Int)).toNat=1 from rfl] at hx13_0);(try simp only [Nat.reduceMul,Nat.zero_mul,Nat.zero_add,Nat.reduceAdd] at hx13_0);(try rw [show ((1 : Int)).toNat=1 from rfl] at hf13_0);(try simp only [Nat.reduceMul,Nat.zero_mul,Nat.zero_add,Nat.reduceAdd] at hf13_0);replace p13:=eq_true p13;replace q13:=eq_true q13;have hq16 : ((ji8) : Int) < (x7_1.length : Int):=(by have h_ : ((ji8) : Int) < ((x7_1.length : Int) : Int):=of_decide_eq_true ass;first | exact h_ | (have e_:=(Kd.S_reads' HO_7.out).1;omega) | simpa only [List.length_set,List.length_set] using h_);obtain ⟨oki16,ce16,hcl16,hM16,hcc16,hok16,hbk16⟩:=Kd.S_borrow HO_7.out [] ((ji8) : Int) (of_decide_eq_true ass) hq16;obtain ⟨ve16_0,rfl,ge16_0⟩:=hM16;have hv16:=hcc16 0 _ rfl;rw [Nat.add_zero,show ((Kd.slice 3 (Kd.int .i64))).sz=1 from rfl,Nat.mul_one] at hv16;replace hv16:=Option.some.inj (hv16.symm.trans HX381_0.out);subst hv16;clear hcc16 hcl16;replace ge16_0:=(show Kd.R (Kd.int .i64) 3 _ _ _ _ (rd_L4 x7_1 (ji8)) from ge16_0);have HP16:=Kd.R_putg ge16_0 (1 : Int) x8_1)|((with_reducible refine gate_store (t:=3) (p:=41) rfl ?_);refine store_event (t:=3) (p:=41) (v:=?vo_w17) (w1:=(w14.setCell ⟨go13,1,none⟩ (.int .i64 x8_1))) ?hg ?ho ?hn ?hr ?_;(case ho=>rfl);(case hg=>rfl);(case hn=>rfl);(case hr=>first | (go_simp;done)|(go_simp;rfl));intro w17 hw;have hg : w14.grownBy w17 (some go13):=(by rw [hw];exact HP16.2);have hz_ : Kd.R (Kd.int .i64) 3 w17 w.heap.size oki16 (.slice (some ⟨go13,0,none⟩) (rd_L4 x7_1 (ji8)).length c379_0) y382:=(by rw [hw,Ny382.out];exact HP16.1);have hp_ : Kd.S (Kd.slice 3 (Kd.int .i64)) 63 w17 w.heap.size (fun _=>True) (.slice (some ad379) x7_1.length co15) y384:=(by rw [Ny384.out];exact hbk16 hg (fun k_ e_=>by injection e_ with e_;subst e_;exact ge16_0.1 _ rfl) (Kd.M_row hz_));have hm_:=Kd.R_mono hz_ hok16;clear HP16 hbk16;replace HO_7:=amk (hp_);replace HB:=amk ((by rw [hw];exact below_set (HB.out) GB13.out : Below w.heap.size w w17));have HL397:=amk (hm_);have HC383:=amk ((Kd.R_reads' hm_).2.1);clear HL379_0 HL381_0;clear hg hw hp_ hz_ hm_ hok16))
          go_roundg k1
          case measure=>have:=HK1.out;omega
          case rel=>exact ⟨(y384),(wrap64 (x8_1 + 1)),rsd,H',⟨by have:=HK1.out;omega⟩,⟨sss HO_7⟩,⟨bel HB⟩⟩
         ·rw [if_neg c12] at H
          have c12b0 : ((rd (rd_L4 x7_1 (ji8)) 1) == (wrap64 (x8_1 - 1)))=false:=beq_eq_false_iff_ne.mpr c12
          have c12b1 : ((rd (rd_L4 x7_1 (ji8)) 1) != (wrap64 (x8_1 - 1)))=true:=bne_iff_ne.mpr c12
          obtain ⟨y385,hy385⟩ : ∃ y_ : List Int,y_=(([x8_1,x8_1] : List Int)):=⟨_,rfl⟩
          replace H : (if x7_1.length < 5864062014805 then (impl_spans.l0 k1 a1 a2 (x7_1 ++ [y385]) (wrap64 (x8_1 + 1))) else (none))=some r:=by first | (rw [hy385];with_reducible exact H)|(have H2_:=(Option.bind_some _ _).symm.trans H;rw [hy385];with_reducible exact H2_)|(have H2_:=(Option.bind_some _ _).symm.trans H;with_reducible exact H2_) | with_reducible exact H | (rw [hy385];exact H) | exact H
          have Ny385:=amk hy385
          clear hy385
          by_cases c18 : x7_1.length < 5864062014805
          ·rw [if_pos c18] at H
           have LMc18:=amk c18
           clear c18
           obtain ⟨y388,hy388⟩ : ∃ y_ : List (List Int),y_=(x7_1 ++ [y385]):=⟨_,rfl⟩
           replace H : (impl_spans.l0 k1 a1 a2 y388 (wrap64 (x8_1 + 1)))=some r:=by first | (rw [hy388];with_reducible exact H)|(have H2_:=(Option.bind_some _ _).symm.trans H;rw [hy388];with_reducible exact H2_)|(have H2_:=(Option.bind_some _ _).symm.trans H;with_reducible exact H2_) | with_reducible exact H | (rw [hy388];exact H) | exact H
           have Ny388:=amk hy388
           clear hy388
           have H':=amk H
           clear H
           go_wp2_with (first | ((with_reducible refine (HP2.out _ _ true A5.out ?sidefp).mono ?_);(case sidefp=>exact bel HB);rintro e w19 ⟨rfl,hb⟩;replace HO_7:=amk (Kd.S_below (sss HO_7) hb);replace HB:=amk (below_step (bel HB) hb);(try clear hb);obtain ⟨Ao20,co20,eo20⟩:=Kd.S_slice HO_7.out;subst eo20;have p379 : 0≤((ji8) : Int):=of_decide_eq_true ass;have q379 : (ji8) < (x7_1.length : Int):=of_decide_eq_true ass;obtain ⟨ad379,A379_0,c379_0,e379,hx379_0,hl379_0,hi379_0⟩:=at_L4 (Kd.S_reads' HO_7.out).2.2 (ji8) p379 q379;cases e379;obtain ⟨ce379,hce379,hMe379,hcc379⟩:=Kd.S_get HO_7.out [] (ji8) p379 (by first | exact q379 | exact of_decide_eq_true ass | (have e_:=(Kd.S_reads' HO_7.out).1;omega));obtain ⟨ve379_0,rfl,ge379_0⟩:=hMe379;have hv379_0:=hcc379 0 _ rfl;rw [Nat.add_zero,show ((Kd.slice 3 (Kd.int .i64))).sz=1 from rfl,Nat.mul_one] at hv379_0;replace hv379_0:=Option.some.inj (hv379_0.symm.trans hx379_0);rw [hv379_0] at ge379_0;have HL379_0:=amk (show Kd.R (Kd.int .i64) 3 _ _ _ _ (rd_L4 x7_1 (ji8)) from ge379_0);clear hv379_0 ge379_0;have HX379_0:=amk hx379_0;clear hcc379 hce379;have HR379_0:=amk hi379_0;have HC379_0:=amk hl379_0;clear hi379_0 hl379_0;replace p379:=eq_true p379;replace q379:=eq_true q379;have p380 : 0≤(1 : Int):=(by omega);have q380 : 1 < ((rd_L4 x7_1 (ji8)).length : Int):=of_decide_eq_true ass;obtain ⟨ad380,e380,hx380_0⟩:=Kd.at_int (by repeat (first | (with_reducible exact HR379_0.out)|(with_reducible refine Kd.C_alloc ?_ _)|(with_reducible refine Kd.C_drewN ?_ _)|(with_reducible refine Kd.C_drew ?_) | exact HR379_0.out)) 1 p380 q380;cases e380;(try simp only [show (1 : Int).toNat=1 from rfl,Nat.reduceMul,Nat.reduceEqDiff,Go.Addr.add,↓reduceIte] at hx380_0);have qi380 : (1 < (rd_L4 x7_1 (ji8)).length)=True:=eq_true (by omega);(try rw [show ((1 : Int)).toNat=1 from rfl] at hx380_0);replace p380:=eq_true p380;replace q380:=eq_true q380)|((with_reducible refine gate_dst (N:=45) rfl ?_);refine Kd.R_lit (Kd.int .i64) _ 3 ?hg (N:=45) ?hd (xs:=([x8_1,x8_1] : List Int)) (inner:=[.int .i64 x8_1,.int .i64 x8_1]) (ok:=fun _=>True) (okp:=fun _=>True) ?hr ?hp (fun _ hk=>hk) trivial (Below.refl _ _) (Nat.le_refl _) (by simp) ?_;(case hd=>rfl);(case hg=>rfl);(case hr=>first | (go_simp;done)|(go_simp;rfl));(case hp=>exact (Reps.one (show Kd.M (Kd.int .i64) _ _ _ x8_1 [.int .i64 x8_1] from rfl) (Reps.one (show Kd.M (Kd.int .i64) _ _ _ x8_1 [.int .i64 x8_1] from rfl) (Reps.none _ _))));intro v386 w21 ho22 hb hg_ hnew_;clear hg_ hnew_;(first | rw [← Ny385.out] at ho22 | (simp only [Int.reduceToNat] at ho22;rw [← Ny385.out] at ho22));replace HO_7:=amk (Kd.S_elder' (sss HO_7) (Kd.R_base ho22) hb);have HO387:=amk (Kd.R_lower (Kd.R_new' ho22 (Kd.R_lt (rrr HL379_0))) (below_size (bel HB)));replace HL379_0:=amk (Kd.R_elder' (rrr HL379_0) (Kd.R_base ho22) hb);replace HR379_0:=amk (Kd.C_below (by repeat (first | (with_reducible exact HR379_0.out)|(with_reducible refine Kd.C_alloc ?_ _)|(with_reducible refine Kd.C_drewN ?_ _)|(with_reducible refine Kd.C_drew ?_) | exact HR379_0.out)) hb);replace HX379_0:=amk (pw_cell_below hb HX379_0.out);replace HB:=amk (below_step (bel HB) hb);clear hb ho22;obtain ⟨Ao24,co24,eo24⟩:=Kd.R_slice HO387.out;subst eo24)|((with_reducible refine gate_builtin (b:=.append) (xs:=#[.tmp 42,.tmp 46]) rfl ?_);at_builtin;refine Kd.S_append (Kd.slice 3 (Kd.int .i64)) (w0:=w) w.heap.size rfl (.tmp 42) (.tmp 46) 40 63 (.slice none 0 0) 24 rfl Try.underlying40 info63 rfl (by decide) (by omega) (.slice (some ad379) x7_1.length co20) x7_1 y385 [.slice Ao24 y385.length co24] (fun _=>True) (fun k_=>some k_=(.slice Ao24 y385.length co24 : Value).ownBlock) rfl rfl ?aP (fun k_ hk_=>((Kd.R_mono (ok':=fun k_=>((fun _=>True)) k_∧some k_ ≠ (.slice (some ad379) x7_1.length co20 : Value).ownBlock) (Kd.R_apart' (HO387.out) (Kd.S_typed HO_7.out) (by decide)) (fun k_ hk=>⟨trivial,hk.2⟩))).1 k_ hk_.symm) ?aF ?aO ?aB ?aS ?aL ?_;(case aP=>exact Kd.M_row (Kd.R_mono (Kd.R_tight rfl (Kd.R_mono (ok':=fun k_=>((fun _=>True)) k_∧some k_ ≠ (.slice (some ad379) x7_1.length co20 : Value).ownBlock) (Kd.R_apart' (HO387.out) (Kd.S_typed HO_7.out) (by decide)) (fun k_ hk=>⟨trivial,hk.2⟩))) (fun _ h_=>h_)));(case aB=>exact (bel HB));(case aF=>exact (fun _ _=>trivial));(case aO=>exact (by (with_reducible repeat (first | apply Kd.S_alloc | apply Kd.S_drewN | apply Kd.S_drew));exact Kd.S_mono HO_7.out (fun k_ hk=>⟨trivial,fun e_=>hk.2 e_⟩)));(case aS=>exact (below_size (bel HB)));(case aL=>have:=LMc18.out;omega);intro v389 w23 ho hb hg hat;rw [← Ny388.out] at ho;replace HL379_0:=amk (Kd.R_after (ok:=(fun k_=>some k_ ≠ (.slice Ao24 y385.length co24 : Value).ownBlock)) (by (with_reducible repeat (first | apply Kd.R_alloc | apply Kd.R_drewN | apply Kd.R_drew));exact Kd.R_mono HL379_0.out (fun _ hk=>⟨hk.2,hk.1.2⟩)) hg hat);replace HB:=amk (hb);have HO390:=amk (ho);clear HO387 HO_7;clear ho hb hg hat))
           go_roundg k1
           case measure=>have:=HK1.out;omega
           case rel=>exact ⟨(y388),(wrap64 (x8_1 + 1)),rsd,H',⟨by have:=HK1.out;omega⟩,⟨sss HO390⟩,⟨bel HB⟩⟩
          ·rw [if_neg c18] at H
           exact absurd H (by simp)
        ·rw [if_neg c11] at H
         exact absurd H (by simp)
       ·rw [if_neg c10] at H
        exact absurd H (by simp)
      ·rw [if_neg c9] at H
       exact absurd H (by simp)
     ·rw [if_neg c7] at H
      have c7b0 : decide (0≤(wrap64 ((x7_1.length : Int) - 1)))=false:=decide_eq_false c7
      clear c7
      obtain ⟨y391,hy391⟩ : ∃ y_ : List Int,y_=(([x8_1,x8_1] : List Int)):=⟨_,rfl⟩
      replace H : (if x7_1.length < 5864062014805 then (impl_spans.l0 k1 a1 a2 (x7_1 ++ [y391]) (wrap64 (x8_1 + 1))) else (none))=some r:=by first | (rw [hy391];with_reducible exact H)|(have H2_:=(Option.bind_some _ _).symm.trans H;rw [hy391];with_reducible exact H2_)|(have H2_:=(Option.bind_some _ _).symm.trans H;with_reducible exact H2_) | with_reducible exact H | (rw [hy391];exact H) | exact H
      have Ny391:=amk hy391
      clear hy391
      by_cases c25 : x7_1.length < 5864062014805
      ·rw [if_pos c25] at H
       have LMc25:=amk c25
       clear c25
       obtain ⟨y394,hy394⟩ : ∃ y_ : List (List Int),y_=(x7_1 ++ [y391]):=⟨_,rfl⟩
       replace H : (impl_spans.l0 k1 a1 a2 y394 (wrap64 (x8_1 + 1)))=some r:=by first | (rw [hy394];with_reducible exact H)|(have H2_:=(Option.bind_some _ _).symm.trans H;rw [hy394];with_reducible exact H2_)|(have H2_:=(Option.bind_some _ _).symm.trans H;with_reducible exact H2_) | with_reducible exact H | (rw [hy394];exact H) | exact H
       have Ny394:=amk hy394
       clear hy394
       have H':=amk H
       clear H
       go_wp2_with (first | ((with_reducible refine (HP2.out _ _ true A5.out ?sidefp).mono ?_);(case sidefp=>exact bel HB);rintro e w26 ⟨rfl,hb⟩;replace HO_7:=amk (Kd.S_below (sss HO_7) hb);replace HB:=amk (below_step (bel HB) hb);(try clear hb);obtain ⟨Ao27,co27,eo27⟩:=Kd.S_slice HO_7.out;subst eo27)|((with_reducible refine gate_dst (N:=45) rfl ?_);refine Kd.R_lit (Kd.int .i64) _ 3 ?hg (N:=45) ?hd (xs:=([x8_1,x8_1] : List Int)) (inner:=[.int .i64 x8_1,.int .i64 x8_1]) (ok:=fun _=>True) (okp:=fun _=>True) ?hr ?hp (fun _ hk=>hk) trivial (Below.refl _ _) (Nat.le_refl _) (by simp) ?_;(case hd=>rfl);(case hg=>rfl);(case hr=>first | (go_simp;done)|(go_simp;rfl));(case hp=>exact (Reps.one (show Kd.M (Kd.int .i64) _ _ _ x8_1 [.int .i64 x8_1] from rfl) (Reps.one (show Kd.M (Kd.int .i64) _ _ _ x8_1 [.int .i64 x8_1] from rfl) (Reps.none _ _))));intro v392 w28 ho29 hb hg_ hnew_;clear hg_ hnew_;(first | rw [← Ny391.out] at ho29 | (simp only [Int.reduceToNat] at ho29;rw [← Ny391.out] at ho29));replace HO_7:=amk (Kd.S_elder' (sss HO_7) (Kd.R_base ho29) hb);have HO393:=amk (Kd.R_lower ho29 (below_size (bel HB)));replace HB:=amk (below_step (bel HB) hb);clear hb ho29;obtain ⟨Ao31,co31,eo31⟩:=Kd.R_slice HO393.out;subst eo31)|((with_reducible refine gate_builtin (b:=.append) (xs:=#[.tmp 42,.tmp 46]) rfl ?_);at_builtin;refine Kd.S_append (Kd.slice 3 (Kd.int .i64)) (w0:=w) w.heap.size rfl (.tmp 42) (.tmp 46) 40 63 (.slice none 0 0) 24 rfl Try.underlying40 info63 rfl (by decide) (by omega) (.slice Ao27 x7_1.length co27) x7_1 y391 [.slice Ao31 y391.length co31] (fun _=>True) (fun k_=>some k_=(.slice Ao31 y391.length co31 : Value).ownBlock) rfl rfl ?aP (fun k_ hk_=>((Kd.R_mono (ok':=fun k_=>((fun _=>True)) k_∧some k_ ≠ (.slice Ao27 x7_1.length co27 : Value).ownBlock) (Kd.R_apart' (HO393.out) (Kd.S_typed HO_7.out) (by decide)) (fun k_ hk=>⟨trivial,hk.2⟩))).1 k_ hk_.symm) ?aF ?aO ?aB ?aS ?aL ?_;(case aP=>exact Kd.M_row (Kd.R_mono (Kd.R_tight rfl (Kd.R_mono (ok':=fun k_=>((fun _=>True)) k_∧some k_ ≠ (.slice Ao27 x7_1.length co27 : Value).ownBlock) (Kd.R_apart' (HO393.out) (Kd.S_typed HO_7.out) (by decide)) (fun k_ hk=>⟨trivial,hk.2⟩))) (fun _ h_=>h_)));(case aB=>exact (bel HB));(case aF=>exact (fun _ _=>trivial));(case aO=>exact (by (with_reducible repeat (first | apply Kd.S_alloc | apply Kd.S_drewN | apply Kd.S_drew));exact Kd.S_mono HO_7.out (fun k_ hk=>⟨trivial,fun e_=>hk.2 e_⟩)));(case aS=>exact (below_size (bel HB)));(case aL=>have:=LMc25.out;omega);intro v395 w30 ho hb hg hat;rw [← Ny394.out] at ho;replace HB:=amk (hb);have HO396:=amk (ho);clear HO393 HO_7;clear ho hb hg hat))
       go_roundg k1
       case measure=>have:=HK1.out;omega
       case rel=>exact ⟨(y394),(wrap64 (x8_1 + 1)),rsd,H',⟨by have:=HK1.out;omega⟩,⟨sss HO396⟩,⟨bel HB⟩⟩
      ·rw [if_neg c25] at H
       exact absurd H (by simp)
    ·replace c6:=Bool.eq_false_iff.mpr c6
     subst c6
     have H1 : (impl_spans.l0 k1 a1 a2 x7_1 (wrap64 (x8_1 + 1)))=some r:=by rw [if_neg (show ¬ (false=true) by decide)] at H;exact H
     clear H
     have H:=H1
     clear H1
     have H':=amk H
     clear H
     go_wp2_with (first | ((with_reducible refine (HP2.out _ _ false A5.out ?sidefp).mono ?_);(case sidefp=>exact bel HB);rintro e w32 ⟨rfl,hb⟩;replace HO_7:=amk (Kd.S_below (sss HO_7) hb);replace HB:=amk (below_step (bel HB) hb);(try clear hb)))
     go_roundg k1
     case measure=>have:=HK1.out;omega
     case rel=>exact ⟨(x7_1),(wrap64 (x8_1 + 1)),rsd,H',⟨by have:=HK1.out;omega⟩,⟨sss HO_7⟩,⟨bel HB⟩⟩
   ·rw [if_neg c4] at H
    have c4b0 : decide (x8_1≤a1)=false:=decide_eq_false c4
    clear c4
    obtain rfl:=Option.some.inj H
    go_wp2
    go_ret
    exact ⟨_,erw0,sss HO_7,bel HB⟩
def impl_absolute.f (a0 : Int) : Option (Int):=some (mx a0 (wrap64 (-a0)))
set_option maxHeartbeats 8000000 in
set_option maxRecDepth 100000 in
theorem impl_absolute.calls (a0 : Int) (r : Int) (w : World) (h : impl_absolute.f a0=some r) :
  Calls Try.prog 94 #[.int .i64 a0] w fun e w'=>e = .returned (.int .i64 r)∧Below w.heap.size w w':=by
 have HB:=amk (Below.refl w.heap.size w)
 have H : (some (mx a0 (wrap64 (-a0))))=some r:=h
 clear h
 obtain ⟨ji2,hji2⟩ : ∃ j_ : Int,(mx a0 (wrap64 (-a0)))=j_:=⟨_,rfl⟩
 replace H : (some ji2)=some r:=by first | (rw [hji2] at H;exact H)|(simp only [hji2] at H ⊢;exact H)
 have hji2_ : (if a0 < (wrap64 (-a0)) then (wrap64 (-a0)) else a0)=ji2:=hji2
 obtain rfl:=Option.some.inj H
 go_enter Try.func94,Try.ntmps94
 go_wp2
 go_ret
 exact ⟨by first | rfl | (simp [errW_none,errW_some] <;> rfl)|(simp only [← hji2];first | rfl | (simp [errW_none,errW_some] <;> rfl))|(simp [*,errW_none,errW_some] <;> rfl),bel HB⟩
def impl_gcd.l0 : Nat→Int→Int→Option (Int)
 | 0,_,_=>none
 | k + 1,x0,x1=>if x1=0 then ((impl_absolute.f x0).bind fun t213=>(some t213)) else (impl_gcd.l0 k x1 (Int.tmod x0 x1))
def impl_gcd.f (k : Nat) (a0 : Int) (a1 : Int) : Option (Int):=impl_gcd.l0 k a0 a1
theorem impl_gcd.mono_l : ∀ k,(∀ y0 y1,LeO (impl_gcd.l0 k y0 y1) (impl_gcd.l0 (k + 1) y0 y1))
 | 0=>fun _ _ r h=>by simp [impl_gcd.l0] at h
 | k + 1=>by
  have ih0:=impl_gcd.mono_l k
  ·intro y0 y1
   unfold impl_gcd.l0
   repeat' first
   | (with_reducible exact ih0 _ _)
   | (with_reducible exact LeO.refl _)
   | (with_reducible exact LeO.none _)
   | (with_reducible refine LeO.ite ?_ ?_)
   | (with_reducible refine LeO.bind ?_ (fun _=>?_))
   | exact ih0 _ _
theorem impl_gcd.mono : ∀ a0 a1 k,LeO (impl_gcd.f k a0 a1) (impl_gcd.f (k + 1) a0 a1):=by
 intro a0 a1 k
 have ih0:=impl_gcd.mono_l k
 unfold impl_gcd.f
 repeat' first
   | (with_reducible exact ih0 _ _)
   | (with_reducible exact LeO.refl _)
   | (with_reducible exact LeO.none _)
   | (with_reducible refine LeO.ite ?_ ?_)
   | (with_reducible refine LeO.bind ?_ (fun _=>?_))
   | exact ih0 _ _
set_option maxHeartbeats 8000000 in
set_option maxRecDepth 100000 in
theorem impl_gcd.calls (k : Nat) (a0 : Int) (a1 : Int) (r : Int) (w : World) (h : impl_gcd.f k a0 a1=some r) :
  Calls Try.prog 86 #[.int .i64 a0,.int .i64 a1] w fun e w'=>e = .returned (.int .i64 r)∧Below w.heap.size w w':=by
 have HB:=amk (Below.refl w.heap.size w)
 have H : (impl_gcd.l0 k a0 a1)=some r:=h
 clear h
 have H':=amk H
 clear H
 go_enter Try.func86,Try.ntmps86
 go_wp2
 repeat (go_quiet (fail);try go_wp2)
 go_loopg [0,1] k (fun kq v0 v1 w'=>∃ (x0_1 : Int) (x1_1 : Int),v0 = .int .i64 x0_1∧v1 = .int .i64 x1_1∧Aside0 (impl_gcd.l0 kq x0_1 x1_1=some r)∧Aside0 (kq≤k)∧Aside0 (Below w.heap.size w w'))
 case atStart=>exact ⟨(a0),(a1),rsd,rsd,H',⟨Nat.le_refl _⟩,⟨bel HB⟩⟩
 case round=>
  clear H'
  try clear p2
  obtain ⟨x0_1,x1_1,rfl,rfl,HA,HK1,HB⟩:=hrel
  cases gk with
  | zero=>exact absurd HA.out (by simp [impl_gcd.l0])
  | succ k1=>
   have H:=HA.out
   clear HA
   simp only [impl_gcd.l0] at H
   by_cases c3 : x1_1=0
   ·rw [if_pos c3] at H
    have c3b0 : (x1_1 == 0)=true:=beq_iff_eq.mpr c3
    have c3b1 : (x1_1 != 0)=false:=bne_eq_false_iff_eq.mpr c3
    clear c3
    replace H:=obs H
    obtain ⟨t213,A40,H⟩:=H
    replace H : (some t213)=some r:=H
    have A4:=amk A40
    clear A40
    obtain rfl:=Option.some.inj H
    go_wp2_with (first | (go_at_call 94;(with_reducible refine (impl_absolute.calls x0_1 t213 _ A4.out).mono ?_);rintro e w5 ⟨rfl,hb⟩;replace HB:=amk (below_step (bel HB) hb);(try clear hb)))
    repeat (go_quiet (first | (go_at_call 94;(with_reducible refine (impl_absolute.calls x0_1 t213 _ A4.out).mono ?_);rintro e w5 ⟨rfl,hb⟩;replace HB:=amk (below_step (bel HB) hb);(try clear hb)));try go_wp2_with (first | (go_at_call 94;(with_reducible refine (impl_absolute.calls x0_1 t213 _ A4.out).mono ?_);rintro e w5 ⟨rfl,hb⟩;replace HB:=amk (below_step (bel HB) hb);(try clear hb))))
    go_ret
    exact ⟨erw0,bel HB⟩
   ·rw [if_neg c3] at H
    have c3b0 : (x1_1 == 0)=false:=beq_eq_false_iff_ne.mpr c3
    have c3b1 : (x1_1 != 0)=true:=bne_iff_ne.mpr c3
    have H':=amk H
    clear H
    go_wp2
    repeat (go_quiet (fail);try go_wp2)
    go_roundg k1
    case measure=>have:=HK1.out;omega
    case rel=>exact ⟨(x1_1),(Int.tmod x0_1 x1_1),rsd,rsd,H',⟨by have:=HK1.out;omega⟩,⟨bel HB⟩⟩
def impl_reduced.f (k : Nat) (a0 : Int) (a1 : Int) : Option (Int × Int):=(impl_gcd.f k a0 a1).bind fun t214=>(if t214=0 then (none) else (some (wrap64 (Int.tdiv a0 t214),wrap64 (Int.tdiv a1 t214))))
theorem impl_reduced.mono : ∀ a0 a1 k,LeO (impl_reduced.f k a0 a1) (impl_reduced.f (k + 1) a0 a1):=by
 intro a0 a1 k
 unfold impl_reduced.f
 repeat' first
   | (with_reducible exact impl_gcd.mono _ _ _)
   | (with_reducible exact LeO.refl _)
   | (with_reducible exact LeO.none _)
   | (with_reducible refine LeO.ite ?_ ?_)
   | (with_reducible refine LeO.bind ?_ (fun _=>?_))
set_option maxHeartbeats 8000000 in
set_option maxRecDepth 100000 in
theorem impl_reduced.calls (k : Nat) (a0 : Int) (a1 : Int) (r1 : Int) (r2 : Int) (w : World) (h : impl_reduced.f k a0 a1=some (r1,r2)) :
  Calls Try.prog 54 #[.int .i64 a0,.int .i64 a1] w fun e w'=>e = .returned (.tuple #[.int .i64 r1,.int .i64 r2])∧Below w.heap.size w w':=by
 have HB:=amk (Below.refl w.heap.size w)
 have H : ((impl_gcd.f k a0 a1).bind fun t214=>(if t214=0 then (none) else (some (wrap64 (Int.tdiv a0 t214),wrap64 (Int.tdiv a1 t214)))))=some (r1,r2):=h
 clear h
 replace H:=obs H
 obtain ⟨t214,A30,H⟩:=H
 replace H : (if t214=0 then (none) else (some (wrap64 (Int.tdiv a0 t214),wrap64 (Int.tdiv a1 t214))))=some (r1,r2):=H
 have A3:=amk A30
 clear A30
 by_cases c4 : t214=0
 ·rw [if_pos c4] at H
  exact absurd H (by simp)
 ·rw [if_neg c4] at H
  have c4b0 : (t214 == 0)=false:=beq_eq_false_iff_ne.mpr c4
  have c4b1 : (t214 != 0)=true:=bne_iff_ne.mpr c4
  simp only [Option.some.injEq,Prod.mk.injEq] at H
  obtain ⟨rfl,rfl⟩:=H
  go_enter Try.func54,Try.ntmps54
  go_wp2_with (first | (go_at_call 86;(with_reducible refine (impl_gcd.calls k a0 a1 t214 _ A3.out).mono ?_);rintro e w5 ⟨rfl,hb⟩;replace HB:=amk (below_step (bel HB) hb);(try clear hb)))
  repeat (go_quiet (first | (go_at_call 86;(with_reducible refine (impl_gcd.calls k a0 a1 t214 _ A3.out).mono ?_);rintro e w5 ⟨rfl,hb⟩;replace HB:=amk (below_step (bel HB) hb);(try clear hb)));try go_wp2_with (first | (go_at_call 86;(with_reducible refine (impl_gcd.calls k a0 a1 t214 _ A3.out).mono ?_);rintro e w5 ⟨rfl,hb⟩;replace HB:=amk (below_step (bel HB) hb);(try clear hb))))
  go_ret2
  exact ⟨erw0,bel HB⟩
def impl_levelIn.l0 : Nat→List (S30)→Int→Int→Option (Int × Int)
 | 0,_,_,_=>none
 | k + 1,x0,x1,x5=>if (wrap64 (x5 + 1)) < (x0.length : Int) then (if 0≤(wrap64 (x5 + 1)) then (if ((rd_T30 x0 (wrap64 (x5 + 1))).f0)≤x1 then (impl_levelIn.l0 k x0 x1 (wrap64 (x5 + 1))) else (if 0≤x5 then (if x5 < (x0.length : Int) then (if ((rd_T30 x0 x5).f0)=x1 then (some ((rd_T30 x0 x5).f1,1)) else ((impl_reduced.f k (wrap64 ((wrap64 (((rd_T30 x0 x5).f1) * (wrap64 (((rd_T30 x0 (wrap64 (x5 + 1))).f0) - x1)))) + (wrap64 (((rd_T30 x0 (wrap64 (x5 + 1))).f1) * (wrap64 (x1 - ((rd_T30 x0 x5).f0))))))) (wrap64 (((rd_T30 x0 (wrap64 (x5 + 1))).f0) - ((rd_T30 x0 x5).f0)))).bind fun bt221=>(some (bt221.1,bt221.2)))) else (none)) else (none))) else (none)) else (if 0≤x5 then (if x5 < (x0.length : Int) then (if ((rd_T30 x0 x5).f0)=x1 then (some ((rd_T30 x0 x5).f1,1)) else (if 0≤(wrap64 (x5 + 1)) then (none) else (none))) else (none)) else (none))
def impl_levelIn.f (k : Nat) (l0 : List (S30)) (a1 : Int) : Option (Int × Int):=impl_levelIn.l0 k l0 a1 0
theorem impl_levelIn.mono_l : ∀ k,(∀ y0 y1 y2,LeO (impl_levelIn.l0 k y0 y1 y2) (impl_levelIn.l0 (k + 1) y0 y1 y2))
 | 0=>fun _ _ _ r h=>by simp [impl_levelIn.l0] at h
 | k + 1=>by
  have ih0:=impl_levelIn.mono_l k
  ·intro y0 y1 y2
   unfold impl_levelIn.l0
   repeat' first
   | (with_reducible exact ih0 _ _ _)
   | (with_reducible exact impl_reduced.mono _ _ _)
   | (with_reducible exact LeO.refl _)
   | (with_reducible exact LeO.none _)
   | (with_reducible refine LeO.ite ?_ ?_)
   | (with_reducible refine LeO.bind ?_ (fun _=>?_))
   | exact ih0 _ _ _
theorem impl_levelIn.mono : ∀ a0 a1 k,LeO (impl_levelIn.f k a0 a1) (impl_levelIn.f (k + 1) a0 a1):=by
 intro a0 a1 k
 have ih0:=impl_levelIn.mono_l k
 unfold impl_levelIn.f
 repeat' first
   | (with_reducible exact ih0 _ _ _)
   | (with_reducible exact impl_reduced.mono _ _ _)
   | (with_reducible exact LeO.refl _)
   | (with_reducible exact LeO.none _)
   | (with_reducible refine LeO.ite ?_ ?_)
   | (with_reducible refine LeO.bind ?_ (fun _=>?_))
   | exact ih0 _ _ _
set_option maxHeartbeats 8000000 in
set_option maxRecDepth 100000 in
theorem impl_levelIn.calls (k : Nat) (A0 : Option Addr) (c0 : Nat) (l0 : List (S30)) (a1 : Int) (r1 : Int) (r2 : Int) (w : World) (hr0 : Kd.C k30 w A0 l0.length l0) (hc0 : l0.length≤c0) (h : impl_levelIn.f k l0 a1=some (r1,r2)) :
  Calls Try.prog 50 #[.slice A0 l0.length c0,.int .i64 a1] w fun e w'=>e = .returned (.agg #[.int .i64 r1,.int .i64 r2])∧Below w.heap.size w w':=by
 have hu82:=Try.underlying82
 have hu30:=Try.underlying30
 have HR0:=amk hr0
 have HC0:=amk hc0
 clear hr0 hc0
 have HB:=amk (Below.refl w.heap.size w)
 have H : (impl_levelIn.l0 k l0 a1 0)=some (r1,r2):=h
 clear h
 have H':=amk H
 clear H
 go_enter Try.func50,Try.ntmps50
 go_wp2_with (first | ((with_reducible refine gate_dst (N:=4) rfl ?_);refine box_event ?hg (N:=4) ?hd (cs:=#[.int .i64 0,.int .i64 0]) (t:=82) ?hr ?_;(case hd=>rfl);(case hg=>rfl);(case hr=>first | (go_simp;done)|(go_simp;rfl));intro gb215 hg w3 hbox hb;have BK215:=amk (hbox);have GW215:=amk ((by rw [hg];exact (below_size (bel HB)) : w.heap.size≤gb215));have GE215:=amk ((by rw [hg];exact (below_size (bel HB)) : w.heap.size≤gb215));replace HB:=amk (below_step (bel HB) hb);clear hb hbox hg))
 go_loopg [5] k (fun kq v5 w'=>∃ (x5_1 : Int),v5 = .int .i64 x5_1∧Aside0 (impl_levelIn.l0 kq l0 a1 x5_1=some (r1,r2))∧Aside0 (kq≤k)∧Aside0 (w'.heap[gb215]? = some (.cells #[.int .i64 0,.int .i64 0] 82 (0,0)))∧Aside0 (Below w.heap.size w w'))
 case atStart=>exact ⟨(0),rsd,H',⟨Nat.le_refl _⟩,⟨by (with_reducible repeat (first | refine blk_drewN ?_ _ | refine blk_drew ?_ | refine blk_alloc ?_ _));exact BK215.out⟩,⟨bel1 HB GE215.out⟩⟩
 case round=>
  clear H'
  try clear p2
  obtain ⟨x5_1,rfl,HA,HK1,BK215,HB⟩:=hrel
  cases gk with
  | zero=>exact absurd HA.out (by simp [impl_levelIn.l0])
  | succ k1=>
   have H:=HA.out
   clear HA
   simp only [impl_levelIn.l0] at H
   by_cases c4 : (wrap64 (x5_1 + 1)) < (l0.length : Int)
   ·rw [if_pos c4] at H
    have c4b0 : decide ((wrap64 (x5_1 + 1)) < (l0.length : Int))=true:=decide_eq_true c4
    clear c4
    obtain ⟨ji5,hji5⟩ : ∃ j_ : Int,(wrap64 (x5_1 + 1))=j_:=⟨_,rfl⟩
    replace H : (if 0≤(ji5) then (if ((rd_T30 l0 (ji5)).f0)≤a1 then (impl_levelIn.l0 k1 l0 a1 ji5) else (if 0≤x5_1 then (if x5_1 < (l0.length : Int) then (if ((rd_T30 l0 x5_1).f0)=a1 then (some ((rd_T30 l0 x5_1).f1,1)) else ((impl_reduced.f k1 (wrap64 ((wrap64 (((rd_T30 l0 x5_1).f1) * (wrap64 (((rd_T30 l0 (ji5)).f0) - a1)))) + (wrap64 (((rd_T30 l0 (ji5)).f1) * (wrap64 (a1 - ((rd_T30 l0 x5_1).f0))))))) (wrap64 (((rd_T30 l0 (ji5)).f0) - ((rd_T30 l0 x5_1).f0)))).bind fun bt221=>(some (bt221.1,bt221.2)))) else (none)) else (none))) else (none))=some (r1,r2):=by first | (rw [hji5] at H;exact H)|(simp only [hji5] at H ⊢;exact H)
    (try rw [hji5] at c4b0)
    have hji5w : (IntKind.i64.wrap (x5_1 + 1))=ji5:=(i64_w _).trans hji5
    by_cases c6 : 0≤(ji5)
    ·rw [if_pos c6] at H
     have c6b0 : decide (0≤(ji5))=true:=decide_eq_true c6
     clear c6
     by_cases c7 : ((rd_T30 l0 (ji5)).f0)≤a1
     ·rw [if_pos c7] at H
      have c7b0 : decide (((rd_T30 l0 (ji5)).f0)≤a1)=true:=decide_eq_true c7
      clear c7
      have H':=amk H
      clear H
      have p216 : 0≤((ji5) : Int):=of_decide_eq_true ass
      have q216 : (ji5) < (l0.length : Int):=of_decide_eq_true ass
      obtain ⟨ad216,e216,hx216_0,hx216_1⟩:=at_T30 HR0.out (ji5) p216 q216
      cases e216
      replace hx216_0:=(HB.out.cell (World.block_lt_of_cell? w _ hx216_0)).trans hx216_0
      replace hx216_1:=(HB.out.cell (World.block_lt_of_cell? w _ hx216_1)).trans hx216_1
      replace p216:=eq_true p216
      replace q216:=eq_true q216
      go_wp2
      go_roundg k1
      case measure=>have:=HK1.out;omega
      case rel=>exact ⟨(ji5),(by first | rfl | (simp;done)|(simp only [← hji5] <;> (first | rfl | simp))|(simp [*];done)),H',⟨by have:=HK1.out;omega⟩,⟨by (with_reducible repeat (first | refine blk_drewN ?_ _ | refine blk_drew ?_ | refine blk_alloc ?_ _));exact BK215.out⟩,⟨bel1 HB GE215.out⟩⟩
     ·rw [if_neg c7] at H
      have c7b0 : decide (((rd_T30 l0 (ji5)).f0)≤a1)=false:=decide_eq_false c7
      clear c7
      by_cases c8 : 0≤x5_1
      ·rw [if_pos c8] at H
       have c8b0 : decide (0≤x5_1)=true:=decide_eq_true c8
       clear c8
       by_cases c9 : x5_1 < (l0.length : Int)
       ·rw [if_pos c9] at H
        have c9b0 : decide (x5_1 < (l0.length : Int))=true:=decide_eq_true c9
        clear c9
        by_cases c10 : ((rd_T30 l0 x5_1).f0)=a1
        ·rw [if_pos c10] at H
         have c10b0 : (((rd_T30 l0 x5_1).f0) == a1)=true:=beq_iff_eq.mpr c10
         have c10b1 : (((rd_T30 l0 x5_1).f0) != a1)=false:=bne_eq_false_iff_eq.mpr c10
         clear c10
         simp only [Option.some.injEq,Prod.mk.injEq] at H
         obtain ⟨rfl,rfl⟩:=H
         have p216 : 0≤((ji5) : Int):=of_decide_eq_true ass
         have q216 : (ji5) < (l0.length : Int):=of_decide_eq_true ass
         obtain ⟨ad216,e216,hx216_0,hx216_1⟩:=at_T30 HR0.out (ji5) p216 q216
         cases e216
         replace hx216_0:=(HB.out.cell (World.block_lt_of_cell? w _ hx216_0)).trans hx216_0
         replace hx216_1:=(HB.out.cell (World.block_lt_of_cell? w _ hx216_1)).trans hx216_1
         replace p216:=eq_true p216
         replace q216:=eq_true q216
         have p217 : 0≤(x5_1 : Int):=of_decide_eq_true ass
         have q217 : x5_1 < (l0.length : Int):=of_decide_eq_true ass
         obtain ⟨ad217,e217,hx217_0,hx217_1⟩:=at_T30 HR0.out x5_1 p217 q217
         obtain rfl : ad216=ad217:=(by injection e217)
         replace hx217_0:=(HB.out.cell (World.block_lt_of_cell? w _ hx217_0)).trans hx217_0
         replace hx217_1:=(HB.out.cell (World.block_lt_of_cell? w _ hx217_1)).trans hx217_1
         replace p217:=eq_true p217
         replace q217:=eq_true q217
         go_wp2_with (first | ((with_reducible refine gate_dst (N:=6) rfl ?_);refine box_event ?hg (N:=6) ?hd (cs:=#[.int .i64 0,.int .i64 0]) (t:=30) ?hr ?_;(case hd=>rfl);(case hg=>rfl);(case hr=>first | (go_simp;done)|(go_simp;rfl));intro gb218 hg w11 hbox hb;have BK218:=amk (hbox);have GW218:=amk ((by rw [hg];exact (below_size (bel1 HB GE215.out)) : w.heap.size≤gb218));have GE218:=amk ((by rw [hg];exact (below_size (bel1 HB GE215.out)) : w.heap.size≤gb218));replace HB:=amk (below_step (bel1 HB GE215.out) hb);have NB215_218:=amk ((by rw [hg];exact Nat.ne_of_lt (blk_lt (g:=gb215) (o:=.cells #[.int .i64 0,.int .i64 0] 82 (0,0)) (bkk BK215)) : gb215 ≠ gb218));have NB218_215:=amk ((by rw [hg];exact Nat.ne_of_gt (blk_lt (g:=gb215) (o:=.cells #[.int .i64 0,.int .i64 0] 82 (0,0)) (bkk BK215)) : gb218 ≠ gb215));replace BK215:=amk (blk_below (g:=gb215) (o:=.cells #[.int .i64 0,.int .i64 0] 82 (0,0)) (bkk BK215) hb);clear hb hbox hg;have hnb12:=NB218_215.out;have hnc12:=NB215_218.out;have hcz13_0 : w11.cell? ⟨gb218,0,none⟩=some (.int .i64 0):=(blk_cell BK218.out 0).trans rfl;have hcz13_1 : w11.cell? ⟨gb218,1,none⟩=some (.int .i64 0):=(blk_cell BK218.out 1).trans rfl;have hfz13_0:=blk_frozen BK218.out 0;have hfz13_1:=blk_frozen BK218.out 1;have hcz14_0 : w11.cell? ⟨gb215,0,none⟩=some (.int .i64 0):=(blk_cell BK215.out 0).trans rfl;have hcz14_1 : w11.cell? ⟨gb215,1,none⟩=some (.int .i64 0):=(blk_cell BK215.out 1).trans rfl;have hfz14_0:=blk_frozen BK215.out 0;have hfz14_1:=blk_frozen BK215.out 1))
         refine bodyPost_ret (results_cell_row rfl _ _ gb215 82 #[.int .i64 ((rd_T30 l0 x5_1).f1),.int .i64 1] (0,0) _ rfl (by (with_reducible repeat (first | refine blk_drewN ?_ _ | refine blk_drew ?_ | refine blk_alloc ?_ _));refine blk_put (cs:=#[.int .i64 ((rd_T30 l0 x5_1).f1),.int .i64 0]) ?_ 1 _ rfl;(with_reducible repeat (first | refine blk_drewN ?_ _ | refine blk_drew ?_ | refine blk_alloc ?_ _));refine blk_put (cs:=#[.int .i64 0,.int .i64 0]) ?_ 0 _ rfl;(with_reducible repeat (first | refine blk_drewN ?_ _ | refine blk_drew ?_ | refine blk_alloc ?_ _));refine blk_far ?_ NB215_218.out _;(with_reducible repeat (first | refine blk_drewN ?_ _ | refine blk_drew ?_ | refine blk_alloc ?_ _));refine blk_far ?_ NB215_218.out _;(with_reducible repeat (first | refine blk_drewN ?_ _ | refine blk_drew ?_ | refine blk_alloc ?_ _));exact BK215.out) Try.underlying82 rfl (by kernel_rfl)) rfl ?_
         exact ⟨by first | rfl | (simp [errW_none,errW_some] <;> rfl)|(simp only [← hji5];first | rfl | (simp [errW_none,errW_some] <;> rfl))|(simp [*,errW_none,errW_some] <;> rfl),bel2 HB GE215.out GE218.out⟩
        ·rw [if_neg c10] at H
         have c10b0 : (((rd_T30 l0 x5_1).f0) == a1)=false:=beq_eq_false_iff_ne.mpr c10
         have c10b1 : (((rd_T30 l0 x5_1).f0) != a1)=true:=bne_iff_ne.mpr c10
         replace H:=obs H
         obtain ⟨⟨t221,t222⟩,A150,H⟩:=H
         replace H : (some (t221,t222))=some (r1,r2):=H
         have A15:=amk A150
         clear A150
         simp only [Option.some.injEq,Prod.mk.injEq] at H
         obtain ⟨rfl,rfl⟩:=H
         have p216 : 0≤((ji5) : Int):=of_decide_eq_true ass
         have q216 : (ji5) < (l0.length : Int):=of_decide_eq_true ass
         obtain ⟨ad216,e216,hx216_0,hx216_1⟩:=at_T30 HR0.out (ji5) p216 q216
         cases e216
         replace hx216_0:=(HB.out.cell (World.block_lt_of_cell? w _ hx216_0)).trans hx216_0
         replace hx216_1:=(HB.out.cell (World.block_lt_of_cell? w _ hx216_1)).trans hx216_1
         replace p216:=eq_true p216
         replace q216:=eq_true q216
         have p217 : 0≤(x5_1 : Int):=of_decide_eq_true ass
         have q217 : x5_1 < (l0.length : Int):=of_decide_eq_true ass
         obtain ⟨ad217,e217,hx217_0,hx217_1⟩:=at_T30 HR0.out x5_1 p217 q217
         obtain rfl : ad216=ad217:=(by injection e217)
         replace hx217_0:=(HB.out.cell (World.block_lt_of_cell? w _ hx217_0)).trans hx217_0
         replace hx217_1:=(HB.out.cell (World.block_lt_of_cell? w _ hx217_1)).trans hx217_1
         replace p217:=eq_true p217
         replace q217:=eq_true q217
         go_wp2_with (first | ((with_reducible refine gate_dst (N:=6) rfl ?_);refine box_event ?hg (N:=6) ?hd (cs:=#[.int .i64 0,.int .i64 0]) (t:=30) ?hr ?_;(case hd=>rfl);(case hg=>rfl);(case hr=>first | (go_simp;done)|(go_simp;rfl));intro gb218 hg w16 hbox hb;have BK218:=amk (hbox);have GW218:=amk ((by rw [hg];exact (below_size (bel1 HB GE215.out)) : w.heap.size≤gb218));have GE218:=amk ((by rw [hg];exact (below_size (bel1 HB GE215.out)) : w.heap.size≤gb218));replace HB:=amk (below_step (bel1 HB GE215.out) hb);have NB215_218:=amk ((by rw [hg];exact Nat.ne_of_lt (blk_lt (g:=gb215) (o:=.cells #[.int .i64 0,.int .i64 0] 82 (0,0)) (bkk BK215)) : gb215 ≠ gb218));have NB218_215:=amk ((by rw [hg];exact Nat.ne_of_gt (blk_lt (g:=gb215) (o:=.cells #[.int .i64 0,.int .i64 0] 82 (0,0)) (bkk BK215)) : gb218 ≠ gb215));replace BK215:=amk (blk_below (g:=gb215) (o:=.cells #[.int .i64 0,.int .i64 0] 82 (0,0)) (bkk BK215) hb);clear hb hbox hg;have hnb17:=NB218_215.out;have hnc17:=NB215_218.out;have hcz18_0 : w16.cell? ⟨gb218,0,none⟩=some (.int .i64 0):=(blk_cell BK218.out 0).trans rfl;have hcz18_1 : w16.cell? ⟨gb218,1,none⟩=some (.int .i64 0):=(blk_cell BK218.out 1).trans rfl;have hfz18_0:=blk_frozen BK218.out 0;have hfz18_1:=blk_frozen BK218.out 1;have p219 : 0≤((ji5) : Int):=of_decide_eq_true ass;have q219 : (ji5) < (l0.length : Int):=of_decide_eq_true ass;obtain ⟨ad219,e219,hx219_0,hx219_1⟩:=at_T30 HR0.out (ji5) p219 q219;obtain rfl : ad216=ad219:=(by injection e219);have hn219_0 : ad216.block ≠ gb218:=Nat.ne_of_lt (Nat.lt_of_lt_of_le (by have:=World.block_lt_of_cell? _ _ hx219_0;first | rwa [add_block] at this | exact this) GW218.out);have hn219_1 : ad216.block ≠ gb218:=Nat.ne_of_lt (Nat.lt_of_lt_of_le (by have:=World.block_lt_of_cell? _ _ hx219_0;first | rwa [add_block] at this | exact this) GW218.out);replace hx219_0:=(HB.out.cell (World.block_lt_of_cell? w _ hx219_0)).trans hx219_0;replace hx219_1:=(HB.out.cell (World.block_lt_of_cell? w _ hx219_1)).trans hx219_1;replace hx219_0:=(cell_far (p:=⟨gb218,0,none⟩) (by first | (rw [add_block];exact hn219_0)|(show (Addr.add _ _).block ≠ _;rw [add_block];exact hn219_0) | exact hn219_0) (.int .i64 ((rd_T30 l0 x5_1).f0))).trans hx219_0;replace hx219_1:=(cell_far (p:=⟨gb218,0,none⟩) (by first | (rw [add_block];exact hn219_0)|(show (Addr.add _ _).block ≠ _;rw [add_block];exact hn219_0) | exact hn219_0) (.int .i64 ((rd_T30 l0 x5_1).f0))).trans hx219_1;replace hx219_0:=(cell_far (p:=⟨gb218,1,none⟩) (by first | (rw [add_block];exact hn219_1)|(show (Addr.add _ _).block ≠ _;rw [add_block];exact hn219_1) | exact hn219_1) (.int .i64 ((rd_T30 l0 x5_1).f1))).trans hx219_0;replace hx219_1:=(cell_far (p:=⟨gb218,1,none⟩) (by first | (rw [add_block];exact hn219_1)|(show (Addr.add _ _).block ≠ _;rw [add_block];exact hn219_1) | exact hn219_1) (.int .i64 ((rd_T30 l0 x5_1).f1))).trans hx219_1;clear hn219_0;clear hn219_1;replace p219:=eq_true p219;replace q219:=eq_true q219)|((with_reducible refine gate_dst (N:=7) rfl ?_);refine box_event ?hg (N:=7) ?hd (cs:=#[.int .i64 0,.int .i64 0]) (t:=30) ?hr ?_;(case hd=>rfl);(case hg=>rfl);(case hr=>first | (go_simp;done)|(go_simp;rfl));intro gb220 hg w19 hbox hb;have BK220:=amk (hbox);have GW220:=amk ((by rw [hg];exact (below_size (bel2 HB GE215.out GE218.out)) : w.heap.size≤gb220));have GE220:=amk ((by rw [hg];exact (below_size (bel2 HB GE215.out GE218.out)) : w.heap.size≤gb220));replace HB:=amk (below_step (bel2 HB GE215.out GE218.out) hb);have NB215_220:=amk ((by rw [hg];exact Nat.ne_of_lt (blk_lt (g:=gb215) (o:=.cells #[.int .i64 0,.int .i64 0] 82 (0,0)) (by (with_reducible repeat (first | refine blk_drewN ?_ _ | refine blk_drew ?_ | refine blk_alloc ?_ _));refine blk_far ?_ NB215_218.out _;(with_reducible repeat (first | refine blk_drewN ?_ _ | refine blk_drew ?_ | refine blk_alloc ?_ _));refine blk_far ?_ NB215_218.out _;(with_reducible repeat (first | refine blk_drewN ?_ _ | refine blk_drew ?_ | refine blk_alloc ?_ _));exact BK215.out)) : gb215 ≠ gb220));have NB220_215:=amk ((by rw [hg];exact Nat.ne_of_gt (blk_lt (g:=gb215) (o:=.cells #[.int .i64 0,.int .i64 0] 82 (0,0)) (by (with_reducible repeat (first | refine blk_drewN ?_ _ | refine blk_drew ?_ | refine blk_alloc ?_ _));refine blk_far ?_ NB215_218.out _;(with_reducible repeat (first | refine blk_drewN ?_ _ | refine blk_drew ?_ | refine blk_alloc ?_ _));refine blk_far ?_ NB215_218.out _;(with_reducible repeat (first | refine blk_drewN ?_ _ | refine blk_drew ?_ | refine blk_alloc ?_ _));exact BK215.out)) : gb220 ≠ gb215));replace BK215:=amk (blk_below (g:=gb215) (o:=.cells #[.int .i64 0,.int .i64 0] 82 (0,0)) (by (with_reducible repeat (first | refine blk_drewN ?_ _ | refine blk_drew ?_ | refine blk_alloc ?_ _));refine blk_far ?_ NB215_218.out _;(with_reducible repeat (first | refine blk_drewN ?_ _ | refine blk_drew ?_ | refine blk_alloc ?_ _));refine blk_far ?_ NB215_218.out _;(with_reducible repeat (first | refine blk_drewN ?_ _ | refine blk_drew ?_ | refine blk_alloc ?_ _));exact BK215.out) hb);have NB218_220:=amk ((by rw [hg];exact Nat.ne_of_lt (blk_lt (g:=gb218) (o:=.cells #[.int .i64 ((rd_T30 l0 x5_1).f0),.int .i64 ((rd_T30 l0 x5_1).f1)] 30 (0,0)) (by (with_reducible repeat (first | refine blk_drewN ?_ _ | refine blk_drew ?_ | refine blk_alloc ?_ _));refine blk_put (cs:=#[.int .i64 ((rd_T30 l0 x5_1).f0),.int .i64 0]) ?_ 1 _ rfl;(with_reducible repeat (first | refine blk_drewN ?_ _ | refine blk_drew ?_ | refine blk_alloc ?_ _));refine blk_put (cs:=#[.int .i64 0,.int .i64 0]) ?_ 0 _ rfl;(with_reducible repeat (first | refine blk_drewN ?_ _ | refine blk_drew ?_ | refine blk_alloc ?_ _));exact BK218.out)) : gb218 ≠ gb220));have NB220_218:=amk ((by rw [hg];exact Nat.ne_of_gt (blk_lt (g:=gb218) (o:=.cells #[.int .i64 ((rd_T30 l0 x5_1).f0),.int .i64 ((rd_T30 l0 x5_1).f1)] 30 (0,0)) (by (with_reducible repeat (first | refine blk_drewN ?_ _ | refine blk_drew ?_ | refine blk_alloc ?_ _));refine blk_put (cs:=#[.int .i64 ((rd_T30 l0 x5_1).f0),.int .i64 0]) ?_ 1 _ rfl;(with_reducible repeat (first | refine blk_drewN ?_ _ | refine blk_drew ?_ | refine blk_alloc ?_ _));refine blk_put (cs:=#[.int .i64 0,.int .i64 0]) ?_ 0 _ rfl;(with_reducible repeat (first | refine blk_drewN ?_ _ | refine blk_drew ?_ | refine blk_alloc ?_ _));exact BK218.out)) : gb220 ≠ gb218));replace BK218:=amk (blk_below (g:=gb218) (o:=.cells #[.int .i64 ((rd_T30 l0 x5_1).f0),.int .i64 ((rd_T30 l0 x5_1).f1)] 30 (0,0)) (by (with_reducible repeat (first | refine blk_drewN ?_ _ | refine blk_drew ?_ | refine blk_alloc ?_ _));refine blk_put (cs:=#[.int .i64 ((rd_T30 l0 x5_1).f0),.int .i64 0]) ?_ 1 _ rfl;(with_reducible repeat (first | refine blk_drewN ?_ _ | refine blk_drew ?_ | refine blk_alloc ?_ _));refine blk_put (cs:=#[.int .i64 0,.int .i64 0]) ?_ 0 _ rfl;(with_reducible repeat (first | refine blk_drewN ?_ _ | refine blk_drew ?_ | refine blk_alloc ?_ _));exact BK218.out) hb);clear hb hbox hg;have hnb20:=NB220_215.out;have hnc20:=NB215_220.out;have hnb21:=NB220_218.out;have hnc21:=NB218_220.out;have hcz22_0 : w19.cell? ⟨gb220,0,none⟩=some (.int .i64 0):=(blk_cell BK220.out 0).trans rfl;have hcz22_1 : w19.cell? ⟨gb220,1,none⟩=some (.int .i64 0):=(blk_cell BK220.out 1).trans rfl;have hfz22_0:=blk_frozen BK220.out 0;have hfz22_1:=blk_frozen BK220.out 1;have hcz23_0 : w19.cell? ⟨gb218,0,none⟩=some (.int .i64 ((rd_T30 l0 x5_1).f0)):=(blk_cell BK218.out 0).trans rfl;have hcz23_1 : w19.cell? ⟨gb218,1,none⟩=some (.int .i64 ((rd_T30 l0 x5_1).f1)):=(blk_cell BK218.out 1).trans rfl;have hfz23_0:=blk_frozen BK218.out 0;have hfz23_1:=blk_frozen BK218.out 1)|((with_reducible refine gate_callee (f:=54) rfl ?_);refine goesL_ (some 64) rfl rfl Try.func54 (by kernel_rfl) rfl #[.int .i64 (wrap64 ((wrap64 (((rd_T30 l0 x5_1).f1) * (wrap64 (((rd_T30 l0 (ji5)).f0) - a1)))) + (wrap64 (((rd_T30 l0 (ji5)).f1) * (wrap64 (a1 - ((rd_T30 l0 x5_1).f0))))))),.int .i64 (wrap64 (((rd_T30 l0 (ji5)).f0) - ((rd_T30 l0 x5_1).f0)))] rfl (by (try simp only [List.map_toArray,List.map_cons,List.map_nil]);first | done | (simp only [hji5];rfl) | rfl | (simp only [List.length_drop,List.length_take];rfl)) ?_;(with_reducible refine (impl_reduced.calls k1 (wrap64 ((wrap64 (((rd_T30 l0 x5_1).f1) * (wrap64 (((rd_T30 l0 (ji5)).f0) - a1)))) + (wrap64 (((rd_T30 l0 (ji5)).f1) * (wrap64 (a1 - ((rd_T30 l0 x5_1).f0))))))) (wrap64 (((rd_T30 l0 (ji5)).f0) - ((rd_T30 l0 x5_1).f0))) t221 t222 _ A15.out).mono ?_);rintro e w24 ⟨rfl,hb⟩;refine ⟨_,rfl,?_⟩;replace BK215:=amk (blk_below (g:=gb215) (o:=.cells #[.int .i64 0,.int .i64 0] 82 (0,0)) (by (with_reducible repeat (first | refine blk_drewN ?_ _ | refine blk_drew ?_ | refine blk_alloc ?_ _));refine blk_far ?_ NB215_220.out _;(with_reducible repeat (first | refine blk_drewN ?_ _ | refine blk_drew ?_ | refine blk_alloc ?_ _));refine blk_far ?_ NB215_220.out _;(with_reducible repeat (first | refine blk_drewN ?_ _ | refine blk_drew ?_ | refine blk_alloc ?_ _));exact BK215.out) hb);replace BK218:=amk (blk_below (g:=gb218) (o:=.cells #[.int .i64 ((rd_T30 l0 x5_1).f0),.int .i64 ((rd_T30 l0 x5_1).f1)] 30 (0,0)) (by (with_reducible repeat (first | refine blk_drewN ?_ _ | refine blk_drew ?_ | refine blk_alloc ?_ _));refine blk_far ?_ NB218_220.out _;(with_reducible repeat (first | refine blk_drewN ?_ _ | refine blk_drew ?_ | refine blk_alloc ?_ _));refine blk_far ?_ NB218_220.out _;(with_reducible repeat (first | refine blk_drewN ?_ _ | refine blk_drew ?_ | refine blk_alloc ?_ _));exact BK218.out) hb);replace BK220:=amk (blk_below (g:=gb220) (o:=.cells #[.int .i64 ((rd_T30 l0 (ji5)).f0),.int .i64 ((rd_T30 l0 (ji5)).f1)] 30 (0,0)) (by (with_reducible repeat (first | refine blk_drewN ?_ _ | refine blk_drew ?_ | refine blk_alloc ?_ _));refine blk_put (cs:=#[.int .i64 ((rd_T30 l0 (ji5)).f0),.int .i64 0]) ?_ 1 _ rfl;(with_reducible repeat (first | refine blk_drewN ?_ _ | refine blk_drew ?_ | refine blk_alloc ?_ _));refine blk_put (cs:=#[.int .i64 0,.int .i64 0]) ?_ 0 _ rfl;(with_reducible repeat (first | refine blk_drewN ?_ _ | refine blk_drew ?_ | refine blk_alloc ?_ _));exact BK220.out) hb);replace HB:=amk (below_step (bel3 HB GE215.out GE218.out GE220.out) hb);(try clear hb);have hcz25_0 : w24.cell? ⟨gb215,0,none⟩=some (.int .i64 0):=(blk_cell BK215.out 0).trans rfl;have hcz25_1 : w24.cell? ⟨gb215,1,none⟩=some (.int .i64 0):=(blk_cell BK215.out 1).trans rfl;have hfz25_0:=blk_frozen BK215.out 0;have hfz25_1:=blk_frozen BK215.out 1))
         refine bodyPost_ret (results_cell_row rfl _ _ gb215 82 #[.int .i64 t221,.int .i64 t222] (0,0) _ rfl (by (with_reducible repeat (first | refine blk_drewN ?_ _ | refine blk_drew ?_ | refine blk_alloc ?_ _));refine blk_put (cs:=#[.int .i64 t221,.int .i64 0]) ?_ 1 _ rfl;(with_reducible repeat (first | refine blk_drewN ?_ _ | refine blk_drew ?_ | refine blk_alloc ?_ _));refine blk_put (cs:=#[.int .i64 0,.int .i64 0]) ?_ 0 _ rfl;(with_reducible repeat (first | refine blk_drewN ?_ _ | refine blk_drew ?_ | refine blk_alloc ?_ _));exact BK215.out) Try.underlying82 rfl (by kernel_rfl)) rfl ?_
         exact ⟨by first | rfl | (simp [errW_none,errW_some] <;> rfl)|(simp only [← hji5];first | rfl | (simp [errW_none,errW_some] <;> rfl))|(simp [*,errW_none,errW_some] <;> rfl),bel3 HB GE215.out GE218.out GE220.out⟩
       ·rw [if_neg c9] at H
        exact absurd H (by simp)
      ·rw [if_neg c8] at H
       exact absurd H (by simp)
    ·rw [if_neg c6] at H
     exact absurd H (by simp)
   ·rw [if_neg c4] at H
    have c4b0 : decide ((wrap64 (x5_1 + 1)) < (l0.length : Int))=false:=decide_eq_false c4
    clear c4
    by_cases c26 : 0≤x5_1
    ·rw [if_pos c26] at H
     have c26b0 : decide (0≤x5_1)=true:=decide_eq_true c26
     clear c26
     by_cases c27 : x5_1 < (l0.length : Int)
     ·rw [if_pos c27] at H
      have c27b0 : decide (x5_1 < (l0.length : Int))=true:=decide_eq_true c27
      clear c27
      by_cases c28 : ((rd_T30 l0 x5_1).f0)=a1
      ·rw [if_pos c28] at H
       have c28b0 : (((rd_T30 l0 x5_1).f0) == a1)=true:=beq_iff_eq.mpr c28
       have c28b1 : (((rd_T30 l0 x5_1).f0) != a1)=false:=bne_eq_false_iff_eq.mpr c28
       clear c28
       simp only [Option.some.injEq,Prod.mk.injEq] at H
       obtain ⟨rfl,rfl⟩:=H
       have p223 : 0≤(x5_1 : Int):=of_decide_eq_true ass
       have q223 : x5_1 < (l0.length : Int):=of_decide_eq_true ass
       obtain ⟨ad223,e223,hx223_0,hx223_1⟩:=at_T30 HR0.out x5_1 p223 q223
       cases e223
       replace hx223_0:=(HB.out.cell (World.block_lt_of_cell? w _ hx223_0)).trans hx223_0
       replace hx223_1:=(HB.out.cell (World.block_lt_of_cell? w _ hx223_1)).trans hx223_1
       replace p223:=eq_true p223
       replace q223:=eq_true q223
       go_wp2_with (first | ((with_reducible refine gate_dst (N:=6) rfl ?_);refine box_event ?hg (N:=6) ?hd (cs:=#[.int .i64 0,.int .i64 0]) (t:=30) ?hr ?_;(case hd=>rfl);(case hg=>rfl);(case hr=>first | (go_simp;done)|(go_simp;rfl));intro gb224 hg w29 hbox hb;have BK224:=amk (hbox);have GW224:=amk ((by rw [hg];exact (below_size (bel1 HB GE215.out)) : w.heap.size≤gb224));have GE224:=amk ((by rw [hg];exact (below_size (bel1 HB GE215.out)) : w.heap.size≤gb224));replace HB:=amk (below_step (bel1 HB GE215.out) hb);have NB215_224:=amk ((by rw [hg];exact Nat.ne_of_lt (blk_lt (g:=gb215) (o:=.cells #[.int .i64 0,.int .i64 0] 82 (0,0)) (bkk BK215)) : gb215 ≠ gb224));have NB224_215:=amk ((by rw [hg];exact Nat.ne_of_gt (blk_lt (g:=gb215) (o:=.cells #[.int .i64 0,.int .i64 0] 82 (0,0)) (bkk BK215)) : gb224 ≠ gb215));replace BK215:=amk (blk_below (g:=gb215) (o:=.cells #[.int .i64 0,.int .i64 0] 82 (0,0)) (bkk BK215) hb);clear hb hbox hg;have hnb30:=NB224_215.out;have hnc30:=NB215_224.out;have hcz31_0 : w29.cell? ⟨gb224,0,none⟩=some (.int .i64 0):=(blk_cell BK224.out 0).trans rfl;have hcz31_1 : w29.cell? ⟨gb224,1,none⟩=some (.int .i64 0):=(blk_cell BK224.out 1).trans rfl;have hfz31_0:=blk_frozen BK224.out 0;have hfz31_1:=blk_frozen BK224.out 1;have hcz32_0 : w29.cell? ⟨gb215,0,none⟩=some (.int .i64 0):=(blk_cell BK215.out 0).trans rfl;have hcz32_1 : w29.cell? ⟨gb215,1,none⟩=some (.int .i64 0):=(blk_cell BK215.out 1).trans rfl;have hfz32_0:=blk_frozen BK215.out 0;have hfz32_1:=blk_frozen BK215.out 1))
       refine bodyPost_ret (results_cell_row rfl _ _ gb215 82 #[.int .i64 ((rd_T30 l0 x5_1).f1),.int .i64 1] (0,0) _ rfl (by (with_reducible repeat (first | refine blk_drewN ?_ _ | refine blk_drew ?_ | refine blk_alloc ?_ _));refine blk_put (cs:=#[.int .i64 ((rd_T30 l0 x5_1).f1),.int .i64 0]) ?_ 1 _ rfl;(with_reducible repeat (first | refine blk_drewN ?_ _ | refine blk_drew ?_ | refine blk_alloc ?_ _));refine blk_put (cs:=#[.int .i64 0,.int .i64 0]) ?_ 0 _ rfl;(with_reducible repeat (first | refine blk_drewN ?_ _ | refine blk_drew ?_ | refine blk_alloc ?_ _));refine blk_far ?_ NB215_224.out _;(with_reducible repeat (first | refine blk_drewN ?_ _ | refine blk_drew ?_ | refine blk_alloc ?_ _));refine blk_far ?_ NB215_224.out _;(with_reducible repeat (first | refine blk_drewN ?_ _ | refine blk_drew ?_ | refine blk_alloc ?_ _));exact BK215.out) Try.underlying82 rfl (by kernel_rfl)) rfl ?_
       exact ⟨erw0,bel2 HB GE215.out GE224.out⟩
      ·rw [if_neg c28] at H
       have c28b0 : (((rd_T30 l0 x5_1).f0) == a1)=false:=beq_eq_false_iff_ne.mpr c28
       have c28b1 : (((rd_T30 l0 x5_1).f0) != a1)=true:=bne_iff_ne.mpr c28
       obtain ⟨ji33,hji33⟩ : ∃ j_ : Int,(wrap64 (x5_1 + 1))=j_:=⟨_,rfl⟩
       replace H : (if 0≤(ji33) then (none) else (none))=some (r1,r2):=by first | (rw [hji33] at H;exact H)|(simp only [hji33] at H ⊢;exact H)
       (try rw [hji33] at c4b0)
       have hji33w : (IntKind.i64.wrap (x5_1 + 1))=ji33:=(i64_w _).trans hji33
       by_cases c34 : 0≤(ji33)
       ·rw [if_pos c34] at H
        exact absurd H (by simp)
       ·rw [if_neg c34] at H
        exact absurd H (by simp)
     ·rw [if_neg c27] at H
      exact absurd H (by simp)
    ·rw [if_neg c26] at H
     exact absurd H (by simp)
def impl_Sump_open.f (k : Nat) (a0_0 : Int) (a0_1 : Int) (a0_2 : Int) (l1 : List (S30)) (a2 : Int) : Option (Bool):=(impl_levelIn.f k l1 a2).bind fun bt399=>(some (decide (bt399.1≤(wrap64 (a0_2 * bt399.2)))))
theorem impl_Sump_open.mono : ∀ a0 a1 a2 a3 a4 k,LeO (impl_Sump_open.f k a0 a1 a2 a3 a4) (impl_Sump_open.f (k + 1) a0 a1 a2 a3 a4):=by
 intro a0 a1 a2 a3 a4 k
 unfold impl_Sump_open.f
 repeat' first
   | (with_reducible exact impl_levelIn.mono _ _ _)
   | (with_reducible exact LeO.refl _)
   | (with_reducible exact LeO.none _)
   | (with_reducible refine LeO.ite ?_ ?_)
   | (with_reducible refine LeO.bind ?_ (fun _=>?_))
set_option maxHeartbeats 8000000 in
set_option maxRecDepth 100000 in
theorem impl_Sump_open.calls (k : Nat) (a0_0 : Int) (a0_1 : Int) (a0_2 : Int) (A1 : Option Addr) (c1 : Nat) (l1 : List (S30)) (a2 : Int) (r : Bool) (w : World) (hr1 : Kd.C k30 w A1 l1.length l1) (hc1 : l1.length≤c1) (h : impl_Sump_open.f k a0_0 a0_1 a0_2 l1 a2=some r) :
  Calls Try.prog 66 #[.agg #[.int .i64 a0_0,.int .i64 a0_1,.int .i64 a0_2],.slice A1 l1.length c1,.int .i64 a2] w fun e w'=>e = .returned (.bool r)∧Below w.heap.size w w':=by
 have hu44:=Try.underlying44
 have hu82:=Try.underlying82
 have HR1:=amk hr1
 have HC1:=amk hc1
 clear hr1 hc1
 have HB:=amk (Below.refl w.heap.size w)
 have H : ((impl_levelIn.f k l1 a2).bind fun bt399=>(some (decide (bt399.1≤(wrap64 (a0_2 * bt399.2))))))=some r:=h
 clear h
 replace H:=obs H
 obtain ⟨⟨t399,t400⟩,A40,H⟩:=H
 replace H : (some (decide (t399≤(wrap64 (a0_2 * t400)))))=some r:=H
 have A4:=amk A40
 clear A40
 obtain rfl:=Option.some.inj H
 go_enter Try.func66,Try.ntmps66
 go_wp2_with (first | ((with_reducible refine gate_dst (N:=3) rfl ?_);refine box_event ?hg (N:=3) ?hd (cs:=#[.int .i64 a0_0,.int .i64 a0_1,.int .i64 a0_2]) (t:=44) ?hr ?_;(case hd=>rfl);(case hg=>rfl);(case hr=>first | (go_simp;done)|(go_simp;rfl));intro gb398 hg w5 hbox hb;have BK398:=amk (hbox);have GW398:=amk ((by rw [hg];exact (below_size (bel HB)) : w.heap.size≤gb398));have GE398:=amk ((by rw [hg];exact (below_size (bel HB)) : w.heap.size≤gb398));replace HB:=amk (below_step (bel HB) hb);clear hb hbox hg)|((with_reducible refine gate_callee (f:=50) rfl ?_);refine goesL_ (some 10) rfl rfl Try.func50 (by kernel_rfl) rfl #[.slice A1 l1.length c1,.int .i64 a2] rfl mtt ?_;(with_reducible refine (impl_levelIn.calls k _ _ l1 a2 t399 t400 _ ?side1 ?side2 A4.out).mono ?_);(case side1=>exact ccc (Kd.C_below HR1.out HB.out));(case side2=>exact HC1.out);rintro e w6 ⟨rfl,hb⟩;refine ⟨_,rfl,?_⟩;replace BK398:=amk (blk_below (g:=gb398) (o:=.cells #[.int .i64 a0_0,.int .i64 a0_1,.int .i64 a0_2] 44 (0,0)) (bkk BK398) hb);replace HB:=amk (below_step (bel1 HB GE398.out) hb);(try clear hb))|((with_reducible refine gate_dst (N:=7) rfl ?_);refine box_event ?hg (N:=7) ?hd (cs:=#[.int .i64 0,.int .i64 0]) (t:=82) ?hr ?_;(case hd=>rfl);(case hg=>rfl);(case hr=>first | (go_simp;done)|(go_simp;rfl));intro gb401 hg w7 hbox hb;have BK401:=amk (hbox);have GW401:=amk ((by rw [hg];exact (below_size (bel1 HB GE398.out)) : w.heap.size≤gb401));have GE401:=amk ((by rw [hg];exact (below_size (bel1 HB GE398.out)) : w.heap.size≤gb401));replace HB:=amk (below_step (bel1 HB GE398.out) hb);have NB398_401:=amk ((by rw [hg];exact Nat.ne_of_lt (blk_lt (g:=gb398) (o:=.cells #[.int .i64 a0_0,.int .i64 a0_1,.int .i64 a0_2] 44 (0,0)) (bkk BK398)) : gb398 ≠ gb401));have NB401_398:=amk ((by rw [hg];exact Nat.ne_of_gt (blk_lt (g:=gb398) (o:=.cells #[.int .i64 a0_0,.int .i64 a0_1,.int .i64 a0_2] 44 (0,0)) (bkk BK398)) : gb401 ≠ gb398));replace BK398:=amk (blk_below (g:=gb398) (o:=.cells #[.int .i64 a0_0,.int .i64 a0_1,.int .i64 a0_2] 44 (0,0)) (bkk BK398) hb);clear hb hbox hg;have hnb8:=NB401_398.out;have hnc8:=NB398_401.out;have hcz9_0 : w7.cell? ⟨gb401,0,none⟩=some (.int .i64 0):=(blk_cell BK401.out 0).trans rfl;have hcz9_1 : w7.cell? ⟨gb401,1,none⟩=some (.int .i64 0):=(blk_cell BK401.out 1).trans rfl;have hfz9_0:=blk_frozen BK401.out 0;have hfz9_1:=blk_frozen BK401.out 1;have hcz10_0 : w7.cell? ⟨gb398,0,none⟩=some (.int .i64 a0_0):=(blk_cell BK398.out 0).trans rfl;have hcz10_1 : w7.cell? ⟨gb398,1,none⟩=some (.int .i64 a0_1):=(blk_cell BK398.out 1).trans rfl;have hcz10_2 : w7.cell? ⟨gb398,2,none⟩=some (.int .i64 a0_2):=(blk_cell BK398.out 2).trans rfl;have hfz10_0:=blk_frozen BK398.out 0;have hfz10_1:=blk_frozen BK398.out 1;have hfz10_2:=blk_frozen BK398.out 2))
 go_ret
 exact ⟨erw0,bel2 HB GE398.out GE401.out⟩
def impl_OpenSpans_1.f (k : Nat) (a0 : Int) (a1_0 : Int) (a1_1 : Int) (a1_2 : Int) (l2_0 : List (S30)) : Option (Bool):=(impl_Sump_open.f k a1_0 a1_1 a1_2 l2_0 a0).bind fun t402=>(some t402)
theorem impl_OpenSpans_1.mono : ∀ a0 a1 a2 a3 a4 k,LeO (impl_OpenSpans_1.f k a0 a1 a2 a3 a4) (impl_OpenSpans_1.f (k + 1) a0 a1 a2 a3 a4):=by
 intro a0 a1 a2 a3 a4 k
 unfold impl_OpenSpans_1.f
 repeat' first
   | (with_reducible exact impl_Sump_open.mono _ _ _ _ _ _)
   | (with_reducible exact LeO.refl _)
   | (with_reducible exact LeO.none _)
   | (with_reducible refine LeO.ite ?_ ?_)
   | (with_reducible refine LeO.bind ?_ (fun _=>?_))
set_option maxHeartbeats 8000000 in
set_option maxRecDepth 100000 in
theorem impl_OpenSpans_1.calls (k : Nat) (a0 : Int) (gc1_ : Nat) (a1_0 : Int) (a1_1 : Int) (a1_2 : Int) (gc2_ : Nat) (A2_0 : Option Addr) (c2_0 : Nat) (l2_0 : List (S30)) (r : Bool) (w : World) (hk1 : w.heap[gc1_]? = some (.cells #[.int .i64 a1_0,.int .i64 a1_1,.int .i64 a1_2] 44 (0,0))) (hr2_0 : Kd.C k30 w A2_0 l2_0.length l2_0) (hc2_0 : l2_0.length≤c2_0) (hk2 : w.heap[gc2_]? = some (.cells #[.slice A2_0 l2_0.length c2_0] 24 (0,0))) (h : impl_OpenSpans_1.f k a0 a1_0 a1_1 a1_2 l2_0=some r) :
  Calls Try.prog 65 #[.int .i64 a0,.pointer (some ⟨gc1_,0,none⟩),.pointer (some ⟨gc2_,0,none⟩)] w fun e w'=>e = .returned (.bool r)∧Below w.heap.size w w':=by
 have hu44:=Try.underlying44
 have HR2_0:=amk hr2_0
 have HC2_0:=amk hc2_0
 clear hr2_0 hc2_0
 have BK1:=amk hk1
 clear hk1
 have BK2:=amk hk2
 clear hk2
 have HB:=amk (Below.refl w.heap.size w)
 have H : ((impl_Sump_open.f k a1_0 a1_1 a1_2 l2_0 a0).bind fun t402=>(some t402))=some r:=h
 clear h
 replace H:=obs H
 obtain ⟨t402,A40,H⟩:=H
 replace H : (some t402)=some r:=H
 have A4:=amk A40
 clear A40
 obtain rfl:=Option.some.inj H
 have hcz5_0 : w.cell? ⟨gc1_,0,none⟩=some (.int .i64 a1_0):=(blk_cell BK1.out 0).trans rfl
 have hcz5_1 : w.cell? ⟨gc1_,1,none⟩=some (.int .i64 a1_1):=(blk_cell BK1.out 1).trans rfl
 have hcz5_2 : w.cell? ⟨gc1_,2,none⟩=some (.int .i64 a1_2):=(blk_cell BK1.out 2).trans rfl
 have hfz5_0:=blk_frozen BK1.out 0
 have hfz5_1:=blk_frozen BK1.out 1
 have hfz5_2:=blk_frozen BK1.out 2
 have hcz6_0 : w.cell? ⟨gc2_,0,none⟩=some (.slice A2_0 l2_0.length c2_0):=(blk_cell BK2.out 0).trans rfl
 have hfz6_0:=blk_frozen BK2.out 0
 go_enter Try.func65,Try.ntmps65
 go_wp2_with (first | ((with_reducible refine gate_callee (f:=66) rfl ?_);refine goesL_ (some 8) rfl rfl Try.func66 (by kernel_rfl) rfl #[.agg #[.int .i64 a1_0,.int .i64 a1_1,.int .i64 a1_2],.slice A2_0 l2_0.length c2_0,.int .i64 a0] rfl mtt ?_;(with_reducible refine (impl_Sump_open.calls k a1_0 a1_1 a1_2 _ _ l2_0 a0 t402 _ ?side1 ?side2 A4.out).mono ?_);(case side1=>exact ccc HR2_0.out);(case side2=>exact HC2_0.out);rintro e w7 ⟨rfl,hb⟩;refine ⟨_,rfl,?_⟩;replace BK1:=amk (blk_below (g:=gc1_) (o:=.cells #[.int .i64 a1_0,.int .i64 a1_1,.int .i64 a1_2] 44 (0,0)) (bkk BK1) hb);replace BK2:=amk (blk_below (g:=gc2_) (o:=.cells #[.slice A2_0 l2_0.length c2_0] 24 (0,0)) (bkk BK2) hb);replace HB:=amk (below_step (bel HB) hb);(try clear hb)))
 go_ret
 exact ⟨erw0,bel HB⟩
def impl_OpenSpans.j0 : Nat→Bool→List (S30)→Int→Int→Int→Option ((List (List Int)) × Bool)
 | 0,_,_,_,_,_=>none
 | k + 1,x15,x404000,x405000,x405001,x405002=>if x15=true then (some (([] : List (List Int)),false)) else ((impl_hours.f x404000).bind fun bt407=>((impl_spans.f k bt407.1 bt407.2 (fun x_ : Int=>impl_OpenSpans_1.f k x_ x405000 x405001 x405002 x404000)).bind fun t409=>(some (t409,true))))
def impl_OpenSpans.f (k : Nat) (l0 : List (S30)) (a1_0 : Int) (a1_1 : Int) (a1_2 : Int) : Option ((List (List Int)) × Bool):=(impl_AreReadings.f k l0).bind fun t405=>(if t405=true then ((impl_isSump.f a1_0 a1_1 a1_2).bind fun t406=>(impl_OpenSpans.j0 k (!t406) l0 a1_0 a1_1 a1_2)) else (impl_OpenSpans.j0 k true l0 a1_0 a1_1 a1_2))
theorem impl_OpenSpans.mono_l : ∀ k,(∀ y0 y1 y2 y3 y4,LeO (impl_OpenSpans.j0 k y0 y1 y2 y3 y4) (impl_OpenSpans.j0 (k + 1) y0 y1 y2 y3 y4))
 | 0=>fun _ _ _ _ _ r h=>by simp [impl_OpenSpans.j0] at h
 | k + 1=>by
  have ih0:=impl_OpenSpans.mono_l k
  ·intro y0 y1 y2 y3 y4
   unfold impl_OpenSpans.j0
   repeat' first
   | (with_reducible exact ih0 _ _ _ _ _)
   | (with_reducible exact impl_AreReadings.mono _ _)
   | (with_reducible exact impl_OpenSpans_1.mono _ _ _ _ _ _)
   | (with_reducible exact impl_spans.mono _ _ _ _ _ (fun _=>by first | exact LeO.refl _ | exact impl_OpenSpans_1.mono _ _ _ _ _ _))
   | (with_reducible exact LeO.refl _)
   | (with_reducible exact LeO.none _)
   | (with_reducible refine LeO.ite ?_ ?_)
   | (with_reducible refine LeO.bind ?_ (fun _=>?_))
   | exact ih0 _ _ _ _ _
   | exact impl_spans.mono _ _ _ _ _ (fun _=>by first | exact LeO.refl _ | exact impl_OpenSpans_1.mono _ _ _ _ _ _)
theorem impl_OpenSpans.mono : ∀ a0 a1 a2 a3 k,LeO (impl_OpenSpans.f k a0 a1 a2 a3) (impl_OpenSpans.f (k + 1) a0 a1 a2 a3):=by
 intro a0 a1 a2 a3 k
 have ih0:=impl_OpenSpans.mono_l k
 unfold impl_OpenSpans.f
 repeat' first
   | (with_reducible exact ih0 _ _ _ _ _)
   | (with_reducible exact impl_AreReadings.mono _ _)
   | (with_reducible exact impl_OpenSpans_1.mono _ _ _ _ _ _)
   | (with_reducible exact impl_spans.mono _ _ _ _ _ (fun _=>by first | exact LeO.refl _ | exact impl_OpenSpans_1.mono _ _ _ _ _ _))
   | (with_reducible exact LeO.refl _)
   | (with_reducible exact LeO.none _)
   | (with_reducible refine LeO.ite ?_ ?_)
   | (with_reducible refine LeO.bind ?_ (fun _=>?_))
   | exact ih0 _ _ _ _ _
   | exact impl_spans.mono _ _ _ _ _ (fun _=>by first | exact LeO.refl _ | exact impl_OpenSpans_1.mono _ _ _ _ _ _)
set_option maxHeartbeats 8000000 in
set_option maxRecDepth 100000 in
theorem impl_OpenSpans.calls (k : Nat) (A0 : Option Addr) (c0 : Nat) (l0 : List (S30)) (a1_0 : Int) (a1_1 : Int) (a1_2 : Int) (r1 : List (List Int)) (r2 : Bool) (w : World) (hr0 : Kd.C k30 w A0 l0.length l0) (hc0 : l0.length≤c0) (h : impl_OpenSpans.f k l0 a1_0 a1_1 a1_2=some (r1,r2)) :
  Calls Try.prog 21 #[.slice A0 l0.length c0,.agg #[.int .i64 a1_0,.int .i64 a1_1,.int .i64 a1_2]] w fun e w'=>∃ v0_ : Value,e = .returned (.tuple #[v0_,.bool r2])∧Kd.S (Kd.slice 3 (Kd.int .i64)) 63 w' w.heap.size (fun _=>True) v0_ r1∧Below w.heap.size w w':=by
 have hu44:=Try.underlying44
 have HR0:=amk hr0
 have HC0:=amk hc0
 clear hr0 hc0
 have HB:=amk (Below.refl w.heap.size w)
 have H : ((impl_AreReadings.f k l0).bind fun t405=>(if t405=true then ((impl_isSump.f a1_0 a1_1 a1_2).bind fun t406=>(impl_OpenSpans.j0 k (!t406) l0 a1_0 a1_1 a1_2)) else (impl_OpenSpans.j0 k true l0 a1_0 a1_1 a1_2)))=some (r1,r2):=h
 clear h
 have HC3:=amk H
 clear H
 have hmf_ : ∀ (fn_ : Fn) (first_ cap_ : Array Value) (w_ : World),(Instr.makeFunc fn_ first_ cap_).run Try.prog w_ = .ok (.func fn_ first_ cap_) w_:=fun _ _ _ _=>rfl
 go_enter Try.func21,Try.ntmps21
 go_upto_region 1 with (first | ((with_reducible refine gate_dst (N:=2) rfl ?_);refine box_event ?hg (N:=2) ?hd (cs:=#[.slice A0 l0.length c0]) (t:=24) ?hr ?_;(case hd=>rfl);(case hg=>rfl);(case hr=>first | (go_simp;done)|(go_simp;rfl));intro gb403 hg w4 hbox hb;have BK403:=amk (hbox);have GW403:=amk ((by rw [hg];exact (below_size (bel HB)) : w.heap.size≤gb403));have GE403:=amk ((by rw [hg];exact (below_size (bel HB)) : w.heap.size≤gb403));replace HB:=amk (below_step (bel HB) hb);clear hb hbox hg)|((with_reducible refine gate_dst (N:=3) rfl ?_);refine box_event ?hg (N:=3) ?hd (cs:=#[.int .i64 a1_0,.int .i64 a1_1,.int .i64 a1_2]) (t:=44) ?hr ?_;(case hd=>rfl);(case hg=>rfl);(case hr=>first | (go_simp;done)|(go_simp;rfl));intro gb404 hg w5 hbox hb;have BK404:=amk (hbox);have GW404:=amk ((by rw [hg];exact (below_size (bel1 HB GE403.out)) : w.heap.size≤gb404));have GE404:=amk ((by rw [hg];exact (below_size (bel1 HB GE403.out)) : w.heap.size≤gb404));replace HB:=amk (below_step (bel1 HB GE403.out) hb);have NB403_404:=amk ((by rw [hg];exact Nat.ne_of_lt (blk_lt (g:=gb403) (o:=.cells #[.slice A0 l0.length c0] 24 (0,0)) (bkk BK403)) : gb403 ≠ gb404));have NB404_403:=amk ((by rw [hg];exact Nat.ne_of_gt (blk_lt (g:=gb403) (o:=.cells #[.slice A0 l0.length c0] 24 (0,0)) (bkk BK403)) : gb404 ≠ gb403));replace BK403:=amk (blk_below (g:=gb403) (o:=.cells #[.slice A0 l0.length c0] 24 (0,0)) (bkk BK403) hb);clear hb hbox hg))
 (try simp only [Act.put,List.setIfInBounds_toArray,List.set_cons_zero,List.set_cons_succ])
 go_cut [15] (fun v15 wc=>∃ (kq : Nat) (x15_2 : Bool),v15 = .bool x15_2∧Aside0 (impl_OpenSpans.j0 kq x15_2 l0 a1_0 a1_1 a1_2=some (r1,r2))∧Aside0 (kq≤k)∧Aside0 (wc.heap[gb403]? = some (.cells #[(.slice A0 l0.length c0)] 24 (0,0)))∧Aside0 (wc.heap[gb404]? = some (.cells #[.int .i64 a1_0,.int .i64 a1_1,.int .i64 a1_2] 44 (0,0)))∧Aside0 (Below w.heap.size w wc))
 case first=>
  have H:=HC3.out
  clear HC3
  replace H:=obs H
  obtain ⟨t405,A60,H⟩:=H
  replace H : (if t405=true then ((impl_isSump.f a1_0 a1_1 a1_2).bind fun t406=>(impl_OpenSpans.j0 k (!t406) l0 a1_0 a1_1 a1_2)) else (impl_OpenSpans.j0 k true l0 a1_0 a1_1 a1_2))=some (r1,r2):=H
  have A6:=amk A60
  clear A60
  by_cases c7 : t405=true
  ·subst c7
   have H1 : ((impl_isSump.f a1_0 a1_1 a1_2).bind fun t406=>(impl_OpenSpans.j0 k (!t406) l0 a1_0 a1_1 a1_2))=some (r1,r2):=by rw [if_pos rfl] at H;exact H
   clear H
   have H:=H1
   clear H1
   replace H:=obs H
   obtain ⟨t406,A80,H⟩:=H
   replace H : (impl_OpenSpans.j0 k (!t406) l0 a1_0 a1_1 a1_2)=some (r1,r2):=H
   have A8:=amk A80
   clear A80
   have H':=amk H
   clear H
   have hnb9:=NB403_404.out
   have hnc9:=NB404_403.out
   have hcz10_0 : w5.cell? ⟨gb403,0,none⟩=some (.slice A0 l0.length c0):=(blk_cell BK403.out 0).trans rfl
   have hfz10_0:=blk_frozen BK403.out 0
   go_wp2_with (first | ((with_reducible refine gate_callee (f:=15) rfl ?_);refine goesL_ (some 9) rfl rfl Try.func15 (by kernel_rfl) rfl #[.slice A0 l0.length c0] rfl mtt ?_;(with_reducible refine (impl_AreReadings.calls k _ _ l0 true _ ?side1 ?side2 A6.out).mono ?_);(case side1=>exact ccc (Kd.C_below HR0.out HB.out));(case side2=>exact HC0.out);rintro e w11 ⟨rfl,hb⟩;refine ⟨_,rfl,?_⟩;replace BK403:=amk (blk_below (g:=gb403) (o:=.cells #[.slice A0 l0.length c0] 24 (0,0)) (bkk BK403) hb);replace BK404:=amk (blk_below (g:=gb404) (o:=.cells #[.int .i64 a1_0,.int .i64 a1_1,.int .i64 a1_2] 44 (0,0)) (bkk BK404) hb);replace HB:=amk (below_step (bel2 HB GE403.out GE404.out) hb);(try clear hb);have hcz12_0 : w11.cell? ⟨gb404,0,none⟩=some (.int .i64 a1_0):=(blk_cell BK404.out 0).trans rfl;have hcz12_1 : w11.cell? ⟨gb404,1,none⟩=some (.int .i64 a1_1):=(blk_cell BK404.out 1).trans rfl;have hcz12_2 : w11.cell? ⟨gb404,2,none⟩=some (.int .i64 a1_2):=(blk_cell BK404.out 2).trans rfl;have hfz12_0:=blk_frozen BK404.out 0;have hfz12_1:=blk_frozen BK404.out 1;have hfz12_2:=blk_frozen BK404.out 2)|(go_at_call 62;(with_reducible refine (impl_isSump.calls a1_0 a1_1 a1_2 t406 _ A8.out).mono ?_);rintro e w13 ⟨rfl,hb⟩;replace BK403:=amk (blk_below (g:=gb403) (o:=.cells #[.slice A0 l0.length c0] 24 (0,0)) (bkk BK403) hb);replace BK404:=amk (blk_below (g:=gb404) (o:=.cells #[.int .i64 a1_0,.int .i64 a1_1,.int .i64 a1_2] 44 (0,0)) (bkk BK404) hb);replace HB:=amk (below_step (bel2 HB GE403.out GE404.out) hb);(try clear hb)))
   go_meet
   case rel=>exact ⟨_,(!t406),rsd,H',⟨by first | omega | exact Nat.le_refl _⟩,⟨by (with_reducible repeat (first | refine blk_drewN ?_ _ | refine blk_drew ?_ | refine blk_alloc ?_ _));exact BK403.out⟩,⟨by (with_reducible repeat (first | refine blk_drewN ?_ _ | refine blk_drew ?_ | refine blk_alloc ?_ _));exact BK404.out⟩,⟨bel2 HB GE403.out GE404.out⟩⟩
  ·replace c7:=Bool.eq_false_iff.mpr c7
   subst c7
   have H1 : (impl_OpenSpans.j0 k true l0 a1_0 a1_1 a1_2)=some (r1,r2):=by rw [if_neg (show ¬ (false=true) by decide)] at H;exact H
   clear H
   have H:=H1
   clear H1
   have H':=amk H
   clear H
   have hnb14:=NB403_404.out
   have hnc14:=NB404_403.out
   have hcz15_0 : w5.cell? ⟨gb403,0,none⟩=some (.slice A0 l0.length c0):=(blk_cell BK403.out 0).trans rfl
   have hfz15_0:=blk_frozen BK403.out 0
   go_wp2_with (first | ((with_reducible refine gate_callee (f:=15) rfl ?_);refine goesL_ (some 9) rfl rfl Try.func15 (by kernel_rfl) rfl #[.slice A0 l0.length c0] rfl mtt ?_;(with_reducible refine (impl_AreReadings.calls k _ _ l0 false _ ?side1 ?side2 A6.out).mono ?_);(case side1=>exact ccc (Kd.C_below HR0.out HB.out));(case side2=>exact HC0.out);rintro e w16 ⟨rfl,hb⟩;refine ⟨_,rfl,?_⟩;replace BK403:=amk (blk_below (g:=gb403) (o:=.cells #[.slice A0 l0.length c0] 24 (0,0)) (bkk BK403) hb);replace BK404:=amk (blk_below (g:=gb404) (o:=.cells #[.int .i64 a1_0,.int .i64 a1_1,.int .i64 a1_2] 44 (0,0)) (bkk BK404) hb);replace HB:=amk (below_step (bel2 HB GE403.out GE404.out) hb);(try clear hb)))
   go_meet
   case rel=>exact ⟨_,(true),rsd,H',⟨by first | omega | exact Nat.le_refl _⟩,⟨by (with_reducible repeat (first | refine blk_drewN ?_ _ | refine blk_drew ?_ | refine blk_alloc ?_ _));exact BK403.out⟩,⟨by (with_reducible repeat (first | refine blk_drewN ?_ _ | refine blk_drew ?_ | refine blk_alloc ?_ _));exact BK404.out⟩,⟨bel2 HB GE403.out GE404.out⟩⟩
 case rest=>
  clear HC3
  try clear c1
  try clear c2
  try clear p2
  try clear c7
  try clear c9
  try clear c14
  try clear c15
  try clear hcz10_0
  try clear hcz12_0
  try clear hcz12_1
  try clear hcz12_2
  try clear hcz15_0
  try clear hfz10_0
  try clear hfz12_0
  try clear hfz12_1
  try clear hfz12_2
  try clear hfz15_0
  obtain ⟨kq,x15_2,rfl,HA,HJ2,BK403,BK404,HB⟩:=hcut
  cases kq with
  | zero=>exact absurd HA.out (by simp [impl_OpenSpans.j0])
  | succ kj2=>
   have H:=HA.out
   clear HA
   simp only [impl_OpenSpans.j0] at H
   by_cases c17 : x15_2=true
   ·subst c17
    have H1 : (some (([] : List (List Int)),false))=some (r1,r2):=by rw [if_pos rfl] at H;exact H
    clear H
    have H:=H1
    clear H1
    simp only [Option.some.injEq,Prod.mk.injEq] at H
    obtain ⟨rfl,rfl⟩:=H
    go_wp2
    go_ret2
    exact ⟨_,erw0,by first | exact Kd.S_nil _ _ _ _ _ | exact Kd.N_nil _ _ _ _ _ | exact Kd.V_nil _ _ _ _ _ | exact Kd.Q_nil _ _ _ _ _ | exact Kd.R_nil _ _ _ _ _,bel2 HB GE403.out GE404.out⟩
   ·replace c17:=Bool.eq_false_iff.mpr c17
    subst c17
    have H1 : ((impl_hours.f l0).bind fun bt407=>((impl_spans.f kj2 bt407.1 bt407.2 (fun x_ : Int=>impl_OpenSpans_1.f kj2 x_ a1_0 a1_1 a1_2 l0)).bind fun t409=>(some (t409,true))))=some (r1,r2):=by rw [if_neg (show ¬ (false=true) by decide)] at H;exact H
    clear H
    have H:=H1
    clear H1
    replace H:=obs H
    obtain ⟨⟨t407,t408⟩,A180,H⟩:=H
    replace H : ((impl_spans.f kj2 t407 t408 (fun x_ : Int=>impl_OpenSpans_1.f kj2 x_ a1_0 a1_1 a1_2 l0)).bind fun t409=>(some (t409,true)))=some (r1,r2):=H
    have A18:=amk A180
    clear A180
    replace H:=obs H
    obtain ⟨t409,A190,H⟩:=H
    replace H : (some (t409,true))=some (r1,r2):=H
    have A19:=amk A190
    clear A190
    simp only [Option.some.injEq,Prod.mk.injEq] at H
    obtain ⟨rfl,rfl⟩:=H
    have hnb20:=NB403_404.out
    have hnc20:=NB404_403.out
    have hcz21_0 : wc.cell? ⟨gb403,0,none⟩=some (.slice A0 l0.length c0):=(blk_cell BK403.out 0).trans rfl
    have hfz21_0:=blk_frozen BK403.out 0
    go_wp2_with (first | ((with_reducible refine gate_callee (f:=63) rfl ?_);refine goesL_ (some 18) rfl rfl Try.func63 (by kernel_rfl) rfl #[.slice A0 l0.length c0] rfl mtt ?_;(with_reducible refine (impl_hours.calls _ _ l0 t407 t408 _ ?side1 ?side2 A18.out).mono ?_);(case side1=>exact ccc (Kd.C_below HR0.out HB.out));(case side2=>exact HC0.out);rintro e w' ⟨rfl,⟨nd,rfl⟩⟩;refine ⟨_,rfl,?_⟩)|((with_reducible refine gate_callee (f:=64) rfl ?_);refine goesL_ (some 24) rfl rfl Try.func64 (by kernel_rfl) rfl #[.int .i64 t407,.int .i64 t408,.func (.func 65) #[] #[.pointer (some ⟨gb404,0,none⟩),.pointer (some ⟨gb403,0,none⟩)]] rfl mtt ?_;(with_reducible refine (impl_spans.calls kj2 t407 t408 65 #[.pointer (some ⟨gb404,0,none⟩),.pointer (some ⟨gb403,0,none⟩)] (fun x_ : Int=>impl_OpenSpans_1.f kj2 x_ a1_0 a1_1 a1_2 l0) t409 _ ?side1 ?side2 A19.out).mono ?_);(case side1=>exact enters_fn Try.func65 (by kernel_rfl) rfl);(case side2=>intro W_ x_ b_ hx_ hW_;exact (impl_OpenSpans_1.calls kj2 x_ gb404 a1_0 a1_1 a1_2 gb403 _ _ l0 b_ W_ (blk_below (bkk BK404) hW_) (Kd.C_below (show Kd.C k30 _ _ _ l0 from by repeat (first | exact (Kd.C_below HR0.out (bel2 HB GE403.out GE404.out))|(with_reducible refine Kd.C_alloc ?_ _)|(with_reducible refine Kd.C_drewN ?_ _)|(with_reducible refine Kd.C_drew ?_))) hW_) (by exact HC0.out) (blk_below (bkk BK403) hW_) hx_).mono (fun _ _ h_=>⟨h_.1,h_.2⟩));rintro e w22 ⟨v410,rfl,ho0,hb⟩;refine ⟨_,rfl,?_⟩;have HO411:=amk (Kd.S_lower ho0 (below_size (bel2 HB GE403.out GE404.out)));replace BK403:=amk (blk_below (g:=gb403) (o:=.cells #[.slice A0 l0.length c0] 24 (0,0)) (bkk BK403) hb);replace BK404:=amk (blk_below (g:=gb404) (o:=.cells #[.int .i64 a1_0,.int .i64 a1_1,.int .i64 a1_2] 44 (0,0)) (bkk BK404) hb);replace HB:=amk (below_step (bel2 HB GE403.out GE404.out) hb);(try clear hb ho0)))
    go_ret2
    exact ⟨_,erw0,sss HO411,bel2 HB GE403.out GE404.out⟩
def laws_eqIntS.l0 : Nat→List Int→List Int→Int→Option (Bool)
 | 0,_,_,_=>none
 | k + 1,x0,x1,x5=>if x5 < (x0.length : Int) then (if 0≤x5 then (if x5 < (x1.length : Int) then (if (rd x0 x5)=(rd x1 x5) then (laws_eqIntS.l0 k x0 x1 (wrap64 (x5 + 1))) else (some false)) else (none)) else (none)) else (some true)
def laws_eqIntS.f (k : Nat) (l0 : List Int) (l1 : List Int) : Option (Bool):=if (l0.length : Int)=(l1.length : Int) then (laws_eqIntS.l0 k l0 l1 0) else (some false)
theorem laws_eqIntS.mono_l : ∀ k,(∀ y0 y1 y2,LeO (laws_eqIntS.l0 k y0 y1 y2) (laws_eqIntS.l0 (k + 1) y0 y1 y2))
 | 0=>fun _ _ _ r h=>by simp [laws_eqIntS.l0] at h
 | k + 1=>by
  have ih0:=laws_eqIntS.mono_l k
  ·intro y0 y1 y2
   unfold laws_eqIntS.l0
   repeat' first
   | (with_reducible exact ih0 _ _ _)
   | (with_reducible exact LeO.refl _)
   | (with_reducible exact LeO.none _)
   | (with_reducible refine LeO.ite ?_ ?_)
   | (with_reducible refine LeO.bind ?_ (fun _=>?_))
   | exact ih0 _ _ _
theorem laws_eqIntS.mono : ∀ a0 a1 k,LeO (laws_eqIntS.f k a0 a1) (laws_eqIntS.f (k + 1) a0 a1):=by
 intro a0 a1 k
 have ih0:=laws_eqIntS.mono_l k
 unfold laws_eqIntS.f
 repeat' first
   | (with_reducible exact ih0 _ _ _)
   | (with_reducible exact LeO.refl _)
   | (with_reducible exact LeO.none _)
   | (with_reducible refine LeO.ite ?_ ?_)
   | (with_reducible refine LeO.bind ?_ (fun _=>?_))
   | exact ih0 _ _ _
set_option maxHeartbeats 8000000 in
set_option maxRecDepth 100000 in
theorem laws_eqIntS.calls (k : Nat) (A0 : Option Addr) (c0 : Nat) (l0 : List Int) (A1 : Option Addr) (c1 : Nat) (l1 : List Int) (r : Bool) (w : World) (hr0 : Kd.C (Kd.int .i64) w A0 l0.length l0) (hc0 : l0.length≤c0) (hr1 : Kd.C (Kd.int .i64) w A1 l1.length l1) (hc1 : l1.length≤c1) (h : laws_eqIntS.f k l0 l1=some r) :
  Calls Try.prog 67 #[.slice A0 l0.length c0,.slice A1 l1.length c1] w fun e w'=>e = .returned (.bool r)∧Drawn0 w w':=by
 have HR0:=amk hr0
 have HC0:=amk hc0
 clear hr0 hc0
 have HR1:=amk hr1
 have HC1:=amk hc1
 clear hr1 hc1
 have H : (if (l0.length : Int)=(l1.length : Int) then (laws_eqIntS.l0 k l0 l1 0) else (some false))=some r:=h
 clear h
 by_cases c3 : (l0.length : Int)=(l1.length : Int)
 ·rw [if_pos c3] at H
  have c3b0 : ((l0.length : Int) == (l1.length : Int))=true:=beq_iff_eq.mpr c3
  have c3b1 : ((l0.length : Int) != (l1.length : Int))=false:=bne_eq_false_iff_eq.mpr c3
  have c3b2 : (l0.length == l1.length)=true:=by first | simpa using c3 | (simp at c3 ⊢;omega)
  clear c3
  have H':=amk H
  clear H
  go_enter Try.func67,Try.ntmps67
  go_wp2
  repeat (go_quiet (fail);try go_wp2)
  go_loopg [5] k (fun kq v5 w'=>∃ (x5_1 : Int),v5 = .int .i64 x5_1∧Aside0 (laws_eqIntS.l0 kq l0 l1 x5_1=some r)∧Aside0 (kq≤k)∧Drawn0 w w')
  case atStart=>exact ⟨(0),rsd,H',⟨Nat.le_refl _⟩,by repeat (first | exact Drawn0.refl _ | apply Drawn0.step)⟩
  case round=>
   clear H'
   try clear c1
   try clear p2
   try clear c3
   try clear c3b0
   try clear c3b1
   try clear c3b2
   obtain ⟨x5_1,rfl,HA,HK1,⟨m1,rfl⟩⟩:=hrel
   cases gk with
   | zero=>exact absurd HA.out (by simp [laws_eqIntS.l0])
   | succ k1=>
    have H:=HA.out
    clear HA
    simp only [laws_eqIntS.l0] at H
    by_cases c4 : x5_1 < (l0.length : Int)
    ·rw [if_pos c4] at H
     have c4b0 : decide (x5_1 < (l0.length : Int))=true:=decide_eq_true c4
     clear c4
     by_cases c5 : 0≤x5_1
     ·rw [if_pos c5] at H
      have c5b0 : decide (0≤x5_1)=true:=decide_eq_true c5
      clear c5
      by_cases c6 : x5_1 < (l1.length : Int)
      ·rw [if_pos c6] at H
       have c6b0 : decide (x5_1 < (l1.length : Int))=true:=decide_eq_true c6
       clear c6
       by_cases c7 : (rd l0 x5_1)=(rd l1 x5_1)
       ·rw [if_pos c7] at H
        have c7b0 : ((rd l0 x5_1) == (rd l1 x5_1))=true:=beq_iff_eq.mpr c7
        have c7b1 : ((rd l0 x5_1) != (rd l1 x5_1))=false:=bne_eq_false_iff_eq.mpr c7
        clear c7
        have H':=amk H
        clear H
        have p412 : 0≤(x5_1 : Int):=of_decide_eq_true ass
        have q412 : x5_1 < (l0.length : Int):=of_decide_eq_true ass
        obtain ⟨ad412,e412,hx412_0⟩:=Kd.at_int HR0.out x5_1 p412 q412
        cases e412
        replace p412:=eq_true p412
        replace q412:=eq_true q412
        have p413 : 0≤(x5_1 : Int):=of_decide_eq_true ass
        have q413 : x5_1 < (l1.length : Int):=of_decide_eq_true ass
        obtain ⟨ad413,e413,hx413_0⟩:=Kd.at_int HR1.out x5_1 p413 q413
        cases e413
        replace p413:=eq_true p413
        replace q413:=eq_true q413
        go_wp2
        repeat (go_quiet (fail);try go_wp2)
        go_roundg k1
        case measure=>have:=HK1.out;omega
        case rel=>exact ⟨(wrap64 (x5_1 + 1)),rsd,H',⟨by have:=HK1.out;omega⟩,by repeat (first | exact Drawn0.refl _ | apply Drawn0.step)⟩
       ·rw [if_neg c7] at H
        have c7b0 : ((rd l0 x5_1) == (rd l1 x5_1))=false:=beq_eq_false_iff_ne.mpr c7
        have c7b1 : ((rd l0 x5_1) != (rd l1 x5_1))=true:=bne_iff_ne.mpr c7
        obtain rfl:=Option.some.inj H
        have p412 : 0≤(x5_1 : Int):=of_decide_eq_true ass
        have q412 : x5_1 < (l0.length : Int):=of_decide_eq_true ass
        obtain ⟨ad412,e412,hx412_0⟩:=Kd.at_int HR0.out x5_1 p412 q412
        cases e412
        replace p412:=eq_true p412
        replace q412:=eq_true q412
        have p413 : 0≤(x5_1 : Int):=of_decide_eq_true ass
        have q413 : x5_1 < (l1.length : Int):=of_decide_eq_true ass
        obtain ⟨ad413,e413,hx413_0⟩:=Kd.at_int HR1.out x5_1 p413 q413
        cases e413
        replace p413:=eq_true p413
        replace q413:=eq_true q413
        go_wp2
        repeat (go_quiet (fail);try go_wp2)
        go_ret
        exact ⟨rsd,by repeat (first | exact Drawn0.refl _ | apply Drawn0.step)⟩
      ·rw [if_neg c6] at H
       exact absurd H (by simp)
     ·rw [if_neg c5] at H
      exact absurd H (by simp)
    ·rw [if_neg c4] at H
     have c4b0 : decide (x5_1 < (l0.length : Int))=false:=decide_eq_false c4
     clear c4
     obtain rfl:=Option.some.inj H
     go_wp2
     repeat (go_quiet (fail);try go_wp2)
     go_ret
     exact ⟨rsd,by repeat (first | exact Drawn0.refl _ | apply Drawn0.step)⟩
 ·rw [if_neg c3] at H
  have c3b0 : ((l0.length : Int) == (l1.length : Int))=false:=beq_eq_false_iff_ne.mpr c3
  have c3b1 : ((l0.length : Int) != (l1.length : Int))=true:=bne_iff_ne.mpr c3
  have c3b2 : (l0.length == l1.length)=false:=by first | simpa using c3 | (simp at c3 ⊢;omega)
  obtain rfl:=Option.some.inj H
  go_enter Try.func67,Try.ntmps67
  go_wp2
  repeat (go_quiet (fail);try go_wp2)
  go_ret
  exact ⟨rsd,by repeat (first | exact Drawn0.refl _ | apply Drawn0.step)⟩
def laws_eqIntSS.l0 : Nat→List (List Int)→List (List Int)→Int→Option (Bool)
 | 0,_,_,_=>none
 | k + 1,x0,x1,x5=>if x5 < (x0.length : Int) then (if 0≤x5 then (if x5 < (x1.length : Int) then ((laws_eqIntS.f k (rd_L4 x0 x5) (rd_L4 x1 x5)).bind fun t416=>(if t416=true then (laws_eqIntSS.l0 k x0 x1 (wrap64 (x5 + 1))) else (some false))) else (none)) else (none)) else (some true)
def laws_eqIntSS.f (k : Nat) (l0 : List (List Int)) (l1 : List (List Int)) : Option (Bool):=if (l0.length : Int)=(l1.length : Int) then (laws_eqIntSS.l0 k l0 l1 0) else (some false)
theorem laws_eqIntSS.mono_l : ∀ k,(∀ y0 y1 y2,LeO (laws_eqIntSS.l0 k y0 y1 y2) (laws_eqIntSS.l0 (k + 1) y0 y1 y2))
 | 0=>fun _ _ _ r h=>by simp [laws_eqIntSS.l0] at h
 | k + 1=>by
  have ih0:=laws_eqIntSS.mono_l k
  ·intro y0 y1 y2
   unfold laws_eqIntSS.l0
   repeat' first
   | (with_reducible exact ih0 _ _ _)
   | (with_reducible exact laws_eqIntS.mono _ _ _)
   | (with_reducible exact LeO.refl _)
   | (with_reducible exact LeO.none _)
   | (with_reducible refine LeO.ite ?_ ?_)
   | (with_reducible refine LeO.bind ?_ (fun _=>?_))
   | exact ih0 _ _ _
theorem laws_eqIntSS.mono : ∀ a0 a1 k,LeO (laws_eqIntSS.f k a0 a1) (laws_eqIntSS.f (k + 1) a0 a1):=by
 intro a0 a1 k
 have ih0:=laws_eqIntSS.mono_l k
 unfold laws_eqIntSS.f
 repeat' first
   | (with_reducible exact ih0 _ _ _)
   | (with_reducible exact laws_eqIntS.mono _ _ _)
   | (with_reducible exact LeO.refl _)
   | (with_reducible exact LeO.none _)
   | (with_reducible refine LeO.ite ?_ ?_)
   | (with_reducible refine LeO.bind ?_ (fun _=>?_))
   | exact ih0 _ _ _
set_option maxHeartbeats 8000000 in
set_option maxRecDepth 100000 in
theorem laws_eqIntSS.calls (k : Nat) (A0 : Option Addr) (c0 : Nat) (l0 : List (List Int)) (A1 : Option Addr) (c1 : Nat) (l1 : List (List Int)) (r : Bool) (w : World) (hr0 : Kd.C (Kd.slice 3 (Kd.int .i64)) w A0 l0.length l0) (hc0 : l0.length≤c0) (hr1 : Kd.C (Kd.slice 3 (Kd.int .i64)) w A1 l1.length l1) (hc1 : l1.length≤c1) (h : laws_eqIntSS.f k l0 l1=some r) :
  Calls Try.prog 22 #[.slice A0 l0.length c0,.slice A1 l1.length c1] w fun e w'=>e = .returned (.bool r)∧Drawn0 w w':=by
 have HR0:=amk hr0
 have HC0:=amk hc0
 clear hr0 hc0
 have HR1:=amk hr1
 have HC1:=amk hc1
 clear hr1 hc1
 have H : (if (l0.length : Int)=(l1.length : Int) then (laws_eqIntSS.l0 k l0 l1 0) else (some false))=some r:=h
 clear h
 by_cases c3 : (l0.length : Int)=(l1.length : Int)
 ·rw [if_pos c3] at H
  have c3b0 : ((l0.length : Int) == (l1.length : Int))=true:=beq_iff_eq.mpr c3
  have c3b1 : ((l0.length : Int) != (l1.length : Int))=false:=bne_eq_false_iff_eq.mpr c3
  have c3b2 : (l0.length == l1.length)=true:=by first | simpa using c3 | (simp at c3 ⊢;omega)
  clear c3
  have H':=amk H
  clear H
  go_enter Try.func22,Try.ntmps22
  go_wp2
  repeat (go_quiet (fail);try go_wp2)
  go_loopg [5] k (fun kq v5 w'=>∃ (x5_1 : Int),v5 = .int .i64 x5_1∧Aside0 (laws_eqIntSS.l0 kq l0 l1 x5_1=some r)∧Aside0 (kq≤k)∧Drawn0 w w')
  case atStart=>exact ⟨(0),rsd,H',⟨Nat.le_refl _⟩,by repeat (first | exact Drawn0.refl _ | apply Drawn0.step)⟩
  case round=>
   clear H'
   try clear c1
   try clear c2
   try clear p2
   try clear c3
   try clear c3b0
   try clear c3b1
   try clear c3b2
   obtain ⟨x5_1,rfl,HA,HK1,⟨m1,rfl⟩⟩:=hrel
   cases gk with
   | zero=>exact absurd HA.out (by simp [laws_eqIntSS.l0])
   | succ k1=>
    have H:=HA.out
    clear HA
    simp only [laws_eqIntSS.l0] at H
    by_cases c4 : x5_1 < (l0.length : Int)
    ·rw [if_pos c4] at H
     have c4b0 : decide (x5_1 < (l0.length : Int))=true:=decide_eq_true c4
     clear c4
     by_cases c5 : 0≤x5_1
     ·rw [if_pos c5] at H
      have c5b0 : decide (0≤x5_1)=true:=decide_eq_true c5
      clear c5
      by_cases c6 : x5_1 < (l1.length : Int)
      ·rw [if_pos c6] at H
       have c6b0 : decide (x5_1 < (l1.length : Int))=true:=decide_eq_true c6
       clear c6
       replace H:=obs H
       obtain ⟨t416,A70,H⟩:=H
       replace H : (if t416=true then (laws_eqIntSS.l0 k1 l0 l1 (wrap64 (x5_1 + 1))) else (some false))=some r:=H
       have A7:=amk A70
       clear A70
       by_cases c8 : t416=true
       ·subst c8
        have H1 : (laws_eqIntSS.l0 k1 l0 l1 (wrap64 (x5_1 + 1)))=some r:=by rw [if_pos rfl] at H;exact H
        clear H
        have H:=H1
        clear H1
        have H':=amk H
        clear H
        have p414 : 0≤(x5_1 : Int):=of_decide_eq_true ass
        have q414 : x5_1 < (l0.length : Int):=of_decide_eq_true ass
        obtain ⟨ad414,A414_0,c414_0,e414,hx414_0,hl414_0,hi414_0⟩:=at_L4 HR0.out x5_1 p414 q414
        cases e414
        have HR414_0:=amk hi414_0
        have HC414_0:=amk hl414_0
        clear hi414_0 hl414_0
        replace p414:=eq_true p414
        replace q414:=eq_true q414
        have p415 : 0≤(x5_1 : Int):=of_decide_eq_true ass
        have q415 : x5_1 < (l1.length : Int):=of_decide_eq_true ass
        obtain ⟨ad415,A415_0,c415_0,e415,hx415_0,hl415_0,hi415_0⟩:=at_L4 HR1.out x5_1 p415 q415
        cases e415
        have HR415_0:=amk hi415_0
        have HC415_0:=amk hl415_0
        clear hi415_0 hl415_0
        replace p415:=eq_true p415
        replace q415:=eq_true q415
        go_wp2_with (first | (go_at_call 67;(with_reducible refine (laws_eqIntS.calls k1 _ _ (rd_L4 l0 x5_1) _ _ (rd_L4 l1 x5_1) true _ ?side1 ?side2 ?side3 ?side4 A7.out).mono ?_);(case side1=>exact ccc HR414_0.out);(case side2=>exact HC414_0.out);(case side3=>exact ccc HR415_0.out);(case side4=>exact HC415_0.out);rintro e w' ⟨rfl,⟨nd,rfl⟩⟩;(try exact ddd)))
        repeat (go_quiet (first | (go_at_call 67;(with_reducible refine (laws_eqIntS.calls k1 _ _ (rd_L4 l0 x5_1) _ _ (rd_L4 l1 x5_1) true _ ?side1 ?side2 ?side3 ?side4 A7.out).mono ?_);(case side1=>exact ccc HR414_0.out);(case side2=>exact HC414_0.out);(case side3=>exact ccc HR415_0.out);(case side4=>exact HC415_0.out);rintro e w' ⟨rfl,⟨nd,rfl⟩⟩;(try exact ddd)));try go_wp2_with (first | (go_at_call 67;(with_reducible refine (laws_eqIntS.calls k1 _ _ (rd_L4 l0 x5_1) _ _ (rd_L4 l1 x5_1) true _ ?side1 ?side2 ?side3 ?side4 A7.out).mono ?_);(case side1=>exact ccc HR414_0.out);(case side2=>exact HC414_0.out);(case side3=>exact ccc HR415_0.out);(case side4=>exact HC415_0.out);rintro e w' ⟨rfl,⟨nd,rfl⟩⟩;(try exact ddd))))
        go_roundg k1
        case measure=>have:=HK1.out;omega
        case rel=>exact ⟨(wrap64 (x5_1 + 1)),rsd,H',⟨by have:=HK1.out;omega⟩,by repeat (first | exact Drawn0.refl _ | apply Drawn0.step)⟩
       ·replace c8:=Bool.eq_false_iff.mpr c8
        subst c8
        have H1 : (some false)=some r:=by rw [if_neg (show ¬ (false=true) by decide)] at H;exact H
        clear H
        have H:=H1
        clear H1
        obtain rfl:=Option.some.inj H
        have p414 : 0≤(x5_1 : Int):=of_decide_eq_true ass
        have q414 : x5_1 < (l0.length : Int):=of_decide_eq_true ass
        obtain ⟨ad414,A414_0,c414_0,e414,hx414_0,hl414_0,hi414_0⟩:=at_L4 HR0.out x5_1 p414 q414
        cases e414
        have HR414_0:=amk hi414_0
        have HC414_0:=amk hl414_0
        clear hi414_0 hl414_0
        replace p414:=eq_true p414
        replace q414:=eq_true q414
        have p415 : 0≤(x5_1 : Int):=of_decide_eq_true ass
        have q415 : x5_1 < (l1.length : Int):=of_decide_eq_true ass
        obtain ⟨ad415,A415_0,c415_0,e415,hx415_0,hl415_0,hi415_0⟩:=at_L4 HR1.out x5_1 p415 q415
        cases e415
        have HR415_0:=amk hi415_0
        have HC415_0:=amk hl415_0
        clear hi415_0 hl415_0
        replace p415:=eq_true p415
        replace q415:=eq_true q415
        go_wp2_with (first | (go_at_call 67;(with_reducible refine (laws_eqIntS.calls k1 _ _ (rd_L4 l0 x5_1) _ _ (rd_L4 l1 x5_1) false _ ?side1 ?side2 ?side3 ?side4 A7.out).mono ?_);(case side1=>exact ccc HR414_0.out);(case side2=>exact HC414_0.out);(case side3=>exact ccc HR415_0.out);(case side4=>exact HC415_0.out);rintro e w' ⟨rfl,⟨nd,rfl⟩⟩;(try exact ddd)))
        repeat (go_quiet (first | (go_at_call 67;(with_reducible refine (laws_eqIntS.calls k1 _ _ (rd_L4 l0 x5_1) _ _ (rd_L4 l1 x5_1) false _ ?side1 ?side2 ?side3 ?side4 A7.out).mono ?_);(case side1=>exact ccc HR414_0.out);(case side2=>exact HC414_0.out);(case side3=>exact ccc HR415_0.out);(case side4=>exact HC415_0.out);rintro e w' ⟨rfl,⟨nd,rfl⟩⟩;(try exact ddd)));try go_wp2_with (first | (go_at_call 67;(with_reducible refine (laws_eqIntS.calls k1 _ _ (rd_L4 l0 x5_1) _ _ (rd_L4 l1 x5_1) false _ ?side1 ?side2 ?side3 ?side4 A7.out).mono ?_);(case side1=>exact ccc HR414_0.out);(case side2=>exact HC414_0.out);(case side3=>exact ccc HR415_0.out);(case side4=>exact HC415_0.out);rintro e w' ⟨rfl,⟨nd,rfl⟩⟩;(try exact ddd))))
        go_ret
        exact ⟨rsd,by repeat (first | exact Drawn0.refl _ | apply Drawn0.step)⟩
      ·rw [if_neg c6] at H
       exact absurd H (by simp)
     ·rw [if_neg c5] at H
      exact absurd H (by simp)
    ·rw [if_neg c4] at H
     have c4b0 : decide (x5_1 < (l0.length : Int))=false:=decide_eq_false c4
     clear c4
     obtain rfl:=Option.some.inj H
     go_wp2
     repeat (go_quiet (fail);try go_wp2)
     go_ret
     exact ⟨rsd,by repeat (first | exact Drawn0.refl _ | apply Drawn0.step)⟩
 ·rw [if_neg c3] at H
  have c3b0 : ((l0.length : Int) == (l1.length : Int))=false:=beq_eq_false_iff_ne.mpr c3
  have c3b1 : ((l0.length : Int) != (l1.length : Int))=true:=bne_iff_ne.mpr c3
  have c3b2 : (l0.length == l1.length)=false:=by first | simpa using c3 | (simp at c3 ⊢;omega)
  obtain rfl:=Option.some.inj H
  go_enter Try.func22,Try.ntmps22
  go_wp2
  repeat (go_quiet (fail);try go_wp2)
  go_ret
  exact ⟨rsd,by repeat (first | exact Drawn0.refl _ | apply Drawn0.step)⟩
def laws_eqReading.f (a0_0 : Int) (a0_1 : Int) (a1_0 : Int) (a1_1 : Int) : Option (Bool):=if a0_0=a1_0 then (if a0_1=a1_1 then (some true) else (some false)) else (some false)
set_option maxHeartbeats 8000000 in
set_option maxRecDepth 100000 in
theorem laws_eqReading.calls (a0_0 : Int) (a0_1 : Int) (a1_0 : Int) (a1_1 : Int) (r : Bool) (w : World) (h : laws_eqReading.f a0_0 a0_1 a1_0 a1_1=some r) :
  Calls Try.prog 68 #[.agg #[.int .i64 a0_0,.int .i64 a0_1],.agg #[.int .i64 a1_0,.int .i64 a1_1]] w fun e w'=>e = .returned (.bool r)∧Below w.heap.size w w':=by
 have hu30:=Try.underlying30
 have HB:=amk (Below.refl w.heap.size w)
 have H : (if a0_0=a1_0 then (if a0_1=a1_1 then (some true) else (some false)) else (some false))=some r:=h
 clear h
 by_cases c3 : a0_0=a1_0
 ·rw [if_pos c3] at H
  have c3b0 : (a0_0 == a1_0)=true:=beq_iff_eq.mpr c3
  have c3b1 : (a0_0 != a1_0)=false:=bne_eq_false_iff_eq.mpr c3
  clear c3
  by_cases c4 : a0_1=a1_1
  ·rw [if_pos c4] at H
   have c4b0 : (a0_1 == a1_1)=true:=beq_iff_eq.mpr c4
   have c4b1 : (a0_1 != a1_1)=false:=bne_eq_false_iff_eq.mpr c4
   clear c4
   obtain rfl:=Option.some.inj H
   go_enter Try.func68,Try.ntmps68
   go_wp2_with (first | ((with_reducible refine gate_dst (N:=2) rfl ?_);refine box_event ?hg (N:=2) ?hd (cs:=#[.int .i64 a0_0,.int .i64 a0_1]) (t:=30) ?hr ?_;(case hd=>rfl);(case hg=>rfl);(case hr=>first | (go_simp;done)|(go_simp;rfl));intro gb417 hg w5 hbox hb;have BK417:=amk (hbox);have GW417:=amk ((by rw [hg];exact (below_size (bel HB)) : w.heap.size≤gb417));have GE417:=amk ((by rw [hg];exact (below_size (bel HB)) : w.heap.size≤gb417));replace HB:=amk (below_step (bel HB) hb);clear hb hbox hg)|((with_reducible refine gate_dst (N:=3) rfl ?_);refine box_event ?hg (N:=3) ?hd (cs:=#[.int .i64 a1_0,.int .i64 a1_1]) (t:=30) ?hr ?_;(case hd=>rfl);(case hg=>rfl);(case hr=>first | (go_simp;done)|(go_simp;rfl));intro gb418 hg w6 hbox hb;have BK418:=amk (hbox);have GW418:=amk ((by rw [hg];exact (below_size (bel1 HB GE417.out)) : w.heap.size≤gb418));have GE418:=amk ((by rw [hg];exact (below_size (bel1 HB GE417.out)) : w.heap.size≤gb418));replace HB:=amk (below_step (bel1 HB GE417.out) hb);have NB417_418:=amk ((by rw [hg];exact Nat.ne_of_lt (blk_lt (g:=gb417) (o:=.cells #[.int .i64 a0_0,.int .i64 a0_1] 30 (0,0)) (bkk BK417)) : gb417 ≠ gb418));have NB418_417:=amk ((by rw [hg];exact Nat.ne_of_gt (blk_lt (g:=gb417) (o:=.cells #[.int .i64 a0_0,.int .i64 a0_1] 30 (0,0)) (bkk BK417)) : gb418 ≠ gb417));replace BK417:=amk (blk_below (g:=gb417) (o:=.cells #[.int .i64 a0_0,.int .i64 a0_1] 30 (0,0)) (bkk BK417) hb);clear hb hbox hg;have hnb7:=NB417_418.out;have hnc7:=NB418_417.out;have hcz8_0 : w6.cell? ⟨gb417,0,none⟩=some (.int .i64 a0_0):=(blk_cell BK417.out 0).trans rfl;have hcz8_1 : w6.cell? ⟨gb417,1,none⟩=some (.int .i64 a0_1):=(blk_cell BK417.out 1).trans rfl;have hfz8_0:=blk_frozen BK417.out 0;have hfz8_1:=blk_frozen BK417.out 1;have hcz9_0 : w6.cell? ⟨gb418,0,none⟩=some (.int .i64 a1_0):=(blk_cell BK418.out 0).trans rfl;have hcz9_1 : w6.cell? ⟨gb418,1,none⟩=some (.int .i64 a1_1):=(blk_cell BK418.out 1).trans rfl;have hfz9_0:=blk_frozen BK418.out 0;have hfz9_1:=blk_frozen BK418.out 1))
   go_ret
   exact ⟨erw0,bel2 HB GE417.out GE418.out⟩
  ·rw [if_neg c4] at H
   have c4b0 : (a0_1 == a1_1)=false:=beq_eq_false_iff_ne.mpr c4
   have c4b1 : (a0_1 != a1_1)=true:=bne_iff_ne.mpr c4
   obtain rfl:=Option.some.inj H
   go_enter Try.func68,Try.ntmps68
   go_wp2_with (first | ((with_reducible refine gate_dst (N:=2) rfl ?_);refine box_event ?hg (N:=2) ?hd (cs:=#[.int .i64 a0_0,.int .i64 a0_1]) (t:=30) ?hr ?_;(case hd=>rfl);(case hg=>rfl);(case hr=>first | (go_simp;done)|(go_simp;rfl));intro gb417 hg w10 hbox hb;have BK417:=amk (hbox);have GW417:=amk ((by rw [hg];exact (below_size (bel HB)) : w.heap.size≤gb417));have GE417:=amk ((by rw [hg];exact (below_size (bel HB)) : w.heap.size≤gb417));replace HB:=amk (below_step (bel HB) hb);clear hb hbox hg)|((with_reducible refine gate_dst (N:=3) rfl ?_);refine box_event ?hg (N:=3) ?hd (cs:=#[.int .i64 a1_0,.int .i64 a1_1]) (t:=30) ?hr ?_;(case hd=>rfl);(case hg=>rfl);(case hr=>first | (go_simp;done)|(go_simp;rfl));intro gb418 hg w11 hbox hb;have BK418:=amk (hbox);have GW418:=amk ((by rw [hg];exact (below_size (bel1 HB GE417.out)) : w.heap.size≤gb418));have GE418:=amk ((by rw [hg];exact (below_size (bel1 HB GE417.out)) : w.heap.size≤gb418));replace HB:=amk (below_step (bel1 HB GE417.out) hb);have NB417_418:=amk ((by rw [hg];exact Nat.ne_of_lt (blk_lt (g:=gb417) (o:=.cells #[.int .i64 a0_0,.int .i64 a0_1] 30 (0,0)) (bkk BK417)) : gb417 ≠ gb418));have NB418_417:=amk ((by rw [hg];exact Nat.ne_of_gt (blk_lt (g:=gb417) (o:=.cells #[.int .i64 a0_0,.int .i64 a0_1] 30 (0,0)) (bkk BK417)) : gb418 ≠ gb417));replace BK417:=amk (blk_below (g:=gb417) (o:=.cells #[.int .i64 a0_0,.int .i64 a0_1] 30 (0,0)) (bkk BK417) hb);clear hb hbox hg;have hnb12:=NB417_418.out;have hnc12:=NB418_417.out;have hcz13_0 : w11.cell? ⟨gb417,0,none⟩=some (.int .i64 a0_0):=(blk_cell BK417.out 0).trans rfl;have hcz13_1 : w11.cell? ⟨gb417,1,none⟩=some (.int .i64 a0_1):=(blk_cell BK417.out 1).trans rfl;have hfz13_0:=blk_frozen BK417.out 0;have hfz13_1:=blk_frozen BK417.out 1;have hcz14_0 : w11.cell? ⟨gb418,0,none⟩=some (.int .i64 a1_0):=(blk_cell BK418.out 0).trans rfl;have hcz14_1 : w11.cell? ⟨gb418,1,none⟩=some (.int .i64 a1_1):=(blk_cell BK418.out 1).trans rfl;have hfz14_0:=blk_frozen BK418.out 0;have hfz14_1:=blk_frozen BK418.out 1))
   go_ret
   exact ⟨erw0,bel2 HB GE417.out GE418.out⟩
 ·rw [if_neg c3] at H
  have c3b0 : (a0_0 == a1_0)=false:=beq_eq_false_iff_ne.mpr c3
  have c3b1 : (a0_0 != a1_0)=true:=bne_iff_ne.mpr c3
  obtain rfl:=Option.some.inj H
  go_enter Try.func68,Try.ntmps68
  go_wp2_with (first | ((with_reducible refine gate_dst (N:=2) rfl ?_);refine box_event ?hg (N:=2) ?hd (cs:=#[.int .i64 a0_0,.int .i64 a0_1]) (t:=30) ?hr ?_;(case hd=>rfl);(case hg=>rfl);(case hr=>first | (go_simp;done)|(go_simp;rfl));intro gb417 hg w15 hbox hb;have BK417:=amk (hbox);have GW417:=amk ((by rw [hg];exact (below_size (bel HB)) : w.heap.size≤gb417));have GE417:=amk ((by rw [hg];exact (below_size (bel HB)) : w.heap.size≤gb417));replace HB:=amk (below_step (bel HB) hb);clear hb hbox hg)|((with_reducible refine gate_dst (N:=3) rfl ?_);refine box_event ?hg (N:=3) ?hd (cs:=#[.int .i64 a1_0,.int .i64 a1_1]) (t:=30) ?hr ?_;(case hd=>rfl);(case hg=>rfl);(case hr=>first | (go_simp;done)|(go_simp;rfl));intro gb418 hg w16 hbox hb;have BK418:=amk (hbox);have GW418:=amk ((by rw [hg];exact (below_size (bel1 HB GE417.out)) : w.heap.size≤gb418));have GE418:=amk ((by rw [hg];exact (below_size (bel1 HB GE417.out)) : w.heap.size≤gb418));replace HB:=amk (below_step (bel1 HB GE417.out) hb);have NB417_418:=amk ((by rw [hg];exact Nat.ne_of_lt (blk_lt (g:=gb417) (o:=.cells #[.int .i64 a0_0,.int .i64 a0_1] 30 (0,0)) (bkk BK417)) : gb417 ≠ gb418));have NB418_417:=amk ((by rw [hg];exact Nat.ne_of_gt (blk_lt (g:=gb417) (o:=.cells #[.int .i64 a0_0,.int .i64 a0_1] 30 (0,0)) (bkk BK417)) : gb418 ≠ gb417));replace BK417:=amk (blk_below (g:=gb417) (o:=.cells #[.int .i64 a0_0,.int .i64 a0_1] 30 (0,0)) (bkk BK417) hb);clear hb hbox hg;have hnb17:=NB417_418.out;have hnc17:=NB418_417.out;have hcz18_0 : w16.cell? ⟨gb417,0,none⟩=some (.int .i64 a0_0):=(blk_cell BK417.out 0).trans rfl;have hcz18_1 : w16.cell? ⟨gb417,1,none⟩=some (.int .i64 a0_1):=(blk_cell BK417.out 1).trans rfl;have hfz18_0:=blk_frozen BK417.out 0;have hfz18_1:=blk_frozen BK417.out 1;have hcz19_0 : w16.cell? ⟨gb418,0,none⟩=some (.int .i64 a1_0):=(blk_cell BK418.out 0).trans rfl;have hcz19_1 : w16.cell? ⟨gb418,1,none⟩=some (.int .i64 a1_1):=(blk_cell BK418.out 1).trans rfl;have hfz19_0:=blk_frozen BK418.out 0;have hfz19_1:=blk_frozen BK418.out 1))
  go_ret
  exact ⟨erw0,bel2 HB GE417.out GE418.out⟩
def laws_eqReadingS.l0 : Nat→List (S30)→List (S30)→Int→Option (Bool)
 | 0,_,_,_=>none
 | k + 1,x0,x1,x5=>if x5 < (x0.length : Int) then (if 0≤x5 then (if x5 < (x1.length : Int) then ((laws_eqReading.f ((rd_T30 x0 x5).f0) ((rd_T30 x0 x5).f1) ((rd_T30 x1 x5).f0) ((rd_T30 x1 x5).f1)).bind fun t421=>(if t421=true then (laws_eqReadingS.l0 k x0 x1 (wrap64 (x5 + 1))) else (some false))) else (none)) else (none)) else (some true)
def laws_eqReadingS.f (k : Nat) (l0 : List (S30)) (l1 : List (S30)) : Option (Bool):=if (l0.length : Int)=(l1.length : Int) then (laws_eqReadingS.l0 k l0 l1 0) else (some false)
theorem laws_eqReadingS.mono_l : ∀ k,(∀ y0 y1 y2,LeO (laws_eqReadingS.l0 k y0 y1 y2) (laws_eqReadingS.l0 (k + 1) y0 y1 y2))
 | 0=>fun _ _ _ r h=>by simp [laws_eqReadingS.l0] at h
 | k + 1=>by
  have ih0:=laws_eqReadingS.mono_l k
  ·intro y0 y1 y2
   unfold laws_eqReadingS.l0
   repeat' first
   | (with_reducible exact ih0 _ _ _)
   | (with_reducible exact LeO.refl _)
   | (with_reducible exact LeO.none _)
   | (with_reducible refine LeO.ite ?_ ?_)
   | (with_reducible refine LeO.bind ?_ (fun _=>?_))
   | exact ih0 _ _ _
theorem laws_eqReadingS.mono : ∀ a0 a1 k,LeO (laws_eqReadingS.f k a0 a1) (laws_eqReadingS.f (k + 1) a0 a1):=by
 intro a0 a1 k
 have ih0:=laws_eqReadingS.mono_l k
 unfold laws_eqReadingS.f
 repeat' first
   | (with_reducible exact ih0 _ _ _)
   | (with_reducible exact LeO.refl _)
   | (with_reducible exact LeO.none _)
   | (with_reducible refine LeO.ite ?_ ?_)
   | (with_reducible refine LeO.bind ?_ (fun _=>?_))
   | exact ih0 _ _ _
def laws_eqReadingS.T6 : Bool × List (List Nat × List Nat):=(true,[([],[]),([],[]),([0,1],[0,1]),([2],[2]),([],[]),([],[]),([4,5],[4,5]),([6],[6]),([3,7],[3,7]),([8],[8])])
def laws_eqReadingS.B6 : List Nat:=[0,0,3,7,0,0,48,112,255,511]
theorem laws_eqReadingS.tab6 : rtab .any (opsOf Try.f23 6)=laws_eqReadingS.T6:=by kernel_rfl
theorem laws_eqReadingS.bits6 : waitsOk laws_eqReadingS.T6.2 laws_eqReadingS.B6=true:=by kernel_rfl
set_option maxHeartbeats 8000000 in
set_option maxRecDepth 100000 in
theorem laws_eqReadingS.calls (k : Nat) (A0 : Option Addr) (c0 : Nat) (l0 : List (S30)) (A1 : Option Addr) (c1 : Nat) (l1 : List (S30)) (r : Bool) (w : World) (hr0 : Kd.C k30 w A0 l0.length l0) (hc0 : l0.length≤c0) (hr1 : Kd.C k30 w A1 l1.length l1) (hc1 : l1.length≤c1) (h : laws_eqReadingS.f k l0 l1=some r) :
  Calls Try.prog 23 #[.slice A0 l0.length c0,.slice A1 l1.length c1] w fun e w'=>e = .returned (.bool r)∧Below w.heap.size w w':=by
 have hu30:=Try.underlying30
 have HR0:=amk hr0
 have HC0:=amk hc0
 clear hr0 hc0
 have HR1:=amk hr1
 have HC1:=amk hc1
 clear hr1 hc1
 have HB:=amk (Below.refl w.heap.size w)
 have H : (if (l0.length : Int)=(l1.length : Int) then (laws_eqReadingS.l0 k l0 l1 0) else (some false))=some r:=h
 clear h
 by_cases c3 : (l0.length : Int)=(l1.length : Int)
 ·rw [if_pos c3] at H
  have c3b0 : ((l0.length : Int) == (l1.length : Int))=true:=beq_iff_eq.mpr c3
  have c3b1 : ((l0.length : Int) != (l1.length : Int))=false:=bne_eq_false_iff_eq.mpr c3
  have c3b2 : (l0.length == l1.length)=true:=by first | simpa using c3 | (simp at c3 ⊢;omega)
  clear c3
  have H':=amk H
  clear H
  go_enter Try.func23,Try.ntmps23
  go_wp2
  go_loopg [5] k (fun kq v5 w'=>∃ (x5_1 : Int),v5 = .int .i64 x5_1∧Aside0 (laws_eqReadingS.l0 kq l0 l1 x5_1=some r)∧Aside0 (kq≤k)∧Aside0 (Below w.heap.size w w'))
  case atStart=>exact ⟨(0),rsd,H',⟨Nat.le_refl _⟩,⟨bel HB⟩⟩
  case round=>
   clear H'
   try clear c1
   try clear c2
   try clear p2
   try clear c3
   try clear c3b0
   try clear c3b1
   try clear c3b2
   obtain ⟨x5_1,rfl,HA,HK1,HB⟩:=hrel
   cases gk with
   | zero=>exact absurd HA.out (by simp [laws_eqReadingS.l0])
   | succ k1=>
    have H:=HA.out
    clear HA
    simp only [laws_eqReadingS.l0] at H
    by_cases c4 : x5_1 < (l0.length : Int)
    ·rw [if_pos c4] at H
     have c4b0 : decide (x5_1 < (l0.length : Int))=true:=decide_eq_true c4
     clear c4
     by_cases c5 : 0≤x5_1
     ·rw [if_pos c5] at H
      have c5b0 : decide (0≤x5_1)=true:=decide_eq_true c5
      clear c5
      by_cases c6 : x5_1 < (l1.length : Int)
      ·rw [if_pos c6] at H
       have c6b0 : decide (x5_1 < (l1.length : Int))=true:=decide_eq_true c6
       clear c6
       replace H:=obs H
       obtain ⟨t421,A70,H⟩:=H
       replace H : (if t421=true then (laws_eqReadingS.l0 k1 l0 l1 (wrap64 (x5_1 + 1))) else (some false))=some r:=H
       have A7:=amk A70
       clear A70
       by_cases c8 : t421=true
       ·subst c8
        have H1 : (laws_eqReadingS.l0 k1 l0 l1 (wrap64 (x5_1 + 1)))=some r:=by rw [if_pos rfl] at H;exact H
        clear H
        have H:=H1
        clear H1
        have H':=amk H
        clear H
        try go_wp2
        have n0_:=amk (below_drew1 HB.out)
        clear HB
        have HB:=n0_
        clear n0_
        have p419 : 0≤(x5_1 : Int):=of_decide_eq_true ass
        have q419 : x5_1 < (l0.length : Int):=of_decide_eq_true ass
        obtain ⟨ad419,e419,hx419_0,hx419_1⟩:=at_T30 HR0.out x5_1 p419 q419
        have hw419_1:=hx419_1
        have hw419_0:=hx419_0
        cases e419
        replace hx419_0:=(HB.out.cell (World.block_lt_of_cell? w _ hx419_0)).trans hx419_0
        replace hx419_1:=(HB.out.cell (World.block_lt_of_cell? w _ hx419_1)).trans hx419_1
        replace p419:=eq_true p419
        replace q419:=eq_true q419
        have p420 : 0≤(x5_1 : Int):=of_decide_eq_true ass
        have q420 : x5_1 < (l1.length : Int):=of_decide_eq_true ass
        obtain ⟨ad420,e420,hx420_0,hx420_1⟩:=at_T30 HR1.out x5_1 p420 q420
        have hw420_1:=hx420_1
        have hw420_0:=hx420_0
        cases e420
        replace hx420_0:=(HB.out.cell (World.block_lt_of_cell? w _ hx420_0)).trans hx420_0
        replace hx420_1:=(HB.out.cell (World.block_lt_of_cell? w _ hx420_1)).trans hx420_1
        replace p420:=eq_true p420
        replace q420:=eq_true q420
        refine start_ (n:=10) (S:=fun w'=>w'.cell? (ad419.add ((x5_1).toNat * 2))=some (.int .i64 ((rd_T30 l0 x5_1).f0))∧w'.cell? ⟨(ad419.add ((x5_1).toNat * 2)).block,(ad419.add ((x5_1).toNat * 2)).off + 1,none⟩=some (.int .i64 ((rd_T30 l0 x5_1).f1))∧w'.cell? (ad420.add ((x5_1).toNat * 2))=some (.int .i64 ((rd_T30 l1 x5_1).f0))∧w'.cell? ⟨(ad420.add ((x5_1).toNat * 2)).block,(ad420.add ((x5_1).toNat * 2)).off + 1,none⟩=some (.int .i64 ((rd_T30 l1 x5_1).f1))) (ds:=[]) #[F0,F0,F0,F0,F0,F0,F0,F0,F0,F0] (by kernel_rfl) rfl rfl ⟨((HB.out.cell (World.block_lt_of_cell? w _ hw419_0)).trans hw419_0),((HB.out.cell (World.block_lt_of_cell? w _ hw419_1)).trans hw419_1),((HB.out.cell (World.block_lt_of_cell? w _ hw420_0)).trans hw420_0),((HB.out.cell (World.block_lt_of_cell? w _ hw420_1)).trans hw420_1)⟩ (fun hHeld=>?_);refine with_tabW laws_eqReadingS.tab6 laws_eqReadingS.bits6 (fun HT_ HW_=>?_)
        generalize wr.drew=w9 at HB hx419_0 hx419_1 hx420_0 hx420_1 hHeld ⊢
        refine pure_ (i:=0) (N:=some 17) (v:=?_) (a':=?_) #[T0,F0,F0,F0,F0,F0,F0,F0,F0,F0] rfl rfl (any_of HT_.out (by kernel_rfl)) (fun _ _ _ h=>h) (Or.inl ⟨by rfl,?_⟩) ?_ ?_
        rotate_left
        ·intro w'
         go_simp
         with_reducible rfl
        rotate_left
        ·simp only [Act.put,sI,sZ,sS,i64_w,i32_w]
         rfl
        refine pure_ (i:=1) (N:=some 18) (v:=?_) (a':=?_) #[T0,T0,F0,F0,F0,F0,F0,F0,F0,F0] rfl rfl (any_of HT_.out (by kernel_rfl)) (fun _ _ _ h=>h) (Or.inl ⟨by rfl,?_⟩) ?_ ?_
        rotate_left
        ·intro w'
         go_simp
         with_reducible rfl
        rotate_left
        ·simp only [Act.put,sI,sZ,sS,i64_w,i32_w]
         rfl
        refine pure_ (i:=2) (N:=some 19) (v:=?_) (a':=?_) #[T0,T0,T0,F0,F0,F0,F0,F0,F0,F0] rfl rfl (any_of HT_.out (by kernel_rfl)) (fun _ _ _ h=>h) (Or.inl ⟨by rfl,?_⟩) ?_ ?_
        rotate_left
        ·intro w'
         go_simp
         with_reducible rfl
        rotate_left
        ·simp only [Act.put,sI,sZ,sS,i64_w,i32_w]
         rfl
        refine pure_ (i:=4) (N:=some 21) (v:=?_) (a':=?_) #[T0,T0,T0,F0,T0,F0,F0,F0,F0,F0] rfl rfl (any_of HT_.out (by kernel_rfl)) (fun _ _ _ h=>h) (Or.inl ⟨by rfl,?_⟩) ?_ ?_
        rotate_left
        ·intro w'
         go_simp
         with_reducible rfl
        rotate_left
        ·simp only [Act.put,sI,sZ,sS,i64_w,i32_w]
         rfl
        refine pure_ (i:=5) (N:=some 22) (v:=?_) (a':=?_) #[T0,T0,T0,F0,T0,T0,F0,F0,F0,F0] rfl rfl (any_of HT_.out (by kernel_rfl)) (fun _ _ _ h=>h) (Or.inl ⟨by rfl,?_⟩) ?_ ?_
        rotate_left
        ·intro w'
         go_simp
         with_reducible rfl
        rotate_left
        ·simp only [Act.put,sI,sZ,sS,i64_w,i32_w]
         rfl
        refine pure_ (i:=6) (N:=some 23) (v:=?_) (a':=?_) #[T0,T0,T0,F0,T0,T0,T0,F0,F0,F0] rfl rfl (any_of HT_.out (by kernel_rfl)) (fun _ _ _ h=>h) (Or.inl ⟨by rfl,?_⟩) ?_ ?_
        rotate_left
        ·intro w'
         go_simp
         with_reducible rfl
        rotate_left
        ·simp only [Act.put,sI,sZ,sS,i64_w,i32_w]
         rfl
        refine take_ (i:=3) (N:=some 20) (v:=?_) (a':=?_) #[T0,T0,T0,T0,T0,T0,T0,F0,F0,F0] rfl rfl (take_ofW HT_.out HW_.out (by kernel_rfl)) (fun _ _ _ h=>h) (Or.inl ⟨by rfl,?_⟩) hHeld ?_ ?_
        rotate_left
        ·rintro w' ⟨s0,s1,s2,s3⟩
         go_simp
         with_reducible rfl
        rotate_left
        ·simp only [Act.put,sI,sZ,sS,i64_w,i32_w]
         rfl
        refine take_ (i:=7) (N:=some 24) (v:=?_) (a':=?_) #[T0,T0,T0,T0,T0,T0,T0,T0,F0,F0] rfl rfl (take_ofW HT_.out HW_.out (by kernel_rfl)) (fun _ _ _ h=>h) (Or.inl ⟨by rfl,?_⟩) hHeld ?_ ?_
        rotate_left
        ·rintro w' ⟨s0,s1,s2,s3⟩
         go_simp
         with_reducible rfl
        rotate_left
        ·simp only [Act.put,sI,sZ,sS,i64_w,i32_w]
         rfl
        refine one_ (i:=8) (N:=some 25) #[T0,T0,T0,T0,T0,T0,T0,T0,T0,F0] rfl rfl (one_of HT_.out (by kernel_rfl)) (by decide) (fun K hK=>?_)
        refine goes_ Try.func68 (by kernel_rfl) rfl #[.agg #[.int .i64 ((rd_T30 l0 x5_1).f0),.int .i64 ((rd_T30 l0 x5_1).f1)],.agg #[.int .i64 ((rd_T30 l1 x5_1).f0),.int .i64 ((rd_T30 l1 x5_1).f1)]] (by rfl) rfl rfl mtt ?_
        with_reducible refine (laws_eqReading.calls ((rd_T30 l0 x5_1).f0) ((rd_T30 l0 x5_1).f1) ((rd_T30 l1 x5_1).f0) ((rd_T30 l1 x5_1).f1) true _ A7.out).mono ?_
        rintro e w10 ⟨rfl,hb⟩
        refine ⟨_,rfl,?_⟩
        have n0_:=amk (below_step (bel HB) hb)
        clear HB
        have HB:=n0_
        clear n0_
        (try clear hb)
        (try clear hb2)
        (try clear hk)
        (try clear hi)
        refine hK.out _ _ ⟨((HB.out.cell (World.block_lt_of_cell? w _ hw419_0)).trans hw419_0),((HB.out.cell (World.block_lt_of_cell? w _ hw419_1)).trans hw419_1),((HB.out.cell (World.block_lt_of_cell? w _ hw420_0)).trans hw420_0),((HB.out.cell (World.block_lt_of_cell? w _ hw420_1)).trans hw420_1)⟩ (fun hHeld=>?_)
        clear hK K
        refine norm_ (a':=?_) ?_ ?_
        rotate_left
        ·show Act.put _ (some 25) _=_
         simp only [Act.put,sI,sZ,sS,i64_w,i32_w]
         rfl
        refine pure_ (i:=9) (N:=some 26) (v:=?_) (a':=?_) #[T0,T0,T0,T0,T0,T0,T0,T0,T0,T0] rfl rfl (any_of HT_.out (by kernel_rfl)) (fun _ _ _ h=>h) (Or.inl ⟨by rfl,?_⟩) ?_ ?_
        rotate_left
        ·intro w'
         go_simp
         with_reducible rfl
        rotate_left
        ·simp only [Act.put,sI,sZ,sS,i64_w,i32_w]
         rfl
        refine done_ (done_of HT_.out (by kernel_rfl)) ?_
        try go_wp2
        go_roundg k1
        case measure=>have:=HK1.out;omega
        case rel=>exact ⟨(wrap64 (x5_1 + 1)),rsd,H',⟨by have:=HK1.out;omega⟩,⟨bel HB⟩⟩
       ·replace c8:=Bool.eq_false_iff.mpr c8
        subst c8
        have H1 : (some false)=some r:=by rw [if_neg (show ¬ (false=true) by decide)] at H;exact H
        clear H
        have H:=H1
        clear H1
        obtain rfl:=Option.some.inj H
        try go_wp2
        have n0_:=amk (below_drew1 HB.out)
        clear HB
        have HB:=n0_
        clear n0_
        have p419 : 0≤(x5_1 : Int):=of_decide_eq_true ass
        have q419 : x5_1 < (l0.length : Int):=of_decide_eq_true ass
        obtain ⟨ad419,e419,hx419_0,hx419_1⟩:=at_T30 HR0.out x5_1 p419 q419
        have hw419_1:=hx419_1
        have hw419_0:=hx419_0
        cases e419
        replace hx419_0:=(HB.out.cell (World.block_lt_of_cell? w _ hx419_0)).trans hx419_0
        replace hx419_1:=(HB.out.cell (World.block_lt_of_cell? w _ hx419_1)).trans hx419_1
        replace p419:=eq_true p419
        replace q419:=eq_true q419
        have p420 : 0≤(x5_1 : Int):=of_decide_eq_true ass
        have q420 : x5_1 < (l1.length : Int):=of_decide_eq_true ass
        obtain ⟨ad420,e420,hx420_0,hx420_1⟩:=at_T30 HR1.out x5_1 p420 q420
        have hw420_1:=hx420_1
        have hw420_0:=hx420_0
        cases e420
        replace hx420_0:=(HB.out.cell (World.block_lt_of_cell? w _ hx420_0)).trans hx420_0
        replace hx420_1:=(HB.out.cell (World.block_lt_of_cell? w _ hx420_1)).trans hx420_1
        replace p420:=eq_true p420
        replace q420:=eq_true q420
        refine start_ (n:=10) (S:=fun w'=>w'.cell? (ad419.add ((x5_1).toNat * 2))=some (.int .i64 ((rd_T30 l0 x5_1).f0))∧w'.cell? ⟨(ad419.add ((x5_1).toNat * 2)).block,(ad419.add ((x5_1).toNat * 2)).off + 1,none⟩=some (.int .i64 ((rd_T30 l0 x5_1).f1))∧w'.cell? (ad420.add ((x5_1).toNat * 2))=some (.int .i64 ((rd_T30 l1 x5_1).f0))∧w'.cell? ⟨(ad420.add ((x5_1).toNat * 2)).block,(ad420.add ((x5_1).toNat * 2)).off + 1,none⟩=some (.int .i64 ((rd_T30 l1 x5_1).f1))) (ds:=[]) #[F0,F0,F0,F0,F0,F0,F0,F0,F0,F0] (by kernel_rfl) rfl rfl ⟨((HB.out.cell (World.block_lt_of_cell? w _ hw419_0)).trans hw419_0),((HB.out.cell (World.block_lt_of_cell? w _ hw419_1)).trans hw419_1),((HB.out.cell (World.block_lt_of_cell? w _ hw420_0)).trans hw420_0),((HB.out.cell (World.block_lt_of_cell? w _ hw420_1)).trans hw420_1)⟩ (fun hHeld=>?_);refine with_tabW laws_eqReadingS.tab6 laws_eqReadingS.bits6 (fun HT_ HW_=>?_)
        generalize wr.drew=w11 at HB hx419_0 hx419_1 hx420_0 hx420_1 hHeld ⊢
        refine pure_ (i:=0) (N:=some 17) (v:=?_) (a':=?_) #[T0,F0,F0,F0,F0,F0,F0,F0,F0,F0] rfl rfl (any_of HT_.out (by kernel_rfl)) (fun _ _ _ h=>h) (Or.inl ⟨by rfl,?_⟩) ?_ ?_
        rotate_left
        ·intro w'
         go_simp
         with_reducible rfl
        rotate_left
        ·simp only [Act.put,sI,sZ,sS,i64_w,i32_w]
         rfl
        refine pure_ (i:=1) (N:=some 18) (v:=?_) (a':=?_) #[T0,T0,F0,F0,F0,F0,F0,F0,F0,F0] rfl rfl (any_of HT_.out (by kernel_rfl)) (fun _ _ _ h=>h) (Or.inl ⟨by rfl,?_⟩) ?_ ?_
        rotate_left
        ·intro w'
         go_simp
         with_reducible rfl
        rotate_left
        ·simp only [Act.put,sI,sZ,sS,i64_w,i32_w]
         rfl
        refine pure_ (i:=2) (N:=some 19) (v:=?_) (a':=?_) #[T0,T0,T0,F0,F0,F0,F0,F0,F0,F0] rfl rfl (any_of HT_.out (by kernel_rfl)) (fun _ _ _ h=>h) (Or.inl ⟨by rfl,?_⟩) ?_ ?_
        rotate_left
        ·intro w'
         go_simp
         with_reducible rfl
        rotate_left
        ·simp only [Act.put,sI,sZ,sS,i64_w,i32_w]
         rfl
        refine pure_ (i:=4) (N:=some 21) (v:=?_) (a':=?_) #[T0,T0,T0,F0,T0,F0,F0,F0,F0,F0] rfl rfl (any_of HT_.out (by kernel_rfl)) (fun _ _ _ h=>h) (Or.inl ⟨by rfl,?_⟩) ?_ ?_
        rotate_left
        ·intro w'
         go_simp
         with_reducible rfl
        rotate_left
        ·simp only [Act.put,sI,sZ,sS,i64_w,i32_w]
         rfl
        refine pure_ (i:=5) (N:=some 22) (v:=?_) (a':=?_) #[T0,T0,T0,F0,T0,T0,F0,F0,F0,F0] rfl rfl (any_of HT_.out (by kernel_rfl)) (fun _ _ _ h=>h) (Or.inl ⟨by rfl,?_⟩) ?_ ?_
        rotate_left
        ·intro w'
         go_simp
         with_reducible rfl
        rotate_left
        ·simp only [Act.put,sI,sZ,sS,i64_w,i32_w]
         rfl
        refine pure_ (i:=6) (N:=some 23) (v:=?_) (a':=?_) #[T0,T0,T0,F0,T0,T0,T0,F0,F0,F0] rfl rfl (any_of HT_.out (by kernel_rfl)) (fun _ _ _ h=>h) (Or.inl ⟨by rfl,?_⟩) ?_ ?_
        rotate_left
        ·intro w'
         go_simp
         with_reducible rfl
        rotate_left
        ·simp only [Act.put,sI,sZ,sS,i64_w,i32_w]
         rfl
        refine take_ (i:=3) (N:=some 20) (v:=?_) (a':=?_) #[T0,T0,T0,T0,T0,T0,T0,F0,F0,F0] rfl rfl (take_ofW HT_.out HW_.out (by kernel_rfl)) (fun _ _ _ h=>h) (Or.inl ⟨by rfl,?_⟩) hHeld ?_ ?_
        rotate_left
        ·rintro w' ⟨s0,s1,s2,s3⟩
         go_simp
         with_reducible rfl
        rotate_left
        ·simp only [Act.put,sI,sZ,sS,i64_w,i32_w]
         rfl
        refine take_ (i:=7) (N:=some 24) (v:=?_) (a':=?_) #[T0,T0,T0,T0,T0,T0,T0,T0,F0,F0] rfl rfl (take_ofW HT_.out HW_.out (by kernel_rfl)) (fun _ _ _ h=>h) (Or.inl ⟨by rfl,?_⟩) hHeld ?_ ?_
        rotate_left
        ·rintro w' ⟨s0,s1,s2,s3⟩
         go_simp
         with_reducible rfl
        rotate_left
        ·simp only [Act.put,sI,sZ,sS,i64_w,i32_w]
         rfl
        refine one_ (i:=8) (N:=some 25) #[T0,T0,T0,T0,T0,T0,T0,T0,T0,F0] rfl rfl (one_of HT_.out (by kernel_rfl)) (by decide) (fun K hK=>?_)
        refine goes_ Try.func68 (by kernel_rfl) rfl #[.agg #[.int .i64 ((rd_T30 l0 x5_1).f0),.int .i64 ((rd_T30 l0 x5_1).f1)],.agg #[.int .i64 ((rd_T30 l1 x5_1).f0),.int .i64 ((rd_T30 l1 x5_1).f1)]] (by rfl) rfl rfl mtt ?_
        with_reducible refine (laws_eqReading.calls ((rd_T30 l0 x5_1).f0) ((rd_T30 l0 x5_1).f1) ((rd_T30 l1 x5_1).f0) ((rd_T30 l1 x5_1).f1) false _ A7.out).mono ?_
        rintro e w12 ⟨rfl,hb⟩
        refine ⟨_,rfl,?_⟩
        have n0_:=amk (below_step (bel HB) hb)
        clear HB
        have HB:=n0_
        clear n0_
        (try clear hb)
        (try clear hb2)
        (try clear hk)
        (try clear hi)
        refine hK.out _ _ ⟨((HB.out.cell (World.block_lt_of_cell? w _ hw419_0)).trans hw419_0),((HB.out.cell (World.block_lt_of_cell? w _ hw419_1)).trans hw419_1),((HB.out.cell (World.block_lt_of_cell? w _ hw420_0)).trans hw420_0),((HB.out.cell (World.block_lt_of_cell? w _ hw420_1)).trans hw420_1)⟩ (fun hHeld=>?_)
        clear hK K
        refine norm_ (a':=?_) ?_ ?_
        rotate_left
        ·show Act.put _ (some 25) _=_
         simp only [Act.put,sI,sZ,sS,i64_w,i32_w]
         rfl
        refine pure_ (i:=9) (N:=some 26) (v:=?_) (a':=?_) #[T0,T0,T0,T0,T0,T0,T0,T0,T0,T0] rfl rfl (any_of HT_.out (by kernel_rfl)) (fun _ _ _ h=>h) (Or.inl ⟨by rfl,?_⟩) ?_ ?_
        rotate_left
        ·intro w'
         go_simp
         with_reducible rfl
        rotate_left
        ·simp only [Act.put,sI,sZ,sS,i64_w,i32_w]
         rfl
        refine done_ (done_of HT_.out (by kernel_rfl)) ?_
        try go_wp2
        go_ret
        exact ⟨erw0,bel HB⟩
      ·rw [if_neg c6] at H
       exact absurd H (by simp)
     ·rw [if_neg c5] at H
      exact absurd H (by simp)
    ·rw [if_neg c4] at H
     have c4b0 : decide (x5_1 < (l0.length : Int))=false:=decide_eq_false c4
     clear c4
     obtain rfl:=Option.some.inj H
     go_wp2
     go_ret
     exact ⟨erw0,bel HB⟩
 ·rw [if_neg c3] at H
  have c3b0 : ((l0.length : Int) == (l1.length : Int))=false:=beq_eq_false_iff_ne.mpr c3
  have c3b1 : ((l0.length : Int) != (l1.length : Int))=true:=bne_iff_ne.mpr c3
  have c3b2 : (l0.length == l1.length)=false:=by first | simpa using c3 | (simp at c3 ⊢;omega)
  obtain rfl:=Option.some.inj H
  go_enter Try.func23,Try.ntmps23
  go_wp2
  go_ret
  exact ⟨erw0,bel HB⟩
def laws_markReadingS.l0 : Nat→List (S30)→Int→Int→Option (Int × (List (S30)))
 | 0,_,_,_=>none
 | k + 1,x0,x1,x5=>if x5 < (x0.length : Int) then (if 0≤x5 then ((some (x0.set (x5 : Int).toNat (⟨x1,(rd_T30 x0 x5).f1⟩ : S30) : List (S30))).bind fun y422=>(laws_markReadingS.l0 k (y422.set (x5 : Int).toNat (⟨(rd_T30 y422 x5).f0,wrap64 (x1 + 1)⟩ : S30)) (wrap64 ((wrap64 (x1 + 1)) + 1)) (wrap64 (x5 + 1)))) else (none)) else (some (x1,x0))
def laws_markReadingS.f (k : Nat) (l0 : List (S30)) (a1 : Int) : Option (Int × (List (S30))):=laws_markReadingS.l0 k l0 a1 0
theorem laws_markReadingS.mono_l : ∀ k,(∀ y0 y1 y2,LeO (laws_markReadingS.l0 k y0 y1 y2) (laws_markReadingS.l0 (k + 1) y0 y1 y2))
 | 0=>fun _ _ _ r h=>by simp [laws_markReadingS.l0] at h
 | k + 1=>by
  have ih0:=laws_markReadingS.mono_l k
  ·intro y0 y1 y2
   unfold laws_markReadingS.l0
   repeat' first
   | (with_reducible exact ih0 _ _ _)
   | (with_reducible exact LeO.refl _)
   | (with_reducible exact LeO.none _)
   | (with_reducible refine LeO.ite ?_ ?_)
   | (with_reducible refine LeO.bind ?_ (fun _=>?_))
   | exact ih0 _ _ _
theorem laws_markReadingS.mono : ∀ a0 a1 k,LeO (laws_markReadingS.f k a0 a1) (laws_markReadingS.f (k + 1) a0 a1):=by
 intro a0 a1 k
 have ih0:=laws_markReadingS.mono_l k
 unfold laws_markReadingS.f
 repeat' first
   | (with_reducible exact ih0 _ _ _)
   | (with_reducible exact LeO.refl _)
   | (with_reducible exact LeO.none _)
   | (with_reducible refine LeO.ite ?_ ?_)
   | (with_reducible refine LeO.bind ?_ (fun _=>?_))
   | exact ih0 _ _ _
set_option maxHeartbeats 8000000 in
set_option maxRecDepth 100000 in
theorem laws_markReadingS.calls (k : Nat) (P0_ : Nat→Prop) (u9000_ : Value) (l0 : List (S30)) (a1 : Int) (r1 : Int) (r2 : List (S30)) (w0 w : World) (hB : Below w0.heap.size w0 w) (ho0 : Kd.R k30 30 w w0.heap.size P0_ u9000_ l0) (h : laws_markReadingS.f k l0 a1=some (r1,r2)) :
  Calls Try.prog 24 #[u9000_,.int .i64 a1] w fun e w'=>e = .returned (.int .i64 r1)∧Kd.R k30 30 w' w0.heap.size (fun k_=>(P0_ k_ ∨ w.heap.size≤k_)) u9000_ r2∧Below w0.heap.size w0 w'∧Kept w w' (fun k_=>P0_ k_):=by
 have HO0:=amk (show Kd.R k30 30 w w0.heap.size (fun k_=>(P0_ k_ ∨ w.heap.size≤k_)) u9000_ l0 from Kd.R_mono ho0 (fun k_ hk=>(.inl hk)))
 have HK:=amk (Kept.refl w (fun k_=>P0_ k_))
 have HW0:=amk hB.size
 have HB:=amk hB
 clear hB
 have H : (laws_markReadingS.l0 k l0 a1 0)=some (r1,r2):=h
 clear h
 have H':=amk H
 clear H
 go_enter Try.func24,Try.ntmps24
 go_wp2
 go_loopg [1,5] k (fun kq v1 v5 w'=>∃ (x0_1 : List (S30)) (x1_1 : Int) (x5_1 : Int),v1 = .int .i64 x1_1∧v5 = .int .i64 x5_1∧Aside0 (laws_markReadingS.l0 kq x0_1 x1_1 x5_1=some (r1,r2))∧Aside0 (kq≤k)∧Aside0 (Kd.R k30 30 w' w0.heap.size (fun k_=>(P0_ k_ ∨ w.heap.size≤k_)) u9000_ x0_1)∧Aside0 (Kept w w' (fun k_=>P0_ k_))∧Aside0 (Below w0.heap.size w0 w'))
 case atStart=>exact ⟨(l0),(a1),(0),rsd,rsd,H',⟨Nat.le_refl _⟩,⟨rrr HO0⟩,⟨by repeat (first | (with_reducible first | exact HK.out | apply Kept.alloc | apply Kept.drewN | apply Kept.drew) | exact HK.out)⟩,⟨bel HB⟩⟩
 case round=>
  clear H'
  try clear c2
  try clear p2
  obtain ⟨x0_1,x1_1,x5_1,rfl,rfl,HA,HK1,HO_0,HK,HB⟩:=hrel
  cases gk with
  | zero=>exact absurd HA.out (by simp [laws_markReadingS.l0])
  | succ k1=>
   have H:=HA.out
   clear HA
   simp only [laws_markReadingS.l0] at H
   by_cases c3 : x5_1 < (x0_1.length : Int)
   ·rw [if_pos c3] at H
    have c3b0 : decide (x5_1 < (x0_1.length : Int))=true:=decide_eq_true c3
    clear c3
    by_cases c4 : 0≤x5_1
    ·rw [if_pos c4] at H
     have c4b0 : decide (0≤x5_1)=true:=decide_eq_true c4
     clear c4
     obtain ⟨y422,hy422⟩ : ∃ y_ : List (S30),y_=(x0_1.set (x5_1 : Int).toNat (⟨x1_1,(rd_T30 x0_1 x5_1).f1⟩ : S30)):=⟨_,rfl⟩
     replace H : (laws_markReadingS.l0 k1 (y422.set (x5_1 : Int).toNat (⟨(rd_T30 y422 x5_1).f0,wrap64 (x1_1 + 1)⟩ : S30)) (wrap64 ((wrap64 (x1_1 + 1)) + 1)) (wrap64 (x5_1 + 1)))=some (r1,r2):=by first | (rw [hy422];with_reducible exact H)|(have H2_:=(Option.bind_some _ _).symm.trans H;rw [hy422];with_reducible exact H2_)|(have H2_:=(Option.bind_some _ _).symm.trans H;with_reducible exact H2_) | with_reducible exact H | (rw [hy422];exact H) | exact H
     have Ny422:=amk hy422
     clear hy422
     obtain ⟨y423,hy423⟩ : ∃ y_ : List (S30),y_=(y422.set (x5_1 : Int).toNat (⟨(rd_T30 y422 x5_1).f0,wrap64 (x1_1 + 1)⟩ : S30)):=⟨_,rfl⟩
     replace H : (laws_markReadingS.l0 k1 y423 (wrap64 ((wrap64 (x1_1 + 1)) + 1)) (wrap64 (x5_1 + 1)))=some (r1,r2):=by first | (rw [hy423];with_reducible exact H)|(have H2_:=(Option.bind_some _ _).symm.trans H;rw [hy423];with_reducible exact H2_)|(have H2_:=(Option.bind_some _ _).symm.trans H;with_reducible exact H2_) | with_reducible exact H | (rw [hy423];exact H) | exact H
     have Ny423:=amk hy423
     clear hy423
     have H':=amk H
     clear H
     obtain ⟨Ao7,co7,eo7⟩:=Kd.R_slice HO_0.out
     subst eo7
     have p5 : 0≤(x5_1 : Int):=of_decide_eq_true ass
     have q5 : (x5_1 : Int) < ((x0_1.length : Int) : Int):=of_decide_eq_true ass
     obtain ⟨go5,co5,eo5,gb5,gl5,cl5,HG5⟩:=Kd.R_form HO_0.out (by omega)
     (first | cases eo5 | (injection eo5 with ea_ en_ ec_;(first | subst ea_ | (injection ea_ with ea_;subst ea_));subst ec_;clear en_))
     have GB5:=amk gb5
     have GG5:=amk HG5
     clear gb5 gl5 HG5
     have HMgo5:=amk (show (P0_ go5 ∨ w.heap.size≤go5) from (HO_0.out.1 _ rfl))
     obtain ⟨ce5,hcl5,hM5,hcc5,hfr5⟩:=Kd.R_elem HO_0.out z30 (x5_1 : Int) p5 q5
     obtain rfl:=k30_openM hM5
     have hx5_0 : wr.cell? ⟨go5,(x5_1 : Int).toNat * 2,none⟩=some (.int .i64 ((rd_T30 x0_1 x5_1).f0)):=hcc5 0 _ rfl
     have hx5_1 : wr.cell? ⟨go5,(x5_1 : Int).toNat * 2 + 1,none⟩=some (.int .i64 ((rd_T30 x0_1 x5_1).f1)):=hcc5 1 _ rfl
     have hf5_0 : wr.frozen? ⟨go5,(x5_1 : Int).toNat * 2,none⟩=false:=hfr5 0
     have hf5_1 : wr.frozen? ⟨go5,(x5_1 : Int).toNat * 2 + 1,none⟩=false:=hfr5 1
     ((try clear hcl5);(try clear hcc5);(try clear hfr5);(try clear hM5))
     replace p5:=eq_true p5
     replace q5:=eq_true q5
     have HX8:=amk (show Kd.R k30 30 wr w0.heap.size (fun k_=>(P0_ k_ ∨ w.heap.size≤k_)) (.slice (some ⟨go5,0,none⟩) x0_1.length co7) x0_1 from (rrr HO_0))
     obtain ⟨ce8,hcl8,hM8,hcc8,hfr8⟩:=Kd.R_elem HX8.out z30 (x5_1 : Int) (of_decide_eq_true ass) (by have h_ : (x5_1 : Int) < ((x0_1.length : Int) : Int):=of_decide_eq_true ass;first | exact h_ | (have e_:=(Kd.R_reads' HO_0.out).1;omega) | simpa using h_)
     obtain rfl:=k30_openM hM8
     have HP8:=Kd.R_seg HX8.out (x5_1 : Int) (of_decide_eq_true ass) (by have h_ : (x5_1 : Int) < ((x0_1.length : Int) : Int):=of_decide_eq_true ass;first | exact h_ | (have e_:=(Kd.R_reads' HO_0.out).1;omega) | simpa using h_) (seg:=[.int .i64 x1_1]) (j:=0) hcl8 hcc8 (show 1≤2 from by decide) (x':=(⟨x1_1,(rd_T30 x0_1 x5_1).f1⟩ : S30)) (k30_mkM _ _ _ (⟨x1_1,(rd_T30 x0_1 x5_1).f1⟩ : S30)) (fun _ hk=>hk)
     have hx8_0:=hcc8 0 _ rfl
     (try simp only [show (k30).sz=2 from rfl,Nat.mul_one,Nat.add_zero] at hx8_0)
     have hf8_0:=hfr8 0
     (try simp only [show (k30).sz=2 from rfl,Nat.mul_one,Nat.add_zero] at hf8_0)
     ((try clear hcl8);(try clear hcc8);(try clear hfr8);(try clear hM8))
     go_wp2_with (first | ((with_reducible refine gate_store (t:=3) (p:=16) rfl ?_);refine store_event (t:=3) (p:=16) (v:=?vo_w9) (w1:=(wr.setCell ⟨go5,(x5_1 : Int).toNat * 2,none⟩ (.int .i64 x1_1))) ?hg ?ho ?hn ?hr ?_;(case ho=>rfl);(case hg=>rfl);(case hn=>rfl);(case hr=>first | (go_simp;done)|(go_simp;rfl));intro w9 hw;have hg : wr.grownBy w9 (some go5):=(by rw [hw];exact HP8.2);have hp_ : Kd.R k30 30 w9 w0.heap.size (fun k_=>(P0_ k_ ∨ w.heap.size≤k_)) (.slice (some ⟨go5,0,none⟩) x0_1.length co7) y422:=(by rw [hw,Ny422.out];exact HP8.1);clear HP8;replace HB:=amk ((by rw [hw];exact below_set (HB.out) GB5.out : Below w0.heap.size w0 w9));replace HK:=amk (Kept.of_grown (S:=(fun k_=>P0_ k_)) hg (by repeat (first | (with_reducible first | exact HK.out | apply Kept.alloc | apply Kept.drewN | apply Kept.drew) | exact HK.out)) (fun k_ e_=>(HO_0.out.1 k_ e_)));replace HO_0:=amk (hp_);clear hg hw hp_;have p6 : 0≤(x5_1 : Int):=of_decide_eq_true ass;have q6 : (x5_1 : Int) < ((x0_1.length : Int) : Int):=of_decide_eq_true ass;obtain ⟨ce6,hcl6,hM6,hcc6,hfr6⟩:=Kd.R_elem HO_0.out z30 (x5_1 : Int) p6 q6;obtain rfl:=k30_openM hM6;have hx6_0 : w9.cell? ⟨go5,(x5_1 : Int).toNat * 2,none⟩=some (.int .i64 ((rd_T30 y422 x5_1).f0)):=hcc6 0 _ rfl;have hx6_1 : w9.cell? ⟨go5,(x5_1 : Int).toNat * 2 + 1,none⟩=some (.int .i64 ((rd_T30 y422 x5_1).f1)):=hcc6 1 _ rfl;have hf6_0 : w9.frozen? ⟨go5,(x5_1 : Int).toNat * 2,none⟩=false:=hfr6 0;have hf6_1 : w9.frozen? ⟨go5,(x5_1 : Int).toNat * 2 + 1,none⟩=false:=hfr6 1;((try clear hcl6);(try clear hcc6);(try clear hfr6);(try clear hM6));replace p6:=eq_true p6;replace q6:=eq_true q6;have HX10:=amk (show Kd.R k30 30 w9 w0.heap.size (fun k_=>(P0_ k_ ∨ w.heap.size≤k_)) (.slice (some ⟨go5,0,none⟩) x0_1.length co7) y422 from (rrr HO_0));obtain ⟨ce10,hcl10,hM10,hcc10,hfr10⟩:=Kd.R_elem HX10.out z30 (x5_1 : Int) (of_decide_eq_true ass) (by have h_ : (x5_1 : Int) < ((x0_1.length : Int) : Int):=of_decide_eq_true ass;first | exact h_ | (have e_:=(Kd.R_reads' HO_0.out).1;omega) | simpa using h_);obtain rfl:=k30_openM hM10;have HP10:=Kd.R_seg HX10.out (x5_1 : Int) (of_decide_eq_true ass) (by have h_ : (x5_1 : Int) < ((x0_1.length : Int) : Int):=of_decide_eq_true ass;first | exact h_ | (have e_:=(Kd.R_reads' HO_0.out).1;omega) | simpa using h_) (seg:=[.int .i64 (wrap64 (x1_1 + 1))]) (j:=1) hcl10 hcc10 (show 2≤2 from by decide) (x':=(⟨(rd_T30 y422 x5_1).f0,wrap64 (x1_1 + 1)⟩ : S30)) (k30_mkM _ _ _ (⟨(rd_T30 y422 x5_1).f0,wrap64 (x1_1 + 1)⟩ : S30)) (fun _ hk=>hk);have hx10_1:=hcc10 1 _ rfl;(try simp only [show (k30).sz=2 from rfl,Nat.mul_one,Nat.add_zero] at hx10_1);have hf10_1:=hfr10 1;(try simp only [show (k30).sz=2 from rfl,Nat.mul_one,Nat.add_zero] at hf10_1);((try clear hcl10);(try clear hcc10);(try clear hfr10);(try clear hM10)))|((with_reducible refine gate_store (t:=3) (p:=23) rfl ?_);refine store_event (t:=3) (p:=23) (v:=?vo_w11) (w1:=(w9.setCell ⟨go5,(x5_1 : Int).toNat * 2 + 1,none⟩ (.int .i64 (wrap64 (x1_1 + 1))))) ?hg ?ho ?hn ?hr ?_;(case ho=>rfl);(case hg=>rfl);(case hn=>rfl);(case hr=>first | (go_simp;done)|(go_simp;rfl));intro w11 hw;have hg : w9.grownBy w11 (some go5):=(by rw [hw];exact HP10.2);have hp_ : Kd.R k30 30 w11 w0.heap.size (fun k_=>(P0_ k_ ∨ w.heap.size≤k_)) (.slice (some ⟨go5,0,none⟩) x0_1.length co7) y423:=(by rw [hw,Ny423.out];exact HP10.1);clear HP10;replace HB:=amk ((by rw [hw];exact below_set (HB.out) GB5.out : Below w0.heap.size w0 w11));replace HK:=amk (Kept.of_grown (S:=(fun k_=>P0_ k_)) hg (by repeat (first | (with_reducible first | exact HK.out | apply Kept.alloc | apply Kept.drewN | apply Kept.drew) | exact HK.out)) (fun k_ e_=>(HO_0.out.1 k_ e_)));replace HO_0:=amk (hp_);clear hg hw hp_))
     go_roundg k1
     case measure=>have:=HK1.out;omega
     case rel=>exact ⟨(y423),(wrap64 ((wrap64 (x1_1 + 1)) + 1)),(wrap64 (x5_1 + 1)),rsd,rsd,H',⟨by have:=HK1.out;omega⟩,⟨rrr HO_0⟩,⟨by repeat (first | (with_reducible first | exact HK.out | apply Kept.alloc | apply Kept.drewN | apply Kept.drew) | exact HK.out)⟩,⟨bel HB⟩⟩
    ·rw [if_neg c4] at H
     exact absurd H (by simp)
   ·rw [if_neg c3] at H
    have c3b0 : decide (x5_1 < (x0_1.length : Int))=false:=decide_eq_false c3
    clear c3
    simp only [Option.some.injEq,Prod.mk.injEq] at H
    obtain ⟨rfl,rfl⟩:=H
    obtain ⟨Ao12,co12,eo12⟩:=Kd.R_slice HO_0.out
    subst eo12
    go_wp2
    go_ret
    exact ⟨erw0,rrr HO_0,bel HB,by repeat (first | (with_reducible first | exact HK.out | apply Kept.alloc | apply Kept.drewN | apply Kept.drew) | exact HK.out)⟩
def laws_markIntS.l0 : Nat→List Int→Int→Int→Option (Int × List Int)
 | 0,_,_,_=>none
 | k + 1,x0,x1,x5=>if x5 < (x0.length : Int) then (if 0≤x5 then (laws_markIntS.l0 k (x0.set (x5 : Int).toNat x1) (wrap64 (x1 + 1)) (wrap64 (x5 + 1))) else (none)) else (some (x1,x0))
def laws_markIntS.f (k : Nat) (l0 : List Int) (a1 : Int) : Option (Int × List Int):=laws_markIntS.l0 k l0 a1 0
theorem laws_markIntS.mono_l : ∀ k,(∀ y0 y1 y2,LeO (laws_markIntS.l0 k y0 y1 y2) (laws_markIntS.l0 (k + 1) y0 y1 y2))
 | 0=>fun _ _ _ r h=>by simp [laws_markIntS.l0] at h
 | k + 1=>by
  have ih0:=laws_markIntS.mono_l k
  ·intro y0 y1 y2
   unfold laws_markIntS.l0
   repeat' first
   | (with_reducible exact ih0 _ _ _)
   | (with_reducible exact LeO.refl _)
   | (with_reducible exact LeO.none _)
   | (with_reducible refine LeO.ite ?_ ?_)
   | (with_reducible refine LeO.bind ?_ (fun _=>?_))
   | exact ih0 _ _ _
theorem laws_markIntS.mono : ∀ a0 a1 k,LeO (laws_markIntS.f k a0 a1) (laws_markIntS.f (k + 1) a0 a1):=by
 intro a0 a1 k
 have ih0:=laws_markIntS.mono_l k
 unfold laws_markIntS.f
 repeat' first
   | (with_reducible exact ih0 _ _ _)
   | (with_reducible exact LeO.refl _)
   | (with_reducible exact LeO.none _)
   | (with_reducible refine LeO.ite ?_ ?_)
   | (with_reducible refine LeO.bind ?_ (fun _=>?_))
   | exact ih0 _ _ _
set_option maxHeartbeats 8000000 in
set_option maxRecDepth 100000 in
theorem laws_markIntS.calls (k : Nat) (P0_ : Nat→Prop) (u9000_ : Value) (l0 : List Int) (a1 : Int) (r1 : Int) (r2 : List Int) (w0 w : World) (hB : Below w0.heap.size w0 w) (ho0 : Kd.R (Kd.int .i64) 3 w w0.heap.size P0_ u9000_ l0) (h : laws_markIntS.f k l0 a1=some (r1,r2)) :
  Calls Try.prog 69 #[u9000_,.int .i64 a1] w fun e w'=>e = .returned (.int .i64 r1)∧Kd.R (Kd.int .i64) 3 w' w0.heap.size (fun k_=>(P0_ k_ ∨ w.heap.size≤k_)) u9000_ r2∧Below w0.heap.size w0 w'∧Kept w w' (fun k_=>P0_ k_):=by
 have HO0:=amk (show Kd.R (Kd.int .i64) 3 w w0.heap.size (fun k_=>(P0_ k_ ∨ w.heap.size≤k_)) u9000_ l0 from Kd.R_mono ho0 (fun k_ hk=>(.inl hk)))
 have HK:=amk (Kept.refl w (fun k_=>P0_ k_))
 have HW0:=amk hB.size
 have HB:=amk hB
 clear hB
 have H : (laws_markIntS.l0 k l0 a1 0)=some (r1,r2):=h
 clear h
 have H':=amk H
 clear H
 go_enter Try.func69,Try.ntmps69
 go_wp2
 go_loopg [1,5] k (fun kq v1 v5 w'=>∃ (x0_1 : List Int) (x1_1 : Int) (x5_1 : Int),v1 = .int .i64 x1_1∧v5 = .int .i64 x5_1∧Aside0 (laws_markIntS.l0 kq x0_1 x1_1 x5_1=some (r1,r2))∧Aside0 (kq≤k)∧Aside0 (Kd.R (Kd.int .i64) 3 w' w0.heap.size (fun k_=>(P0_ k_ ∨ w.heap.size≤k_)) u9000_ x0_1)∧Aside0 (Kept w w' (fun k_=>P0_ k_))∧Aside0 (Below w0.heap.size w0 w'))
 case atStart=>exact ⟨(l0),(a1),(0),rsd,rsd,H',⟨Nat.le_refl _⟩,⟨rrr HO0⟩,⟨by repeat (first | (with_reducible first | exact HK.out | apply Kept.alloc | apply Kept.drewN | apply Kept.drew) | exact HK.out)⟩,⟨bel HB⟩⟩
 case round=>
  clear H'
  try clear p2
  obtain ⟨x0_1,x1_1,x5_1,rfl,rfl,HA,HK1,HO_0,HK,HB⟩:=hrel
  cases gk with
  | zero=>exact absurd HA.out (by simp [laws_markIntS.l0])
  | succ k1=>
   have H:=HA.out
   clear HA
   simp only [laws_markIntS.l0] at H
   by_cases c3 : x5_1 < (x0_1.length : Int)
   ·rw [if_pos c3] at H
    have c3b0 : decide (x5_1 < (x0_1.length : Int))=true:=decide_eq_true c3
    clear c3
    by_cases c4 : 0≤x5_1
    ·rw [if_pos c4] at H
     have c4b0 : decide (0≤x5_1)=true:=decide_eq_true c4
     clear c4
     obtain ⟨y424,hy424⟩ : ∃ y_ : List Int,y_=(x0_1.set (x5_1 : Int).toNat x1_1):=⟨_,rfl⟩
     replace H : (laws_markIntS.l0 k1 y424 (wrap64 (x1_1 + 1)) (wrap64 (x5_1 + 1)))=some (r1,r2):=by first | (rw [hy424];with_reducible exact H)|(have H2_:=(Option.bind_some _ _).symm.trans H;rw [hy424];with_reducible exact H2_)|(have H2_:=(Option.bind_some _ _).symm.trans H;with_reducible exact H2_) | with_reducible exact H | (rw [hy424];exact H) | exact H
     have Ny424:=amk hy424
     clear hy424
     have H':=amk H
     clear H
     obtain ⟨Ao6,co6,eo6⟩:=Kd.R_slice HO_0.out
     subst eo6
     have p5 : 0≤(x5_1 : Int):=of_decide_eq_true ass
     have q5 : (x5_1 : Int) < ((x0_1.length : Int) : Int):=of_decide_eq_true ass
     obtain ⟨go5,co5,eo5,gb5,gl5,cl5,HG5⟩:=Kd.R_form HO_0.out (by omega)
     (first | cases eo5 | (injection eo5 with ea_ en_ ec_;(first | subst ea_ | (injection ea_ with ea_;subst ea_));subst ec_;clear en_))
     have GB5:=amk gb5
     have GG5:=amk HG5
     clear gb5 gl5 HG5
     have HMgo5:=amk (show (P0_ go5 ∨ w.heap.size≤go5) from (HO_0.out.1 _ rfl))
     obtain ⟨hx5_0,hf5_0⟩:=Kd.R_celln 0 HO_0.out (x5_1 : Int) p5 q5
     replace p5:=eq_true p5
     replace q5:=eq_true q5
     have HP7:=Kd.R_putg HO_0.out (x5_1 : Int) x1_1
     go_wp2_with (first | ((with_reducible refine gate_store (t:=3) (p:=15) rfl ?_);refine store_event (t:=3) (p:=15) (v:=?vo_w8) (w1:=(wr.setCell ⟨go5,(x5_1 : Int).toNat,none⟩ (.int .i64 x1_1))) ?hg ?ho ?hn ?hr ?_;(case ho=>rfl);(case hg=>rfl);(case hn=>rfl);(case hr=>first | (go_simp;done)|(go_simp;rfl));intro w8 hw;have hg : wr.grownBy w8 (some go5):=(by rw [hw];exact HP7.2);have hp_ : Kd.R (Kd.int .i64) 3 w8 w0.heap.size (fun k_=>(P0_ k_ ∨ w.heap.size≤k_)) (.slice (some ⟨go5,0,none⟩) x0_1.length co6) y424:=(by rw [hw,Ny424.out];exact HP7.1);clear HP7;replace HB:=amk ((by rw [hw];exact below_set (HB.out) GB5.out : Below w0.heap.size w0 w8));replace HK:=amk (Kept.of_grown (S:=(fun k_=>P0_ k_)) hg (by repeat (first | (with_reducible first | exact HK.out | apply Kept.alloc | apply Kept.drewN | apply Kept.drew) | exact HK.out)) (fun k_ e_=>(HO_0.out.1 k_ e_)));replace HO_0:=amk (hp_);clear hg hw hp_))
     go_roundg k1
     case measure=>have:=HK1.out;omega
     case rel=>exact ⟨(y424),(wrap64 (x1_1 + 1)),(wrap64 (x5_1 + 1)),rsd,rsd,H',⟨by have:=HK1.out;omega⟩,⟨rrr HO_0⟩,⟨by repeat (first | (with_reducible first | exact HK.out | apply Kept.alloc | apply Kept.drewN | apply Kept.drew) | exact HK.out)⟩,⟨bel HB⟩⟩
    ·rw [if_neg c4] at H
     exact absurd H (by simp)
   ·rw [if_neg c3] at H
    have c3b0 : decide (x5_1 < (x0_1.length : Int))=false:=decide_eq_false c3
    clear c3
    simp only [Option.some.injEq,Prod.mk.injEq] at H
    obtain ⟨rfl,rfl⟩:=H
    obtain ⟨Ao9,co9,eo9⟩:=Kd.R_slice HO_0.out
    subst eo9
    go_wp2
    go_ret
    exact ⟨erw0,rrr HO_0,bel HB,by repeat (first | (with_reducible first | exact HK.out | apply Kept.alloc | apply Kept.drewN | apply Kept.drew) | exact HK.out)⟩
def laws_markIntSS.rd (xs : List (List Int)) (i : Int) : List Int:=xs.getD i.toNat []
def laws_markIntSS.l0 : Nat→List (List Int)→Int→Int→Option (Int × List (List Int))
 | 0,_,_,_=>none
 | k + 1,x0,x1,x5=>if x5 < (x0.length : Int) then (if 0≤x5 then ((laws_markIntS.f k (laws_markIntSS.rd x0 x5) x1).bind fun bt=>(laws_markIntSS.l0 k (x0.set (x5 : Int).toNat bt.2) bt.1 (wrap64 (x5 + 1)))) else (none)) else (some (x1,x0))
def laws_markIntSS.f (k : Nat) (l0 : List (List Int)) (a1 : Int) : Option (Int × List (List Int)):=laws_markIntSS.l0 k l0 a1 0
theorem laws_markIntSS.mono_l : ∀ k,(∀ y0 y1 y2,LeO (laws_markIntSS.l0 k y0 y1 y2) (laws_markIntSS.l0 (k + 1) y0 y1 y2))
 | 0=>fun _ _ _ r h=>by simp [laws_markIntSS.l0] at h
 | k + 1=>by
  have ih0:=laws_markIntSS.mono_l k
  ·intro y0 y1 y2
   unfold laws_markIntSS.l0
   repeat' first
   | (with_reducible exact ih0 _ _ _)
   | (with_reducible exact laws_markIntS.mono _ _ _)
   | (with_reducible exact LeO.refl _)
   | (with_reducible exact LeO.none _)
   | (with_reducible refine LeO.ite ?_ ?_)
   | (with_reducible refine LeO.bind ?_ (fun _=>?_))
   | exact ih0 _ _ _
theorem laws_markIntSS.mono : ∀ a0 a1 k,LeO (laws_markIntSS.f k a0 a1) (laws_markIntSS.f (k + 1) a0 a1):=by
 intro a0 a1 k
 exact laws_markIntSS.mono_l k _ _ _
set_option maxHeartbeats 8000000 in
set_option maxRecDepth 100000 in
theorem laws_markIntSS.calls (k : Nat) (P0_ : Nat→Prop) (u9000_ : Value) (l0 : List (List Int)) (a1 : Int) (r1 : Int) (r2 : List (List Int)) (w0 w : World) (hB : Below w0.heap.size w0 w) (ho0 : Kd.S (Kd.slice 3 (Kd.int .i64)) 63 w w0.heap.size P0_ u9000_ l0) (h : laws_markIntSS.f k l0 a1=some (r1,r2)) :
  Calls Try.prog 25 #[u9000_,.int .i64 a1] w fun e w'=>e = .returned (.int .i64 r1)∧Kd.S (Kd.slice 3 (Kd.int .i64)) 63 w' w0.heap.size (fun k_=>(P0_ k_ ∨ w.heap.size≤k_)) u9000_ r2∧Below w0.heap.size w0 w'∧Kept w w' (fun k_=>P0_ k_):=by
 have HO0:=amk (show Kd.S (Kd.slice 3 (Kd.int .i64)) 63 w w0.heap.size (fun k_=>(P0_ k_ ∨ w.heap.size≤k_)) u9000_ l0 from Kd.S_mono ho0 (fun k_ hk=>(.inl hk)))
 have HK:=amk (Kept.refl w (fun k_=>P0_ k_))
 have HB:=amk hB
 clear hB
 have H':=amk (show (laws_markIntSS.l0 k l0 a1 0)=some (r1,r2) from h)
 clear h
 go_enter Try.func25,Try.ntmps25
 go_wp2
 go_loopg [1,5] k (fun kq v1 v5 w'=>∃ (x0_1 : List (List Int)) (x1_1 : Int) (x5_1 : Int),v1 = .int .i64 x1_1∧v5 = .int .i64 x5_1∧Aside0 (laws_markIntSS.l0 kq x0_1 x1_1 x5_1=some (r1,r2))∧Aside0 (kq≤k)∧Aside0 (Kd.S (Kd.slice 3 (Kd.int .i64)) 63 w' w0.heap.size (fun k_=>(P0_ k_ ∨ w.heap.size≤k_)) u9000_ x0_1)∧Aside0 (Kept w w' (fun k_=>P0_ k_))∧Aside0 (Below w0.heap.size w0 w'))
 case atStart=>exact ⟨(l0),(a1),(0),rfl,rfl,H',⟨Nat.le_refl _⟩,⟨sss HO0⟩,⟨by repeat (first | (with_reducible first | exact HK.out | apply Kept.alloc | apply Kept.drewN | apply Kept.drew) | exact HK.out)⟩,⟨bel HB⟩⟩
 case round=>
  clear H'
  obtain ⟨x0_1,x1_1,x5_1,rfl,rfl,HA,HK1,HO_0,HK,HB⟩:=hrel
  cases gk with
  | zero=>exact absurd HA.out (by simp [laws_markIntSS.l0])
  | succ k1=>
   have H:=HA.out
   clear HA
   simp only [laws_markIntSS.l0] at H
   by_cases c3 : x5_1 < (x0_1.length : Int)
   ·rw [if_pos c3] at H
    have c3b0 : decide (x5_1 < (x0_1.length : Int))=true:=decide_eq_true c3
    by_cases c4 : 0≤x5_1
    ·rw [if_pos c4] at H
     have c4b0 : decide (0≤x5_1)=true:=decide_eq_true c4
     replace H:=obs H
     obtain ⟨⟨t1,t2⟩,A50,H⟩:=H
     replace H : laws_markIntSS.l0 k1 (x0_1.set (x5_1 : Int).toNat t2) t1 (wrap64 (x5_1 + 1))=some (r1,r2):=H
     have H':=amk H
     clear H
     have A5:=amk A50
     clear A50
     obtain ⟨go5,co5,eo5,gb5,gl5,cl5,HG5⟩:=Kd.S_form HO_0.out (by omega)
     subst eo5
     have GB5:=amk gb5
     clear gb5
     obtain ⟨oki,cs,hcl,hM,hcc,hoki,hH⟩:=Kd.S_lend HO_0.out ([] : List Int) x5_1 c4 c3
     obtain ⟨ve,rfl,hR⟩:=hM
     have hcell : wr.cell? ⟨go5,x5_1.toNat,none⟩=some ve:=by have:=hcc 0 ve rfl;rwa [show x5_1.toNat * (Kd.slice 3 (Kd.int .i64)).sz + 0=x5_1.toNat from Nat.mul_one _] at this
     clear hcc
     replace hR : Kd.R (Kd.int .i64) 3 wr w0.heap.size oki ve (laws_markIntSS.rd x0_1 x5_1):=hR
     obtain ⟨Ae,ce,ee⟩:=Kd.R_slice hR
     subst ee
     have hfz:=(Kd.S_own HO_0.out)
     have HR5:=amk hR
     have HH5:=amk hH
     have HL5:=amk hoki
     clear hR hH hoki hcl hfz
     replace c3:=eq_true c3
     replace c4:=eq_true c4
     go_wp2_with (first | ((with_reducible refine gate_callee (f:=69) rfl ?_);refine goesL_ (some 17) rfl rfl Try.func69 (by kernel_rfl) rfl #[.slice Ae (laws_markIntSS.rd x0_1 x5_1).length ce,.int .i64 x1_1] rfl (by (try simp only [List.map_toArray,List.map_cons,List.map_nil]);first | done | rfl) ?_;(with_reducible refine (laws_markIntS.calls k1 oki _ (laws_markIntSS.rd x0_1 x5_1) x1_1 t1 t2 w0 _ ?side1 ?side2 A5.out).mono ?_);(case side1=>exact bel HB);(case side2=>((with_reducible repeat (first | apply Kd.R_alloc | apply Kd.R_drewN | apply Kd.R_drew));exact HR5.out));rintro e w7 ⟨rfl,hr2,hb2,hk2⟩;refine ⟨_,rfl,?_⟩;have n0_:=amk (hb2);have n1_:=amk (Kd.H_back (Kd.H_step (Kd.H_widen HH5.out) (fun k_ _ hn hlt=>hk2.2 k_ hlt (fun ho=>hn (.inl ho)))) ⟨_,rfl,hr2⟩ (fun k_ hk_=>hk_.elim .inl (fun h2=>.inr ⟨.inr (Nat.le_trans HK.out.1 h2),h2⟩)));have n2_:=amk (Kept.then_ HK.out hk2 (fun k_ h2=>(HL5.out k_ h2).1));clear HB;clear HK;clear HO_0;clear HR5 HH5;have HB:=n0_;have HO_0:=n1_;have HK:=n2_;clear n0_ n1_ n2_;clear hr2 hb2 hk2))
     go_roundg k1
     case measure=>have:=HK1.out;omega
     case rel=>exact ⟨(x0_1.set (x5_1 : Int).toNat t2),t1,(wrap64 (x5_1 + 1)),rfl,rfl,H',⟨by have:=HK1.out;omega⟩,⟨sss HO_0⟩,⟨by repeat (first | (with_reducible first | exact HK.out | apply Kept.alloc | apply Kept.drewN | apply Kept.drew) | exact HK.out)⟩,⟨bel HB⟩⟩
    ·rw [if_neg c4] at H
     exact absurd H (by simp)
   ·rw [if_neg c3] at H
    have c3b0 : decide (x5_1 < (x0_1.length : Int))=false:=decide_eq_false c3
    clear c3
    simp only [Option.some.injEq,Prod.mk.injEq] at H
    obtain ⟨rfl,rfl⟩:=H
    obtain ⟨Ao9,co9,eo9⟩:=Kd.S_slice HO_0.out
    subst eo9
    go_wp2
    go_ret
    exact ⟨rfl,sss HO_0,bel HB,by repeat (first | (with_reducible first | exact HK.out | apply Kept.alloc | apply Kept.drewN | apply Kept.drew) | exact HK.out)⟩
def laws_heldIntS.l0 : Nat→List Int→Int→Int→Option (Int)
 | 0,_,_,_=>none
 | k + 1,x0,x1,x5=>if x5 < (x0.length : Int) then (if 0≤x5 then (if (rd x0 x5)=x1 then (laws_heldIntS.l0 k x0 (wrap64 (x1 + 1)) (wrap64 (x5 + 1))) else (some (-1))) else (none)) else (some x1)
def laws_heldIntS.f (k : Nat) (l0 : List Int) (a1 : Int) : Option (Int):=laws_heldIntS.l0 k l0 a1 0
theorem laws_heldIntS.mono_l : ∀ k,(∀ y0 y1 y2,LeO (laws_heldIntS.l0 k y0 y1 y2) (laws_heldIntS.l0 (k + 1) y0 y1 y2))
 | 0=>fun _ _ _ r h=>by simp [laws_heldIntS.l0] at h
 | k + 1=>by
  have ih0:=laws_heldIntS.mono_l k
  ·intro y0 y1 y2
   unfold laws_heldIntS.l0
   repeat' first
   | (with_reducible exact ih0 _ _ _)
   | (with_reducible exact LeO.refl _)
   | (with_reducible exact LeO.none _)
   | (with_reducible refine LeO.ite ?_ ?_)
   | (with_reducible refine LeO.bind ?_ (fun _=>?_))
   | exact ih0 _ _ _
theorem laws_heldIntS.mono : ∀ a0 a1 k,LeO (laws_heldIntS.f k a0 a1) (laws_heldIntS.f (k + 1) a0 a1):=by
 intro a0 a1 k
 have ih0:=laws_heldIntS.mono_l k
 unfold laws_heldIntS.f
 repeat' first
   | (with_reducible exact ih0 _ _ _)
   | (with_reducible exact LeO.refl _)
   | (with_reducible exact LeO.none _)
   | (with_reducible refine LeO.ite ?_ ?_)
   | (with_reducible refine LeO.bind ?_ (fun _=>?_))
   | exact ih0 _ _ _
set_option maxHeartbeats 8000000 in
set_option maxRecDepth 100000 in
theorem laws_heldIntS.calls (k : Nat) (A0 : Option Addr) (c0 : Nat) (l0 : List Int) (a1 : Int) (r : Int) (w : World) (hr0 : Kd.C (Kd.int .i64) w A0 l0.length l0) (hc0 : l0.length≤c0) (h : laws_heldIntS.f k l0 a1=some r) :
  Calls Try.prog 70 #[.slice A0 l0.length c0,.int .i64 a1] w fun e w'=>e = .returned (.int .i64 r)∧Drawn0 w w':=by
 have HR0:=amk hr0
 have HC0:=amk hc0
 clear hr0 hc0
 have H : (laws_heldIntS.l0 k l0 a1 0)=some r:=h
 clear h
 have H':=amk H
 clear H
 go_enter Try.func70,Try.ntmps70
 go_wp2
 go_loopg [1,5] k (fun kq v1 v5 w'=>∃ (x1_1 : Int) (x5_1 : Int),v1 = .int .i64 x1_1∧v5 = .int .i64 x5_1∧Aside0 (laws_heldIntS.l0 kq l0 x1_1 x5_1=some r)∧Aside0 (kq≤k)∧Drawn0 w w')
 case atStart=>exact ⟨(a1),(0),rsd,rsd,H',⟨Nat.le_refl _⟩,by repeat (first | exact Drawn0.refl _ | apply Drawn0.step)⟩
 case round=>
  clear H'
  try clear p2
  obtain ⟨x1_1,x5_1,rfl,rfl,HA,HK1,⟨m1,rfl⟩⟩:=hrel
  cases gk with
  | zero=>exact absurd HA.out (by simp [laws_heldIntS.l0])
  | succ k1=>
   have H:=HA.out
   clear HA
   simp only [laws_heldIntS.l0] at H
   by_cases c3 : x5_1 < (l0.length : Int)
   ·rw [if_pos c3] at H
    have c3b0 : decide (x5_1 < (l0.length : Int))=true:=decide_eq_true c3
    clear c3
    by_cases c4 : 0≤x5_1
    ·rw [if_pos c4] at H
     have c4b0 : decide (0≤x5_1)=true:=decide_eq_true c4
     clear c4
     by_cases c5 : (rd l0 x5_1)=x1_1
     ·rw [if_pos c5] at H
      have c5b0 : ((rd l0 x5_1) == x1_1)=true:=beq_iff_eq.mpr c5
      have c5b1 : ((rd l0 x5_1) != x1_1)=false:=bne_eq_false_iff_eq.mpr c5
      clear c5
      have H':=amk H
      clear H
      have p425 : 0≤(x5_1 : Int):=of_decide_eq_true ass
      have q425 : x5_1 < (l0.length : Int):=of_decide_eq_true ass
      obtain ⟨ad425,e425,hx425_0⟩:=Kd.at_int HR0.out x5_1 p425 q425
      cases e425
      replace p425:=eq_true p425
      replace q425:=eq_true q425
      go_wp2
      go_roundg k1
      case measure=>have:=HK1.out;omega
      case rel=>exact ⟨(wrap64 (x1_1 + 1)),(wrap64 (x5_1 + 1)),rsd,rsd,H',⟨by have:=HK1.out;omega⟩,by repeat (first | exact Drawn0.refl _ | apply Drawn0.step)⟩
     ·rw [if_neg c5] at H
      have c5b0 : ((rd l0 x5_1) == x1_1)=false:=beq_eq_false_iff_ne.mpr c5
      have c5b1 : ((rd l0 x5_1) != x1_1)=true:=bne_iff_ne.mpr c5
      obtain rfl:=Option.some.inj H
      have p425 : 0≤(x5_1 : Int):=of_decide_eq_true ass
      have q425 : x5_1 < (l0.length : Int):=of_decide_eq_true ass
      obtain ⟨ad425,e425,hx425_0⟩:=Kd.at_int HR0.out x5_1 p425 q425
      cases e425
      replace p425:=eq_true p425
      replace q425:=eq_true q425
      go_wp2
      go_ret
      exact ⟨rsd,by repeat (first | exact Drawn0.refl _ | apply Drawn0.step)⟩
    ·rw [if_neg c4] at H
     exact absurd H (by simp)
   ·rw [if_neg c3] at H
    have c3b0 : decide (x5_1 < (l0.length : Int))=false:=decide_eq_false c3
    clear c3
    obtain rfl:=Option.some.inj H
    go_wp2
    go_ret
    exact ⟨rsd,by repeat (first | exact Drawn0.refl _ | apply Drawn0.step)⟩
def laws_heldIntSS.l0 : Nat→List (List Int)→Int→Int→Option (Int)
 | 0,_,_,_=>none
 | k + 1,x0,x1,x5=>if x5 < (x0.length : Int) then (if 0≤x5 then ((laws_heldIntS.f k (rd_L4 x0 x5) x1).bind fun t427=>(if t427 < 0 then (some (-1)) else (laws_heldIntSS.l0 k x0 t427 (wrap64 (x5 + 1))))) else (none)) else (some x1)
def laws_heldIntSS.f (k : Nat) (l0 : List (List Int)) (a1 : Int) : Option (Int):=laws_heldIntSS.l0 k l0 a1 0
theorem laws_heldIntSS.mono_l : ∀ k,(∀ y0 y1 y2,LeO (laws_heldIntSS.l0 k y0 y1 y2) (laws_heldIntSS.l0 (k + 1) y0 y1 y2))
 | 0=>fun _ _ _ r h=>by simp [laws_heldIntSS.l0] at h
 | k + 1=>by
  have ih0:=laws_heldIntSS.mono_l k
  ·intro y0 y1 y2
   unfold laws_heldIntSS.l0
   repeat' first
   | (with_reducible exact ih0 _ _ _)
   | (with_reducible exact laws_heldIntS.mono _ _ _)
   | (with_reducible exact LeO.refl _)
   | (with_reducible exact LeO.none _)
   | (with_reducible refine LeO.ite ?_ ?_)
   | (with_reducible refine LeO.bind ?_ (fun _=>?_))
   | exact ih0 _ _ _
theorem laws_heldIntSS.mono : ∀ a0 a1 k,LeO (laws_heldIntSS.f k a0 a1) (laws_heldIntSS.f (k + 1) a0 a1):=by
 intro a0 a1 k
 have ih0:=laws_heldIntSS.mono_l k
 unfold laws_heldIntSS.f
 repeat' first
   | (with_reducible exact ih0 _ _ _)
   | (with_reducible exact laws_heldIntS.mono _ _ _)
   | (with_reducible exact LeO.refl _)
   | (with_reducible exact LeO.none _)
   | (with_reducible refine LeO.ite ?_ ?_)
   | (with_reducible refine LeO.bind ?_ (fun _=>?_))
   | exact ih0 _ _ _
set_option maxHeartbeats 8000000 in
set_option maxRecDepth 100000 in
theorem laws_heldIntSS.calls (k : Nat) (A0 : Option Addr) (c0 : Nat) (l0 : List (List Int)) (a1 : Int) (r : Int) (w : World) (hr0 : Kd.C (Kd.slice 3 (Kd.int .i64)) w A0 l0.length l0) (hc0 : l0.length≤c0) (h : laws_heldIntSS.f k l0 a1=some r) :
  Calls Try.prog 26 #[.slice A0 l0.length c0,.int .i64 a1] w fun e w'=>e = .returned (.int .i64 r)∧Drawn0 w w':=by
 have HR0:=amk hr0
 have HC0:=amk hc0
 clear hr0 hc0
 have H : (laws_heldIntSS.l0 k l0 a1 0)=some r:=h
 clear h
 have H':=amk H
 clear H
 go_enter Try.func26,Try.ntmps26
 go_wp2
 go_loopg [1,5] k (fun kq v1 v5 w'=>∃ (x1_1 : Int) (x5_1 : Int),v1 = .int .i64 x1_1∧v5 = .int .i64 x5_1∧Aside0 (laws_heldIntSS.l0 kq l0 x1_1 x5_1=some r)∧Aside0 (kq≤k)∧Drawn0 w w')
 case atStart=>exact ⟨(a1),(0),rsd,rsd,H',⟨Nat.le_refl _⟩,by repeat (first | exact Drawn0.refl _ | apply Drawn0.step)⟩
 case round=>
  clear H'
  try clear c2
  try clear p2
  obtain ⟨x1_1,x5_1,rfl,rfl,HA,HK1,⟨m1,rfl⟩⟩:=hrel
  cases gk with
  | zero=>exact absurd HA.out (by simp [laws_heldIntSS.l0])
  | succ k1=>
   have H:=HA.out
   clear HA
   simp only [laws_heldIntSS.l0] at H
   by_cases c3 : x5_1 < (l0.length : Int)
   ·rw [if_pos c3] at H
    have c3b0 : decide (x5_1 < (l0.length : Int))=true:=decide_eq_true c3
    clear c3
    by_cases c4 : 0≤x5_1
    ·rw [if_pos c4] at H
     have c4b0 : decide (0≤x5_1)=true:=decide_eq_true c4
     clear c4
     replace H:=obs H
     obtain ⟨t427,A50,H⟩:=H
     replace H : (if t427 < 0 then (some (-1)) else (laws_heldIntSS.l0 k1 l0 t427 (wrap64 (x5_1 + 1))))=some r:=H
     have A5:=amk A50
     clear A50
     by_cases c6 : t427 < 0
     ·rw [if_pos c6] at H
      have c6b0 : decide (t427 < 0)=true:=decide_eq_true c6
      clear c6
      obtain rfl:=Option.some.inj H
      have p426 : 0≤(x5_1 : Int):=of_decide_eq_true ass
      have q426 : x5_1 < (l0.length : Int):=of_decide_eq_true ass
      obtain ⟨ad426,A426_0,c426_0,e426,hx426_0,hl426_0,hi426_0⟩:=at_L4 HR0.out x5_1 p426 q426
      cases e426
      have HR426_0:=amk hi426_0
      have HC426_0:=amk hl426_0
      clear hi426_0 hl426_0
      replace p426:=eq_true p426
      replace q426:=eq_true q426
      go_wp2_with (first | ((with_reducible refine gate_callee (f:=70) rfl ?_);refine goesL_ (some 17) rfl rfl Try.func70 (by kernel_rfl) rfl #[.slice A426_0 (rd_L4 l0 x5_1).length c426_0,.int .i64 x1_1] rfl mtt ?_;(with_reducible refine (laws_heldIntS.calls k1 _ _ (rd_L4 l0 x5_1) x1_1 t427 _ ?side1 ?side2 A5.out).mono ?_);(case side1=>exact ccc HR426_0.out);(case side2=>exact HC426_0.out);rintro e w' ⟨rfl,⟨nd,rfl⟩⟩;refine ⟨_,rfl,?_⟩))
      go_ret
      exact ⟨rsd,by repeat (first | exact Drawn0.refl _ | apply Drawn0.step)⟩
     ·rw [if_neg c6] at H
      have c6b0 : decide (t427 < 0)=false:=decide_eq_false c6
      clear c6
      have H':=amk H
      clear H
      have p426 : 0≤(x5_1 : Int):=of_decide_eq_true ass
      have q426 : x5_1 < (l0.length : Int):=of_decide_eq_true ass
      obtain ⟨ad426,A426_0,c426_0,e426,hx426_0,hl426_0,hi426_0⟩:=at_L4 HR0.out x5_1 p426 q426
      cases e426
      have HR426_0:=amk hi426_0
      have HC426_0:=amk hl426_0
      clear hi426_0 hl426_0
      replace p426:=eq_true p426
      replace q426:=eq_true q426
      go_wp2_with (first | ((with_reducible refine gate_callee (f:=70) rfl ?_);refine goesL_ (some 17) rfl rfl Try.func70 (by kernel_rfl) rfl #[.slice A426_0 (rd_L4 l0 x5_1).length c426_0,.int .i64 x1_1] rfl mtt ?_;(with_reducible refine (laws_heldIntS.calls k1 _ _ (rd_L4 l0 x5_1) x1_1 t427 _ ?side1 ?side2 A5.out).mono ?_);(case side1=>exact ccc HR426_0.out);(case side2=>exact HC426_0.out);rintro e w' ⟨rfl,⟨nd,rfl⟩⟩;refine ⟨_,rfl,?_⟩))
      go_roundg k1
      case measure=>have:=HK1.out;omega
      case rel=>exact ⟨(t427),(wrap64 (x5_1 + 1)),rsd,rsd,H',⟨by have:=HK1.out;omega⟩,by repeat (first | exact Drawn0.refl _ | apply Drawn0.step)⟩
    ·rw [if_neg c4] at H
     exact absurd H (by simp)
   ·rw [if_neg c3] at H
    have c3b0 : decide (x5_1 < (l0.length : Int))=false:=decide_eq_false c3
    clear c3
    obtain rfl:=Option.some.inj H
    go_wp2
    go_ret
    exact ⟨rsd,by repeat (first | exact Drawn0.refl _ | apply Drawn0.step)⟩
theorem blk_now_ {w wc : World} {g : Nat} {o : Obj} (h : w.heap[g]? = some o) (hb : Below w.heap.size w wc) : wc.heap[g]? = some o:=blk_below h hb
def FnExactOpenSpans.T5 : Bool × List (List Nat × List Nat):=(true,[([],[]),([0],[0]),([],[]),([2,1],[2]),([1,3,3],[1,3]),([4],[4]),([5],[5]),([5],[5]),([6,4,0,1,2,3,4,5,6],[6]),([7,8,0,1,2,3,4,5,6,7,8],[7])])
def FnExactOpenSpans.B5 : List Nat:=[0,1,0,7,15,31,63,63,127,511]
theorem FnExactOpenSpans.tab5 : rtab .any (opsOf Try.f4 5)=FnExactOpenSpans.T5:=by kernel_rfl
theorem FnExactOpenSpans.bits5 : waitsOk FnExactOpenSpans.T5.2 FnExactOpenSpans.B5=true:=by kernel_rfl
def FnExactOpenSpans.T24 : Bool × List (List Nat × List Nat):=(true,[([],[]),([0],[0]),([],[]),([2,1],[2]),([1,3,3],[1,3]),([4],[4]),([5],[5]),([5],[5]),([6,4,0,1,2,3,4,5,6],[6]),([7,8,0,1,2,3,4,5,6,7,8],[7])])
def FnExactOpenSpans.B24 : List Nat:=[0,1,0,7,15,31,63,63,127,511]
theorem FnExactOpenSpans.tab24 : rtab .any (opsOf Try.f4 24)=FnExactOpenSpans.T24:=by kernel_rfl
theorem FnExactOpenSpans.bits24 : waitsOk FnExactOpenSpans.T24.2 FnExactOpenSpans.B24=true:=by kernel_rfl
set_option maxHeartbeats 8000000 in
set_option maxRecDepth 100000 in
theorem laws_FnExactOpenSpans.small (A0 : Option Addr) (c0 : Nat) (l0 : List S93) (a1_0 a1_1 a1_2 : Int) (z : Int) (w : World) (hr0 : Kd.C k93 w A0 l0.length l0) (hc0 : l0.length≤c0) (hz : z < 0) (h3 : laws_szReadingS.f l0 1048576=some z) :
  Calls Try.prog 4 #[.slice A0 l0.length c0,.agg #[.int .i64 a1_0,.int .i64 a1_1,.int .i64 a1_2]] w fun e w'=>e = .returned (.bool true)∧Below w.heap.size w w':=by
 have hu38:=Try.underlying38
 have HR0:=Aside0.mk hr0
 have HC0:=Aside0.mk hc0
 have A3:=Aside0.mk h3
 have z1 : decide (z < 0)=true:=decide_eq_true hz
 clear hr0 hc0 h3 hz
 have HB:=Aside0.mk (Below.refl w.heap.size w)
 go_enter Try.func4,Try.ntmps4
 go_wp2_with (first | ((with_reducible refine gate_dst (N:=3) rfl ?_);refine box_event ?hg (N:=3) ?hd (cs:=#[.int .i64 a1_0,.int .i64 a1_1,.int .i64 a1_2]) (t:=38) ?hr ?_;(case hd=>rfl);(case hg=>rfl);(case hr=>first | (go_simp;done)|(go_simp;rfl));intro gb hg_ wb_ hbox hb;clear hg_;have n_HB:=Aside0.mk (below_step HB.out (below_step (by repeat (first | exact Below.refl _ _ | apply below_alloc | apply pw_below_drewN | apply below_drew1)) hb));clear HB;have HB:=n_HB;have BK:=Aside0.mk hbox;clear n_HB hbox hb)|((with_reducible refine gate_callee (f:=17) rfl ?_);refine goesL_ (some 18) rfl rfl Try.func17 (by kernel_rfl) rfl #[.slice A0 l0.length c0,.int .i64 1048576] rfl (by (try simp only [List.map_toArray,List.map_cons,List.map_nil]);first | done | rfl | (simp only [List.length_drop,List.length_take];rfl)) ?_;(with_reducible refine (laws_szReadingS.calls _ _ l0 1048576 z _ ?side1 ?side2 A3.out).mono ?_);(case side1=>exact Kd.C_below HR0.out (below_step HB.out (by repeat (first | exact Below.refl _ _ | apply below_alloc | apply pw_below_drewN | apply below_drew1))));(case side2=>exact HC0.out);rintro e w' ⟨rfl,⟨nd,rfl⟩⟩;refine ⟨_,rfl,?_⟩))
 go_ret
 exact ⟨rfl,(below_step HB.out (by repeat (first | exact Below.refl _ _ | apply below_alloc | apply pw_below_drewN | apply below_drew1)))⟩
set_option maxHeartbeats 8000000 in
set_option maxRecDepth 100000 in
theorem laws_FnExactOpenSpans.calls (k : Nat) (A0 : Option Addr) (c0 : Nat) (l0 : List S93) (a1_0 a1_1 a1_2 z : Int) (x : List S30) (s0 s1 s2 : Int) (y : List (List Int)) (ok : Bool) (m0 m : Int) (xm : List S30) (ym : List (List Int)) (w : World) (hr0 : Kd.C k93 w A0 l0.length l0) (hc0 : l0.length≤c0)
  (h3 : laws_szReadingS.f l0 1048576=some z) (hz : ¬ z < 0) (h6 : laws_toReadingS.f k l0=some x) (h7 : laws_toSump.f a1_0 a1_1 a1_2=some (s0,s1,s2)) (h8 : spec_OpenSpans.f k x s0 s1 s2=some (y,ok)) (h11 : impl_OpenSpans.f k x s0 s1 s2=some (y,ok))
  (h24 : laws_eqIntSS.f k y y=some true) (heq : laws_eqReadingS.f k x x=some true) (hmk : laws_markReadingS.f k x 1=some (m0,xm)) (hm0 : ¬ m0 < 0) (hm : laws_markIntSS.f k y 1=some (m,ym)) (hh : laws_heldIntSS.f k ym 1=some m) (hm1 : ¬ m < 0) :
  Calls Try.prog 4 #[.slice A0 l0.length c0,.agg #[.int .i64 a1_0,.int .i64 a1_1,.int .i64 a1_2]] w fun e w'=>e = .returned (.bool true)∧Below w.heap.size w w':=by
 have hu38:=Try.underlying38
 have HR0:=Aside0.mk hr0
 have HC0:=Aside0.mk hc0
 have A3:=Aside0.mk h3
 have A6:=Aside0.mk h6
 have A7:=Aside0.mk h7
 have A8:=Aside0.mk h8
 have A11:=Aside0.mk h11
 have A24:=Aside0.mk h24
 have Aeq:=Aside0.mk heq
 have Amk:=Aside0.mk hmk
 have Am:=Aside0.mk hm
 have Ah:=Aside0.mk hh
 have z1 : decide (z < 0)=false:=decide_eq_false hz
 have z2 : decide (m0 < 0)=false:=decide_eq_false hm0
 have z3 : decide (m < 0)=false:=decide_eq_false hm1
 have hu38:=Try.underlying38
 clear hr0 hc0 h3 hz h6 h7 h8 h11 h24 heq hmk hm0 hm hh hm1
 have HB:=Aside0.mk (Below.refl w.heap.size w)
 go_enter Try.func4,Try.ntmps4
 go_wp2_with (first | ((with_reducible refine gate_dst (N:=3) rfl ?_);refine box_event ?hg (N:=3) ?hd (cs:=#[.int .i64 a1_0,.int .i64 a1_1,.int .i64 a1_2]) (t:=38) ?hr ?_;(case hd=>rfl);(case hg=>rfl);(case hr=>first | (go_simp;done)|(go_simp;rfl));intro gb hg_ wb_ hbox hb;clear hg_;have n_HB:=Aside0.mk (below_step HB.out (below_step (by repeat (first | exact Below.refl _ _ | apply below_alloc | apply pw_below_drewN | apply below_drew1)) hb));clear HB;have HB:=n_HB;have BK:=Aside0.mk hbox;clear n_HB hbox hb)|((with_reducible refine gate_callee (f:=17) rfl ?_);refine goesL_ (some 18) rfl rfl Try.func17 (by kernel_rfl) rfl #[.slice A0 l0.length c0,.int .i64 1048576] rfl (by (try simp only [List.map_toArray,List.map_cons,List.map_nil]);first | done | rfl | (simp only [List.length_drop,List.length_take];rfl)) ?_;(with_reducible refine (laws_szReadingS.calls _ _ l0 1048576 z _ ?side1 ?side2 A3.out).mono ?_);(case side1=>exact Kd.C_below HR0.out (below_step HB.out (by repeat (first | exact Below.refl _ _ | apply below_alloc | apply pw_below_drewN | apply below_drew1))));(case side2=>exact HC0.out);rintro e w' ⟨rfl,⟨nd,rfl⟩⟩;refine ⟨_,rfl,?_⟩))
 refine start_ (n:=10) (S:=fun w'=>w'.cell? ⟨gb,0,none⟩=some (.int .i64 a1_0)∧w'.cell? ⟨gb,1,none⟩=some (.int .i64 a1_1)∧w'.cell? ⟨gb,2,none⟩=some (.int .i64 a1_2)) (ds:=[]) #[false,false,false,false,false,false,false,false,false,false] (by kernel_rfl) rfl rfl ⟨(blk_cell (blk_drew (blk_now_ BK.out (by repeat (first | exact Below.refl _ _ | apply below_alloc | apply pw_below_drewN | apply below_drew1)))) 0).trans rfl,(blk_cell (blk_drew (blk_now_ BK.out (by repeat (first | exact Below.refl _ _ | apply below_alloc | apply pw_below_drewN | apply below_drew1)))) 1).trans rfl,(blk_cell (blk_drew (blk_now_ BK.out (by repeat (first | exact Below.refl _ _ | apply below_alloc | apply pw_below_drewN | apply below_drew1)))) 2).trans rfl⟩ (fun hHeld=>?_)
 refine with_tabW FnExactOpenSpans.tab5 FnExactOpenSpans.bits5 (fun HT_ HW_=>?_)
 refine pure_ (i:=0) (N:=some 22) (v:=?_) (a':=?_) #[true,false,false,false,false,false,false,false,false,false] rfl rfl (any_of HT_.out (by kernel_rfl)) (fun _ _ _ h=>h) (Or.inl ⟨by rfl,?_⟩) ?_ ?_
 rotate_left
 ·intro w'
  go_simp
  with_reducible rfl
 rotate_left
 ·simp only [Act.put,List.setIfInBounds_toArray,List.set_cons_zero,List.set_cons_succ,i64_w,i32_w]
  rfl
 refine take_ (i:=2) (N:=some 24) (v:=?_) (a':=?_) #[true,false,true,false,false,false,false,false,false,false] rfl rfl (take_ofW HT_.out HW_.out (by kernel_rfl)) (fun _ _ _ h=>h) (Or.inl ⟨by rfl,?_⟩) hHeld ?_ ?_
 rotate_left
 ·rintro w' ⟨s0_,s1_,s2_⟩
  go_simp
  with_reducible rfl
 rotate_left
 ·simp only [Act.put,List.setIfInBounds_toArray,List.set_cons_zero,List.set_cons_succ,i64_w,i32_w]
  rfl
 refine one_ (i:=1) (N:=some 23) #[true,true,true,false,false,false,false,false,false,false] rfl rfl (one_of HT_.out (by kernel_rfl)) (by decide) (fun K hK=>?_)
 refine goes_ Try.func19 (by kernel_rfl) rfl #[.slice A0 l0.length c0] (by rfl) rfl rfl (by (try simp only [List.map_toArray,List.map_cons,List.map_nil]);first | done | rfl | (simp only [List.length_drop,List.length_take];rfl)) ?_
 with_reducible refine (laws_toReadingS.calls k _ _ l0 x _ ?side1 ?side2 A6.out).mono ?_
 (case side1=>exact Kd.C_below HR0.out (below_step HB.out (by repeat (first | exact Below.refl _ _ | apply below_alloc | apply pw_below_drewN | apply below_drew1))))
 (case side2=>exact HC0.out)
 rintro e wt_ ⟨v_,rfl,ho,hb⟩
 refine ⟨_,rfl,?_⟩
 obtain ⟨AXa,cXa,rfl⟩:=Kd.R_slice ho
 have n_BK:=Aside0.mk (blk_below (g:=gb) (o:=.cells #[.int .i64 a1_0,.int .i64 a1_1,.int .i64 a1_2] 38 (0,0)) BK.out (below_step (by repeat (first | exact Below.refl _ _ | apply below_alloc | apply pw_below_drewN | apply below_drew1)) hb))
 have n_Xa:=Aside0.mk (RRow.new ho hb (below_step HB.out (by repeat (first | exact Below.refl _ _ | apply below_alloc | apply pw_below_drewN | apply below_drew1))))
 have n_HB:=Aside0.mk (below_step HB.out (below_step (by repeat (first | exact Below.refl _ _ | apply below_alloc | apply pw_below_drewN | apply below_drew1)) hb))
 clear BK HB
 have BK:=n_BK
 have HB:=n_HB
 have Xa:=n_Xa
 clear n_BK n_HB n_Xa
 clear ho hb
 refine hK.out _ _ ⟨(blk_cell BK.out 0).trans rfl,(blk_cell BK.out 1).trans rfl,(blk_cell BK.out 2).trans rfl⟩ (fun hHeld=>?_)
 clear hK K
 refine norm_ (a':=?_) ?_ ?_
 rotate_left
 ·show Act.put _ (some 23) _=_
  simp only [Act.put,List.setIfInBounds_toArray,List.set_cons_zero,List.set_cons_succ,i64_w,i32_w]
  rfl
 refine one_ (i:=3) (N:=some 25) #[true,true,true,true,false,false,false,false,false,false] rfl rfl (one_of HT_.out (by kernel_rfl)) (by decide) (fun K hK=>?_)
 refine goes_ Try.func20 (by kernel_rfl) rfl #[.agg #[.int .i64 a1_0,.int .i64 a1_1,.int .i64 a1_2]] (by rfl) rfl rfl (by (try simp only [List.map_toArray,List.map_cons,List.map_nil]);first | done | rfl | (simp only [List.length_drop,List.length_take];rfl)) ?_
 with_reducible refine (laws_toSump.calls a1_0 a1_1 a1_2 s0 s1 s2 _ A7.out).mono ?_
 rintro e wt_ ⟨rfl,hb⟩
 refine ⟨_,rfl,?_⟩
 have n_Xa:=Aside0.mk (Xa.out.below (below_step (by repeat (first | exact Below.refl _ _ | apply below_alloc | apply pw_below_drewN | apply below_drew1)) hb))
 have n_BK:=Aside0.mk (blk_below (g:=gb) (o:=.cells #[.int .i64 a1_0,.int .i64 a1_1,.int .i64 a1_2] 38 (0,0)) BK.out (below_step (by repeat (first | exact Below.refl _ _ | apply below_alloc | apply pw_below_drewN | apply below_drew1)) hb))
 have n_HB:=Aside0.mk (below_step HB.out (below_step (by repeat (first | exact Below.refl _ _ | apply below_alloc | apply pw_below_drewN | apply below_drew1)) hb))
 clear Xa BK HB
 have Xa:=n_Xa
 have BK:=n_BK
 have HB:=n_HB
 clear n_Xa n_BK n_HB
 clear hb
 refine hK.out _ _ ⟨(blk_cell BK.out 0).trans rfl,(blk_cell BK.out 1).trans rfl,(blk_cell BK.out 2).trans rfl⟩ (fun hHeld=>?_)
 clear hK K
 refine norm_ (a':=?_) ?_ ?_
 rotate_left
 ·show Act.put _ (some 25) _=_
  simp only [Act.put,List.setIfInBounds_toArray,List.set_cons_zero,List.set_cons_succ,i64_w,i32_w]
  rfl
 refine one_ (i:=4) (N:=some 26) #[true,true,true,true,true,false,false,false,false,false] rfl rfl (one_of HT_.out (by kernel_rfl)) (by decide) (fun K hK=>?_)
 refine goes_ Try.func18 (by kernel_rfl) rfl #[.slice AXa x.length cXa,.agg #[.int .i64 s0,.int .i64 s1,.int .i64 s2]] (by rfl) rfl rfl (by (try simp only [List.map_toArray,List.map_cons,List.map_nil]);first | done | rfl | (simp only [List.length_drop,List.length_take];rfl)) ?_
 with_reducible refine (spec_OpenSpans.calls k _ _ x s0 s1 s2 y ok _ ?side1 ?side2 A8.out).mono ?_
 (case side1=>exact (Xa.out.below (by repeat (first | exact Below.refl _ _ | apply below_alloc | apply pw_below_drewN | apply below_drew1))).C)
 (case side2=>exact Xa.out.le)
 rintro e wt_ ⟨v_,rfl,ho,hb⟩
 refine ⟨_,rfl,?_⟩
 obtain ⟨ARW,cRW,rfl⟩:=Kd.S_slice ho
 have n_Xa:=Aside0.mk (Xa.out.below (below_step (by repeat (first | exact Below.refl _ _ | apply below_alloc | apply pw_below_drewN | apply below_drew1)) hb))
 have n_BK:=Aside0.mk (blk_below (g:=gb) (o:=.cells #[.int .i64 a1_0,.int .i64 a1_1,.int .i64 a1_2] 38 (0,0)) BK.out (below_step (by repeat (first | exact Below.refl _ _ | apply below_alloc | apply pw_below_drewN | apply below_drew1)) hb))
 have n_RW:=Aside0.mk (SRow.new ho hb (below_step HB.out (by repeat (first | exact Below.refl _ _ | apply below_alloc | apply pw_below_drewN | apply below_drew1))))
 have n_HB:=Aside0.mk (below_step HB.out (below_step (by repeat (first | exact Below.refl _ _ | apply below_alloc | apply pw_below_drewN | apply below_drew1)) hb))
 clear Xa BK HB
 have Xa:=n_Xa
 have BK:=n_BK
 have HB:=n_HB
 have RW:=n_RW
 clear n_Xa n_BK n_HB n_RW
 clear ho hb
 refine hK.out _ _ ⟨(blk_cell BK.out 0).trans rfl,(blk_cell BK.out 1).trans rfl,(blk_cell BK.out 2).trans rfl⟩ (fun hHeld=>?_)
 clear hK K
 refine norm_ (a':=?_) ?_ ?_
 rotate_left
 ·show Act.put _ (some 26) _=_
  simp only [Act.put,List.setIfInBounds_toArray,List.set_cons_zero,List.set_cons_succ,i64_w,i32_w]
  rfl
 refine pure_ (i:=5) (N:=some 21) (v:=?_) (a':=?_) #[true,true,true,true,true,true,false,false,false,false] rfl rfl (any_of HT_.out (by kernel_rfl)) (fun _ _ _ h=>h) (Or.inl ⟨by rfl,?_⟩) ?_ ?_
 rotate_left
 ·intro w'
  go_simp
  with_reducible rfl
 rotate_left
 ·simp only [Act.put,List.setIfInBounds_toArray,List.set_cons_zero,List.set_cons_succ,i64_w,i32_w]
  rfl
 refine pure_ (i:=6) (N:=some 27) (v:=?_) (a':=?_) #[true,true,true,true,true,true,true,false,false,false] rfl rfl (any_of HT_.out (by kernel_rfl)) (fun _ _ _ h=>h) (Or.inl ⟨by rfl,?_⟩) ?_ ?_
 rotate_left
 ·intro w'
  go_simp
  with_reducible rfl
 rotate_left
 ·simp only [Act.put,List.setIfInBounds_toArray,List.set_cons_zero,List.set_cons_succ,i64_w,i32_w]
  rfl
 refine pure_ (i:=7) (N:=some 28) (v:=?_) (a':=?_) #[true,true,true,true,true,true,true,true,false,false] rfl rfl (any_of HT_.out (by kernel_rfl)) (fun _ _ _ h=>h) (Or.inl ⟨by rfl,?_⟩) ?_ ?_
 rotate_left
 ·intro w'
  go_simp
  with_reducible rfl
 rotate_left
 ·simp only [Act.put,List.setIfInBounds_toArray,List.set_cons_zero,List.set_cons_succ,i64_w,i32_w]
  rfl
 refine pure_ (i:=8) (N:=some 6) (v:=?_) (a':=?_) #[true,true,true,true,true,true,true,true,true,false] rfl rfl (any_of HT_.out (by kernel_rfl)) (fun _ _ _ h=>h) (Or.inl ⟨by rfl,?_⟩) ?_ ?_
 rotate_left
 ·intro w'
  go_simp
  with_reducible rfl
 rotate_left
 ·simp only [Act.put,List.setIfInBounds_toArray,List.set_cons_zero,List.set_cons_succ,i64_w,i32_w]
  rfl
 refine pure_ (i:=9) (N:=some 7) (v:=?_) (a':=?_) #[true,true,true,true,true,true,true,true,true,true] rfl rfl (any_of HT_.out (by kernel_rfl)) (fun _ _ _ h=>h) (Or.inl ⟨by rfl,?_⟩) ?_ ?_
 rotate_left
 ·intro w'
  go_simp
  with_reducible rfl
 rotate_left
 ·simp only [Act.put,List.setIfInBounds_toArray,List.set_cons_zero,List.set_cons_succ,i64_w,i32_w]
  rfl
 refine done_ (done_of HT_.out (by kernel_rfl)) ?_
 clear hHeld HT_ HW_
 go_wp2_with (first | ((with_reducible refine gate_callee (f:=19) rfl ?_);refine goesL_ (some 30) rfl rfl Try.func19 (by kernel_rfl) rfl #[.slice A0 l0.length c0] rfl (by (try simp only [List.map_toArray,List.map_cons,List.map_nil]);first | done | rfl | (simp only [List.length_drop,List.length_take];rfl)) ?_;(with_reducible refine (laws_toReadingS.calls k _ _ l0 x _ ?side1 ?side2 A6.out).mono ?_);(case side1=>exact Kd.C_below HR0.out (below_step HB.out (by repeat (first | exact Below.refl _ _ | apply below_alloc | apply pw_below_drewN | apply below_drew1))));(case side2=>exact HC0.out);rintro e wt1_ ⟨v_,rfl,ho,hb⟩;refine ⟨_,rfl,?_⟩;obtain ⟨AX,cX,rfl⟩:=Kd.R_slice ho;have n_Xa:=Aside0.mk (Xa.out.below (below_step (by repeat (first | exact Below.refl _ _ | apply below_alloc | apply pw_below_drewN | apply below_drew1)) hb));have n_RW:=Aside0.mk (RW.out.below (below_step (by repeat (first | exact Below.refl _ _ | apply below_alloc | apply pw_below_drewN | apply below_drew1)) hb));have n_BK:=Aside0.mk (blk_below (g:=gb) (o:=.cells #[.int .i64 a1_0,.int .i64 a1_1,.int .i64 a1_2] 38 (0,0)) BK.out (below_step (by repeat (first | exact Below.refl _ _ | apply below_alloc | apply pw_below_drewN | apply below_drew1)) hb));have n_RX:=Aside0.mk (RRow.new ho hb (below_step HB.out (by repeat (first | exact Below.refl _ _ | apply below_alloc | apply pw_below_drewN | apply below_drew1))));have n_LWX:=Aside0.mk (le_at hb (Nat.le_trans RW.out.hi (below_size (by repeat (first | exact Below.refl _ _ | apply below_alloc | apply pw_below_drewN | apply below_drew1)))));have n_LBX:=Aside0.mk (lt_at hb (Nat.lt_of_lt_of_le (blk_lt BK.out) (below_size (by repeat (first | exact Below.refl _ _ | apply below_alloc | apply pw_below_drewN | apply below_drew1)))));have n_HB:=Aside0.mk (below_step HB.out (below_step (by repeat (first | exact Below.refl _ _ | apply below_alloc | apply pw_below_drewN | apply below_drew1)) hb));clear Xa RW BK HB;have Xa:=n_Xa;have RW:=n_RW;have BK:=n_BK;have HB:=n_HB;have RX:=n_RX;have LWX:=n_LWX;have LBX:=n_LBX;clear n_Xa n_RW n_BK n_HB n_RX n_LWX n_LBX;clear ho hb;have hcz0_ : wt1_.cell? ⟨gb,0,none⟩=some (.int .i64 a1_0):=(blk_cell BK.out 0).trans rfl;have hcz1_ : wt1_.cell? ⟨gb,1,none⟩=some (.int .i64 a1_1):=(blk_cell BK.out 1).trans rfl;have hcz2_ : wt1_.cell? ⟨gb,2,none⟩=some (.int .i64 a1_2):=(blk_cell BK.out 2).trans rfl)|((with_reducible refine gate_callee (f:=20) rfl ?_);refine goesL_ (some 34) rfl rfl Try.func20 (by kernel_rfl) rfl #[.agg #[.int .i64 a1_0,.int .i64 a1_1,.int .i64 a1_2]] rfl (by (try simp only [List.map_toArray,List.map_cons,List.map_nil]);first | done | rfl | (simp only [List.length_drop,List.length_take];rfl)) ?_;(with_reducible refine (laws_toSump.calls a1_0 a1_1 a1_2 s0 s1 s2 _ A7.out).mono ?_);rintro e wt2_ ⟨rfl,hb⟩;refine ⟨_,rfl,?_⟩;have n_Xa:=Aside0.mk (Xa.out.below (below_step (by repeat (first | exact Below.refl _ _ | apply below_alloc | apply pw_below_drewN | apply below_drew1)) hb));have n_RW:=Aside0.mk (RW.out.below (below_step (by repeat (first | exact Below.refl _ _ | apply below_alloc | apply pw_below_drewN | apply below_drew1)) hb));have n_RX:=Aside0.mk (RX.out.below (below_step (by repeat (first | exact Below.refl _ _ | apply below_alloc | apply pw_below_drewN | apply below_drew1)) hb));have n_BK:=Aside0.mk (blk_below (g:=gb) (o:=.cells #[.int .i64 a1_0,.int .i64 a1_1,.int .i64 a1_2] 38 (0,0)) BK.out (below_step (by repeat (first | exact Below.refl _ _ | apply below_alloc | apply pw_below_drewN | apply below_drew1)) hb));have n_HB:=Aside0.mk (below_step HB.out (below_step (by repeat (first | exact Below.refl _ _ | apply below_alloc | apply pw_below_drewN | apply below_drew1)) hb));clear Xa RW RX BK HB;have Xa:=n_Xa;have RW:=n_RW;have RX:=n_RX;have BK:=n_BK;have HB:=n_HB;clear n_Xa n_RW n_RX n_BK n_HB;clear hb)|((with_reducible refine gate_callee (f:=21) rfl ?_);refine goesL_ (some 35) rfl rfl Try.func21 (by kernel_rfl) rfl #[.slice AX x.length cX,.agg #[.int .i64 s0,.int .i64 s1,.int .i64 s2]] rfl (by (try simp only [List.map_toArray,List.map_cons,List.map_nil]);first | done | rfl | (simp only [List.length_drop,List.length_take];rfl)) ?_;(with_reducible refine (impl_OpenSpans.calls k _ _ x s0 s1 s2 y ok _ ?side1 ?side2 A11.out).mono ?_);(case side1=>exact (RX.out.below (by repeat (first | exact Below.refl _ _ | apply below_alloc | apply pw_below_drewN | apply below_drew1))).C);(case side2=>exact RX.out.le);rintro e wt3_ ⟨v_,rfl,ho,hb⟩;refine ⟨_,rfl,?_⟩;obtain ⟨AG_,cG,rfl⟩:=Kd.S_slice ho;have n_Xa:=Aside0.mk (Xa.out.below (below_step (by repeat (first | exact Below.refl _ _ | apply below_alloc | apply pw_below_drewN | apply below_drew1)) hb));have n_RW:=Aside0.mk (RW.out.below (below_step (by repeat (first | exact Below.refl _ _ | apply below_alloc | apply pw_below_drewN | apply below_drew1)) hb));have n_RX:=Aside0.mk (RX.out.below (below_step (by repeat (first | exact Below.refl _ _ | apply below_alloc | apply pw_below_drewN | apply below_drew1)) hb));have n_BK:=Aside0.mk (blk_below (g:=gb) (o:=.cells #[.int .i64 a1_0,.int .i64 a1_1,.int .i64 a1_2] 38 (0,0)) BK.out (below_step (by repeat (first | exact Below.refl _ _ | apply below_alloc | apply pw_below_drewN | apply below_drew1)) hb));have n_RG:=Aside0.mk (SRow.new ho hb (below_step HB.out (by repeat (first | exact Below.refl _ _ | apply below_alloc | apply pw_below_drewN | apply below_drew1))));have n_LXG:=Aside0.mk (le_at hb (Nat.le_trans RX.out.hi (below_size (by repeat (first | exact Below.refl _ _ | apply below_alloc | apply pw_below_drewN | apply below_drew1)))));have n_LWG:=Aside0.mk (le_at hb (Nat.le_trans RW.out.hi (below_size (by repeat (first | exact Below.refl _ _ | apply below_alloc | apply pw_below_drewN | apply below_drew1)))));have n_LBG:=Aside0.mk (lt_at hb (Nat.lt_of_lt_of_le (blk_lt BK.out) (below_size (by repeat (first | exact Below.refl _ _ | apply below_alloc | apply pw_below_drewN | apply below_drew1)))));have n_HB:=Aside0.mk (below_step HB.out (below_step (by repeat (first | exact Below.refl _ _ | apply below_alloc | apply pw_below_drewN | apply below_drew1)) hb));clear Xa RW RX BK HB;have Xa:=n_Xa;have RW:=n_RW;have RX:=n_RX;have BK:=n_BK;have HB:=n_HB;have RG:=n_RG;have LXG:=n_LXG;have LWG:=n_LWG;have LBG:=n_LBG;clear n_Xa n_RW n_RX n_BK n_HB n_RG n_LXG n_LWG n_LBG;clear ho hb)|((with_reducible refine gate_callee (f:=22) rfl ?_);refine goesL_ (some 40) rfl rfl Try.func22 (by kernel_rfl) rfl #[.slice AG_ y.length cG,.slice ARW y.length cRW] rfl (by (try simp only [List.map_toArray,List.map_cons,List.map_nil]);first | done | rfl | (simp only [List.length_drop,List.length_take];rfl)) ?_;(with_reducible refine (laws_eqIntSS.calls k _ _ y _ _ y true _ ?side1 ?side2 ?side3 ?side4 A24.out).mono ?_);(case side1=>exact (RG.out.below (by repeat (first | exact Below.refl _ _ | apply below_alloc | apply pw_below_drewN | apply below_drew1))).C);(case side2=>exact RG.out.le);(case side3=>exact (RW.out.below (by repeat (first | exact Below.refl _ _ | apply below_alloc | apply pw_below_drewN | apply below_drew1))).C);(case side4=>exact RW.out.le);rintro e w' ⟨rfl,⟨nd,rfl⟩⟩;refine ⟨_,rfl,?_⟩)|((with_reducible refine gate_callee (f:=19) rfl ?_);refine goesL_ (some 49) rfl rfl Try.func19 (by kernel_rfl) rfl #[.slice A0 l0.length c0] rfl (by (try simp only [List.map_toArray,List.map_cons,List.map_nil]);first | done | rfl | (simp only [List.length_drop,List.length_take];rfl)) ?_;(with_reducible refine (laws_toReadingS.calls k _ _ l0 x _ ?side1 ?side2 A6.out).mono ?_);(case side1=>exact Kd.C_below HR0.out (below_step HB.out (by repeat (first | exact Below.refl _ _ | apply below_alloc | apply pw_below_drewN | apply below_drew1))));(case side2=>exact HC0.out);rintro e wt4_ ⟨v_,rfl,ho,hb⟩;refine ⟨_,rfl,?_⟩;obtain ⟨AXb,cXb,rfl⟩:=Kd.R_slice ho;have n_Xa:=Aside0.mk (Xa.out.below (below_step (by repeat (first | exact Below.refl _ _ | apply below_alloc | apply pw_below_drewN | apply below_drew1)) hb));have n_RW:=Aside0.mk (RW.out.below (below_step (by repeat (first | exact Below.refl _ _ | apply below_alloc | apply pw_below_drewN | apply below_drew1)) hb));have n_RX:=Aside0.mk (RX.out.below (below_step (by repeat (first | exact Below.refl _ _ | apply below_alloc | apply pw_below_drewN | apply below_drew1)) hb));have n_RG:=Aside0.mk (RG.out.below (below_step (by repeat (first | exact Below.refl _ _ | apply below_alloc | apply pw_below_drewN | apply below_drew1)) hb));have n_BK:=Aside0.mk (blk_below (g:=gb) (o:=.cells #[.int .i64 a1_0,.int .i64 a1_1,.int .i64 a1_2] 38 (0,0)) BK.out (below_step (by repeat (first | exact Below.refl _ _ | apply below_alloc | apply pw_below_drewN | apply below_drew1)) hb));have n_Xb:=Aside0.mk (RRow.new ho hb (below_step HB.out (by repeat (first | exact Below.refl _ _ | apply below_alloc | apply pw_below_drewN | apply below_drew1))));have n_HB:=Aside0.mk (below_step HB.out (below_step (by repeat (first | exact Below.refl _ _ | apply below_alloc | apply pw_below_drewN | apply below_drew1)) hb));clear Xa RW RX RG BK HB;have Xa:=n_Xa;have RW:=n_RW;have RX:=n_RX;have RG:=n_RG;have BK:=n_BK;have HB:=n_HB;have Xb:=n_Xb;clear n_Xa n_RW n_RX n_RG n_BK n_HB n_Xb;clear ho hb)|((with_reducible refine gate_callee (f:=23) rfl ?_);refine goesL_ (some 50) rfl rfl Try.func23 (by kernel_rfl) rfl #[.slice AX x.length cX,.slice AXb x.length cXb] rfl (by (try simp only [List.map_toArray,List.map_cons,List.map_nil]);first | done | rfl | (simp only [List.length_drop,List.length_take];rfl)) ?_;(with_reducible refine (laws_eqReadingS.calls k _ _ x _ _ x true _ ?side1 ?side2 ?side3 ?side4 Aeq.out).mono ?_);(case side1=>exact (RX.out.below (by repeat (first | exact Below.refl _ _ | apply below_alloc | apply pw_below_drewN | apply below_drew1))).C);(case side2=>exact RX.out.le);(case side3=>exact (Xb.out.below (by repeat (first | exact Below.refl _ _ | apply below_alloc | apply pw_below_drewN | apply below_drew1))).C);(case side4=>exact Xb.out.le);rintro e wt5_ ⟨rfl,hb⟩;refine ⟨_,rfl,?_⟩;have n_Xa:=Aside0.mk (Xa.out.below (below_step (by repeat (first | exact Below.refl _ _ | apply below_alloc | apply pw_below_drewN | apply below_drew1)) hb));have n_RW:=Aside0.mk (RW.out.below (below_step (by repeat (first | exact Below.refl _ _ | apply below_alloc | apply pw_below_drewN | apply below_drew1)) hb));have n_RX:=Aside0.mk (RX.out.below (below_step (by repeat (first | exact Below.refl _ _ | apply below_alloc | apply pw_below_drewN | apply below_drew1)) hb));have n_RG:=Aside0.mk (RG.out.below (below_step (by repeat (first | exact Below.refl _ _ | apply below_alloc | apply pw_below_drewN | apply below_drew1)) hb));have n_Xb:=Aside0.mk (Xb.out.below (below_step (by repeat (first | exact Below.refl _ _ | apply below_alloc | apply pw_below_drewN | apply below_drew1)) hb));have n_BK:=Aside0.mk (blk_below (g:=gb) (o:=.cells #[.int .i64 a1_0,.int .i64 a1_1,.int .i64 a1_2] 38 (0,0)) BK.out (below_step (by repeat (first | exact Below.refl _ _ | apply below_alloc | apply pw_below_drewN | apply below_drew1)) hb));have n_HB:=Aside0.mk (below_step HB.out (below_step (by repeat (first | exact Below.refl _ _ | apply below_alloc | apply pw_below_drewN | apply below_drew1)) hb));clear Xa RW RX RG Xb BK HB;have Xa:=n_Xa;have RW:=n_RW;have RX:=n_RX;have RG:=n_RG;have Xb:=n_Xb;have BK:=n_BK;have HB:=n_HB;clear n_Xa n_RW n_RX n_RG n_Xb n_BK n_HB;clear hb)|((with_reducible refine gate_callee (f:=24) rfl ?_);refine goesL_ (some 54) rfl rfl Try.func24 (by kernel_rfl) rfl #[.slice AX x.length cX,.int .i64 1] rfl (by (try simp only [List.map_toArray,List.map_cons,List.map_nil]);first | done | rfl | (simp only [List.length_drop,List.length_take];rfl)) ?_;(with_reducible refine (laws_markReadingS.calls k _ _ x 1 m0 xm w _ (below_step HB.out (by repeat (first | exact Below.refl _ _ | apply below_alloc | apply pw_below_drewN | apply below_drew1))) (RX.out.below (by repeat (first | exact Below.refl _ _ | apply below_alloc | apply pw_below_drewN | apply below_drew1))).fact Amk.out).mono ?_);rintro e wm_ ⟨rfl,hr_,hb_,hk_⟩;refine ⟨_,rfl,?_⟩;have n_RW:=Aside0.mk ((RW.out.below (by repeat (first | exact Below.refl _ _ | apply below_alloc | apply pw_below_drewN | apply below_drew1))).kept hk_ (.inl LWX.out));have n_RG:=Aside0.mk ((RG.out.below (by repeat (first | exact Below.refl _ _ | apply below_alloc | apply pw_below_drewN | apply below_drew1))).kept hk_ (.inr LXG.out));have n_BK:=Aside0.mk (blk_kept (blk_now_ BK.out (by repeat (first | exact Below.refl _ _ | apply below_alloc | apply pw_below_drewN | apply below_drew1))) hk_ (fun h_=>Nat.lt_irrefl _ (Nat.lt_of_lt_of_le LBX.out h_.1)));have n_HB:=Aside0.mk hb_;clear BK HB RW RG RX;have RW:=n_RW;have RG:=n_RG;have BK:=n_BK;have HB:=n_HB;clear n_RW n_RG n_BK n_HB hr_ hb_ hk_;try clear Xb)|(go_at_call 22;(with_reducible refine (laws_eqIntSS.calls k _ _ y _ _ y true _ ?side1 ?side2 ?side3 ?side4 A24.out).mono ?_);(case side1=>exact (RG.out.below (by repeat (first | exact Below.refl _ _ | apply below_alloc | apply pw_below_drewN | apply below_drew1))).C);(case side2=>exact RG.out.le);(case side3=>exact (RW.out.below (by repeat (first | exact Below.refl _ _ | apply below_alloc | apply pw_below_drewN | apply below_drew1))).C);(case side4=>exact RW.out.le);rintro e w' ⟨rfl,⟨nd,rfl⟩⟩)|((with_reducible refine gate_callee (f:=25) rfl ?_);refine goesL_ (some 70) rfl rfl Try.func25 (by kernel_rfl) rfl #[.slice AG_ y.length cG,.int .i64 1] rfl (by (try simp only [List.map_toArray,List.map_cons,List.map_nil]);first | done | rfl | (simp only [List.length_drop,List.length_take];rfl)) ?_;(with_reducible refine (laws_markIntSS.calls k _ _ y 1 m ym w _ (below_step HB.out (by repeat (first | exact Below.refl _ _ | apply below_alloc | apply pw_below_drewN | apply below_drew1))) (RG.out.below (by repeat (first | exact Below.refl _ _ | apply below_alloc | apply pw_below_drewN | apply below_drew1))).fact Am.out).mono ?_);rintro e wm_ ⟨rfl,hr_,hb_,hk_⟩;refine ⟨_,rfl,?_⟩;have n_RW:=Aside0.mk ((RW.out.below (by repeat (first | exact Below.refl _ _ | apply below_alloc | apply pw_below_drewN | apply below_drew1))).kept hk_ (.inl LWG.out));have n_BK:=Aside0.mk (blk_kept (blk_now_ BK.out (by repeat (first | exact Below.refl _ _ | apply below_alloc | apply pw_below_drewN | apply below_drew1))) hk_ (fun h_=>Nat.lt_irrefl _ (Nat.lt_of_lt_of_le LBG.out h_.1)));have n_HB:=Aside0.mk hb_;have n_RM:=Aside0.mk (SRow.free hr_ (RG.out.below (by repeat (first | exact Below.refl _ _ | apply below_alloc | apply pw_below_drewN | apply below_drew1))).lo hk_.1);clear BK HB RW RG;have RW:=n_RW;have BK:=n_BK;have HB:=n_HB;have RM:=n_RM;clear n_RW n_BK n_HB n_RM hr_ hb_ hk_;have hlen_ : y.length=ym.length:=RM.out.len;rw [hlen_] at RM;rw [show (Value.slice AG_ y.length cG) = .slice AG_ ym.length cG from by rw [hlen_]];clear hlen_)|((with_reducible refine gate_callee (f:=26) rfl ?_);refine goesL_ (some 73) rfl rfl Try.func26 (by kernel_rfl) rfl #[.slice AG_ ym.length cG,.int .i64 1] rfl (by (try simp only [List.map_toArray,List.map_cons,List.map_nil]);first | done | rfl | (simp only [List.length_drop,List.length_take];rfl)) ?_;(with_reducible refine (laws_heldIntSS.calls k _ _ ym 1 m _ ?side1 ?side2 Ah.out).mono ?_);(case side1=>exact (RM.out.below (by repeat (first | exact Below.refl _ _ | apply below_alloc | apply pw_below_drewN | apply below_drew1))).C);(case side2=>exact RM.out.le);rintro e w' ⟨rfl,⟨nd,rfl⟩⟩;refine ⟨_,rfl,?_⟩))
 refine start_ (n:=10) (S:=fun w'=>w'.cell? ⟨gb,0,none⟩=some (.int .i64 a1_0)∧w'.cell? ⟨gb,1,none⟩=some (.int .i64 a1_1)∧w'.cell? ⟨gb,2,none⟩=some (.int .i64 a1_2)) (ds:=[]) #[false,false,false,false,false,false,false,false,false,false] (by kernel_rfl) rfl rfl ⟨(blk_cell (blk_drew (blk_now_ BK.out (by repeat (first | exact Below.refl _ _ | apply below_alloc | apply pw_below_drewN | apply below_drew1)))) 0).trans rfl,(blk_cell (blk_drew (blk_now_ BK.out (by repeat (first | exact Below.refl _ _ | apply below_alloc | apply pw_below_drewN | apply below_drew1)))) 1).trans rfl,(blk_cell (blk_drew (blk_now_ BK.out (by repeat (first | exact Below.refl _ _ | apply below_alloc | apply pw_below_drewN | apply below_drew1)))) 2).trans rfl⟩ (fun hHeld=>?_)
 refine with_tabW FnExactOpenSpans.tab24 FnExactOpenSpans.bits24 (fun HT_ HW_=>?_)
 refine pure_ (i:=0) (N:=some 80) (v:=?_) (a':=?_) #[true,false,false,false,false,false,false,false,false,false] rfl rfl (any_of HT_.out (by kernel_rfl)) (fun _ _ _ h=>h) (Or.inl ⟨by rfl,?_⟩) ?_ ?_
 rotate_left
 ·intro w'
  go_simp
  with_reducible rfl
 rotate_left
 ·simp only [Act.put,List.setIfInBounds_toArray,List.set_cons_zero,List.set_cons_succ,i64_w,i32_w]
  rfl
 refine take_ (i:=2) (N:=some 82) (v:=?_) (a':=?_) #[true,false,true,false,false,false,false,false,false,false] rfl rfl (take_ofW HT_.out HW_.out (by kernel_rfl)) (fun _ _ _ h=>h) (Or.inl ⟨by rfl,?_⟩) hHeld ?_ ?_
 rotate_left
 ·rintro w' ⟨s0_,s1_,s2_⟩
  go_simp
  with_reducible rfl
 rotate_left
 ·simp only [Act.put,List.setIfInBounds_toArray,List.set_cons_zero,List.set_cons_succ,i64_w,i32_w]
  rfl
 refine one_ (i:=1) (N:=some 81) #[true,true,true,false,false,false,false,false,false,false] rfl rfl (one_of HT_.out (by kernel_rfl)) (by decide) (fun K hK=>?_)
 refine goes_ Try.func19 (by kernel_rfl) rfl #[.slice A0 l0.length c0] (by rfl) rfl rfl (by (try simp only [List.map_toArray,List.map_cons,List.map_nil]);first | done | rfl | (simp only [List.length_drop,List.length_take];rfl)) ?_
 with_reducible refine (laws_toReadingS.calls k _ _ l0 x _ ?side1 ?side2 A6.out).mono ?_
 (case side1=>exact Kd.C_below HR0.out (below_step HB.out (by repeat (first | exact Below.refl _ _ | apply below_alloc | apply pw_below_drewN | apply below_drew1))))
 (case side2=>exact HC0.out)
 rintro e wt_ ⟨v_,rfl,ho,hb⟩
 refine ⟨_,rfl,?_⟩
 obtain ⟨AXc,cXc,rfl⟩:=Kd.R_slice ho
 have n_RW:=Aside0.mk (RW.out.below (below_step (by repeat (first | exact Below.refl _ _ | apply below_alloc | apply pw_below_drewN | apply below_drew1)) hb))
 have n_RM:=Aside0.mk (RM.out.below (below_step (by repeat (first | exact Below.refl _ _ | apply below_alloc | apply pw_below_drewN | apply below_drew1)) hb))
 have n_BK:=Aside0.mk (blk_below (g:=gb) (o:=.cells #[.int .i64 a1_0,.int .i64 a1_1,.int .i64 a1_2] 38 (0,0)) BK.out (below_step (by repeat (first | exact Below.refl _ _ | apply below_alloc | apply pw_below_drewN | apply below_drew1)) hb))
 have n_Xc:=Aside0.mk (RRow.new ho hb (below_step HB.out (by repeat (first | exact Below.refl _ _ | apply below_alloc | apply pw_below_drewN | apply below_drew1))))
 have n_HB:=Aside0.mk (below_step HB.out (below_step (by repeat (first | exact Below.refl _ _ | apply below_alloc | apply pw_below_drewN | apply below_drew1)) hb))
 clear RW RM BK HB
 have RW:=n_RW
 have RM:=n_RM
 have BK:=n_BK
 have HB:=n_HB
 have Xc:=n_Xc
 clear n_RW n_RM n_BK n_HB n_Xc
 clear ho hb
 refine hK.out _ _ ⟨(blk_cell BK.out 0).trans rfl,(blk_cell BK.out 1).trans rfl,(blk_cell BK.out 2).trans rfl⟩ (fun hHeld=>?_)
 clear hK K
 refine norm_ (a':=?_) ?_ ?_
 rotate_left
 ·show Act.put _ (some 81) _=_
  simp only [Act.put,List.setIfInBounds_toArray,List.set_cons_zero,List.set_cons_succ,i64_w,i32_w]
  rfl
 refine one_ (i:=3) (N:=some 83) #[true,true,true,true,false,false,false,false,false,false] rfl rfl (one_of HT_.out (by kernel_rfl)) (by decide) (fun K hK=>?_)
 refine goes_ Try.func20 (by kernel_rfl) rfl #[.agg #[.int .i64 a1_0,.int .i64 a1_1,.int .i64 a1_2]] (by rfl) rfl rfl (by (try simp only [List.map_toArray,List.map_cons,List.map_nil]);first | done | rfl | (simp only [List.length_drop,List.length_take];rfl)) ?_
 with_reducible refine (laws_toSump.calls a1_0 a1_1 a1_2 s0 s1 s2 _ A7.out).mono ?_
 rintro e wt_ ⟨rfl,hb⟩
 refine ⟨_,rfl,?_⟩
 have n_RW:=Aside0.mk (RW.out.below (below_step (by repeat (first | exact Below.refl _ _ | apply below_alloc | apply pw_below_drewN | apply below_drew1)) hb))
 have n_RM:=Aside0.mk (RM.out.below (below_step (by repeat (first | exact Below.refl _ _ | apply below_alloc | apply pw_below_drewN | apply below_drew1)) hb))
 have n_Xc:=Aside0.mk (Xc.out.below (below_step (by repeat (first | exact Below.refl _ _ | apply below_alloc | apply pw_below_drewN | apply below_drew1)) hb))
 have n_BK:=Aside0.mk (blk_below (g:=gb) (o:=.cells #[.int .i64 a1_0,.int .i64 a1_1,.int .i64 a1_2] 38 (0,0)) BK.out (below_step (by repeat (first | exact Below.refl _ _ | apply below_alloc | apply pw_below_drewN | apply below_drew1)) hb))
 have n_HB:=Aside0.mk (below_step HB.out (below_step (by repeat (first | exact Below.refl _ _ | apply below_alloc | apply pw_below_drewN | apply below_drew1)) hb))
 clear RW RM Xc BK HB
 have RW:=n_RW
 have RM:=n_RM
 have Xc:=n_Xc
 have BK:=n_BK
 have HB:=n_HB
 clear n_RW n_RM n_Xc n_BK n_HB
 clear hb
 refine hK.out _ _ ⟨(blk_cell BK.out 0).trans rfl,(blk_cell BK.out 1).trans rfl,(blk_cell BK.out 2).trans rfl⟩ (fun hHeld=>?_)
 clear hK K
 refine norm_ (a':=?_) ?_ ?_
 rotate_left
 ·show Act.put _ (some 83) _=_
  simp only [Act.put,List.setIfInBounds_toArray,List.set_cons_zero,List.set_cons_succ,i64_w,i32_w]
  rfl
 refine one_ (i:=4) (N:=some 84) #[true,true,true,true,true,false,false,false,false,false] rfl rfl (one_of HT_.out (by kernel_rfl)) (by decide) (fun K hK=>?_)
 refine goes_ Try.func21 (by kernel_rfl) rfl #[.slice AXc x.length cXc,.agg #[.int .i64 s0,.int .i64 s1,.int .i64 s2]] (by rfl) rfl rfl (by (try simp only [List.map_toArray,List.map_cons,List.map_nil]);first | done | rfl | (simp only [List.length_drop,List.length_take];rfl)) ?_
 with_reducible refine (impl_OpenSpans.calls k _ _ x s0 s1 s2 y ok _ ?side1 ?side2 A11.out).mono ?_
 (case side1=>exact (Xc.out.below (by repeat (first | exact Below.refl _ _ | apply below_alloc | apply pw_below_drewN | apply below_drew1))).C)
 (case side2=>exact Xc.out.le)
 rintro e wt_ ⟨v_,rfl,ho,hb⟩
 refine ⟨_,rfl,?_⟩
 obtain ⟨ARH,cRH,rfl⟩:=Kd.S_slice ho
 have n_RW:=Aside0.mk (RW.out.below (below_step (by repeat (first | exact Below.refl _ _ | apply below_alloc | apply pw_below_drewN | apply below_drew1)) hb))
 have n_RM:=Aside0.mk (RM.out.below (below_step (by repeat (first | exact Below.refl _ _ | apply below_alloc | apply pw_below_drewN | apply below_drew1)) hb))
 have n_Xc:=Aside0.mk (Xc.out.below (below_step (by repeat (first | exact Below.refl _ _ | apply below_alloc | apply pw_below_drewN | apply below_drew1)) hb))
 have n_BK:=Aside0.mk (blk_below (g:=gb) (o:=.cells #[.int .i64 a1_0,.int .i64 a1_1,.int .i64 a1_2] 38 (0,0)) BK.out (below_step (by repeat (first | exact Below.refl _ _ | apply below_alloc | apply pw_below_drewN | apply below_drew1)) hb))
 have n_RH:=Aside0.mk (SRow.new ho hb (below_step HB.out (by repeat (first | exact Below.refl _ _ | apply below_alloc | apply pw_below_drewN | apply below_drew1))))
 have n_HB:=Aside0.mk (below_step HB.out (below_step (by repeat (first | exact Below.refl _ _ | apply below_alloc | apply pw_below_drewN | apply below_drew1)) hb))
 clear RW RM Xc BK HB
 have RW:=n_RW
 have RM:=n_RM
 have Xc:=n_Xc
 have BK:=n_BK
 have HB:=n_HB
 have RH:=n_RH
 clear n_RW n_RM n_Xc n_BK n_HB n_RH
 clear ho hb
 refine hK.out _ _ ⟨(blk_cell BK.out 0).trans rfl,(blk_cell BK.out 1).trans rfl,(blk_cell BK.out 2).trans rfl⟩ (fun hHeld=>?_)
 clear hK K
 refine norm_ (a':=?_) ?_ ?_
 rotate_left
 ·show Act.put _ (some 84) _=_
  simp only [Act.put,List.setIfInBounds_toArray,List.set_cons_zero,List.set_cons_succ,i64_w,i32_w]
  rfl
 refine pure_ (i:=5) (N:=some 79) (v:=?_) (a':=?_) #[true,true,true,true,true,true,false,false,false,false] rfl rfl (any_of HT_.out (by kernel_rfl)) (fun _ _ _ h=>h) (Or.inl ⟨by rfl,?_⟩) ?_ ?_
 rotate_left
 ·intro w'
  go_simp
  with_reducible rfl
 rotate_left
 ·simp only [Act.put,List.setIfInBounds_toArray,List.set_cons_zero,List.set_cons_succ,i64_w,i32_w]
  rfl
 refine pure_ (i:=6) (N:=some 85) (v:=?_) (a':=?_) #[true,true,true,true,true,true,true,false,false,false] rfl rfl (any_of HT_.out (by kernel_rfl)) (fun _ _ _ h=>h) (Or.inl ⟨by rfl,?_⟩) ?_ ?_
 rotate_left
 ·intro w'
  go_simp
  with_reducible rfl
 rotate_left
 ·simp only [Act.put,List.setIfInBounds_toArray,List.set_cons_zero,List.set_cons_succ,i64_w,i32_w]
  rfl
 refine pure_ (i:=7) (N:=some 86) (v:=?_) (a':=?_) #[true,true,true,true,true,true,true,true,false,false] rfl rfl (any_of HT_.out (by kernel_rfl)) (fun _ _ _ h=>h) (Or.inl ⟨by rfl,?_⟩) ?_ ?_
 rotate_left
 ·intro w'
  go_simp
  with_reducible rfl
 rotate_left
 ·simp only [Act.put,List.setIfInBounds_toArray,List.set_cons_zero,List.set_cons_succ,i64_w,i32_w]
  rfl
 refine pure_ (i:=8) (N:=some 14) (v:=?_) (a':=?_) #[true,true,true,true,true,true,true,true,true,false] rfl rfl (any_of HT_.out (by kernel_rfl)) (fun _ _ _ h=>h) (Or.inl ⟨by rfl,?_⟩) ?_ ?_
 rotate_left
 ·intro w'
  go_simp
  with_reducible rfl
 rotate_left
 ·simp only [Act.put,List.setIfInBounds_toArray,List.set_cons_zero,List.set_cons_succ,i64_w,i32_w]
  rfl
 refine pure_ (i:=9) (N:=some 15) (v:=?_) (a':=?_) #[true,true,true,true,true,true,true,true,true,true] rfl rfl (any_of HT_.out (by kernel_rfl)) (fun _ _ _ h=>h) (Or.inl ⟨by rfl,?_⟩) ?_ ?_
 rotate_left
 ·intro w'
  go_simp
  with_reducible rfl
 rotate_left
 ·simp only [Act.put,List.setIfInBounds_toArray,List.set_cons_zero,List.set_cons_succ,i64_w,i32_w]
  rfl
 refine done_ (done_of HT_.out (by kernel_rfl)) ?_
 clear hHeld HT_ HW_
 go_wp2_with (first | ((with_reducible refine gate_callee (f:=22) rfl ?_);refine goesL_ (some 89) rfl rfl Try.func22 (by kernel_rfl) rfl #[.slice ARH y.length cRH,.slice ARW y.length cRW] rfl (by (try simp only [List.map_toArray,List.map_cons,List.map_nil]);first | done | rfl | (simp only [List.length_drop,List.length_take];rfl)) ?_;(with_reducible refine (laws_eqIntSS.calls k _ _ y _ _ y true _ ?side1 ?side2 ?side3 ?side4 A24.out).mono ?_);(case side1=>exact (RH.out.below (by repeat (first | exact Below.refl _ _ | apply below_alloc | apply pw_below_drewN | apply below_drew1))).C);(case side2=>exact RH.out.le);(case side3=>exact (RW.out.below (by repeat (first | exact Below.refl _ _ | apply below_alloc | apply pw_below_drewN | apply below_drew1))).C);(case side4=>exact RW.out.le);rintro e w' ⟨rfl,⟨nd,rfl⟩⟩;refine ⟨_,rfl,?_⟩)|((with_reducible refine gate_callee (f:=26) rfl ?_);refine goesL_ (some 98) rfl rfl Try.func26 (by kernel_rfl) rfl #[.slice AG_ ym.length cG,.int .i64 1] rfl (by (try simp only [List.map_toArray,List.map_cons,List.map_nil]);first | done | rfl | (simp only [List.length_drop,List.length_take];rfl)) ?_;(with_reducible refine (laws_heldIntSS.calls k _ _ ym 1 m _ ?side1 ?side2 Ah.out).mono ?_);(case side1=>exact (RM.out.below (by repeat (first | exact Below.refl _ _ | apply below_alloc | apply pw_below_drewN | apply below_drew1))).C);(case side2=>exact RM.out.le);rintro e w' ⟨rfl,⟨nd,rfl⟩⟩;refine ⟨_,rfl,?_⟩))
 go_ret
 exact ⟨rfl,(below_step HB.out (by repeat (first | exact Below.refl _ _ | apply below_alloc | apply pw_below_drewN | apply below_drew1)))⟩
def IsS77 (w0 W : World) (g : Nat) (f0 : List Int) (f1 : Int) (f2 : Int) : Prop:=∃ A0 c0,W.heap[g]? = some (.cells #[.slice A0 f0.length c0,.int .i64 f1,.int .u64 f2] 77 (0,0))∧w0.heap.size≤g∧Kd.C (Kd.int .u8) w0 A0 f0.length f0
theorem IsS77.grown {w0 W : World} {g : Nat} {f0 : List Int} {f1 : Int} {f2 : Int} {W1 : World} {row : Option Nat} (h : IsS77 w0 W g f0 f1 f2) (hw : W.grownBy W1 row) (hne : some g ≠ row) : IsS77 w0 W1 g f0 f1 f2:=by
 obtain ⟨A0,c0,hb,hg,hr0⟩:=h
 exact ⟨A0,c0,blk_grown hb hw hne,hg,hr0⟩
theorem IsS77.own_neN {w0 W : World} {g : Nat} {f0 : List Int} {f1 : Int} {f2 : Int} {α : Type} {d : Kd α} {e : Nat} {base : Nat} {ok : Nat→Prop} {v : Value} {xs : List α} (h : IsS77 w0 W g f0 f1 f2) (ho : Kd.N d e W base ok v xs) (ht : e ≠ 77) : some g ≠ v.ownBlock:=by
 obtain ⟨A0,c0,hb,hg,hr0⟩:=h
 exact Kd.N_ne ho hb ht
theorem IsS77.fresh {w0 W : World} {g : Nat} {f0 : List Int} {f1 : Int} {f2 : Int} (h : IsS77 w0 W g f0 f1 f2) : ∀ k,W.heap.size≤k→k ≠ g:=by
 obtain ⟨A0,c0,hb,hg,hr0⟩:=h
 exact Kd.freshB hb
theorem IsS77.kept {w0 W : World} {g : Nat} {f0 : List Int} {f1 : Int} {f2 : Int} {W1 : World} {S : Nat→Prop} (h : IsS77 w0 W g f0 f1 f2) (hk : Kept W W1 S) (hne : ¬ S g) : IsS77 w0 W1 g f0 f1 f2:=by
 obtain ⟨A0,c0,hb,hg,hr0⟩:=h
 exact ⟨A0,c0,blk_kept hb hk hne,hg,hr0⟩
theorem IsS77.below {w0 W : World} {g : Nat} {f0 : List Int} {f1 : Int} {f2 : Int} {W1 : World} (h : IsS77 w0 W g f0 f1 f2) (hw : Below W.heap.size W W1) : IsS77 w0 W1 g f0 f1 f2:=h.grown (grown_of_below hw none) (by simp)
theorem IsS77.alloc {w0 W : World} {g : Nat} {f0 : List Int} {f1 : Int} {f2 : Int} (h : IsS77 w0 W g f0 f1 f2) (o : Obj) : IsS77 w0 (W.alloc o) g f0 f1 f2:=h.below (below_alloc (Below.refl _ _) o)
theorem IsS77.drewN {w0 W : World} {g : Nat} {f0 : List Int} {f1 : Int} {f2 : Int} (h : IsS77 w0 W g f0 f1 f2) (m : Nat) : IsS77 w0 (W.drewN m) g f0 f1 f2:=h
theorem IsS77.drew {w0 W : World} {g : Nat} {f0 : List Int} {f1 : Int} {f2 : Int} (h : IsS77 w0 W g f0 f1 f2) : IsS77 w0 W.drew g f0 f1 f2:=h
theorem IsS77.at_ {w0 W : World} {g : Nat} {f0 : List Int} {f1 : Int} {f2 : Int} {w' : World} {m : Nat} (hq : W.drewN m=w') (h : IsS77 w0 W g f0 f1 f2) : IsS77 w0 w' g f0 f1 f2:=by subst hq;exact IsS77.drewN h m
theorem IsS77.apart {w0 W : World} {g : Nat} {f0 : List Int} {f1 : Int} {f2 : Int} {α : Type} {d : Kd α} {e : Nat} {base : Nat} {ok : Nat→Prop} {v : Value} {xs : List α} (h : IsS77 w0 W g f0 f1 f2) (ho : d.R e W base ok v xs) (ht : ∀ q,q ∈ e :: d.E→q ≠ 77) : d.R e W base (fun k=>ok k∧k ≠ g) v xs:=by
 obtain ⟨A0,c0,hb,hg,hr0⟩:=h
 exact Kd.R_types ho hb ht
theorem IsS77.own_ne {w0 W : World} {g : Nat} {f0 : List Int} {f1 : Int} {f2 : Int} {α : Type} {d : Kd α} {e : Nat} {base : Nat} {ok : Nat→Prop} {v : Value} {xs : List α} (h : IsS77 w0 W g f0 f1 f2) (ho : d.R e W base ok v xs) (ht : e ≠ 77) : some g ≠ v.ownBlock:=by
 obtain ⟨A0,c0,hb,hg,hr0⟩:=h
 exact Kd.R_ne ho hb ht
theorem IsS77.apartQ {w0 W : World} {g : Nat} {f0 : List Int} {f1 : Int} {f2 : Int} {α : Type} {d : Kd α} {e : Nat} {base : Nat} {ok : Nat→Prop} {v : Value} {xs : List α} (h : IsS77 w0 W g f0 f1 f2) (ho : d.Q e W base ok v xs) (ht : ∀ q,q ∈ e :: d.E→q ≠ 77) : d.Q e W base (fun k=>ok k∧k ≠ g) v xs:=by
 obtain ⟨A0,c0,hb,hg,hr0⟩:=h
 exact Kd.Q_types ho hb ht
theorem IsS77.own_neQ {w0 W : World} {g : Nat} {f0 : List Int} {f1 : Int} {f2 : Int} {α : Type} {d : Kd α} {e : Nat} {base : Nat} {ok : Nat→Prop} {v : Value} {xs : List α} (h : IsS77 w0 W g f0 f1 f2) (ho : d.Q e W base ok v xs) (ht : e ≠ 77) : some g ≠ v.ownBlock:=by
 obtain ⟨A0,c0,hb,hg,hr0⟩:=h
 exact Kd.Q_ne ho hb ht
theorem IsS77.apartS {w0 W : World} {g : Nat} {f0 : List Int} {f1 : Int} {f2 : Int} {α : Type} {d : Kd α} {e : Nat} {base : Nat} {ok : Nat→Prop} {v : Value} {xs : List α} (h : IsS77 w0 W g f0 f1 f2) (ho : d.S e W base ok v xs) (ht : ∀ q,q ∈ e :: d.E→q ≠ 77) : d.S e W base (fun k=>ok k∧k ≠ g) v xs:=by
 obtain ⟨A0,c0,hb,hg,hr0⟩:=h
 exact Kd.S_types ho hb ht
theorem IsS77.own_neS {w0 W : World} {g : Nat} {f0 : List Int} {f1 : Int} {f2 : Int} {α : Type} {d : Kd α} {e : Nat} {base : Nat} {ok : Nat→Prop} {v : Value} {xs : List α} (h : IsS77 w0 W g f0 f1 f2) (ho : d.S e W base ok v xs) (ht : e ≠ 77) : some g ≠ v.ownBlock:=by
 obtain ⟨A0,c0,hb,hg,hr0⟩:=h
 exact Kd.S_ne ho hb ht
theorem IsS77.lt {w0 W : World} {g : Nat} {f0 : List Int} {f1 : Int} {f2 : Int} (h : IsS77 w0 W g f0 f1 f2) : g < W.heap.size:=by
 obtain ⟨A0,c0,hb,hg,hr0⟩:=h
 exact blk_lt hb
theorem IsS77.ge {w0 W : World} {g : Nat} {f0 : List Int} {f1 : Int} {f2 : Int} (h : IsS77 w0 W g f0 f1 f2) : w0.heap.size≤g:=by
 obtain ⟨A0,c0,hb,hg,hr0⟩:=h
 exact hg
theorem IsS77.ne_blk {w0 W : World} {g : Nat} {f0 : List Int} {f1 : Int} {f2 : Int} {a : Nat} {cs : Array Value} {t : TypeId} {fr : Nat × Nat} (h : IsS77 w0 W g f0 f1 f2) (hb2 : W.heap[a]? = some (.cells cs t fr)) (ht : t ≠ 77) : g ≠ a:=by
 obtain ⟨A0,c0,hb,hg,hr0⟩:=h
 rintro rfl
 rw [hb] at hb2
 injection hb2 with hb2
 injection hb2 with _ ht2
 exact ht ht2.symm
theorem IsS77.far {w0 W : World} {g : Nat} {f0 : List Int} {f1 : Int} {f2 : Int} {p : Addr} (h : IsS77 w0 W g f0 f1 f2) (hne : g ≠ p.block) (u : Value) : IsS77 w0 (W.setCell p u) g f0 f1 f2:=by
 obtain ⟨A0,c0,hb,hg,hr0⟩:=h
 exact ⟨A0,c0,blk_far hb hne u,hg,hr0⟩
theorem cellS77_0 {W : World} {g : Nat} {A0 : Option Addr} {c0 : Nat} {f0 : List Int} {f1 : Int} {f2 : Int} (h : W.heap[g]? = some (.cells #[.slice A0 f0.length c0,.int .i64 f1,.int .u64 f2] 77 (0,0))) : W.cell? ⟨g,0,none⟩=some (.slice A0 f0.length c0):=(blk_cell h 0).trans rfl
theorem cellS77_1 {W : World} {g : Nat} {A0 : Option Addr} {c0 : Nat} {f0 : List Int} {f1 : Int} {f2 : Int} (h : W.heap[g]? = some (.cells #[.slice A0 f0.length c0,.int .i64 f1,.int .u64 f2] 77 (0,0))) : W.cell? ⟨g,1,none⟩=some (.int .i64 f1):=(blk_cell h 1).trans rfl
theorem IsS77.set_1 {w0 W : World} {g : Nat} {f0 : List Int} {f1 : Int} {f2 : Int} (h : IsS77 w0 W g f0 f1 f2) (x : Int) : IsS77 w0 (W.setCell ⟨g,1,none⟩ (.int .i64 x)) g f0 x f2:=by
 obtain ⟨A0,c0,hb,hg,hr0⟩:=h
 exact ⟨A0,c0,by simpa using blk_set hb 1 (.int .i64 x),hg,hr0⟩
theorem cellS77_2 {W : World} {g : Nat} {A0 : Option Addr} {c0 : Nat} {f0 : List Int} {f1 : Int} {f2 : Int} (h : W.heap[g]? = some (.cells #[.slice A0 f0.length c0,.int .i64 f1,.int .u64 f2] 77 (0,0))) : W.cell? ⟨g,2,none⟩=some (.int .u64 f2):=(blk_cell h 2).trans rfl
theorem IsS77.set_2 {w0 W : World} {g : Nat} {f0 : List Int} {f1 : Int} {f2 : Int} (h : IsS77 w0 W g f0 f1 f2) (x : Int) : IsS77 w0 (W.setCell ⟨g,2,none⟩ (.int .u64 x)) g f0 f1 x:=by
 obtain ⟨A0,c0,hb,hg,hr0⟩:=h
 exact ⟨A0,c0,by simpa using blk_set hb 2 (.int .u64 x),hg,hr0⟩
theorem IsS77.new (w0 W : World) (A0 : Option Addr) (c0 : Nat) (f0 : List Int) (f1 : Int) (f2 : Int) (hB : Below w0.heap.size w0 W) (hr0 : Kd.C (Kd.int .u8) w0 A0 f0.length f0) : IsS77 w0 (W.alloc (.cells #[.slice A0 f0.length c0,.int .i64 f1,.int .u64 f2] 77)) W.heap.size f0 f1 f2:=⟨A0,c0,by simpa using heap_alloc_new W _,hB.size,hr0⟩
def spec_l1Cur_next.f (s0_0 : List Int) (s0_1 : Int) (s0_2 : Int) : Option (Int × Int × Int):=if s0_1 < (s0_0.length : Int) then (if 0≤s0_1 then (if (wrap64 (s0_1 + 1))≤(s0_0.length : Int) then (some (wrap64 (rd s0_0 s0_1),wrap64 (s0_1 + 1),IntKind.u64.wrap ((IntKind.u64.wrap ((IntKind.u64.wrap (s0_2 * 6364136223846793005)) + (IntKind.u64.wrap (wrap64 (rd s0_0 s0_1))))) + 933933))) else (some (wrap64 (Go.bits .and .u64 ((IntKind.u64.wrap ((IntKind.u64.wrap ((IntKind.u64.wrap (s0_2 * 6364136223846793005)) + (IntKind.u64.wrap (wrap64 (rd s0_0 s0_1))))) + 933933)) / 1099511627776) 255),wrap64 (s0_1 + 1),IntKind.u64.wrap ((IntKind.u64.wrap ((IntKind.u64.wrap (s0_2 * 6364136223846793005)) + (IntKind.u64.wrap (wrap64 (rd s0_0 s0_1))))) + 933933)))) else (none)) else (if (wrap64 (s0_1 + 1))≤(s0_0.length : Int) then (some (0,wrap64 (s0_1 + 1),IntKind.u64.wrap ((IntKind.u64.wrap ((IntKind.u64.wrap (s0_2 * 6364136223846793005)))) + 933933))) else (some (wrap64 (Go.bits .and .u64 ((IntKind.u64.wrap ((IntKind.u64.wrap ((IntKind.u64.wrap (s0_2 * 6364136223846793005)))) + 933933)) / 1099511627776) 255),wrap64 (s0_1 + 1),IntKind.u64.wrap ((IntKind.u64.wrap ((IntKind.u64.wrap (s0_2 * 6364136223846793005)))) + 933933))))
set_option maxHeartbeats 8000000 in
set_option maxRecDepth 100000 in
theorem spec_l1Cur_next.calls (g : Nat) (s0_0 : List Int) (s0_1 : Int) (s0_2 : Int) (r1 : Int) (r2 : Int) (r3 : Int) (w0 w : World) (hI : IsS77 w0 w g s0_0 s0_1 s0_2) (hB : Below w0.heap.size w0 w) (h : spec_l1Cur_next.f s0_0 s0_1 s0_2=some (r1,r2,r3)) :
  Calls Try.prog 92 #[.pointer (some ⟨g,0,none⟩)] w fun e w'=>e = .returned (.int .i64 r1)∧IsS77 w0 w' g s0_0 r2 r3∧Below w0.heap.size w0 w'∧KeepBut w w' g none:=by
 have HI0:=amk hI
 have HK:=amk (KeepBut.refl w g none)
 have HL:=amk hB.size
 clear hI
 have HW0:=amk hB.size
 have HB:=amk hB
 clear hB
 have H : (if s0_1 < (s0_0.length : Int) then (if 0≤s0_1 then (if (wrap64 (s0_1 + 1))≤(s0_0.length : Int) then (some (wrap64 (rd s0_0 s0_1),wrap64 (s0_1 + 1),IntKind.u64.wrap ((IntKind.u64.wrap ((IntKind.u64.wrap (s0_2 * 6364136223846793005)) + (IntKind.u64.wrap (wrap64 (rd s0_0 s0_1))))) + 933933))) else (some (wrap64 (Go.bits .and .u64 ((IntKind.u64.wrap ((IntKind.u64.wrap ((IntKind.u64.wrap (s0_2 * 6364136223846793005)) + (IntKind.u64.wrap (wrap64 (rd s0_0 s0_1))))) + 933933)) / 1099511627776) 255),wrap64 (s0_1 + 1),IntKind.u64.wrap ((IntKind.u64.wrap ((IntKind.u64.wrap (s0_2 * 6364136223846793005)) + (IntKind.u64.wrap (wrap64 (rd s0_0 s0_1))))) + 933933)))) else (none)) else (if (wrap64 (s0_1 + 1))≤(s0_0.length : Int) then (some (0,wrap64 (s0_1 + 1),IntKind.u64.wrap ((IntKind.u64.wrap ((IntKind.u64.wrap (s0_2 * 6364136223846793005)))) + 933933))) else (some (wrap64 (Go.bits .and .u64 ((IntKind.u64.wrap ((IntKind.u64.wrap ((IntKind.u64.wrap (s0_2 * 6364136223846793005)))) + 933933)) / 1099511627776) 255),wrap64 (s0_1 + 1),IntKind.u64.wrap ((IntKind.u64.wrap ((IntKind.u64.wrap (s0_2 * 6364136223846793005)))) + 933933)))))=some (r1,r2,r3):=h
 clear h
 by_cases c2 : s0_1 < (s0_0.length : Int)
 ·rw [if_pos c2] at H
  have c2b0 : decide (s0_1 < (s0_0.length : Int))=true:=decide_eq_true c2
  clear c2
  by_cases c3 : 0≤s0_1
  ·rw [if_pos c3] at H
   have c3b0 : decide (0≤s0_1)=true:=decide_eq_true c3
   clear c3
   by_cases c4 : (wrap64 (s0_1 + 1))≤(s0_0.length : Int)
   ·rw [if_pos c4] at H
    have c4b0 : decide ((wrap64 (s0_1 + 1))≤(s0_0.length : Int))=true:=decide_eq_true c4
    clear c4
    simp only [Option.some.injEq,Prod.mk.injEq] at H
    obtain ⟨rfl,rfl,rfl⟩:=H
    obtain ⟨ASz5_0,cSz5_0,HGz5,hgz5,HSz5_0⟩:=HI0.out
    have hcz5_0:=cellS77_0 HGz5
    have hcz5_1:=cellS77_1 HGz5
    have hcz5_2:=cellS77_2 HGz5
    have hfz5_1:=blk_frozen HGz5 1
    have hfz5_2:=blk_frozen HGz5 2
    clear HGz5 hgz5
    have p101 : 0≤(s0_1 : Int):=of_decide_eq_true ass
    have q101 : s0_1 < (s0_0.length : Int):=of_decide_eq_true ass
    obtain ⟨ad101,e101,hx101_0⟩:=Kd.at_int HSz5_0 s0_1 p101 q101
    cases e101
    replace hx101_0:=pw_cell_below HB.out hx101_0
    replace p101:=eq_true p101
    replace q101:=eq_true q101
    go_enter Try.func92,Try.ntmps92
    go_wp2
    repeat (go_quiet (fail);try go_wp2)
    go_ret
    exact ⟨erw0,i77_0 HI0,bel1 HB (IsS77.ge HI0.out),kkk HK⟩
   ·rw [if_neg c4] at H
    have c4b0 : decide ((wrap64 (s0_1 + 1))≤(s0_0.length : Int))=false:=decide_eq_false c4
    clear c4
    simp only [Option.some.injEq,Prod.mk.injEq] at H
    obtain ⟨rfl,rfl,rfl⟩:=H
    obtain ⟨ASz6_0,cSz6_0,HGz6,hgz6,HSz6_0⟩:=HI0.out
    have hcz6_0:=cellS77_0 HGz6
    have hcz6_1:=cellS77_1 HGz6
    have hcz6_2:=cellS77_2 HGz6
    have hfz6_1:=blk_frozen HGz6 1
    have hfz6_2:=blk_frozen HGz6 2
    clear HGz6 hgz6
    have p101 : 0≤(s0_1 : Int):=of_decide_eq_true ass
    have q101 : s0_1 < (s0_0.length : Int):=of_decide_eq_true ass
    obtain ⟨ad101,e101,hx101_0⟩:=Kd.at_int HSz6_0 s0_1 p101 q101
    cases e101
    replace hx101_0:=pw_cell_below HB.out hx101_0
    replace p101:=eq_true p101
    replace q101:=eq_true q101
    go_enter Try.func92,Try.ntmps92
    go_wp2
    repeat (go_quiet (fail);try go_wp2)
    go_ret
    exact ⟨erw0,i77_0 HI0,bel1 HB (IsS77.ge HI0.out),kkk HK⟩
  ·rw [if_neg c3] at H
   exact absurd H (by simp)
 ·rw [if_neg c2] at H
  have c2b0 : decide (s0_1 < (s0_0.length : Int))=false:=decide_eq_false c2
  clear c2
  by_cases c7 : (wrap64 (s0_1 + 1))≤(s0_0.length : Int)
  ·rw [if_pos c7] at H
   have c7b0 : decide ((wrap64 (s0_1 + 1))≤(s0_0.length : Int))=true:=decide_eq_true c7
   clear c7
   simp only [Option.some.injEq,Prod.mk.injEq] at H
   obtain ⟨rfl,rfl,rfl⟩:=H
   obtain ⟨ASz8_0,cSz8_0,HGz8,hgz8,HSz8_0⟩:=HI0.out
   have hcz8_0:=cellS77_0 HGz8
   have hcz8_1:=cellS77_1 HGz8
   have hcz8_2:=cellS77_2 HGz8
   have hfz8_1:=blk_frozen HGz8 1
   have hfz8_2:=blk_frozen HGz8 2
   clear HGz8 hgz8
   go_enter Try.func92,Try.ntmps92
   go_wp2
   repeat (go_quiet (fail);try go_wp2)
   go_ret
   exact ⟨erw0,i77_0 HI0,bel1 HB (IsS77.ge HI0.out),kkk HK⟩
  ·rw [if_neg c7] at H
   have c7b0 : decide ((wrap64 (s0_1 + 1))≤(s0_0.length : Int))=false:=decide_eq_false c7
   clear c7
   simp only [Option.some.injEq,Prod.mk.injEq] at H
   obtain ⟨rfl,rfl,rfl⟩:=H
   obtain ⟨ASz9_0,cSz9_0,HGz9,hgz9,HSz9_0⟩:=HI0.out
   have hcz9_0:=cellS77_0 HGz9
   have hcz9_1:=cellS77_1 HGz9
   have hcz9_2:=cellS77_2 HGz9
   have hfz9_1:=blk_frozen HGz9 1
   have hfz9_2:=blk_frozen HGz9 2
   clear HGz9 hgz9
   go_enter Try.func92,Try.ntmps92
   go_wp2
   repeat (go_quiet (fail);try go_wp2)
   go_ret
   exact ⟨erw0,i77_0 HI0,bel1 HB (IsS77.ge HI0.out),kkk HK⟩
def spec_l1Cur_pick.f (s0_0 : List Int) (s0_1 : Int) (s0_2 : Int) (a1 : Int) : Option (Int × Int × Int):=if a1≤1 then (some (0,s0_1,s0_2)) else ((spec_l1Cur_next.f s0_0 s0_1 s0_2).bind fun bt102=>(if a1 > 200 then ((spec_l1Cur_next.f s0_0 bt102.2.1 bt102.2.2).bind fun bt105=>(if a1=0 then (none) else (some (Int.tmod (wrap64 ((wrap64 (bt102.1 * 256)) + bt105.1)) a1,bt105.2.1,bt105.2.2)))) else (if a1=0 then (none) else (some (Int.tmod bt102.1 a1,bt102.2.1,bt102.2.2)))))
set_option maxHeartbeats 8000000 in
set_option maxRecDepth 100000 in
theorem spec_l1Cur_pick.calls (g : Nat) (s0_0 : List Int) (s0_1 : Int) (s0_2 : Int) (a1 : Int) (r1 : Int) (r2 : Int) (r3 : Int) (w0 w : World) (hI : IsS77 w0 w g s0_0 s0_1 s0_2) (hB : Below w0.heap.size w0 w) (h : spec_l1Cur_pick.f s0_0 s0_1 s0_2 a1=some (r1,r2,r3)) :
  Calls Try.prog 81 #[.pointer (some ⟨g,0,none⟩),.int .i64 a1] w fun e w'=>e = .returned (.int .i64 r1)∧IsS77 w0 w' g s0_0 r2 r3∧Below w0.heap.size w0 w'∧KeepBut w w' g none:=by
 have HI0:=amk hI
 have HK:=amk (KeepBut.refl w g none)
 have HL:=amk hB.size
 clear hI
 have HW0:=amk hB.size
 have HB:=amk hB
 clear hB
 have H : (if a1≤1 then (some (0,s0_1,s0_2)) else ((spec_l1Cur_next.f s0_0 s0_1 s0_2).bind fun bt102=>(if a1 > 200 then ((spec_l1Cur_next.f s0_0 bt102.2.1 bt102.2.2).bind fun bt105=>(if a1=0 then (none) else (some (Int.tmod (wrap64 ((wrap64 (bt102.1 * 256)) + bt105.1)) a1,bt105.2.1,bt105.2.2)))) else (if a1=0 then (none) else (some (Int.tmod bt102.1 a1,bt102.2.1,bt102.2.2))))))=some (r1,r2,r3):=h
 clear h
 by_cases c3 : a1≤1
 ·rw [if_pos c3] at H
  have c3b0 : decide (a1≤1)=true:=decide_eq_true c3
  clear c3
  simp only [Option.some.injEq,Prod.mk.injEq] at H
  obtain ⟨rfl,rfl,rfl⟩:=H
  go_enter Try.func81,Try.ntmps81
  go_wp2
  go_ret
  exact ⟨erw0,i77_0 HI0,bel1 HB (IsS77.ge HI0.out),kkk HK⟩
 ·rw [if_neg c3] at H
  have c3b0 : decide (a1≤1)=false:=decide_eq_false c3
  clear c3
  replace H:=obs H
  obtain ⟨⟨t102,t103,t104⟩,A40,H⟩:=H
  replace H : (if a1 > 200 then ((spec_l1Cur_next.f s0_0 t103 t104).bind fun bt105=>(if a1=0 then (none) else (some (Int.tmod (wrap64 ((wrap64 (t102 * 256)) + bt105.1)) a1,bt105.2.1,bt105.2.2)))) else (if a1=0 then (none) else (some (Int.tmod t102 a1,t103,t104))))=some (r1,r2,r3):=H
  have A4:=amk A40
  clear A40
  by_cases c5 : a1 > 200
  ·rw [if_pos c5] at H
   have c5b0 : decide (200 < a1)=true:=decide_eq_true c5
   clear c5
   replace H:=obs H
   obtain ⟨⟨t105,t106,t107⟩,A60,H⟩:=H
   replace H : (if a1=0 then (none) else (some (Int.tmod (wrap64 ((wrap64 (t102 * 256)) + t105)) a1,t106,t107)))=some (r1,r2,r3):=H
   have A6:=amk A60
   clear A60
   by_cases c7 : a1=0
   ·rw [if_pos c7] at H
    exact absurd H (by simp)
   ·rw [if_neg c7] at H
    have c7b0 : (a1 == 0)=false:=beq_eq_false_iff_ne.mpr c7
    have c7b1 : (a1 != 0)=true:=bne_iff_ne.mpr c7
    simp only [Option.some.injEq,Prod.mk.injEq] at H
    obtain ⟨rfl,rfl,rfl⟩:=H
    go_enter Try.func81,Try.ntmps81
    go_wp2_with (first | ((with_reducible refine gate_callee (f:=92) rfl ?_);refine goesL_ (some 9) rfl rfl Try.func92 (by kernel_rfl) rfl #[.pointer (some ⟨g,0,none⟩)] rfl mtt ?_;(with_reducible refine (spec_l1Cur_next.calls g s0_0 s0_1 s0_2 t102 t103 t104 w0 _ ?side1 ?side2 A4.out).mono ?_);(case side1=>exact i77_0 HI0);(case side2=>exact bel1 HB (IsS77.ge HI0.out));rintro e w8 ⟨rfl,hi,hb,hk⟩;refine ⟨_,rfl,?_⟩;replace HK:=amk (KeepBut.trans (kkk HK) hk (.inl rfl));replace HB:=amk (hb);replace HI0:=amk (hi);(try clear hb hk hi))|((with_reducible refine gate_callee (f:=92) rfl ?_);refine goesL_ (some 15) rfl rfl Try.func92 (by kernel_rfl) rfl #[.pointer (some ⟨g,0,none⟩)] rfl mtt ?_;(with_reducible refine (spec_l1Cur_next.calls g s0_0 t103 t104 t105 t106 t107 w0 _ ?side1 ?side2 A6.out).mono ?_);(case side1=>exact i77_0 HI0);(case side2=>exact bel1 HB (IsS77.ge HI0.out));rintro e w9 ⟨rfl,hi,hb,hk⟩;refine ⟨_,rfl,?_⟩;replace HK:=amk (KeepBut.trans (kkk HK) hk (.inl rfl));replace HB:=amk (hb);replace HI0:=amk (hi);(try clear hb hk hi)))
    go_ret
    exact ⟨erw0,i77_0 HI0,bel1 HB (IsS77.ge HI0.out),kkk HK⟩
  ·rw [if_neg c5] at H
   have c5b0 : decide (200 < a1)=false:=decide_eq_false c5
   clear c5
   by_cases c10 : a1=0
   ·rw [if_pos c10] at H
    exact absurd H (by simp)
   ·rw [if_neg c10] at H
    have c10b0 : (a1 == 0)=false:=beq_eq_false_iff_ne.mpr c10
    have c10b1 : (a1 != 0)=true:=bne_iff_ne.mpr c10
    simp only [Option.some.injEq,Prod.mk.injEq] at H
    obtain ⟨rfl,rfl,rfl⟩:=H
    go_enter Try.func81,Try.ntmps81
    go_wp2_with (first | ((with_reducible refine gate_callee (f:=92) rfl ?_);refine goesL_ (some 9) rfl rfl Try.func92 (by kernel_rfl) rfl #[.pointer (some ⟨g,0,none⟩)] rfl mtt ?_;(with_reducible refine (spec_l1Cur_next.calls g s0_0 s0_1 s0_2 t102 t103 t104 w0 _ ?side1 ?side2 A4.out).mono ?_);(case side1=>exact i77_0 HI0);(case side2=>exact bel1 HB (IsS77.ge HI0.out));rintro e w11 ⟨rfl,hi,hb,hk⟩;refine ⟨_,rfl,?_⟩;replace HK:=amk (KeepBut.trans (kkk HK) hk (.inl rfl));replace HB:=amk (hb);replace HI0:=amk (hi);(try clear hb hk hi)))
    go_ret
    exact ⟨erw0,i77_0 HI0,bel1 HB (IsS77.ge HI0.out),kkk HK⟩
def spec_l1Cur_among.f (s0_0 : List Int) (s0_1 : Int) (s0_2 : Int) (l1 : List Int) : Option (Int × Int × Int):=(spec_l1Cur_pick.f s0_0 s0_1 s0_2 (l1.length : Int)).bind fun bt108=>(if 0≤bt108.1 then (if bt108.1 < (l1.length : Int) then (some (rd l1 bt108.1,bt108.2.1,bt108.2.2)) else (none)) else (none))
set_option maxHeartbeats 8000000 in
set_option maxRecDepth 100000 in
theorem spec_l1Cur_among.calls (g : Nat) (s0_0 : List Int) (s0_1 : Int) (s0_2 : Int) (A1 : Option Addr) (c1 : Nat) (l1 : List Int) (r1 : Int) (r2 : Int) (r3 : Int) (w0 w : World) (hI : IsS77 w0 w g s0_0 s0_1 s0_2) (hB : Below w0.heap.size w0 w) (hr1 : Kd.C (Kd.int .i64) w A1 l1.length l1) (hc1 : l1.length≤c1) (hf1 : ∀ ad,A1=some ad→0 < l1.length→ad.block ≠ g) (h : spec_l1Cur_among.f s0_0 s0_1 s0_2 l1=some (r1,r2,r3)) :
  Calls Try.prog 80 #[.pointer (some ⟨g,0,none⟩),.slice A1 l1.length c1] w fun e w'=>e = .returned (.int .i64 r1)∧IsS77 w0 w' g s0_0 r2 r3∧Below w0.heap.size w0 w'∧KeepBut w w' g none:=by
 have HR1:=amk hr1
 have HC1:=amk hc1
 clear hr1 hc1
 have HI0:=amk hI
 have HK:=amk (KeepBut.refl w g none)
 have HL:=amk hB.size
 clear hI
 have HW0:=amk hB.size
 have HB:=amk hB
 clear hB
 have H : ((spec_l1Cur_pick.f s0_0 s0_1 s0_2 (l1.length : Int)).bind fun bt108=>(if 0≤bt108.1 then (if bt108.1 < (l1.length : Int) then (some (rd l1 bt108.1,bt108.2.1,bt108.2.2)) else (none)) else (none)))=some (r1,r2,r3):=h
 clear h
 replace H:=obs H
 obtain ⟨⟨t108,t109,t110⟩,A30,H⟩:=H
 replace H : (if 0≤t108 then (if t108 < (l1.length : Int) then (some (rd l1 t108,t109,t110)) else (none)) else (none))=some (r1,r2,r3):=H
 have A3:=amk A30
 clear A30
 by_cases c4 : 0≤t108
 ·rw [if_pos c4] at H
  have c4b0 : decide (0≤t108)=true:=decide_eq_true c4
  clear c4
  by_cases c5 : t108 < (l1.length : Int)
  ·rw [if_pos c5] at H
   have c5b0 : decide (t108 < (l1.length : Int))=true:=decide_eq_true c5
   clear c5
   simp only [Option.some.injEq,Prod.mk.injEq] at H
   obtain ⟨rfl,rfl,rfl⟩:=H
   go_enter Try.func80,Try.ntmps80
   go_wp2_with (first | ((with_reducible refine gate_callee (f:=81) rfl ?_);refine goesL_ (some 9) rfl rfl Try.func81 (by kernel_rfl) rfl #[.pointer (some ⟨g,0,none⟩),.int .i64 (l1.length : Int)] rfl mtt ?_;(with_reducible refine (spec_l1Cur_pick.calls g s0_0 s0_1 s0_2 (l1.length : Int) t108 t109 t110 w0 _ ?side1 ?side2 A3.out).mono ?_);(case side1=>exact i77_0 HI0);(case side2=>exact bel1 HB (IsS77.ge HI0.out));rintro e w6 ⟨rfl,hi,hb,hk⟩;refine ⟨_,rfl,?_⟩;replace HK:=amk (KeepBut.trans (kkk HK) hk (.inl rfl));replace HB:=amk (hb);replace HI0:=amk (hi);(try clear hb hk hi);have p111 : 0≤(t108 : Int):=of_decide_eq_true ass;have q111 : t108 < (l1.length : Int):=of_decide_eq_true ass;obtain ⟨ad111,e111,hx111_0⟩:=Kd.at_int HR1.out t108 p111 q111;cases e111;replace hx111_0:=keep_cell HK.out hx111_0 (by first | (rw [add_block];exact hf1 _ rfl (by omega)) | exact hf1 _ rfl (by omega) | exact hf1 ad111 rfl (by omega));replace p111:=eq_true p111;replace q111:=eq_true q111))
   go_ret
   exact ⟨erw0,i77_0 HI0,bel1 HB (IsS77.ge HI0.out),kkk HK⟩
  ·rw [if_neg c5] at H
   exact absurd H (by simp)
 ·rw [if_neg c4] at H
  exact absurd H (by simp)
end Go.Proofs.Ytldifiededjgjaa.P
namespace Go.Proofs.Ytldifiededjgjaa.Pu
open Go.RowKit Go.Proofs.Ytldifiededjgjaa.P Go.Proofs.YtldifiededjgjaaW.PrintWords
theorem wr {x : Int} (h : -9223372036854775808≤x) (h' : x≤9223372036854775807) : wrap64 x=x:=by unfold wrap64;omega
theorem wr_nn {x : Int} (h : 0≤x) (h' : x≤9223372036854775807) : wrap64 x=x:=wr (by omega) h'
theorem Ev.pos {α : Type} {c : Prop} [Decidable c] {a b : Nat→Option α} {r : α} (h : c) (k : Ev a r) : Ev (fun n=>if c then a n else b n) r:=by
 simpa only [if_pos h] using k
theorem Ev.neg {α : Type} {c : Prop} [Decidable c] {a b : Nat→Option α} {r : α} (h : ¬ c) (k : Ev b r) : Ev (fun n=>if c then a n else b n) r:=by
 simpa only [if_neg h] using k
theorem Ev.bindS {α β : Type} {g : Option α} {f : Nat→α→Option β} {a : α} {r : β} (h : g=some a) (k : Ev (fun n=>f n a) r) : Ev (fun n=>g.bind (f n)) r:=by
 subst h;exact k
theorem Ev.someb {α β : Type} {a : α} {f : Nat→α→Option β} {r : β} (k : Ev (fun n=>f n a) r) : Ev (fun n=>(some a).bind (f n)) r:=k
theorem Ev.to {α : Type} {g : Nat→Option α} {r r' : α} (k : Ev g r') (h : r' = r) : Ev g r:=h ▸ k
theorem Ev.uniq {α : Type} {g : Nat→Option α} {r r' : α} (h : Ev g r) (h' : Ev g r') : r=r':=by
 obtain ⟨K,hK⟩:=h
 obtain ⟨K',hK'⟩:=h'
 have a:=hK (max K K') (Nat.le_max_left _ _)
 have b:=hK' (max K K') (Nat.le_max_right _ _)
 rw [a] at b
 exact Option.some.inj b
def Bytes (s : List Int) : Prop:=∀ x ∈ s,0≤x∧x≤255
theorem rd_byte {s : List Int} (h : Bytes s) (i : Int) (h0 : 0≤i) (h1 : i < s.length) : 0≤rd s i∧rd s i≤255:=by
 have e : rd s i=s[i.toNat]'(by omega):=by
  unfold rd
  rw [List.getD_eq_getElem?_getD,List.getElem?_eq_getElem (by omega)]
  rfl
 rw [e]
 exact h _ (List.getElem_mem _)
theorem u64w (n : Int) : 0≤IntKind.u64.wrap n∧IntKind.u64.wrap n < 18446744073709551616:=by
 have e : IntKind.u64.wrap n=n % 18446744073709551616:=by simp [IntKind.wrap,IntKind.bits,IntKind.signed]
 rw [e]
 omega
theorem mask8 (x : Int) (h0 : 0≤x) (h1 : x < 18446744073709551616) : 0≤Go.bits .and .u64 x 255∧Go.bits .and .u64 x 255≤255:=by
 have e:=bits_mask .u64 64 (by decide) (fun n h h'=>by
  have e : IntKind.u64.wrap n=n % 18446744073709551616:=by simp [IntKind.wrap,IntKind.bits,IntKind.signed]
  rw [e]
  have h2 : n < 18446744073709551616:=h'
  omega) 8 (by decide) x h0 h1
 have e2 : Go.bits .and .u64 x 255=x % 256:=e
 rw [e2]
 omega
theorem next_ok {s : List Int} (hs : Bytes s) (a sd : Int) (h0 : 0≤a) (h1 : a≤4611686018427387904) :
  ∃ t sd',spec_l1Cur_next.f s a sd=some (t,a + 1,sd')∧0≤t∧t≤255:=by
 have ea : wrap64 (a + 1)=a + 1:=wr (by omega) (by omega)
 unfold spec_l1Cur_next.f
 simp only [ea]
 by_cases c : a < (s.length : Int)
 ·have hb:=rd_byte hs a h0 c
  rw [if_pos c,if_pos h0,if_pos (by omega)]
  exact ⟨_,_,rfl,by rw [wr (by omega) (by omega)];omega,by rw [wr (by omega) (by omega)];omega⟩
 ·rw [if_neg c]
  by_cases d : a + 1≤(s.length : Int)
  ·rw [if_pos d]
   exact ⟨_,_,rfl,by omega,by omega⟩
  ·rw [if_neg d]
   refine ⟨_,_,rfl,?_⟩
   generalize hq : IntKind.u64.wrap _=q
   have hw : 0≤q∧q < 18446744073709551616:=hq ▸ u64w _
   have hm:=mask8 (q / 1099511627776) (by omega) (by omega)
   rw [wr (by omega) (by omega)]
   exact hm
theorem tmod_lt (x n : Int) (hx : 0≤x) (hn : 1 < n) : 0≤Int.tmod x n∧Int.tmod x n < n:=by
 rw [Int.tmod_eq_emod_of_nonneg hx]
 exact ⟨Int.emod_nonneg _ (by omega),Int.emod_lt_of_pos _ (by omega)⟩
theorem pick_ok {s : List Int} (hs : Bytes s) (a sd n : Int) (h0 : 0≤a) (h1 : a≤4611686018427387000) :
  ∃ t a' sd',spec_l1Cur_pick.f s a sd n=some (t,a',sd')∧0≤t∧(1≤n→t < n)∧(n≤1→t=0)∧a≤a'∧a'≤a + 2:=by
 unfold spec_l1Cur_pick.f
 by_cases c : n≤1
 ·rw [if_pos c]
  exact ⟨_,_,_,rfl,by omega,by omega,by omega,by omega,by omega⟩
 ·rw [if_neg c]
  obtain ⟨t,sd1,e,t0,t1⟩:=next_ok hs a sd h0 (by omega)
  rw [e]
  simp only [Option.bind_some]
  by_cases d : n > 200
  ·rw [if_pos d]
   obtain ⟨u,sd2,e2,u0,u1⟩:=next_ok hs (a + 1) sd1 (by omega) (by omega)
   rw [e2]
   simp only [Option.bind_some]
   rw [if_neg (by omega),wr (x:=t * 256) (by omega) (by omega),wr (x:=t * 256 + u) (by omega) (by omega)]
   have hm:=tmod_lt (t * 256 + u) n (by omega) (by omega)
   exact ⟨_,_,_,rfl,hm.1,fun _=>hm.2,fun h=>absurd h c,by omega,by omega⟩
  ·rw [if_neg d,if_neg (by omega)]
   have hm:=tmod_lt t n (by omega) (by omega)
   exact ⟨_,_,_,rfl,hm.1,fun _=>hm.2,fun h=>absurd h c,by omega,by omega⟩
theorem among_ok {s : List Int} (hs : Bytes s) (a sd : Int) (l : List Int) (hl : 0 < l.length) (h0 : 0≤a) (h1 : a≤4611686018427387000) :
  ∃ i a' sd',spec_l1Cur_among.f s a sd l=some (rd l i,a',sd')∧0≤i∧i < l.length∧a≤a'∧a'≤a + 2:=by
 obtain ⟨t,a',sd',e,t0,t1,_,b0,b1⟩:=pick_ok hs a sd (l.length : Int) h0 h1
 have t2:=t1 (by omega)
 unfold spec_l1Cur_among.f
 rw [e]
 simp only [Option.bind_some]
 rw [if_pos t0,if_pos t2]
 exact ⟨t,a',sd',rfl,t0,t2,b0,b1⟩
theorem rd_mem (l : List Int) (i : Int) (h0 : 0≤i) (h1 : i < l.length) : rd l i ∈ l:=by
 have e : rd l i=l[i.toNat]'(by omega):=by
  unfold rd
  rw [List.getD_eq_getElem?_getD,List.getElem?_eq_getElem (by omega)]
  rfl
 rw [e]
 exact List.getElem_mem _
end Go.Proofs.Ytldifiededjgjaa.Pu
