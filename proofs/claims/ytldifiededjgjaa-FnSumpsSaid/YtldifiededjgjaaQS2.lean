/- For all inputs the law FnSumps answers true, and no call of it panics. -/
import Derived.Test.YtldifiededjgjaaQS1
namespace Go.Proofs.Ytldifiededjgjaa.P
open Go.RowKit Go.Proofs.YtldifiededjgjaaW.PrintWords Go.Proofs.YtldifiededjgjaaW.PrintLast Go.Proofs.YtldifiededjgjaaW.PrintMore
attribute [local go_sem] max2_int min2_int max_two min_two max_three min_three max_four min_four
set_option linter.unusedVariables false
set_option linter.unusedSimpArgs false
def IsS77 (w0 W : World) (g : Nat) (f0 : List Int) (f1 : Int) (f2 : Int) : Prop:=∃ A0 c0,W.heap[g]? = some (.cells #[.slice A0 f0.length c0,.int .i64 f1,.int .u64 f2] 77 (0,0))∧w0.heap.size≤g∧Kd.C (Kd.int .u8) w0 A0 f0.length f0
theorem IsS77.grown {w0 W : World} {g : Nat} {f0 : List Int} {f1 : Int} {f2 : Int} {W1 : World} {row : Option Nat} (h : IsS77 w0 W g f0 f1 f2) (hw : W.grownBy W1 row) (hne : some g ≠ row) : IsS77 w0 W1 g f0 f1 f2:=by
 obtain ⟨A0,c0,hb,hg,hr0⟩:=h
 exact ⟨A0,c0,blk_grown hb hw hne,hg,hr0⟩
theorem IsS77.own_neN {w0 W : World} {g : Nat} {f0 : List Int} {f1 : Int} {f2 : Int} {α : Type} {d : Kd α} {e : Nat} {base : Nat} {ok : Nat→Prop} {v : Value} {xs : List α} (h : IsS77 w0 W g f0 f1 f2) (ho : Kd.N d e W base ok v xs) (ht : e ≠ 77) : some g ≠ v.ownBlock:=by
 obtain ⟨A0,c0,hb,hg,hr0⟩:=h
 exact Kd.N_ne ho hb ht
theorem IsS77.fresh {w0 W : World} {g : Nat} {f0 : List Int} {f1 : Int} {f2 : Int} (h : IsS77 w0 W g f0 f1 f2) : ∀ k,W.heap.size≤k→k ≠ g:=by
 obtain ⟨A0,c0,hb,hg,hr0⟩:=h
 exact Kd.freshB hb
theorem IsS77.kept {w0 W : World} {g : Nat} {f0 : List Int} {f1 : Int} {f2 : Int} {W1 : World} {S : Nat→Prop} (h : IsS77 w0 W g f0 f1 f2) (hk : Kept W W1 S) (hne : ¬ S g) : IsS77 w0 W1 g f0 f1 f2:=by
 obtain ⟨A0,c0,hb,hg,hr0⟩:=h
 exact ⟨A0,c0,blk_kept hb hk hne,hg,hr0⟩
theorem IsS77.below {w0 W : World} {g : Nat} {f0 : List Int} {f1 : Int} {f2 : Int} {W1 : World} (h : IsS77 w0 W g f0 f1 f2) (hw : Below W.heap.size W W1) : IsS77 w0 W1 g f0 f1 f2:=h.grown (grown_of_below hw none) (by simp)
theorem IsS77.alloc {w0 W : World} {g : Nat} {f0 : List Int} {f1 : Int} {f2 : Int} (h : IsS77 w0 W g f0 f1 f2) (o : Obj) : IsS77 w0 (W.alloc o) g f0 f1 f2:=h.below (below_alloc (Below.refl _ _) o)
theorem IsS77.drewN {w0 W : World} {g : Nat} {f0 : List Int} {f1 : Int} {f2 : Int} (h : IsS77 w0 W g f0 f1 f2) (m : Nat) : IsS77 w0 (W.drewN m) g f0 f1 f2:=h
theorem IsS77.drew {w0 W : World} {g : Nat} {f0 : List Int} {f1 : Int} {f2 : Int} (h : IsS77 w0 W g f0 f1 f2) : IsS77 w0 W.drew g f0 f1 f2:=h
theorem IsS77.at_ {w0 W : World} {g : Nat} {f0 : List Int} {f1 : Int} {f2 : Int} {w' : World} {m : Nat} (hq : W.drewN m=w') (h : IsS77 w0 W g f0 f1 f2) : IsS77 w0 w' g f0 f1 f2:=by subst hq;exact IsS77.drewN h m
theorem IsS77.apart {w0 W : World} {g : Nat} {f0 : List Int} {f1 : Int} {f2 : Int} {α : Type} {d : Kd α} {e : Nat} {base : Nat} {ok : Nat→Prop} {v : Value} {xs : List α} (h : IsS77 w0 W g f0 f1 f2) (ho : d.R e W base ok v xs) (ht : ∀ q,q ∈ e :: d.E→q ≠ 77) : d.R e W base (fun k=>ok k∧k ≠ g) v xs:=by
 obtain ⟨A0,c0,hb,hg,hr0⟩:=h
 exact Kd.R_types ho hb ht
theorem IsS77.own_ne {w0 W : World} {g : Nat} {f0 : List Int} {f1 : Int} {f2 : Int} {α : Type} {d : Kd α} {e : Nat} {base : Nat} {ok : Nat→Prop} {v : Value} {xs : List α} (h : IsS77 w0 W g f0 f1 f2) (ho : d.R e W base ok v xs) (ht : e ≠ 77) : some g ≠ v.ownBlock:=by
 obtain ⟨A0,c0,hb,hg,hr0⟩:=h
 exact Kd.R_ne ho hb ht
theorem IsS77.apartQ {w0 W : World} {g : Nat} {f0 : List Int} {f1 : Int} {f2 : Int} {α : Type} {d : Kd α} {e : Nat} {base : Nat} {ok : Nat→Prop} {v : Value} {xs : List α} (h : IsS77 w0 W g f0 f1 f2) (ho : d.Q e W base ok v xs) (ht : ∀ q,q ∈ e :: d.E→q ≠ 77) : d.Q e W base (fun k=>ok k∧k ≠ g) v xs:=by
 obtain ⟨A0,c0,hb,hg,hr0⟩:=h
 exact Kd.Q_types ho hb ht
theorem IsS77.own_neQ {w0 W : World} {g : Nat} {f0 : List Int} {f1 : Int} {f2 : Int} {α : Type} {d : Kd α} {e : Nat} {base : Nat} {ok : Nat→Prop} {v : Value} {xs : List α} (h : IsS77 w0 W g f0 f1 f2) (ho : d.Q e W base ok v xs) (ht : e ≠ 77) : some g ≠ v.ownBlock:=by
 obtain ⟨A0,c0,hb,hg,hr0⟩:=h
 exact Kd.Q_ne ho hb ht
theorem IsS77.apartS {w0 W : World} {g : Nat} {f0 : List Int} {f1 : Int} {f2 : Int} {α : Type} {d : Kd α} {e : Nat} {base : Nat} {ok : Nat→Prop} {v : Value} {xs : List α} (h : IsS77 w0 W g f0 f1 f2) (ho : d.S e W base ok v xs) (ht : ∀ q,q ∈ e :: d.E→q ≠ 77) : d.S e W base (fun k=>ok k∧k ≠ g) v xs:=by
 obtain ⟨A0,c0,hb,hg,hr0⟩:=h
 exact Kd.S_types ho hb ht
theorem IsS77.own_neS {w0 W : World} {g : Nat} {f0 : List Int} {f1 : Int} {f2 : Int} {α : Type} {d : Kd α} {e : Nat} {base : Nat} {ok : Nat→Prop} {v : Value} {xs : List α} (h : IsS77 w0 W g f0 f1 f2) (ho : d.S e W base ok v xs) (ht : e ≠ 77) : some g ≠ v.ownBlock:=by
 obtain ⟨A0,c0,hb,hg,hr0⟩:=h
 exact Kd.S_ne ho hb ht
theorem IsS77.lt {w0 W : World} {g : Nat} {f0 : List Int} {f1 : Int} {f2 : Int} (h : IsS77 w0 W g f0 f1 f2) : g < W.heap.size:=by
 obtain ⟨A0,c0,hb,hg,hr0⟩:=h
 exact blk_lt hb
theorem IsS77.ge {w0 W : World} {g : Nat} {f0 : List Int} {f1 : Int} {f2 : Int} (h : IsS77 w0 W g f0 f1 f2) : w0.heap.size≤g:=by
 obtain ⟨A0,c0,hb,hg,hr0⟩:=h
 exact hg
theorem IsS77.ne_blk {w0 W : World} {g : Nat} {f0 : List Int} {f1 : Int} {f2 : Int} {a : Nat} {cs : Array Value} {t : TypeId} {fr : Nat × Nat} (h : IsS77 w0 W g f0 f1 f2) (hb2 : W.heap[a]? = some (.cells cs t fr)) (ht : t ≠ 77) : g ≠ a:=by
 obtain ⟨A0,c0,hb,hg,hr0⟩:=h
 rintro rfl
 rw [hb] at hb2
 injection hb2 with hb2
 injection hb2 with _ ht2
 exact ht ht2.symm
theorem IsS77.far {w0 W : World} {g : Nat} {f0 : List Int} {f1 : Int} {f2 : Int} {p : Addr} (h : IsS77 w0 W g f0 f1 f2) (hne : g ≠ p.block) (u : Value) : IsS77 w0 (W.setCell p u) g f0 f1 f2:=by
 obtain ⟨A0,c0,hb,hg,hr0⟩:=h
 exact ⟨A0,c0,blk_far hb hne u,hg,hr0⟩
theorem cellS77_0 {W : World} {g : Nat} {A0 : Option Addr} {c0 : Nat} {f0 : List Int} {f1 : Int} {f2 : Int} (h : W.heap[g]? = some (.cells #[.slice A0 f0.length c0,.int .i64 f1,.int .u64 f2] 77 (0,0))) : W.cell? ⟨g,0,none⟩=some (.slice A0 f0.length c0):=(blk_cell h 0).trans rfl
theorem cellS77_1 {W : World} {g : Nat} {A0 : Option Addr} {c0 : Nat} {f0 : List Int} {f1 : Int} {f2 : Int} (h : W.heap[g]? = some (.cells #[.slice A0 f0.length c0,.int .i64 f1,.int .u64 f2] 77 (0,0))) : W.cell? ⟨g,1,none⟩=some (.int .i64 f1):=(blk_cell h 1).trans rfl
theorem IsS77.set_1 {w0 W : World} {g : Nat} {f0 : List Int} {f1 : Int} {f2 : Int} (h : IsS77 w0 W g f0 f1 f2) (x : Int) : IsS77 w0 (W.setCell ⟨g,1,none⟩ (.int .i64 x)) g f0 x f2:=by
 obtain ⟨A0,c0,hb,hg,hr0⟩:=h
 exact ⟨A0,c0,by simpa using blk_set hb 1 (.int .i64 x),hg,hr0⟩
theorem cellS77_2 {W : World} {g : Nat} {A0 : Option Addr} {c0 : Nat} {f0 : List Int} {f1 : Int} {f2 : Int} (h : W.heap[g]? = some (.cells #[.slice A0 f0.length c0,.int .i64 f1,.int .u64 f2] 77 (0,0))) : W.cell? ⟨g,2,none⟩=some (.int .u64 f2):=(blk_cell h 2).trans rfl
theorem IsS77.set_2 {w0 W : World} {g : Nat} {f0 : List Int} {f1 : Int} {f2 : Int} (h : IsS77 w0 W g f0 f1 f2) (x : Int) : IsS77 w0 (W.setCell ⟨g,2,none⟩ (.int .u64 x)) g f0 f1 x:=by
 obtain ⟨A0,c0,hb,hg,hr0⟩:=h
 exact ⟨A0,c0,by simpa using blk_set hb 2 (.int .u64 x),hg,hr0⟩
theorem IsS77.new (w0 W : World) (A0 : Option Addr) (c0 : Nat) (f0 : List Int) (f1 : Int) (f2 : Int) (hB : Below w0.heap.size w0 W) (hr0 : Kd.C (Kd.int .u8) w0 A0 f0.length f0) : IsS77 w0 (W.alloc (.cells #[.slice A0 f0.length c0,.int .i64 f1,.int .u64 f2] 77)) W.heap.size f0 f1 f2:=⟨A0,c0,by simpa using heap_alloc_new W _,hB.size,hr0⟩
def spec_l1Cur_next.f (s0_0 : List Int) (s0_1 : Int) (s0_2 : Int) : Option (Int × Int × Int):=if s0_1 < (s0_0.length : Int) then (if 0≤s0_1 then (if (wrap64 (s0_1 + 1))≤(s0_0.length : Int) then (some (wrap64 (rd s0_0 s0_1),wrap64 (s0_1 + 1),IntKind.u64.wrap ((IntKind.u64.wrap ((IntKind.u64.wrap (s0_2 * 6364136223846793005)) + (IntKind.u64.wrap (wrap64 (rd s0_0 s0_1))))) + 933933))) else (some (wrap64 (Go.bits .and .u64 ((IntKind.u64.wrap ((IntKind.u64.wrap ((IntKind.u64.wrap (s0_2 * 6364136223846793005)) + (IntKind.u64.wrap (wrap64 (rd s0_0 s0_1))))) + 933933)) / 1099511627776) 255),wrap64 (s0_1 + 1),IntKind.u64.wrap ((IntKind.u64.wrap ((IntKind.u64.wrap (s0_2 * 6364136223846793005)) + (IntKind.u64.wrap (wrap64 (rd s0_0 s0_1))))) + 933933)))) else (none)) else (if (wrap64 (s0_1 + 1))≤(s0_0.length : Int) then (some (0,wrap64 (s0_1 + 1),IntKind.u64.wrap ((IntKind.u64.wrap ((IntKind.u64.wrap (s0_2 * 6364136223846793005)))) + 933933))) else (some (wrap64 (Go.bits .and .u64 ((IntKind.u64.wrap ((IntKind.u64.wrap ((IntKind.u64.wrap (s0_2 * 6364136223846793005)))) + 933933)) / 1099511627776) 255),wrap64 (s0_1 + 1),IntKind.u64.wrap ((IntKind.u64.wrap ((IntKind.u64.wrap (s0_2 * 6364136223846793005)))) + 933933))))
set_option maxHeartbeats 8000000 in
set_option maxRecDepth 100000 in
theorem spec_l1Cur_next.calls (g : Nat) (s0_0 : List Int) (s0_1 : Int) (s0_2 : Int) (r1 : Int) (r2 : Int) (r3 : Int) (w0 w : World) (hI : IsS77 w0 w g s0_0 s0_1 s0_2) (hB : Below w0.heap.size w0 w) (h : spec_l1Cur_next.f s0_0 s0_1 s0_2=some (r1,r2,r3)) :
  Calls Try.prog 92 #[.pointer (some ⟨g,0,none⟩)] w fun e w'=>e = .returned (.int .i64 r1)∧IsS77 w0 w' g s0_0 r2 r3∧Below w0.heap.size w0 w'∧KeepBut w w' g none:=by
 have HI0:=amk hI
 have HK:=amk (KeepBut.refl w g none)
 have HL:=amk hB.size
 clear hI
 have HW0:=amk hB.size
 have HB:=amk hB
 clear hB
 have H : (if s0_1 < (s0_0.length : Int) then (if 0≤s0_1 then (if (wrap64 (s0_1 + 1))≤(s0_0.length : Int) then (some (wrap64 (rd s0_0 s0_1),wrap64 (s0_1 + 1),IntKind.u64.wrap ((IntKind.u64.wrap ((IntKind.u64.wrap (s0_2 * 6364136223846793005)) + (IntKind.u64.wrap (wrap64 (rd s0_0 s0_1))))) + 933933))) else (some (wrap64 (Go.bits .and .u64 ((IntKind.u64.wrap ((IntKind.u64.wrap ((IntKind.u64.wrap (s0_2 * 6364136223846793005)) + (IntKind.u64.wrap (wrap64 (rd s0_0 s0_1))))) + 933933)) / 1099511627776) 255),wrap64 (s0_1 + 1),IntKind.u64.wrap ((IntKind.u64.wrap ((IntKind.u64.wrap (s0_2 * 6364136223846793005)) + (IntKind.u64.wrap (wrap64 (rd s0_0 s0_1))))) + 933933)))) else (none)) else (if (wrap64 (s0_1 + 1))≤(s0_0.length : Int) then (some (0,wrap64 (s0_1 + 1),IntKind.u64.wrap ((IntKind.u64.wrap ((IntKind.u64.wrap (s0_2 * 6364136223846793005)))) + 933933))) else (some (wrap64 (Go.bits .and .u64 ((IntKind.u64.wrap ((IntKind.u64.wrap ((IntKind.u64.wrap (s0_2 * 6364136223846793005)))) + 933933)) / 1099511627776) 255),wrap64 (s0_1 + 1),IntKind.u64.wrap ((IntKind.u64.wrap ((IntKind.u64.wrap (s0_2 * 6364136223846793005)))) + 933933)))))=some (r1,r2,r3):=h
 clear h
 by_cases c2 : s0_1 < (s0_0.length : Int)
 ·rw [if_pos c2] at H
  have c2b0 : decide (s0_1 < (s0_0.length : Int))=true:=decide_eq_true c2
  clear c2
  by_cases c3 : 0≤s0_1
  ·rw [if_pos c3] at H
   have c3b0 : decide (0≤s0_1)=true:=decide_eq_true c3
   clear c3
   by_cases c4 : (wrap64 (s0_1 + 1))≤(s0_0.length : Int)
   ·rw [if_pos c4] at H
    have c4b0 : decide ((wrap64 (s0_1 + 1))≤(s0_0.length : Int))=true:=decide_eq_true c4
    clear c4
    simp only [Option.some.injEq,Prod.mk.injEq] at H
    obtain ⟨rfl,rfl,rfl⟩:=H
    obtain ⟨ASz5_0,cSz5_0,HGz5,hgz5,HSz5_0⟩:=HI0.out
    have hcz5_0:=cellS77_0 HGz5
    have hcz5_1:=cellS77_1 HGz5
    have hcz5_2:=cellS77_2 HGz5
    have hfz5_1:=blk_frozen HGz5 1
    have hfz5_2:=blk_frozen HGz5 2
    clear HGz5 hgz5
    have p101 : 0≤(s0_1 : Int):=of_decide_eq_true ass
    have q101 : s0_1 < (s0_0.length : Int):=of_decide_eq_true ass
    obtain ⟨ad101,e101,hx101_0⟩:=Kd.at_int HSz5_0 s0_1 p101 q101
    cases e101
    replace hx101_0:=pw_cell_below HB.out hx101_0
    replace p101:=eq_true p101
    replace q101:=eq_true q101
    go_enter Try.func92,Try.ntmps92
    go_wp2
    repeat (go_quiet (fail);try go_wp2)
    go_ret
    exact ⟨erw0,i77_0 HI0,bel1 HB (IsS77.ge HI0.out),kkk HK⟩
   ·rw [if_neg c4] at H
    have c4b0 : decide ((wrap64 (s0_1 + 1))≤(s0_0.length : Int))=false:=decide_eq_false c4
    clear c4
    simp only [Option.some.injEq,Prod.mk.injEq] at H
    obtain ⟨rfl,rfl,rfl⟩:=H
    obtain ⟨ASz6_0,cSz6_0,HGz6,hgz6,HSz6_0⟩:=HI0.out
    have hcz6_0:=cellS77_0 HGz6
    have hcz6_1:=cellS77_1 HGz6
    have hcz6_2:=cellS77_2 HGz6
    have hfz6_1:=blk_frozen HGz6 1
    have hfz6_2:=blk_frozen HGz6 2
    clear HGz6 hgz6
    have p101 : 0≤(s0_1 : Int):=of_decide_eq_true ass
    have q101 : s0_1 < (s0_0.length : Int):=of_decide_eq_true ass
    obtain ⟨ad101,e101,hx101_0⟩:=Kd.at_int HSz6_0 s0_1 p101 q101
    cases e101
    replace hx101_0:=pw_cell_below HB.out hx101_0
    replace p101:=eq_true p101
    replace q101:=eq_true q101
    go_enter Try.func92,Try.ntmps92
    go_wp2
    repeat (go_quiet (fail);try go_wp2)
    go_ret
    exact ⟨erw0,i77_0 HI0,bel1 HB (IsS77.ge HI0.out),kkk HK⟩
  ·rw [if_neg c3] at H
   exact absurd H (by simp)
 ·rw [if_neg c2] at H
  have c2b0 : decide (s0_1 < (s0_0.length : Int))=false:=decide_eq_false c2
  clear c2
  by_cases c7 : (wrap64 (s0_1 + 1))≤(s0_0.length : Int)
  ·rw [if_pos c7] at H
   have c7b0 : decide ((wrap64 (s0_1 + 1))≤(s0_0.length : Int))=true:=decide_eq_true c7
   clear c7
   simp only [Option.some.injEq,Prod.mk.injEq] at H
   obtain ⟨rfl,rfl,rfl⟩:=H
   obtain ⟨ASz8_0,cSz8_0,HGz8,hgz8,HSz8_0⟩:=HI0.out
   have hcz8_0:=cellS77_0 HGz8
   have hcz8_1:=cellS77_1 HGz8
   have hcz8_2:=cellS77_2 HGz8
   have hfz8_1:=blk_frozen HGz8 1
   have hfz8_2:=blk_frozen HGz8 2
   clear HGz8 hgz8
   go_enter Try.func92,Try.ntmps92
   go_wp2
   repeat (go_quiet (fail);try go_wp2)
   go_ret
   exact ⟨erw0,i77_0 HI0,bel1 HB (IsS77.ge HI0.out),kkk HK⟩
  ·rw [if_neg c7] at H
   have c7b0 : decide ((wrap64 (s0_1 + 1))≤(s0_0.length : Int))=false:=decide_eq_false c7
   clear c7
   simp only [Option.some.injEq,Prod.mk.injEq] at H
   obtain ⟨rfl,rfl,rfl⟩:=H
   obtain ⟨ASz9_0,cSz9_0,HGz9,hgz9,HSz9_0⟩:=HI0.out
   have hcz9_0:=cellS77_0 HGz9
   have hcz9_1:=cellS77_1 HGz9
   have hcz9_2:=cellS77_2 HGz9
   have hfz9_1:=blk_frozen HGz9 1
   have hfz9_2:=blk_frozen HGz9 2
   clear HGz9 hgz9
   go_enter Try.func92,Try.ntmps92
   go_wp2
   repeat (go_quiet (fail);try go_wp2)
   go_ret
   exact ⟨erw0,i77_0 HI0,bel1 HB (IsS77.ge HI0.out),kkk HK⟩
def spec_l1Cur_pick.f (s0_0 : List Int) (s0_1 : Int) (s0_2 : Int) (a1 : Int) : Option (Int × Int × Int):=if a1≤1 then (some (0,s0_1,s0_2)) else ((spec_l1Cur_next.f s0_0 s0_1 s0_2).bind fun bt102=>(if a1 > 200 then ((spec_l1Cur_next.f s0_0 bt102.2.1 bt102.2.2).bind fun bt105=>(if a1=0 then (none) else (some (Int.tmod (wrap64 ((wrap64 (bt102.1 * 256)) + bt105.1)) a1,bt105.2.1,bt105.2.2)))) else (if a1=0 then (none) else (some (Int.tmod bt102.1 a1,bt102.2.1,bt102.2.2)))))
set_option maxHeartbeats 8000000 in
set_option maxRecDepth 100000 in
theorem spec_l1Cur_pick.calls (g : Nat) (s0_0 : List Int) (s0_1 : Int) (s0_2 : Int) (a1 : Int) (r1 : Int) (r2 : Int) (r3 : Int) (w0 w : World) (hI : IsS77 w0 w g s0_0 s0_1 s0_2) (hB : Below w0.heap.size w0 w) (h : spec_l1Cur_pick.f s0_0 s0_1 s0_2 a1=some (r1,r2,r3)) :
  Calls Try.prog 81 #[.pointer (some ⟨g,0,none⟩),.int .i64 a1] w fun e w'=>e = .returned (.int .i64 r1)∧IsS77 w0 w' g s0_0 r2 r3∧Below w0.heap.size w0 w'∧KeepBut w w' g none:=by
 have HI0:=amk hI
 have HK:=amk (KeepBut.refl w g none)
 have HL:=amk hB.size
 clear hI
 have HW0:=amk hB.size
 have HB:=amk hB
 clear hB
 have H : (if a1≤1 then (some (0,s0_1,s0_2)) else ((spec_l1Cur_next.f s0_0 s0_1 s0_2).bind fun bt102=>(if a1 > 200 then ((spec_l1Cur_next.f s0_0 bt102.2.1 bt102.2.2).bind fun bt105=>(if a1=0 then (none) else (some (Int.tmod (wrap64 ((wrap64 (bt102.1 * 256)) + bt105.1)) a1,bt105.2.1,bt105.2.2)))) else (if a1=0 then (none) else (some (Int.tmod bt102.1 a1,bt102.2.1,bt102.2.2))))))=some (r1,r2,r3):=h
 clear h
 by_cases c3 : a1≤1
 ·rw [if_pos c3] at H
  have c3b0 : decide (a1≤1)=true:=decide_eq_true c3
  clear c3
  simp only [Option.some.injEq,Prod.mk.injEq] at H
  obtain ⟨rfl,rfl,rfl⟩:=H
  go_enter Try.func81,Try.ntmps81
  go_wp2
  go_ret
  exact ⟨erw0,i77_0 HI0,bel1 HB (IsS77.ge HI0.out),kkk HK⟩
 ·rw [if_neg c3] at H
  have c3b0 : decide (a1≤1)=false:=decide_eq_false c3
  clear c3
  replace H:=obs H
  obtain ⟨⟨t102,t103,t104⟩,A40,H⟩:=H
  replace H : (if a1 > 200 then ((spec_l1Cur_next.f s0_0 t103 t104).bind fun bt105=>(if a1=0 then (none) else (some (Int.tmod (wrap64 ((wrap64 (t102 * 256)) + bt105.1)) a1,bt105.2.1,bt105.2.2)))) else (if a1=0 then (none) else (some (Int.tmod t102 a1,t103,t104))))=some (r1,r2,r3):=H
  have A4:=amk A40
  clear A40
  by_cases c5 : a1 > 200
  ·rw [if_pos c5] at H
   have c5b0 : decide (200 < a1)=true:=decide_eq_true c5
   clear c5
   replace H:=obs H
   obtain ⟨⟨t105,t106,t107⟩,A60,H⟩:=H
   replace H : (if a1=0 then (none) else (some (Int.tmod (wrap64 ((wrap64 (t102 * 256)) + t105)) a1,t106,t107)))=some (r1,r2,r3):=H
   have A6:=amk A60
   clear A60
   by_cases c7 : a1=0
   ·rw [if_pos c7] at H
    exact absurd H (by simp)
   ·rw [if_neg c7] at H
    have c7b0 : (a1 == 0)=false:=beq_eq_false_iff_ne.mpr c7
    have c7b1 : (a1 != 0)=true:=bne_iff_ne.mpr c7
    simp only [Option.some.injEq,Prod.mk.injEq] at H
    obtain ⟨rfl,rfl,rfl⟩:=H
    go_enter Try.func81,Try.ntmps81
    go_wp2_with (first | ((with_reducible refine gate_callee (f:=92) rfl ?_);refine goesL_ (some 9) rfl rfl Try.func92 (by kernel_rfl) rfl #[.pointer (some ⟨g,0,none⟩)] rfl mtt ?_;(with_reducible refine (spec_l1Cur_next.calls g s0_0 s0_1 s0_2 t102 t103 t104 w0 _ ?side1 ?side2 A4.out).mono ?_);(case side1=>exact i77_0 HI0);(case side2=>exact bel1 HB (IsS77.ge HI0.out));rintro e w8 ⟨rfl,hi,hb,hk⟩;refine ⟨_,rfl,?_⟩;replace HK:=amk (KeepBut.trans (kkk HK) hk (.inl rfl));replace HB:=amk (hb);replace HI0:=amk (hi);(try clear hb hk hi))|((with_reducible refine gate_callee (f:=92) rfl ?_);refine goesL_ (some 15) rfl rfl Try.func92 (by kernel_rfl) rfl #[.pointer (some ⟨g,0,none⟩)] rfl mtt ?_;(with_reducible refine (spec_l1Cur_next.calls g s0_0 t103 t104 t105 t106 t107 w0 _ ?side1 ?side2 A6.out).mono ?_);(case side1=>exact i77_0 HI0);(case side2=>exact bel1 HB (IsS77.ge HI0.out));rintro e w9 ⟨rfl,hi,hb,hk⟩;refine ⟨_,rfl,?_⟩;replace HK:=amk (KeepBut.trans (kkk HK) hk (.inl rfl));replace HB:=amk (hb);replace HI0:=amk (hi);(try clear hb hk hi)))
    go_ret
    exact ⟨erw0,i77_0 HI0,bel1 HB (IsS77.ge HI0.out),kkk HK⟩
  ·rw [if_neg c5] at H
   have c5b0 : decide (200 < a1)=false:=decide_eq_false c5
   clear c5
   by_cases c10 : a1=0
   ·rw [if_pos c10] at H
    exact absurd H (by simp)
   ·rw [if_neg c10] at H
    have c10b0 : (a1 == 0)=false:=beq_eq_false_iff_ne.mpr c10
    have c10b1 : (a1 != 0)=true:=bne_iff_ne.mpr c10
    simp only [Option.some.injEq,Prod.mk.injEq] at H
    obtain ⟨rfl,rfl,rfl⟩:=H
    go_enter Try.func81,Try.ntmps81
    go_wp2_with (first | ((with_reducible refine gate_callee (f:=92) rfl ?_);refine goesL_ (some 9) rfl rfl Try.func92 (by kernel_rfl) rfl #[.pointer (some ⟨g,0,none⟩)] rfl mtt ?_;(with_reducible refine (spec_l1Cur_next.calls g s0_0 s0_1 s0_2 t102 t103 t104 w0 _ ?side1 ?side2 A4.out).mono ?_);(case side1=>exact i77_0 HI0);(case side2=>exact bel1 HB (IsS77.ge HI0.out));rintro e w11 ⟨rfl,hi,hb,hk⟩;refine ⟨_,rfl,?_⟩;replace HK:=amk (KeepBut.trans (kkk HK) hk (.inl rfl));replace HB:=amk (hb);replace HI0:=amk (hi);(try clear hb hk hi)))
    go_ret
    exact ⟨erw0,i77_0 HI0,bel1 HB (IsS77.ge HI0.out),kkk HK⟩
def spec_l1Cur_among.f (s0_0 : List Int) (s0_1 : Int) (s0_2 : Int) (l1 : List Int) : Option (Int × Int × Int):=(spec_l1Cur_pick.f s0_0 s0_1 s0_2 (l1.length : Int)).bind fun bt108=>(if 0≤bt108.1 then (if bt108.1 < (l1.length : Int) then (some (rd l1 bt108.1,bt108.2.1,bt108.2.2)) else (none)) else (none))
set_option maxHeartbeats 8000000 in
set_option maxRecDepth 100000 in
theorem spec_l1Cur_among.calls (g : Nat) (s0_0 : List Int) (s0_1 : Int) (s0_2 : Int) (A1 : Option Addr) (c1 : Nat) (l1 : List Int) (r1 : Int) (r2 : Int) (r3 : Int) (w0 w : World) (hI : IsS77 w0 w g s0_0 s0_1 s0_2) (hB : Below w0.heap.size w0 w) (hr1 : Kd.C (Kd.int .i64) w A1 l1.length l1) (hc1 : l1.length≤c1) (hf1 : ∀ ad,A1=some ad→0 < l1.length→ad.block ≠ g) (h : spec_l1Cur_among.f s0_0 s0_1 s0_2 l1=some (r1,r2,r3)) :
  Calls Try.prog 80 #[.pointer (some ⟨g,0,none⟩),.slice A1 l1.length c1] w fun e w'=>e = .returned (.int .i64 r1)∧IsS77 w0 w' g s0_0 r2 r3∧Below w0.heap.size w0 w'∧KeepBut w w' g none:=by
 have HR1:=amk hr1
 have HC1:=amk hc1
 clear hr1 hc1
 have HI0:=amk hI
 have HK:=amk (KeepBut.refl w g none)
 have HL:=amk hB.size
 clear hI
 have HW0:=amk hB.size
 have HB:=amk hB
 clear hB
 have H : ((spec_l1Cur_pick.f s0_0 s0_1 s0_2 (l1.length : Int)).bind fun bt108=>(if 0≤bt108.1 then (if bt108.1 < (l1.length : Int) then (some (rd l1 bt108.1,bt108.2.1,bt108.2.2)) else (none)) else (none)))=some (r1,r2,r3):=h
 clear h
 replace H:=obs H
 obtain ⟨⟨t108,t109,t110⟩,A30,H⟩:=H
 replace H : (if 0≤t108 then (if t108 < (l1.length : Int) then (some (rd l1 t108,t109,t110)) else (none)) else (none))=some (r1,r2,r3):=H
 have A3:=amk A30
 clear A30
 by_cases c4 : 0≤t108
 ·rw [if_pos c4] at H
  have c4b0 : decide (0≤t108)=true:=decide_eq_true c4
  clear c4
  by_cases c5 : t108 < (l1.length : Int)
  ·rw [if_pos c5] at H
   have c5b0 : decide (t108 < (l1.length : Int))=true:=decide_eq_true c5
   clear c5
   simp only [Option.some.injEq,Prod.mk.injEq] at H
   obtain ⟨rfl,rfl,rfl⟩:=H
   go_enter Try.func80,Try.ntmps80
   go_wp2_with (first | ((with_reducible refine gate_callee (f:=81) rfl ?_);refine goesL_ (some 9) rfl rfl Try.func81 (by kernel_rfl) rfl #[.pointer (some ⟨g,0,none⟩),.int .i64 (l1.length : Int)] rfl mtt ?_;(with_reducible refine (spec_l1Cur_pick.calls g s0_0 s0_1 s0_2 (l1.length : Int) t108 t109 t110 w0 _ ?side1 ?side2 A3.out).mono ?_);(case side1=>exact i77_0 HI0);(case side2=>exact bel1 HB (IsS77.ge HI0.out));rintro e w6 ⟨rfl,hi,hb,hk⟩;refine ⟨_,rfl,?_⟩;replace HK:=amk (KeepBut.trans (kkk HK) hk (.inl rfl));replace HB:=amk (hb);replace HI0:=amk (hi);(try clear hb hk hi);have p111 : 0≤(t108 : Int):=of_decide_eq_true ass;have q111 : t108 < (l1.length : Int):=of_decide_eq_true ass;obtain ⟨ad111,e111,hx111_0⟩:=Kd.at_int HR1.out t108 p111 q111;cases e111;replace hx111_0:=keep_cell HK.out hx111_0 (by first | (rw [add_block];exact hf1 _ rfl (by omega)) | exact hf1 _ rfl (by omega) | exact hf1 ad111 rfl (by omega));replace p111:=eq_true p111;replace q111:=eq_true q111))
   go_ret
   exact ⟨erw0,i77_0 HI0,bel1 HB (IsS77.ge HI0.out),kkk HK⟩
  ·rw [if_neg c5] at H
   exact absurd H (by simp)
 ·rw [if_neg c4] at H
  exact absurd H (by simp)
mutual
def spec_l1Cur_readings.l0 : Nat→List (S30)→Int→Int→List Int→Int→Int→Option ((List (S30)) × Int × Int)
 | 0,_,_,_,_,_,_=>none
 | k + 1,x3,x4,x5,x1000,x1001,x1002=>if x5 > 0 then ((spec_l1Cur_among.f x1000 x1001 x1002 (([(-500),(-20),0,5,10,10,40,500] : List Int))).bind fun bt127=>(if x3.length < 8796093022208 then ((spec_l1Cur_among.f x1000 bt127.2.1 bt127.2.2 (([1,2,3,7,20] : List Int))).bind fun bt136=>(spec_l1Cur_readings.l0 k (x3 ++ [(⟨x4,bt127.1⟩ : S30)]) (wrap64 (x4 + bt136.1)) (wrap64 (x5 - 1)) x1000 bt136.2.1 bt136.2.2)) else (none))) else (if (x3.length : Int)=0 then (some (x3,x1001,x1002)) else ((spec_l1Cur_pick.f x1000 x1001 x1002 (x3.length : Int)).bind fun bt139=>(if 0≤bt139.1 then (if bt139.1 < (x3.length : Int) then ((spec_l1Cur_pick.f x1000 bt139.2.1 bt139.2.2 50).bind fun bt144=>(if bt144.1=0 then (if 0 < (x3.length : Int) then ((spec_l1Cur_among.f x1000 bt144.2.1 bt144.2.2 (([(-1),1000,(rd_T30 x3 0).f0] : List Int))).bind fun bt151=>(some ((x3.set (bt139.1 : Int).toNat (⟨bt151.1,(rd_T30 x3 bt139.1).f1⟩ : S30)),bt151.2.1,bt151.2.2))) else (none)) else (if bt144.1=1 then ((spec_l1Cur_among.f x1000 bt144.2.1 bt144.2.2 (([(-501),501] : List Int))).bind fun bt158=>(some ((x3.set (bt139.1 : Int).toNat (⟨(rd_T30 x3 bt139.1).f0,bt158.1⟩ : S30)),bt158.2.1,bt158.2.2))) else (if bt144.1=2 then (spec_l1Cur_readings.l1 k x3 bt139.1 x1000 bt144.2.1 bt144.2.2 ((rd_T30 x3 bt139.1).f0) ((rd_T30 x3 bt139.1).f1)) else (some ((x3.set (bt139.1 : Int).toNat (⟨(rd_T30 x3 bt139.1).f0,(rd_T30 x3 bt139.1).f1⟩ : S30)),bt144.2.1,bt144.2.2)))))) else (none)) else (none))))
def spec_l1Cur_readings.l1 : Nat→List (S30)→Int→List Int→Int→Int→Int→Int→Option ((List (S30)) × Int × Int)
 | 0,_,_,_,_,_,_,_=>none
 | k + 1,x3,x6,x1000,x1001,x1002,x144000,x144001=>(spec_l1Cur_pick.f x1000 x1001 x1002 2).bind fun bt162=>(if (x3.length : Int) < (wrap64 (15 + bt162.1)) then (if x3.length < 8796093022208 then (spec_l1Cur_readings.l1 k (x3 ++ [(⟨wrap64 (980 + (x3.length : Int)),2⟩ : S30)]) x6 x1000 bt162.2.1 bt162.2.2 x144000 x144001) else (none)) else (if 0≤x6 then (if x6 < (x3.length : Int) then (some ((x3.set (x6 : Int).toNat (⟨x144000,x144001⟩ : S30)),bt162.2.1,bt162.2.2)) else (none)) else (none)))
end
def spec_l1Cur_readings.f (k : Nat) (s0_0 : List Int) (s0_1 : Int) (s0_2 : Int) : Option ((List (S30)) × Int × Int):=(spec_l1Cur_among.f s0_0 s0_1 s0_2 (([0,5,900] : List Int))).bind fun bt118=>((spec_l1Cur_pick.f s0_0 bt118.2.1 bt118.2.2 7).bind fun bt121=>(spec_l1Cur_readings.l0 k (([] : List (S30))) bt118.1 bt121.1 s0_0 bt121.2.1 bt121.2.2))
theorem spec_l1Cur_readings.mono_l : ∀ k,(∀ y0 y1 y2 y3 y4 y5,LeO (spec_l1Cur_readings.l0 k y0 y1 y2 y3 y4 y5) (spec_l1Cur_readings.l0 (k + 1) y0 y1 y2 y3 y4 y5))∧(∀ y0 y1 y2 y3 y4 y5 y6,LeO (spec_l1Cur_readings.l1 k y0 y1 y2 y3 y4 y5 y6) (spec_l1Cur_readings.l1 (k + 1) y0 y1 y2 y3 y4 y5 y6))
 | 0=>⟨fun _ _ _ _ _ _ r h=>by simp [spec_l1Cur_readings.l0] at h,fun _ _ _ _ _ _ _ r h=>by simp [spec_l1Cur_readings.l1] at h⟩
 | k + 1=>by
  obtain ⟨ih0,ih1⟩:=spec_l1Cur_readings.mono_l k
  refine ⟨?_,?_⟩
  ·intro y0 y1 y2 y3 y4 y5
   unfold spec_l1Cur_readings.l0
   repeat' first
   | (with_reducible exact ih0 _ _ _ _ _ _)
   | (with_reducible exact ih1 _ _ _ _ _ _ _)
   | (with_reducible exact LeO.refl _)
   | (with_reducible exact LeO.none _)
   | (with_reducible refine LeO.ite ?_ ?_)
   | (with_reducible refine LeO.bind ?_ (fun _=>?_))
   | exact ih0 _ _ _ _ _ _
   | exact ih1 _ _ _ _ _ _ _
  ·intro y0 y1 y2 y3 y4 y5 y6
   unfold spec_l1Cur_readings.l1
   repeat' first
   | (with_reducible exact ih0 _ _ _ _ _ _)
   | (with_reducible exact ih1 _ _ _ _ _ _ _)
   | (with_reducible exact LeO.refl _)
   | (with_reducible exact LeO.none _)
   | (with_reducible refine LeO.ite ?_ ?_)
   | (with_reducible refine LeO.bind ?_ (fun _=>?_))
   | exact ih0 _ _ _ _ _ _
   | exact ih1 _ _ _ _ _ _ _
theorem spec_l1Cur_readings.mono : ∀ a0 a1 a2 k,LeO (spec_l1Cur_readings.f k a0 a1 a2) (spec_l1Cur_readings.f (k + 1) a0 a1 a2):=by
 intro a0 a1 a2 k
 obtain ⟨ih0,ih1⟩:=spec_l1Cur_readings.mono_l k
 unfold spec_l1Cur_readings.f
 repeat' first
   | (with_reducible exact ih0 _ _ _ _ _ _)
   | (with_reducible exact ih1 _ _ _ _ _ _ _)
   | (with_reducible exact LeO.refl _)
   | (with_reducible exact LeO.none _)
   | (with_reducible refine LeO.ite ?_ ?_)
   | (with_reducible refine LeO.bind ?_ (fun _=>?_))
   | exact ih0 _ _ _ _ _ _
   | exact ih1 _ _ _ _ _ _ _
set_option maxHeartbeats 8000000 in
set_option maxRecDepth 100000 in
theorem spec_l1Cur_readings.calls (k : Nat) (g : Nat) (s0_0 : List Int) (s0_1 : Int) (s0_2 : Int) (r1 : List (S30)) (r2 : Int) (r3 : Int) (w0 w : World) (hI : IsS77 w0 w g s0_0 s0_1 s0_2) (hB : Below w0.heap.size w0 w) (h : spec_l1Cur_readings.f k s0_0 s0_1 s0_2=some (r1,r2,r3)) :
  Calls Try.prog 47 #[.pointer (some ⟨g,0,none⟩)] w fun e w'=>∃ v0_ : Value,e = .returned (v0_)∧Kd.R k30 30 w' w.heap.size (fun _=>True) v0_ r1∧IsS77 w0 w' g s0_0 r2 r3∧Below w0.heap.size w0 w'∧KeepBut w w' g none:=by
 have hu30:=Try.underlying30
 have HI0:=amk hI
 have HK:=amk (KeepBut.refl w g none)
 have HL:=amk hB.size
 clear hI
 have HW0:=amk hB.size
 have HB:=amk hB
 clear hB
 have H : ((spec_l1Cur_among.f s0_0 s0_1 s0_2 (([0,5,900] : List Int))).bind fun bt118=>((spec_l1Cur_pick.f s0_0 bt118.2.1 bt118.2.2 7).bind fun bt121=>(spec_l1Cur_readings.l0 k (([] : List (S30))) bt118.1 bt121.1 s0_0 bt121.2.1 bt121.2.2)))=some (r1,r2,r3):=h
 clear h
 obtain ⟨y112,hy112⟩ : ∃ y_ : List (S30),y_=(([] : List (S30))):=⟨_,rfl⟩
 replace H : ((spec_l1Cur_among.f s0_0 s0_1 s0_2 (([0,5,900] : List Int))).bind fun bt118=>((spec_l1Cur_pick.f s0_0 bt118.2.1 bt118.2.2 7).bind fun bt121=>(spec_l1Cur_readings.l0 k y112 bt118.1 bt121.1 s0_0 bt121.2.1 bt121.2.2)))=some (r1,r2,r3):=by first | (rw [hy112];with_reducible exact H)|(have H2_:=(Option.bind_some _ _).symm.trans H;rw [hy112];with_reducible exact H2_)|(have H2_:=(Option.bind_some _ _).symm.trans H;with_reducible exact H2_) | with_reducible exact H | (rw [hy112];exact H) | exact H
 have Ny112:=amk hy112
 clear hy112
 obtain ⟨y115,hy115⟩ : ∃ y_ : List Int,y_=(([0,5,900] : List Int)):=⟨_,rfl⟩
 replace H : ((spec_l1Cur_among.f s0_0 s0_1 s0_2 y115).bind fun bt118=>((spec_l1Cur_pick.f s0_0 bt118.2.1 bt118.2.2 7).bind fun bt121=>(spec_l1Cur_readings.l0 k y112 bt118.1 bt121.1 s0_0 bt121.2.1 bt121.2.2)))=some (r1,r2,r3):=by first | (rw [hy115];with_reducible exact H)|(have H2_:=(Option.bind_some _ _).symm.trans H;rw [hy115];with_reducible exact H2_)|(have H2_:=(Option.bind_some _ _).symm.trans H;with_reducible exact H2_) | with_reducible exact H | (rw [hy115];exact H) | exact H
 have Ny115:=amk hy115
 clear hy115
 replace H:=obs H
 obtain ⟨⟨t118,t119,t120⟩,A20,H⟩:=H
 replace H : ((spec_l1Cur_pick.f s0_0 t119 t120 7).bind fun bt121=>(spec_l1Cur_readings.l0 k y112 t118 bt121.1 s0_0 bt121.2.1 bt121.2.2))=some (r1,r2,r3):=H
 have A2:=amk A20
 clear A20
 replace H:=obs H
 obtain ⟨⟨t121,t122,t123⟩,A30,H⟩:=H
 replace H : (spec_l1Cur_readings.l0 k y112 t118 t121 s0_0 t122 t123)=some (r1,r2,r3):=H
 have A3:=amk A30
 clear A30
 have H':=amk H
 clear H
 go_enter Try.func47,Try.ntmps47
 go_wp2_with (first | ((with_reducible refine gate_dst (N:=8) rfl ?_);refine Kd.R_lit k30 _ 30 ?hg (N:=8) ?hd (xs:=([] : List (S30))) (inner:=[]) (ok:=fun _=>True) (okp:=fun _=>True) ?hr ?hp (fun _ hk=>hk) trivial (Below.refl _ _) (Nat.le_refl _) (by simp) ?_;(case hd=>rfl);(case hg=>rfl);(case hr=>first | (go_simp;done)|(go_simp;rfl));(case hp=>exact (Reps.none _ _));intro v113 w4 ho5 hb hg_ hnew_;clear hg_ hnew_;(first | rw [← Ny112.out] at ho5 | (simp only [Int.reduceToNat] at ho5;rw [← Ny112.out] at ho5));have HO114:=amk (Kd.R_lower ho5 (keep_size (w:=w) (g:=g) (row:=none) (kkk HK)));replace HK:=amk (KeepBut.trans (kkk HK) (KeepBut.of_below hb g none) (.inl rfl));replace HB:=amk (below_step (bel1 HB (IsS77.ge HI0.out)) hb);replace HI0:=amk (IsS77.below (i77_0 HI0) hb);clear hb ho5)|((with_reducible refine gate_dst (N:=10) rfl ?_);refine Kd.R_lit (Kd.int .i64) _ 3 ?hg (N:=10) ?hd (xs:=([0,5,900] : List Int)) (inner:=[.int .i64 0,.int .i64 5,.int .i64 900]) (ok:=fun _=>True) (okp:=fun _=>True) ?hr ?hp (fun _ hk=>hk) trivial (Below.refl _ _) (Nat.le_refl _) (by simp) ?_;(case hd=>rfl);(case hg=>rfl);(case hr=>first | (go_simp;done)|(go_simp;rfl));(case hp=>exact (Reps.one (show Kd.M (Kd.int .i64) _ _ _ 0 [.int .i64 0] from rfl) (Reps.one (show Kd.M (Kd.int .i64) _ _ _ 5 [.int .i64 5] from rfl) (Reps.one (show Kd.M (Kd.int .i64) _ _ _ 900 [.int .i64 900] from rfl) (Reps.none _ _)))));intro v116 w6 ho7 hb hg_ hnew_;clear hg_ hnew_;(first | rw [← Ny115.out] at ho7 | (simp only [Int.reduceToNat] at ho7;rw [← Ny115.out] at ho7));replace HO114:=amk (Kd.R_below (rrr HO114) hb);have HO117:=amk (Kd.R_lower ho7 (keep_size (w:=w) (g:=g) (row:=none) (kkk HK)));replace HK:=amk (KeepBut.trans (kkk HK) (KeepBut.of_below hb g none) (.inl rfl));replace HB:=amk (below_step (bel1 HB (IsS77.ge HI0.out)) hb);replace HI0:=amk (IsS77.below (i77_0 HI0) hb);clear hb ho7;obtain ⟨Ao8,co8,eo8⟩:=Kd.R_slice HO117.out;subst eo8)|((with_reducible refine gate_callee (f:=80) rfl ?_);refine goesL_ (some 11) rfl rfl Try.func80 (by kernel_rfl) rfl #[.pointer (some ⟨g,0,none⟩),.slice Ao8 y115.length co8] rfl mtt ?_;(with_reducible refine (spec_l1Cur_among.calls g s0_0 s0_1 s0_2 _ _ y115 t118 t119 t120 w0 _ ?side1 ?side2 ?side3 ?side4 ?side5 A2.out).mono ?_);(case side1=>exact i77_0 HI0);(case side2=>exact bel1 HB (IsS77.ge HI0.out));(case side3=>exact ccc (Kd.R_reads' HO117.out).2.2);(case side4=>exact (Kd.R_reads' HO117.out).2.1);(case side5=>exact far_slice (IsS77.own_ne HI0.out HO117.out (by decide)));rintro e w9 ⟨rfl,hi,hb,hk⟩;refine ⟨_,rfl,?_⟩;replace HO114:=amk (Kd.R_mono (Kd.R_keep (IsS77.apart (show IsS77 w0 _ g s0_0 s0_1 s0_2 from by exact i77_0 HI0) (rrr HO114) (by decide)) hk (fun _ h=>h.2)) (fun _ h=>h.1));replace HO117:=amk (Kd.R_mono (Kd.R_keep (IsS77.apart (show IsS77 w0 _ g s0_0 s0_1 s0_2 from by exact i77_0 HI0) (rrr HO117) (by decide)) hk (fun _ h=>h.2)) (fun _ h=>h.1));replace HK:=amk (KeepBut.trans (kkk HK) hk (.inl rfl));replace HB:=amk (hb);replace HI0:=amk (hi);(try clear hb hk hi))|((with_reducible refine gate_callee (f:=81) rfl ?_);refine goesL_ (some 13) rfl rfl Try.func81 (by kernel_rfl) rfl #[.pointer (some ⟨g,0,none⟩),.int .i64 7] rfl mtt ?_;(with_reducible refine (spec_l1Cur_pick.calls g s0_0 t119 t120 7 t121 t122 t123 w0 _ ?side1 ?side2 A3.out).mono ?_);(case side1=>exact i77_0 HI0);(case side2=>exact bel1 HB (IsS77.ge HI0.out));rintro e w10 ⟨rfl,hi,hb,hk⟩;refine ⟨_,rfl,?_⟩;replace HO114:=amk (Kd.R_mono (Kd.R_keep (IsS77.apart (show IsS77 w0 _ g s0_0 t119 t120 from by exact i77_0 HI0) (rrr HO114) (by decide)) hk (fun _ h=>h.2)) (fun _ h=>h.1));replace HO117:=amk (Kd.R_mono (Kd.R_keep (IsS77.apart (show IsS77 w0 _ g s0_0 t119 t120 from by exact i77_0 HI0) (rrr HO117) (by decide)) hk (fun _ h=>h.2)) (fun _ h=>h.1));replace HK:=amk (KeepBut.trans (kkk HK) hk (.inl rfl));replace HB:=amk (hb);replace HI0:=amk (hi);(try clear hb hk hi)))
 go_loopg [3,4,5] k (fun kq v3 v4 v5 w'=>∃ (x3_1 : List (S30)) (x4_1 : Int) (x5_1 : Int) (x1001_1 : Int) (x1002_1 : Int),v4 = .int .i64 x4_1∧v5 = .int .i64 x5_1∧Aside0 (spec_l1Cur_readings.l0 kq x3_1 x4_1 x5_1 s0_0 x1001_1 x1002_1=some (r1,r2,r3))∧Aside0 (kq≤k)∧Aside0 (Kd.R k30 30 w' w.heap.size (fun _=>True) v3 x3_1)∧Aside0 (IsS77 w0 w' g s0_0 x1001_1 x1002_1)∧Aside0 (KeepBut w w' g none)∧Aside0 (Below w0.heap.size w0 w'))
 case atStart=>exact ⟨(y112),(t118),(t121),(t122),(t123),rsd,rsd,H',⟨Nat.le_refl _⟩,⟨rrr HO114⟩,⟨i77_0 HI0⟩,⟨kkk HK⟩,⟨bel1 HB (IsS77.ge HI0.out)⟩⟩
 case round=>
  clear H'
  try clear p2
  try clear c4
  try clear c8
  obtain ⟨x3_1,x4_1,x5_1,x1001_1,x1002_1,rfl,rfl,HA,HK1,HO_3,HI0,HK,HB⟩:=hrel
  cases gk with
  | zero=>exact absurd HA.out (by simp [spec_l1Cur_readings.l0])
  | succ k1=>
   have H:=HA.out
   clear HA
   simp only [spec_l1Cur_readings.l0] at H
   by_cases c11 : x5_1 > 0
   ·rw [if_pos c11] at H
    have c11b0 : decide (0 < x5_1)=true:=decide_eq_true c11
    clear c11
    obtain ⟨y124,hy124⟩ : ∃ y_ : List Int,y_=(([(-500),(-20),0,5,10,10,40,500] : List Int)):=⟨_,rfl⟩
    replace H : ((spec_l1Cur_among.f s0_0 x1001_1 x1002_1 y124).bind fun bt127=>(if x3_1.length < 8796093022208 then ((spec_l1Cur_among.f s0_0 bt127.2.1 bt127.2.2 (([1,2,3,7,20] : List Int))).bind fun bt136=>(spec_l1Cur_readings.l0 k1 (x3_1 ++ [(⟨x4_1,bt127.1⟩ : S30)]) (wrap64 (x4_1 + bt136.1)) (wrap64 (x5_1 - 1)) s0_0 bt136.2.1 bt136.2.2)) else (none)))=some (r1,r2,r3):=by first | (rw [hy124];with_reducible exact H)|(have H2_:=(Option.bind_some _ _).symm.trans H;rw [hy124];with_reducible exact H2_)|(have H2_:=(Option.bind_some _ _).symm.trans H;with_reducible exact H2_) | with_reducible exact H | (rw [hy124];exact H) | exact H
    have Ny124:=amk hy124
    clear hy124
    replace H:=obs H
    obtain ⟨⟨t127,t128,t129⟩,A120,H⟩:=H
    replace H : (if x3_1.length < 8796093022208 then ((spec_l1Cur_among.f s0_0 t128 t129 (([1,2,3,7,20] : List Int))).bind fun bt136=>(spec_l1Cur_readings.l0 k1 (x3_1 ++ [(⟨x4_1,t127⟩ : S30)]) (wrap64 (x4_1 + bt136.1)) (wrap64 (x5_1 - 1)) s0_0 bt136.2.1 bt136.2.2)) else (none))=some (r1,r2,r3):=H
    have A12:=amk A120
    clear A120
    by_cases c13 : x3_1.length < 8796093022208
    ·rw [if_pos c13] at H
     have LMc13:=amk c13
     clear c13
     obtain ⟨y130,hy130⟩ : ∃ y_ : List (S30),y_=(x3_1 ++ [(⟨x4_1,t127⟩ : S30)]):=⟨_,rfl⟩
     replace H : ((spec_l1Cur_among.f s0_0 t128 t129 (([1,2,3,7,20] : List Int))).bind fun bt136=>(spec_l1Cur_readings.l0 k1 y130 (wrap64 (x4_1 + bt136.1)) (wrap64 (x5_1 - 1)) s0_0 bt136.2.1 bt136.2.2))=some (r1,r2,r3):=by first | (rw [hy130];with_reducible exact H)|(have H2_:=(Option.bind_some _ _).symm.trans H;rw [hy130];with_reducible exact H2_)|(have H2_:=(Option.bind_some _ _).symm.trans H;with_reducible exact H2_) | with_reducible exact H | (rw [hy130];exact H) | exact H
     have Ny130:=amk hy130
     clear hy130
     obtain ⟨y133,hy133⟩ : ∃ y_ : List Int,y_=(([1,2,3,7,20] : List Int)):=⟨_,rfl⟩
     replace H : ((spec_l1Cur_among.f s0_0 t128 t129 y133).bind fun bt136=>(spec_l1Cur_readings.l0 k1 y130 (wrap64 (x4_1 + bt136.1)) (wrap64 (x5_1 - 1)) s0_0 bt136.2.1 bt136.2.2))=some (r1,r2,r3):=by first | (rw [hy133];with_reducible exact H)|(have H2_:=(Option.bind_some _ _).symm.trans H;rw [hy133];with_reducible exact H2_)|(have H2_:=(Option.bind_some _ _).symm.trans H;with_reducible exact H2_) | with_reducible exact H | (rw [hy133];exact H) | exact H
     have Ny133:=amk hy133
     clear hy133
     replace H:=obs H
     obtain ⟨⟨t136,t137,t138⟩,A140,H⟩:=H
     replace H : (spec_l1Cur_readings.l0 k1 y130 (wrap64 (x4_1 + t136)) (wrap64 (x5_1 - 1)) s0_0 t137 t138)=some (r1,r2,r3):=H
     have A14:=amk A140
     clear A140
     have H':=amk H
     clear H
     go_wp2_with (first | ((with_reducible refine gate_dst (N:=21) rfl ?_);refine Kd.R_lit (Kd.int .i64) _ 3 ?hg (N:=21) ?hd (xs:=([(-500),(-20),0,5,10,10,40,500] : List Int)) (inner:=[.int .i64 (-500),.int .i64 (-20),.int .i64 0,.int .i64 5,.int .i64 10,.int .i64 10,.int .i64 40,.int .i64 500]) (ok:=fun _=>True) (okp:=fun _=>True) ?hr ?hp (fun _ hk=>hk) trivial (Below.refl _ _) (Nat.le_refl _) (by simp) ?_;(case hd=>rfl);(case hg=>rfl);(case hr=>first | (go_simp;done)|(go_simp;rfl));(case hp=>exact (Reps.one (show Kd.M (Kd.int .i64) _ _ _ (-500) [.int .i64 (-500)] from rfl) (Reps.one (show Kd.M (Kd.int .i64) _ _ _ (-20) [.int .i64 (-20)] from rfl) (Reps.one (show Kd.M (Kd.int .i64) _ _ _ 0 [.int .i64 0] from rfl) (Reps.one (show Kd.M (Kd.int .i64) _ _ _ 5 [.int .i64 5] from rfl) (Reps.one (show Kd.M (Kd.int .i64) _ _ _ 10 [.int .i64 10] from rfl) (Reps.one (show Kd.M (Kd.int .i64) _ _ _ 10 [.int .i64 10] from rfl) (Reps.one (show Kd.M (Kd.int .i64) _ _ _ 40 [.int .i64 40] from rfl) (Reps.one (show Kd.M (Kd.int .i64) _ _ _ 500 [.int .i64 500] from rfl) (Reps.none _ _))))))))));intro v125 w15 ho16 hb hg_ hnew_;clear hg_ hnew_;(first | rw [← Ny124.out] at ho16 | (simp only [Int.reduceToNat] at ho16;rw [← Ny124.out] at ho16));replace HO_3:=amk (Kd.R_below (rrr HO_3) hb);have HO126:=amk (Kd.R_lower ho16 (keep_size (w:=w) (g:=g) (row:=none) (kkk HK)));replace HK:=amk (KeepBut.trans (kkk HK) (KeepBut.of_below hb g none) (.inl rfl));replace HB:=amk (below_step (bel1 HB (IsS77.ge HI0.out)) hb);replace HI0:=amk (IsS77.below (i77_0 HI0) hb);clear hb ho16;obtain ⟨Ao17,co17,eo17⟩:=Kd.R_slice HO126.out;subst eo17)|((with_reducible refine gate_callee (f:=80) rfl ?_);refine goesL_ (some 22) rfl rfl Try.func80 (by kernel_rfl) rfl #[.pointer (some ⟨g,0,none⟩),.slice Ao17 y124.length co17] rfl mtt ?_;(with_reducible refine (spec_l1Cur_among.calls g s0_0 x1001_1 x1002_1 _ _ y124 t127 t128 t129 w0 _ ?side1 ?side2 ?side3 ?side4 ?side5 A12.out).mono ?_);(case side1=>exact i77_0 HI0);(case side2=>exact bel1 HB (IsS77.ge HI0.out));(case side3=>exact ccc (Kd.R_reads' HO126.out).2.2);(case side4=>exact (Kd.R_reads' HO126.out).2.1);(case side5=>exact far_slice (IsS77.own_ne HI0.out HO126.out (by decide)));rintro e w18 ⟨rfl,hi,hb,hk⟩;refine ⟨_,rfl,?_⟩;replace HO_3:=amk (Kd.R_mono (Kd.R_keep (IsS77.apart (show IsS77 w0 _ g s0_0 x1001_1 x1002_1 from by exact i77_0 HI0) (rrr HO_3) (by decide)) hk (fun _ h=>h.2)) (fun _ h=>h.1));replace HO126:=amk (Kd.R_mono (Kd.R_keep (IsS77.apart (show IsS77 w0 _ g s0_0 x1001_1 x1002_1 from by exact i77_0 HI0) (rrr HO126) (by decide)) hk (fun _ h=>h.2)) (fun _ h=>h.1));replace HK:=amk (KeepBut.trans (kkk HK) hk (.inl rfl));replace HB:=amk (hb);replace HI0:=amk (hi);(try clear hb hk hi))|((with_reducible refine gate_builtin (b:=.append) (xs:=#[.tmp 18,.tmp 24]) rfl ?_);at_builtin;refine Kd.R_append k30 w.heap.size rfl (.tmp 18) (.tmp 24) 24 30 (.agg #[(.int .i64 0),(.int .i64 0)]) 16 rfl Try.underlying24 info30 rfl (by decide) (by omega) u3 x3_1 (⟨x4_1,t127⟩ : S30) [.int .i64 x4_1,.int .i64 t127] (fun _=>True) (fun _=>False) rfl rfl ?aP (fun _ hk=>hk.elim) ?aF ?aO (Below.refl _ _) ?aS ?aL ?_;(case aP=>exact k30_mkM _ _ _ (⟨x4_1,t127⟩ : S30));(case aF=>exact (fun _ _=>trivial));(case aO=>exact (rrr HO_3));(case aS=>exact (keep_size (w:=w) (g:=g) (row:=none) (kkk HK)));(case aL=>have:=LMc13.out;omega);intro v131 w19 ho hb hg hat;rw [← Ny130.out] at ho;replace HO126:=amk (Kd.R_over' (rrr HO126) (Kd.R_typed (rrr HO_3)) (by decide) hg);replace HB:=amk (below_weaken (bel1 HB (IsS77.ge HI0.out)) HL.out hb);replace HI0:=amk (IsS77.grown (i77_0 HI0) hg (IsS77.own_ne HI0.out HO_3.out (by decide)));replace HK:=amk (KeepBut.trans (kkk HK) (KeepBut.of_grown hg g) (Kd.R_base2 HO_3.out));have HO132:=amk (ho);clear HO_3;clear ho hb hg hat)|((with_reducible refine gate_dst (N:=28) rfl ?_);refine Kd.R_lit (Kd.int .i64) _ 3 ?hg (N:=28) ?hd (xs:=([1,2,3,7,20] : List Int)) (inner:=[.int .i64 1,.int .i64 2,.int .i64 3,.int .i64 7,.int .i64 20]) (ok:=fun _=>True) (okp:=fun _=>True) ?hr ?hp (fun _ hk=>hk) trivial (Below.refl _ _) (Nat.le_refl _) (by simp) ?_;(case hd=>rfl);(case hg=>rfl);(case hr=>first | (go_simp;done)|(go_simp;rfl));(case hp=>exact (Reps.one (show Kd.M (Kd.int .i64) _ _ _ 1 [.int .i64 1] from rfl) (Reps.one (show Kd.M (Kd.int .i64) _ _ _ 2 [.int .i64 2] from rfl) (Reps.one (show Kd.M (Kd.int .i64) _ _ _ 3 [.int .i64 3] from rfl) (Reps.one (show Kd.M (Kd.int .i64) _ _ _ 7 [.int .i64 7] from rfl) (Reps.one (show Kd.M (Kd.int .i64) _ _ _ 20 [.int .i64 20] from rfl) (Reps.none _ _)))))));intro v134 w20 ho21 hb hg_ hnew_;clear hg_ hnew_;(first | rw [← Ny133.out] at ho21 | (simp only [Int.reduceToNat] at ho21;rw [← Ny133.out] at ho21));replace HO132:=amk (Kd.R_below (rrr HO132) hb);have HO135:=amk (Kd.R_lower (Kd.R_new' ho21 (Kd.R_lt (rrr HO126))) (keep_size (w:=w) (g:=g) (row:=none) (kkk HK)));replace HO126:=amk (Kd.R_elder' (rrr HO126) (Kd.R_base ho21) hb);replace HK:=amk (KeepBut.trans (kkk HK) (KeepBut.of_below hb g none) (.inl rfl));replace HB:=amk (below_step (bel1 HB (IsS77.ge HI0.out)) hb);replace HI0:=amk (IsS77.below (i77_0 HI0) hb);clear hb ho21;obtain ⟨Ao22,co22,eo22⟩:=Kd.R_slice HO135.out;subst eo22)|((with_reducible refine gate_callee (f:=80) rfl ?_);refine goesL_ (some 29) rfl rfl Try.func80 (by kernel_rfl) rfl #[.pointer (some ⟨g,0,none⟩),.slice Ao22 y133.length co22] rfl mtt ?_;(with_reducible refine (spec_l1Cur_among.calls g s0_0 t128 t129 _ _ y133 t136 t137 t138 w0 _ ?side1 ?side2 ?side3 ?side4 ?side5 A14.out).mono ?_);(case side1=>exact i77_0 HI0);(case side2=>exact bel1 HB (IsS77.ge HI0.out));(case side3=>exact ccc (Kd.R_reads' HO135.out).2.2);(case side4=>exact (Kd.R_reads' HO135.out).2.1);(case side5=>exact far_slice (IsS77.own_ne HI0.out HO135.out (by decide)));rintro e w23 ⟨rfl,hi,hb,hk⟩;refine ⟨_,rfl,?_⟩;replace HO126:=amk (Kd.R_mono (Kd.R_keep (IsS77.apart (show IsS77 w0 _ g s0_0 t128 t129 from by exact i77_0 HI0) (rrr HO126) (by decide)) hk (fun _ h=>h.2)) (fun _ h=>h.1));replace HO132:=amk (Kd.R_mono (Kd.R_keep (IsS77.apart (show IsS77 w0 _ g s0_0 t128 t129 from by exact i77_0 HI0) (rrr HO132) (by decide)) hk (fun _ h=>h.2)) (fun _ h=>h.1));replace HO135:=amk (Kd.R_mono (Kd.R_keep (IsS77.apart (show IsS77 w0 _ g s0_0 t128 t129 from by exact i77_0 HI0) (rrr HO135) (by decide)) hk (fun _ h=>h.2)) (fun _ h=>h.1));replace HK:=amk (KeepBut.trans (kkk HK) hk (.inl rfl));replace HB:=amk (hb);replace HI0:=amk (hi);(try clear hb hk hi)))
     go_roundg k1
     case measure=>have:=HK1.out;omega
     case rel=>exact ⟨(y130),(wrap64 (x4_1 + t136)),(wrap64 (x5_1 - 1)),(t137),(t138),rsd,rsd,H',⟨by have:=HK1.out;omega⟩,⟨rrr HO132⟩,⟨i77_0 HI0⟩,⟨kkk HK⟩,⟨bel1 HB (IsS77.ge HI0.out)⟩⟩
    ·rw [if_neg c13] at H
     exact absurd H (by simp)
   ·rw [if_neg c11] at H
    have c11b0 : decide (0 < x5_1)=false:=decide_eq_false c11
    clear c11
    by_cases c24 : (x3_1.length : Int)=0
    ·rw [if_pos c24] at H
     have c24b0 : ((x3_1.length : Int) == 0)=true:=beq_iff_eq.mpr c24
     have c24b1 : ((x3_1.length : Int) != 0)=false:=bne_eq_false_iff_eq.mpr c24
     clear c24
     simp only [Option.some.injEq,Prod.mk.injEq] at H
     obtain ⟨rfl,rfl,rfl⟩:=H
     obtain ⟨Ao25,co25,eo25⟩:=Kd.R_slice HO_3.out
     subst eo25
     go_wp2
     go_ret
     exact ⟨_,erw0,rrr HO_3,i77_0 HI0,bel1 HB (IsS77.ge HI0.out),kkk HK⟩
    ·rw [if_neg c24] at H
     have c24b0 : ((x3_1.length : Int) == 0)=false:=beq_eq_false_iff_ne.mpr c24
     have c24b1 : ((x3_1.length : Int) != 0)=true:=bne_iff_ne.mpr c24
     have c24b2 : ¬ (x3_1 = []):=fun h_=>c24 (by rw [h_];rfl)
     replace H:=obs H
     obtain ⟨⟨t139,t140,t141⟩,A260,H⟩:=H
     replace H : (if 0≤t139 then (if t139 < (x3_1.length : Int) then ((spec_l1Cur_pick.f s0_0 t140 t141 50).bind fun bt144=>(if bt144.1=0 then (if 0 < (x3_1.length : Int) then ((spec_l1Cur_among.f s0_0 bt144.2.1 bt144.2.2 (([(-1),1000,(rd_T30 x3_1 0).f0] : List Int))).bind fun bt151=>(some ((x3_1.set (t139 : Int).toNat (⟨bt151.1,(rd_T30 x3_1 t139).f1⟩ : S30)),bt151.2.1,bt151.2.2))) else (none)) else (if bt144.1=1 then ((spec_l1Cur_among.f s0_0 bt144.2.1 bt144.2.2 (([(-501),501] : List Int))).bind fun bt158=>(some ((x3_1.set (t139 : Int).toNat (⟨(rd_T30 x3_1 t139).f0,bt158.1⟩ : S30)),bt158.2.1,bt158.2.2))) else (if bt144.1=2 then (spec_l1Cur_readings.l1 k1 x3_1 t139 s0_0 bt144.2.1 bt144.2.2 ((rd_T30 x3_1 t139).f0) ((rd_T30 x3_1 t139).f1)) else (some ((x3_1.set (t139 : Int).toNat (⟨(rd_T30 x3_1 t139).f0,(rd_T30 x3_1 t139).f1⟩ : S30)),bt144.2.1,bt144.2.2)))))) else (none)) else (none))=some (r1,r2,r3):=H
     have A26:=amk A260
     clear A260
     by_cases c27 : 0≤t139
     ·rw [if_pos c27] at H
      have c27b0 : decide (0≤t139)=true:=decide_eq_true c27
      clear c27
      by_cases c28 : t139 < (x3_1.length : Int)
      ·rw [if_pos c28] at H
       have c28b0 : decide (t139 < (x3_1.length : Int))=true:=decide_eq_true c28
       clear c28
       replace H:=obs H
       obtain ⟨⟨t144,t145,t146⟩,A290,H⟩:=H
       replace H : (if t144=0 then (if 0 < (x3_1.length : Int) then ((spec_l1Cur_among.f s0_0 t145 t146 (([(-1),1000,(rd_T30 x3_1 0).f0] : List Int))).bind fun bt151=>(some ((x3_1.set (t139 : Int).toNat (⟨bt151.1,(rd_T30 x3_1 t139).f1⟩ : S30)),bt151.2.1,bt151.2.2))) else (none)) else (if t144=1 then ((spec_l1Cur_among.f s0_0 t145 t146 (([(-501),501] : List Int))).bind fun bt158=>(some ((x3_1.set (t139 : Int).toNat (⟨(rd_T30 x3_1 t139).f0,bt158.1⟩ : S30)),bt158.2.1,bt158.2.2))) else (if t144=2 then (spec_l1Cur_readings.l1 k1 x3_1 t139 s0_0 t145 t146 ((rd_T30 x3_1 t139).f0) ((rd_T30 x3_1 t139).f1)) else (some ((x3_1.set (t139 : Int).toNat (⟨(rd_T30 x3_1 t139).f0,(rd_T30 x3_1 t139).f1⟩ : S30)),t145,t146)))))=some (r1,r2,r3):=H
       have A29:=amk A290
       clear A290
       by_cases c30 : t144=0
       ·rw [if_pos c30] at H
        have c30b0 : (t144 == 0)=true:=beq_iff_eq.mpr c30
        have c30b1 : (t144 != 0)=false:=bne_eq_false_iff_eq.mpr c30
        clear c30
        by_cases c31 : 0 < (x3_1.length : Int)
        ·rw [if_pos c31] at H
         have c31b0 : decide (0 < (x3_1.length : Int))=true:=decide_eq_true c31
         have c31b1 : decide (0 < x3_1.length)=true:=decide_eq_true (by omega)
         clear c31
         obtain ⟨y148,hy148⟩ : ∃ y_ : List Int,y_=(([(-1),1000,(rd_T30 x3_1 0).f0] : List Int)):=⟨_,rfl⟩
         replace H : ((spec_l1Cur_among.f s0_0 t145 t146 y148).bind fun bt151=>(some ((x3_1.set (t139 : Int).toNat (⟨bt151.1,(rd_T30 x3_1 t139).f1⟩ : S30)),bt151.2.1,bt151.2.2)))=some (r1,r2,r3):=by first | (rw [hy148];with_reducible exact H)|(have H2_:=(Option.bind_some _ _).symm.trans H;rw [hy148];with_reducible exact H2_)|(have H2_:=(Option.bind_some _ _).symm.trans H;with_reducible exact H2_) | with_reducible exact H | (rw [hy148];exact H) | exact H
         have Ny148:=amk hy148
         clear hy148
         replace H:=obs H
         obtain ⟨⟨t151,t152,t153⟩,A320,H⟩:=H
         replace H : (some ((x3_1.set (t139 : Int).toNat (⟨t151,(rd_T30 x3_1 t139).f1⟩ : S30)),t152,t153))=some (r1,r2,r3):=H
         have A32:=amk A320
         clear A320
         obtain ⟨y154,hy154⟩ : ∃ y_ : List (S30),y_=(x3_1.set (t139 : Int).toNat (⟨t151,(rd_T30 x3_1 t139).f1⟩ : S30)):=⟨_,rfl⟩
         replace H : (some (y154,t152,t153))=some (r1,r2,r3):=by first | (rw [hy154];with_reducible exact H)|(have H2_:=(Option.bind_some _ _).symm.trans H;rw [hy154];with_reducible exact H2_)|(have H2_:=(Option.bind_some _ _).symm.trans H;with_reducible exact H2_) | with_reducible exact H | (rw [hy154];exact H) | exact H
         have Ny154:=amk hy154
         clear hy154
         simp only [Option.some.injEq,Prod.mk.injEq] at H
         obtain ⟨rfl,rfl,rfl⟩:=H
         obtain ⟨Ao34,co34,eo34⟩:=Kd.R_slice HO_3.out
         subst eo34
         go_wp2_with (first | ((with_reducible refine gate_callee (f:=81) rfl ?_);refine goesL_ (some 38) rfl rfl Try.func81 (by kernel_rfl) rfl #[.pointer (some ⟨g,0,none⟩),.int .i64 (x3_1.length : Int)] rfl mtt ?_;(with_reducible refine (spec_l1Cur_pick.calls g s0_0 x1001_1 x1002_1 (x3_1.length : Int) t139 t140 t141 w0 _ ?side1 ?side2 A26.out).mono ?_);(case side1=>exact i77_0 HI0);(case side2=>exact bel1 HB (IsS77.ge HI0.out));rintro e w35 ⟨rfl,hi,hb,hk⟩;refine ⟨_,rfl,?_⟩;replace HO_3:=amk (Kd.R_mono (Kd.R_keep (IsS77.apart (show IsS77 w0 _ g s0_0 x1001_1 x1002_1 from by exact i77_0 HI0) (rrr HO_3) (by decide)) hk (fun _ h=>h.2)) (fun _ h=>h.1));replace HK:=amk (KeepBut.trans (kkk HK) hk (.inl rfl));replace HB:=amk (hb);replace HI0:=amk (hi);(try clear hb hk hi);have p142 : 0≤(t139 : Int):=of_decide_eq_true ass;have q142 : t139 < (x3_1.length : Int):=of_decide_eq_true ass;obtain ⟨ad142,e142,hx142_0,hx142_1⟩:=at_T30 (Kd.R_reads' HO_3.out).2.2 t139 p142 q142;cases e142;replace p142:=eq_true p142;replace q142:=eq_true q142)|((with_reducible refine gate_dst (N:=7) rfl ?_);refine box_event ?hg (N:=7) ?hd (cs:=#[.int .i64 0,.int .i64 0]) (t:=30) ?hr ?_;(case hd=>rfl);(case hg=>rfl);(case hr=>first | (go_simp;done)|(go_simp;rfl));intro gb143 hg w36 hbox hb;replace HO_3:=amk (Kd.R_below (Kd.R_elderB (rrr HO_3) gb143 (Nat.le_of_eq hg.symm)) hb);replace HB:=amk (below_step (bel1 HB (IsS77.ge HI0.out)) hb);have BK143:=amk (hbox);have GW143:=amk ((by rw [hg];exact (keep_size (w:=w) (g:=g) (row:=none) (kkk HK)) : w.heap.size≤gb143));have GE143:=amk ((Nat.le_trans HW0.out (by rw [hg];exact (keep_size (w:=w) (g:=g) (row:=none) (kkk HK)) : w.heap.size≤gb143) : w0.heap.size≤gb143));replace HK:=amk (KeepBut.trans (kkk HK) (KeepBut.of_below hb g none) (.inl rfl));have NB0_143:=amk ((by rw [hg];exact Nat.ne_of_lt (IsS77.lt (show IsS77 w0 _ g s0_0 t140 t141 from by exact i77_0 HI0)) : g ≠ gb143));have NB143_0:=amk ((by rw [hg];exact Nat.ne_of_gt (IsS77.lt (show IsS77 w0 _ g s0_0 t140 t141 from by exact i77_0 HI0)) : gb143 ≠ g));replace HI0:=amk (IsS77.below (i77_0 HI0) hb);clear hb hbox hg;have hnb37:=NB143_0.out;have hnc37:=NB0_143.out;have hcz38_0 : w36.cell? ⟨gb143,0,none⟩=some (.int .i64 0):=(blk_cell BK143.out 0).trans rfl;have hcz38_1 : w36.cell? ⟨gb143,1,none⟩=some (.int .i64 0):=(blk_cell BK143.out 1).trans rfl;have hfz38_0:=blk_frozen BK143.out 0;have hfz38_1:=blk_frozen BK143.out 1)|((with_reducible refine gate_callee (f:=81) rfl ?_);refine goesL_ (some 44) rfl rfl Try.func81 (by kernel_rfl) rfl #[.pointer (some ⟨g,0,none⟩),.int .i64 50] rfl mtt ?_;(with_reducible refine (spec_l1Cur_pick.calls g s0_0 t140 t141 50 t144 t145 t146 w0 _ ?side1 ?side2 A29.out).mono ?_);(case side1=>exact i77_1 HI0 NB0_143.out);(case side2=>exact bel2 HB (IsS77.ge HI0.out) GE143.out);rintro e w39 ⟨rfl,hi,hb,hk⟩;refine ⟨_,rfl,?_⟩;have n0_:=amk (Kd.R_mono (Kd.R_keep (IsS77.apart (show IsS77 w0 _ g s0_0 t140 t141 from by exact i77_1 HI0 NB0_143.out) (by (with_reducible repeat (first | apply Kd.R_alloc | apply Kd.R_drewN | apply Kd.R_drew));exact (Kd.R_mono (Kd.R_far (p:=⟨gb143,1,none⟩) (Kd.R_far (p:=⟨gb143,0,none⟩) (Kd.R_mono HO_3.out (fun k_ hk=>(⟨hk,hk.2⟩ : _∧k_ ≠ gb143))) (fun _ hk=>hk.2) (.int .i64 ((rd_T30 x3_1 t139).f0))) (fun _ hk=>hk.2) (.int .i64 ((rd_T30 x3_1 t139).f1))) (fun _ h_=>h_.1))) (by decide)) hk (fun _ h=>h.2)) (fun _ h=>h.1));have n1_:=amk (KeepBut.blk hk (g':=gb143) (o:=.cells #[.int .i64 ((rd_T30 x3_1 t139).f0),.int .i64 ((rd_T30 x3_1 t139).f1)] 30 (0,0)) (by (with_reducible repeat (first | refine blk_drewN ?_ _ | refine blk_drew ?_ | refine blk_alloc ?_ _));refine blk_put (cs:=#[.int .i64 ((rd_T30 x3_1 t139).f0),.int .i64 0]) ?_ 1 _ rfl;(with_reducible repeat (first | refine blk_drewN ?_ _ | refine blk_drew ?_ | refine blk_alloc ?_ _));refine blk_put (cs:=#[.int .i64 0,.int .i64 0]) ?_ 0 _ rfl;(with_reducible repeat (first | refine blk_drewN ?_ _ | refine blk_drew ?_ | refine blk_alloc ?_ _));exact BK143.out) NB143_0.out (by simp));have n2_:=amk (KeepBut.trans (kkk1 HK GW143.out) hk (.inl rfl));have n3_:=amk (hb);have n4_:=amk (hi);clear HO_3;clear BK143;clear HK;clear HB;clear HI0;have HO_3:=n0_;have BK143:=n1_;have HK:=n2_;have HB:=n3_;have HI0:=n4_;clear n0_ n1_ n2_ n3_ n4_;(try clear hb hk hi);have p147 : 0≤(0 : Int):=(by omega);have q147 : 0 < (x3_1.length : Int):=of_decide_eq_true ass;obtain ⟨ad147,e147,hx147_0,hx147_1⟩:=at_T30 (Kd.R_reads' HO_3.out).2.2 0 p147 q147;obtain rfl : ad142=ad147:=(by injection e147);have qi147 : (0 < x3_1.length)=True:=eq_true (by omega);(try rw [show ((0 : Int)).toNat=0 from rfl] at hx147_0);(try rw [show 0 * 2=0 from rfl] at hx147_0);(try rw [Addr.add_zero'] at hx147_0);(try rw [show ((0 : Int)).toNat=0 from rfl] at hx147_1);(try rw [show 0 * 2=0 from rfl] at hx147_1);(try rw [Addr.add_zero'] at hx147_1);replace p147:=eq_true p147;replace q147:=eq_true q147)|((with_reducible refine gate_dst (N:=52) rfl ?_);refine Kd.R_lit (Kd.int .i64) _ 3 ?hg (N:=52) ?hd (xs:=([(-1),1000,(rd_T30 x3_1 0).f0] : List Int)) (inner:=[.int .i64 (-1),.int .i64 1000,.int .i64 ((rd_T30 x3_1 0).f0)]) (ok:=fun _=>True) (okp:=fun _=>True) ?hr ?hp (fun _ hk=>hk) trivial (Below.refl _ _) (Nat.le_refl _) (by simp) ?_;(case hd=>rfl);(case hg=>rfl);(case hr=>first | (go_simp;done)|(go_simp;rfl));(case hp=>exact (Reps.one (show Kd.M (Kd.int .i64) _ _ _ (-1) [.int .i64 (-1)] from rfl) (Reps.one (show Kd.M (Kd.int .i64) _ _ _ 1000 [.int .i64 1000] from rfl) (Reps.one (show Kd.M (Kd.int .i64) _ _ _ ((rd_T30 x3_1 0).f0) [.int .i64 ((rd_T30 x3_1 0).f0)] from rfl) (Reps.none _ _)))));intro v149 w40 ho41 hb hg_ hnew_;clear hg_ hnew_;(first | rw [← Ny148.out] at ho41 | (simp only [Int.reduceToNat] at ho41;rw [← Ny148.out] at ho41));replace HO_3:=amk (Kd.R_below (rrr HO_3) hb);have HO150:=amk (Kd.R_lower ho41 (keep_size (w:=w) (g:=g) (row:=none) (kkk1 HK GW143.out)));replace BK143:=amk (blk_below (g:=gb143) (o:=.cells #[.int .i64 ((rd_T30 x3_1 t139).f0),.int .i64 ((rd_T30 x3_1 t139).f1)] 30 (0,0)) (bkk BK143) hb);replace HK:=amk (KeepBut.trans (kkk1 HK GW143.out) (KeepBut.of_below hb g none) (.inl rfl));replace HB:=amk (below_step (bel2 HB (IsS77.ge HI0.out) GE143.out) hb);replace HI0:=amk (IsS77.below (i77_1 HI0 NB0_143.out) hb);clear hb ho41;obtain ⟨Ao42,co42,eo42⟩:=Kd.R_slice HO150.out;subst eo42)|((with_reducible refine gate_callee (f:=80) rfl ?_);refine goesL_ (some 53) rfl rfl Try.func80 (by kernel_rfl) rfl #[.pointer (some ⟨g,0,none⟩),.slice Ao42 y148.length co42] rfl mtt ?_;(with_reducible refine (spec_l1Cur_among.calls g s0_0 t145 t146 _ _ y148 t151 t152 t153 w0 _ ?side1 ?side2 ?side3 ?side4 ?side5 A32.out).mono ?_);(case side1=>exact i77_1 HI0 NB0_143.out);(case side2=>exact bel2 HB (IsS77.ge HI0.out) GE143.out);(case side3=>exact ccc (Kd.R_reads' HO150.out).2.2);(case side4=>exact (Kd.R_reads' HO150.out).2.1);(case side5=>exact far_slice (IsS77.own_ne HI0.out HO150.out (by decide)));rintro e w43 ⟨rfl,hi,hb,hk⟩;refine ⟨_,rfl,?_⟩;replace HO_3:=amk (Kd.R_mono (Kd.R_keep (IsS77.apart (show IsS77 w0 _ g s0_0 t145 t146 from by exact i77_1 HI0 NB0_143.out) (rrr HO_3) (by decide)) hk (fun _ h=>h.2)) (fun _ h=>h.1));replace BK143:=amk (KeepBut.blk hk (g':=gb143) (o:=.cells #[.int .i64 ((rd_T30 x3_1 t139).f0),.int .i64 ((rd_T30 x3_1 t139).f1)] 30 (0,0)) (bkk BK143) NB143_0.out (by simp));replace HO150:=amk (Kd.R_mono (Kd.R_keep (IsS77.apart (show IsS77 w0 _ g s0_0 t145 t146 from by exact i77_1 HI0 NB0_143.out) (rrr HO150) (by decide)) hk (fun _ h=>h.2)) (fun _ h=>h.1));replace HK:=amk (KeepBut.trans (kkk1 HK GW143.out) hk (.inl rfl));replace HB:=amk (hb);replace HI0:=amk (hi);(try clear hb hk hi);have hcz44_0 : w43.cell? ⟨gb143,0,none⟩=some (.int .i64 ((rd_T30 x3_1 t139).f0)):=(blk_cell BK143.out 0).trans rfl;have hcz44_1 : w43.cell? ⟨gb143,1,none⟩=some (.int .i64 ((rd_T30 x3_1 t139).f1)):=(blk_cell BK143.out 1).trans rfl;have hfz44_0:=blk_frozen BK143.out 0;have hfz44_1:=blk_frozen BK143.out 1)|((with_reducible refine gate_store (t:=3) (p:=54) rfl ?_);refine store_event (t:=3) (p:=54) (v:=?vo_w45) (w1:=(w43.setCell ⟨gb143,0,none⟩ (.int .i64 t151))) ?hg ?ho ?hn ?hr ?_;(case ho=>rfl);(case hg=>rfl);(case hn=>rfl);(case hr=>first | (go_simp;done)|(go_simp;rfl));intro w45 hw;have n0_ : Aside0 (Kd.R k30 30 w45 w.heap.size (fun k_=>k_ ≠ gb143) (.slice (some ad142) x3_1.length co34) x3_1):=⟨(by rw [hw];exact (by (with_reducible repeat (first | apply Kd.R_alloc | apply Kd.R_drewN | apply Kd.R_drew));exact Kd.R_mono (Kd.R_far (p:=⟨gb143,0,none⟩) (Kd.R_mono HO_3.out (fun k_ hk=>(⟨hk,hk.2⟩ : _∧k_ ≠ gb143))) (fun _ hk=>hk.2) (.int .i64 t151)) (fun _ hk=>hk.1.2)))⟩;have n1_ : Aside0 (Kd.R (Kd.int .i64) 3 w45 w.heap.size (fun _=>True) (.slice Ao42 y148.length co42) y148):=⟨(by rw [hw];exact (by (with_reducible repeat (first | apply Kd.R_alloc | apply Kd.R_drewN | apply Kd.R_drew));exact Kd.R_mono (Kd.R_far (p:=⟨gb143,0,none⟩) (Kd.R_types HO150.out BK143.out (by decide)) (fun _ hk=>hk.2) (.int .i64 t151)) (fun _ hk=>trivial)))⟩;have n2_ : Aside0 (w45.heap[gb143]? = some (.cells #[.int .i64 t151,.int .i64 ((rd_T30 x3_1 t139).f1)] 30 (0,0))):=⟨(by rw [hw];exact (by (with_reducible repeat (first | refine blk_drewN ?_ _ | refine blk_drew ?_ | refine blk_alloc ?_ _));refine blk_put (cs:=#[.int .i64 ((rd_T30 x3_1 t139).f0),.int .i64 ((rd_T30 x3_1 t139).f1)]) ?_ 0 _ rfl;(with_reducible repeat (first | refine blk_drewN ?_ _ | refine blk_drew ?_ | refine blk_alloc ?_ _));exact BK143.out))⟩;have n3_ : Aside0 (IsS77 w0 w45 g s0_0 t152 t153):=⟨(by rw [hw];exact (i77_1 HI0 NB0_143.out))⟩;have n4_ : Aside0 (KeepBut w w45 g none):=⟨(by rw [hw];exact (kkk1 HK GW143.out))⟩;have n5_ : Aside0 (Below w0.heap.size w0 w45):=⟨(by rw [hw];exact (bel2 HB (IsS77.ge HI0.out) GE143.out))⟩;clear hw;clear HO_3;clear HO150;clear BK143;clear HI0;clear HK;clear HB;have HO_3:=n0_;have HO150:=n1_;have BK143:=n2_;have HI0:=n3_;have HK:=n4_;have HB:=n5_;clear n0_ n1_ n2_ n3_ n4_ n5_;have hcz46_0 : w45.cell? ⟨gb143,0,none⟩=some (.int .i64 t151):=(blk_cell BK143.out 0).trans rfl;have hcz46_1 : w45.cell? ⟨gb143,1,none⟩=some (.int .i64 ((rd_T30 x3_1 t139).f1)):=(blk_cell BK143.out 1).trans rfl;have hfz46_0:=blk_frozen BK143.out 0;have hfz46_1:=blk_frozen BK143.out 1;have p33 : 0≤(t139 : Int):=of_decide_eq_true ass;have q33 : (t139 : Int) < ((x3_1.length : Int) : Int):=of_decide_eq_true ass;obtain ⟨go33,co33,eo33,gb33,gl33,cl33,HG33⟩:=Kd.R_form HO_3.out (by omega);(first | cases eo33 | (injection eo33 with ea_ en_ ec_;(first | subst ea_ | (injection ea_ with ea_;subst ea_));subst ec_;clear en_));have GB33:=amk gb33;have GG33:=amk HG33;clear gb33 gl33 HG33;(first | simp only [add_plain] at hx142_0 | skip);(first | simp only [add_plain] at hx142_1 | skip);(first | simp only [add_plain] at hx147_0 | skip);(first | simp only [add_plain] at hx147_1 | skip);obtain ⟨ce33,hcl33,hM33,hcc33,hfr33⟩:=Kd.R_elem HO_3.out z30 (t139 : Int) p33 q33;obtain rfl:=k30_openM hM33;have hx33_0 : w45.cell? ⟨go33,(t139 : Int).toNat * 2,none⟩=some (.int .i64 ((rd_T30 x3_1 t139).f0)):=hcc33 0 _ rfl;have hx33_1 : w45.cell? ⟨go33,(t139 : Int).toNat * 2 + 1,none⟩=some (.int .i64 ((rd_T30 x3_1 t139).f1)):=hcc33 1 _ rfl;have hf33_0 : w45.frozen? ⟨go33,(t139 : Int).toNat * 2,none⟩=false:=hfr33 0;have hf33_1 : w45.frozen? ⟨go33,(t139 : Int).toNat * 2 + 1,none⟩=false:=hfr33 1;((try clear hcl33);(try clear hcc33);(try clear hfr33);(try clear hM33));replace p33:=eq_true p33;replace q33:=eq_true q33;have HX47:=amk (show Kd.R k30 30 w45 w.heap.size (fun k_=>k_ ≠ gb143) (.slice (some ⟨go33,0,none⟩) x3_1.length co34) x3_1 from (rrr HO_3));obtain ⟨ce47,hcl47,hM47,hcc47,hfr47⟩:=Kd.R_elem HX47.out z30 (t139 : Int) (of_decide_eq_true ass) (by have h_ : (t139 : Int) < ((x3_1.length : Int) : Int):=of_decide_eq_true ass;first | exact h_ | (have e_:=(Kd.R_reads' HO_3.out).1;omega) | simpa using h_);obtain rfl:=k30_openM hM47;have HP47:=Kd.R_seg HX47.out (t139 : Int) (of_decide_eq_true ass) (by have h_ : (t139 : Int) < ((x3_1.length : Int) : Int):=of_decide_eq_true ass;first | exact h_ | (have e_:=(Kd.R_reads' HO_3.out).1;omega) | simpa using h_) (seg:=[.int .i64 t151,.int .i64 ((rd_T30 x3_1 t139).f1)]) (j:=0) hcl47 hcc47 (show 2≤2 from by decide) (x':=(⟨t151,(rd_T30 x3_1 t139).f1⟩ : S30)) (k30_mkM _ _ _ (⟨t151,(rd_T30 x3_1 t139).f1⟩ : S30)) (fun _ hk=>hk);have hx47_0:=hcc47 0 _ rfl;(try simp only [show (k30).sz=2 from rfl,Nat.mul_one,Nat.add_zero] at hx47_0);have hf47_0:=hfr47 0;(try simp only [show (k30).sz=2 from rfl,Nat.mul_one,Nat.add_zero] at hf47_0);have hx47_1:=hcc47 1 _ rfl;(try simp only [show (k30).sz=2 from rfl,Nat.mul_one,Nat.add_zero] at hx47_1);have hf47_1:=hfr47 1;(try simp only [show (k30).sz=2 from rfl,Nat.mul_one,Nat.add_zero] at hf47_1);((try clear hcl47);(try clear hcc47);(try clear hfr47);(try clear hM47)))|((with_reducible refine gate_store (t:=30) (p:=79) rfl ?_);refine store_event (t:=30) (p:=79) (v:=?vo_w48) (w1:=((w45.setCell ⟨go33,(t139 : Int).toNat * 2,none⟩ (.int .i64 t151)).setCell ⟨go33,(t139 : Int).toNat * 2 + 1,none⟩ (.int .i64 ((rd_T30 x3_1 t139).f1)))) ?hg ?ho ?hn ?hr ?_;(case ho=>rfl);(case hg=>rfl);(case hn=>rfl);(case hr=>first | (go_simp;done)|(go_simp;rfl));intro w48 hw;have hg : w45.grownBy w48 (some go33):=(by rw [hw];exact HP47.2);have hp_ : Kd.R k30 30 w48 w.heap.size (fun k_=>k_ ≠ gb143) (.slice (some ⟨go33,0,none⟩) x3_1.length co34) y154:=(by rw [hw,Ny154.out];exact HP47.1);clear HP47;replace HI0:=amk (IsS77.grown (i77_1 HI0 NB0_143.out) hg (IsS77.own_ne HI0.out HO_3.out (by decide)));replace BK143:=amk (blk_grown (g:=gb143) (o:=.cells #[.int .i64 t151,.int .i64 ((rd_T30 x3_1 t139).f1)] 30 (0,0)) (bkk BK143) hg (Kd.R_away HO_3.out (fun _ hk=>hk)));replace HO150:=amk (Kd.R_over' (v:=(.slice (some ⟨go33,0,none⟩) x3_1.length co34)) (rrr HO150) (Kd.R_typed HO_3.out) (by decide) hg);replace HB:=amk ((by rw [hw];exact below_set (below_set (HB.out) (Nat.le_trans HL.out GB33.out)) (Nat.le_trans HL.out GB33.out) : Below w0.heap.size w0 w48));replace HK:=amk (KeepBut.trans (kkk1 HK GW143.out) (KeepBut.of_grown hg g) (Kd.R_base2 HO_3.out));replace HO_3:=amk (hp_);clear hg hw hp_))
         go_ret
         exact ⟨_,erw0,by (with_reducible repeat (first | apply Kd.R_alloc | apply Kd.R_drewN | apply Kd.R_drew));exact Kd.R_mono HO_3.out (fun _ hk=>trivial),i77_1 HI0 NB0_143.out,bel2 HB (IsS77.ge HI0.out) GE143.out,kkk1 HK GW143.out⟩
        ·rw [if_neg c31] at H
         exact absurd H (by simp)
       ·rw [if_neg c30] at H
        have c30b0 : (t144 == 0)=false:=beq_eq_false_iff_ne.mpr c30
        have c30b1 : (t144 != 0)=true:=bne_iff_ne.mpr c30
        by_cases c49 : t144=1
        ·rw [if_pos c49] at H
         have c49b0 : (t144 == 1)=true:=beq_iff_eq.mpr c49
         have c49b1 : (t144 != 1)=false:=bne_eq_false_iff_eq.mpr c49
         clear c49
         obtain ⟨y155,hy155⟩ : ∃ y_ : List Int,y_=(([(-501),501] : List Int)):=⟨_,rfl⟩
         replace H : ((spec_l1Cur_among.f s0_0 t145 t146 y155).bind fun bt158=>(some ((x3_1.set (t139 : Int).toNat (⟨(rd_T30 x3_1 t139).f0,bt158.1⟩ : S30)),bt158.2.1,bt158.2.2)))=some (r1,r2,r3):=by first | (rw [hy155];with_reducible exact H)|(have H2_:=(Option.bind_some _ _).symm.trans H;rw [hy155];with_reducible exact H2_)|(have H2_:=(Option.bind_some _ _).symm.trans H;with_reducible exact H2_) | with_reducible exact H | (rw [hy155];exact H) | exact H
         have Ny155:=amk hy155
         clear hy155
         replace H:=obs H
         obtain ⟨⟨t158,t159,t160⟩,A500,H⟩:=H
         replace H : (some ((x3_1.set (t139 : Int).toNat (⟨(rd_T30 x3_1 t139).f0,t158⟩ : S30)),t159,t160))=some (r1,r2,r3):=H
         have A50:=amk A500
         clear A500
         obtain ⟨y161,hy161⟩ : ∃ y_ : List (S30),y_=(x3_1.set (t139 : Int).toNat (⟨(rd_T30 x3_1 t139).f0,t158⟩ : S30)):=⟨_,rfl⟩
         replace H : (some (y161,t159,t160))=some (r1,r2,r3):=by first | (rw [hy161];with_reducible exact H)|(have H2_:=(Option.bind_some _ _).symm.trans H;rw [hy161];with_reducible exact H2_)|(have H2_:=(Option.bind_some _ _).symm.trans H;with_reducible exact H2_) | with_reducible exact H | (rw [hy161];exact H) | exact H
         have Ny161:=amk hy161
         clear hy161
         simp only [Option.some.injEq,Prod.mk.injEq] at H
         obtain ⟨rfl,rfl,rfl⟩:=H
         obtain ⟨Ao52,co52,eo52⟩:=Kd.R_slice HO_3.out
         subst eo52
         go_wp2_with (first | ((with_reducible refine gate_callee (f:=81) rfl ?_);refine goesL_ (some 38) rfl rfl Try.func81 (by kernel_rfl) rfl #[.pointer (some ⟨g,0,none⟩),.int .i64 (x3_1.length : Int)] rfl mtt ?_;(with_reducible refine (spec_l1Cur_pick.calls g s0_0 x1001_1 x1002_1 (x3_1.length : Int) t139 t140 t141 w0 _ ?side1 ?side2 A26.out).mono ?_);(case side1=>exact i77_0 HI0);(case side2=>exact bel1 HB (IsS77.ge HI0.out));rintro e w53 ⟨rfl,hi,hb,hk⟩;refine ⟨_,rfl,?_⟩;replace HO_3:=amk (Kd.R_mono (Kd.R_keep (IsS77.apart (show IsS77 w0 _ g s0_0 x1001_1 x1002_1 from by exact i77_0 HI0) (rrr HO_3) (by decide)) hk (fun _ h=>h.2)) (fun _ h=>h.1));replace HK:=amk (KeepBut.trans (kkk HK) hk (.inl rfl));replace HB:=amk (hb);replace HI0:=amk (hi);(try clear hb hk hi);have p142 : 0≤(t139 : Int):=of_decide_eq_true ass;have q142 : t139 < (x3_1.length : Int):=of_decide_eq_true ass;obtain ⟨ad142,e142,hx142_0,hx142_1⟩:=at_T30 (Kd.R_reads' HO_3.out).2.2 t139 p142 q142;cases e142;replace p142:=eq_true p142;replace q142:=eq_true q142)|((with_reducible refine gate_dst (N:=7) rfl ?_);refine box_event ?hg (N:=7) ?hd (cs:=#[.int .i64 0,.int .i64 0]) (t:=30) ?hr ?_;(case hd=>rfl);(case hg=>rfl);(case hr=>first | (go_simp;done)|(go_simp;rfl));intro gb143 hg w54 hbox hb;replace HO_3:=amk (Kd.R_below (Kd.R_elderB (rrr HO_3) gb143 (Nat.le_of_eq hg.symm)) hb);replace HB:=amk (below_step (bel1 HB (IsS77.ge HI0.out)) hb);have BK143:=amk (hbox);have GW143:=amk ((by rw [hg];exact (keep_size (w:=w) (g:=g) (row:=none) (kkk HK)) : w.heap.size≤gb143));have GE143:=amk ((Nat.le_trans HW0.out (by rw [hg];exact (keep_size (w:=w) (g:=g) (row:=none) (kkk HK)) : w.heap.size≤gb143) : w0.heap.size≤gb143));replace HK:=amk (KeepBut.trans (kkk HK) (KeepBut.of_below hb g none) (.inl rfl));have NB0_143:=amk ((by rw [hg];exact Nat.ne_of_lt (IsS77.lt (show IsS77 w0 _ g s0_0 t140 t141 from by exact i77_0 HI0)) : g ≠ gb143));have NB143_0:=amk ((by rw [hg];exact Nat.ne_of_gt (IsS77.lt (show IsS77 w0 _ g s0_0 t140 t141 from by exact i77_0 HI0)) : gb143 ≠ g));replace HI0:=amk (IsS77.below (i77_0 HI0) hb);clear hb hbox hg;have hnb55:=NB143_0.out;have hnc55:=NB0_143.out;have hcz56_0 : w54.cell? ⟨gb143,0,none⟩=some (.int .i64 0):=(blk_cell BK143.out 0).trans rfl;have hcz56_1 : w54.cell? ⟨gb143,1,none⟩=some (.int .i64 0):=(blk_cell BK143.out 1).trans rfl;have hfz56_0:=blk_frozen BK143.out 0;have hfz56_1:=blk_frozen BK143.out 1)|((with_reducible refine gate_callee (f:=81) rfl ?_);refine goesL_ (some 44) rfl rfl Try.func81 (by kernel_rfl) rfl #[.pointer (some ⟨g,0,none⟩),.int .i64 50] rfl mtt ?_;(with_reducible refine (spec_l1Cur_pick.calls g s0_0 t140 t141 50 t144 t145 t146 w0 _ ?side1 ?side2 A29.out).mono ?_);(case side1=>exact i77_1 HI0 NB0_143.out);(case side2=>exact bel2 HB (IsS77.ge HI0.out) GE143.out);rintro e w57 ⟨rfl,hi,hb,hk⟩;refine ⟨_,rfl,?_⟩;have n0_:=amk (Kd.R_mono (Kd.R_keep (IsS77.apart (show IsS77 w0 _ g s0_0 t140 t141 from by exact i77_1 HI0 NB0_143.out) (by (with_reducible repeat (first | apply Kd.R_alloc | apply Kd.R_drewN | apply Kd.R_drew));exact (Kd.R_mono (Kd.R_far (p:=⟨gb143,1,none⟩) (Kd.R_far (p:=⟨gb143,0,none⟩) (Kd.R_mono HO_3.out (fun k_ hk=>(⟨hk,hk.2⟩ : _∧k_ ≠ gb143))) (fun _ hk=>hk.2) (.int .i64 ((rd_T30 x3_1 t139).f0))) (fun _ hk=>hk.2) (.int .i64 ((rd_T30 x3_1 t139).f1))) (fun _ h_=>h_.1))) (by decide)) hk (fun _ h=>h.2)) (fun _ h=>h.1));have n1_:=amk (KeepBut.blk hk (g':=gb143) (o:=.cells #[.int .i64 ((rd_T30 x3_1 t139).f0),.int .i64 ((rd_T30 x3_1 t139).f1)] 30 (0,0)) (by (with_reducible repeat (first | refine blk_drewN ?_ _ | refine blk_drew ?_ | refine blk_alloc ?_ _));refine blk_put (cs:=#[.int .i64 ((rd_T30 x3_1 t139).f0),.int .i64 0]) ?_ 1 _ rfl;(with_reducible repeat (first | refine blk_drewN ?_ _ | refine blk_drew ?_ | refine blk_alloc ?_ _));refine blk_put (cs:=#[.int .i64 0,.int .i64 0]) ?_ 0 _ rfl;(with_reducible repeat (first | refine blk_drewN ?_ _ | refine blk_drew ?_ | refine blk_alloc ?_ _));exact BK143.out) NB143_0.out (by simp));have n2_:=amk (KeepBut.trans (kkk1 HK GW143.out) hk (.inl rfl));have n3_:=amk (hb);have n4_:=amk (hi);clear HO_3;clear BK143;clear HK;clear HB;clear HI0;have HO_3:=n0_;have BK143:=n1_;have HK:=n2_;have HB:=n3_;have HI0:=n4_;clear n0_ n1_ n2_ n3_ n4_;(try clear hb hk hi))|((with_reducible refine gate_dst (N:=58) rfl ?_);refine Kd.R_lit (Kd.int .i64) _ 3 ?hg (N:=58) ?hd (xs:=([(-501),501] : List Int)) (inner:=[.int .i64 (-501),.int .i64 501]) (ok:=fun _=>True) (okp:=fun _=>True) ?hr ?hp (fun _ hk=>hk) trivial (Below.refl _ _) (Nat.le_refl _) (by simp) ?_;(case hd=>rfl);(case hg=>rfl);(case hr=>first | (go_simp;done)|(go_simp;rfl));(case hp=>exact (Reps.one (show Kd.M (Kd.int .i64) _ _ _ (-501) [.int .i64 (-501)] from rfl) (Reps.one (show Kd.M (Kd.int .i64) _ _ _ 501 [.int .i64 501] from rfl) (Reps.none _ _))));intro v156 w58 ho59 hb hg_ hnew_;clear hg_ hnew_;(first | rw [← Ny155.out] at ho59 | (simp only [Int.reduceToNat] at ho59;rw [← Ny155.out] at ho59));replace HO_3:=amk (Kd.R_below (rrr HO_3) hb);have HO157:=amk (Kd.R_lower ho59 (keep_size (w:=w) (g:=g) (row:=none) (kkk1 HK GW143.out)));replace BK143:=amk (blk_below (g:=gb143) (o:=.cells #[.int .i64 ((rd_T30 x3_1 t139).f0),.int .i64 ((rd_T30 x3_1 t139).f1)] 30 (0,0)) (bkk BK143) hb);replace HK:=amk (KeepBut.trans (kkk1 HK GW143.out) (KeepBut.of_below hb g none) (.inl rfl));replace HB:=amk (below_step (bel2 HB (IsS77.ge HI0.out) GE143.out) hb);replace HI0:=amk (IsS77.below (i77_1 HI0 NB0_143.out) hb);clear hb ho59;obtain ⟨Ao60,co60,eo60⟩:=Kd.R_slice HO157.out;subst eo60)|((with_reducible refine gate_callee (f:=80) rfl ?_);refine goesL_ (some 59) rfl rfl Try.func80 (by kernel_rfl) rfl #[.pointer (some ⟨g,0,none⟩),.slice Ao60 y155.length co60] rfl mtt ?_;(with_reducible refine (spec_l1Cur_among.calls g s0_0 t145 t146 _ _ y155 t158 t159 t160 w0 _ ?side1 ?side2 ?side3 ?side4 ?side5 A50.out).mono ?_);(case side1=>exact i77_1 HI0 NB0_143.out);(case side2=>exact bel2 HB (IsS77.ge HI0.out) GE143.out);(case side3=>exact ccc (Kd.R_reads' HO157.out).2.2);(case side4=>exact (Kd.R_reads' HO157.out).2.1);(case side5=>exact far_slice (IsS77.own_ne HI0.out HO157.out (by decide)));rintro e w61 ⟨rfl,hi,hb,hk⟩;refine ⟨_,rfl,?_⟩;replace HO_3:=amk (Kd.R_mono (Kd.R_keep (IsS77.apart (show IsS77 w0 _ g s0_0 t145 t146 from by exact i77_1 HI0 NB0_143.out) (rrr HO_3) (by decide)) hk (fun _ h=>h.2)) (fun _ h=>h.1));replace BK143:=amk (KeepBut.blk hk (g':=gb143) (o:=.cells #[.int .i64 ((rd_T30 x3_1 t139).f0),.int .i64 ((rd_T30 x3_1 t139).f1)] 30 (0,0)) (bkk BK143) NB143_0.out (by simp));replace HO157:=amk (Kd.R_mono (Kd.R_keep (IsS77.apart (show IsS77 w0 _ g s0_0 t145 t146 from by exact i77_1 HI0 NB0_143.out) (rrr HO157) (by decide)) hk (fun _ h=>h.2)) (fun _ h=>h.1));replace HK:=amk (KeepBut.trans (kkk1 HK GW143.out) hk (.inl rfl));replace HB:=amk (hb);replace HI0:=amk (hi);(try clear hb hk hi);have hcz62_0 : w61.cell? ⟨gb143,0,none⟩=some (.int .i64 ((rd_T30 x3_1 t139).f0)):=(blk_cell BK143.out 0).trans rfl;have hcz62_1 : w61.cell? ⟨gb143,1,none⟩=some (.int .i64 ((rd_T30 x3_1 t139).f1)):=(blk_cell BK143.out 1).trans rfl;have hfz62_0:=blk_frozen BK143.out 0;have hfz62_1:=blk_frozen BK143.out 1)|((with_reducible refine gate_store (t:=3) (p:=60) rfl ?_);refine store_event (t:=3) (p:=60) (v:=?vo_w63) (w1:=(w61.setCell ⟨gb143,1,none⟩ (.int .i64 t158))) ?hg ?ho ?hn ?hr ?_;(case ho=>rfl);(case hg=>rfl);(case hn=>rfl);(case hr=>first | (go_simp;done)|(go_simp;rfl));intro w63 hw;have n0_ : Aside0 (Kd.R k30 30 w63 w.heap.size (fun k_=>k_ ≠ gb143) (.slice (some ad142) x3_1.length co52) x3_1):=⟨(by rw [hw];exact (by (with_reducible repeat (first | apply Kd.R_alloc | apply Kd.R_drewN | apply Kd.R_drew));exact Kd.R_mono (Kd.R_far (p:=⟨gb143,1,none⟩) (Kd.R_mono HO_3.out (fun k_ hk=>(⟨hk,hk.2⟩ : _∧k_ ≠ gb143))) (fun _ hk=>hk.2) (.int .i64 t158)) (fun _ hk=>hk.1.2)))⟩;have n1_ : Aside0 (Kd.R (Kd.int .i64) 3 w63 w.heap.size (fun _=>True) (.slice Ao60 y155.length co60) y155):=⟨(by rw [hw];exact (by (with_reducible repeat (first | apply Kd.R_alloc | apply Kd.R_drewN | apply Kd.R_drew));exact Kd.R_mono (Kd.R_far (p:=⟨gb143,1,none⟩) (Kd.R_types HO157.out BK143.out (by decide)) (fun _ hk=>hk.2) (.int .i64 t158)) (fun _ hk=>trivial)))⟩;have n2_ : Aside0 (w63.heap[gb143]? = some (.cells #[.int .i64 ((rd_T30 x3_1 t139).f0),.int .i64 t158] 30 (0,0))):=⟨(by rw [hw];exact (by (with_reducible repeat (first | refine blk_drewN ?_ _ | refine blk_drew ?_ | refine blk_alloc ?_ _));refine blk_put (cs:=#[.int .i64 ((rd_T30 x3_1 t139).f0),.int .i64 ((rd_T30 x3_1 t139).f1)]) ?_ 1 _ rfl;(with_reducible repeat (first | refine blk_drewN ?_ _ | refine blk_drew ?_ | refine blk_alloc ?_ _));exact BK143.out))⟩;have n3_ : Aside0 (IsS77 w0 w63 g s0_0 t159 t160):=⟨(by rw [hw];exact (i77_1 HI0 NB0_143.out))⟩;have n4_ : Aside0 (KeepBut w w63 g none):=⟨(by rw [hw];exact (kkk1 HK GW143.out))⟩;have n5_ : Aside0 (Below w0.heap.size w0 w63):=⟨(by rw [hw];exact (bel2 HB (IsS77.ge HI0.out) GE143.out))⟩;clear hw;clear HO_3;clear HO157;clear BK143;clear HI0;clear HK;clear HB;have HO_3:=n0_;have HO157:=n1_;have BK143:=n2_;have HI0:=n3_;have HK:=n4_;have HB:=n5_;clear n0_ n1_ n2_ n3_ n4_ n5_;have hcz64_0 : w63.cell? ⟨gb143,0,none⟩=some (.int .i64 ((rd_T30 x3_1 t139).f0)):=(blk_cell BK143.out 0).trans rfl;have hcz64_1 : w63.cell? ⟨gb143,1,none⟩=some (.int .i64 t158):=(blk_cell BK143.out 1).trans rfl;have hfz64_0:=blk_frozen BK143.out 0;have hfz64_1:=blk_frozen BK143.out 1;have p51 : 0≤(t139 : Int):=of_decide_eq_true ass;have q51 : (t139 : Int) < ((x3_1.length : Int) : Int):=of_decide_eq_true ass;obtain ⟨go51,co51,eo51,gb51,gl51,cl51,HG51⟩:=Kd.R_form HO_3.out (by omega);(first | cases eo51 | (injection eo51 with ea_ en_ ec_;(first | subst ea_ | (injection ea_ with ea_;subst ea_));subst ec_;clear en_));have GB51:=amk gb51;have GG51:=amk HG51;clear gb51 gl51 HG51;(first | simp only [add_plain] at hx142_0 | skip);(first | simp only [add_plain] at hx142_1 | skip);obtain ⟨ce51,hcl51,hM51,hcc51,hfr51⟩:=Kd.R_elem HO_3.out z30 (t139 : Int) p51 q51;obtain rfl:=k30_openM hM51;have hx51_0 : w63.cell? ⟨go51,(t139 : Int).toNat * 2,none⟩=some (.int .i64 ((rd_T30 x3_1 t139).f0)):=hcc51 0 _ rfl;have hx51_1 : w63.cell? ⟨go51,(t139 : Int).toNat * 2 + 1,none⟩=some (.int .i64 ((rd_T30 x3_1 t139).f1)):=hcc51 1 _ rfl;have hf51_0 : w63.frozen? ⟨go51,(t139 : Int).toNat * 2,none⟩=false:=hfr51 0;have hf51_1 : w63.frozen? ⟨go51,(t139 : Int).toNat * 2 + 1,none⟩=false:=hfr51 1;((try clear hcl51);(try clear hcc51);(try clear hfr51);(try clear hM51));replace p51:=eq_true p51;replace q51:=eq_true q51;have HX65:=amk (show Kd.R k30 30 w63 w.heap.size (fun k_=>k_ ≠ gb143) (.slice (some ⟨go51,0,none⟩) x3_1.length co52) x3_1 from (rrr HO_3));obtain ⟨ce65,hcl65,hM65,hcc65,hfr65⟩:=Kd.R_elem HX65.out z30 (t139 : Int) (of_decide_eq_true ass) (by have h_ : (t139 : Int) < ((x3_1.length : Int) : Int):=of_decide_eq_true ass;first | exact h_ | (have e_:=(Kd.R_reads' HO_3.out).1;omega) | simpa using h_);obtain rfl:=k30_openM hM65;have HP65:=Kd.R_seg HX65.out (t139 : Int) (of_decide_eq_true ass) (by have h_ : (t139 : Int) < ((x3_1.length : Int) : Int):=of_decide_eq_true ass;first | exact h_ | (have e_:=(Kd.R_reads' HO_3.out).1;omega) | simpa using h_) (seg:=[.int .i64 ((rd_T30 x3_1 t139).f0),.int .i64 t158]) (j:=0) hcl65 hcc65 (show 2≤2 from by decide) (x':=(⟨(rd_T30 x3_1 t139).f0,t158⟩ : S30)) (k30_mkM _ _ _ (⟨(rd_T30 x3_1 t139).f0,t158⟩ : S30)) (fun _ hk=>hk);have hx65_0:=hcc65 0 _ rfl;(try simp only [show (k30).sz=2 from rfl,Nat.mul_one,Nat.add_zero] at hx65_0);have hf65_0:=hfr65 0;(try simp only [show (k30).sz=2 from rfl,Nat.mul_one,Nat.add_zero] at hf65_0);have hx65_1:=hcc65 1 _ rfl;(try simp only [show (k30).sz=2 from rfl,Nat.mul_one,Nat.add_zero] at hx65_1);have hf65_1:=hfr65 1;(try simp only [show (k30).sz=2 from rfl,Nat.mul_one,Nat.add_zero] at hf65_1);((try clear hcl65);(try clear hcc65);(try clear hfr65);(try clear hM65)))|((with_reducible refine gate_store (t:=30) (p:=79) rfl ?_);refine store_event (t:=30) (p:=79) (v:=?vo_w66) (w1:=((w63.setCell ⟨go51,(t139 : Int).toNat * 2,none⟩ (.int .i64 ((rd_T30 x3_1 t139).f0))).setCell ⟨go51,(t139 : Int).toNat * 2 + 1,none⟩ (.int .i64 t158))) ?hg ?ho ?hn ?hr ?_;(case ho=>rfl);(case hg=>rfl);(case hn=>rfl);(case hr=>first | (go_simp;done)|(go_simp;rfl));intro w66 hw;have hg : w63.grownBy w66 (some go51):=(by rw [hw];exact HP65.2);have hp_ : Kd.R k30 30 w66 w.heap.size (fun k_=>k_ ≠ gb143) (.slice (some ⟨go51,0,none⟩) x3_1.length co52) y161:=(by rw [hw,Ny161.out];exact HP65.1);clear HP65;replace HI0:=amk (IsS77.grown (i77_1 HI0 NB0_143.out) hg (IsS77.own_ne HI0.out HO_3.out (by decide)));replace BK143:=amk (blk_grown (g:=gb143) (o:=.cells #[.int .i64 ((rd_T30 x3_1 t139).f0),.int .i64 t158] 30 (0,0)) (bkk BK143) hg (Kd.R_away HO_3.out (fun _ hk=>hk)));replace HO157:=amk (Kd.R_over' (v:=(.slice (some ⟨go51,0,none⟩) x3_1.length co52)) (rrr HO157) (Kd.R_typed HO_3.out) (by decide) hg);replace HB:=amk ((by rw [hw];exact below_set (below_set (HB.out) (Nat.le_trans HL.out GB51.out)) (Nat.le_trans HL.out GB51.out) : Below w0.heap.size w0 w66));replace HK:=amk (KeepBut.trans (kkk1 HK GW143.out) (KeepBut.of_grown hg g) (Kd.R_base2 HO_3.out));replace HO_3:=amk (hp_);clear hg hw hp_))
         go_ret
         exact ⟨_,erw0,by (with_reducible repeat (first | apply Kd.R_alloc | apply Kd.R_drewN | apply Kd.R_drew));exact Kd.R_mono HO_3.out (fun _ hk=>trivial),i77_1 HI0 NB0_143.out,bel2 HB (IsS77.ge HI0.out) GE143.out,kkk1 HK GW143.out⟩
        ·rw [if_neg c49] at H
         have c49b0 : (t144 == 1)=false:=beq_eq_false_iff_ne.mpr c49
         have c49b1 : (t144 != 1)=true:=bne_iff_ne.mpr c49
         by_cases c67 : t144=2
         ·rw [if_pos c67] at H
          have c67b0 : (t144 == 2)=true:=beq_iff_eq.mpr c67
          have c67b1 : (t144 != 2)=false:=bne_eq_false_iff_eq.mpr c67
          clear c67
          have H':=amk H
          clear H
          obtain ⟨Ao68,co68,eo68⟩:=Kd.R_slice HO_3.out
          subst eo68
          go_wp2_with (first | ((with_reducible refine gate_callee (f:=81) rfl ?_);refine goesL_ (some 38) rfl rfl Try.func81 (by kernel_rfl) rfl #[.pointer (some ⟨g,0,none⟩),.int .i64 (x3_1.length : Int)] rfl mtt ?_;(with_reducible refine (spec_l1Cur_pick.calls g s0_0 x1001_1 x1002_1 (x3_1.length : Int) t139 t140 t141 w0 _ ?side1 ?side2 A26.out).mono ?_);(case side1=>exact i77_0 HI0);(case side2=>exact bel1 HB (IsS77.ge HI0.out));rintro e w69 ⟨rfl,hi,hb,hk⟩;refine ⟨_,rfl,?_⟩;replace HO_3:=amk (Kd.R_mono (Kd.R_keep (IsS77.apart (show IsS77 w0 _ g s0_0 x1001_1 x1002_1 from by exact i77_0 HI0) (rrr HO_3) (by decide)) hk (fun _ h=>h.2)) (fun _ h=>h.1));replace HK:=amk (KeepBut.trans (kkk HK) hk (.inl rfl));replace HB:=amk (hb);replace HI0:=amk (hi);(try clear hb hk hi);have p142 : 0≤(t139 : Int):=of_decide_eq_true ass;have q142 : t139 < (x3_1.length : Int):=of_decide_eq_true ass;obtain ⟨ad142,e142,hx142_0,hx142_1⟩:=at_T30 (Kd.R_reads' HO_3.out).2.2 t139 p142 q142;cases e142;replace p142:=eq_true p142;replace q142:=eq_true q142)|((with_reducible refine gate_dst (N:=7) rfl ?_);refine box_event ?hg (N:=7) ?hd (cs:=#[.int .i64 0,.int .i64 0]) (t:=30) ?hr ?_;(case hd=>rfl);(case hg=>rfl);(case hr=>first | (go_simp;done)|(go_simp;rfl));intro gb143 hg w70 hbox hb;replace HO_3:=amk (Kd.R_below (Kd.R_elderB (rrr HO_3) gb143 (Nat.le_of_eq hg.symm)) hb);replace HB:=amk (below_step (bel1 HB (IsS77.ge HI0.out)) hb);have BK143:=amk (hbox);have GW143:=amk ((by rw [hg];exact (keep_size (w:=w) (g:=g) (row:=none) (kkk HK)) : w.heap.size≤gb143));have GE143:=amk ((Nat.le_trans HW0.out (by rw [hg];exact (keep_size (w:=w) (g:=g) (row:=none) (kkk HK)) : w.heap.size≤gb143) : w0.heap.size≤gb143));replace HK:=amk (KeepBut.trans (kkk HK) (KeepBut.of_below hb g none) (.inl rfl));have NB0_143:=amk ((by rw [hg];exact Nat.ne_of_lt (IsS77.lt (show IsS77 w0 _ g s0_0 t140 t141 from by exact i77_0 HI0)) : g ≠ gb143));have NB143_0:=amk ((by rw [hg];exact Nat.ne_of_gt (IsS77.lt (show IsS77 w0 _ g s0_0 t140 t141 from by exact i77_0 HI0)) : gb143 ≠ g));replace HI0:=amk (IsS77.below (i77_0 HI0) hb);clear hb hbox hg;have hnb71:=NB143_0.out;have hnc71:=NB0_143.out;have hcz72_0 : w70.cell? ⟨gb143,0,none⟩=some (.int .i64 0):=(blk_cell BK143.out 0).trans rfl;have hcz72_1 : w70.cell? ⟨gb143,1,none⟩=some (.int .i64 0):=(blk_cell BK143.out 1).trans rfl;have hfz72_0:=blk_frozen BK143.out 0;have hfz72_1:=blk_frozen BK143.out 1)|((with_reducible refine gate_callee (f:=81) rfl ?_);refine goesL_ (some 44) rfl rfl Try.func81 (by kernel_rfl) rfl #[.pointer (some ⟨g,0,none⟩),.int .i64 50] rfl mtt ?_;(with_reducible refine (spec_l1Cur_pick.calls g s0_0 t140 t141 50 t144 t145 t146 w0 _ ?side1 ?side2 A29.out).mono ?_);(case side1=>exact i77_1 HI0 NB0_143.out);(case side2=>exact bel2 HB (IsS77.ge HI0.out) GE143.out);rintro e w73 ⟨rfl,hi,hb,hk⟩;refine ⟨_,rfl,?_⟩;have n0_:=amk (Kd.R_mono (Kd.R_keep (IsS77.apart (show IsS77 w0 _ g s0_0 t140 t141 from by exact i77_1 HI0 NB0_143.out) (by (with_reducible repeat (first | apply Kd.R_alloc | apply Kd.R_drewN | apply Kd.R_drew));exact (Kd.R_mono (Kd.R_far (p:=⟨gb143,1,none⟩) (Kd.R_far (p:=⟨gb143,0,none⟩) (Kd.R_mono HO_3.out (fun k_ hk=>(⟨hk,hk.2⟩ : _∧k_ ≠ gb143))) (fun _ hk=>hk.2) (.int .i64 ((rd_T30 x3_1 t139).f0))) (fun _ hk=>hk.2) (.int .i64 ((rd_T30 x3_1 t139).f1))) (fun _ h_=>h_.1))) (by decide)) hk (fun _ h=>h.2)) (fun _ h=>h.1));have n1_:=amk (KeepBut.blk hk (g':=gb143) (o:=.cells #[.int .i64 ((rd_T30 x3_1 t139).f0),.int .i64 ((rd_T30 x3_1 t139).f1)] 30 (0,0)) (by (with_reducible repeat (first | refine blk_drewN ?_ _ | refine blk_drew ?_ | refine blk_alloc ?_ _));refine blk_put (cs:=#[.int .i64 ((rd_T30 x3_1 t139).f0),.int .i64 0]) ?_ 1 _ rfl;(with_reducible repeat (first | refine blk_drewN ?_ _ | refine blk_drew ?_ | refine blk_alloc ?_ _));refine blk_put (cs:=#[.int .i64 0,.int .i64 0]) ?_ 0 _ rfl;(with_reducible repeat (first | refine blk_drewN ?_ _ | refine blk_drew ?_ | refine blk_alloc ?_ _));exact BK143.out) NB143_0.out (by simp));have n2_:=amk (KeepBut.trans (kkk1 HK GW143.out) hk (.inl rfl));have n3_:=amk (hb);have n4_:=amk (hi);clear HO_3;clear BK143;clear HK;clear HB;clear HI0;have HO_3:=n0_;have BK143:=n1_;have HK:=n2_;have HB:=n3_;have HI0:=n4_;clear n0_ n1_ n2_ n3_ n4_;(try clear hb hk hi)))
          go_loopg [3] k1 (fun kq v3 w'=>∃ (x3_2 : List (S30)) (x1001_2 : Int) (x1002_2 : Int),Aside0 (spec_l1Cur_readings.l1 kq x3_2 t139 s0_0 x1001_2 x1002_2 ((rd_T30 x3_1 t139).f0) ((rd_T30 x3_1 t139).f1)=some (r1,r2,r3))∧Aside0 (kq≤k1)∧Aside0 (Kd.R k30 30 w' w.heap.size (fun k_=>k_ ≠ gb143) v3 x3_2)∧Aside0 (w'.heap[gb143]? = some (.cells #[.int .i64 ((rd_T30 x3_1 t139).f0),.int .i64 ((rd_T30 x3_1 t139).f1)] 30 (0,0)))∧Aside0 (IsS77 w0 w' g s0_0 x1001_2 x1002_2)∧Aside0 (KeepBut w w' g none)∧Aside0 (Below w0.heap.size w0 w'))
          case atStart=>exact ⟨(x3_1),(t145),(t146),H',⟨Nat.le_refl _⟩,⟨by (with_reducible repeat (first | apply Kd.R_alloc | apply Kd.R_drewN | apply Kd.R_drew));exact Kd.R_mono HO_3.out (fun _ hk=>hk.2)⟩,⟨by (with_reducible repeat (first | refine blk_drewN ?_ _ | refine blk_drew ?_ | refine blk_alloc ?_ _));exact BK143.out⟩,⟨i77_1 HI0 NB0_143.out⟩,⟨kkk1 HK GW143.out⟩,⟨bel2 HB (IsS77.ge HI0.out) GE143.out⟩⟩
          case round=>
           clear H'
           try clear c1
           try clear p1
           try clear q1
           try clear hx1
           try clear qi1
           try clear c2
           try clear p2
           try clear c3
           try clear p3
           try clear q3
           try clear hx3
           try clear hf3
           try clear c4
           try clear hx4
           try clear hf4
           try clear c5
           try clear p5
           try clear q5
           try clear hx5
           try clear hf5
           try clear c6
           try clear p6
           try clear hx6
           try clear hf6
           try clear c7
           try clear c8
           try clear c11
           try clear c11b0
           try clear c13
           try clear p14
           try clear q14
           try clear hx14
           try clear qi14
           try clear c24
           try clear c24b0
           try clear c24b1
           try clear c24b2
           try clear c27
           try clear c27b0
           try clear c28
           try clear c28b0
           try clear c30
           try clear c30b0
           try clear c30b1
           try clear c31
           try clear c31b0
           try clear c31b1
           try clear c33
           try clear p33
           try clear q33
           try clear hx33
           try clear hf33
           try clear c37
           try clear c47
           try clear hx47
           try clear hf47
           try clear c49
           try clear c49b0
           try clear c49b1
           try clear c51
           try clear p51
           try clear q51
           try clear hx51
           try clear hf51
           try clear c55
           try clear p64
           try clear c65
           try clear hx65
           try clear hf65
           try clear c67
           try clear c67b0
           try clear c67b1
           try clear c71
           try clear hcz38_0
           try clear hcz38_1
           try clear hcz44_0
           try clear hcz44_1
           try clear hcz46_0
           try clear hcz46_1
           try clear hcz56_0
           try clear hcz56_1
           try clear hcz62_0
           try clear hcz62_1
           try clear hcz64_0
           try clear hcz64_1
           try clear hcz72_0
           try clear hcz72_1
           try clear hfz38_0
           try clear hfz38_1
           try clear hfz44_0
           try clear hfz44_1
           try clear hfz46_0
           try clear hfz46_1
           try clear hfz56_0
           try clear hfz56_1
           try clear hfz62_0
           try clear hfz62_1
           try clear hfz64_0
           try clear hfz64_1
           try clear hfz72_0
           try clear hfz72_1
           try clear hx142_0
           try clear hx142_1
           try clear hx147_0
           try clear hx147_1
           try clear hx33_0
           try clear hx33_1
           try clear hx47_0
           try clear hx47_1
           try clear hx51_0
           try clear hx51_1
           try clear hx65_0
           try clear hx65_1
           try clear p142
           try clear p147
           try clear p2
           try clear p33
           try clear p51
           try clear q142
           try clear q147
           try clear q33
           try clear q51
           obtain ⟨x3_2,x1001_2,x1002_2,HA,HK2,HO_3,BK143,HI0,HK,HB⟩:=hrel
           cases gk with
           | zero=>exact absurd HA.out (by simp [spec_l1Cur_readings.l1])
           | succ k2=>
            have H:=HA.out
            clear HA
            simp only [spec_l1Cur_readings.l1] at H
            replace H:=obs H
            obtain ⟨⟨t162,t163,t164⟩,A740,H⟩:=H
            replace H : (if (x3_2.length : Int) < (wrap64 (15 + t162)) then (if x3_2.length < 8796093022208 then (spec_l1Cur_readings.l1 k2 (x3_2 ++ [(⟨wrap64 (980 + (x3_2.length : Int)),2⟩ : S30)]) t139 s0_0 t163 t164 ((rd_T30 x3_1 t139).f0) ((rd_T30 x3_1 t139).f1)) else (none)) else (if 0≤t139 then (if t139 < (x3_2.length : Int) then (some ((x3_2.set (t139 : Int).toNat (⟨((rd_T30 x3_1 t139).f0),((rd_T30 x3_1 t139).f1)⟩ : S30)),t163,t164)) else (none)) else (none)))=some (r1,r2,r3):=H
            have A74:=amk A740
            clear A740
            by_cases c75 : (x3_2.length : Int) < (wrap64 (15 + t162))
            ·rw [if_pos c75] at H
             have c75b0 : decide ((x3_2.length : Int) < (wrap64 (15 + t162)))=true:=decide_eq_true c75
             clear c75
             by_cases c76 : x3_2.length < 8796093022208
             ·rw [if_pos c76] at H
              have LMc76:=amk c76
              clear c76
              obtain ⟨y165,hy165⟩ : ∃ y_ : List (S30),y_=(x3_2 ++ [(⟨wrap64 (980 + (x3_2.length : Int)),2⟩ : S30)]):=⟨_,rfl⟩
              replace H : (spec_l1Cur_readings.l1 k2 y165 t139 s0_0 t163 t164 ((rd_T30 x3_1 t139).f0) ((rd_T30 x3_1 t139).f1))=some (r1,r2,r3):=by first | (rw [hy165];with_reducible exact H)|(have H2_:=(Option.bind_some _ _).symm.trans H;rw [hy165];with_reducible exact H2_)|(have H2_:=(Option.bind_some _ _).symm.trans H;with_reducible exact H2_) | with_reducible exact H | (rw [hy165];exact H) | exact H
              have Ny165:=amk hy165
              clear hy165
              have H':=amk H
              clear H
              obtain ⟨Ao77,co77,eo77⟩:=Kd.R_slice HO_3.out
              subst eo77
              go_wp2_with (first | ((with_reducible refine gate_callee (f:=81) rfl ?_);refine goesL_ (some 66) rfl rfl Try.func81 (by kernel_rfl) rfl #[.pointer (some ⟨g,0,none⟩),.int .i64 2] rfl mtt ?_;(with_reducible refine (spec_l1Cur_pick.calls g s0_0 x1001_2 x1002_2 2 t162 t163 t164 w0 _ ?side1 ?side2 A74.out).mono ?_);(case side1=>exact i77_1 HI0 NB0_143.out);(case side2=>exact bel2 HB (IsS77.ge HI0.out) GE143.out);rintro e w78 ⟨rfl,hi,hb,hk⟩;refine ⟨_,rfl,?_⟩;replace HO_3:=amk (Kd.R_mono (Kd.R_keep (IsS77.apart (show IsS77 w0 _ g s0_0 x1001_2 x1002_2 from by exact i77_1 HI0 NB0_143.out) (rrr HO_3) (by decide)) hk (fun _ h=>h.2)) (fun _ h=>h.1));replace BK143:=amk (KeepBut.blk hk (g':=gb143) (o:=.cells #[.int .i64 ((rd_T30 x3_1 t139).f0),.int .i64 ((rd_T30 x3_1 t139).f1)] 30 (0,0)) (bkk BK143) NB143_0.out (by simp));replace HK:=amk (KeepBut.trans (kkk1 HK GW143.out) hk (.inl rfl));replace HB:=amk (hb);replace HI0:=amk (hi);(try clear hb hk hi))|((with_reducible refine gate_builtin (b:=.append) (xs:=#[.tmp 69,.tmp 74]) rfl ?_);at_builtin;refine Kd.R_append k30 w.heap.size rfl (.tmp 69) (.tmp 74) 24 30 (.agg #[(.int .i64 0),(.int .i64 0)]) 16 rfl Try.underlying24 info30 rfl (by decide) (by omega) (.slice Ao77 x3_2.length co77) x3_2 (⟨wrap64 (980 + (x3_2.length : Int)),2⟩ : S30) [.int .i64 (wrap64 (980 + (x3_2.length : Int))),.int .i64 2] (fun k_=>k_ ≠ gb143) (fun _=>False) rfl rfl ?aP (fun _ hk=>hk.elim) ?aF ?aO (Below.refl _ _) ?aS ?aL ?_;(case aP=>exact k30_mkM _ _ _ (⟨wrap64 (980 + (x3_2.length : Int)),2⟩ : S30));(case aF=>exact (fun k_ hk=>Kd.freshB (g:=gb143) (o:=.cells #[.int .i64 ((rd_T30 x3_1 t139).f0),.int .i64 ((rd_T30 x3_1 t139).f1)] 30 (0,0)) (bkk BK143) k_ hk));(case aO=>exact (rrr HO_3));(case aS=>exact (keep_size (w:=w) (g:=g) (row:=none) (kkk1 HK GW143.out)));(case aL=>have:=LMc76.out;omega);intro v166 w79 ho hb hg hat;rw [← Ny165.out] at ho;replace BK143:=amk (blk_grown (g:=gb143) (o:=.cells #[.int .i64 ((rd_T30 x3_1 t139).f0),.int .i64 ((rd_T30 x3_1 t139).f1)] 30 (0,0)) (bkk BK143) hg (Kd.R_away HO_3.out (fun _ hk=>hk)));replace HB:=amk (below_weaken (bel2 HB (IsS77.ge HI0.out) GE143.out) HL.out hb);replace HI0:=amk (IsS77.grown (i77_1 HI0 NB0_143.out) hg (IsS77.own_ne HI0.out HO_3.out (by decide)));replace HK:=amk (KeepBut.trans (kkk1 HK GW143.out) (KeepBut.of_grown hg g) (Kd.R_base2 HO_3.out));have HO167:=amk (ho);clear HO_3;clear ho hb hg hat))
              go_roundg k2
              case measure=>have:=HK1.out;have:=HK2.out;omega
              case rel=>exact ⟨(y165),(t163),(t164),H',⟨by have:=HK1.out;have:=HK2.out;omega⟩,⟨rrr HO167⟩,⟨by (with_reducible repeat (first | refine blk_drewN ?_ _ | refine blk_drew ?_ | refine blk_alloc ?_ _));exact BK143.out⟩,⟨i77_1 HI0 NB0_143.out⟩,⟨kkk1 HK GW143.out⟩,⟨bel2 HB (IsS77.ge HI0.out) GE143.out⟩⟩
             ·rw [if_neg c76] at H
              exact absurd H (by simp)
            ·rw [if_neg c75] at H
             have c75b0 : decide ((x3_2.length : Int) < (wrap64 (15 + t162)))=false:=decide_eq_false c75
             clear c75
             by_cases c80 : 0≤t139
             ·rw [if_pos c80] at H
              have c80b0 : decide (0≤t139)=true:=decide_eq_true c80
              clear c80
              by_cases c81 : t139 < (x3_2.length : Int)
              ·rw [if_pos c81] at H
               have c81b0 : decide (t139 < (x3_2.length : Int))=true:=decide_eq_true c81
               clear c81
               obtain ⟨y168,hy168⟩ : ∃ y_ : List (S30),y_=(x3_2.set (t139 : Int).toNat (⟨((rd_T30 x3_1 t139).f0),((rd_T30 x3_1 t139).f1)⟩ : S30)):=⟨_,rfl⟩
               replace H : (some (y168,t163,t164))=some (r1,r2,r3):=by first | (rw [hy168];with_reducible exact H)|(have H2_:=(Option.bind_some _ _).symm.trans H;rw [hy168];with_reducible exact H2_)|(have H2_:=(Option.bind_some _ _).symm.trans H;with_reducible exact H2_) | with_reducible exact H | (rw [hy168];exact H) | exact H
               have Ny168:=amk hy168
               clear hy168
               simp only [Option.some.injEq,Prod.mk.injEq] at H
               obtain ⟨rfl,rfl,rfl⟩:=H
               obtain ⟨Ao83,co83,eo83⟩:=Kd.R_slice HO_3.out
               subst eo83
               go_wp2_with (first | ((with_reducible refine gate_callee (f:=81) rfl ?_);refine goesL_ (some 66) rfl rfl Try.func81 (by kernel_rfl) rfl #[.pointer (some ⟨g,0,none⟩),.int .i64 2] rfl mtt ?_;(with_reducible refine (spec_l1Cur_pick.calls g s0_0 x1001_2 x1002_2 2 t162 t163 t164 w0 _ ?side1 ?side2 A74.out).mono ?_);(case side1=>exact i77_1 HI0 NB0_143.out);(case side2=>exact bel2 HB (IsS77.ge HI0.out) GE143.out);rintro e w84 ⟨rfl,hi,hb,hk⟩;refine ⟨_,rfl,?_⟩;replace HO_3:=amk (Kd.R_mono (Kd.R_keep (IsS77.apart (show IsS77 w0 _ g s0_0 x1001_2 x1002_2 from by exact i77_1 HI0 NB0_143.out) (rrr HO_3) (by decide)) hk (fun _ h=>h.2)) (fun _ h=>h.1));replace BK143:=amk (KeepBut.blk hk (g':=gb143) (o:=.cells #[.int .i64 ((rd_T30 x3_1 t139).f0),.int .i64 ((rd_T30 x3_1 t139).f1)] 30 (0,0)) (bkk BK143) NB143_0.out (by simp));replace HK:=amk (KeepBut.trans (kkk1 HK GW143.out) hk (.inl rfl));replace HB:=amk (hb);replace HI0:=amk (hi);(try clear hb hk hi);have hnb85:=NB143_0.out;have hnc85:=NB0_143.out;have hcz86_0 : w84.cell? ⟨gb143,0,none⟩=some (.int .i64 ((rd_T30 x3_1 t139).f0)):=(blk_cell BK143.out 0).trans rfl;have hcz86_1 : w84.cell? ⟨gb143,1,none⟩=some (.int .i64 ((rd_T30 x3_1 t139).f1)):=(blk_cell BK143.out 1).trans rfl;have hfz86_0:=blk_frozen BK143.out 0;have hfz86_1:=blk_frozen BK143.out 1;have p82 : 0≤(t139 : Int):=of_decide_eq_true ass;have q82 : (t139 : Int) < ((x3_2.length : Int) : Int):=of_decide_eq_true ass;obtain ⟨go82,co82,eo82,gb82,gl82,cl82,HG82⟩:=Kd.R_form HO_3.out (by omega);(first | cases eo82 | (injection eo82 with ea_ en_ ec_;(first | subst ea_ | (injection ea_ with ea_;subst ea_));subst ec_;clear en_));have GB82:=amk gb82;have GG82:=amk HG82;clear gb82 gl82 HG82;obtain ⟨ce82,hcl82,hM82,hcc82,hfr82⟩:=Kd.R_elem HO_3.out z30 (t139 : Int) p82 q82;obtain rfl:=k30_openM hM82;have hx82_0 : w84.cell? ⟨go82,(t139 : Int).toNat * 2,none⟩=some (.int .i64 ((rd_T30 x3_2 t139).f0)):=hcc82 0 _ rfl;have hx82_1 : w84.cell? ⟨go82,(t139 : Int).toNat * 2 + 1,none⟩=some (.int .i64 ((rd_T30 x3_2 t139).f1)):=hcc82 1 _ rfl;have hf82_0 : w84.frozen? ⟨go82,(t139 : Int).toNat * 2,none⟩=false:=hfr82 0;have hf82_1 : w84.frozen? ⟨go82,(t139 : Int).toNat * 2 + 1,none⟩=false:=hfr82 1;((try clear hcl82);(try clear hcc82);(try clear hfr82);(try clear hM82));replace p82:=eq_true p82;replace q82:=eq_true q82;have HX87:=amk (show Kd.R k30 30 w84 w.heap.size (fun k_=>k_ ≠ gb143) (.slice (some ⟨go82,0,none⟩) x3_2.length co83) x3_2 from (rrr HO_3));obtain ⟨ce87,hcl87,hM87,hcc87,hfr87⟩:=Kd.R_elem HX87.out z30 (t139 : Int) (of_decide_eq_true ass) (by have h_ : (t139 : Int) < ((x3_2.length : Int) : Int):=of_decide_eq_true ass;first | exact h_ | (have e_:=(Kd.R_reads' HO_3.out).1;omega) | simpa using h_);obtain rfl:=k30_openM hM87;have HP87:=Kd.R_seg HX87.out (t139 : Int) (of_decide_eq_true ass) (by have h_ : (t139 : Int) < ((x3_2.length : Int) : Int):=of_decide_eq_true ass;first | exact h_ | (have e_:=(Kd.R_reads' HO_3.out).1;omega) | simpa using h_) (seg:=[.int .i64 ((rd_T30 x3_1 t139).f0),.int .i64 ((rd_T30 x3_1 t139).f1)]) (j:=0) hcl87 hcc87 (show 2≤2 from by decide) (x':=(⟨((rd_T30 x3_1 t139).f0),((rd_T30 x3_1 t139).f1)⟩ : S30)) (k30_mkM _ _ _ (⟨((rd_T30 x3_1 t139).f0),((rd_T30 x3_1 t139).f1)⟩ : S30)) (fun _ hk=>hk);have hx87_0:=hcc87 0 _ rfl;(try simp only [show (k30).sz=2 from rfl,Nat.mul_one,Nat.add_zero] at hx87_0);have hf87_0:=hfr87 0;(try simp only [show (k30).sz=2 from rfl,Nat.mul_one,Nat.add_zero] at hf87_0);have hx87_1:=hcc87 1 _ rfl;(try simp only [show (k30).sz=2 from rfl,Nat.mul_one,Nat.add_zero] at hx87_1);have hf87_1:=hfr87 1;(try simp only [show (k30).sz=2 from rfl,Nat.mul_one,Nat.add_zero] at hf87_1);((try clear hcl87);(try clear hcc87);(try clear hfr87);(try clear hM87)))|((with_reducible refine gate_store (t:=30) (p:=79) rfl ?_);refine store_event (t:=30) (p:=79) (v:=?vo_w88) (w1:=((w84.setCell ⟨go82,(t139 : Int).toNat * 2,none⟩ (.int .i64 ((rd_T30 x3_1 t139).f0))).setCell ⟨go82,(t139 : Int).toNat * 2 + 1,none⟩ (.int .i64 ((rd_T30 x3_1 t139).f1)))) ?hg ?ho ?hn ?hr ?_;(case ho=>rfl);(case hg=>rfl);(case hn=>rfl);(case hr=>first | (go_simp;done)|(go_simp;rfl));intro w88 hw;have hg : w84.grownBy w88 (some go82):=(by rw [hw];exact HP87.2);have hp_ : Kd.R k30 30 w88 w.heap.size (fun k_=>k_ ≠ gb143) (.slice (some ⟨go82,0,none⟩) x3_2.length co83) y168:=(by rw [hw,Ny168.out];exact HP87.1);clear HP87;replace BK143:=amk (blk_grown (g:=gb143) (o:=.cells #[.int .i64 ((rd_T30 x3_1 t139).f0),.int .i64 ((rd_T30 x3_1 t139).f1)] 30 (0,0)) (bkk BK143) hg (Kd.R_away HO_3.out (fun _ hk=>hk)));replace HI0:=amk (IsS77.grown (i77_1 HI0 NB0_143.out) hg (IsS77.own_ne HI0.out HO_3.out (by decide)));replace HB:=amk ((by rw [hw];exact below_set (below_set (HB.out) (Nat.le_trans HL.out GB82.out)) (Nat.le_trans HL.out GB82.out) : Below w0.heap.size w0 w88));replace HK:=amk (KeepBut.trans (kkk1 HK GW143.out) (KeepBut.of_grown hg g) (Kd.R_base2 HO_3.out));replace HO_3:=amk (hp_);clear hg hw hp_))
               go_ret
               exact ⟨_,erw0,by (with_reducible repeat (first | apply Kd.R_alloc | apply Kd.R_drewN | apply Kd.R_drew));exact Kd.R_mono HO_3.out (fun _ hk=>trivial),i77_1 HI0 NB0_143.out,bel2 HB (IsS77.ge HI0.out) GE143.out,kkk1 HK GW143.out⟩
              ·rw [if_neg c81] at H
               exact absurd H (by simp)
             ·rw [if_neg c80] at H
              exact absurd H (by simp)
         ·rw [if_neg c67] at H
          have c67b0 : (t144 == 2)=false:=beq_eq_false_iff_ne.mpr c67
          have c67b1 : (t144 != 2)=true:=bne_iff_ne.mpr c67
          obtain ⟨y169,hy169⟩ : ∃ y_ : List (S30),y_=(x3_1.set (t139 : Int).toNat (⟨(rd_T30 x3_1 t139).f0,(rd_T30 x3_1 t139).f1⟩ : S30)):=⟨_,rfl⟩
          replace H : (some (y169,t145,t146))=some (r1,r2,r3):=by first | (rw [hy169];with_reducible exact H)|(have H2_:=(Option.bind_some _ _).symm.trans H;rw [hy169];with_reducible exact H2_)|(have H2_:=(Option.bind_some _ _).symm.trans H;with_reducible exact H2_) | with_reducible exact H | (rw [hy169];exact H) | exact H
          have Ny169:=amk hy169
          clear hy169
          simp only [Option.some.injEq,Prod.mk.injEq] at H
          obtain ⟨rfl,rfl,rfl⟩:=H
          obtain ⟨Ao90,co90,eo90⟩:=Kd.R_slice HO_3.out
          subst eo90
          go_wp2_with (first | ((with_reducible refine gate_callee (f:=81) rfl ?_);refine goesL_ (some 38) rfl rfl Try.func81 (by kernel_rfl) rfl #[.pointer (some ⟨g,0,none⟩),.int .i64 (x3_1.length : Int)] rfl mtt ?_;(with_reducible refine (spec_l1Cur_pick.calls g s0_0 x1001_1 x1002_1 (x3_1.length : Int) t139 t140 t141 w0 _ ?side1 ?side2 A26.out).mono ?_);(case side1=>exact i77_0 HI0);(case side2=>exact bel1 HB (IsS77.ge HI0.out));rintro e w91 ⟨rfl,hi,hb,hk⟩;refine ⟨_,rfl,?_⟩;replace HO_3:=amk (Kd.R_mono (Kd.R_keep (IsS77.apart (show IsS77 w0 _ g s0_0 x1001_1 x1002_1 from by exact i77_0 HI0) (rrr HO_3) (by decide)) hk (fun _ h=>h.2)) (fun _ h=>h.1));replace HK:=amk (KeepBut.trans (kkk HK) hk (.inl rfl));replace HB:=amk (hb);replace HI0:=amk (hi);(try clear hb hk hi);have p142 : 0≤(t139 : Int):=of_decide_eq_true ass;have q142 : t139 < (x3_1.length : Int):=of_decide_eq_true ass;obtain ⟨ad142,e142,hx142_0,hx142_1⟩:=at_T30 (Kd.R_reads' HO_3.out).2.2 t139 p142 q142;cases e142;replace p142:=eq_true p142;replace q142:=eq_true q142)|((with_reducible refine gate_dst (N:=7) rfl ?_);refine box_event ?hg (N:=7) ?hd (cs:=#[.int .i64 0,.int .i64 0]) (t:=30) ?hr ?_;(case hd=>rfl);(case hg=>rfl);(case hr=>first | (go_simp;done)|(go_simp;rfl));intro gb143 hg w92 hbox hb;replace HO_3:=amk (Kd.R_below (Kd.R_elderB (rrr HO_3) gb143 (Nat.le_of_eq hg.symm)) hb);replace HB:=amk (below_step (bel1 HB (IsS77.ge HI0.out)) hb);have BK143:=amk (hbox);have GW143:=amk ((by rw [hg];exact (keep_size (w:=w) (g:=g) (row:=none) (kkk HK)) : w.heap.size≤gb143));have GE143:=amk ((Nat.le_trans HW0.out (by rw [hg];exact (keep_size (w:=w) (g:=g) (row:=none) (kkk HK)) : w.heap.size≤gb143) : w0.heap.size≤gb143));replace HK:=amk (KeepBut.trans (kkk HK) (KeepBut.of_below hb g none) (.inl rfl));have NB0_143:=amk ((by rw [hg];exact Nat.ne_of_lt (IsS77.lt (show IsS77 w0 _ g s0_0 t140 t141 from by exact i77_0 HI0)) : g ≠ gb143));have NB143_0:=amk ((by rw [hg];exact Nat.ne_of_gt (IsS77.lt (show IsS77 w0 _ g s0_0 t140 t141 from by exact i77_0 HI0)) : gb143 ≠ g));replace HI0:=amk (IsS77.below (i77_0 HI0) hb);clear hb hbox hg;have hnb93:=NB143_0.out;have hnc93:=NB0_143.out;have hcz94_0 : w92.cell? ⟨gb143,0,none⟩=some (.int .i64 0):=(blk_cell BK143.out 0).trans rfl;have hcz94_1 : w92.cell? ⟨gb143,1,none⟩=some (.int .i64 0):=(blk_cell BK143.out 1).trans rfl;have hfz94_0:=blk_frozen BK143.out 0;have hfz94_1:=blk_frozen BK143.out 1)|((with_reducible refine gate_callee (f:=81) rfl ?_);refine goesL_ (some 44) rfl rfl Try.func81 (by kernel_rfl) rfl #[.pointer (some ⟨g,0,none⟩),.int .i64 50] rfl mtt ?_;(with_reducible refine (spec_l1Cur_pick.calls g s0_0 t140 t141 50 t144 t145 t146 w0 _ ?side1 ?side2 A29.out).mono ?_);(case side1=>exact i77_1 HI0 NB0_143.out);(case side2=>exact bel2 HB (IsS77.ge HI0.out) GE143.out);rintro e w95 ⟨rfl,hi,hb,hk⟩;refine ⟨_,rfl,?_⟩;have n0_:=amk (Kd.R_mono (Kd.R_keep (IsS77.apart (show IsS77 w0 _ g s0_0 t140 t141 from by exact i77_1 HI0 NB0_143.out) (by (with_reducible repeat (first | apply Kd.R_alloc | apply Kd.R_drewN | apply Kd.R_drew));exact (Kd.R_mono (Kd.R_far (p:=⟨gb143,1,none⟩) (Kd.R_far (p:=⟨gb143,0,none⟩) (Kd.R_mono HO_3.out (fun k_ hk=>(⟨hk,hk.2⟩ : _∧k_ ≠ gb143))) (fun _ hk=>hk.2) (.int .i64 ((rd_T30 x3_1 t139).f0))) (fun _ hk=>hk.2) (.int .i64 ((rd_T30 x3_1 t139).f1))) (fun _ h_=>h_.1))) (by decide)) hk (fun _ h=>h.2)) (fun _ h=>h.1));have n1_:=amk (KeepBut.blk hk (g':=gb143) (o:=.cells #[.int .i64 ((rd_T30 x3_1 t139).f0),.int .i64 ((rd_T30 x3_1 t139).f1)] 30 (0,0)) (by (with_reducible repeat (first | refine blk_drewN ?_ _ | refine blk_drew ?_ | refine blk_alloc ?_ _));refine blk_put (cs:=#[.int .i64 ((rd_T30 x3_1 t139).f0),.int .i64 0]) ?_ 1 _ rfl;(with_reducible repeat (first | refine blk_drewN ?_ _ | refine blk_drew ?_ | refine blk_alloc ?_ _));refine blk_put (cs:=#[.int .i64 0,.int .i64 0]) ?_ 0 _ rfl;(with_reducible repeat (first | refine blk_drewN ?_ _ | refine blk_drew ?_ | refine blk_alloc ?_ _));exact BK143.out) NB143_0.out (by simp));have n2_:=amk (KeepBut.trans (kkk1 HK GW143.out) hk (.inl rfl));have n3_:=amk (hb);have n4_:=amk (hi);clear HO_3;clear BK143;clear HK;clear HB;clear HI0;have HO_3:=n0_;have BK143:=n1_;have HK:=n2_;have HB:=n3_;have HI0:=n4_;clear n0_ n1_ n2_ n3_ n4_;(try clear hb hk hi);have hcz96_0 : w95.cell? ⟨gb143,0,none⟩=some (.int .i64 ((rd_T30 x3_1 t139).f0)):=(blk_cell BK143.out 0).trans rfl;have hcz96_1 : w95.cell? ⟨gb143,1,none⟩=some (.int .i64 ((rd_T30 x3_1 t139).f1)):=(blk_cell BK143.out 1).trans rfl;have hfz96_0:=blk_frozen BK143.out 0;have hfz96_1:=blk_frozen BK143.out 1;have p89 : 0≤(t139 : Int):=of_decide_eq_true ass;have q89 : (t139 : Int) < ((x3_1.length : Int) : Int):=of_decide_eq_true ass;obtain ⟨go89,co89,eo89,gb89,gl89,cl89,HG89⟩:=Kd.R_form HO_3.out (by omega);(first | cases eo89 | (injection eo89 with ea_ en_ ec_;(first | subst ea_ | (injection ea_ with ea_;subst ea_));subst ec_;clear en_));have GB89:=amk gb89;have GG89:=amk HG89;clear gb89 gl89 HG89;(first | simp only [add_plain] at hx142_0 | skip);(first | simp only [add_plain] at hx142_1 | skip);obtain ⟨ce89,hcl89,hM89,hcc89,hfr89⟩:=Kd.R_elem HO_3.out z30 (t139 : Int) p89 q89;obtain rfl:=k30_openM hM89;have hx89_0 : w95.cell? ⟨go89,(t139 : Int).toNat * 2,none⟩=some (.int .i64 ((rd_T30 x3_1 t139).f0)):=hcc89 0 _ rfl;have hx89_1 : w95.cell? ⟨go89,(t139 : Int).toNat * 2 + 1,none⟩=some (.int .i64 ((rd_T30 x3_1 t139).f1)):=hcc89 1 _ rfl;have hf89_0 : w95.frozen? ⟨go89,(t139 : Int).toNat * 2,none⟩=false:=hfr89 0;have hf89_1 : w95.frozen? ⟨go89,(t139 : Int).toNat * 2 + 1,none⟩=false:=hfr89 1;((try clear hcl89);(try clear hcc89);(try clear hfr89);(try clear hM89));replace p89:=eq_true p89;replace q89:=eq_true q89;have n_:=amk (Kd.R_mono (ok':=(fun k_=>k_ ≠ gb143)) HO_3.out (fun k_ hk=>hk.2));clear HO_3;have HO_3:=n_;clear n_;have HX97:=amk (show Kd.R k30 30 w95 w.heap.size (fun k_=>k_ ≠ gb143) (.slice (some ⟨go89,0,none⟩) x3_1.length co90) x3_1 from (rrr HO_3));obtain ⟨ce97,hcl97,hM97,hcc97,hfr97⟩:=Kd.R_elem HX97.out z30 (t139 : Int) (of_decide_eq_true ass) (by have h_ : (t139 : Int) < ((x3_1.length : Int) : Int):=of_decide_eq_true ass;first | exact h_ | (have e_:=(Kd.R_reads' HO_3.out).1;omega) | simpa using h_);obtain rfl:=k30_openM hM97;have HP97:=Kd.R_seg HX97.out (t139 : Int) (of_decide_eq_true ass) (by have h_ : (t139 : Int) < ((x3_1.length : Int) : Int):=of_decide_eq_true ass;first | exact h_ | (have e_:=(Kd.R_reads' HO_3.out).1;omega) | simpa using h_) (seg:=[.int .i64 ((rd_T30 x3_1 t139).f0),.int .i64 ((rd_T30 x3_1 t139).f1)]) (j:=0) hcl97 hcc97 (show 2≤2 from by decide) (x':=(⟨(rd_T30 x3_1 t139).f0,(rd_T30 x3_1 t139).f1⟩ : S30)) (k30_mkM _ _ _ (⟨(rd_T30 x3_1 t139).f0,(rd_T30 x3_1 t139).f1⟩ : S30)) (fun _ hk=>hk);have hx97_0:=hcc97 0 _ rfl;(try simp only [show (k30).sz=2 from rfl,Nat.mul_one,Nat.add_zero] at hx97_0);have hf97_0:=hfr97 0;(try simp only [show (k30).sz=2 from rfl,Nat.mul_one,Nat.add_zero] at hf97_0);have hx97_1:=hcc97 1 _ rfl;(try simp only [show (k30).sz=2 from rfl,Nat.mul_one,Nat.add_zero] at hx97_1);have hf97_1:=hfr97 1;(try simp only [show (k30).sz=2 from rfl,Nat.mul_one,Nat.add_zero] at hf97_1);((try clear hcl97);(try clear hcc97);(try clear hfr97);(try clear hM97)))|((with_reducible refine gate_store (t:=30) (p:=79) rfl ?_);refine store_event (t:=30) (p:=79) (v:=?vo_w98) (w1:=((w95.setCell ⟨go89,(t139 : Int).toNat * 2,none⟩ (.int .i64 ((rd_T30 x3_1 t139).f0))).setCell ⟨go89,(t139 : Int).toNat * 2 + 1,none⟩ (.int .i64 ((rd_T30 x3_1 t139).f1)))) ?hg ?ho ?hn ?hr ?_;(case ho=>rfl);(case hg=>rfl);(case hn=>rfl);(case hr=>first | (go_simp;done)|(go_simp;rfl));intro w98 hw;have hg : w95.grownBy w98 (some go89):=(by rw [hw];exact HP97.2);have hp_ : Kd.R k30 30 w98 w.heap.size (fun k_=>k_ ≠ gb143) (.slice (some ⟨go89,0,none⟩) x3_1.length co90) y169:=(by rw [hw,Ny169.out];exact HP97.1);clear HP97;replace HI0:=amk (IsS77.grown (i77_1 HI0 NB0_143.out) hg (IsS77.own_ne HI0.out HO_3.out (by decide)));replace BK143:=amk (blk_grown (g:=gb143) (o:=.cells #[.int .i64 ((rd_T30 x3_1 t139).f0),.int .i64 ((rd_T30 x3_1 t139).f1)] 30 (0,0)) (bkk BK143) hg (Kd.R_away HO_3.out (fun _ hk=>hk)));replace HB:=amk ((by rw [hw];exact below_set (below_set (HB.out) (Nat.le_trans HL.out GB89.out)) (Nat.le_trans HL.out GB89.out) : Below w0.heap.size w0 w98));replace HK:=amk (KeepBut.trans (kkk1 HK GW143.out) (KeepBut.of_grown hg g) (Kd.R_base2 HO_3.out));replace HO_3:=amk (hp_);clear hg hw hp_))
          go_ret
          exact ⟨_,erw0,by (with_reducible repeat (first | apply Kd.R_alloc | apply Kd.R_drewN | apply Kd.R_drew));exact Kd.R_mono HO_3.out (fun _ hk=>trivial),i77_1 HI0 NB0_143.out,bel2 HB (IsS77.ge HI0.out) GE143.out,kkk1 HK GW143.out⟩
      ·rw [if_neg c28] at H
       exact absurd H (by simp)
     ·rw [if_neg c27] at H
      exact absurd H (by simp)
def spec_l1Cur_one.f (s0_0 : List Int) (s0_1 : Int) (s0_2 : Int) (a1 : Int) : Option (Bool × Int × Int):=(spec_l1Cur_pick.f s0_0 s0_1 s0_2 a1).bind fun bt170=>(some ((bt170.1 == 0),bt170.2.1,bt170.2.2))
set_option maxHeartbeats 8000000 in
set_option maxRecDepth 100000 in
theorem spec_l1Cur_one.calls (g : Nat) (s0_0 : List Int) (s0_1 : Int) (s0_2 : Int) (a1 : Int) (r1 : Bool) (r2 : Int) (r3 : Int) (w0 w : World) (hI : IsS77 w0 w g s0_0 s0_1 s0_2) (hB : Below w0.heap.size w0 w) (h : spec_l1Cur_one.f s0_0 s0_1 s0_2 a1=some (r1,r2,r3)) :
  Calls Try.prog 84 #[.pointer (some ⟨g,0,none⟩),.int .i64 a1] w fun e w'=>e = .returned (.bool r1)∧IsS77 w0 w' g s0_0 r2 r3∧Below w0.heap.size w0 w'∧KeepBut w w' g none:=by
 have HI0:=amk hI
 have HK:=amk (KeepBut.refl w g none)
 have HL:=amk hB.size
 clear hI
 have HW0:=amk hB.size
 have HB:=amk hB
 clear hB
 have H : ((spec_l1Cur_pick.f s0_0 s0_1 s0_2 a1).bind fun bt170=>(some ((bt170.1 == 0),bt170.2.1,bt170.2.2)))=some (r1,r2,r3):=h
 clear h
 replace H:=obs H
 obtain ⟨⟨t170,t171,t172⟩,A30,H⟩:=H
 replace H : (some ((t170 == 0),t171,t172))=some (r1,r2,r3):=H
 have A3:=amk A30
 clear A30
 simp only [Option.some.injEq,Prod.mk.injEq] at H
 obtain ⟨rfl,rfl,rfl⟩:=H
 go_enter Try.func84,Try.ntmps84
 go_wp2_with (first | ((with_reducible refine gate_callee (f:=81) rfl ?_);refine goesL_ (some 7) rfl rfl Try.func81 (by kernel_rfl) rfl #[.pointer (some ⟨g,0,none⟩),.int .i64 a1] rfl mtt ?_;(with_reducible refine (spec_l1Cur_pick.calls g s0_0 s0_1 s0_2 a1 t170 t171 t172 w0 _ ?side1 ?side2 A3.out).mono ?_);(case side1=>exact i77_0 HI0);(case side2=>exact bel1 HB (IsS77.ge HI0.out));rintro e w4 ⟨rfl,hi,hb,hk⟩;refine ⟨_,rfl,?_⟩;replace HK:=amk (KeepBut.trans (kkk HK) hk (.inl rfl));replace HB:=amk (hb);replace HI0:=amk (hi);(try clear hb hk hi)))
 go_ret
 exact ⟨erw0,i77_0 HI0,bel1 HB (IsS77.ge HI0.out),kkk HK⟩
def spec_l1Cur_hour23.j0 : Nat→List (S30)→Bool→List Int→Int→Int→Option (Int × Int × Int)
 | 0,_,_,_,_,_=>none
 | k + 1,x1,x12,x1000,x1001,x1002=>if x12=true then ((spec_l1Cur_pick.f x1000 x1001 x1002 (x1.length : Int)).bind fun bt176=>(if 0≤bt176.1 then (if bt176.1 < (x1.length : Int) then ((spec_l1Cur_among.f x1000 bt176.2.1 bt176.2.2 (([0,1,2,(-1)] : List Int))).bind fun bt183=>(some (wrap64 (((rd_T30 x1 bt176.1).f0) + bt183.1),bt183.2.1,bt183.2.2))) else (none)) else (none))) else ((spec_l1Cur_among.f x1000 x1001 x1002 (([0,6,905,999,(-1),1000] : List Int))).bind fun bt189=>(some (bt189.1,bt189.2.1,bt189.2.2)))
def spec_l1Cur_hour23.f (k : Nat) (s0_0 : List Int) (s0_1 : Int) (s0_2 : Int) (l1 : List (S30)) : Option (Int × Int × Int):=if (l1.length : Int) > 0 then ((spec_l1Cur_one.f s0_0 s0_1 s0_2 4).bind fun bt173=>(spec_l1Cur_hour23.j0 k l1 (!bt173.1) s0_0 bt173.2.1 bt173.2.2)) else (spec_l1Cur_hour23.j0 k l1 false s0_0 s0_1 s0_2)
theorem spec_l1Cur_hour23.mono_l : ∀ k,(∀ y0 y1 y2 y3 y4,LeO (spec_l1Cur_hour23.j0 k y0 y1 y2 y3 y4) (spec_l1Cur_hour23.j0 (k + 1) y0 y1 y2 y3 y4))
 | 0=>fun _ _ _ _ _ r h=>by simp [spec_l1Cur_hour23.j0] at h
 | k + 1=>by
  have ih0:=spec_l1Cur_hour23.mono_l k
  ·intro y0 y1 y2 y3 y4
   unfold spec_l1Cur_hour23.j0
   repeat' first
   | (with_reducible exact ih0 _ _ _ _ _)
   | (with_reducible exact LeO.refl _)
   | (with_reducible exact LeO.none _)
   | (with_reducible refine LeO.ite ?_ ?_)
   | (with_reducible refine LeO.bind ?_ (fun _=>?_))
   | exact ih0 _ _ _ _ _
theorem spec_l1Cur_hour23.mono : ∀ a0 a1 a2 a3 k,LeO (spec_l1Cur_hour23.f k a0 a1 a2 a3) (spec_l1Cur_hour23.f (k + 1) a0 a1 a2 a3):=by
 intro a0 a1 a2 a3 k
 have ih0:=spec_l1Cur_hour23.mono_l k
 unfold spec_l1Cur_hour23.f
 repeat' first
   | (with_reducible exact ih0 _ _ _ _ _)
   | (with_reducible exact LeO.refl _)
   | (with_reducible exact LeO.none _)
   | (with_reducible refine LeO.ite ?_ ?_)
   | (with_reducible refine LeO.bind ?_ (fun _=>?_))
   | exact ih0 _ _ _ _ _
def spec_l1Cur_hour23.T2 : Bool × List (List Nat × List Nat):=(true,[([],[]),([],[]),([],[]),([2],[2]),([1,3],[1,3]),([0,4],[0,4]),([5],[5]),([6],[6]),([],[]),([],[]),([8,9,4],[8,9]),([7,10],[7,10]),([11,10,0,1,2,3,4,5,6,7,8,9,10,11],[11])])
def spec_l1Cur_hour23.B2 : List Nat:=[0,0,0,4,14,31,63,127,0,0,798,2047,4095]
theorem spec_l1Cur_hour23.tab2 : rtab .any (opsOf Try.f48 2)=spec_l1Cur_hour23.T2:=by kernel_rfl
theorem spec_l1Cur_hour23.bits2 : waitsOk spec_l1Cur_hour23.T2.2 spec_l1Cur_hour23.B2=true:=by kernel_rfl
set_option maxHeartbeats 8000000 in
set_option maxRecDepth 100000 in
theorem spec_l1Cur_hour23.calls (k : Nat) (g : Nat) (s0_0 : List Int) (s0_1 : Int) (s0_2 : Int) (A1 : Option Addr) (c1 : Nat) (l1 : List (S30)) (r1 : Int) (r2 : Int) (r3 : Int) (w0 w : World) (hI : IsS77 w0 w g s0_0 s0_1 s0_2) (hB : Below w0.heap.size w0 w) (hr1 : ∀ W_,KeepBut w W_ g none→Kd.C k30 W_ A1 l1.length l1) (hc1 : l1.length≤c1) (h : spec_l1Cur_hour23.f k s0_0 s0_1 s0_2 l1=some (r1,r2,r3)) :
  Calls Try.prog 48 #[.pointer (some ⟨g,0,none⟩),.slice A1 l1.length c1] w fun e w'=>e = .returned (.int .i64 r1)∧IsS77 w0 w' g s0_0 r2 r3∧Below w0.heap.size w0 w'∧KeepBut w w' g none:=by
 have HR1:=amk hr1
 have HC1:=amk hc1
 clear hr1 hc1
 have HI0:=amk hI
 have HK:=amk (KeepBut.refl w g none)
 have HL:=amk hB.size
 clear hI
 have HW0:=amk hB.size
 have HB:=amk hB
 clear hB
 have H : (if (l1.length : Int) > 0 then ((spec_l1Cur_one.f s0_0 s0_1 s0_2 4).bind fun bt173=>(spec_l1Cur_hour23.j0 k l1 (!bt173.1) s0_0 bt173.2.1 bt173.2.2)) else (spec_l1Cur_hour23.j0 k l1 false s0_0 s0_1 s0_2))=some (r1,r2,r3):=h
 clear h
 have HC3:=amk H
 clear H
 go_enter Try.func48,Try.ntmps48
 go_upto_region 1 with (fail)
 go_cut [12] (fun v12 wc=>∃ (kq : Nat) (x12_2 : Bool) (x1001_2 : Int) (x1002_2 : Int),v12 = .bool x12_2∧Aside0 (spec_l1Cur_hour23.j0 kq l1 x12_2 s0_0 x1001_2 x1002_2=some (r1,r2,r3))∧Aside0 (kq≤k)∧Aside0 (IsS77 w0 wc g s0_0 x1001_2 x1002_2)∧Aside0 (KeepBut w wc g none)∧Aside0 (Below w0.heap.size w0 wc))
 case first=>
  have H:=HC3.out
  clear HC3
  by_cases c4 : (l1.length : Int) > 0
  ·rw [if_pos c4] at H
   have c4b0 : decide (0 < (l1.length : Int))=true:=decide_eq_true c4
   have c4b1 : decide (0 < l1.length)=true:=decide_eq_true (by omega)
   clear c4
   (first | rw [c4b0] | (simp only [i64_w,i32_w];rw [c4b0]) | skip)
   replace H:=obs H
   obtain ⟨⟨t173,t174,t175⟩,A50,H⟩:=H
   replace H : (spec_l1Cur_hour23.j0 k l1 (!t173) s0_0 t174 t175)=some (r1,r2,r3):=H
   have A5:=amk A50
   clear A50
   have H':=amk H
   clear H
   go_wp2_with (first | (go_at_call 84;(with_reducible refine (spec_l1Cur_one.calls g s0_0 s0_1 s0_2 4 t173 t174 t175 w0 _ ?side1 ?side2 A5.out).mono ?_);(case side1=>exact i77_0 HI0);(case side2=>exact bel1 HB (IsS77.ge HI0.out));rintro e w6 ⟨rfl,hi,hb,hk⟩;replace HK:=amk (KeepBut.trans (kkk HK) hk (.inl rfl));replace HB:=amk (hb);replace HI0:=amk (hi);(try clear hb hk hi)))
   go_meet
   case rel=>exact ⟨_,(!t173),(t174),(t175),rsd,H',⟨by first | omega | exact Nat.le_refl _⟩,⟨i77_0 HI0⟩,⟨kkk HK⟩,⟨bel1 HB (IsS77.ge HI0.out)⟩⟩
  ·rw [if_neg c4] at H
   have c4b0 : decide (0 < (l1.length : Int))=false:=decide_eq_false c4
   have c4b1 : decide (0 < l1.length)=false:=decide_eq_false (by omega)
   clear c4
   (first | rw [c4b0] | (simp only [i64_w,i32_w];rw [c4b0]) | skip)
   have H':=amk H
   clear H
   go_wp2
   go_meet
   case rel=>exact ⟨_,(false),(s0_1),(s0_2),rsd,H',⟨by first | omega | exact Nat.le_refl _⟩,⟨i77_0 HI0⟩,⟨kkk HK⟩,⟨bel1 HB (IsS77.ge HI0.out)⟩⟩
 case rest=>
  clear HC3
  try clear c1
  try clear p2
  try clear c4
  try clear c4b0
  try clear c4b1
  obtain ⟨kq,x12_2,x1001_2,x1002_2,rfl,HA,HJ2,HI0,HK,HB⟩:=hcut
  cases kq with
  | zero=>exact absurd HA.out (by simp [spec_l1Cur_hour23.j0])
  | succ kj2=>
   have H:=HA.out
   clear HA
   simp only [spec_l1Cur_hour23.j0] at H
   by_cases c7 : x12_2=true
   ·subst c7
    have H1 : ((spec_l1Cur_pick.f s0_0 x1001_2 x1002_2 (l1.length : Int)).bind fun bt176=>(if 0≤bt176.1 then (if bt176.1 < (l1.length : Int) then ((spec_l1Cur_among.f s0_0 bt176.2.1 bt176.2.2 (([0,1,2,(-1)] : List Int))).bind fun bt183=>(some (wrap64 (((rd_T30 l1 bt176.1).f0) + bt183.1),bt183.2.1,bt183.2.2))) else (none)) else (none)))=some (r1,r2,r3):=by rw [if_pos rfl] at H;exact H
    clear H
    have H:=H1
    clear H1
    replace H:=obs H
    obtain ⟨⟨t176,t177,t178⟩,A80,H⟩:=H
    replace H : (if 0≤t176 then (if t176 < (l1.length : Int) then ((spec_l1Cur_among.f s0_0 t177 t178 (([0,1,2,(-1)] : List Int))).bind fun bt183=>(some (wrap64 (((rd_T30 l1 t176).f0) + bt183.1),bt183.2.1,bt183.2.2))) else (none)) else (none))=some (r1,r2,r3):=H
    have A8:=amk A80
    clear A80
    by_cases c9 : 0≤t176
    ·rw [if_pos c9] at H
     have c9b0 : decide (0≤t176)=true:=decide_eq_true c9
     clear c9
     by_cases c10 : t176 < (l1.length : Int)
     ·rw [if_pos c10] at H
      have c10b0 : decide (t176 < (l1.length : Int))=true:=decide_eq_true c10
      clear c10
      obtain ⟨y180,hy180⟩ : ∃ y_ : List Int,y_=(([0,1,2,(-1)] : List Int)):=⟨_,rfl⟩
      replace H : ((spec_l1Cur_among.f s0_0 t177 t178 y180).bind fun bt183=>(some (wrap64 (((rd_T30 l1 t176).f0) + bt183.1),bt183.2.1,bt183.2.2)))=some (r1,r2,r3):=by first | (rw [hy180];with_reducible exact H)|(have H2_:=(Option.bind_some _ _).symm.trans H;rw [hy180];with_reducible exact H2_)|(have H2_:=(Option.bind_some _ _).symm.trans H;with_reducible exact H2_) | with_reducible exact H | (rw [hy180];exact H) | exact H
      have Ny180:=amk hy180
      clear hy180
      replace H:=obs H
      obtain ⟨⟨t183,t184,t185⟩,A110,H⟩:=H
      replace H : (some (wrap64 (((rd_T30 l1 t176).f0) + t183),t184,t185))=some (r1,r2,r3):=H
      have A11:=amk A110
      clear A110
      simp only [Option.some.injEq,Prod.mk.injEq] at H
      obtain ⟨rfl,rfl,rfl⟩:=H
      try go_wp2
      have n0_:=amk (IsS77.drew HI0.out)
      have n1_:=amk (keep_drew HK.out)
      have n2_:=amk (below_drew1 HB.out)
      clear HI0
      clear HK
      clear HB
      have HI0:=n0_
      have HK:=n1_
      have HB:=n2_
      clear n0_ n1_ n2_
      have p179 : 0≤(t176 : Int):=of_decide_eq_true ass
      have q179 : t176 < (l1.length : Int):=of_decide_eq_true ass
      obtain ⟨ad179,e179,hx179_0,hx179_1⟩:=at_T30 (Kd.C_foot_now HR1.out HK.out) t176 p179 q179
      have hw179_1:=hx179_1
      have hw179_0:=hx179_0
      cases e179
      have hne179_1:=(show (⟨(ad179.add ((t176).toNat * 2)).block,(ad179.add ((t176).toNat * 2)).off + 1,none⟩ : Addr).block ≠ g from by first | (rw [add_block];exact Kd.foot_ne HR1.out (by omega) (by decide))|(show (Addr.add _ _).block ≠ _;rw [add_block];exact Kd.foot_ne HR1.out (by omega) (by decide)) | exact Kd.foot_ne HR1.out (by omega) (by decide)|(dsimp only;exact Kd.foot_ne HR1.out (by omega) (by decide)))
      have hlt179_1:=(Kd.foot_lt HR1.out (by omega) (by decide))
      have hne179_0:=(show ((ad179.add ((t176).toNat * 2)) : Addr).block ≠ g from by first | (rw [add_block];exact Kd.foot_ne HR1.out (by omega) (by decide))|(show (Addr.add _ _).block ≠ _;rw [add_block];exact Kd.foot_ne HR1.out (by omega) (by decide)) | exact Kd.foot_ne HR1.out (by omega) (by decide)|(dsimp only;exact Kd.foot_ne HR1.out (by omega) (by decide)))
      have hlt179_0:=(Kd.foot_lt HR1.out (by omega) (by decide))
      replace p179:=eq_true p179
      replace q179:=eq_true q179
      refine start_ (n:=13) (S:=fun w'=>w'.cell? (ad179.add ((t176).toNat * 2))=some (.int .i64 ((rd_T30 l1 t176).f0))∧w'.cell? ⟨(ad179.add ((t176).toNat * 2)).block,(ad179.add ((t176).toNat * 2)).off + 1,none⟩=some (.int .i64 ((rd_T30 l1 t176).f1))) (ds:=[]) #[F0,F0,F0,F0,F0,F0,F0,F0,F0,F0,F0,F0,F0] (by kernel_rfl) rfl rfl ⟨hx179_0,hx179_1⟩ (fun hHeld=>?_);refine with_tabW spec_l1Cur_hour23.tab2 spec_l1Cur_hour23.bits2 (fun HT_ HW_=>?_)
      generalize wc.drew=w12 at HI0 HK HB hx179_0 hx179_1 hHeld ⊢
      refine pure_ (i:=0) (N:=some 13) (v:=?_) (a':=?_) #[T0,F0,F0,F0,F0,F0,F0,F0,F0,F0,F0,F0,F0] rfl rfl (any_of HT_.out (by kernel_rfl)) (fun _ _ _ h=>h) (Or.inl ⟨by rfl,?_⟩) ?_ ?_
      rotate_left
      ·intro w'
       go_simp
       with_reducible rfl
      rotate_left
      ·simp only [Act.put,sI,sZ,sS,i64_w,i32_w]
       rfl
      refine pure_ (i:=1) (N:=some 14) (v:=?_) (a':=?_) #[T0,T0,F0,F0,F0,F0,F0,F0,F0,F0,F0,F0,F0] rfl rfl (any_of HT_.out (by kernel_rfl)) (fun _ _ _ h=>h) (Or.inl ⟨by rfl,?_⟩) ?_ ?_
      rotate_left
      ·intro w'
       go_simp
       with_reducible rfl
      rotate_left
      ·simp only [Act.put,sI,sZ,sS,i64_w,i32_w]
       rfl
      refine pure_ (i:=2) (N:=some 15) (v:=?_) (a':=?_) #[T0,T0,T0,F0,F0,F0,F0,F0,F0,F0,F0,F0,F0] rfl rfl (any_of HT_.out (by kernel_rfl)) (fun _ _ _ h=>h) (Or.inl ⟨by rfl,?_⟩) ?_ ?_
      rotate_left
      ·intro w'
       go_simp
       with_reducible rfl
      rotate_left
      ·simp only [Act.put,sI,sZ,sS,i64_w,i32_w]
       rfl
      refine pure_ (i:=3) (N:=some 16) (v:=?_) (a':=?_) #[T0,T0,T0,T0,F0,F0,F0,F0,F0,F0,F0,F0,F0] rfl rfl (any_of HT_.out (by kernel_rfl)) (fun _ _ _ h=>h) (Or.inl ⟨by rfl,?_⟩) ?_ ?_
      rotate_left
      ·intro w'
       go_simp
       with_reducible rfl
      rotate_left
      ·simp only [Act.put,sI,sZ,sS,i64_w,i32_w]
       rfl
      refine pure_ (i:=8) (N:=some 21) (v:=?_) (a':=?_) #[T0,T0,T0,T0,F0,F0,F0,F0,T0,F0,F0,F0,F0] rfl rfl (any_of HT_.out (by kernel_rfl)) (fun _ _ _ h=>h) (Or.inl ⟨by rfl,?_⟩) ?_ ?_
      rotate_left
      ·intro w'
       go_simp
       with_reducible rfl
      rotate_left
      ·simp only [Act.put,sI,sZ,sS,i64_w,i32_w]
       rfl
      refine join_ (σ:=Value) 3 #[T0,T0,T0,T0,T0,T0,T0,T0,T0,T0,F0,F0,F0] (fun s_=>[(17,.int .i64 t176),(22,s_),(18,.pointer (some (ad179.add ((t176).toNat * 2)))),(19,.pointer (some (ad179.add ((t176).toNat * 2)))),(20,.int .i64 ((rd_T30 l1 t176).f0))]) (fun s_ w'=>(w'.cell? (ad179.add ((t176).toNat * 2))=some (.int .i64 ((rd_T30 l1 t176).f0))∧w'.cell? ⟨(ad179.add ((t176).toNat * 2)).block,(ad179.add ((t176).toNat * 2)).off + 1,none⟩=some (.int .i64 ((rd_T30 l1 t176).f1)))∧(Kd.R (Kd.int .i64) 3 w' w.heap.size (fun _=>True) s_ y180)∧(IsS77 w0 w' g s0_0 t177 t178)∧(KeepBut w w' g none)∧(Below w0.heap.size w0 w')) ?_ ?_
      rotate_left
      ·intro hCont
       refine two_ (i:=4) (j:=9) (Ni:=some 17) (Nj:=some 22) #[T0,T0,T0,T0,T0,F0,F0,F0,T0,F0,F0,F0,F0] #[T0,T0,T0,T0,F0,F0,F0,F0,T0,T0,F0,F0,F0] rfl rfl rfl rfl (two_of HT_.out (by kernel_rfl)) (by decide) (by decide) (fun K hK=>?_) (fun K hK=>?_)
       ·skip
        refine goes_ Try.func81 (by kernel_rfl) rfl #[.pointer (some ⟨g,0,none⟩),.int .i64 (l1.length : Int)] (by rfl) rfl rfl mtt ?_
        with_reducible refine (spec_l1Cur_pick.calls g s0_0 x1001_2 x1002_2 (l1.length : Int) t176 t177 t178 w0 _ ?side1 ?side2 A8.out).mono ?_
        (case side1=>exact i77_0 HI0)
        (case side2=>exact bel1 HB (IsS77.ge HI0.out))
        rintro e w13 ⟨rfl,hi,hb,hk⟩
        have HS0_:=keep_cell hk (hHeld.1) (by first | (rw [add_block];exact hne179_0)|(show (Addr.add _ _).block ≠ _;rw [add_block];exact hne179_0) | exact hne179_0)
        have HS1_:=keep_cell hk (hHeld.2) (by first | (rw [add_block];exact hne179_1)|(show (Addr.add _ _).block ≠ _;rw [add_block];exact hne179_1) | exact hne179_1)
        refine ⟨_,rfl,?_⟩
        have n0_:=amk (KeepBut.trans (kkk HK) hk (.inl rfl))
        have n1_:=amk (hb)
        have n2_:=amk (hi)
        clear HK
        clear HB
        clear HI0
        have HK:=n0_
        have HB:=n1_
        have HI0:=n2_
        clear n0_ n1_ n2_
        (try clear hb)
        (try clear hb2)
        (try clear hk)
        (try clear hi)
        refine hK.out _ _ ⟨HS0_,HS1_⟩ (fun hHeld=>?_)
        clear hK K
        refine norm_ (a':=?_) ?_ ?_
        rotate_left
        ·show Act.put _ (some 17) _=_
         simp only [Act.put,sI,sZ,sS,i64_w,i32_w]
         rfl
        refine pure_ (i:=5) (N:=some 18) (v:=?_) (a':=?_) #[T0,T0,T0,T0,T0,T0,F0,F0,T0,F0,F0,F0,F0] rfl rfl (any_of HT_.out (by kernel_rfl)) (fun _ _ _ h=>h) (Or.inl ⟨by rfl,?_⟩) ?_ ?_
        rotate_left
        ·intro w'
         go_simp
         with_reducible rfl
        rotate_left
        ·simp only [Act.put,sI,sZ,sS,i64_w,i32_w]
         rfl
        refine pure_ (i:=6) (N:=some 19) (v:=?_) (a':=?_) #[T0,T0,T0,T0,T0,T0,T0,F0,T0,F0,F0,F0,F0] rfl rfl (any_of HT_.out (by kernel_rfl)) (fun _ _ _ h=>h) (Or.inl ⟨by rfl,?_⟩) ?_ ?_
        rotate_left
        ·intro w'
         go_simp
         with_reducible rfl
        rotate_left
        ·simp only [Act.put,sI,sZ,sS,i64_w,i32_w]
         rfl
        refine take_ (i:=7) (N:=some 20) (v:=?_) (a':=?_) #[T0,T0,T0,T0,T0,T0,T0,T0,T0,F0,F0,F0,F0] rfl rfl (take_ofW HT_.out HW_.out (by kernel_rfl)) (fun _ _ _ h=>h) (Or.inl ⟨by rfl,?_⟩) hHeld ?_ ?_
        rotate_left
        ·rintro w' ⟨s0,s1⟩
         go_simp
         with_reducible rfl
        rotate_left
        ·simp only [Act.put,sI,sZ,sS,i64_w,i32_w]
         rfl
        refine one_ (i:=9) (N:=some 22) #[T0,T0,T0,T0,T0,T0,T0,T0,T0,T0,F0,F0,F0] rfl rfl (one_of HT_.out (by kernel_rfl)) (by decide) (fun K hK=>?_)
        refine Kd.R_lit_step (Kd.int .i64) _ 3 ?hg (N:=22) ?hd (xs:=([0,1,2,(-1)] : List Int)) (inner:=[.int .i64 0,.int .i64 1,.int .i64 2,.int .i64 (-1)]) (ok:=fun _=>True) (okp:=fun _=>True) ?hr ?hp (fun _ hk=>hk) trivial (Below.refl _ _) (Nat.le_refl _) (by simp) ?_;(case hd=>rfl);(case hg=>rfl);(case hr=>first | (go_simp;done)|(go_simp;rfl));(case hp=>exact (Reps.one (show Kd.M (Kd.int .i64) _ _ _ 0 [.int .i64 0] from rfl) (Reps.one (show Kd.M (Kd.int .i64) _ _ _ 1 [.int .i64 1] from rfl) (Reps.one (show Kd.M (Kd.int .i64) _ _ _ 2 [.int .i64 2] from rfl) (Reps.one (show Kd.M (Kd.int .i64) _ _ _ (-1) [.int .i64 (-1)] from rfl) (Reps.none _ _))))))
        intro v181 w14 ho15 hb hg_ hnew_
        have HS0_:=(hb.cell (World.block_lt_of_cell? _ _ (hHeld.1))).trans (hHeld.1)
        have HS1_:=(hb.cell (World.block_lt_of_cell? _ _ (hHeld.2))).trans (hHeld.2)
        clear hg_ hnew_
        (first | rw [← Ny180.out] at ho15 | (simp only [Int.reduceToNat] at ho15;rw [← Ny180.out] at ho15))
        have n0_:=amk (Kd.R_lower ho15 (keep_size (w:=w) (g:=g) (row:=none) (kkk HK)))
        have n1_:=amk (IsS77.below (i77_0 HI0) hb)
        have n2_:=amk (KeepBut.trans (kkk HK) (KeepBut.of_below hb g none) (.inl rfl))
        have n3_:=amk (below_step (bel1 HB (IsS77.ge HI0.out)) hb)
        clear HI0
        clear HK
        clear HB
        have HO182:=n0_
        have HI0:=n1_
        have HK:=n2_
        have HB:=n3_
        clear n0_ n1_ n2_ n3_
        clear hb ho15
        refine hK.out _ _ ⟨HS0_,HS1_⟩ (fun hHeld=>?_)
        clear hK K
        refine norm_ (a':=?_) ?_ ?_
        rotate_left
        ·show Act.put _ (some 22) _=_
         simp only [Act.put,sI,sZ,sS,i64_w,i32_w]
         rfl
        exact norm_ (by simp only [putAll,Act.put,List.setIfInBounds_toArray,List.set_cons_zero,List.set_cons_succ]) (hCont (v181) _ ⟨hHeld,(rrr HO182),(i77_0 HI0),(kkk HK),(bel1 HB (IsS77.ge HI0.out))⟩)
       ·skip
        refine Kd.R_lit_step (Kd.int .i64) _ 3 ?hg (N:=22) ?hd (xs:=([0,1,2,(-1)] : List Int)) (inner:=[.int .i64 0,.int .i64 1,.int .i64 2,.int .i64 (-1)]) (ok:=fun _=>True) (okp:=fun _=>True) ?hr ?hp (fun _ hk=>hk) trivial (Below.refl _ _) (Nat.le_refl _) (by simp) ?_;(case hd=>rfl);(case hg=>rfl);(case hr=>first | (go_simp;done)|(go_simp;rfl));(case hp=>exact (Reps.one (show Kd.M (Kd.int .i64) _ _ _ 0 [.int .i64 0] from rfl) (Reps.one (show Kd.M (Kd.int .i64) _ _ _ 1 [.int .i64 1] from rfl) (Reps.one (show Kd.M (Kd.int .i64) _ _ _ 2 [.int .i64 2] from rfl) (Reps.one (show Kd.M (Kd.int .i64) _ _ _ (-1) [.int .i64 (-1)] from rfl) (Reps.none _ _))))))
        intro v181 w13 ho14 hb hg_ hnew_
        have HS0_:=(hb.cell (World.block_lt_of_cell? _ _ (hHeld.1))).trans (hHeld.1)
        have HS1_:=(hb.cell (World.block_lt_of_cell? _ _ (hHeld.2))).trans (hHeld.2)
        clear hg_ hnew_
        (first | rw [← Ny180.out] at ho14 | (simp only [Int.reduceToNat] at ho14;rw [← Ny180.out] at ho14))
        have n0_:=amk (Kd.R_lower ho14 (keep_size (w:=w) (g:=g) (row:=none) (kkk HK)))
        have n1_:=amk (IsS77.below (i77_0 HI0) hb)
        have n2_:=amk (KeepBut.trans (kkk HK) (KeepBut.of_below hb g none) (.inl rfl))
        have n3_:=amk (below_step (bel1 HB (IsS77.ge HI0.out)) hb)
        clear HI0
        clear HK
        clear HB
        have HO182:=n0_
        have HI0:=n1_
        have HK:=n2_
        have HB:=n3_
        clear n0_ n1_ n2_ n3_
        clear hb ho14
        refine hK.out _ _ ⟨HS0_,HS1_⟩ (fun hHeld=>?_)
        clear hK K
        refine norm_ (a':=?_) ?_ ?_
        rotate_left
        ·show Act.put _ (some 22) _=_
         simp only [Act.put,sI,sZ,sS,i64_w,i32_w]
         rfl
        refine one_ (i:=4) (N:=some 17) #[T0,T0,T0,T0,T0,F0,F0,F0,T0,T0,F0,F0,F0] rfl rfl (one_of HT_.out (by kernel_rfl)) (by decide) (fun K hK=>?_)
        refine goes_ Try.func81 (by kernel_rfl) rfl #[.pointer (some ⟨g,0,none⟩),.int .i64 (l1.length : Int)] (by rfl) rfl rfl mtt ?_
        with_reducible refine (spec_l1Cur_pick.calls g s0_0 x1001_2 x1002_2 (l1.length : Int) t176 t177 t178 w0 _ ?side1 ?side2 A8.out).mono ?_
        (case side1=>exact i77_0 HI0)
        (case side2=>exact bel1 HB (IsS77.ge HI0.out))
        rintro e w15 ⟨rfl,hi,hb,hk⟩
        have HS0_:=keep_cell hk (hHeld.1) (by first | (rw [add_block];exact hne179_0)|(show (Addr.add _ _).block ≠ _;rw [add_block];exact hne179_0) | exact hne179_0)
        have HS1_:=keep_cell hk (hHeld.2) (by first | (rw [add_block];exact hne179_1)|(show (Addr.add _ _).block ≠ _;rw [add_block];exact hne179_1) | exact hne179_1)
        refine ⟨_,rfl,?_⟩
        have n0_:=amk (Kd.R_mono (Kd.R_keep (IsS77.apart (show IsS77 w0 _ g s0_0 x1001_2 x1002_2 from by exact i77_0 HI0) (rrr HO182) (by decide)) hk (fun _ h=>h.2)) (fun _ h=>h.1))
        have n1_:=amk (KeepBut.trans (kkk HK) hk (.inl rfl))
        have n2_:=amk (hb)
        have n3_:=amk (hi)
        clear HO182
        clear HK
        clear HB
        clear HI0
        have HO182:=n0_
        have HK:=n1_
        have HB:=n2_
        have HI0:=n3_
        clear n0_ n1_ n2_ n3_
        (try clear hb)
        (try clear hb2)
        (try clear hk)
        (try clear hi)
        refine hK.out _ _ ⟨HS0_,HS1_⟩ (fun hHeld=>?_)
        clear hK K
        refine norm_ (a':=?_) ?_ ?_
        rotate_left
        ·show Act.put _ (some 17) _=_
         simp only [Act.put,sI,sZ,sS,i64_w,i32_w]
         rfl
        refine pure_ (i:=5) (N:=some 18) (v:=?_) (a':=?_) #[T0,T0,T0,T0,T0,T0,F0,F0,T0,T0,F0,F0,F0] rfl rfl (any_of HT_.out (by kernel_rfl)) (fun _ _ _ h=>h) (Or.inl ⟨by rfl,?_⟩) ?_ ?_
        rotate_left
        ·intro w'
         go_simp
         with_reducible rfl
        rotate_left
        ·simp only [Act.put,sI,sZ,sS,i64_w,i32_w]
         rfl
        refine pure_ (i:=6) (N:=some 19) (v:=?_) (a':=?_) #[T0,T0,T0,T0,T0,T0,T0,F0,T0,T0,F0,F0,F0] rfl rfl (any_of HT_.out (by kernel_rfl)) (fun _ _ _ h=>h) (Or.inl ⟨by rfl,?_⟩) ?_ ?_
        rotate_left
        ·intro w'
         go_simp
         with_reducible rfl
        rotate_left
        ·simp only [Act.put,sI,sZ,sS,i64_w,i32_w]
         rfl
        refine take_ (i:=7) (N:=some 20) (v:=?_) (a':=?_) #[T0,T0,T0,T0,T0,T0,T0,T0,T0,T0,F0,F0,F0] rfl rfl (take_ofW HT_.out HW_.out (by kernel_rfl)) (fun _ _ _ h=>h) (Or.inl ⟨by rfl,?_⟩) hHeld ?_ ?_
        rotate_left
        ·rintro w' ⟨s0,s1⟩
         go_simp
         with_reducible rfl
        rotate_left
        ·simp only [Act.put,sI,sZ,sS,i64_w,i32_w]
         rfl
        exact norm_ (by simp only [putAll,Act.put,List.setIfInBounds_toArray,List.set_cons_zero,List.set_cons_succ]) (hCont (v181) _ ⟨hHeld,(rrr HO182),(i77_0 HI0),(kkk HK),(bel1 HB (IsS77.ge HI0.out))⟩)
      rintro v181 w16 ⟨hS_,h0_,h1_,h2_,h3_⟩
      have n0_ : Aside0 (Kd.R (Kd.int .i64) 3 w16 w.heap.size (fun _=>True) v181 y180):=⟨h0_⟩
      have n1_ : Aside0 (IsS77 w0 w16 g s0_0 t177 t178):=⟨h1_⟩
      have n2_ : Aside0 (KeepBut w w16 g none):=⟨h2_⟩
      have n3_ : Aside0 (Below w0.heap.size w0 w16):=⟨h3_⟩
      clear HI0
      clear HK
      clear HB
      clear h0_ h1_ h2_ h3_
      have HO182:=n0_
      have HI0:=n1_
      have HK:=n2_
      have HB:=n3_
      clear n0_ n1_ n2_ n3_
      have hHeld : w16.cell? (ad179.add ((t176).toNat * 2))=some (.int .i64 ((rd_T30 l1 t176).f0))∧w16.cell? ⟨(ad179.add ((t176).toNat * 2)).block,(ad179.add ((t176).toNat * 2)).off + 1,none⟩=some (.int .i64 ((rd_T30 l1 t176).f1)):=hS_
      obtain ⟨Ao17,co17,eo17⟩:=Kd.R_slice HO182.out
      (first | subst eo17 | (injection eo17 with f1_ f2_ f3_;have f4_:=f1_.symm;have f5_:=f3_.symm;clear f1_ f2_ f3_;subst f4_;subst f5_))
      refine norm_ (a':=?_) ?_ ?_
      rotate_left
      ·simp only [putAll,Act.put,List.setIfInBounds_toArray,List.set_cons_zero,List.set_cons_succ]
       rfl
      refine one_ (i:=10) (N:=some 23) #[T0,T0,T0,T0,T0,T0,T0,T0,T0,T0,T0,F0,F0] rfl rfl (one_of HT_.out (by kernel_rfl)) (by decide) (fun K hK=>?_)
      refine goes_ Try.func80 (by kernel_rfl) rfl #[.pointer (some ⟨g,0,none⟩),.slice Ao17 y180.length co17] (by rfl) rfl rfl mtt ?_
      with_reducible refine (spec_l1Cur_among.calls g s0_0 t177 t178 _ _ y180 t183 t184 t185 w0 _ ?side1 ?side2 ?side3 ?side4 ?side5 A11.out).mono ?_
      (case side1=>exact i77_0 HI0)
      (case side2=>exact bel1 HB (IsS77.ge HI0.out))
      (case side3=>exact ccc (Kd.R_reads' HO182.out).2.2)
      (case side4=>exact (Kd.R_reads' HO182.out).2.1)
      (case side5=>exact far_slice (IsS77.own_ne HI0.out HO182.out (by decide)))
      rintro e w18 ⟨rfl,hi,hb,hk⟩
      have HS0_:=keep_cell hk (hHeld.1) (by first | (rw [add_block];exact hne179_0)|(show (Addr.add _ _).block ≠ _;rw [add_block];exact hne179_0) | exact hne179_0)
      have HS1_:=keep_cell hk (hHeld.2) (by first | (rw [add_block];exact hne179_1)|(show (Addr.add _ _).block ≠ _;rw [add_block];exact hne179_1) | exact hne179_1)
      refine ⟨_,rfl,?_⟩
      have n0_:=amk (Kd.R_mono (Kd.R_keep (IsS77.apart (show IsS77 w0 _ g s0_0 t177 t178 from by exact i77_0 HI0) (rrr HO182) (by decide)) hk (fun _ h=>h.2)) (fun _ h=>h.1))
      have n1_:=amk (KeepBut.trans (kkk HK) hk (.inl rfl))
      have n2_:=amk (hb)
      have n3_:=amk (hi)
      clear HO182
      clear HK
      clear HB
      clear HI0
      have HO182:=n0_
      have HK:=n1_
      have HB:=n2_
      have HI0:=n3_
      clear n0_ n1_ n2_ n3_
      (try clear hb)
      (try clear hb2)
      (try clear hk)
      (try clear hi)
      refine hK.out _ _ ⟨HS0_,HS1_⟩ (fun hHeld=>?_)
      clear hK K
      refine norm_ (a':=?_) ?_ ?_
      rotate_left
      ·show Act.put _ (some 23) _=_
       simp only [Act.put,sI,sZ,sS,i64_w,i32_w]
       rfl
      refine pure_ (i:=11) (N:=some 24) (v:=?_) (a':=?_) #[T0,T0,T0,T0,T0,T0,T0,T0,T0,T0,T0,T0,F0] rfl rfl (any_of HT_.out (by kernel_rfl)) (fun _ _ _ h=>h) (Or.inl ⟨by rfl,?_⟩) ?_ ?_
      rotate_left
      ·intro w'
       go_simp
       with_reducible rfl
      rotate_left
      ·simp only [Act.put,sI,sZ,sS,i64_w,i32_w]
       rfl
      refine pure_ (i:=12) (N:=some 4) (v:=?_) (a':=?_) #[T0,T0,T0,T0,T0,T0,T0,T0,T0,T0,T0,T0,T0] rfl rfl (any_of HT_.out (by kernel_rfl)) (fun _ _ _ h=>h) (Or.inl ⟨by rfl,?_⟩) ?_ ?_
      rotate_left
      ·intro w'
       go_simp
       with_reducible rfl
      rotate_left
      ·simp only [Act.put,sI,sZ,sS,i64_w,i32_w]
       rfl
      refine done_ (done_of HT_.out (by kernel_rfl)) ?_
      try go_wp2
      go_ret
      exact ⟨erw0,i77_0 HI0,bel1 HB (IsS77.ge HI0.out),kkk HK⟩
     ·rw [if_neg c10] at H
      exact absurd H (by simp)
    ·rw [if_neg c9] at H
     exact absurd H (by simp)
   ·replace c7:=Bool.eq_false_iff.mpr c7
    subst c7
    have H1 : ((spec_l1Cur_among.f s0_0 x1001_2 x1002_2 (([0,6,905,999,(-1),1000] : List Int))).bind fun bt189=>(some (bt189.1,bt189.2.1,bt189.2.2)))=some (r1,r2,r3):=by rw [if_neg (show ¬ (false=true) by decide)] at H;exact H
    clear H
    have H:=H1
    clear H1
    obtain ⟨y186,hy186⟩ : ∃ y_ : List Int,y_=(([0,6,905,999,(-1),1000] : List Int)):=⟨_,rfl⟩
    replace H : ((spec_l1Cur_among.f s0_0 x1001_2 x1002_2 y186).bind fun bt189=>(some (bt189.1,bt189.2.1,bt189.2.2)))=some (r1,r2,r3):=by first | (rw [hy186];with_reducible exact H)|(have H2_:=(Option.bind_some _ _).symm.trans H;rw [hy186];with_reducible exact H2_)|(have H2_:=(Option.bind_some _ _).symm.trans H;with_reducible exact H2_) | with_reducible exact H | (rw [hy186];exact H) | exact H
    have Ny186:=amk hy186
    clear hy186
    replace H:=obs H
    obtain ⟨⟨t189,t190,t191⟩,A190,H⟩:=H
    replace H : (some (t189,t190,t191))=some (r1,r2,r3):=H
    have A19:=amk A190
    clear A190
    simp only [Option.some.injEq,Prod.mk.injEq] at H
    obtain ⟨rfl,rfl,rfl⟩:=H
    go_wp2_with (first | ((with_reducible refine gate_dst (N:=26) rfl ?_);refine Kd.R_lit (Kd.int .i64) _ 3 ?hg (N:=26) ?hd (xs:=([0,6,905,999,(-1),1000] : List Int)) (inner:=[.int .i64 0,.int .i64 6,.int .i64 905,.int .i64 999,.int .i64 (-1),.int .i64 1000]) (ok:=fun _=>True) (okp:=fun _=>True) ?hr ?hp (fun _ hk=>hk) trivial (Below.refl _ _) (Nat.le_refl _) (by simp) ?_;(case hd=>rfl);(case hg=>rfl);(case hr=>first | (go_simp;done)|(go_simp;rfl));(case hp=>exact (Reps.one (show Kd.M (Kd.int .i64) _ _ _ 0 [.int .i64 0] from rfl) (Reps.one (show Kd.M (Kd.int .i64) _ _ _ 6 [.int .i64 6] from rfl) (Reps.one (show Kd.M (Kd.int .i64) _ _ _ 905 [.int .i64 905] from rfl) (Reps.one (show Kd.M (Kd.int .i64) _ _ _ 999 [.int .i64 999] from rfl) (Reps.one (show Kd.M (Kd.int .i64) _ _ _ (-1) [.int .i64 (-1)] from rfl) (Reps.one (show Kd.M (Kd.int .i64) _ _ _ 1000 [.int .i64 1000] from rfl) (Reps.none _ _))))))));intro v187 w20 ho21 hb hg_ hnew_;clear hg_ hnew_;(first | rw [← Ny186.out] at ho21 | (simp only [Int.reduceToNat] at ho21;rw [← Ny186.out] at ho21));have HO188:=amk (Kd.R_lower ho21 (keep_size (w:=w) (g:=g) (row:=none) (kkk HK)));replace HK:=amk (KeepBut.trans (kkk HK) (KeepBut.of_below hb g none) (.inl rfl));replace HB:=amk (below_step (bel1 HB (IsS77.ge HI0.out)) hb);replace HI0:=amk (IsS77.below (i77_0 HI0) hb);clear hb ho21;obtain ⟨Ao22,co22,eo22⟩:=Kd.R_slice HO188.out;subst eo22)|((with_reducible refine gate_callee (f:=80) rfl ?_);refine goesL_ (some 27) rfl rfl Try.func80 (by kernel_rfl) rfl #[.pointer (some ⟨g,0,none⟩),.slice Ao22 y186.length co22] rfl mtt ?_;(with_reducible refine (spec_l1Cur_among.calls g s0_0 x1001_2 x1002_2 _ _ y186 t189 t190 t191 w0 _ ?side1 ?side2 ?side3 ?side4 ?side5 A19.out).mono ?_);(case side1=>exact i77_0 HI0);(case side2=>exact bel1 HB (IsS77.ge HI0.out));(case side3=>exact ccc (Kd.R_reads' HO188.out).2.2);(case side4=>exact (Kd.R_reads' HO188.out).2.1);(case side5=>exact far_slice (IsS77.own_ne HI0.out HO188.out (by decide)));rintro e w23 ⟨rfl,hi,hb,hk⟩;refine ⟨_,rfl,?_⟩;replace HO188:=amk (Kd.R_mono (Kd.R_keep (IsS77.apart (show IsS77 w0 _ g s0_0 x1001_2 x1002_2 from by exact i77_0 HI0) (rrr HO188) (by decide)) hk (fun _ h=>h.2)) (fun _ h=>h.1));replace HK:=amk (KeepBut.trans (kkk HK) hk (.inl rfl));replace HB:=amk (hb);replace HI0:=amk (hi);(try clear hb hk hi)))
    go_ret
    exact ⟨erw0,i77_0 HI0,bel1 HB (IsS77.ge HI0.out),kkk HK⟩
mutual
def spec_l1Cur_sump.j0 : Nat→Bool→List Int→Int→Int→Int→Int→Int→Option (Int × Int × Int × Int × Int)
 | 0,_,_,_,_,_,_,_=>none
 | k + 1,x23,x1000,x1001,x1002,x557000,x557001,x557002=>if x23=true then (spec_l1Cur_sump.j1 k x1000 x1001 x1002 x557000 x557001 x557001) else (spec_l1Cur_sump.j1 k x1000 x1001 x1002 x557000 x557001 x557002)
def spec_l1Cur_sump.j1 : Nat→List Int→Int→Int→Int→Int→Int→Option (Int × Int × Int × Int × Int)
 | 0,_,_,_,_,_,_=>none
 | k + 1,x1000,x1001,x1002,x557000,x557001,x557002=>(spec_l1Cur_pick.f x1000 x1001 x1002 60).bind fun bt560=>(if bt560.1=0 then ((spec_l1Cur_among.f x1000 bt560.2.1 bt560.2.2 (([(-1),8] : List Int))).bind fun bt566=>(some (bt566.1,x557001,x557002,bt566.2.1,bt566.2.2))) else (if bt560.1=1 then ((spec_l1Cur_among.f x1000 bt560.2.1 bt560.2.2 (([(-501),501] : List Int))).bind fun bt572=>(some (x557000,bt572.1,x557002,bt572.2.1,bt572.2.2))) else (if bt560.1=2 then ((spec_l1Cur_among.f x1000 bt560.2.1 bt560.2.2 (([(-501),wrap64 (x557001 + 1)] : List Int))).bind fun bt578=>(some (x557000,x557001,bt578.1,bt578.2.1,bt578.2.2))) else (some (x557000,x557001,x557002,bt560.2.1,bt560.2.2)))))
end
def spec_l1Cur_sump.f (k : Nat) (s0_0 : List Int) (s0_1 : Int) (s0_2 : Int) (a1 : Int) : Option (Int × Int × Int × Int × Int):=(spec_l1Cur_among.f s0_0 s0_1 s0_2 (([(-10),10,12,50,500] : List Int))).bind fun bt547=>((spec_l1Cur_among.f s0_0 bt547.2.1 bt547.2.2 (([(-500),(-10),0,7,10] : List Int))).bind fun bt553=>(if bt553.1 > bt547.1 then ((spec_l1Cur_one.f s0_0 bt553.2.1 bt553.2.2 20).bind fun bt557=>(spec_l1Cur_sump.j0 k (!bt557.1) s0_0 bt557.2.1 bt557.2.2 a1 bt547.1 bt553.1)) else (spec_l1Cur_sump.j0 k false s0_0 bt553.2.1 bt553.2.2 a1 bt547.1 bt553.1)))
theorem spec_l1Cur_sump.mono_l : ∀ k,(∀ y0 y1 y2 y3 y4 y5 y6,LeO (spec_l1Cur_sump.j0 k y0 y1 y2 y3 y4 y5 y6) (spec_l1Cur_sump.j0 (k + 1) y0 y1 y2 y3 y4 y5 y6))∧(∀ y0 y1 y2 y3 y4 y5,LeO (spec_l1Cur_sump.j1 k y0 y1 y2 y3 y4 y5) (spec_l1Cur_sump.j1 (k + 1) y0 y1 y2 y3 y4 y5))
 | 0=>⟨fun _ _ _ _ _ _ _ r h=>by simp [spec_l1Cur_sump.j0] at h,fun _ _ _ _ _ _ r h=>by simp [spec_l1Cur_sump.j1] at h⟩
 | k + 1=>by
  obtain ⟨ih0,ih1⟩:=spec_l1Cur_sump.mono_l k
  refine ⟨?_,?_⟩
  ·intro y0 y1 y2 y3 y4 y5 y6
   unfold spec_l1Cur_sump.j0
   repeat' first
   | (with_reducible exact ih0 _ _ _ _ _ _ _)
   | (with_reducible exact ih1 _ _ _ _ _ _)
   | (with_reducible exact LeO.refl _)
   | (with_reducible exact LeO.none _)
   | (with_reducible refine LeO.ite ?_ ?_)
   | (with_reducible refine LeO.bind ?_ (fun _=>?_))
   | exact ih0 _ _ _ _ _ _ _
   | exact ih1 _ _ _ _ _ _
  ·intro y0 y1 y2 y3 y4 y5
   unfold spec_l1Cur_sump.j1
   repeat' first
   | (with_reducible exact ih0 _ _ _ _ _ _ _)
   | (with_reducible exact ih1 _ _ _ _ _ _)
   | (with_reducible exact LeO.refl _)
   | (with_reducible exact LeO.none _)
   | (with_reducible refine LeO.ite ?_ ?_)
   | (with_reducible refine LeO.bind ?_ (fun _=>?_))
   | exact ih0 _ _ _ _ _ _ _
   | exact ih1 _ _ _ _ _ _
theorem spec_l1Cur_sump.mono : ∀ a0 a1 a2 a3 k,LeO (spec_l1Cur_sump.f k a0 a1 a2 a3) (spec_l1Cur_sump.f (k + 1) a0 a1 a2 a3):=by
 intro a0 a1 a2 a3 k
 obtain ⟨ih0,ih1⟩:=spec_l1Cur_sump.mono_l k
 unfold spec_l1Cur_sump.f
 repeat' first
   | (with_reducible exact ih0 _ _ _ _ _ _ _)
   | (with_reducible exact ih1 _ _ _ _ _ _)
   | (with_reducible exact LeO.refl _)
   | (with_reducible exact LeO.none _)
   | (with_reducible refine LeO.ite ?_ ?_)
   | (with_reducible refine LeO.bind ?_ (fun _=>?_))
   | exact ih0 _ _ _ _ _ _ _
   | exact ih1 _ _ _ _ _ _
set_option maxHeartbeats 8000000 in
set_option maxRecDepth 100000 in
theorem spec_l1Cur_sump.calls (k : Nat) (g : Nat) (s0_0 : List Int) (s0_1 : Int) (s0_2 : Int) (a1 : Int) (r1 : Int) (r2 : Int) (r3 : Int) (r4 : Int) (r5 : Int) (w0 w : World) (hI : IsS77 w0 w g s0_0 s0_1 s0_2) (hB : Below w0.heap.size w0 w) (h : spec_l1Cur_sump.f k s0_0 s0_1 s0_2 a1=some (r1,r2,r3,r4,r5)) :
  Calls Try.prog 78 #[.pointer (some ⟨g,0,none⟩),.int .i64 a1] w fun e w'=>e = .returned (.agg #[.int .i64 r1,.int .i64 r2,.int .i64 r3])∧IsS77 w0 w' g s0_0 r4 r5∧Below w0.heap.size w0 w'∧KeepBut w w' g none:=by
 have hu44:=Try.underlying44
 have HI0:=amk hI
 have HK:=amk (KeepBut.refl w g none)
 have HL:=amk hB.size
 clear hI
 have HW0:=amk hB.size
 have HB:=amk hB
 clear hB
 have H : ((spec_l1Cur_among.f s0_0 s0_1 s0_2 (([(-10),10,12,50,500] : List Int))).bind fun bt547=>((spec_l1Cur_among.f s0_0 bt547.2.1 bt547.2.2 (([(-500),(-10),0,7,10] : List Int))).bind fun bt553=>(if bt553.1 > bt547.1 then ((spec_l1Cur_one.f s0_0 bt553.2.1 bt553.2.2 20).bind fun bt557=>(spec_l1Cur_sump.j0 k (!bt557.1) s0_0 bt557.2.1 bt557.2.2 a1 bt547.1 bt553.1)) else (spec_l1Cur_sump.j0 k false s0_0 bt553.2.1 bt553.2.2 a1 bt547.1 bt553.1))))=some (r1,r2,r3,r4,r5):=h
 clear h
 obtain ⟨y544,hy544⟩ : ∃ y_ : List Int,y_=(([(-10),10,12,50,500] : List Int)):=⟨_,rfl⟩
 replace H : ((spec_l1Cur_among.f s0_0 s0_1 s0_2 y544).bind fun bt547=>((spec_l1Cur_among.f s0_0 bt547.2.1 bt547.2.2 (([(-500),(-10),0,7,10] : List Int))).bind fun bt553=>(if bt553.1 > bt547.1 then ((spec_l1Cur_one.f s0_0 bt553.2.1 bt553.2.2 20).bind fun bt557=>(spec_l1Cur_sump.j0 k (!bt557.1) s0_0 bt557.2.1 bt557.2.2 a1 bt547.1 bt553.1)) else (spec_l1Cur_sump.j0 k false s0_0 bt553.2.1 bt553.2.2 a1 bt547.1 bt553.1))))=some (r1,r2,r3,r4,r5):=by first | (rw [hy544];with_reducible exact H)|(have H2_:=(Option.bind_some _ _).symm.trans H;rw [hy544];with_reducible exact H2_)|(have H2_:=(Option.bind_some _ _).symm.trans H;with_reducible exact H2_) | with_reducible exact H | (rw [hy544];exact H) | exact H
 have Ny544:=amk hy544
 clear hy544
 replace H:=obs H
 obtain ⟨⟨t547,t548,t549⟩,A30,H⟩:=H
 replace H : ((spec_l1Cur_among.f s0_0 t548 t549 (([(-500),(-10),0,7,10] : List Int))).bind fun bt553=>(if bt553.1 > t547 then ((spec_l1Cur_one.f s0_0 bt553.2.1 bt553.2.2 20).bind fun bt557=>(spec_l1Cur_sump.j0 k (!bt557.1) s0_0 bt557.2.1 bt557.2.2 a1 t547 bt553.1)) else (spec_l1Cur_sump.j0 k false s0_0 bt553.2.1 bt553.2.2 a1 t547 bt553.1)))=some (r1,r2,r3,r4,r5):=H
 have A3:=amk A30
 clear A30
 obtain ⟨y550,hy550⟩ : ∃ y_ : List Int,y_=(([(-500),(-10),0,7,10] : List Int)):=⟨_,rfl⟩
 replace H : ((spec_l1Cur_among.f s0_0 t548 t549 y550).bind fun bt553=>(if bt553.1 > t547 then ((spec_l1Cur_one.f s0_0 bt553.2.1 bt553.2.2 20).bind fun bt557=>(spec_l1Cur_sump.j0 k (!bt557.1) s0_0 bt557.2.1 bt557.2.2 a1 t547 bt553.1)) else (spec_l1Cur_sump.j0 k false s0_0 bt553.2.1 bt553.2.2 a1 t547 bt553.1)))=some (r1,r2,r3,r4,r5):=by first | (rw [hy550];with_reducible exact H)|(have H2_:=(Option.bind_some _ _).symm.trans H;rw [hy550];with_reducible exact H2_)|(have H2_:=(Option.bind_some _ _).symm.trans H;with_reducible exact H2_) | with_reducible exact H | (rw [hy550];exact H) | exact H
 have Ny550:=amk hy550
 clear hy550
 replace H:=obs H
 obtain ⟨⟨t553,t554,t555⟩,A40,H⟩:=H
 replace H : (if t553 > t547 then ((spec_l1Cur_one.f s0_0 t554 t555 20).bind fun bt557=>(spec_l1Cur_sump.j0 k (!bt557.1) s0_0 bt557.2.1 bt557.2.2 a1 t547 t553)) else (spec_l1Cur_sump.j0 k false s0_0 t554 t555 a1 t547 t553))=some (r1,r2,r3,r4,r5):=H
 have A4:=amk A40
 clear A40
 have HC5:=amk H
 clear H
 go_enter Try.func78,Try.ntmps78
 go_upto_region 2 with (first | ((with_reducible refine gate_dst (N:=4) rfl ?_);refine box_event ?hg (N:=4) ?hd (cs:=#[.int .i64 0,.int .i64 0,.int .i64 0]) (t:=44) ?hr ?_;(case hd=>rfl);(case hg=>rfl);(case hr=>first | (go_simp;done)|(go_simp;rfl));intro gb543 hg w6 hbox hb;replace HB:=amk (below_step (bel1 HB (IsS77.ge HI0.out)) hb);have BK543:=amk (hbox);have GW543:=amk ((by rw [hg];exact (keep_size (w:=w) (g:=g) (row:=none) (kkk HK)) : w.heap.size≤gb543));have GE543:=amk ((Nat.le_trans HW0.out (by rw [hg];exact (keep_size (w:=w) (g:=g) (row:=none) (kkk HK)) : w.heap.size≤gb543) : w0.heap.size≤gb543));replace HK:=amk (KeepBut.trans (kkk HK) (KeepBut.of_below hb g none) (.inl rfl));have NB0_543:=amk ((by rw [hg];exact Nat.ne_of_lt (IsS77.lt (show IsS77 w0 _ g s0_0 s0_1 s0_2 from by exact i77_0 HI0)) : g ≠ gb543));have NB543_0:=amk ((by rw [hg];exact Nat.ne_of_gt (IsS77.lt (show IsS77 w0 _ g s0_0 s0_1 s0_2 from by exact i77_0 HI0)) : gb543 ≠ g));replace HI0:=amk (IsS77.below (i77_0 HI0) hb);clear hb hbox hg)|((with_reducible refine gate_dst (N:=8) rfl ?_);refine Kd.R_lit (Kd.int .i64) _ 3 ?hg (N:=8) ?hd (xs:=([(-10),10,12,50,500] : List Int)) (inner:=[.int .i64 (-10),.int .i64 10,.int .i64 12,.int .i64 50,.int .i64 500]) (ok:=fun _=>True) (okp:=fun _=>True) ?hr ?hp (fun _ hk=>hk) trivial (Below.refl _ _) (Nat.le_refl _) (by simp) ?_;(case hd=>rfl);(case hg=>rfl);(case hr=>first | (go_simp;done)|(go_simp;rfl));(case hp=>exact (Reps.one (show Kd.M (Kd.int .i64) _ _ _ (-10) [.int .i64 (-10)] from rfl) (Reps.one (show Kd.M (Kd.int .i64) _ _ _ 10 [.int .i64 10] from rfl) (Reps.one (show Kd.M (Kd.int .i64) _ _ _ 12 [.int .i64 12] from rfl) (Reps.one (show Kd.M (Kd.int .i64) _ _ _ 50 [.int .i64 50] from rfl) (Reps.one (show Kd.M (Kd.int .i64) _ _ _ 500 [.int .i64 500] from rfl) (Reps.none _ _)))))));intro v545 w7 ho8 hb hg_ hnew_;clear hg_ hnew_;(first | rw [← Ny544.out] at ho8 | (simp only [Int.reduceToNat] at ho8;rw [← Ny544.out] at ho8));have HO546:=amk (Kd.R_lower ho8 (keep_size (w:=w) (g:=g) (row:=none) (kkk1 HK GW543.out)));replace BK543:=amk (blk_below (g:=gb543) (o:=.cells #[.int .i64 0,.int .i64 0,.int .i64 0] 44 (0,0)) (bkk BK543) hb);replace HK:=amk (KeepBut.trans (kkk1 HK GW543.out) (KeepBut.of_below hb g none) (.inl rfl));replace HB:=amk (below_step (bel2 HB (IsS77.ge HI0.out) GE543.out) hb);replace HI0:=amk (IsS77.below (i77_1 HI0 NB0_543.out) hb);clear hb ho8;obtain ⟨Ao9,co9,eo9⟩:=Kd.R_slice HO546.out;subst eo9)|((with_reducible refine gate_callee (f:=80) rfl ?_);refine goesL_ (some 9) rfl rfl Try.func80 (by kernel_rfl) rfl #[.pointer (some ⟨g,0,none⟩),.slice Ao9 y544.length co9] rfl mtt ?_;(with_reducible refine (spec_l1Cur_among.calls g s0_0 s0_1 s0_2 _ _ y544 t547 t548 t549 w0 _ ?side1 ?side2 ?side3 ?side4 ?side5 A3.out).mono ?_);(case side1=>exact i77_1 HI0 NB0_543.out);(case side2=>exact bel2 HB (IsS77.ge HI0.out) GE543.out);(case side3=>exact ccc (Kd.R_reads' HO546.out).2.2);(case side4=>exact (Kd.R_reads' HO546.out).2.1);(case side5=>exact far_slice (IsS77.own_ne HI0.out HO546.out (by decide)));rintro e w10 ⟨rfl,hi,hb,hk⟩;refine ⟨_,rfl,?_⟩;replace BK543:=amk (KeepBut.blk hk (g':=gb543) (o:=.cells #[.int .i64 0,.int .i64 0,.int .i64 0] 44 (0,0)) (bkk BK543) NB543_0.out (by simp));replace HO546:=amk (Kd.R_mono (Kd.R_keep (IsS77.apart (show IsS77 w0 _ g s0_0 s0_1 s0_2 from by exact i77_1 HI0 NB0_543.out) (rrr HO546) (by decide)) hk (fun _ h=>h.2)) (fun _ h=>h.1));replace HK:=amk (KeepBut.trans (kkk1 HK GW543.out) hk (.inl rfl));replace HB:=amk (hb);replace HI0:=amk (hi);(try clear hb hk hi))|((with_reducible refine gate_dst (N:=11) rfl ?_);refine Kd.R_lit (Kd.int .i64) _ 3 ?hg (N:=11) ?hd (xs:=([(-500),(-10),0,7,10] : List Int)) (inner:=[.int .i64 (-500),.int .i64 (-10),.int .i64 0,.int .i64 7,.int .i64 10]) (ok:=fun _=>True) (okp:=fun _=>True) ?hr ?hp (fun _ hk=>hk) trivial (Below.refl _ _) (Nat.le_refl _) (by simp) ?_;(case hd=>rfl);(case hg=>rfl);(case hr=>first | (go_simp;done)|(go_simp;rfl));(case hp=>exact (Reps.one (show Kd.M (Kd.int .i64) _ _ _ (-500) [.int .i64 (-500)] from rfl) (Reps.one (show Kd.M (Kd.int .i64) _ _ _ (-10) [.int .i64 (-10)] from rfl) (Reps.one (show Kd.M (Kd.int .i64) _ _ _ 0 [.int .i64 0] from rfl) (Reps.one (show Kd.M (Kd.int .i64) _ _ _ 7 [.int .i64 7] from rfl) (Reps.one (show Kd.M (Kd.int .i64) _ _ _ 10 [.int .i64 10] from rfl) (Reps.none _ _)))))));intro v551 w11 ho12 hb hg_ hnew_;clear hg_ hnew_;(first | rw [← Ny550.out] at ho12 | (simp only [Int.reduceToNat] at ho12;rw [← Ny550.out] at ho12));have HO552:=amk (Kd.R_lower (Kd.R_new' ho12 (Kd.R_lt (rrr HO546))) (keep_size (w:=w) (g:=g) (row:=none) (kkk1 HK GW543.out)));replace HO546:=amk (Kd.R_elder' (rrr HO546) (Kd.R_base ho12) hb);replace BK543:=amk (blk_below (g:=gb543) (o:=.cells #[.int .i64 0,.int .i64 0,.int .i64 0] 44 (0,0)) (bkk BK543) hb);replace HK:=amk (KeepBut.trans (kkk1 HK GW543.out) (KeepBut.of_below hb g none) (.inl rfl));replace HB:=amk (below_step (bel2 HB (IsS77.ge HI0.out) GE543.out) hb);replace HI0:=amk (IsS77.below (i77_1 HI0 NB0_543.out) hb);clear hb ho12;obtain ⟨Ao13,co13,eo13⟩:=Kd.R_slice HO552.out;subst eo13)|((with_reducible refine gate_callee (f:=80) rfl ?_);refine goesL_ (some 12) rfl rfl Try.func80 (by kernel_rfl) rfl #[.pointer (some ⟨g,0,none⟩),.slice Ao13 y550.length co13] rfl mtt ?_;(with_reducible refine (spec_l1Cur_among.calls g s0_0 t548 t549 _ _ y550 t553 t554 t555 w0 _ ?side1 ?side2 ?side3 ?side4 ?side5 A4.out).mono ?_);(case side1=>exact i77_1 HI0 NB0_543.out);(case side2=>exact bel2 HB (IsS77.ge HI0.out) GE543.out);(case side3=>exact ccc (Kd.R_reads' HO552.out).2.2);(case side4=>exact (Kd.R_reads' HO552.out).2.1);(case side5=>exact far_slice (IsS77.own_ne HI0.out HO552.out (by decide)));rintro e w14 ⟨rfl,hi,hb,hk⟩;refine ⟨_,rfl,?_⟩;replace BK543:=amk (KeepBut.blk hk (g':=gb543) (o:=.cells #[.int .i64 0,.int .i64 0,.int .i64 0] 44 (0,0)) (bkk BK543) NB543_0.out (by simp));replace HO546:=amk (Kd.R_mono (Kd.R_keep (IsS77.apart (show IsS77 w0 _ g s0_0 t548 t549 from by exact i77_1 HI0 NB0_543.out) (rrr HO546) (by decide)) hk (fun _ h=>h.2)) (fun _ h=>h.1));replace HO552:=amk (Kd.R_mono (Kd.R_keep (IsS77.apart (show IsS77 w0 _ g s0_0 t548 t549 from by exact i77_1 HI0 NB0_543.out) (rrr HO552) (by decide)) hk (fun _ h=>h.2)) (fun _ h=>h.1));replace HK:=amk (KeepBut.trans (kkk1 HK GW543.out) hk (.inl rfl));replace HB:=amk (hb);replace HI0:=amk (hi);(try clear hb hk hi))|((with_reducible refine gate_dst (N:=5) rfl ?_);refine box_event ?hg (N:=5) ?hd (cs:=#[.int .i64 0,.int .i64 0,.int .i64 0]) (t:=44) ?hr ?_;(case hd=>rfl);(case hg=>rfl);(case hr=>first | (go_simp;done)|(go_simp;rfl));intro gb556 hg w15 hbox hb;replace HO546:=amk (Kd.R_below (rrr HO546) hb);replace HO552:=amk (Kd.R_below (rrr HO552) hb);replace HB:=amk (below_step (bel2 HB (IsS77.ge HI0.out) GE543.out) hb);have BK556:=amk (hbox);have GW556:=amk ((by rw [hg];exact (keep_size (w:=w) (g:=g) (row:=none) (kkk1 HK GW543.out)) : w.heap.size≤gb556));have GE556:=amk ((Nat.le_trans HW0.out (by rw [hg];exact (keep_size (w:=w) (g:=g) (row:=none) (kkk1 HK GW543.out)) : w.heap.size≤gb556) : w0.heap.size≤gb556));replace HK:=amk (KeepBut.trans (kkk1 HK GW543.out) (KeepBut.of_below hb g none) (.inl rfl));have NB543_556:=amk ((by rw [hg];exact Nat.ne_of_lt (blk_lt (g:=gb543) (o:=.cells #[.int .i64 0,.int .i64 0,.int .i64 0] 44 (0,0)) (bkk BK543)) : gb543 ≠ gb556));have NB556_543:=amk ((by rw [hg];exact Nat.ne_of_gt (blk_lt (g:=gb543) (o:=.cells #[.int .i64 0,.int .i64 0,.int .i64 0] 44 (0,0)) (bkk BK543)) : gb556 ≠ gb543));replace BK543:=amk (blk_below (g:=gb543) (o:=.cells #[.int .i64 0,.int .i64 0,.int .i64 0] 44 (0,0)) (bkk BK543) hb);have NB0_556:=amk ((by rw [hg];exact Nat.ne_of_lt (IsS77.lt (show IsS77 w0 _ g s0_0 t554 t555 from by exact i77_1 HI0 NB0_543.out)) : g ≠ gb556));have NB556_0:=amk ((by rw [hg];exact Nat.ne_of_gt (IsS77.lt (show IsS77 w0 _ g s0_0 t554 t555 from by exact i77_1 HI0 NB0_543.out)) : gb556 ≠ g));replace HI0:=amk (IsS77.below (i77_1 HI0 NB0_543.out) hb);clear hb hbox hg;have hnb16:=NB556_543.out;have hnc16:=NB543_556.out;have hnb17:=NB556_0.out;have hnc17:=NB0_556.out;have hcz18_0 : w15.cell? ⟨gb556,0,none⟩=some (.int .i64 0):=(blk_cell BK556.out 0).trans rfl;have hcz18_1 : w15.cell? ⟨gb556,1,none⟩=some (.int .i64 0):=(blk_cell BK556.out 1).trans rfl;have hcz18_2 : w15.cell? ⟨gb556,2,none⟩=some (.int .i64 0):=(blk_cell BK556.out 2).trans rfl;have hfz18_0:=blk_frozen BK556.out 0;have hfz18_1:=blk_frozen BK556.out 1;have hfz18_2:=blk_frozen BK556.out 2))
 (try simp only [Act.put,List.setIfInBounds_toArray,List.set_cons_zero,List.set_cons_succ])
 go_cut [23] (fun v23 wc=>∃ (kq : Nat) (x23_4 : Bool) (x1001_4 : Int) (x1002_4 : Int),v23 = .bool x23_4∧Aside0 (spec_l1Cur_sump.j0 kq x23_4 s0_0 x1001_4 x1002_4 a1 t547 t553=some (r1,r2,r3,r4,r5))∧Aside0 (kq≤k)∧Aside0 (wc.heap[gb543]? = some (.cells #[.int .i64 0,.int .i64 0,.int .i64 0] 44 (0,0)))∧Aside0 (wc.heap[gb556]? = some (.cells #[.int .i64 a1,.int .i64 t547,.int .i64 t553] 44 (0,0)))∧Aside0 (IsS77 w0 wc g s0_0 x1001_4 x1002_4)∧Aside0 (KeepBut w wc g none)∧Aside0 (Below w0.heap.size w0 wc))
 case first=>
  have H:=HC5.out
  clear HC5
  by_cases c19 : t553 > t547
  ·rw [if_pos c19] at H
   have c19b0 : decide (t547 < t553)=true:=decide_eq_true c19
   clear c19
   (first | rw [c19b0] | (simp only [i64_w,i32_w];rw [c19b0]) | skip)
   replace H:=obs H
   obtain ⟨⟨t557,t558,t559⟩,A200,H⟩:=H
   replace H : (spec_l1Cur_sump.j0 k (!t557) s0_0 t558 t559 a1 t547 t553)=some (r1,r2,r3,r4,r5):=H
   have A20:=amk A200
   clear A200
   have H':=amk H
   clear H
   have hnb21:=NB556_543.out
   have hnc21:=NB543_556.out
   have hnb22:=NB556_0.out
   have hnc22:=NB0_556.out
   have hcz23_0 : w15.cell? ⟨gb556,0,none⟩=some (.int .i64 0):=(blk_cell BK556.out 0).trans rfl
   have hcz23_1 : w15.cell? ⟨gb556,1,none⟩=some (.int .i64 0):=(blk_cell BK556.out 1).trans rfl
   have hcz23_2 : w15.cell? ⟨gb556,2,none⟩=some (.int .i64 0):=(blk_cell BK556.out 2).trans rfl
   have hfz23_0:=blk_frozen BK556.out 0
   have hfz23_1:=blk_frozen BK556.out 1
   have hfz23_2:=blk_frozen BK556.out 2
   go_wp2_with (first | (go_at_call 84;(with_reducible refine (spec_l1Cur_one.calls g s0_0 t554 t555 20 t557 t558 t559 w0 _ ?side1 ?side2 A20.out).mono ?_);(case side1=>exact i77_2 HI0 NB0_543.out NB0_556.out);(case side2=>exact bel3 HB (IsS77.ge HI0.out) GE543.out GE556.out);rintro e w24 ⟨rfl,hi,hb,hk⟩;have n0_:=amk (KeepBut.blk hk (g':=gb543) (o:=.cells #[.int .i64 0,.int .i64 0,.int .i64 0] 44 (0,0)) (by (with_reducible repeat (first | refine blk_drewN ?_ _ | refine blk_drew ?_ | refine blk_alloc ?_ _));refine blk_far ?_ NB543_556.out _;(with_reducible repeat (first | refine blk_drewN ?_ _ | refine blk_drew ?_ | refine blk_alloc ?_ _));refine blk_far ?_ NB543_556.out _;(with_reducible repeat (first | refine blk_drewN ?_ _ | refine blk_drew ?_ | refine blk_alloc ?_ _));refine blk_far ?_ NB543_556.out _;(with_reducible repeat (first | refine blk_drewN ?_ _ | refine blk_drew ?_ | refine blk_alloc ?_ _));exact BK543.out) NB543_0.out (by simp));have n1_:=amk (Kd.R_mono (Kd.R_keep (IsS77.apart (show IsS77 w0 _ g s0_0 t554 t555 from by exact i77_2 HI0 NB0_543.out NB0_556.out) (by (with_reducible repeat (first | apply Kd.R_alloc | apply Kd.R_drewN | apply Kd.R_drew));exact (Kd.R_mono (Kd.R_far (p:=⟨gb556,2,none⟩) (Kd.R_far (p:=⟨gb556,1,none⟩) (Kd.R_far (p:=⟨gb556,0,none⟩) (Kd.R_types HO546.out BK556.out (by decide)) (fun _ hk=>hk.2) (.int .i64 a1)) (fun _ hk=>hk.2) (.int .i64 t547)) (fun _ hk=>hk.2) (.int .i64 t553)) (fun _ h_=>h_.1))) (by decide)) hk (fun _ h=>h.2)) (fun _ h=>h.1));have n2_:=amk (Kd.R_mono (Kd.R_keep (IsS77.apart (show IsS77 w0 _ g s0_0 t554 t555 from by exact i77_2 HI0 NB0_543.out NB0_556.out) (by (with_reducible repeat (first | apply Kd.R_alloc | apply Kd.R_drewN | apply Kd.R_drew));exact (Kd.R_mono (Kd.R_far (p:=⟨gb556,2,none⟩) (Kd.R_far (p:=⟨gb556,1,none⟩) (Kd.R_far (p:=⟨gb556,0,none⟩) (Kd.R_types HO552.out BK556.out (by decide)) (fun _ hk=>hk.2) (.int .i64 a1)) (fun _ hk=>hk.2) (.int .i64 t547)) (fun _ hk=>hk.2) (.int .i64 t553)) (fun _ h_=>h_.1))) (by decide)) hk (fun _ h=>h.2)) (fun _ h=>h.1));have n3_:=amk (KeepBut.blk hk (g':=gb556) (o:=.cells #[.int .i64 a1,.int .i64 t547,.int .i64 t553] 44 (0,0)) (by (with_reducible repeat (first | refine blk_drewN ?_ _ | refine blk_drew ?_ | refine blk_alloc ?_ _));refine blk_put (cs:=#[.int .i64 a1,.int .i64 t547,.int .i64 0]) ?_ 2 _ rfl;(with_reducible repeat (first | refine blk_drewN ?_ _ | refine blk_drew ?_ | refine blk_alloc ?_ _));refine blk_put (cs:=#[.int .i64 a1,.int .i64 0,.int .i64 0]) ?_ 1 _ rfl;(with_reducible repeat (first | refine blk_drewN ?_ _ | refine blk_drew ?_ | refine blk_alloc ?_ _));refine blk_put (cs:=#[.int .i64 0,.int .i64 0,.int .i64 0]) ?_ 0 _ rfl;(with_reducible repeat (first | refine blk_drewN ?_ _ | refine blk_drew ?_ | refine blk_alloc ?_ _));exact BK556.out) NB556_0.out (by simp));have n4_:=amk (KeepBut.trans (kkk2 HK GW543.out GW556.out) hk (.inl rfl));have n5_:=amk (hb);have n6_:=amk (hi);clear BK543;clear HO546;clear HO552;clear BK556;clear HK;clear HB;clear HI0;have BK543:=n0_;have HO546:=n1_;have HO552:=n2_;have BK556:=n3_;have HK:=n4_;have HB:=n5_;have HI0:=n6_;clear n0_ n1_ n2_ n3_ n4_ n5_ n6_;(try clear hb hk hi)))
   go_meet
   case rel=>exact ⟨_,(!t557),(t558),(t559),rsd,H',⟨by first | omega | exact Nat.le_refl _⟩,⟨by (with_reducible repeat (first | refine blk_drewN ?_ _ | refine blk_drew ?_ | refine blk_alloc ?_ _));exact BK543.out⟩,⟨by (with_reducible repeat (first | refine blk_drewN ?_ _ | refine blk_drew ?_ | refine blk_alloc ?_ _));exact BK556.out⟩,⟨i77_2 HI0 NB0_543.out NB0_556.out⟩,⟨kkk2 HK GW543.out GW556.out⟩,⟨bel3 HB (IsS77.ge HI0.out) GE543.out GE556.out⟩⟩
  ·rw [if_neg c19] at H
   have c19b0 : decide (t547 < t553)=false:=decide_eq_false c19
   clear c19
   (first | rw [c19b0] | (simp only [i64_w,i32_w];rw [c19b0]) | skip)
   have H':=amk H
   clear H
   have hnb25:=NB556_543.out
   have hnc25:=NB543_556.out
   have hnb26:=NB556_0.out
   have hnc26:=NB0_556.out
   have hcz27_0 : w15.cell? ⟨gb556,0,none⟩=some (.int .i64 0):=(blk_cell BK556.out 0).trans rfl
   have hcz27_1 : w15.cell? ⟨gb556,1,none⟩=some (.int .i64 0):=(blk_cell BK556.out 1).trans rfl
   have hcz27_2 : w15.cell? ⟨gb556,2,none⟩=some (.int .i64 0):=(blk_cell BK556.out 2).trans rfl
   have hfz27_0:=blk_frozen BK556.out 0
   have hfz27_1:=blk_frozen BK556.out 1
   have hfz27_2:=blk_frozen BK556.out 2
   go_wp2
   go_meet
   case rel=>exact ⟨_,(false),(t554),(t555),rsd,H',⟨by first | omega | exact Nat.le_refl _⟩,⟨by (with_reducible repeat (first | refine blk_drewN ?_ _ | refine blk_drew ?_ | refine blk_alloc ?_ _));refine blk_far ?_ NB543_556.out _;(with_reducible repeat (first | refine blk_drewN ?_ _ | refine blk_drew ?_ | refine blk_alloc ?_ _));refine blk_far ?_ NB543_556.out _;(with_reducible repeat (first | refine blk_drewN ?_ _ | refine blk_drew ?_ | refine blk_alloc ?_ _));refine blk_far ?_ NB543_556.out _;(with_reducible repeat (first | refine blk_drewN ?_ _ | refine blk_drew ?_ | refine blk_alloc ?_ _));exact BK543.out⟩,⟨by (with_reducible repeat (first | refine blk_drewN ?_ _ | refine blk_drew ?_ | refine blk_alloc ?_ _));refine blk_put (cs:=#[.int .i64 a1,.int .i64 t547,.int .i64 0]) ?_ 2 _ rfl;(with_reducible repeat (first | refine blk_drewN ?_ _ | refine blk_drew ?_ | refine blk_alloc ?_ _));refine blk_put (cs:=#[.int .i64 a1,.int .i64 0,.int .i64 0]) ?_ 1 _ rfl;(with_reducible repeat (first | refine blk_drewN ?_ _ | refine blk_drew ?_ | refine blk_alloc ?_ _));refine blk_put (cs:=#[.int .i64 0,.int .i64 0,.int .i64 0]) ?_ 0 _ rfl;(with_reducible repeat (first | refine blk_drewN ?_ _ | refine blk_drew ?_ | refine blk_alloc ?_ _));exact BK556.out⟩,⟨i77_2 HI0 NB0_543.out NB0_556.out⟩,⟨kkk2 HK GW543.out GW556.out⟩,⟨bel3 HB (IsS77.ge HI0.out) GE543.out GE556.out⟩⟩
 case rest=>
  clear HC5
  try clear c1
  try clear c2
  try clear p2
  try clear c7
  try clear c8
  try clear c16
  try clear c17
  try clear c19
  try clear c19b0
  try clear c21
  try clear c22
  try clear c25
  try clear c26
  try clear hcz18_0
  try clear hcz18_1
  try clear hcz18_2
  try clear hcz23_0
  try clear hcz23_1
  try clear hcz23_2
  try clear hcz27_0
  try clear hcz27_1
  try clear hcz27_2
  try clear hfz18_0
  try clear hfz18_1
  try clear hfz18_2
  try clear hfz23_0
  try clear hfz23_1
  try clear hfz23_2
  try clear hfz27_0
  try clear hfz27_1
  try clear hfz27_2
  obtain ⟨kq,x23_4,x1001_4,x1002_4,rfl,HA,HJ4,BK543,BK556,HI0,HK,HB⟩:=hcut
  cases kq with
  | zero=>exact absurd HA.out (by simp [spec_l1Cur_sump.j0])
  | succ kj4=>
   have H:=HA.out
   clear HA
   simp only [spec_l1Cur_sump.j0] at H
   have HC28:=amk H
   clear H
   go_upto_if 23 with (fail)
   go_cut [] (fun wc=>∃ (kq : Nat) (x557002_27 : Int),Aside0 (spec_l1Cur_sump.j1 kq s0_0 x1001_4 x1002_4 a1 t547 x557002_27=some (r1,r2,r3,r4,r5))∧Aside0 (kq≤kj4)∧Aside0 (wc.heap[gb543]? = some (.cells #[.int .i64 0,.int .i64 0,.int .i64 0] 44 (0,0)))∧Aside0 (wc.heap[gb556]? = some (.cells #[.int .i64 a1,.int .i64 t547,.int .i64 x557002_27] 44 (0,0)))∧Aside0 (IsS77 w0 wc g s0_0 x1001_4 x1002_4)∧Aside0 (KeepBut w wc g none)∧Aside0 (Below w0.heap.size w0 wc))
   case first=>
    have H:=HC28.out
    clear HC28
    by_cases c29 : x23_4=true
    ·subst c29
     have H1 : (spec_l1Cur_sump.j1 kj4 s0_0 x1001_4 x1002_4 a1 t547 t547)=some (r1,r2,r3,r4,r5):=by rw [if_pos rfl] at H;exact H
     clear H
     have H:=H1
     clear H1
     have H':=amk H
     clear H
     have hnb30:=NB556_543.out
     have hnc30:=NB543_556.out
     have hnb31:=NB556_0.out
     have hnc31:=NB0_556.out
     have hcz32_0 : wc.cell? ⟨gb556,0,none⟩=some (.int .i64 a1):=(blk_cell BK556.out 0).trans rfl
     have hcz32_1 : wc.cell? ⟨gb556,1,none⟩=some (.int .i64 t547):=(blk_cell BK556.out 1).trans rfl
     have hcz32_2 : wc.cell? ⟨gb556,2,none⟩=some (.int .i64 t553):=(blk_cell BK556.out 2).trans rfl
     have hfz32_0:=blk_frozen BK556.out 0
     have hfz32_1:=blk_frozen BK556.out 1
     have hfz32_2:=blk_frozen BK556.out 2
     go_wp2
     go_meet
     case rel=>exact ⟨_,(t547),H',⟨by have:=HJ4.out;first | omega | exact Nat.le_refl _⟩,⟨by (with_reducible repeat (first | refine blk_drewN ?_ _ | refine blk_drew ?_ | refine blk_alloc ?_ _));refine blk_far ?_ NB543_556.out _;(with_reducible repeat (first | refine blk_drewN ?_ _ | refine blk_drew ?_ | refine blk_alloc ?_ _));exact BK543.out⟩,⟨by (with_reducible repeat (first | refine blk_drewN ?_ _ | refine blk_drew ?_ | refine blk_alloc ?_ _));refine blk_put (cs:=#[.int .i64 a1,.int .i64 t547,.int .i64 t553]) ?_ 2 _ rfl;(with_reducible repeat (first | refine blk_drewN ?_ _ | refine blk_drew ?_ | refine blk_alloc ?_ _));exact BK556.out⟩,⟨i77_2 HI0 NB0_543.out NB0_556.out⟩,⟨kkk2 HK GW543.out GW556.out⟩,⟨bel3 HB (IsS77.ge HI0.out) GE543.out GE556.out⟩⟩
    ·replace c29:=Bool.eq_false_iff.mpr c29
     subst c29
     have H1 : (spec_l1Cur_sump.j1 kj4 s0_0 x1001_4 x1002_4 a1 t547 t553)=some (r1,r2,r3,r4,r5):=by rw [if_neg (show ¬ (false=true) by decide)] at H;exact H
     clear H
     have H:=H1
     clear H1
     have H':=amk H
     clear H
     go_wp2
     go_meet
     case rel=>exact ⟨_,(t553),H',⟨by have:=HJ4.out;first | omega | exact Nat.le_refl _⟩,⟨by (with_reducible repeat (first | refine blk_drewN ?_ _ | refine blk_drew ?_ | refine blk_alloc ?_ _));exact BK543.out⟩,⟨by (with_reducible repeat (first | refine blk_drewN ?_ _ | refine blk_drew ?_ | refine blk_alloc ?_ _));exact BK556.out⟩,⟨i77_2 HI0 NB0_543.out NB0_556.out⟩,⟨kkk2 HK GW543.out GW556.out⟩,⟨bel3 HB (IsS77.ge HI0.out) GE543.out GE556.out⟩⟩
   case rest=>
    clear HC28
    try clear c1
    try clear c2
    try clear p2
    try clear c3
    try clear c7
    try clear c8
    try clear c16
    try clear c17
    try clear c19
    try clear c19b0
    try clear c21
    try clear c22
    try clear c25
    try clear c26
    try clear c29
    try clear c30
    try clear c31
    try clear hcz18_0
    try clear hcz18_1
    try clear hcz18_2
    try clear hcz23_0
    try clear hcz23_1
    try clear hcz23_2
    try clear hcz27_0
    try clear hcz27_1
    try clear hcz27_2
    try clear hcz32_0
    try clear hcz32_1
    try clear hcz32_2
    try clear hfz18_0
    try clear hfz18_1
    try clear hfz18_2
    try clear hfz23_0
    try clear hfz23_1
    try clear hfz23_2
    try clear hfz27_0
    try clear hfz27_1
    try clear hfz27_2
    try clear hfz32_0
    try clear hfz32_1
    try clear hfz32_2
    try clear p2
    obtain ⟨kq,x557002_27,HA,HJ27,BK543,BK556,HI0,HK,HB⟩:=hcut
    cases kq with
    | zero=>exact absurd HA.out (by simp [spec_l1Cur_sump.j1])
    | succ kj27=>
     have H:=HA.out
     clear HA
     simp only [spec_l1Cur_sump.j1] at H
     replace H:=obs H
     obtain ⟨⟨t560,t561,t562⟩,A330,H⟩:=H
     replace H : (if t560=0 then ((spec_l1Cur_among.f s0_0 t561 t562 (([(-1),8] : List Int))).bind fun bt566=>(some (bt566.1,t547,x557002_27,bt566.2.1,bt566.2.2))) else (if t560=1 then ((spec_l1Cur_among.f s0_0 t561 t562 (([(-501),501] : List Int))).bind fun bt572=>(some (a1,bt572.1,x557002_27,bt572.2.1,bt572.2.2))) else (if t560=2 then ((spec_l1Cur_among.f s0_0 t561 t562 (([(-501),wrap64 (t547 + 1)] : List Int))).bind fun bt578=>(some (a1,t547,bt578.1,bt578.2.1,bt578.2.2))) else (some (a1,t547,x557002_27,t561,t562)))))=some (r1,r2,r3,r4,r5):=H
     have A33:=amk A330
     clear A330
     by_cases c34 : t560=0
     ·rw [if_pos c34] at H
      have c34b0 : (t560 == 0)=true:=beq_iff_eq.mpr c34
      have c34b1 : (t560 != 0)=false:=bne_eq_false_iff_eq.mpr c34
      clear c34
      obtain ⟨y563,hy563⟩ : ∃ y_ : List Int,y_=(([(-1),8] : List Int)):=⟨_,rfl⟩
      replace H : ((spec_l1Cur_among.f s0_0 t561 t562 y563).bind fun bt566=>(some (bt566.1,t547,x557002_27,bt566.2.1,bt566.2.2)))=some (r1,r2,r3,r4,r5):=by first | (rw [hy563];with_reducible exact H)|(have H2_:=(Option.bind_some _ _).symm.trans H;rw [hy563];with_reducible exact H2_)|(have H2_:=(Option.bind_some _ _).symm.trans H;with_reducible exact H2_) | with_reducible exact H | (rw [hy563];exact H) | exact H
      have Ny563:=amk hy563
      clear hy563
      replace H:=obs H
      obtain ⟨⟨t566,t567,t568⟩,A350,H⟩:=H
      replace H : (some (t566,t547,x557002_27,t567,t568))=some (r1,r2,r3,r4,r5):=H
      have A35:=amk A350
      clear A350
      simp only [Option.some.injEq,Prod.mk.injEq] at H
      obtain ⟨rfl,rfl,rfl,rfl,rfl⟩:=H
      go_wp2_with (first | ((with_reducible refine gate_callee (f:=81) rfl ?_);refine goesL_ (some 28) rfl rfl Try.func81 (by kernel_rfl) rfl #[.pointer (some ⟨g,0,none⟩),.int .i64 60] rfl mtt ?_;(with_reducible refine (spec_l1Cur_pick.calls g s0_0 x1001_4 x1002_4 60 t560 t561 t562 w0 _ ?side1 ?side2 A33.out).mono ?_);(case side1=>exact i77_2 HI0 NB0_543.out NB0_556.out);(case side2=>exact bel3 HB (IsS77.ge HI0.out) GE543.out GE556.out);rintro e w36 ⟨rfl,hi,hb,hk⟩;refine ⟨_,rfl,?_⟩;replace BK543:=amk (KeepBut.blk hk (g':=gb543) (o:=.cells #[.int .i64 0,.int .i64 0,.int .i64 0] 44 (0,0)) (bkk BK543) NB543_0.out (by simp));replace BK556:=amk (KeepBut.blk hk (g':=gb556) (o:=.cells #[.int .i64 a1,.int .i64 t547,.int .i64 x557002_27] 44 (0,0)) (bkk BK556) NB556_0.out (by simp));replace HK:=amk (KeepBut.trans (kkk2 HK GW543.out GW556.out) hk (.inl rfl));replace HB:=amk (hb);replace HI0:=amk (hi);(try clear hb hk hi))|((with_reducible refine gate_dst (N:=32) rfl ?_);refine Kd.R_lit (Kd.int .i64) _ 3 ?hg (N:=32) ?hd (xs:=([(-1),8] : List Int)) (inner:=[.int .i64 (-1),.int .i64 8]) (ok:=fun _=>True) (okp:=fun _=>True) ?hr ?hp (fun _ hk=>hk) trivial (Below.refl _ _) (Nat.le_refl _) (by simp) ?_;(case hd=>rfl);(case hg=>rfl);(case hr=>first | (go_simp;done)|(go_simp;rfl));(case hp=>exact (Reps.one (show Kd.M (Kd.int .i64) _ _ _ (-1) [.int .i64 (-1)] from rfl) (Reps.one (show Kd.M (Kd.int .i64) _ _ _ 8 [.int .i64 8] from rfl) (Reps.none _ _))));intro v564 w37 ho38 hb hg_ hnew_;clear hg_ hnew_;(first | rw [← Ny563.out] at ho38 | (simp only [Int.reduceToNat] at ho38;rw [← Ny563.out] at ho38));have HO565:=amk (Kd.R_lower ho38 (keep_size (w:=w) (g:=g) (row:=none) (kkk2 HK GW543.out GW556.out)));replace BK543:=amk (blk_below (g:=gb543) (o:=.cells #[.int .i64 0,.int .i64 0,.int .i64 0] 44 (0,0)) (bkk BK543) hb);replace BK556:=amk (blk_below (g:=gb556) (o:=.cells #[.int .i64 a1,.int .i64 t547,.int .i64 x557002_27] 44 (0,0)) (bkk BK556) hb);replace HK:=amk (KeepBut.trans (kkk2 HK GW543.out GW556.out) (KeepBut.of_below hb g none) (.inl rfl));replace HB:=amk (below_step (bel3 HB (IsS77.ge HI0.out) GE543.out GE556.out) hb);replace HI0:=amk (IsS77.below (i77_2 HI0 NB0_543.out NB0_556.out) hb);clear hb ho38;obtain ⟨Ao39,co39,eo39⟩:=Kd.R_slice HO565.out;subst eo39)|((with_reducible refine gate_callee (f:=80) rfl ?_);refine goesL_ (some 33) rfl rfl Try.func80 (by kernel_rfl) rfl #[.pointer (some ⟨g,0,none⟩),.slice Ao39 y563.length co39] rfl mtt ?_;(with_reducible refine (spec_l1Cur_among.calls g s0_0 t561 t562 _ _ y563 t566 t567 t568 w0 _ ?side1 ?side2 ?side3 ?side4 ?side5 A35.out).mono ?_);(case side1=>exact i77_2 HI0 NB0_543.out NB0_556.out);(case side2=>exact bel3 HB (IsS77.ge HI0.out) GE543.out GE556.out);(case side3=>exact ccc (Kd.R_reads' HO565.out).2.2);(case side4=>exact (Kd.R_reads' HO565.out).2.1);(case side5=>exact far_slice (IsS77.own_ne HI0.out HO565.out (by decide)));rintro e w40 ⟨rfl,hi,hb,hk⟩;refine ⟨_,rfl,?_⟩;replace BK543:=amk (KeepBut.blk hk (g':=gb543) (o:=.cells #[.int .i64 0,.int .i64 0,.int .i64 0] 44 (0,0)) (bkk BK543) NB543_0.out (by simp));replace BK556:=amk (KeepBut.blk hk (g':=gb556) (o:=.cells #[.int .i64 a1,.int .i64 t547,.int .i64 x557002_27] 44 (0,0)) (bkk BK556) NB556_0.out (by simp));replace HO565:=amk (Kd.R_mono (Kd.R_keep (IsS77.apart (show IsS77 w0 _ g s0_0 t561 t562 from by exact i77_2 HI0 NB0_543.out NB0_556.out) (rrr HO565) (by decide)) hk (fun _ h=>h.2)) (fun _ h=>h.1));replace HK:=amk (KeepBut.trans (kkk2 HK GW543.out GW556.out) hk (.inl rfl));replace HB:=amk (hb);replace HI0:=amk (hi);(try clear hb hk hi);have hnb41:=NB556_543.out;have hnc41:=NB543_556.out;have hnb42:=NB556_0.out;have hnc42:=NB0_556.out;have hcz43_0 : w40.cell? ⟨gb556,0,none⟩=some (.int .i64 a1):=(blk_cell BK556.out 0).trans rfl;have hcz43_1 : w40.cell? ⟨gb556,1,none⟩=some (.int .i64 t547):=(blk_cell BK556.out 1).trans rfl;have hcz43_2 : w40.cell? ⟨gb556,2,none⟩=some (.int .i64 x557002_27):=(blk_cell BK556.out 2).trans rfl;have hfz43_0:=blk_frozen BK556.out 0;have hfz43_1:=blk_frozen BK556.out 1;have hfz43_2:=blk_frozen BK556.out 2;have hnb44:=NB543_0.out;have hnc44:=NB0_543.out;have hcz45_0 : w40.cell? ⟨gb543,0,none⟩=some (.int .i64 0):=(blk_cell BK543.out 0).trans rfl;have hcz45_1 : w40.cell? ⟨gb543,1,none⟩=some (.int .i64 0):=(blk_cell BK543.out 1).trans rfl;have hcz45_2 : w40.cell? ⟨gb543,2,none⟩=some (.int .i64 0):=(blk_cell BK543.out 2).trans rfl;have hfz45_0:=blk_frozen BK543.out 0;have hfz45_1:=blk_frozen BK543.out 1;have hfz45_2:=blk_frozen BK543.out 2))
      refine bodyPost_ret (results_cell_row rfl _ _ gb543 44 #[.int .i64 t566,.int .i64 t547,.int .i64 x557002_27] (0,0) _ rfl (by (with_reducible repeat (first | refine blk_drewN ?_ _ | refine blk_drew ?_ | refine blk_alloc ?_ _));refine blk_put (cs:=#[.int .i64 t566,.int .i64 t547,.int .i64 0]) ?_ 2 _ rfl;(with_reducible repeat (first | refine blk_drewN ?_ _ | refine blk_drew ?_ | refine blk_alloc ?_ _));refine blk_put (cs:=#[.int .i64 t566,.int .i64 0,.int .i64 0]) ?_ 1 _ rfl;(with_reducible repeat (first | refine blk_drewN ?_ _ | refine blk_drew ?_ | refine blk_alloc ?_ _));refine blk_put (cs:=#[.int .i64 0,.int .i64 0,.int .i64 0]) ?_ 0 _ rfl;(with_reducible repeat (first | refine blk_drewN ?_ _ | refine blk_drew ?_ | refine blk_alloc ?_ _));refine blk_far ?_ NB543_556.out _;(with_reducible repeat (first | refine blk_drewN ?_ _ | refine blk_drew ?_ | refine blk_alloc ?_ _));exact BK543.out) Try.underlying44 rfl (by kernel_rfl)) rfl ?_
      exact ⟨erw0,i77_2 HI0 NB0_543.out NB0_556.out,bel3 HB (IsS77.ge HI0.out) GE543.out GE556.out,kkk2 HK GW543.out GW556.out⟩
     ·rw [if_neg c34] at H
      have c34b0 : (t560 == 0)=false:=beq_eq_false_iff_ne.mpr c34
      have c34b1 : (t560 != 0)=true:=bne_iff_ne.mpr c34
      by_cases c46 : t560=1
      ·rw [if_pos c46] at H
       have c46b0 : (t560 == 1)=true:=beq_iff_eq.mpr c46
       have c46b1 : (t560 != 1)=false:=bne_eq_false_iff_eq.mpr c46
       clear c46
       obtain ⟨y569,hy569⟩ : ∃ y_ : List Int,y_=(([(-501),501] : List Int)):=⟨_,rfl⟩
       replace H : ((spec_l1Cur_among.f s0_0 t561 t562 y569).bind fun bt572=>(some (a1,bt572.1,x557002_27,bt572.2.1,bt572.2.2)))=some (r1,r2,r3,r4,r5):=by first | (rw [hy569];with_reducible exact H)|(have H2_:=(Option.bind_some _ _).symm.trans H;rw [hy569];with_reducible exact H2_)|(have H2_:=(Option.bind_some _ _).symm.trans H;with_reducible exact H2_) | with_reducible exact H | (rw [hy569];exact H) | exact H
       have Ny569:=amk hy569
       clear hy569
       replace H:=obs H
       obtain ⟨⟨t572,t573,t574⟩,A470,H⟩:=H
       replace H : (some (a1,t572,x557002_27,t573,t574))=some (r1,r2,r3,r4,r5):=H
       have A47:=amk A470
       clear A470
       simp only [Option.some.injEq,Prod.mk.injEq] at H
       obtain ⟨rfl,rfl,rfl,rfl,rfl⟩:=H
       go_wp2_with (first | ((with_reducible refine gate_callee (f:=81) rfl ?_);refine goesL_ (some 28) rfl rfl Try.func81 (by kernel_rfl) rfl #[.pointer (some ⟨g,0,none⟩),.int .i64 60] rfl mtt ?_;(with_reducible refine (spec_l1Cur_pick.calls g s0_0 x1001_4 x1002_4 60 t560 t561 t562 w0 _ ?side1 ?side2 A33.out).mono ?_);(case side1=>exact i77_2 HI0 NB0_543.out NB0_556.out);(case side2=>exact bel3 HB (IsS77.ge HI0.out) GE543.out GE556.out);rintro e w48 ⟨rfl,hi,hb,hk⟩;refine ⟨_,rfl,?_⟩;replace BK543:=amk (KeepBut.blk hk (g':=gb543) (o:=.cells #[.int .i64 0,.int .i64 0,.int .i64 0] 44 (0,0)) (bkk BK543) NB543_0.out (by simp));replace BK556:=amk (KeepBut.blk hk (g':=gb556) (o:=.cells #[.int .i64 a1,.int .i64 t547,.int .i64 x557002_27] 44 (0,0)) (bkk BK556) NB556_0.out (by simp));replace HK:=amk (KeepBut.trans (kkk2 HK GW543.out GW556.out) hk (.inl rfl));replace HB:=amk (hb);replace HI0:=amk (hi);(try clear hb hk hi))|((with_reducible refine gate_dst (N:=38) rfl ?_);refine Kd.R_lit (Kd.int .i64) _ 3 ?hg (N:=38) ?hd (xs:=([(-501),501] : List Int)) (inner:=[.int .i64 (-501),.int .i64 501]) (ok:=fun _=>True) (okp:=fun _=>True) ?hr ?hp (fun _ hk=>hk) trivial (Below.refl _ _) (Nat.le_refl _) (by simp) ?_;(case hd=>rfl);(case hg=>rfl);(case hr=>first | (go_simp;done)|(go_simp;rfl));(case hp=>exact (Reps.one (show Kd.M (Kd.int .i64) _ _ _ (-501) [.int .i64 (-501)] from rfl) (Reps.one (show Kd.M (Kd.int .i64) _ _ _ 501 [.int .i64 501] from rfl) (Reps.none _ _))));intro v570 w49 ho50 hb hg_ hnew_;clear hg_ hnew_;(first | rw [← Ny569.out] at ho50 | (simp only [Int.reduceToNat] at ho50;rw [← Ny569.out] at ho50));have HO571:=amk (Kd.R_lower ho50 (keep_size (w:=w) (g:=g) (row:=none) (kkk2 HK GW543.out GW556.out)));replace BK543:=amk (blk_below (g:=gb543) (o:=.cells #[.int .i64 0,.int .i64 0,.int .i64 0] 44 (0,0)) (bkk BK543) hb);replace BK556:=amk (blk_below (g:=gb556) (o:=.cells #[.int .i64 a1,.int .i64 t547,.int .i64 x557002_27] 44 (0,0)) (bkk BK556) hb);replace HK:=amk (KeepBut.trans (kkk2 HK GW543.out GW556.out) (KeepBut.of_below hb g none) (.inl rfl));replace HB:=amk (below_step (bel3 HB (IsS77.ge HI0.out) GE543.out GE556.out) hb);replace HI0:=amk (IsS77.below (i77_2 HI0 NB0_543.out NB0_556.out) hb);clear hb ho50;obtain ⟨Ao51,co51,eo51⟩:=Kd.R_slice HO571.out;subst eo51)|((with_reducible refine gate_callee (f:=80) rfl ?_);refine goesL_ (some 39) rfl rfl Try.func80 (by kernel_rfl) rfl #[.pointer (some ⟨g,0,none⟩),.slice Ao51 y569.length co51] rfl mtt ?_;(with_reducible refine (spec_l1Cur_among.calls g s0_0 t561 t562 _ _ y569 t572 t573 t574 w0 _ ?side1 ?side2 ?side3 ?side4 ?side5 A47.out).mono ?_);(case side1=>exact i77_2 HI0 NB0_543.out NB0_556.out);(case side2=>exact bel3 HB (IsS77.ge HI0.out) GE543.out GE556.out);(case side3=>exact ccc (Kd.R_reads' HO571.out).2.2);(case side4=>exact (Kd.R_reads' HO571.out).2.1);(case side5=>exact far_slice (IsS77.own_ne HI0.out HO571.out (by decide)));rintro e w52 ⟨rfl,hi,hb,hk⟩;refine ⟨_,rfl,?_⟩;replace BK543:=amk (KeepBut.blk hk (g':=gb543) (o:=.cells #[.int .i64 0,.int .i64 0,.int .i64 0] 44 (0,0)) (bkk BK543) NB543_0.out (by simp));replace BK556:=amk (KeepBut.blk hk (g':=gb556) (o:=.cells #[.int .i64 a1,.int .i64 t547,.int .i64 x557002_27] 44 (0,0)) (bkk BK556) NB556_0.out (by simp));replace HO571:=amk (Kd.R_mono (Kd.R_keep (IsS77.apart (show IsS77 w0 _ g s0_0 t561 t562 from by exact i77_2 HI0 NB0_543.out NB0_556.out) (rrr HO571) (by decide)) hk (fun _ h=>h.2)) (fun _ h=>h.1));replace HK:=amk (KeepBut.trans (kkk2 HK GW543.out GW556.out) hk (.inl rfl));replace HB:=amk (hb);replace HI0:=amk (hi);(try clear hb hk hi);have hnb53:=NB556_543.out;have hnc53:=NB543_556.out;have hnb54:=NB556_0.out;have hnc54:=NB0_556.out;have hcz55_0 : w52.cell? ⟨gb556,0,none⟩=some (.int .i64 a1):=(blk_cell BK556.out 0).trans rfl;have hcz55_1 : w52.cell? ⟨gb556,1,none⟩=some (.int .i64 t547):=(blk_cell BK556.out 1).trans rfl;have hcz55_2 : w52.cell? ⟨gb556,2,none⟩=some (.int .i64 x557002_27):=(blk_cell BK556.out 2).trans rfl;have hfz55_0:=blk_frozen BK556.out 0;have hfz55_1:=blk_frozen BK556.out 1;have hfz55_2:=blk_frozen BK556.out 2;have hnb56:=NB543_0.out;have hnc56:=NB0_543.out;have hcz57_0 : w52.cell? ⟨gb543,0,none⟩=some (.int .i64 0):=(blk_cell BK543.out 0).trans rfl;have hcz57_1 : w52.cell? ⟨gb543,1,none⟩=some (.int .i64 0):=(blk_cell BK543.out 1).trans rfl;have hcz57_2 : w52.cell? ⟨gb543,2,none⟩=some (.int .i64 0):=(blk_cell BK543.out 2).trans rfl;have hfz57_0:=blk_frozen BK543.out 0;have hfz57_1:=blk_frozen BK543.out 1;have hfz57_2:=blk_frozen BK543.out 2))
       refine bodyPost_ret (results_cell_row rfl _ _ gb543 44 #[.int .i64 a1,.int .i64 t572,.int .i64 x557002_27] (0,0) _ rfl (by (with_reducible repeat (first | refine blk_drewN ?_ _ | refine blk_drew ?_ | refine blk_alloc ?_ _));refine blk_put (cs:=#[.int .i64 a1,.int .i64 t572,.int .i64 0]) ?_ 2 _ rfl;(with_reducible repeat (first | refine blk_drewN ?_ _ | refine blk_drew ?_ | refine blk_alloc ?_ _));refine blk_put (cs:=#[.int .i64 a1,.int .i64 0,.int .i64 0]) ?_ 1 _ rfl;(with_reducible repeat (first | refine blk_drewN ?_ _ | refine blk_drew ?_ | refine blk_alloc ?_ _));refine blk_put (cs:=#[.int .i64 0,.int .i64 0,.int .i64 0]) ?_ 0 _ rfl;(with_reducible repeat (first | refine blk_drewN ?_ _ | refine blk_drew ?_ | refine blk_alloc ?_ _));refine blk_far ?_ NB543_556.out _;(with_reducible repeat (first | refine blk_drewN ?_ _ | refine blk_drew ?_ | refine blk_alloc ?_ _));exact BK543.out) Try.underlying44 rfl (by kernel_rfl)) rfl ?_
       exact ⟨erw0,i77_2 HI0 NB0_543.out NB0_556.out,bel3 HB (IsS77.ge HI0.out) GE543.out GE556.out,kkk2 HK GW543.out GW556.out⟩
      ·rw [if_neg c46] at H
       have c46b0 : (t560 == 1)=false:=beq_eq_false_iff_ne.mpr c46
       have c46b1 : (t560 != 1)=true:=bne_iff_ne.mpr c46
       by_cases c58 : t560=2
       ·rw [if_pos c58] at H
        have c58b0 : (t560 == 2)=true:=beq_iff_eq.mpr c58
        have c58b1 : (t560 != 2)=false:=bne_eq_false_iff_eq.mpr c58
        clear c58
        obtain ⟨y575,hy575⟩ : ∃ y_ : List Int,y_=(([(-501),wrap64 (t547 + 1)] : List Int)):=⟨_,rfl⟩
        replace H : ((spec_l1Cur_among.f s0_0 t561 t562 y575).bind fun bt578=>(some (a1,t547,bt578.1,bt578.2.1,bt578.2.2)))=some (r1,r2,r3,r4,r5):=by first | (rw [hy575];with_reducible exact H)|(have H2_:=(Option.bind_some _ _).symm.trans H;rw [hy575];with_reducible exact H2_)|(have H2_:=(Option.bind_some _ _).symm.trans H;with_reducible exact H2_) | with_reducible exact H | (rw [hy575];exact H) | exact H
        have Ny575:=amk hy575
        clear hy575
        replace H:=obs H
        obtain ⟨⟨t578,t579,t580⟩,A590,H⟩:=H
        replace H : (some (a1,t547,t578,t579,t580))=some (r1,r2,r3,r4,r5):=H
        have A59:=amk A590
        clear A590
        simp only [Option.some.injEq,Prod.mk.injEq] at H
        obtain ⟨rfl,rfl,rfl,rfl,rfl⟩:=H
        go_wp2_with (first | ((with_reducible refine gate_callee (f:=81) rfl ?_);refine goesL_ (some 28) rfl rfl Try.func81 (by kernel_rfl) rfl #[.pointer (some ⟨g,0,none⟩),.int .i64 60] rfl mtt ?_;(with_reducible refine (spec_l1Cur_pick.calls g s0_0 x1001_4 x1002_4 60 t560 t561 t562 w0 _ ?side1 ?side2 A33.out).mono ?_);(case side1=>exact i77_2 HI0 NB0_543.out NB0_556.out);(case side2=>exact bel3 HB (IsS77.ge HI0.out) GE543.out GE556.out);rintro e w60 ⟨rfl,hi,hb,hk⟩;refine ⟨_,rfl,?_⟩;replace BK543:=amk (KeepBut.blk hk (g':=gb543) (o:=.cells #[.int .i64 0,.int .i64 0,.int .i64 0] 44 (0,0)) (bkk BK543) NB543_0.out (by simp));replace BK556:=amk (KeepBut.blk hk (g':=gb556) (o:=.cells #[.int .i64 a1,.int .i64 t547,.int .i64 x557002_27] 44 (0,0)) (bkk BK556) NB556_0.out (by simp));replace HK:=amk (KeepBut.trans (kkk2 HK GW543.out GW556.out) hk (.inl rfl));replace HB:=amk (hb);replace HI0:=amk (hi);(try clear hb hk hi);have hnb61:=NB556_543.out;have hnc61:=NB543_556.out;have hnb62:=NB556_0.out;have hnc62:=NB0_556.out;have hcz63_0 : w60.cell? ⟨gb556,0,none⟩=some (.int .i64 a1):=(blk_cell BK556.out 0).trans rfl;have hcz63_1 : w60.cell? ⟨gb556,1,none⟩=some (.int .i64 t547):=(blk_cell BK556.out 1).trans rfl;have hcz63_2 : w60.cell? ⟨gb556,2,none⟩=some (.int .i64 x557002_27):=(blk_cell BK556.out 2).trans rfl;have hfz63_0:=blk_frozen BK556.out 0;have hfz63_1:=blk_frozen BK556.out 1;have hfz63_2:=blk_frozen BK556.out 2)|((with_reducible refine gate_dst (N:=47) rfl ?_);refine Kd.R_lit (Kd.int .i64) _ 3 ?hg (N:=47) ?hd (xs:=([(-501),wrap64 (t547 + 1)] : List Int)) (inner:=[.int .i64 (-501),.int .i64 (wrap64 (t547 + 1))]) (ok:=fun _=>True) (okp:=fun _=>True) ?hr ?hp (fun _ hk=>hk) trivial (Below.refl _ _) (Nat.le_refl _) (by simp) ?_;(case hd=>rfl);(case hg=>rfl);(case hr=>first | (go_simp;done)|(go_simp;rfl));(case hp=>exact (Reps.one (show Kd.M (Kd.int .i64) _ _ _ (-501) [.int .i64 (-501)] from rfl) (Reps.one (show Kd.M (Kd.int .i64) _ _ _ (wrap64 (t547 + 1)) [.int .i64 (wrap64 (t547 + 1))] from rfl) (Reps.none _ _))));intro v576 w64 ho65 hb hg_ hnew_;clear hg_ hnew_;(first | rw [← Ny575.out] at ho65 | (simp only [Int.reduceToNat] at ho65;rw [← Ny575.out] at ho65));have HO577:=amk (Kd.R_lower ho65 (keep_size (w:=w) (g:=g) (row:=none) (kkk2 HK GW543.out GW556.out)));replace BK543:=amk (blk_below (g:=gb543) (o:=.cells #[.int .i64 0,.int .i64 0,.int .i64 0] 44 (0,0)) (bkk BK543) hb);replace BK556:=amk (blk_below (g:=gb556) (o:=.cells #[.int .i64 a1,.int .i64 t547,.int .i64 x557002_27] 44 (0,0)) (bkk BK556) hb);replace HK:=amk (KeepBut.trans (kkk2 HK GW543.out GW556.out) (KeepBut.of_below hb g none) (.inl rfl));replace HB:=amk (below_step (bel3 HB (IsS77.ge HI0.out) GE543.out GE556.out) hb);replace HI0:=amk (IsS77.below (i77_2 HI0 NB0_543.out NB0_556.out) hb);clear hb ho65;obtain ⟨Ao66,co66,eo66⟩:=Kd.R_slice HO577.out;subst eo66)|((with_reducible refine gate_callee (f:=80) rfl ?_);refine goesL_ (some 48) rfl rfl Try.func80 (by kernel_rfl) rfl #[.pointer (some ⟨g,0,none⟩),.slice Ao66 y575.length co66] rfl mtt ?_;(with_reducible refine (spec_l1Cur_among.calls g s0_0 t561 t562 _ _ y575 t578 t579 t580 w0 _ ?side1 ?side2 ?side3 ?side4 ?side5 A59.out).mono ?_);(case side1=>exact i77_2 HI0 NB0_543.out NB0_556.out);(case side2=>exact bel3 HB (IsS77.ge HI0.out) GE543.out GE556.out);(case side3=>exact ccc (Kd.R_reads' HO577.out).2.2);(case side4=>exact (Kd.R_reads' HO577.out).2.1);(case side5=>exact far_slice (IsS77.own_ne HI0.out HO577.out (by decide)));rintro e w67 ⟨rfl,hi,hb,hk⟩;refine ⟨_,rfl,?_⟩;replace BK543:=amk (KeepBut.blk hk (g':=gb543) (o:=.cells #[.int .i64 0,.int .i64 0,.int .i64 0] 44 (0,0)) (bkk BK543) NB543_0.out (by simp));replace BK556:=amk (KeepBut.blk hk (g':=gb556) (o:=.cells #[.int .i64 a1,.int .i64 t547,.int .i64 x557002_27] 44 (0,0)) (bkk BK556) NB556_0.out (by simp));replace HO577:=amk (Kd.R_mono (Kd.R_keep (IsS77.apart (show IsS77 w0 _ g s0_0 t561 t562 from by exact i77_2 HI0 NB0_543.out NB0_556.out) (rrr HO577) (by decide)) hk (fun _ h=>h.2)) (fun _ h=>h.1));replace HK:=amk (KeepBut.trans (kkk2 HK GW543.out GW556.out) hk (.inl rfl));replace HB:=amk (hb);replace HI0:=amk (hi);(try clear hb hk hi);have hcz68_0 : w67.cell? ⟨gb556,0,none⟩=some (.int .i64 a1):=(blk_cell BK556.out 0).trans rfl;have hcz68_1 : w67.cell? ⟨gb556,1,none⟩=some (.int .i64 t547):=(blk_cell BK556.out 1).trans rfl;have hcz68_2 : w67.cell? ⟨gb556,2,none⟩=some (.int .i64 x557002_27):=(blk_cell BK556.out 2).trans rfl;have hfz68_0:=blk_frozen BK556.out 0;have hfz68_1:=blk_frozen BK556.out 1;have hfz68_2:=blk_frozen BK556.out 2;have hnb69:=NB543_0.out;have hnc69:=NB0_543.out;have hcz70_0 : w67.cell? ⟨gb543,0,none⟩=some (.int .i64 0):=(blk_cell BK543.out 0).trans rfl;have hcz70_1 : w67.cell? ⟨gb543,1,none⟩=some (.int .i64 0):=(blk_cell BK543.out 1).trans rfl;have hcz70_2 : w67.cell? ⟨gb543,2,none⟩=some (.int .i64 0):=(blk_cell BK543.out 2).trans rfl;have hfz70_0:=blk_frozen BK543.out 0;have hfz70_1:=blk_frozen BK543.out 1;have hfz70_2:=blk_frozen BK543.out 2))
        refine bodyPost_ret (results_cell_row rfl _ _ gb543 44 #[.int .i64 a1,.int .i64 t547,.int .i64 t578] (0,0) _ rfl (by (with_reducible repeat (first | refine blk_drewN ?_ _ | refine blk_drew ?_ | refine blk_alloc ?_ _));refine blk_put (cs:=#[.int .i64 a1,.int .i64 t547,.int .i64 0]) ?_ 2 _ rfl;(with_reducible repeat (first | refine blk_drewN ?_ _ | refine blk_drew ?_ | refine blk_alloc ?_ _));refine blk_put (cs:=#[.int .i64 a1,.int .i64 0,.int .i64 0]) ?_ 1 _ rfl;(with_reducible repeat (first | refine blk_drewN ?_ _ | refine blk_drew ?_ | refine blk_alloc ?_ _));refine blk_put (cs:=#[.int .i64 0,.int .i64 0,.int .i64 0]) ?_ 0 _ rfl;(with_reducible repeat (first | refine blk_drewN ?_ _ | refine blk_drew ?_ | refine blk_alloc ?_ _));refine blk_far ?_ NB543_556.out _;(with_reducible repeat (first | refine blk_drewN ?_ _ | refine blk_drew ?_ | refine blk_alloc ?_ _));exact BK543.out) Try.underlying44 rfl (by kernel_rfl)) rfl ?_
        exact ⟨erw0,i77_2 HI0 NB0_543.out NB0_556.out,bel3 HB (IsS77.ge HI0.out) GE543.out GE556.out,kkk2 HK GW543.out GW556.out⟩
       ·rw [if_neg c58] at H
        have c58b0 : (t560 == 2)=false:=beq_eq_false_iff_ne.mpr c58
        have c58b1 : (t560 != 2)=true:=bne_iff_ne.mpr c58
        simp only [Option.some.injEq,Prod.mk.injEq] at H
        obtain ⟨rfl,rfl,rfl,rfl,rfl⟩:=H
        go_wp2_with (first | ((with_reducible refine gate_callee (f:=81) rfl ?_);refine goesL_ (some 28) rfl rfl Try.func81 (by kernel_rfl) rfl #[.pointer (some ⟨g,0,none⟩),.int .i64 60] rfl mtt ?_;(with_reducible refine (spec_l1Cur_pick.calls g s0_0 x1001_4 x1002_4 60 t560 t561 t562 w0 _ ?side1 ?side2 A33.out).mono ?_);(case side1=>exact i77_2 HI0 NB0_543.out NB0_556.out);(case side2=>exact bel3 HB (IsS77.ge HI0.out) GE543.out GE556.out);rintro e w71 ⟨rfl,hi,hb,hk⟩;refine ⟨_,rfl,?_⟩;replace BK543:=amk (KeepBut.blk hk (g':=gb543) (o:=.cells #[.int .i64 0,.int .i64 0,.int .i64 0] 44 (0,0)) (bkk BK543) NB543_0.out (by simp));replace BK556:=amk (KeepBut.blk hk (g':=gb556) (o:=.cells #[.int .i64 a1,.int .i64 t547,.int .i64 x557002_27] 44 (0,0)) (bkk BK556) NB556_0.out (by simp));replace HK:=amk (KeepBut.trans (kkk2 HK GW543.out GW556.out) hk (.inl rfl));replace HB:=amk (hb);replace HI0:=amk (hi);(try clear hb hk hi);have hnb72:=NB556_543.out;have hnc72:=NB543_556.out;have hnb73:=NB556_0.out;have hnc73:=NB0_556.out;have hcz74_0 : w71.cell? ⟨gb556,0,none⟩=some (.int .i64 a1):=(blk_cell BK556.out 0).trans rfl;have hcz74_1 : w71.cell? ⟨gb556,1,none⟩=some (.int .i64 t547):=(blk_cell BK556.out 1).trans rfl;have hcz74_2 : w71.cell? ⟨gb556,2,none⟩=some (.int .i64 x557002_27):=(blk_cell BK556.out 2).trans rfl;have hfz74_0:=blk_frozen BK556.out 0;have hfz74_1:=blk_frozen BK556.out 1;have hfz74_2:=blk_frozen BK556.out 2;have hnb75:=NB543_0.out;have hnc75:=NB0_543.out;have hcz76_0 : w71.cell? ⟨gb543,0,none⟩=some (.int .i64 0):=(blk_cell BK543.out 0).trans rfl;have hcz76_1 : w71.cell? ⟨gb543,1,none⟩=some (.int .i64 0):=(blk_cell BK543.out 1).trans rfl;have hcz76_2 : w71.cell? ⟨gb543,2,none⟩=some (.int .i64 0):=(blk_cell BK543.out 2).trans rfl;have hfz76_0:=blk_frozen BK543.out 0;have hfz76_1:=blk_frozen BK543.out 1;have hfz76_2:=blk_frozen BK543.out 2))
        refine bodyPost_ret (results_cell_row rfl _ _ gb543 44 #[.int .i64 a1,.int .i64 t547,.int .i64 x557002_27] (0,0) _ rfl (by (with_reducible repeat (first | refine blk_drewN ?_ _ | refine blk_drew ?_ | refine blk_alloc ?_ _));refine blk_put (cs:=#[.int .i64 a1,.int .i64 t547,.int .i64 0]) ?_ 2 _ rfl;(with_reducible repeat (first | refine blk_drewN ?_ _ | refine blk_drew ?_ | refine blk_alloc ?_ _));refine blk_put (cs:=#[.int .i64 a1,.int .i64 0,.int .i64 0]) ?_ 1 _ rfl;(with_reducible repeat (first | refine blk_drewN ?_ _ | refine blk_drew ?_ | refine blk_alloc ?_ _));refine blk_put (cs:=#[.int .i64 0,.int .i64 0,.int .i64 0]) ?_ 0 _ rfl;(with_reducible repeat (first | refine blk_drewN ?_ _ | refine blk_drew ?_ | refine blk_alloc ?_ _));exact BK543.out) Try.underlying44 rfl (by kernel_rfl)) rfl ?_
        exact ⟨erw0,i77_2 HI0 NB0_543.out NB0_556.out,bel3 HB (IsS77.ge HI0.out) GE543.out GE556.out,kkk2 HK GW543.out GW556.out⟩
def spec_DrawIsOpen.f (k : Nat) (l0 : List Int) : Option ((List (S30)) × Int × Int × Int × Int):=(spec_l1Cur_readings.f k l0 0 0).bind fun bt583=>((spec_l1Cur_sump.f k l0 bt583.2.1 bt583.2.2 3).bind fun bt588=>((spec_l1Cur_hour23.f k l0 bt588.2.2.2.1 bt588.2.2.2.2 bt583.1).bind fun bt594=>(some (bt583.1,bt588.1,bt588.2.1,bt588.2.2.1,bt594.1))))
theorem spec_DrawIsOpen.mono : ∀ a0 k,LeO (spec_DrawIsOpen.f k a0) (spec_DrawIsOpen.f (k + 1) a0):=by
 intro a0 k
 unfold spec_DrawIsOpen.f
 repeat' first
   | (with_reducible exact spec_l1Cur_hour23.mono _ _ _ _ _)
   | (with_reducible exact spec_l1Cur_readings.mono _ _ _ _)
   | (with_reducible exact spec_l1Cur_sump.mono _ _ _ _ _)
   | (with_reducible exact LeO.refl _)
   | (with_reducible exact LeO.none _)
   | (with_reducible refine LeO.ite ?_ ?_)
   | (with_reducible refine LeO.bind ?_ (fun _=>?_))
def spec_DrawIsOpen.T4 : Bool × List (List Nat × List Nat):=(true,[([],[]),([],[]),([],[]),([],[]),([2,3],[2,3]),([0,4,0],[0]),([1,5,0,1,5],[1]),([4,6,0,1,2,3,4,5,6],[4])])
def spec_DrawIsOpen.B4 : List Nat:=[0,0,0,0,12,29,63,127]
theorem spec_DrawIsOpen.tab4 : rtab .any (opsOf Try.f32 4)=spec_DrawIsOpen.T4:=by kernel_rfl
theorem spec_DrawIsOpen.bits4 : waitsOk spec_DrawIsOpen.T4.2 spec_DrawIsOpen.B4=true:=by kernel_rfl
set_option maxHeartbeats 8000000 in
set_option maxRecDepth 100000 in
theorem spec_DrawIsOpen.calls (k : Nat) (A0 : Option Addr) (c0 : Nat) (l0 : List Int) (r1 : List (S30)) (r2 : Int) (r3 : Int) (r4 : Int) (r5 : Int) (w : World) (hr0 : Kd.C (Kd.int .u8) w A0 l0.length l0) (hc0 : l0.length≤c0) (h : spec_DrawIsOpen.f k l0=some (r1,r2,r3,r4,r5)) :
  Calls Try.prog 32 #[.slice A0 l0.length c0] w fun e w'=>∃ v0_ : Value,e = .returned (.tuple #[v0_,.agg #[.int .i64 r2,.int .i64 r3,.int .i64 r4],.int .i64 r5])∧Kd.R k30 30 w' w.heap.size (fun _=>True) v0_ r1∧Below w.heap.size w w':=by
 have hu44:=Try.underlying44
 have hu77:=Try.underlying77
 have HR0:=amk hr0
 have HC0:=amk hc0
 clear hr0 hc0
 have HB:=amk (Below.refl w.heap.size w)
 have H : ((spec_l1Cur_readings.f k l0 0 0).bind fun bt583=>((spec_l1Cur_sump.f k l0 bt583.2.1 bt583.2.2 3).bind fun bt588=>((spec_l1Cur_hour23.f k l0 bt588.2.2.2.1 bt588.2.2.2.2 bt583.1).bind fun bt594=>(some (bt583.1,bt588.1,bt588.2.1,bt588.2.2.1,bt594.1)))))=some (r1,r2,r3,r4,r5):=h
 clear h
 replace H:=obs H
 obtain ⟨⟨t583,t586,t587⟩,A20,H⟩:=H
 replace H : ((spec_l1Cur_sump.f k l0 t586 t587 3).bind fun bt588=>((spec_l1Cur_hour23.f k l0 bt588.2.2.2.1 bt588.2.2.2.2 t583).bind fun bt594=>(some (t583,bt588.1,bt588.2.1,bt588.2.2.1,bt594.1))))=some (r1,r2,r3,r4,r5):=H
 have A2:=amk A20
 clear A20
 replace H:=obs H
 obtain ⟨⟨t588,t589,t590,t591,t592⟩,A30,H⟩:=H
 replace H : ((spec_l1Cur_hour23.f k l0 t591 t592 t583).bind fun bt594=>(some (t583,t588,t589,t590,bt594.1)))=some (r1,r2,r3,r4,r5):=H
 have A3:=amk A30
 clear A30
 replace H:=obs H
 obtain ⟨⟨t594,t595,t596⟩,A40,H⟩:=H
 replace H : (some (t583,t588,t589,t590,t594))=some (r1,r2,r3,r4,r5):=H
 have A4:=amk A40
 clear A40
 simp only [Option.some.injEq,Prod.mk.injEq] at H
 obtain ⟨rfl,rfl,rfl,rfl,rfl⟩:=H
 go_enter Try.func32,Try.ntmps32
 try go_wp2_with (first | ((with_reducible refine gate_dst (N:=3) rfl ?_);refine box_event ?hg (N:=3) ?hd (cs:=#[.int .i64 0,.int .i64 0,.int .i64 0]) (t:=44) ?hr ?_;(case hd=>rfl);(case hg=>rfl);(case hr=>first | (go_simp;done)|(go_simp;rfl));intro gb581 hg w5 hbox hb;have BK581:=amk (hbox);have GW581:=amk ((by rw [hg];exact (below_size (bel HB)) : w.heap.size≤gb581));have GE581:=amk ((by rw [hg];exact (below_size (bel HB)) : w.heap.size≤gb581));replace HB:=amk (below_step (bel HB) hb);clear hb hbox hg)|((with_reducible refine gate_dst (N:=10) rfl ?_);refine box_event ?hg (N:=10) ?hd (cs:=#[.slice A0 l0.length c0,.int .i64 0,.int .u64 0]) (t:=77) ?hr ?_;(case hd=>rfl);(case hg=>rfl);(case hr=>first | (go_simp;done)|(go_simp;rfl));intro gb582 hg w6 hbox hb;have NB581_582:=amk ((by rw [hg];exact Nat.ne_of_lt (blk_lt (g:=gb581) (o:=.cells #[.int .i64 0,.int .i64 0,.int .i64 0] 44 (0,0)) (bkk BK581)) : gb581 ≠ gb582));have NB582_581:=amk ((by rw [hg];exact Nat.ne_of_gt (blk_lt (g:=gb581) (o:=.cells #[.int .i64 0,.int .i64 0,.int .i64 0] 44 (0,0)) (bkk BK581)) : gb582 ≠ gb581));replace BK581:=amk (blk_below (g:=gb581) (o:=.cells #[.int .i64 0,.int .i64 0,.int .i64 0] 44 (0,0)) (bkk BK581) hb);have HI582:=amk ((⟨_,_,hbox,(by rw [hg];exact (below_size (bel1 HB GE581.out)) : w.heap.size≤gb582),HR0.out⟩ : IsS77 w w6 gb582 l0 0 0));replace HB:=amk (below_step (bel1 HB GE581.out) hb);clear hb hbox hg)|((with_reducible refine gate_callee (f:=47) rfl ?_);refine goesL_ (some 12) rfl rfl Try.func47 (by kernel_rfl) rfl #[.pointer (some ⟨gb582,0,none⟩)] rfl mtt ?_;(with_reducible refine (spec_l1Cur_readings.calls k gb582 l0 0 0 t583 t586 t587 w _ ?side1 ?side2 A2.out).mono ?_);(case side1=>exact i77_1 HI582 NB582_581.out);(case side2=>exact bel2 HB (IsS77.ge HI582.out) GE581.out);rintro e w7 ⟨v584,rfl,ho0,hi,hb,hk⟩;refine ⟨_,rfl,?_⟩;replace BK581:=amk (KeepBut.blk hk (g':=gb581) (o:=.cells #[.int .i64 0,.int .i64 0,.int .i64 0] 44 (0,0)) (bkk BK581) NB581_582.out (by simp));have HO585:=amk (Kd.R_lower ho0 (below_size (bel2 HB (IsS77.ge HI582.out) GE581.out)));replace HB:=amk (hb);replace HI582:=amk (hi);(try clear hb hk hi ho0))|((with_reducible refine gate_callee (f:=78) rfl ?_);refine goesL_ (some 14) rfl rfl Try.func78 (by kernel_rfl) rfl #[.pointer (some ⟨gb582,0,none⟩),.int .i64 3] rfl mtt ?_;(with_reducible refine (spec_l1Cur_sump.calls k gb582 l0 t586 t587 3 t588 t589 t590 t591 t592 w _ ?side1 ?side2 A3.out).mono ?_);(case side1=>exact i77_1 HI582 NB582_581.out);(case side2=>exact bel2 HB (IsS77.ge HI582.out) GE581.out);rintro e w8 ⟨rfl,hi,hb,hk⟩;refine ⟨_,rfl,?_⟩;replace BK581:=amk (KeepBut.blk hk (g':=gb581) (o:=.cells #[.int .i64 0,.int .i64 0,.int .i64 0] 44 (0,0)) (bkk BK581) NB581_582.out (by simp));replace HO585:=amk (Kd.R_mono (Kd.R_keep (IsS77.apart (show IsS77 w _ gb582 l0 t586 t587 from by exact i77_1 HI582 NB582_581.out) (rrr HO585) (by decide)) hk (fun _ h=>h.2)) (fun _ h=>h.1));replace HB:=amk (hb);replace HI582:=amk (hi);(try clear hb hk hi))|((with_reducible refine gate_dst (N:=7) rfl ?_);refine box_event ?hg (N:=7) ?hd (cs:=#[.int .i64 0,.int .i64 0,.int .i64 0]) (t:=44) ?hr ?_;(case hd=>rfl);(case hg=>rfl);(case hr=>first | (go_simp;done)|(go_simp;rfl));intro gb593 hg w9 hbox hb;replace HO585:=amk (Kd.R_below (rrr HO585) hb);have BK593:=amk (hbox);have GW593:=amk ((by rw [hg];exact (below_size (bel2 HB (IsS77.ge HI582.out) GE581.out)) : w.heap.size≤gb593));have GE593:=amk ((by rw [hg];exact (below_size (bel2 HB (IsS77.ge HI582.out) GE581.out)) : w.heap.size≤gb593));replace HB:=amk (below_step (bel2 HB (IsS77.ge HI582.out) GE581.out) hb);have NB581_593:=amk ((by rw [hg];exact Nat.ne_of_lt (blk_lt (g:=gb581) (o:=.cells #[.int .i64 0,.int .i64 0,.int .i64 0] 44 (0,0)) (bkk BK581)) : gb581 ≠ gb593));have NB593_581:=amk ((by rw [hg];exact Nat.ne_of_gt (blk_lt (g:=gb581) (o:=.cells #[.int .i64 0,.int .i64 0,.int .i64 0] 44 (0,0)) (bkk BK581)) : gb593 ≠ gb581));replace BK581:=amk (blk_below (g:=gb581) (o:=.cells #[.int .i64 0,.int .i64 0,.int .i64 0] 44 (0,0)) (bkk BK581) hb);have NB582_593:=amk ((by rw [hg];exact Nat.ne_of_lt (IsS77.lt (show IsS77 w _ gb582 l0 t591 t592 from by exact i77_1 HI582 NB582_581.out)) : gb582 ≠ gb593));have NB593_582:=amk ((by rw [hg];exact Nat.ne_of_gt (IsS77.lt (show IsS77 w _ gb582 l0 t591 t592 from by exact i77_1 HI582 NB582_581.out)) : gb593 ≠ gb582));replace HI582:=amk (IsS77.below (i77_1 HI582 NB582_581.out) hb);clear hb hbox hg;have hnb10:=NB593_581.out;have hnc10:=NB581_593.out;have hnb11:=NB593_582.out;have hnc11:=NB582_593.out;have hcz12_0 : w9.cell? ⟨gb593,0,none⟩=some (.int .i64 0):=(blk_cell BK593.out 0).trans rfl;have hcz12_1 : w9.cell? ⟨gb593,1,none⟩=some (.int .i64 0):=(blk_cell BK593.out 1).trans rfl;have hcz12_2 : w9.cell? ⟨gb593,2,none⟩=some (.int .i64 0):=(blk_cell BK593.out 2).trans rfl;have hfz12_0:=blk_frozen BK593.out 0;have hfz12_1:=blk_frozen BK593.out 1;have hfz12_2:=blk_frozen BK593.out 2))
 have n0_ : Aside0 (Kd.R k30 30 (((w9.setCell ⟨gb593,0,none⟩ (.int .i64 t588)).setCell ⟨gb593,1,none⟩ (.int .i64 t589)).setCell ⟨gb593,2,none⟩ (.int .i64 t590)) w.heap.size (fun _=>True) v584 t583):=⟨by (with_reducible repeat (first | apply Kd.R_alloc | apply Kd.R_drewN | apply Kd.R_drew));exact Kd.R_mono (Kd.R_far (p:=⟨gb593,2,none⟩) (Kd.R_far (p:=⟨gb593,1,none⟩) (Kd.R_far (p:=⟨gb593,0,none⟩) (Kd.R_types HO585.out BK593.out (by decide)) (fun _ hk=>hk.2) (.int .i64 t588)) (fun _ hk=>hk.2) (.int .i64 t589)) (fun _ hk=>hk.2) (.int .i64 t590)) (fun _ hk=>trivial)⟩
 have n1_ : Aside0 ((((w9.setCell ⟨gb593,0,none⟩ (.int .i64 t588)).setCell ⟨gb593,1,none⟩ (.int .i64 t589)).setCell ⟨gb593,2,none⟩ (.int .i64 t590)).heap[gb581]? = some (.cells #[.int .i64 0,.int .i64 0,.int .i64 0] 44 (0,0))):=⟨by (with_reducible repeat (first | refine blk_drewN ?_ _ | refine blk_drew ?_ | refine blk_alloc ?_ _));refine blk_far ?_ NB581_593.out _;(with_reducible repeat (first | refine blk_drewN ?_ _ | refine blk_drew ?_ | refine blk_alloc ?_ _));refine blk_far ?_ NB581_593.out _;(with_reducible repeat (first | refine blk_drewN ?_ _ | refine blk_drew ?_ | refine blk_alloc ?_ _));refine blk_far ?_ NB581_593.out _;(with_reducible repeat (first | refine blk_drewN ?_ _ | refine blk_drew ?_ | refine blk_alloc ?_ _));exact BK581.out⟩
 have n2_ : Aside0 ((((w9.setCell ⟨gb593,0,none⟩ (.int .i64 t588)).setCell ⟨gb593,1,none⟩ (.int .i64 t589)).setCell ⟨gb593,2,none⟩ (.int .i64 t590)).heap[gb593]? = some (.cells #[.int .i64 t588,.int .i64 t589,.int .i64 t590] 44 (0,0))):=⟨by (with_reducible repeat (first | refine blk_drewN ?_ _ | refine blk_drew ?_ | refine blk_alloc ?_ _));refine blk_put (cs:=#[.int .i64 t588,.int .i64 t589,.int .i64 0]) ?_ 2 _ rfl;(with_reducible repeat (first | refine blk_drewN ?_ _ | refine blk_drew ?_ | refine blk_alloc ?_ _));refine blk_put (cs:=#[.int .i64 t588,.int .i64 0,.int .i64 0]) ?_ 1 _ rfl;(with_reducible repeat (first | refine blk_drewN ?_ _ | refine blk_drew ?_ | refine blk_alloc ?_ _));refine blk_put (cs:=#[.int .i64 0,.int .i64 0,.int .i64 0]) ?_ 0 _ rfl;(with_reducible repeat (first | refine blk_drewN ?_ _ | refine blk_drew ?_ | refine blk_alloc ?_ _));exact BK593.out⟩
 have n3_ : Aside0 (IsS77 w (((w9.setCell ⟨gb593,0,none⟩ (.int .i64 t588)).setCell ⟨gb593,1,none⟩ (.int .i64 t589)).setCell ⟨gb593,2,none⟩ (.int .i64 t590)) gb582 l0 t591 t592):=⟨i77_2 HI582 NB582_581.out NB582_593.out⟩
 have n4_ : Aside0 (Below w.heap.size w (((w9.setCell ⟨gb593,0,none⟩ (.int .i64 t588)).setCell ⟨gb593,1,none⟩ (.int .i64 t589)).setCell ⟨gb593,2,none⟩ (.int .i64 t590))):=⟨bel3 HB (IsS77.ge HI582.out) GE581.out GE593.out⟩
 (try clear HO585)
 (try clear BK581)
 (try clear BK593)
 (try clear HI582)
 (try clear HB)
 generalize (((w9.setCell ⟨gb593,0,none⟩ (.int .i64 t588)).setCell ⟨gb593,1,none⟩ (.int .i64 t589)).setCell ⟨gb593,2,none⟩ (.int .i64 t590))=w13 at n0_ n1_ n2_ n3_ n4_ ⊢
 have HO585:=n0_
 have BK581:=n1_
 have BK593:=n2_
 have HI582:=n3_
 have HB:=n4_
 clear n0_ n1_ n2_ n3_ n4_
 have n0_:=amk (Kd.R_drew HO585.out)
 have n1_:=amk (blk_drew BK581.out)
 have n2_:=amk (blk_drew BK593.out)
 have n3_:=amk (IsS77.drew HI582.out)
 have n4_:=amk (below_drew1 HB.out)
 clear HO585
 clear BK581
 clear BK593
 clear HI582
 clear HB
 have HO585:=n0_
 have BK581:=n1_
 have BK593:=n2_
 have HI582:=n3_
 have HB:=n4_
 clear n0_ n1_ n2_ n3_ n4_
 obtain ⟨Ao15,co15,eo15⟩:=Kd.R_slice HO585.out
 (first | subst eo15 | (injection eo15 with f1_ f2_ f3_;have f4_:=f1_.symm;have f5_:=f3_.symm;clear f1_ f2_ f3_;subst f4_;subst f5_))
 refine start_ (n:=8) (S:=fun w'=>w'.cell? ⟨gb593,0,none⟩=some (.int .i64 t588)∧w'.cell? ⟨gb593,1,none⟩=some (.int .i64 t589)∧w'.cell? ⟨gb593,2,none⟩=some (.int .i64 t590)) (ds:=[]) #[F0,F0,F0,F0,F0,F0,F0,F0] (by kernel_rfl) rfl rfl ⟨(blk_cell BK593.out 0).trans rfl,(blk_cell BK593.out 1).trans rfl,(blk_cell BK593.out 2).trans rfl⟩ (fun hHeld=>?_);refine with_tabW spec_DrawIsOpen.tab4 spec_DrawIsOpen.bits4 (fun HT_ HW_=>?_)
 generalize w13.drew=w14 at HO585 BK581 BK593 HI582 HB hHeld ⊢
 refine pure_ (i:=0) (N:=some 15) (v:=?_) (a':=?_) #[T0,F0,F0,F0,F0,F0,F0,F0] rfl rfl (any_of HT_.out (by kernel_rfl)) (fun _ _ _ h=>h) (Or.inl ⟨by rfl,?_⟩) ?_ ?_
 rotate_left
 ·intro w'
  go_simp
  with_reducible rfl
 rotate_left
 ·simp only [Act.put,sI,sZ,sS,i64_w,i32_w]
  rfl
 refine pure_ (i:=2) (N:=some 17) (v:=?_) (a':=?_) #[T0,F0,T0,F0,F0,F0,F0,F0] rfl rfl (any_of HT_.out (by kernel_rfl)) (fun _ _ _ h=>h) (Or.inl ⟨by rfl,?_⟩) ?_ ?_
 rotate_left
 ·intro w'
  go_simp
  with_reducible rfl
 rotate_left
 ·simp only [Act.put,sI,sZ,sS,i64_w,i32_w]
  rfl
 refine pure_ (i:=3) (N:=some 18) (v:=?_) (a':=?_) #[T0,F0,T0,T0,F0,F0,F0,F0] rfl rfl (any_of HT_.out (by kernel_rfl)) (fun _ _ _ h=>h) (Or.inl ⟨by rfl,?_⟩) ?_ ?_
 rotate_left
 ·intro w'
  go_simp
  with_reducible rfl
 rotate_left
 ·simp only [Act.put,sI,sZ,sS,i64_w,i32_w]
  rfl
 refine take_ (i:=1) (N:=some 16) (v:=?_) (a':=?_) #[T0,T0,T0,T0,F0,F0,F0,F0] rfl rfl (take_ofW HT_.out HW_.out (by kernel_rfl)) (fun _ _ _ h=>h) (Or.inl ⟨by rfl,?_⟩) hHeld ?_ ?_
 rotate_left
 ·rintro w' ⟨s0,s1,s2⟩
  go_simp
  with_reducible rfl
 rotate_left
 ·simp only [Act.put,sI,sZ,sS,i64_w,i32_w]
  rfl
 refine one_ (i:=4) (N:=some 19) #[T0,T0,T0,T0,T0,F0,F0,F0] rfl rfl (one_of HT_.out (by kernel_rfl)) (by decide) (fun K hK=>?_)
 refine goes_ Try.func48 (by kernel_rfl) rfl #[.pointer (some ⟨gb582,0,none⟩),.slice Ao15 t583.length co15] (by rfl) rfl rfl mtt ?_
 with_reducible refine (spec_l1Cur_hour23.calls k gb582 l0 t591 t592 _ _ t583 t594 t595 t596 w _ ?side1 ?side2 ?side3 ?side4 A4.out).mono ?_
 (case side1=>exact i77_2 HI582 NB582_581.out NB582_593.out)
 (case side2=>exact bel3 HB (IsS77.ge HI582.out) GE581.out GE593.out)
 (case side3=>exact Kd.C_foot_own (IsS77.apart (show IsS77 w _ gb582 l0 t591 t592 from by exact i77_2 HI582 NB582_581.out NB582_593.out) (rrr HO585) (by decide)) (fun _ h_=>h_.2))
 (case side4=>exact (Kd.R_reads' HO585.out).2.1)
 rintro e w16 ⟨rfl,hi,hb,hk⟩
 refine ⟨_,rfl,?_⟩
 have n0_:=amk (KeepBut.blk hk (g':=gb581) (o:=.cells #[.int .i64 0,.int .i64 0,.int .i64 0] 44 (0,0)) (bkk BK581) NB581_582.out (by simp))
 have n1_:=amk (Kd.R_mono (Kd.R_keep (IsS77.apart (show IsS77 w _ gb582 l0 t591 t592 from by exact i77_2 HI582 NB582_581.out NB582_593.out) (rrr HO585) (by decide)) hk (fun _ h=>h.2)) (fun _ h=>h.1))
 have n2_:=amk (KeepBut.blk hk (g':=gb593) (o:=.cells #[.int .i64 t588,.int .i64 t589,.int .i64 t590] 44 (0,0)) (bkk BK593) NB593_582.out (by simp))
 have n3_:=amk (hb)
 have n4_:=amk (hi)
 clear BK581
 clear HO585
 clear BK593
 clear HB
 clear HI582
 have BK581:=n0_
 have HO585:=n1_
 have BK593:=n2_
 have HB:=n3_
 have HI582:=n4_
 clear n0_ n1_ n2_ n3_ n4_
 (try clear hb)
 (try clear hb2)
 (try clear hk)
 (try clear hi)
 refine hK.out _ _ ⟨(blk_cell BK593.out 0).trans rfl,(blk_cell BK593.out 1).trans rfl,(blk_cell BK593.out 2).trans rfl⟩ (fun hHeld=>?_)
 clear hK K
 refine norm_ (a':=?_) ?_ ?_
 rotate_left
 ·show Act.put _ (some 19) _=_
  simp only [Act.put,sI,sZ,sS,i64_w,i32_w]
  rfl
 refine pure_ (i:=5) (N:=some 2) (v:=?_) (a':=?_) #[T0,T0,T0,T0,T0,T0,F0,F0] rfl rfl (any_of HT_.out (by kernel_rfl)) (fun _ _ _ h=>h) (Or.inl ⟨by rfl,?_⟩) ?_ ?_
 rotate_left
 ·intro w'
  go_simp
  with_reducible rfl
 rotate_left
 ·simp only [Act.put,sI,sZ,sS,i64_w,i32_w]
  rfl
 refine one_ (i:=6) (N:=none) #[T0,T0,T0,T0,T0,T0,T0,F0] rfl rfl (one_of HT_.out (by kernel_rfl)) (by decide) (fun K hK=>?_)
 have hs17 : w16.cell? ⟨gb581,0,none⟩=some (.int .i64 0):=(blk_cell BK581.out 0).trans rfl
 have hfs17:=blk_frozen BK581.out 0
 have hns17_1:=NB593_581.out
 have hms17_1:=NB581_593.out
 have hs18 : w16.cell? ⟨gb581,1,none⟩=some (.int .i64 0):=(blk_cell BK581.out 1).trans rfl
 have hfs18:=blk_frozen BK581.out 1
 have hns18_1:=NB593_581.out
 have hms18_1:=NB581_593.out
 have hs19 : w16.cell? ⟨gb581,2,none⟩=some (.int .i64 0):=(blk_cell BK581.out 2).trans rfl
 have hfs19:=blk_frozen BK581.out 2
 have hns19_1:=NB593_581.out
 have hms19_1:=NB581_593.out
 refine skip_ (w1:=?_) (by rfl) rfl ?_ ?_
 rotate_left
 ·go_simp
  rfl
 refine hK.out _ _ ⟨((cell_far (p:=⟨gb581,_,none⟩) NB593_581.out _).trans (((cell_far (p:=⟨gb581,_,none⟩) NB593_581.out _).trans (((cell_far (p:=⟨gb581,_,none⟩) NB593_581.out _).trans (hHeld.1)))))),((cell_far (p:=⟨gb581,_,none⟩) NB593_581.out _).trans (((cell_far (p:=⟨gb581,_,none⟩) NB593_581.out _).trans (((cell_far (p:=⟨gb581,_,none⟩) NB593_581.out _).trans (hHeld.2.1)))))),((cell_far (p:=⟨gb581,_,none⟩) NB593_581.out _).trans (((cell_far (p:=⟨gb581,_,none⟩) NB593_581.out _).trans (((cell_far (p:=⟨gb581,_,none⟩) NB593_581.out _).trans (hHeld.2.2))))))⟩ (fun hHeld=>?_)
 clear hK K
 refine pure_ (i:=7) (N:=some 4) (v:=?_) (a':=?_) #[T0,T0,T0,T0,T0,T0,T0,T0] rfl rfl (any_of HT_.out (by kernel_rfl)) (fun _ _ _ h=>h) (Or.inl ⟨by rfl,?_⟩) ?_ ?_
 rotate_left
 ·intro w'
  go_simp
  with_reducible rfl
 rotate_left
 ·simp only [Act.put,sI,sZ,sS,i64_w,i32_w]
  rfl
 refine done_ (done_of HT_.out (by kernel_rfl)) ?_
 try go_wp2
 refine bodyPost_ret (results_list (rs:=[.tmp 2,.cell 3 44,.tmp 4]) rfl (by simp) (.tmp (.cell gb581 44 #[.int .i64 t588,.int .i64 t589,.int .i64 t590] (0,0) _ rfl (by (with_reducible repeat (first | refine blk_drewN ?_ _ | refine blk_drew ?_ | refine blk_alloc ?_ _));refine blk_put (cs:=#[.int .i64 t588,.int .i64 t589,.int .i64 0]) ?_ 2 _ rfl;(with_reducible repeat (first | refine blk_drewN ?_ _ | refine blk_drew ?_ | refine blk_alloc ?_ _));refine blk_put (cs:=#[.int .i64 t588,.int .i64 0,.int .i64 0]) ?_ 1 _ rfl;(with_reducible repeat (first | refine blk_drewN ?_ _ | refine blk_drew ?_ | refine blk_alloc ?_ _));refine blk_put (cs:=#[.int .i64 0,.int .i64 0,.int .i64 0]) ?_ 0 _ rfl;(with_reducible repeat (first | refine blk_drewN ?_ _ | refine blk_drew ?_ | refine blk_alloc ?_ _));exact BK581.out) Try.underlying44 rfl (by kernel_rfl) (.tmp .nil)))) rfl ?_
 exact ⟨_,erw0,by (with_reducible repeat (first | apply Kd.R_alloc | apply Kd.R_drewN | apply Kd.R_drew));exact Kd.R_mono (Kd.R_far (p:=⟨gb581,2,none⟩) (Kd.R_far (p:=⟨gb581,1,none⟩) (Kd.R_far (p:=⟨gb581,0,none⟩) (Kd.R_types HO585.out BK581.out (by decide)) (fun _ hk=>hk.2) (.int .i64 t588)) (fun _ hk=>hk.2) (.int .i64 t589)) (fun _ hk=>hk.2) (.int .i64 t590)) (fun _ hk=>trivial),bel3 HB (IsS77.ge HI582.out) GE581.out GE593.out⟩
def impl_hasHour.f (k : Nat) (l0 : List (S30)) (a1 : Int) : Option (Bool):=(impl_hours.f l0).bind fun bt209=>((impl_AreReadings.f k l0).bind fun t211=>(if t211=true then ((impl_within.f a1 bt209.1 bt209.2).bind fun t212=>(some t212)) else (some false)))
theorem impl_hasHour.mono : ∀ a0 a1 k,LeO (impl_hasHour.f k a0 a1) (impl_hasHour.f (k + 1) a0 a1):=by
 intro a0 a1 k
 unfold impl_hasHour.f
 repeat' first
   | (with_reducible exact impl_AreReadings.mono _ _)
   | (with_reducible exact LeO.refl _)
   | (with_reducible exact LeO.none _)
   | (with_reducible refine LeO.ite ?_ ?_)
   | (with_reducible refine LeO.bind ?_ (fun _=>?_))
set_option maxHeartbeats 8000000 in
set_option maxRecDepth 100000 in
theorem impl_hasHour.calls (k : Nat) (A0 : Option Addr) (c0 : Nat) (l0 : List (S30)) (a1 : Int) (r : Bool) (w : World) (hr0 : Kd.C k30 w A0 l0.length l0) (hc0 : l0.length≤c0) (h : impl_hasHour.f k l0 a1=some r) :
  Calls Try.prog 49 #[.slice A0 l0.length c0,.int .i64 a1] w fun e w'=>e = .returned (.bool r)∧Below w.heap.size w w':=by
 have HR0:=amk hr0
 have HC0:=amk hc0
 clear hr0 hc0
 have HB:=amk (Below.refl w.heap.size w)
 have H : ((impl_hours.f l0).bind fun bt209=>((impl_AreReadings.f k l0).bind fun t211=>(if t211=true then ((impl_within.f a1 bt209.1 bt209.2).bind fun t212=>(some t212)) else (some false))))=some r:=h
 clear h
 replace H:=obs H
 obtain ⟨⟨t209,t210⟩,A30,H⟩:=H
 replace H : ((impl_AreReadings.f k l0).bind fun t211=>(if t211=true then ((impl_within.f a1 t209 t210).bind fun t212=>(some t212)) else (some false)))=some r:=H
 have A3:=amk A30
 clear A30
 replace H:=obs H
 obtain ⟨t211,A40,H⟩:=H
 replace H : (if t211=true then ((impl_within.f a1 t209 t210).bind fun t212=>(some t212)) else (some false))=some r:=H
 have A4:=amk A40
 clear A40
 by_cases c5 : t211=true
 ·subst c5
  have H1 : ((impl_within.f a1 t209 t210).bind fun t212=>(some t212))=some r:=by rw [if_pos rfl] at H;exact H
  clear H
  have H:=H1
  clear H1
  replace H:=obs H
  obtain ⟨t212,A60,H⟩:=H
  replace H : (some t212)=some r:=H
  have A6:=amk A60
  clear A60
  obtain rfl:=Option.some.inj H
  go_enter Try.func49,Try.ntmps49
  go_wp2_with (first | ((with_reducible refine gate_callee (f:=63) rfl ?_);refine goesL_ (some 9) rfl rfl Try.func63 (by kernel_rfl) rfl #[.slice A0 l0.length c0] rfl mtt ?_;(with_reducible refine (impl_hours.calls _ _ l0 t209 t210 _ ?side1 ?side2 A3.out).mono ?_);(case side1=>exact ccc HR0.out);(case side2=>exact HC0.out);rintro e w' ⟨rfl,⟨nd,rfl⟩⟩;refine ⟨_,rfl,?_⟩)|((with_reducible refine gate_callee (f:=15) rfl ?_);refine goesL_ (some 13) rfl rfl Try.func15 (by kernel_rfl) rfl #[.slice A0 l0.length c0] rfl mtt ?_;(with_reducible refine (impl_AreReadings.calls k _ _ l0 true _ ?side1 ?side2 A4.out).mono ?_);(case side1=>exact ccc HR0.out);(case side2=>exact HC0.out);rintro e w7 ⟨rfl,hb⟩;refine ⟨_,rfl,?_⟩;replace HB:=amk (below_step (bel HB) hb);(try clear hb))|(go_at_call 57;(with_reducible refine (impl_within.calls a1 t209 t210 t212 _ A6.out).mono ?_);rintro e w' ⟨rfl,⟨nd,rfl⟩⟩))
  go_ret
  exact ⟨erw0,bel HB⟩
 ·replace c5:=Bool.eq_false_iff.mpr c5
  subst c5
  have H1 : (some false)=some r:=by rw [if_neg (show ¬ (false=true) by decide)] at H;exact H
  clear H
  have H:=H1
  clear H1
  obtain rfl:=Option.some.inj H
  go_enter Try.func49,Try.ntmps49
  go_wp2_with (first | ((with_reducible refine gate_callee (f:=63) rfl ?_);refine goesL_ (some 9) rfl rfl Try.func63 (by kernel_rfl) rfl #[.slice A0 l0.length c0] rfl mtt ?_;(with_reducible refine (impl_hours.calls _ _ l0 t209 t210 _ ?side1 ?side2 A3.out).mono ?_);(case side1=>exact ccc HR0.out);(case side2=>exact HC0.out);rintro e w' ⟨rfl,⟨nd,rfl⟩⟩;refine ⟨_,rfl,?_⟩)|((with_reducible refine gate_callee (f:=15) rfl ?_);refine goesL_ (some 13) rfl rfl Try.func15 (by kernel_rfl) rfl #[.slice A0 l0.length c0] rfl mtt ?_;(with_reducible refine (impl_AreReadings.calls k _ _ l0 false _ ?side1 ?side2 A4.out).mono ?_);(case side1=>exact ccc HR0.out);(case side2=>exact HC0.out);rintro e w8 ⟨rfl,hb⟩;refine ⟨_,rfl,?_⟩;replace HB:=amk (below_step (bel HB) hb);(try clear hb)))
  go_ret
  exact ⟨erw0,bel HB⟩
def impl_IsOpen.f (k : Nat) (l0 : List (S30)) (a1_0 : Int) (a1_1 : Int) (a1_2 : Int) (a2 : Int) : Option (Bool × Bool):=(impl_hasHour.f k l0 a2).bind fun t598=>(if t598=true then ((impl_isSump.f a1_0 a1_1 a1_2).bind fun t599=>(if t599=true then ((impl_Sump_open.f k a1_0 a1_1 a1_2 l0 a2).bind fun t600=>(some (t600,true))) else (some (false,false)))) else (some (false,false)))
theorem impl_IsOpen.mono : ∀ a0 a1 a2 a3 a4 k,LeO (impl_IsOpen.f k a0 a1 a2 a3 a4) (impl_IsOpen.f (k + 1) a0 a1 a2 a3 a4):=by
 intro a0 a1 a2 a3 a4 k
 unfold impl_IsOpen.f
 repeat' first
   | (with_reducible exact impl_Sump_open.mono _ _ _ _ _ _)
   | (with_reducible exact impl_hasHour.mono _ _ _)
   | (with_reducible exact LeO.refl _)
   | (with_reducible exact LeO.none _)
   | (with_reducible refine LeO.ite ?_ ?_)
   | (with_reducible refine LeO.bind ?_ (fun _=>?_))
set_option maxHeartbeats 8000000 in
set_option maxRecDepth 100000 in
theorem impl_IsOpen.calls (k : Nat) (A0 : Option Addr) (c0 : Nat) (l0 : List (S30)) (a1_0 : Int) (a1_1 : Int) (a1_2 : Int) (a2 : Int) (r1 : Bool) (r2 : Bool) (w : World) (hr0 : Kd.C k30 w A0 l0.length l0) (hc0 : l0.length≤c0) (h : impl_IsOpen.f k l0 a1_0 a1_1 a1_2 a2=some (r1,r2)) :
  Calls Try.prog 33 #[.slice A0 l0.length c0,.agg #[.int .i64 a1_0,.int .i64 a1_1,.int .i64 a1_2],.int .i64 a2] w fun e w'=>e = .returned (.tuple #[.bool r1,.bool r2])∧Below w.heap.size w w':=by
 have hu44:=Try.underlying44
 have HR0:=amk hr0
 have HC0:=amk hc0
 clear hr0 hc0
 have HB:=amk (Below.refl w.heap.size w)
 have H : ((impl_hasHour.f k l0 a2).bind fun t598=>(if t598=true then ((impl_isSump.f a1_0 a1_1 a1_2).bind fun t599=>(if t599=true then ((impl_Sump_open.f k a1_0 a1_1 a1_2 l0 a2).bind fun t600=>(some (t600,true))) else (some (false,false)))) else (some (false,false))))=some (r1,r2):=h
 clear h
 replace H:=obs H
 obtain ⟨t598,A40,H⟩:=H
 replace H : (if t598=true then ((impl_isSump.f a1_0 a1_1 a1_2).bind fun t599=>(if t599=true then ((impl_Sump_open.f k a1_0 a1_1 a1_2 l0 a2).bind fun t600=>(some (t600,true))) else (some (false,false)))) else (some (false,false)))=some (r1,r2):=H
 have A4:=amk A40
 clear A40
 by_cases c5 : t598=true
 ·subst c5
  have H1 : ((impl_isSump.f a1_0 a1_1 a1_2).bind fun t599=>(if t599=true then ((impl_Sump_open.f k a1_0 a1_1 a1_2 l0 a2).bind fun t600=>(some (t600,true))) else (some (false,false))))=some (r1,r2):=by rw [if_pos rfl] at H;exact H
  clear H
  have H:=H1
  clear H1
  replace H:=obs H
  obtain ⟨t599,A60,H⟩:=H
  replace H : (if t599=true then ((impl_Sump_open.f k a1_0 a1_1 a1_2 l0 a2).bind fun t600=>(some (t600,true))) else (some (false,false)))=some (r1,r2):=H
  have A6:=amk A60
  clear A60
  by_cases c7 : t599=true
  ·subst c7
   have H1 : ((impl_Sump_open.f k a1_0 a1_1 a1_2 l0 a2).bind fun t600=>(some (t600,true)))=some (r1,r2):=by rw [if_pos rfl] at H;exact H
   clear H
   have H:=H1
   clear H1
   replace H:=obs H
   obtain ⟨t600,A80,H⟩:=H
   replace H : (some (t600,true))=some (r1,r2):=H
   have A8:=amk A80
   clear A80
   simp only [Option.some.injEq,Prod.mk.injEq] at H
   obtain ⟨rfl,rfl⟩:=H
   go_enter Try.func33,Try.ntmps33
   go_wp2_with (first | ((with_reducible refine gate_dst (N:=4) rfl ?_);refine box_event ?hg (N:=4) ?hd (cs:=#[.int .i64 a1_0,.int .i64 a1_1,.int .i64 a1_2]) (t:=44) ?hr ?_;(case hd=>rfl);(case hg=>rfl);(case hr=>first | (go_simp;done)|(go_simp;rfl));intro gb597 hg w9 hbox hb;have BK597:=amk (hbox);have GW597:=amk ((by rw [hg];exact (below_size (bel HB)) : w.heap.size≤gb597));have GE597:=amk ((by rw [hg];exact (below_size (bel HB)) : w.heap.size≤gb597));replace HB:=amk (below_step (bel HB) hb);clear hb hbox hg)|((with_reducible refine gate_callee (f:=49) rfl ?_);refine goesL_ (some 10) rfl rfl Try.func49 (by kernel_rfl) rfl #[.slice A0 l0.length c0,.int .i64 a2] rfl mtt ?_;(with_reducible refine (impl_hasHour.calls k _ _ l0 a2 true _ ?side1 ?side2 A4.out).mono ?_);(case side1=>exact ccc (Kd.C_below HR0.out HB.out));(case side2=>exact HC0.out);rintro e w10 ⟨rfl,hb⟩;refine ⟨_,rfl,?_⟩;replace BK597:=amk (blk_below (g:=gb597) (o:=.cells #[.int .i64 a1_0,.int .i64 a1_1,.int .i64 a1_2] 44 (0,0)) (bkk BK597) hb);replace HB:=amk (below_step (bel1 HB GE597.out) hb);(try clear hb);have hcz11_0 : w10.cell? ⟨gb597,0,none⟩=some (.int .i64 a1_0):=(blk_cell BK597.out 0).trans rfl;have hcz11_1 : w10.cell? ⟨gb597,1,none⟩=some (.int .i64 a1_1):=(blk_cell BK597.out 1).trans rfl;have hcz11_2 : w10.cell? ⟨gb597,2,none⟩=some (.int .i64 a1_2):=(blk_cell BK597.out 2).trans rfl;have hfz11_0:=blk_frozen BK597.out 0;have hfz11_1:=blk_frozen BK597.out 1;have hfz11_2:=blk_frozen BK597.out 2)|(go_at_call 62;(with_reducible refine (impl_isSump.calls a1_0 a1_1 a1_2 true _ A6.out).mono ?_);rintro e w12 ⟨rfl,hb⟩;replace BK597:=amk (blk_below (g:=gb597) (o:=.cells #[.int .i64 a1_0,.int .i64 a1_1,.int .i64 a1_2] 44 (0,0)) (bkk BK597) hb);replace HB:=amk (below_step (bel1 HB GE597.out) hb);(try clear hb);have hcz13_0 : w12.cell? ⟨gb597,0,none⟩=some (.int .i64 a1_0):=(blk_cell BK597.out 0).trans rfl;have hcz13_1 : w12.cell? ⟨gb597,1,none⟩=some (.int .i64 a1_1):=(blk_cell BK597.out 1).trans rfl;have hcz13_2 : w12.cell? ⟨gb597,2,none⟩=some (.int .i64 a1_2):=(blk_cell BK597.out 2).trans rfl;have hfz13_0:=blk_frozen BK597.out 0;have hfz13_1:=blk_frozen BK597.out 1;have hfz13_2:=blk_frozen BK597.out 2)|((with_reducible refine gate_callee (f:=66) rfl ?_);refine goesL_ (some 20) rfl rfl Try.func66 (by kernel_rfl) rfl #[.agg #[.int .i64 a1_0,.int .i64 a1_1,.int .i64 a1_2],.slice A0 l0.length c0,.int .i64 a2] rfl mtt ?_;(with_reducible refine (impl_Sump_open.calls k a1_0 a1_1 a1_2 _ _ l0 a2 t600 _ ?side1 ?side2 A8.out).mono ?_);(case side1=>exact ccc (Kd.C_below HR0.out HB.out));(case side2=>exact HC0.out);rintro e w14 ⟨rfl,hb⟩;refine ⟨_,rfl,?_⟩;replace BK597:=amk (blk_below (g:=gb597) (o:=.cells #[.int .i64 a1_0,.int .i64 a1_1,.int .i64 a1_2] 44 (0,0)) (bkk BK597) hb);replace HB:=amk (below_step (bel1 HB GE597.out) hb);(try clear hb)))
   go_ret2
   exact ⟨erw0,bel1 HB GE597.out⟩
  ·replace c7:=Bool.eq_false_iff.mpr c7
   subst c7
   have H1 : (some (false,false))=some (r1,r2):=by rw [if_neg (show ¬ (false=true) by decide)] at H;exact H
   clear H
   have H:=H1
   clear H1
   simp only [Option.some.injEq,Prod.mk.injEq] at H
   obtain ⟨rfl,rfl⟩:=H
   go_enter Try.func33,Try.ntmps33
   go_wp2_with (first | ((with_reducible refine gate_dst (N:=4) rfl ?_);refine box_event ?hg (N:=4) ?hd (cs:=#[.int .i64 a1_0,.int .i64 a1_1,.int .i64 a1_2]) (t:=44) ?hr ?_;(case hd=>rfl);(case hg=>rfl);(case hr=>first | (go_simp;done)|(go_simp;rfl));intro gb597 hg w15 hbox hb;have BK597:=amk (hbox);have GW597:=amk ((by rw [hg];exact (below_size (bel HB)) : w.heap.size≤gb597));have GE597:=amk ((by rw [hg];exact (below_size (bel HB)) : w.heap.size≤gb597));replace HB:=amk (below_step (bel HB) hb);clear hb hbox hg)|((with_reducible refine gate_callee (f:=49) rfl ?_);refine goesL_ (some 10) rfl rfl Try.func49 (by kernel_rfl) rfl #[.slice A0 l0.length c0,.int .i64 a2] rfl mtt ?_;(with_reducible refine (impl_hasHour.calls k _ _ l0 a2 true _ ?side1 ?side2 A4.out).mono ?_);(case side1=>exact ccc (Kd.C_below HR0.out HB.out));(case side2=>exact HC0.out);rintro e w16 ⟨rfl,hb⟩;refine ⟨_,rfl,?_⟩;replace BK597:=amk (blk_below (g:=gb597) (o:=.cells #[.int .i64 a1_0,.int .i64 a1_1,.int .i64 a1_2] 44 (0,0)) (bkk BK597) hb);replace HB:=amk (below_step (bel1 HB GE597.out) hb);(try clear hb);have hcz17_0 : w16.cell? ⟨gb597,0,none⟩=some (.int .i64 a1_0):=(blk_cell BK597.out 0).trans rfl;have hcz17_1 : w16.cell? ⟨gb597,1,none⟩=some (.int .i64 a1_1):=(blk_cell BK597.out 1).trans rfl;have hcz17_2 : w16.cell? ⟨gb597,2,none⟩=some (.int .i64 a1_2):=(blk_cell BK597.out 2).trans rfl;have hfz17_0:=blk_frozen BK597.out 0;have hfz17_1:=blk_frozen BK597.out 1;have hfz17_2:=blk_frozen BK597.out 2)|(go_at_call 62;(with_reducible refine (impl_isSump.calls a1_0 a1_1 a1_2 false _ A6.out).mono ?_);rintro e w18 ⟨rfl,hb⟩;replace BK597:=amk (blk_below (g:=gb597) (o:=.cells #[.int .i64 a1_0,.int .i64 a1_1,.int .i64 a1_2] 44 (0,0)) (bkk BK597) hb);replace HB:=amk (below_step (bel1 HB GE597.out) hb);(try clear hb)))
   go_ret2
   exact ⟨erw0,bel1 HB GE597.out⟩
 ·replace c5:=Bool.eq_false_iff.mpr c5
  subst c5
  have H1 : (some (false,false))=some (r1,r2):=by rw [if_neg (show ¬ (false=true) by decide)] at H;exact H
  clear H
  have H:=H1
  clear H1
  simp only [Option.some.injEq,Prod.mk.injEq] at H
  obtain ⟨rfl,rfl⟩:=H
  go_enter Try.func33,Try.ntmps33
  go_wp2_with (first | ((with_reducible refine gate_dst (N:=4) rfl ?_);refine box_event ?hg (N:=4) ?hd (cs:=#[.int .i64 a1_0,.int .i64 a1_1,.int .i64 a1_2]) (t:=44) ?hr ?_;(case hd=>rfl);(case hg=>rfl);(case hr=>first | (go_simp;done)|(go_simp;rfl));intro gb597 hg w19 hbox hb;have BK597:=amk (hbox);have GW597:=amk ((by rw [hg];exact (below_size (bel HB)) : w.heap.size≤gb597));have GE597:=amk ((by rw [hg];exact (below_size (bel HB)) : w.heap.size≤gb597));replace HB:=amk (below_step (bel HB) hb);clear hb hbox hg)|((with_reducible refine gate_callee (f:=49) rfl ?_);refine goesL_ (some 10) rfl rfl Try.func49 (by kernel_rfl) rfl #[.slice A0 l0.length c0,.int .i64 a2] rfl mtt ?_;(with_reducible refine (impl_hasHour.calls k _ _ l0 a2 false _ ?side1 ?side2 A4.out).mono ?_);(case side1=>exact ccc (Kd.C_below HR0.out HB.out));(case side2=>exact HC0.out);rintro e w20 ⟨rfl,hb⟩;refine ⟨_,rfl,?_⟩;replace BK597:=amk (blk_below (g:=gb597) (o:=.cells #[.int .i64 a1_0,.int .i64 a1_1,.int .i64 a1_2] 44 (0,0)) (bkk BK597) hb);replace HB:=amk (below_step (bel1 HB GE597.out) hb);(try clear hb)))
  go_ret2
  exact ⟨erw0,bel1 HB GE597.out⟩
def spec_IsOpen.f (k : Nat) (l0 : List (S30)) (a1_0 : Int) (a1_1 : Int) (a1_2 : Int) (a2 : Int) : Option (Bool × Bool):=(spec_l23Within.f k l0 a2).bind fun t602=>(if t602=true then ((spec_l23Sump.f a1_0 a1_1 a1_2).bind fun t603=>(if t603=true then ((spec_l23Open.f k l0 a1_0 a1_1 a1_2 a2).bind fun t604=>(some (t604,true))) else (some (false,false)))) else (some (false,false)))
theorem spec_IsOpen.mono : ∀ a0 a1 a2 a3 a4 k,LeO (spec_IsOpen.f k a0 a1 a2 a3 a4) (spec_IsOpen.f (k + 1) a0 a1 a2 a3 a4):=by
 intro a0 a1 a2 a3 a4 k
 unfold spec_IsOpen.f
 repeat' first
   | (with_reducible exact spec_l23Open.mono _ _ _ _ _ _)
   | (with_reducible exact spec_l23Within.mono _ _ _)
   | (with_reducible exact LeO.refl _)
   | (with_reducible exact LeO.none _)
   | (with_reducible refine LeO.ite ?_ ?_)
   | (with_reducible refine LeO.bind ?_ (fun _=>?_))
set_option maxHeartbeats 8000000 in
set_option maxRecDepth 100000 in
theorem spec_IsOpen.calls (k : Nat) (A0 : Option Addr) (c0 : Nat) (l0 : List (S30)) (a1_0 : Int) (a1_1 : Int) (a1_2 : Int) (a2 : Int) (r1 : Bool) (r2 : Bool) (w : World) (hr0 : Kd.C k30 w A0 l0.length l0) (hc0 : l0.length≤c0) (h : spec_IsOpen.f k l0 a1_0 a1_1 a1_2 a2=some (r1,r2)) :
  Calls Try.prog 34 #[.slice A0 l0.length c0,.agg #[.int .i64 a1_0,.int .i64 a1_1,.int .i64 a1_2],.int .i64 a2] w fun e w'=>e = .returned (.tuple #[.bool r1,.bool r2])∧Below w.heap.size w w':=by
 have hu44:=Try.underlying44
 have HR0:=amk hr0
 have HC0:=amk hc0
 clear hr0 hc0
 have HB:=amk (Below.refl w.heap.size w)
 have H : ((spec_l23Within.f k l0 a2).bind fun t602=>(if t602=true then ((spec_l23Sump.f a1_0 a1_1 a1_2).bind fun t603=>(if t603=true then ((spec_l23Open.f k l0 a1_0 a1_1 a1_2 a2).bind fun t604=>(some (t604,true))) else (some (false,false)))) else (some (false,false))))=some (r1,r2):=h
 clear h
 replace H:=obs H
 obtain ⟨t602,A40,H⟩:=H
 replace H : (if t602=true then ((spec_l23Sump.f a1_0 a1_1 a1_2).bind fun t603=>(if t603=true then ((spec_l23Open.f k l0 a1_0 a1_1 a1_2 a2).bind fun t604=>(some (t604,true))) else (some (false,false)))) else (some (false,false)))=some (r1,r2):=H
 have A4:=amk A40
 clear A40
 by_cases c5 : t602=true
 ·subst c5
  have H1 : ((spec_l23Sump.f a1_0 a1_1 a1_2).bind fun t603=>(if t603=true then ((spec_l23Open.f k l0 a1_0 a1_1 a1_2 a2).bind fun t604=>(some (t604,true))) else (some (false,false))))=some (r1,r2):=by rw [if_pos rfl] at H;exact H
  clear H
  have H:=H1
  clear H1
  replace H:=obs H
  obtain ⟨t603,A60,H⟩:=H
  replace H : (if t603=true then ((spec_l23Open.f k l0 a1_0 a1_1 a1_2 a2).bind fun t604=>(some (t604,true))) else (some (false,false)))=some (r1,r2):=H
  have A6:=amk A60
  clear A60
  by_cases c7 : t603=true
  ·subst c7
   have H1 : ((spec_l23Open.f k l0 a1_0 a1_1 a1_2 a2).bind fun t604=>(some (t604,true)))=some (r1,r2):=by rw [if_pos rfl] at H;exact H
   clear H
   have H:=H1
   clear H1
   replace H:=obs H
   obtain ⟨t604,A80,H⟩:=H
   replace H : (some (t604,true))=some (r1,r2):=H
   have A8:=amk A80
   clear A80
   simp only [Option.some.injEq,Prod.mk.injEq] at H
   obtain ⟨rfl,rfl⟩:=H
   go_enter Try.func34,Try.ntmps34
   go_wp2_with (first | ((with_reducible refine gate_dst (N:=4) rfl ?_);refine box_event ?hg (N:=4) ?hd (cs:=#[.int .i64 a1_0,.int .i64 a1_1,.int .i64 a1_2]) (t:=44) ?hr ?_;(case hd=>rfl);(case hg=>rfl);(case hr=>first | (go_simp;done)|(go_simp;rfl));intro gb601 hg w9 hbox hb;have BK601:=amk (hbox);have GW601:=amk ((by rw [hg];exact (below_size (bel HB)) : w.heap.size≤gb601));have GE601:=amk ((by rw [hg];exact (below_size (bel HB)) : w.heap.size≤gb601));replace HB:=amk (below_step (bel HB) hb);clear hb hbox hg)|((with_reducible refine gate_callee (f:=51) rfl ?_);refine goesL_ (some 10) rfl rfl Try.func51 (by kernel_rfl) rfl #[.slice A0 l0.length c0,.int .i64 a2] rfl mtt ?_;(with_reducible refine (spec_l23Within.calls k _ _ l0 a2 true _ ?side1 ?side2 A4.out).mono ?_);(case side1=>exact ccc (Kd.C_below HR0.out HB.out));(case side2=>exact HC0.out);rintro e w10 ⟨rfl,hb⟩;refine ⟨_,rfl,?_⟩;replace BK601:=amk (blk_below (g:=gb601) (o:=.cells #[.int .i64 a1_0,.int .i64 a1_1,.int .i64 a1_2] 44 (0,0)) (bkk BK601) hb);replace HB:=amk (below_step (bel1 HB GE601.out) hb);(try clear hb);have hcz11_0 : w10.cell? ⟨gb601,0,none⟩=some (.int .i64 a1_0):=(blk_cell BK601.out 0).trans rfl;have hcz11_1 : w10.cell? ⟨gb601,1,none⟩=some (.int .i64 a1_1):=(blk_cell BK601.out 1).trans rfl;have hcz11_2 : w10.cell? ⟨gb601,2,none⟩=some (.int .i64 a1_2):=(blk_cell BK601.out 2).trans rfl;have hfz11_0:=blk_frozen BK601.out 0;have hfz11_1:=blk_frozen BK601.out 1;have hfz11_2:=blk_frozen BK601.out 2)|(go_at_call 59;(with_reducible refine (spec_l23Sump.calls a1_0 a1_1 a1_2 true _ A6.out).mono ?_);rintro e w12 ⟨rfl,hb⟩;replace BK601:=amk (blk_below (g:=gb601) (o:=.cells #[.int .i64 a1_0,.int .i64 a1_1,.int .i64 a1_2] 44 (0,0)) (bkk BK601) hb);replace HB:=amk (below_step (bel1 HB GE601.out) hb);(try clear hb);have hcz13_0 : w12.cell? ⟨gb601,0,none⟩=some (.int .i64 a1_0):=(blk_cell BK601.out 0).trans rfl;have hcz13_1 : w12.cell? ⟨gb601,1,none⟩=some (.int .i64 a1_1):=(blk_cell BK601.out 1).trans rfl;have hcz13_2 : w12.cell? ⟨gb601,2,none⟩=some (.int .i64 a1_2):=(blk_cell BK601.out 2).trans rfl;have hfz13_0:=blk_frozen BK601.out 0;have hfz13_1:=blk_frozen BK601.out 1;have hfz13_2:=blk_frozen BK601.out 2)|((with_reducible refine gate_callee (f:=60) rfl ?_);refine goesL_ (some 20) rfl rfl Try.func60 (by kernel_rfl) rfl #[.slice A0 l0.length c0,.agg #[.int .i64 a1_0,.int .i64 a1_1,.int .i64 a1_2],.int .i64 a2] rfl mtt ?_;(with_reducible refine (spec_l23Open.calls k _ _ l0 a1_0 a1_1 a1_2 a2 t604 _ ?side1 ?side2 A8.out).mono ?_);(case side1=>exact ccc (Kd.C_below HR0.out HB.out));(case side2=>exact HC0.out);rintro e w14 ⟨rfl,hb⟩;refine ⟨_,rfl,?_⟩;replace BK601:=amk (blk_below (g:=gb601) (o:=.cells #[.int .i64 a1_0,.int .i64 a1_1,.int .i64 a1_2] 44 (0,0)) (bkk BK601) hb);replace HB:=amk (below_step (bel1 HB GE601.out) hb);(try clear hb)))
   go_ret2
   exact ⟨erw0,bel1 HB GE601.out⟩
  ·replace c7:=Bool.eq_false_iff.mpr c7
   subst c7
   have H1 : (some (false,false))=some (r1,r2):=by rw [if_neg (show ¬ (false=true) by decide)] at H;exact H
   clear H
   have H:=H1
   clear H1
   simp only [Option.some.injEq,Prod.mk.injEq] at H
   obtain ⟨rfl,rfl⟩:=H
   go_enter Try.func34,Try.ntmps34
   go_wp2_with (first | ((with_reducible refine gate_dst (N:=4) rfl ?_);refine box_event ?hg (N:=4) ?hd (cs:=#[.int .i64 a1_0,.int .i64 a1_1,.int .i64 a1_2]) (t:=44) ?hr ?_;(case hd=>rfl);(case hg=>rfl);(case hr=>first | (go_simp;done)|(go_simp;rfl));intro gb601 hg w15 hbox hb;have BK601:=amk (hbox);have GW601:=amk ((by rw [hg];exact (below_size (bel HB)) : w.heap.size≤gb601));have GE601:=amk ((by rw [hg];exact (below_size (bel HB)) : w.heap.size≤gb601));replace HB:=amk (below_step (bel HB) hb);clear hb hbox hg)|((with_reducible refine gate_callee (f:=51) rfl ?_);refine goesL_ (some 10) rfl rfl Try.func51 (by kernel_rfl) rfl #[.slice A0 l0.length c0,.int .i64 a2] rfl mtt ?_;(with_reducible refine (spec_l23Within.calls k _ _ l0 a2 true _ ?side1 ?side2 A4.out).mono ?_);(case side1=>exact ccc (Kd.C_below HR0.out HB.out));(case side2=>exact HC0.out);rintro e w16 ⟨rfl,hb⟩;refine ⟨_,rfl,?_⟩;replace BK601:=amk (blk_below (g:=gb601) (o:=.cells #[.int .i64 a1_0,.int .i64 a1_1,.int .i64 a1_2] 44 (0,0)) (bkk BK601) hb);replace HB:=amk (below_step (bel1 HB GE601.out) hb);(try clear hb);have hcz17_0 : w16.cell? ⟨gb601,0,none⟩=some (.int .i64 a1_0):=(blk_cell BK601.out 0).trans rfl;have hcz17_1 : w16.cell? ⟨gb601,1,none⟩=some (.int .i64 a1_1):=(blk_cell BK601.out 1).trans rfl;have hcz17_2 : w16.cell? ⟨gb601,2,none⟩=some (.int .i64 a1_2):=(blk_cell BK601.out 2).trans rfl;have hfz17_0:=blk_frozen BK601.out 0;have hfz17_1:=blk_frozen BK601.out 1;have hfz17_2:=blk_frozen BK601.out 2)|(go_at_call 59;(with_reducible refine (spec_l23Sump.calls a1_0 a1_1 a1_2 false _ A6.out).mono ?_);rintro e w18 ⟨rfl,hb⟩;replace BK601:=amk (blk_below (g:=gb601) (o:=.cells #[.int .i64 a1_0,.int .i64 a1_1,.int .i64 a1_2] 44 (0,0)) (bkk BK601) hb);replace HB:=amk (below_step (bel1 HB GE601.out) hb);(try clear hb)))
   go_ret2
   exact ⟨erw0,bel1 HB GE601.out⟩
 ·replace c5:=Bool.eq_false_iff.mpr c5
  subst c5
  have H1 : (some (false,false))=some (r1,r2):=by rw [if_neg (show ¬ (false=true) by decide)] at H;exact H
  clear H
  have H:=H1
  clear H1
  simp only [Option.some.injEq,Prod.mk.injEq] at H
  obtain ⟨rfl,rfl⟩:=H
  go_enter Try.func34,Try.ntmps34
  go_wp2_with (first | ((with_reducible refine gate_dst (N:=4) rfl ?_);refine box_event ?hg (N:=4) ?hd (cs:=#[.int .i64 a1_0,.int .i64 a1_1,.int .i64 a1_2]) (t:=44) ?hr ?_;(case hd=>rfl);(case hg=>rfl);(case hr=>first | (go_simp;done)|(go_simp;rfl));intro gb601 hg w19 hbox hb;have BK601:=amk (hbox);have GW601:=amk ((by rw [hg];exact (below_size (bel HB)) : w.heap.size≤gb601));have GE601:=amk ((by rw [hg];exact (below_size (bel HB)) : w.heap.size≤gb601));replace HB:=amk (below_step (bel HB) hb);clear hb hbox hg)|((with_reducible refine gate_callee (f:=51) rfl ?_);refine goesL_ (some 10) rfl rfl Try.func51 (by kernel_rfl) rfl #[.slice A0 l0.length c0,.int .i64 a2] rfl mtt ?_;(with_reducible refine (spec_l23Within.calls k _ _ l0 a2 false _ ?side1 ?side2 A4.out).mono ?_);(case side1=>exact ccc (Kd.C_below HR0.out HB.out));(case side2=>exact HC0.out);rintro e w20 ⟨rfl,hb⟩;refine ⟨_,rfl,?_⟩;replace BK601:=amk (blk_below (g:=gb601) (o:=.cells #[.int .i64 a1_0,.int .i64 a1_1,.int .i64 a1_2] 44 (0,0)) (bkk BK601) hb);replace HB:=amk (below_step (bel1 HB GE601.out) hb);(try clear hb)))
  go_ret2
  exact ⟨erw0,bel1 HB GE601.out⟩
def laws_rInts.l0 : Nat→List Int→List Int→Int→Option (Bool)
 | 0,_,_,_=>none
 | k + 1,x0,x1,x5=>if x5 < (x0.length : Int) then (if 0≤x5 then (if x5 < (x1.length : Int) then (if (rd x0 x5)=(rd x1 x5) then (laws_rInts.l0 k x0 x1 (wrap64 (x5 + 1))) else (some false)) else (none)) else (none)) else (some true)
def laws_rInts.f (k : Nat) (l0 : List Int) (l1 : List Int) : Option (Bool):=if (l0.length : Int)=(l1.length : Int) then (laws_rInts.l0 k l0 l1 0) else (some false)
theorem laws_rInts.mono_l : ∀ k,(∀ y0 y1 y2,LeO (laws_rInts.l0 k y0 y1 y2) (laws_rInts.l0 (k + 1) y0 y1 y2))
 | 0=>fun _ _ _ r h=>by simp [laws_rInts.l0] at h
 | k + 1=>by
  have ih0:=laws_rInts.mono_l k
  ·intro y0 y1 y2
   unfold laws_rInts.l0
   repeat' first
   | (with_reducible exact ih0 _ _ _)
   | (with_reducible exact LeO.refl _)
   | (with_reducible exact LeO.none _)
   | (with_reducible refine LeO.ite ?_ ?_)
   | (with_reducible refine LeO.bind ?_ (fun _=>?_))
   | exact ih0 _ _ _
theorem laws_rInts.mono : ∀ a0 a1 k,LeO (laws_rInts.f k a0 a1) (laws_rInts.f (k + 1) a0 a1):=by
 intro a0 a1 k
 have ih0:=laws_rInts.mono_l k
 unfold laws_rInts.f
 repeat' first
   | (with_reducible exact ih0 _ _ _)
   | (with_reducible exact LeO.refl _)
   | (with_reducible exact LeO.none _)
   | (with_reducible refine LeO.ite ?_ ?_)
   | (with_reducible refine LeO.bind ?_ (fun _=>?_))
   | exact ih0 _ _ _
set_option maxHeartbeats 8000000 in
set_option maxRecDepth 100000 in
theorem laws_rInts.calls (k : Nat) (A0 : Option Addr) (c0 : Nat) (l0 : List Int) (A1 : Option Addr) (c1 : Nat) (l1 : List Int) (r : Bool) (w : World) (hr0 : Kd.C (Kd.int .i64) w A0 l0.length l0) (hc0 : l0.length≤c0) (hr1 : Kd.C (Kd.int .i64) w A1 l1.length l1) (hc1 : l1.length≤c1) (h : laws_rInts.f k l0 l1=some r) :
  Calls Try.prog 40 #[.slice A0 l0.length c0,.slice A1 l1.length c1] w fun e w'=>e = .returned (.bool r)∧Drawn0 w w':=by
 have HR0:=amk hr0
 have HC0:=amk hc0
 clear hr0 hc0
 have HR1:=amk hr1
 have HC1:=amk hc1
 clear hr1 hc1
 have H : (if (l0.length : Int)=(l1.length : Int) then (laws_rInts.l0 k l0 l1 0) else (some false))=some r:=h
 clear h
 by_cases c3 : (l0.length : Int)=(l1.length : Int)
 ·rw [if_pos c3] at H
  have c3b0 : ((l0.length : Int) == (l1.length : Int))=true:=beq_iff_eq.mpr c3
  have c3b1 : ((l0.length : Int) != (l1.length : Int))=false:=bne_eq_false_iff_eq.mpr c3
  have c3b2 : (l0.length == l1.length)=true:=by first | simpa using c3 | (simp at c3 ⊢;omega)
  clear c3
  have H':=amk H
  clear H
  go_enter Try.func40,Try.ntmps40
  go_wp2
  repeat (go_quiet (fail);try go_wp2)
  go_loopg [5] k (fun kq v5 w'=>∃ (x5_1 : Int),v5 = .int .i64 x5_1∧Aside0 (laws_rInts.l0 kq l0 l1 x5_1=some r)∧Aside0 (kq≤k)∧Drawn0 w w')
  case atStart=>exact ⟨(0),rsd,H',⟨Nat.le_refl _⟩,by repeat (first | exact Drawn0.refl _ | apply Drawn0.step)⟩
  case round=>
   clear H'
   try clear c1
   try clear p2
   try clear c3
   try clear c3b0
   try clear c3b1
   try clear c3b2
   obtain ⟨x5_1,rfl,HA,HK1,⟨m1,rfl⟩⟩:=hrel
   cases gk with
   | zero=>exact absurd HA.out (by simp [laws_rInts.l0])
   | succ k1=>
    have H:=HA.out
    clear HA
    simp only [laws_rInts.l0] at H
    by_cases c4 : x5_1 < (l0.length : Int)
    ·rw [if_pos c4] at H
     have c4b0 : decide (x5_1 < (l0.length : Int))=true:=decide_eq_true c4
     clear c4
     by_cases c5 : 0≤x5_1
     ·rw [if_pos c5] at H
      have c5b0 : decide (0≤x5_1)=true:=decide_eq_true c5
      clear c5
      by_cases c6 : x5_1 < (l1.length : Int)
      ·rw [if_pos c6] at H
       have c6b0 : decide (x5_1 < (l1.length : Int))=true:=decide_eq_true c6
       clear c6
       by_cases c7 : (rd l0 x5_1)=(rd l1 x5_1)
       ·rw [if_pos c7] at H
        have c7b0 : ((rd l0 x5_1) == (rd l1 x5_1))=true:=beq_iff_eq.mpr c7
        have c7b1 : ((rd l0 x5_1) != (rd l1 x5_1))=false:=bne_eq_false_iff_eq.mpr c7
        clear c7
        have H':=amk H
        clear H
        have p605 : 0≤(x5_1 : Int):=of_decide_eq_true ass
        have q605 : x5_1 < (l0.length : Int):=of_decide_eq_true ass
        obtain ⟨ad605,e605,hx605_0⟩:=Kd.at_int HR0.out x5_1 p605 q605
        cases e605
        replace p605:=eq_true p605
        replace q605:=eq_true q605
        have p606 : 0≤(x5_1 : Int):=of_decide_eq_true ass
        have q606 : x5_1 < (l1.length : Int):=of_decide_eq_true ass
        obtain ⟨ad606,e606,hx606_0⟩:=Kd.at_int HR1.out x5_1 p606 q606
        cases e606
        replace p606:=eq_true p606
        replace q606:=eq_true q606
        go_wp2
        repeat (go_quiet (fail);try go_wp2)
        go_roundg k1
        case measure=>have:=HK1.out;omega
        case rel=>exact ⟨(wrap64 (x5_1 + 1)),rsd,H',⟨by have:=HK1.out;omega⟩,by repeat (first | exact Drawn0.refl _ | apply Drawn0.step)⟩
       ·rw [if_neg c7] at H
        have c7b0 : ((rd l0 x5_1) == (rd l1 x5_1))=false:=beq_eq_false_iff_ne.mpr c7
        have c7b1 : ((rd l0 x5_1) != (rd l1 x5_1))=true:=bne_iff_ne.mpr c7
        obtain rfl:=Option.some.inj H
        have p605 : 0≤(x5_1 : Int):=of_decide_eq_true ass
        have q605 : x5_1 < (l0.length : Int):=of_decide_eq_true ass
        obtain ⟨ad605,e605,hx605_0⟩:=Kd.at_int HR0.out x5_1 p605 q605
        cases e605
        replace p605:=eq_true p605
        replace q605:=eq_true q605
        have p606 : 0≤(x5_1 : Int):=of_decide_eq_true ass
        have q606 : x5_1 < (l1.length : Int):=of_decide_eq_true ass
        obtain ⟨ad606,e606,hx606_0⟩:=Kd.at_int HR1.out x5_1 p606 q606
        cases e606
        replace p606:=eq_true p606
        replace q606:=eq_true q606
        go_wp2
        repeat (go_quiet (fail);try go_wp2)
        go_ret
        exact ⟨rsd,by repeat (first | exact Drawn0.refl _ | apply Drawn0.step)⟩
      ·rw [if_neg c6] at H
       exact absurd H (by simp)
     ·rw [if_neg c5] at H
      exact absurd H (by simp)
    ·rw [if_neg c4] at H
     have c4b0 : decide (x5_1 < (l0.length : Int))=false:=decide_eq_false c4
     clear c4
     obtain rfl:=Option.some.inj H
     go_wp2
     repeat (go_quiet (fail);try go_wp2)
     go_ret
     exact ⟨rsd,by repeat (first | exact Drawn0.refl _ | apply Drawn0.step)⟩
 ·rw [if_neg c3] at H
  have c3b0 : ((l0.length : Int) == (l1.length : Int))=false:=beq_eq_false_iff_ne.mpr c3
  have c3b1 : ((l0.length : Int) != (l1.length : Int))=true:=bne_iff_ne.mpr c3
  have c3b2 : (l0.length == l1.length)=false:=by first | simpa using c3 | (simp at c3 ⊢;omega)
  obtain rfl:=Option.some.inj H
  go_enter Try.func40,Try.ntmps40
  go_wp2
  repeat (go_quiet (fail);try go_wp2)
  go_ret
  exact ⟨rsd,by repeat (first | exact Drawn0.refl _ | apply Drawn0.step)⟩
def laws_rTable.l0 : Nat→List (List Int)→List (List Int)→Int→Option (Bool)
 | 0,_,_,_=>none
 | k + 1,x0,x1,x5=>if x5 < (x0.length : Int) then (if 0≤x5 then (if x5 < (x1.length : Int) then ((laws_rInts.f k (rd_L4 x0 x5) (rd_L4 x1 x5)).bind fun t609=>(if t609=true then (laws_rTable.l0 k x0 x1 (wrap64 (x5 + 1))) else (some false))) else (none)) else (none)) else (some true)
def laws_rTable.f (k : Nat) (l0 : List (List Int)) (l1 : List (List Int)) : Option (Bool):=if (l0.length : Int)=(l1.length : Int) then (laws_rTable.l0 k l0 l1 0) else (some false)
theorem laws_rTable.mono_l : ∀ k,(∀ y0 y1 y2,LeO (laws_rTable.l0 k y0 y1 y2) (laws_rTable.l0 (k + 1) y0 y1 y2))
 | 0=>fun _ _ _ r h=>by simp [laws_rTable.l0] at h
 | k + 1=>by
  have ih0:=laws_rTable.mono_l k
  ·intro y0 y1 y2
   unfold laws_rTable.l0
   repeat' first
   | (with_reducible exact ih0 _ _ _)
   | (with_reducible exact laws_rInts.mono _ _ _)
   | (with_reducible exact LeO.refl _)
   | (with_reducible exact LeO.none _)
   | (with_reducible refine LeO.ite ?_ ?_)
   | (with_reducible refine LeO.bind ?_ (fun _=>?_))
   | exact ih0 _ _ _
theorem laws_rTable.mono : ∀ a0 a1 k,LeO (laws_rTable.f k a0 a1) (laws_rTable.f (k + 1) a0 a1):=by
 intro a0 a1 k
 have ih0:=laws_rTable.mono_l k
 unfold laws_rTable.f
 repeat' first
   | (with_reducible exact ih0 _ _ _)
   | (with_reducible exact laws_rInts.mono _ _ _)
   | (with_reducible exact LeO.refl _)
   | (with_reducible exact LeO.none _)
   | (with_reducible refine LeO.ite ?_ ?_)
   | (with_reducible refine LeO.bind ?_ (fun _=>?_))
   | exact ih0 _ _ _
set_option maxHeartbeats 8000000 in
set_option maxRecDepth 100000 in
theorem laws_rTable.calls (k : Nat) (A0 : Option Addr) (c0 : Nat) (l0 : List (List Int)) (A1 : Option Addr) (c1 : Nat) (l1 : List (List Int)) (r : Bool) (w : World) (hr0 : Kd.C (Kd.slice 3 (Kd.int .i64)) w A0 l0.length l0) (hc0 : l0.length≤c0) (hr1 : Kd.C (Kd.slice 3 (Kd.int .i64)) w A1 l1.length l1) (hc1 : l1.length≤c1) (h : laws_rTable.f k l0 l1=some r) :
  Calls Try.prog 35 #[.slice A0 l0.length c0,.slice A1 l1.length c1] w fun e w'=>e = .returned (.bool r)∧Drawn0 w w':=by
 have HR0:=amk hr0
 have HC0:=amk hc0
 clear hr0 hc0
 have HR1:=amk hr1
 have HC1:=amk hc1
 clear hr1 hc1
 have H : (if (l0.length : Int)=(l1.length : Int) then (laws_rTable.l0 k l0 l1 0) else (some false))=some r:=h
 clear h
 by_cases c3 : (l0.length : Int)=(l1.length : Int)
 ·rw [if_pos c3] at H
  have c3b0 : ((l0.length : Int) == (l1.length : Int))=true:=beq_iff_eq.mpr c3
  have c3b1 : ((l0.length : Int) != (l1.length : Int))=false:=bne_eq_false_iff_eq.mpr c3
  have c3b2 : (l0.length == l1.length)=true:=by first | simpa using c3 | (simp at c3 ⊢;omega)
  clear c3
  have H':=amk H
  clear H
  go_enter Try.func35,Try.ntmps35
  go_wp2
  repeat (go_quiet (fail);try go_wp2)
  go_loopg [5] k (fun kq v5 w'=>∃ (x5_1 : Int),v5 = .int .i64 x5_1∧Aside0 (laws_rTable.l0 kq l0 l1 x5_1=some r)∧Aside0 (kq≤k)∧Drawn0 w w')
  case atStart=>exact ⟨(0),rsd,H',⟨Nat.le_refl _⟩,by repeat (first | exact Drawn0.refl _ | apply Drawn0.step)⟩
  case round=>
   clear H'
   try clear c1
   try clear p2
   try clear c3
   try clear c3b0
   try clear c3b1
   try clear c3b2
   obtain ⟨x5_1,rfl,HA,HK1,⟨m1,rfl⟩⟩:=hrel
   cases gk with
   | zero=>exact absurd HA.out (by simp [laws_rTable.l0])
   | succ k1=>
    have H:=HA.out
    clear HA
    simp only [laws_rTable.l0] at H
    by_cases c4 : x5_1 < (l0.length : Int)
    ·rw [if_pos c4] at H
     have c4b0 : decide (x5_1 < (l0.length : Int))=true:=decide_eq_true c4
     clear c4
     by_cases c5 : 0≤x5_1
     ·rw [if_pos c5] at H
      have c5b0 : decide (0≤x5_1)=true:=decide_eq_true c5
      clear c5
      by_cases c6 : x5_1 < (l1.length : Int)
      ·rw [if_pos c6] at H
       have c6b0 : decide (x5_1 < (l1.length : Int))=true:=decide_eq_true c6
       clear c6
       replace H:=obs H
       obtain ⟨t609,A70,H⟩:=H
       replace H : (if t609=true then (laws_rTable.l0 k1 l0 l1 (wrap64 (x5_1 + 1))) else (some false))=some r:=H
       have A7:=amk A70
       clear A70
       by_cases c8 : t609=true
       ·subst c8
        have H1 : (laws_rTable.l0 k1 l0 l1 (wrap64 (x5_1 + 1)))=some r:=by rw [if_pos rfl] at H;exact H
        clear H
        have H:=H1
        clear H1
        have H':=amk H
        clear H
        have p607 : 0≤(x5_1 : Int):=of_decide_eq_true ass
        have q607 : x5_1 < (l0.length : Int):=of_decide_eq_true ass
        obtain ⟨ad607,A607_0,c607_0,e607,hx607_0,hl607_0,hi607_0⟩:=at_L4 HR0.out x5_1 p607 q607
        cases e607
        have HR607_0:=amk hi607_0
        have HC607_0:=amk hl607_0
        clear hi607_0 hl607_0
        replace p607:=eq_true p607
        replace q607:=eq_true q607
        have p608 : 0≤(x5_1 : Int):=of_decide_eq_true ass
        have q608 : x5_1 < (l1.length : Int):=of_decide_eq_true ass
        obtain ⟨ad608,A608_0,c608_0,e608,hx608_0,hl608_0,hi608_0⟩:=at_L4 HR1.out x5_1 p608 q608
        cases e608
        have HR608_0:=amk hi608_0
        have HC608_0:=amk hl608_0
        clear hi608_0 hl608_0
        replace p608:=eq_true p608
        replace q608:=eq_true q608
        go_wp2_with (first | (go_at_call 40;(with_reducible refine (laws_rInts.calls k1 _ _ (rd_L4 l0 x5_1) _ _ (rd_L4 l1 x5_1) true _ ?side1 ?side2 ?side3 ?side4 A7.out).mono ?_);(case side1=>exact ccc HR607_0.out);(case side2=>exact HC607_0.out);(case side3=>exact ccc HR608_0.out);(case side4=>exact HC608_0.out);rintro e w' ⟨rfl,⟨nd,rfl⟩⟩;(try exact ddd)))
        repeat (go_quiet (first | (go_at_call 40;(with_reducible refine (laws_rInts.calls k1 _ _ (rd_L4 l0 x5_1) _ _ (rd_L4 l1 x5_1) true _ ?side1 ?side2 ?side3 ?side4 A7.out).mono ?_);(case side1=>exact ccc HR607_0.out);(case side2=>exact HC607_0.out);(case side3=>exact ccc HR608_0.out);(case side4=>exact HC608_0.out);rintro e w' ⟨rfl,⟨nd,rfl⟩⟩;(try exact ddd)));try go_wp2_with (first | (go_at_call 40;(with_reducible refine (laws_rInts.calls k1 _ _ (rd_L4 l0 x5_1) _ _ (rd_L4 l1 x5_1) true _ ?side1 ?side2 ?side3 ?side4 A7.out).mono ?_);(case side1=>exact ccc HR607_0.out);(case side2=>exact HC607_0.out);(case side3=>exact ccc HR608_0.out);(case side4=>exact HC608_0.out);rintro e w' ⟨rfl,⟨nd,rfl⟩⟩;(try exact ddd))))
        go_roundg k1
        case measure=>have:=HK1.out;omega
        case rel=>exact ⟨(wrap64 (x5_1 + 1)),rsd,H',⟨by have:=HK1.out;omega⟩,by repeat (first | exact Drawn0.refl _ | apply Drawn0.step)⟩
       ·replace c8:=Bool.eq_false_iff.mpr c8
        subst c8
        have H1 : (some false)=some r:=by rw [if_neg (show ¬ (false=true) by decide)] at H;exact H
        clear H
        have H:=H1
        clear H1
        obtain rfl:=Option.some.inj H
        have p607 : 0≤(x5_1 : Int):=of_decide_eq_true ass
        have q607 : x5_1 < (l0.length : Int):=of_decide_eq_true ass
        obtain ⟨ad607,A607_0,c607_0,e607,hx607_0,hl607_0,hi607_0⟩:=at_L4 HR0.out x5_1 p607 q607
        cases e607
        have HR607_0:=amk hi607_0
        have HC607_0:=amk hl607_0
        clear hi607_0 hl607_0
        replace p607:=eq_true p607
        replace q607:=eq_true q607
        have p608 : 0≤(x5_1 : Int):=of_decide_eq_true ass
        have q608 : x5_1 < (l1.length : Int):=of_decide_eq_true ass
        obtain ⟨ad608,A608_0,c608_0,e608,hx608_0,hl608_0,hi608_0⟩:=at_L4 HR1.out x5_1 p608 q608
        cases e608
        have HR608_0:=amk hi608_0
        have HC608_0:=amk hl608_0
        clear hi608_0 hl608_0
        replace p608:=eq_true p608
        replace q608:=eq_true q608
        go_wp2_with (first | (go_at_call 40;(with_reducible refine (laws_rInts.calls k1 _ _ (rd_L4 l0 x5_1) _ _ (rd_L4 l1 x5_1) false _ ?side1 ?side2 ?side3 ?side4 A7.out).mono ?_);(case side1=>exact ccc HR607_0.out);(case side2=>exact HC607_0.out);(case side3=>exact ccc HR608_0.out);(case side4=>exact HC608_0.out);rintro e w' ⟨rfl,⟨nd,rfl⟩⟩;(try exact ddd)))
        repeat (go_quiet (first | (go_at_call 40;(with_reducible refine (laws_rInts.calls k1 _ _ (rd_L4 l0 x5_1) _ _ (rd_L4 l1 x5_1) false _ ?side1 ?side2 ?side3 ?side4 A7.out).mono ?_);(case side1=>exact ccc HR607_0.out);(case side2=>exact HC607_0.out);(case side3=>exact ccc HR608_0.out);(case side4=>exact HC608_0.out);rintro e w' ⟨rfl,⟨nd,rfl⟩⟩;(try exact ddd)));try go_wp2_with (first | (go_at_call 40;(with_reducible refine (laws_rInts.calls k1 _ _ (rd_L4 l0 x5_1) _ _ (rd_L4 l1 x5_1) false _ ?side1 ?side2 ?side3 ?side4 A7.out).mono ?_);(case side1=>exact ccc HR607_0.out);(case side2=>exact HC607_0.out);(case side3=>exact ccc HR608_0.out);(case side4=>exact HC608_0.out);rintro e w' ⟨rfl,⟨nd,rfl⟩⟩;(try exact ddd))))
        go_ret
        exact ⟨rsd,by repeat (first | exact Drawn0.refl _ | apply Drawn0.step)⟩
      ·rw [if_neg c6] at H
       exact absurd H (by simp)
     ·rw [if_neg c5] at H
      exact absurd H (by simp)
    ·rw [if_neg c4] at H
     have c4b0 : decide (x5_1 < (l0.length : Int))=false:=decide_eq_false c4
     clear c4
     obtain rfl:=Option.some.inj H
     go_wp2
     repeat (go_quiet (fail);try go_wp2)
     go_ret
     exact ⟨rsd,by repeat (first | exact Drawn0.refl _ | apply Drawn0.step)⟩
 ·rw [if_neg c3] at H
  have c3b0 : ((l0.length : Int) == (l1.length : Int))=false:=beq_eq_false_iff_ne.mpr c3
  have c3b1 : ((l0.length : Int) != (l1.length : Int))=true:=bne_iff_ne.mpr c3
  have c3b2 : (l0.length == l1.length)=false:=by first | simpa using c3 | (simp at c3 ⊢;omega)
  obtain rfl:=Option.some.inj H
  go_enter Try.func35,Try.ntmps35
  go_wp2
  repeat (go_quiet (fail);try go_wp2)
  go_ret
  exact ⟨rsd,by repeat (first | exact Drawn0.refl _ | apply Drawn0.step)⟩
def spec_l1Cur_sumps.l0 : Nat→List (S44)→Int→List Int→Int→Int→Option ((List (S44)) × Int × Int)
 | 0,_,_,_,_,_=>none
 | k + 1,x3,x4,x1000,x1001,x1002=>if x4 < 8 then ((spec_l1Cur_one.f x1000 x1001 x1002 4).bind fun bt620=>(if bt620.1=true then ((spec_l1Cur_sump.f k x1000 bt620.2.1 bt620.2.2 x4).bind fun bt623=>(if x3.length < 5864062014805 then (spec_l1Cur_sumps.l0 k (x3 ++ [(⟨bt623.1,bt623.2.1,bt623.2.2.1⟩ : S44)]) (wrap64 (x4 + 1)) x1000 bt623.2.2.2.1 bt623.2.2.2.2) else (none))) else (spec_l1Cur_sumps.l0 k x3 (wrap64 (x4 + 1)) x1000 bt620.2.1 bt620.2.2))) else (if (x3.length : Int) > 0 then ((spec_l1Cur_one.f x1000 x1001 x1002 24).bind fun bt613=>(if bt613.1=true then (if 0 < (x3.length : Int) then (if x3.length < 5864062014805 then (some ((x3 ++ [(⟨(rd_T44 x3 0).f0,(rd_T44 x3 0).f1,(rd_T44 x3 0).f2⟩ : S44)]),bt613.2.1,bt613.2.2)) else (none)) else (none)) else (some (x3,bt613.2.1,bt613.2.2)))) else (some (x3,x1001,x1002)))
def spec_l1Cur_sumps.f (k : Nat) (s0_0 : List Int) (s0_1 : Int) (s0_2 : Int) : Option ((List (S44)) × Int × Int):=spec_l1Cur_sumps.l0 k (([] : List (S44))) 0 s0_0 s0_1 s0_2
theorem spec_l1Cur_sumps.mono_l : ∀ k,(∀ y0 y1 y2 y3 y4,LeO (spec_l1Cur_sumps.l0 k y0 y1 y2 y3 y4) (spec_l1Cur_sumps.l0 (k + 1) y0 y1 y2 y3 y4))
 | 0=>fun _ _ _ _ _ r h=>by simp [spec_l1Cur_sumps.l0] at h
 | k + 1=>by
  have ih0:=spec_l1Cur_sumps.mono_l k
  ·intro y0 y1 y2 y3 y4
   unfold spec_l1Cur_sumps.l0
   repeat' first
   | (with_reducible exact ih0 _ _ _ _ _)
   | (with_reducible exact spec_l1Cur_sump.mono _ _ _ _ _)
   | (with_reducible exact LeO.refl _)
   | (with_reducible exact LeO.none _)
   | (with_reducible refine LeO.ite ?_ ?_)
   | (with_reducible refine LeO.bind ?_ (fun _=>?_))
   | exact ih0 _ _ _ _ _
theorem spec_l1Cur_sumps.mono : ∀ a0 a1 a2 k,LeO (spec_l1Cur_sumps.f k a0 a1 a2) (spec_l1Cur_sumps.f (k + 1) a0 a1 a2):=by
 intro a0 a1 a2 k
 have ih0:=spec_l1Cur_sumps.mono_l k
 unfold spec_l1Cur_sumps.f
 repeat' first
   | (with_reducible exact ih0 _ _ _ _ _)
   | (with_reducible exact spec_l1Cur_sump.mono _ _ _ _ _)
   | (with_reducible exact LeO.refl _)
   | (with_reducible exact LeO.none _)
   | (with_reducible refine LeO.ite ?_ ?_)
   | (with_reducible refine LeO.bind ?_ (fun _=>?_))
   | exact ih0 _ _ _ _ _
set_option maxHeartbeats 8000000 in
set_option maxRecDepth 100000 in
theorem spec_l1Cur_sumps.calls (k : Nat) (g : Nat) (s0_0 : List Int) (s0_1 : Int) (s0_2 : Int) (r1 : List (S44)) (r2 : Int) (r3 : Int) (w0 w : World) (hI : IsS77 w0 w g s0_0 s0_1 s0_2) (hB : Below w0.heap.size w0 w) (h : spec_l1Cur_sumps.f k s0_0 s0_1 s0_2=some (r1,r2,r3)) :
  Calls Try.prog 79 #[.pointer (some ⟨g,0,none⟩)] w fun e w'=>∃ v0_ : Value,e = .returned (v0_)∧Kd.R k44 44 w' w.heap.size (fun _=>True) v0_ r1∧IsS77 w0 w' g s0_0 r2 r3∧Below w0.heap.size w0 w'∧KeepBut w w' g none:=by
 have hu44:=Try.underlying44
 have HI0:=amk hI
 have HK:=amk (KeepBut.refl w g none)
 have HL:=amk hB.size
 clear hI
 have HW0:=amk hB.size
 have HB:=amk hB
 clear hB
 have H : (spec_l1Cur_sumps.l0 k (([] : List (S44))) 0 s0_0 s0_1 s0_2)=some (r1,r2,r3):=h
 clear h
 obtain ⟨y610,hy610⟩ : ∃ y_ : List (S44),y_=(([] : List (S44))):=⟨_,rfl⟩
 replace H : (spec_l1Cur_sumps.l0 k y610 0 s0_0 s0_1 s0_2)=some (r1,r2,r3):=by first | (rw [hy610];with_reducible exact H)|(have H2_:=(Option.bind_some _ _).symm.trans H;rw [hy610];with_reducible exact H2_)|(have H2_:=(Option.bind_some _ _).symm.trans H;with_reducible exact H2_) | with_reducible exact H | (rw [hy610];exact H) | exact H
 have Ny610:=amk hy610
 clear hy610
 have H':=amk H
 clear H
 go_enter Try.func79,Try.ntmps79
 go_wp2_with (first | ((with_reducible refine gate_dst (N:=5) rfl ?_);refine Kd.R_lit k44 _ 44 ?hg (N:=5) ?hd (xs:=([] : List (S44))) (inner:=[]) (ok:=fun _=>True) (okp:=fun _=>True) ?hr ?hp (fun _ hk=>hk) trivial (Below.refl _ _) (Nat.le_refl _) (by simp) ?_;(case hd=>rfl);(case hg=>rfl);(case hr=>first | (go_simp;done)|(go_simp;rfl));(case hp=>exact (Reps.none _ _));intro v611 w2 ho3 hb hg_ hnew_;clear hg_ hnew_;(first | rw [← Ny610.out] at ho3 | (simp only [Int.reduceToNat] at ho3;rw [← Ny610.out] at ho3));have HO612:=amk (Kd.R_lower ho3 (keep_size (w:=w) (g:=g) (row:=none) (kkk HK)));replace HK:=amk (KeepBut.trans (kkk HK) (KeepBut.of_below hb g none) (.inl rfl));replace HB:=amk (below_step (bel1 HB (IsS77.ge HI0.out)) hb);replace HI0:=amk (IsS77.below (i77_0 HI0) hb);clear hb ho3))
 go_loopg [3,4] k (fun kq v3 v4 w'=>∃ (x3_1 : List (S44)) (x4_1 : Int) (x1001_1 : Int) (x1002_1 : Int),v4 = .int .i64 x4_1∧Aside0 (spec_l1Cur_sumps.l0 kq x3_1 x4_1 s0_0 x1001_1 x1002_1=some (r1,r2,r3))∧Aside0 (kq≤k)∧Aside0 (Kd.R k44 44 w' w.heap.size (fun _=>True) v3 x3_1)∧Aside0 (IsS77 w0 w' g s0_0 x1001_1 x1002_1)∧Aside0 (KeepBut w w' g none)∧Aside0 (Below w0.heap.size w0 w'))
 case atStart=>exact ⟨(y610),(0),(s0_1),(s0_2),rsd,H',⟨Nat.le_refl _⟩,⟨rrr HO612⟩,⟨i77_0 HI0⟩,⟨kkk HK⟩,⟨bel1 HB (IsS77.ge HI0.out)⟩⟩
 case round=>
  clear H'
  try clear p2
  obtain ⟨x3_1,x4_1,x1001_1,x1002_1,rfl,HA,HK1,HO_3,HI0,HK,HB⟩:=hrel
  cases gk with
  | zero=>exact absurd HA.out (by simp [spec_l1Cur_sumps.l0])
  | succ k1=>
   have H:=HA.out
   clear HA
   simp only [spec_l1Cur_sumps.l0] at H
   by_cases c4 : x4_1 < 8
   ·rw [if_pos c4] at H
    have c4b0 : decide (x4_1 < 8)=true:=decide_eq_true c4
    clear c4
    replace H:=obs H
    obtain ⟨⟨t620,t621,t622⟩,A50,H⟩:=H
    replace H : (if t620=true then ((spec_l1Cur_sump.f k1 s0_0 t621 t622 x4_1).bind fun bt623=>(if x3_1.length < 5864062014805 then (spec_l1Cur_sumps.l0 k1 (x3_1 ++ [(⟨bt623.1,bt623.2.1,bt623.2.2.1⟩ : S44)]) (wrap64 (x4_1 + 1)) s0_0 bt623.2.2.2.1 bt623.2.2.2.2) else (none))) else (spec_l1Cur_sumps.l0 k1 x3_1 (wrap64 (x4_1 + 1)) s0_0 t621 t622))=some (r1,r2,r3):=H
    have A5:=amk A50
    clear A50
    by_cases c6 : t620=true
    ·subst c6
     have H1 : ((spec_l1Cur_sump.f k1 s0_0 t621 t622 x4_1).bind fun bt623=>(if x3_1.length < 5864062014805 then (spec_l1Cur_sumps.l0 k1 (x3_1 ++ [(⟨bt623.1,bt623.2.1,bt623.2.2.1⟩ : S44)]) (wrap64 (x4_1 + 1)) s0_0 bt623.2.2.2.1 bt623.2.2.2.2) else (none)))=some (r1,r2,r3):=by rw [if_pos rfl] at H;exact H
     clear H
     have H:=H1
     clear H1
     replace H:=obs H
     obtain ⟨⟨t623,t624,t625,t626,t627⟩,A70,H⟩:=H
     replace H : (if x3_1.length < 5864062014805 then (spec_l1Cur_sumps.l0 k1 (x3_1 ++ [(⟨t623,t624,t625⟩ : S44)]) (wrap64 (x4_1 + 1)) s0_0 t626 t627) else (none))=some (r1,r2,r3):=H
     have A7:=amk A70
     clear A70
     by_cases c8 : x3_1.length < 5864062014805
     ·rw [if_pos c8] at H
      have LMc8:=amk c8
      clear c8
      obtain ⟨y628,hy628⟩ : ∃ y_ : List (S44),y_=(x3_1 ++ [(⟨t623,t624,t625⟩ : S44)]):=⟨_,rfl⟩
      replace H : (spec_l1Cur_sumps.l0 k1 y628 (wrap64 (x4_1 + 1)) s0_0 t626 t627)=some (r1,r2,r3):=by first | (rw [hy628];with_reducible exact H)|(have H2_:=(Option.bind_some _ _).symm.trans H;rw [hy628];with_reducible exact H2_)|(have H2_:=(Option.bind_some _ _).symm.trans H;with_reducible exact H2_) | with_reducible exact H | (rw [hy628];exact H) | exact H
      have Ny628:=amk hy628
      clear hy628
      have H':=amk H
      clear H
      go_wp2_with (first | ((with_reducible refine gate_callee (f:=84) rfl ?_);refine goesL_ (some 11) rfl rfl Try.func84 (by kernel_rfl) rfl #[.pointer (some ⟨g,0,none⟩),.int .i64 4] rfl mtt ?_;(with_reducible refine (spec_l1Cur_one.calls g s0_0 x1001_1 x1002_1 4 true t621 t622 w0 _ ?side1 ?side2 A5.out).mono ?_);(case side1=>exact i77_0 HI0);(case side2=>exact bel1 HB (IsS77.ge HI0.out));rintro e w9 ⟨rfl,hi,hb,hk⟩;refine ⟨_,rfl,?_⟩;replace HO_3:=amk (Kd.R_mono (Kd.R_keep (IsS77.apart (show IsS77 w0 _ g s0_0 x1001_1 x1002_1 from by exact i77_0 HI0) (rrr HO_3) (by decide)) hk (fun _ h=>h.2)) (fun _ h=>h.1));replace HK:=amk (KeepBut.trans (kkk HK) hk (.inl rfl));replace HB:=amk (hb);replace HI0:=amk (hi);(try clear hb hk hi))|((with_reducible refine gate_callee (f:=78) rfl ?_);refine goesL_ (some 15) rfl rfl Try.func78 (by kernel_rfl) rfl #[.pointer (some ⟨g,0,none⟩),.int .i64 x4_1] rfl mtt ?_;(with_reducible refine (spec_l1Cur_sump.calls k1 g s0_0 t621 t622 x4_1 t623 t624 t625 t626 t627 w0 _ ?side1 ?side2 A7.out).mono ?_);(case side1=>exact i77_0 HI0);(case side2=>exact bel1 HB (IsS77.ge HI0.out));rintro e w10 ⟨rfl,hi,hb,hk⟩;refine ⟨_,rfl,?_⟩;replace HO_3:=amk (Kd.R_mono (Kd.R_keep (IsS77.apart (show IsS77 w0 _ g s0_0 t621 t622 from by exact i77_0 HI0) (rrr HO_3) (by decide)) hk (fun _ h=>h.2)) (fun _ h=>h.1));replace HK:=amk (KeepBut.trans (kkk HK) hk (.inl rfl));replace HB:=amk (hb);replace HI0:=amk (hi);(try clear hb hk hi))|((with_reducible refine gate_builtin (b:=.append) (xs:=#[.tmp 12,.tmp 16]) rfl ?_);at_builtin;refine Kd.R_append k44 w.heap.size rfl (.tmp 12) (.tmp 16) 55 44 (.agg #[(.int .i64 0),(.int .i64 0),(.int .i64 0)]) 24 rfl Try.underlying55 info44 rfl (by decide) (by omega) u3 x3_1 (⟨t623,t624,t625⟩ : S44) [.int .i64 t623,.int .i64 t624,.int .i64 t625] (fun _=>True) (fun _=>False) rfl rfl ?aP (fun _ hk=>hk.elim) ?aF ?aO (Below.refl _ _) ?aS ?aL ?_;(case aP=>exact k44_mkM _ _ _ (⟨t623,t624,t625⟩ : S44));(case aF=>exact (fun _ _=>trivial));(case aO=>exact (rrr HO_3));(case aS=>exact (keep_size (w:=w) (g:=g) (row:=none) (kkk HK)));(case aL=>have:=LMc8.out;omega);intro v629 w11 ho hb hg hat;rw [← Ny628.out] at ho;replace HB:=amk (below_weaken (bel1 HB (IsS77.ge HI0.out)) HL.out hb);replace HI0:=amk (IsS77.grown (i77_0 HI0) hg (IsS77.own_ne HI0.out HO_3.out (by decide)));replace HK:=amk (KeepBut.trans (kkk HK) (KeepBut.of_grown hg g) (Kd.R_base2 HO_3.out));have HO630:=amk (ho);clear HO_3;clear ho hb hg hat))
      go_roundg k1
      case measure=>have:=HK1.out;omega
      case rel=>exact ⟨(y628),(wrap64 (x4_1 + 1)),(t626),(t627),rsd,H',⟨by have:=HK1.out;omega⟩,⟨rrr HO630⟩,⟨i77_0 HI0⟩,⟨kkk HK⟩,⟨bel1 HB (IsS77.ge HI0.out)⟩⟩
     ·rw [if_neg c8] at H
      exact absurd H (by simp)
    ·replace c6:=Bool.eq_false_iff.mpr c6
     subst c6
     have H1 : (spec_l1Cur_sumps.l0 k1 x3_1 (wrap64 (x4_1 + 1)) s0_0 t621 t622)=some (r1,r2,r3):=by rw [if_neg (show ¬ (false=true) by decide)] at H;exact H
     clear H
     have H:=H1
     clear H1
     have H':=amk H
     clear H
     go_wp2_with (first | ((with_reducible refine gate_callee (f:=84) rfl ?_);refine goesL_ (some 11) rfl rfl Try.func84 (by kernel_rfl) rfl #[.pointer (some ⟨g,0,none⟩),.int .i64 4] rfl mtt ?_;(with_reducible refine (spec_l1Cur_one.calls g s0_0 x1001_1 x1002_1 4 false t621 t622 w0 _ ?side1 ?side2 A5.out).mono ?_);(case side1=>exact i77_0 HI0);(case side2=>exact bel1 HB (IsS77.ge HI0.out));rintro e w12 ⟨rfl,hi,hb,hk⟩;refine ⟨_,rfl,?_⟩;replace HO_3:=amk (Kd.R_mono (Kd.R_keep (IsS77.apart (show IsS77 w0 _ g s0_0 x1001_1 x1002_1 from by exact i77_0 HI0) (rrr HO_3) (by decide)) hk (fun _ h=>h.2)) (fun _ h=>h.1));replace HK:=amk (KeepBut.trans (kkk HK) hk (.inl rfl));replace HB:=amk (hb);replace HI0:=amk (hi);(try clear hb hk hi)))
     go_roundg k1
     case measure=>have:=HK1.out;omega
     case rel=>exact ⟨(x3_1),(wrap64 (x4_1 + 1)),(t621),(t622),rsd,H',⟨by have:=HK1.out;omega⟩,⟨rrr HO_3⟩,⟨i77_0 HI0⟩,⟨kkk HK⟩,⟨bel1 HB (IsS77.ge HI0.out)⟩⟩
   ·rw [if_neg c4] at H
    have c4b0 : decide (x4_1 < 8)=false:=decide_eq_false c4
    clear c4
    by_cases c13 : (x3_1.length : Int) > 0
    ·rw [if_pos c13] at H
     have c13b0 : decide (0 < (x3_1.length : Int))=true:=decide_eq_true c13
     have c13b1 : decide (0 < x3_1.length)=true:=decide_eq_true (by omega)
     clear c13
     replace H:=obs H
     obtain ⟨⟨t613,t614,t615⟩,A140,H⟩:=H
     replace H : (if t613=true then (if 0 < (x3_1.length : Int) then (if x3_1.length < 5864062014805 then (some ((x3_1 ++ [(⟨(rd_T44 x3_1 0).f0,(rd_T44 x3_1 0).f1,(rd_T44 x3_1 0).f2⟩ : S44)]),t614,t615)) else (none)) else (none)) else (some (x3_1,t614,t615)))=some (r1,r2,r3):=H
     have A14:=amk A140
     clear A140
     by_cases c15 : t613=true
     ·subst c15
      have H1 : (if 0 < (x3_1.length : Int) then (if x3_1.length < 5864062014805 then (some ((x3_1 ++ [(⟨(rd_T44 x3_1 0).f0,(rd_T44 x3_1 0).f1,(rd_T44 x3_1 0).f2⟩ : S44)]),t614,t615)) else (none)) else (none))=some (r1,r2,r3):=by rw [if_pos rfl] at H;exact H
      clear H
      have H:=H1
      clear H1
      by_cases c16 : 0 < (x3_1.length : Int)
      ·rw [if_pos c16] at H
       have c16b0 : decide (0 < (x3_1.length : Int))=true:=decide_eq_true c16
       have c16b1 : decide (0 < x3_1.length)=true:=decide_eq_true (by omega)
       clear c16
       by_cases c17 : x3_1.length < 5864062014805
       ·rw [if_pos c17] at H
        have LMc17:=amk c17
        clear c17
        obtain ⟨y617,hy617⟩ : ∃ y_ : List (S44),y_=(x3_1 ++ [(⟨(rd_T44 x3_1 0).f0,(rd_T44 x3_1 0).f1,(rd_T44 x3_1 0).f2⟩ : S44)]):=⟨_,rfl⟩
        replace H : (some (y617,t614,t615))=some (r1,r2,r3):=by first | (rw [hy617];with_reducible exact H)|(have H2_:=(Option.bind_some _ _).symm.trans H;rw [hy617];with_reducible exact H2_)|(have H2_:=(Option.bind_some _ _).symm.trans H;with_reducible exact H2_) | with_reducible exact H | (rw [hy617];exact H) | exact H
        have Ny617:=amk hy617
        clear hy617
        simp only [Option.some.injEq,Prod.mk.injEq] at H
        obtain ⟨rfl,rfl,rfl⟩:=H
        obtain ⟨Ao18,co18,eo18⟩:=Kd.R_slice HO_3.out
        subst eo18
        go_wp2_with (first | (go_at_call 84;(with_reducible refine (spec_l1Cur_one.calls g s0_0 x1001_1 x1002_1 24 true t614 t615 w0 _ ?side1 ?side2 A14.out).mono ?_);(case side1=>exact i77_0 HI0);(case side2=>exact bel1 HB (IsS77.ge HI0.out));rintro e w19 ⟨rfl,hi,hb,hk⟩;replace HO_3:=amk (Kd.R_mono (Kd.R_keep (IsS77.apart (show IsS77 w0 _ g s0_0 x1001_1 x1002_1 from by exact i77_0 HI0) (rrr HO_3) (by decide)) hk (fun _ h=>h.2)) (fun _ h=>h.1));replace HK:=amk (KeepBut.trans (kkk HK) hk (.inl rfl));replace HB:=amk (hb);replace HI0:=amk (hi);(try clear hb hk hi);have p616 : 0≤(0 : Int):=(by omega);have q616 : 0 < (x3_1.length : Int):=of_decide_eq_true ass;obtain ⟨ad616,e616,hx616_0,hx616_1,hx616_2⟩:=at_T44 (Kd.R_reads' HO_3.out).2.2 0 p616 q616;cases e616;have qi616 : (0 < x3_1.length)=True:=eq_true (by omega);(try rw [show ((0 : Int)).toNat=0 from rfl] at hx616_0);(try rw [show 0 * 3=0 from rfl] at hx616_0);(try rw [Addr.add_zero'] at hx616_0);(try rw [show ((0 : Int)).toNat=0 from rfl] at hx616_1);(try rw [show 0 * 3=0 from rfl] at hx616_1);(try rw [Addr.add_zero'] at hx616_1);(try rw [show ((0 : Int)).toNat=0 from rfl] at hx616_2);(try rw [show 0 * 3=0 from rfl] at hx616_2);(try rw [Addr.add_zero'] at hx616_2);replace p616:=eq_true p616;replace q616:=eq_true q616)|((with_reducible refine gate_builtin (b:=.append) (xs:=#[.tmp 25,.tmp 29]) rfl ?_);at_builtin;refine Kd.R_append k44 w.heap.size rfl (.tmp 25) (.tmp 29) 55 44 (.agg #[(.int .i64 0),(.int .i64 0),(.int .i64 0)]) 24 rfl Try.underlying55 info44 rfl (by decide) (by omega) (.slice (some ad616) x3_1.length co18) x3_1 (⟨(rd_T44 x3_1 0).f0,(rd_T44 x3_1 0).f1,(rd_T44 x3_1 0).f2⟩ : S44) [.int .i64 ((rd_T44 x3_1 0).f0),.int .i64 ((rd_T44 x3_1 0).f1),.int .i64 ((rd_T44 x3_1 0).f2)] (fun _=>True) (fun _=>False) rfl rfl ?aP (fun _ hk=>hk.elim) ?aF ?aO (Below.refl _ _) ?aS ?aL ?_;(case aP=>exact k44_mkM _ _ _ (⟨(rd_T44 x3_1 0).f0,(rd_T44 x3_1 0).f1,(rd_T44 x3_1 0).f2⟩ : S44));(case aF=>exact (fun _ _=>trivial));(case aO=>exact (rrr HO_3));(case aS=>exact (keep_size (w:=w) (g:=g) (row:=none) (kkk HK)));(case aL=>have:=LMc17.out;omega);intro v618 w20 ho hb hg hat;rw [← Ny617.out] at ho;replace HB:=amk (below_weaken (bel1 HB (IsS77.ge HI0.out)) HL.out hb);replace HI0:=amk (IsS77.grown (i77_0 HI0) hg (IsS77.own_ne HI0.out HO_3.out (by decide)));replace HK:=amk (KeepBut.trans (kkk HK) (KeepBut.of_grown hg g) (Kd.R_base2 HO_3.out));have HO619:=amk (ho);clear HO_3;clear ho hb hg hat))
        go_ret
        exact ⟨_,erw0,rrr HO619,i77_0 HI0,bel1 HB (IsS77.ge HI0.out),kkk HK⟩
       ·rw [if_neg c17] at H
        exact absurd H (by simp)
      ·rw [if_neg c16] at H
       exact absurd H (by simp)
     ·replace c15:=Bool.eq_false_iff.mpr c15
      subst c15
      have H1 : (some (x3_1,t614,t615))=some (r1,r2,r3):=by rw [if_neg (show ¬ (false=true) by decide)] at H;exact H
      clear H
      have H:=H1
      clear H1
      simp only [Option.some.injEq,Prod.mk.injEq] at H
      obtain ⟨rfl,rfl,rfl⟩:=H
      obtain ⟨Ao21,co21,eo21⟩:=Kd.R_slice HO_3.out
      subst eo21
      go_wp2_with (first | (go_at_call 84;(with_reducible refine (spec_l1Cur_one.calls g s0_0 x1001_1 x1002_1 24 false t614 t615 w0 _ ?side1 ?side2 A14.out).mono ?_);(case side1=>exact i77_0 HI0);(case side2=>exact bel1 HB (IsS77.ge HI0.out));rintro e w22 ⟨rfl,hi,hb,hk⟩;replace HO_3:=amk (Kd.R_mono (Kd.R_keep (IsS77.apart (show IsS77 w0 _ g s0_0 x1001_1 x1002_1 from by exact i77_0 HI0) (rrr HO_3) (by decide)) hk (fun _ h=>h.2)) (fun _ h=>h.1));replace HK:=amk (KeepBut.trans (kkk HK) hk (.inl rfl));replace HB:=amk (hb);replace HI0:=amk (hi);(try clear hb hk hi)))
      go_ret
      exact ⟨_,erw0,rrr HO_3,i77_0 HI0,bel1 HB (IsS77.ge HI0.out),kkk HK⟩
    ·rw [if_neg c13] at H
     have c13b0 : decide (0 < (x3_1.length : Int))=false:=decide_eq_false c13
     have c13b1 : decide (0 < x3_1.length)=false:=decide_eq_false (by omega)
     clear c13
     simp only [Option.some.injEq,Prod.mk.injEq] at H
     obtain ⟨rfl,rfl,rfl⟩:=H
     obtain ⟨Ao23,co23,eo23⟩:=Kd.R_slice HO_3.out
     subst eo23
     go_wp2
     go_ret
     exact ⟨_,erw0,rrr HO_3,i77_0 HI0,bel1 HB (IsS77.ge HI0.out),kkk HK⟩
end Go.Proofs.Ytldifiededjgjaa.P
