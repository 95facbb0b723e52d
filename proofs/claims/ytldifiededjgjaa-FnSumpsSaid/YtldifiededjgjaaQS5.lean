/- For all inputs the law FnSumps answers true, and no call of it panics. -/
import Derived.Test.YtldifiededjgjaaQS4
namespace Go.Proofs.Ytldifiededjgjaa.Pu
open Go.RowKit Go.Proofs.Ytldifiededjgjaa.P Go.Proofs.YtldifiededjgjaaW.PrintWords
def sumpB (s : S44) : Bool:=decide ((0≤s.f0∧s.f0≤7)∧(-500≤s.f1∧s.f1≤500)∧(-500≤s.f2∧s.f2≤s.f1))
theorem ssump (s : S44) : spec_l23Sump.f s.f0 s.f1 s.f2=some (sumpB s):=by
 unfold spec_l23Sump.f spec_l4Station.f sumpB
 rw [l1In_eq,level_eq,l1In_eq]
 by_cases a : 0≤s.f0∧s.f0≤7 <;> by_cases b : -500≤s.f1∧s.f1≤500 <;> simp [a,b]
theorem isump (s : S44) : impl_isSump.f s.f0 s.f1 s.f2=some (sumpB s):=by
 unfold impl_isSump.f impl_isStation.f sumpB
 rw [within_eq,isLevel_eq,isLevel_eq]
 by_cases a : 0≤s.f0∧s.f0≤7
 ·by_cases b : -500≤s.f1∧s.f1≤500
  ·by_cases c : -500≤s.f2∧s.f2≤500
   ·simp [a,b,c]
   ·simp only [a,b,c,decide_true,decide_false,Option.bind_some,if_true,and_self,true_and,Bool.false_eq_true,if_false]
    exact congrArg some (decide_eq_false (by omega)).symm
  ·simp [a,b]
 ·simp [a]
def sumpsFrom (l : List S44) : Nat→Int→Bool
 | 0,_=>true
 | n + 1,i=>sumpB (rd_T44 l i) && (!(decide (i > 0) && decide ((rd_T44 l (i - 1)).f0 ≥ (rd_T44 l i).f0)) && sumpsFrom l n (i + 1))
def sumpsB (l : List S44) : Bool:=sumpsFrom l l.length 0
theorem ssumps_l0 (l : List S44) (hl : (l.length : Int)≤1000000000000) : ∀ (d : Nat) (i : Int),0≤i→(l.length : Int) - i=d→Ev (fun k=>spec_l23Sumps.l0 k l i) (sumpsFrom l d i):=by
 intro d
 induction d with
 | zero=>intro i h0 hd;exact Ev.step (fun k=>spec_l23Sumps.l0.eq_2 l i k) (Ev.neg (by omega) (Ev.now _))
 | succ d ih=>
  intro i h0 hd
  have e : wrap64 (i + 1)=i + 1:=wr (by omega) (by omega)
  have e1 : wrap64 (i - 1)=i - 1:=wr (by omega) (by omega)
  refine Ev.step (fun k=>spec_l23Sumps.l0.eq_2 l i k) (Ev.pos (by omega) (Ev.pos h0 (Ev.bindS (ssump _) ?_)))
  simp only [e1]
  have nx:=ih (i + 1) (by omega) (by omega)
  have jt : Ev (fun k=>spec_l23Sumps.j1 k l i true) false:=Ev.step (fun k=>spec_l23Sumps.j1.eq_2 l i true k) (Ev.pos rfl (Ev.now _))
  have jf : Ev (fun k=>spec_l23Sumps.j1 k l i false) (sumpsFrom l d (i + 1)):=Ev.step (fun k=>spec_l23Sumps.j1.eq_2 l i false k) (Ev.neg (by simp) (by rw [e];exact nx))
  unfold sumpsFrom
  by_cases c : sumpB (rd_T44 l i)=true
  ·refine Ev.pos c ?_
   rw [c,Bool.true_and]
   by_cases c2 : i > 0
   ·refine Ev.pos c2 (Ev.pos (by omega) (Ev.pos (by omega) ?_))
    by_cases c3 : (rd_T44 l (i - 1)).f0 ≥ (rd_T44 l i).f0
    ·rw [decide_eq_true c3]
     exact Ev.to jt (by simp [c2])
    ·rw [decide_eq_false c3]
     exact Ev.to jf (by simp)
   ·exact Ev.neg c2 (Ev.to jf (by simp [c2]))
  ·refine Ev.neg c (Ev.to jt ?_)
   cases x : sumpB (rd_T44 l i) <;> simp_all
theorem isumps_l0 (l : List S44) (hl : (l.length : Int)≤1000000000000) : ∀ (d : Nat) (i : Int),0≤i→(l.length : Int) - i=d→Ev (fun k=>impl_AreSumps.l0 k l l (l.length : Int) i) (sumpsFrom l d i):=by
 intro d
 induction d with
 | zero=>intro i h0 hd;exact Ev.step (fun k=>impl_AreSumps.l0.eq_2 l l _ i k) (Ev.neg (by omega) (Ev.now _))
 | succ d ih=>
  intro i h0 hd
  have e : wrap64 (i + 1)=i + 1:=wr (by omega) (by omega)
  have e1 : wrap64 (i - 1)=i - 1:=wr (by omega) (by omega)
  refine Ev.step (fun k=>impl_AreSumps.l0.eq_2 l l _ i k) (Ev.pos (by omega) (Ev.pos h0 (Ev.pos (by omega) (Ev.bindS (isump _) ?_))))
  simp only [e1]
  have nx:=ih (i + 1) (by omega) (by omega)
  have jt : Ev (fun k=>impl_AreSumps.j1 k l l (l.length : Int) i true) false:=Ev.step (fun k=>impl_AreSumps.j1.eq_2 l l (l.length : Int) i true k) (Ev.pos rfl (Ev.now _))
  have jf : Ev (fun k=>impl_AreSumps.j1 k l l (l.length : Int) i false) (sumpsFrom l d (i + 1)):=Ev.step (fun k=>impl_AreSumps.j1.eq_2 l l (l.length : Int) i false k) (Ev.neg (by simp) (by rw [e];exact nx))
  unfold sumpsFrom
  by_cases c : sumpB (rd_T44 l i)=true
  ·refine Ev.pos c ?_
   rw [c,Bool.true_and]
   by_cases c2 : i > 0
   ·refine Ev.pos c2 (Ev.pos (by omega) (Ev.pos (by omega) ?_))
    by_cases c3 : (rd_T44 l (i - 1)).f0 ≥ (rd_T44 l i).f0
    ·rw [decide_eq_true c3]
     exact Ev.to jt (by simp [c2])
    ·rw [decide_eq_false c3]
     exact Ev.to jf (by simp)
   ·exact Ev.neg c2 (Ev.to jf (by simp [c2]))
  ·refine Ev.neg c (Ev.to jt ?_)
   cases x : sumpB (rd_T44 l i) <;> simp_all
theorem ssumps (l : List S44) (hl : (l.length : Int)≤1000000000000) : Ev (fun k=>spec_l23Sumps.f k l) (sumpsB l):=ssumps_l0 l hl l.length 0 (Int.le_refl _) (by omega)
theorem isumps (l : List S44) (hl : (l.length : Int)≤1000000000000) : Ev (fun k=>impl_AreSumps.f k l) (sumpsB l):=isumps_l0 l hl l.length 0 (Int.le_refl _) (by omega)
theorem sumps_ok {l : List S44} (h : sumpsB l=true) : ∀ s ∈ l,sumpB s=true:=by
 have key : ∀ (d : Nat) (i : Int),0≤i→(l.length : Int) - i=d→sumpsFrom l d i=true→∀ j : Nat,i≤j→j < l.length→sumpB (rd_T44 l j)=true:=by
  intro d
  induction d with
  | zero=>intro i _ hd _ j a b;omega
  | succ d ih=>
   intro i h0 hd g j a b
   unfold sumpsFrom at g
   simp only [Bool.and_eq_true] at g
   by_cases e : i=j
   ·rw [← e];exact g.1
   ·exact ih (i + 1) (by omega) (by omega) g.2.2 j (by omega) b
 intro s hs
 obtain ⟨j,hj,rfl⟩:=List.getElem_of_mem hs
 have:=key l.length 0 (Int.le_refl _) (by omega) h j (by omega) hj
 unfold rd_T44 at this
 rw [Int.toNat_natCast,List.getD_eq_getElem?_getD,List.getElem?_eq_getElem hj] at this
 exact this
noncomputable def pos (l : List S30) (h : Int) : Int:=@dite _ (InH l h) (Classical.propDecidable _) (fun g=>Classical.choose (level_both l h g)) (fun _=>0)
theorem pos_ok {l : List S30} {h : Int} (g : InH l h) : At l h (pos l h)∧Ev (fun k=>impl_levelIn.f k l h) (lev l h (pos l h))∧Ev (fun k=>spec_l23In.f k l h) (lev l h (pos l h)):=by
 unfold pos
 rw [dif_pos g]
 exact Classical.choose_spec (level_both l h g)
noncomputable def op (l : List S30) (o h : Int) : Bool:=decide ((lev l h (pos l h)).1≤wrap64 (o * (lev l h (pos l h)).2))
theorem iopen {l : List S30} {h : Int} (g : InH l h) (a b o : Int) : Ev (fun k=>impl_Sump_open.f k a b o l h) (op l o h):=by
 unfold impl_Sump_open.f
 exact Ev.bind (pos_ok g).2.1 (Ev.now _)
theorem sopen {l : List S30} {h : Int} (g : InH l h) (a b o : Int) : Ev (fun k=>spec_l23Open.f k l a b o h) (op l o h):=by
 unfold spec_l23Open.f
 exact Ev.bind (pos_ok g).2.2 (Ev.now _)
noncomputable def shut (l : List S30) (h : Int) (ss : List S44) : List Int:=(ss.filter (fun s=>!op l s.f2 h)).map (·.f0)
theorem rd44 (l : List S44) (M L : List S44) (s : S44) (e : M ++ s :: L=l) (i : Int) (hi : i=M.length) : rd_T44 l i=s:=by
 unfold rd_T44
 rw [← e,hi,Int.toNat_natCast]
 simp [List.getD_eq_getElem?_getD]
theorem shut_len (l : List S30) (h : Int) (ss : List S44) : (shut l h ss).length≤ss.length:=by
 unfold shut
 rw [List.length_map]
 exact List.length_filter_le _ _
theorem sclosed_l0 {l : List S30} {h : Int} (g : InH l h) (ss : List S44) (hl : (ss.length : Int)≤1000000000000) : ∀ (L M : List S44) (i : Int) (out : List Int),0≤i→i=M.length→M ++ L=ss→out.length≤M.length →
  Ev (fun k=>spec_l23Closed.l0 k l ss h out i) (out ++ shut l h L):=by
 intro L
 induction L with
 | nil=>
  intro M i out h0 hi e ho
  have len:=congrArg List.length e
  simp at len
  exact Ev.step (fun k=>spec_l23Closed.l0.eq_2 l ss h out i k) (Ev.neg (by omega) (Ev.to (Ev.now _) (by simp [shut])))
 | cons s L ih=>
  intro M i out h0 hi e ho
  have len:=congrArg List.length e
  simp at len
  have w : wrap64 (i + 1)=i + 1:=wr (by omega) (by omega)
  have rd0:=rd44 ss M L s e i hi
  refine Ev.step (fun k=>spec_l23Closed.l0.eq_2 l ss h out i k) (Ev.pos (by omega) (Ev.pos h0 ?_))
  simp only [rd0,w]
  refine Ev.bind (sopen g _ _ _) ?_
  have nx:=fun out' ho'=>ih (M ++ [s]) (i + 1) out' (by omega) (by simp;omega) (by rw [← e];simp) ho'
  by_cases c : op l s.f2 h=true
  ·refine Ev.pos c (Ev.to (nx out (by simp;omega)) ?_)
   simp [shut,c]
  ·refine Ev.neg c (Ev.pos (by omega) (Ev.to (nx _ (by simp;omega)) ?_))
   simp [shut,c]
theorem sclosed {l : List S30} {h : Int} (g : InH l h) (ss : List S44) (hl : (ss.length : Int)≤1000000000000) : Ev (fun k=>spec_l23Closed.f k l ss h) (shut l h ss):=
 Ev.to (sclosed_l0 g ss hl ss [] 0 [] (Int.le_refl _) rfl rfl (Nat.le_refl _)) rfl
noncomputable def opens (l : List S30) (ss : List S44) (h : Int) : Bool:=(shut l h ss).isEmpty
theorem iopens_l0 {l : List S30} {h : Int} (ss : List S44) (hl : (ss.length : Int)≤1000000000000) (p : Nat→S44→Option Bool) (hp : ∀ s ∈ ss,Ev (fun k=>p k s) (!op l s.f2 h)) :
  ∀ (L M : List S44) (i : Int),0≤i→i=M.length→M ++ L=ss→∃ r,(r ≥ 0 ↔ ¬ opens l L h=true)∧∃ K,∀ k,K≤k→∀ m,L.length < m→impl_Sump_91.l0 m ss (p k) (ss.length : Int) i=some r:=by
 intro L
 induction L with
 | nil=>
  intro M i h0 hi e
  have len:=congrArg List.length e
  simp at len
  refine ⟨-1,by simp [opens,shut],0,fun k _ m hm=>?_⟩
  obtain ⟨m,rfl⟩ : ∃ j,m=j + 1:=⟨m - 1,by simp at hm;omega⟩
  rw [impl_Sump_91.l0.eq_2,if_neg (by omega)]
 | cons s L ih=>
  intro M i h0 hi e
  have len:=congrArg List.length e
  simp at len
  have w : wrap64 (i + 1)=i + 1:=wr (by omega) (by omega)
  have rd0:=rd44 ss M L s e i hi
  obtain ⟨r,hr,K,hK⟩:=ih (M ++ [s]) (i + 1) (by omega) (by simp;omega) (by rw [← e];simp)
  obtain ⟨K',hK'⟩:=hp s (by rw [← e];simp)
  by_cases c : op l s.f2 h=true
  ·refine ⟨r,by rw [hr];simp [opens,shut,c],K + K',fun k hk m hm=>?_⟩
   obtain ⟨m,rfl⟩ : ∃ j,m=j + 1:=⟨m - 1,by omega⟩
   rw [impl_Sump_91.l0.eq_2,if_pos (by omega),if_pos h0,if_pos (by omega),rd0]
   have this : p k s=some (!op l s.f2 h):=hK' k (by omega)
   rw [this,c]
   simp only [Option.bind_some,Bool.not_true,Bool.false_eq_true,if_false,w]
   exact hK k (by omega) m (by simp at hm;omega)
  ·refine ⟨i,by simp [opens,shut,c,h0],K',fun k hk m hm=>?_⟩
   obtain ⟨m,rfl⟩ : ∃ j,m=j + 1:=⟨m - 1,by omega⟩
   rw [impl_Sump_91.l0.eq_2,if_pos (by omega),if_pos h0,if_pos (by omega),rd0]
   have this : p k s=some (!op l s.f2 h):=hK' k (by omega)
   rw [this]
   have cf : op l s.f2 h=false:=by cases x : op l s.f2 h <;> simp_all
   simp [cf]
theorem iopens {l : List S30} {h : Int} (g : InH l h) (ss : List S44) (hl : (ss.length : Int)≤1000000000000) : Ev (fun k=>impl_OpenFor_1.f k h ss l) (opens l ss h):=by
 have hp : ∀ s ∈ ss,Ev (fun k=>(fun (k : Nat) (x_ : S44)=>impl_OpenFor_1_1.f k x_.f0 x_.f1 x_.f2 l h) k s) (!op l s.f2 h):=by
  intro s _
  simp only []
  unfold impl_OpenFor_1_1.f
  exact Ev.bind (iopen g _ _ _) (Ev.now _)
 obtain ⟨r,hr,K,hK⟩:=iopens_l0 ss hl _ hp ss [] 0 (Int.le_refl _) rfl rfl
 refine ⟨K + ss.length + 1,fun k hk=>?_⟩
 unfold impl_OpenFor_1.f impl_Sump_75.f impl_Sump_91.f
 have:=hK k (by omega) k (by omega)
 simp only []
 rw [this]
 simp only [Option.bind_some]
 by_cases c : r ≥ 0
 ·have:=hr.mp c
  simp [c,this]
 ·have : opens l ss h=true:=by
   cases x : opens l ss h
   ·exact absurd (hr.mpr (by simp [x])) c
   ·rfl
  simp [c,this]
theorem Ev.all {α : Type} (F : Nat→Int→Option α) (P : Int→α) (lo : Int) : ∀ (n : Nat),(∀ x,lo≤x→x < lo + n→Ev (fun k=>F k x) (P x))→∃ K,∀ k,K≤k→∀ x,lo≤x→x < lo + n→F k x=some (P x):=by
 intro n
 induction n with
 | zero=>intro _;exact ⟨0,fun k _ x a b=>by omega⟩
 | succ n ih=>
  intro h
  obtain ⟨K,hK⟩:=ih (fun x a b=>h x a (by omega))
  obtain ⟨K',hK'⟩:=h (lo + n) (by omega) (by omega)
  refine ⟨K + K',fun k hk x a b=>?_⟩
  by_cases e : x=lo + n
  ·rw [e];exact hK' k (by omega)
  ·exact hK k (by omega) x a (by omega)
noncomputable def Q (l : List S30) (ss : List S44) (h : Int) : Bool:=inB l h && opens l ss h
noncomputable def okFor (l : List S30) (ss : List S44) (c : Int) : Bool:=goodB l && (sumpsB ss && decide (1≤c∧c≤100))
theorem sfor_l0 (l : List S30) (ss : List S44) (c : Int) (hl : (l.length : Int)≤1000000000000) (hs : (ss.length : Int)≤1000000000000) (hc : 1≤c∧c≤100) (out : ∀ x,x < 0 ∨ 1000≤x→Q l ss x=false) :
  ∀ (d : Nat) (h r : Int),0≤h→1000 - h=d→0≤r→r < c→(∀ x,h - r≤x→x < h→Q l ss x=true)→Q l ss (h - r - 1)=false→(∀ a,a + c≤h→¬ Run (Q l ss) c a) →
   ∃ a,Ans (Q l ss) c a∧Ev (fun k=>spec_OpenFor.l0 k l ss c r h) a:=by
 intro d
 induction d with
 | zero=>
  intro h r h0 hd r0 rc run bef no
  refine ⟨(0,false),.inr ⟨rfl,fun a g=>?_⟩,Ev.step (fun k=>spec_OpenFor.l0.eq_2 l ss c r h k) (Ev.neg (by omega) (Ev.now _))⟩
  by_cases e : a + c≤h
  ·exact no a e g
  ·have:=g (a + c - 1) (by omega) (by omega)
   rw [out _ (by omega)] at this
   cases this
 | succ d ih=>
  intro h r h0 hd r0 rc run bef no
  have w : wrap64 (h + 1)=h + 1:=wr (by omega) (by omega)
  have w1 : wrap64 (r + 1)=r + 1:=wr (by omega) (by omega)
  have w2 : wrap64 (wrap64 (h - c) + 1)=h - c + 1:=by rw [wr (x:=h - c) (by omega) (by omega),wr (by omega) (by omega)]
  have off : Q l ss h=false→∃ a,Ans (Q l ss) c a∧Ev (fun k=>spec_OpenFor.j2 k l ss c (wrap64 (r + 1)) h true) a:=by
   intro q
   have no' : ∀ a,a + c≤h + 1→¬ Run (Q l ss) c a:=by
    intro a e g
    by_cases e' : a + c≤h
    ·exact no a e' g
    ·have:=g h (by omega) (by omega)
     rw [q] at this
     cases this
   obtain ⟨a,ha,hr⟩:=ih (h + 1) 0 (by omega) (by omega) (by omega) (by omega) (fun x u v=>by omega) (by rw [show h + 1 - 0 - 1=h from by omega];exact q) no'
   refine ⟨a,ha,Ev.step (fun k=>spec_OpenFor.j2.eq_2 l ss c _ h true k) (Ev.pos rfl (Ev.neg (by omega) ?_))⟩
   rw [w]
   exact hr
  by_cases g : InH l h
  ·have gb:=inB_true g
   by_cases o : opens l ss h=true
   ·have q : Q l ss h=true:=by unfold Q;rw [gb,o];rfl
    have z : decide (((shut l h ss).length : Int) > 0)=false:=by
     unfold opens at o
     rw [List.isEmpty_iff.mp o]
     rfl
    have run' : ∀ x,h + 1 - (r + 1)≤x→x < h + 1→Q l ss x=true:=by
     intro x u v
     by_cases e : x=h
     ·rw [e];exact q
     ·exact run x (by omega) (by omega)
    by_cases e : r + 1=c
    ·refine ⟨(h - c + 1,true),.inl ⟨rfl,fun x u v=>?_,fun a ha g'=>?_⟩,?_⟩
     ·simp only [] at u v
      exact run' x (by omega) (by omega)
     ·simp only [] at ha
      exact no a (by omega) g'
     ·refine Ev.step (fun k=>spec_OpenFor.l0.eq_2 l ss c r h k) (Ev.pos (by omega) (Ev.bind (swithin l h hl) (Ev.pos gb (Ev.bind (sclosed g ss hs) ?_))))
      rw [z,w1]
      refine Ev.step (fun k=>spec_OpenFor.j2.eq_2 l ss c _ h false k) (Ev.neg (by simp) (Ev.pos e ?_))
      rw [w2]
      exact Ev.now _
    ·have no' : ∀ a,a + c≤h + 1→¬ Run (Q l ss) c a:=by
      intro a e1 g'
      by_cases e' : a + c≤h
      ·exact no a e' g'
      ·have:=g' (h - r - 1) (by omega) (by omega)
       rw [bef] at this
       cases this
     obtain ⟨a,ha,hr⟩:=ih (h + 1) (r + 1) (by omega) (by omega) (by omega) (by omega) run' (by rw [show h + 1 - (r + 1) - 1=h - r - 1 from by omega];exact bef) no'
     refine ⟨a,ha,Ev.step (fun k=>spec_OpenFor.l0.eq_2 l ss c r h k) (Ev.pos (by omega) (Ev.bind (swithin l h hl) (Ev.pos gb (Ev.bind (sclosed g ss hs) ?_))))⟩
     rw [z,w1]
     refine Ev.step (fun k=>spec_OpenFor.j2.eq_2 l ss c _ h false k) (Ev.neg (by simp) (Ev.neg e ?_))
     rw [w]
     exact hr
   ·have q : Q l ss h=false:=by unfold Q;cases x : opens l ss h <;> simp_all
    obtain ⟨a,ha,hr⟩:=off q
    refine ⟨a,ha,Ev.step (fun k=>spec_OpenFor.l0.eq_2 l ss c r h k) (Ev.pos (by omega) (Ev.bind (swithin l h hl) (Ev.pos gb (Ev.bind (sclosed g ss hs) ?_))))⟩
    have z : decide (((shut l h ss).length : Int) > 0)=true:=by
     refine decide_eq_true ?_
     unfold opens at o
     rcases x : shut l h ss with _ | ⟨y,t⟩
     ·rw [x] at o;simp at o
     ·simp only [List.length_cons];omega
    rw [z]
    exact hr
  ·have q : Q l ss h=false:=by unfold Q;rw [inB_false g];rfl
   obtain ⟨a,ha,hr⟩:=off q
   refine ⟨a,ha,Ev.step (fun k=>spec_OpenFor.l0.eq_2 l ss c r h k) (Ev.pos (by omega) (Ev.bind (swithin l h hl) (Ev.neg (by rw [inB_false g];simp) hr)))⟩
theorem Q_out {l : List S30} (ss : List S44) (g : GoodR l) : ∀ x,x < 0 ∨ 1000≤x→Q l ss x=false:=by
 intro x hx
 have : ¬ InH l x:=by
  intro i
  have a:=g.h 0 (by omega) (by have:=i.2.1;omega)
  have b:=g.h ((l.length : Int) - 1) (by have:=i.2.1;omega) (by omega)
  have:=i.2.2
  omega
 unfold Q
 rw [inB_false this]
 rfl
theorem hours_in {l : List S30} (g : GoodR l) : ∃ lo hi,Ev (fun _=>impl_hours.f l) (lo,hi)∧0≤lo∧hi≤999∧lo≤hi + 1∧∀ x,(lo≤x∧x≤hi) ↔ InH l x:=by
 have hl:=g.len
 by_cases c : (l.length : Int)=0
 ·refine ⟨0,-1,⟨0,fun k _=>by rw [ihours l (by omega),if_pos c]⟩,by omega,by omega,by omega,fun x=>⟨fun h=>by omega,fun h=>by have:=h.2.1;omega⟩⟩
 ·refine ⟨H l 0,H l ((l.length : Int) - 1),⟨0,fun k _=>by rw [ihours l (by omega),if_neg c]⟩,(g.h 0 (by omega) (by omega)).1,(g.h _ (by omega) (by omega)).2,?_,fun x=>⟨fun h=>⟨g,by omega,h⟩,fun h=>h.2.2⟩⟩
  have:=g.le 0 ((l.length : Int) - 1) (by omega) (by omega) (by omega)
  omega
theorem OpenFor_both (l : List S30) (ss : List S44) (c : Int) (hl : (l.length : Int)≤1000000000000) (hs : (ss.length : Int)≤1000000000000) :
  ∃ r,Ev (fun k=>spec_OpenFor.f k l ss c) r∧Ev (fun k=>impl_OpenFor.f k l ss c) r∧(r.2=true→okFor l ss c=true∧Run (Q l ss) c r.1):=by
 unfold spec_OpenFor.f impl_OpenFor.f
 have bad : okFor l ss c=false→∃ r : Int × Bool,Ev (fun k=>(spec_l23Good.f k l).bind fun t472=>(if t472=true then ((spec_l23Sumps.f k ss).bind fun t473=>(if t473=true then ((spec_l1In.f c 1 100).bind fun t474=>(spec_OpenFor.j0 k l ss c (!t474))) else (spec_OpenFor.j0 k l ss c true))) else (spec_OpenFor.j0 k l ss c true))) r ∧
   Ev (fun k=>(impl_AreReadings.f k l).bind fun t500=>(if t500=true then ((impl_AreSumps.f k ss).bind fun t501=>(if t501=true then ((impl_within.f c 1 100).bind fun t502=>(impl_OpenFor.j0 k c (!t502) l ss)) else (impl_OpenFor.j0 k c true l ss))) else (impl_OpenFor.j0 k c true l ss))) r∧(r.2=true→okFor l ss c=true∧Run (Q l ss) c r.1):=by
  intro no
  have s0 : Ev (fun k=>spec_OpenFor.j0 k l ss c true) (0,false):=Ev.step (fun k=>spec_OpenFor.j0.eq_2 l ss c true k) (Ev.pos rfl (Ev.now _))
  have i0 : Ev (fun k=>impl_OpenFor.j0 k c true l ss) (0,false):=Ev.step (fun k=>impl_OpenFor.j0.eq_2 c true l ss k) (Ev.pos rfl (Ev.now _))
  refine ⟨(0,false),Ev.bind (sgood l hl) ?_,Ev.bind (igood l hl) ?_,fun h=>by cases h⟩
  ·by_cases a : goodB l=true
   ·refine Ev.pos a (Ev.bind (ssumps ss hs) ?_)
    by_cases b : sumpsB ss=true
    ·refine Ev.pos b (Ev.bindS (l1In_eq _ _ _) ?_)
     have : decide (1≤c∧c≤100)=false:=by unfold okFor at no;rw [a,b] at no;simpa using no
     rw [this]
     exact s0
    ·exact Ev.neg b s0
   ·exact Ev.neg a s0
  ·by_cases a : goodB l=true
   ·refine Ev.pos a (Ev.bind (isumps ss hs) ?_)
    by_cases b : sumpsB ss=true
    ·refine Ev.pos b (Ev.bindS (within_eq _ _ _) ?_)
     have : decide (1≤c∧c≤100)=false:=by unfold okFor at no;rw [a,b] at no;simpa using no
     rw [this]
     exact i0
    ·exact Ev.neg b i0
   ·exact Ev.neg a i0
 by_cases ok : okFor l ss c=true
 ·have ok':=ok
  unfold okFor at ok'
  simp only [Bool.and_eq_true] at ok'
  obtain ⟨a,b,d⟩:=ok'
  have hc:=of_decide_eq_true d
  have g:=good_of a
  have out:=Q_out ss g
  obtain ⟨r,hr,sr⟩:=sfor_l0 l ss c hl hs hc out 1000 0 0 (Int.le_refl _) rfl (Int.le_refl _) (by omega) (fun x u v=>by omega) (out _ (by omega)) (fun x e g'=>by
   have:=g' x (Int.le_refl _) (by omega)
   rw [out x (by omega)] at this
   cases this)
  obtain ⟨lo,hi,hh,h0,h1,h2,hin⟩:=hours_in g
  have evp : ∀ x,lo≤x→x < lo + ((hi + 1 - lo).toNat : Int)→Ev (fun k=>(fun (k : Nat) (x_ : Int)=>impl_OpenFor_1.f k x_ ss l) k x) (Q l ss x):=by
   intro x u v
   have i:=(hin x).mp ⟨u,by omega⟩
   refine Ev.to (iopens i ss hs) ?_
   unfold Q
   rw [inB_true i,Bool.true_and]
  obtain ⟨K,hK⟩:=Ev.all (fun (k : Nat) (x_ : Int)=>impl_OpenFor_1.f k x_ ss l) (Q l ss) lo _ evp
  have sp : Ev (fun k=>impl_spans.f k lo hi (fun x_ : Int=>impl_OpenFor_1.f k x_ ss l)) (tbl (scan (Q l ss) (hi + 1 - lo).toNat lo [])):=
   ⟨K + 2000000,fun k hk=>ispans (Q l ss) _ lo hi h0 (by omega) k (by omega) (fun x u v=>hK k (by omega) x u (by omega))⟩
  have S:=Sp.scan (Q:=Q l ss) (hi + 1 - lo).toNat lo [] (Int.le_refl _) (Sp.start _ _)
  have len : ∀ (n : Nat) (h : Int) (R : List (Int × Int)),(scan (Q l ss) n h R).length≤R.length + n:=by
   intro n
   induction n with
   | zero=>intro h R;exact Nat.le_refl _
   | succ n ih=>
    intro h R
    have a:=ih (h + 1) (stp (Q l ss) R h)
    have b:=stp_len (Q l ss) R h
    show (scan (Q l ss) n (h + 1) (stp (Q l ss) R h)).length≤_
    omega
  have ln:=len (hi + 1 - lo).toNat lo []
  obtain ⟨r',hr',ir⟩:=ifor_l0 (Q l ss) c lo _ _ hc.1 h0 (by omega) S (fun x hx=>by
   have : ¬ InH l x:=fun i=>by have:=(hin x).mpr i;omega
   unfold Q
   rw [inB_false this]
   rfl) (by simp at ln;omega) _ [] 0 (Int.le_refl _) rfl rfl (fun p hp=>by cases hp)
  have e:=hr.uniq hr'
  subst e
  refine ⟨r,?_,?_,fun h=>⟨ok,?_⟩⟩
  ·refine Ev.bind (sgood l hl) (Ev.pos a (Ev.bind (ssumps ss hs) (Ev.pos b (Ev.bindS (l1In_eq _ _ _) ?_))))
   rw [d]
   exact Ev.step (fun k=>spec_OpenFor.j0.eq_2 l ss c _ k) (Ev.neg (by simp) sr)
  ·refine Ev.bind (igood l hl) (Ev.pos a (Ev.bind (isumps ss hs) (Ev.pos b (Ev.bindS (within_eq _ _ _) ?_))))
   rw [d]
   exact Ev.step (fun k=>impl_OpenFor.j0.eq_2 c _ l ss k) (Ev.neg (by simp) (Ev.bind hh (Ev.bind sp ir)))
  ·rcases hr with ⟨_,h2,_⟩ | ⟨h2,_⟩
   ·exact h2
   ·rw [h2] at h;cases h
 ·exact bad (by cases x : okFor l ss c <;> simp_all)
noncomputable def isOpenR (l : List S30) (s : S44) (h : Int) : Bool × Bool:=if inB l h && sumpB s then (op l s.f2 h,true) else (false,false)
theorem isOpenR_t {l : List S30} {s : S44} {h : Int} (a : inB l h=true) (b : sumpB s=true) : isOpenR l s h=(op l s.f2 h,true):=by unfold isOpenR;rw [a,b];rfl
theorem isOpenR_a {l : List S30} {s : S44} {h : Int} (a : ¬ inB l h=true) : isOpenR l s h=(false,false):=by unfold isOpenR;rw [Bool.eq_false_iff.mpr a];rfl
theorem isOpenR_b {l : List S30} {s : S44} {h : Int} (a : ¬ sumpB s=true) : isOpenR l s h=(false,false):=by unfold isOpenR;rw [Bool.eq_false_iff.mpr a,Bool.and_false];rfl
theorem iisopen (l : List S30) (s : S44) (h : Int) (hl : (l.length : Int)≤1000000000000) : Ev (fun k=>impl_IsOpen.f k l s.f0 s.f1 s.f2 h) (isOpenR l s h):=by
 unfold impl_IsOpen.f
 refine Ev.bind (ihas l h hl) ?_
 by_cases a : inB l h=true
 ·refine Ev.pos a (Ev.bindS (isump s) ?_)
  by_cases b : sumpB s=true
  ·exact Ev.pos b (Ev.bind (iopen (in_of a) _ _ _) (Ev.to (Ev.now _) (isOpenR_t a b).symm))
  ·exact Ev.neg b (Ev.to (Ev.now _) (isOpenR_b b).symm)
 ·exact Ev.neg a (Ev.to (Ev.now _) (isOpenR_a a).symm)
theorem sisopen (l : List S30) (s : S44) (h : Int) (hl : (l.length : Int)≤1000000000000) : Ev (fun k=>spec_IsOpen.f k l s.f0 s.f1 s.f2 h) (isOpenR l s h):=by
 unfold spec_IsOpen.f
 refine Ev.bind (swithin l h hl) ?_
 by_cases a : inB l h=true
 ·refine Ev.pos a (Ev.bindS (ssump s) ?_)
  by_cases b : sumpB s=true
  ·exact Ev.pos b (Ev.bind (sopen (in_of a) _ _ _) (Ev.to (Ev.now _) (isOpenR_t a b).symm))
  ·exact Ev.neg b (Ev.to (Ev.now _) (isOpenR_b b).symm)
 ·exact Ev.neg a (Ev.to (Ev.now _) (isOpenR_a a).symm)
noncomputable def Q1 (l : List S30) (o h : Int) : Bool:=inB l h && op l o h
theorem Q1_out {l : List S30} (o : Int) {x : Int} (h : ¬ InH l x) : Q1 l o x=false:=by unfold Q1;rw [inB_false h];rfl
theorem scan_skip (Q : Int→Bool) : ∀ (n : Nat) (h : Int) (R : List (Int × Int)),(∀ x,h≤x→x < h + n→Q x=false)→scan Q n h R=R:=by
 intro n
 induction n with
 | zero=>intro h R _;rfl
 | succ n ih=>
  intro h R q
  have e : stp Q R h=R:=stp_no R (by rw [q h (Int.le_refl _) (by omega)];simp)
  show scan Q n (h + 1) (stp Q R h)=R
  rw [e]
  exact ih (h + 1) R (fun x a b=>q x (by omega) (by omega))
theorem scan_add (Q : Int→Bool) : ∀ (m n : Nat) (h : Int) (R : List (Int × Int)),scan Q (m + n) h R=scan Q n (h + m) (scan Q m h R):=by
 intro m
 induction m with
 | zero=>intro n h R;rw [Nat.zero_add,show h + ((0 : Nat) : Int)=h from by omega];rfl
 | succ m ih=>
  intro n h R
  rw [show m + 1 + n=(m + n) + 1 from by omega]
  show scan Q (m + n) (h + 1) (stp Q R h)=scan Q n (h + ((m + 1 : Nat) : Int)) (scan Q m (h + 1) (stp Q R h))
  rw [ih,show h + 1 + (m : Int)=h + ((m + 1 : Nat) : Int) from by omega]
theorem scan_in (Q : Int→Bool) (lo hi : Int) (h0 : 0≤lo) (h1 : hi≤999) (h2 : lo≤hi + 1) (out : ∀ x,¬ (lo≤x∧x≤hi)→Q x=false) : scan Q 1000 0 []=scan Q (hi + 1 - lo).toNat lo []:=by
 have e : (1000 : Nat)=lo.toNat + ((hi + 1 - lo).toNat + (999 - hi).toNat):=by omega
 rw [e,scan_add,scan_skip Q lo.toNat 0 [] (fun x a b=>out x (by omega)),scan_add,scan_skip Q (999 - hi).toNat _ _ (fun x a b=>out x (by omega)),show (0 : Int) + (lo.toNat : Int)=lo from by omega]
noncomputable def spansR (l : List S30) (s : S44) : List (List Int) × Bool:=if goodB l && sumpB s then (tbl (scan (Q1 l s.f2) 1000 0 []),true) else ([],false)
theorem spansR_t {l : List S30} {s : S44} (a : goodB l=true) (b : sumpB s=true) : spansR l s=(tbl (scan (Q1 l s.f2) 1000 0 []),true):=by unfold spansR;rw [a,b];rfl
theorem spansR_a {l : List S30} {s : S44} (a : ¬ goodB l=true) : spansR l s=([],false):=by unfold spansR;rw [Bool.eq_false_iff.mpr a];rfl
theorem spansR_b {l : List S30} {s : S44} (a : ¬ sumpB s=true) : spansR l s=([],false):=by unfold spansR;rw [Bool.eq_false_iff.mpr a,Bool.and_false];rfl
theorem ispansF (l : List S30) (s : S44) (hl : (l.length : Int)≤1000000000000) : Ev (fun k=>impl_OpenSpans.f k l s.f0 s.f1 s.f2) (spansR l s):=by
 unfold impl_OpenSpans.f
 have i0 : ¬ (goodB l && sumpB s)=true→Ev (fun k=>impl_OpenSpans.j0 k true l s.f0 s.f1 s.f2) (spansR l s):=by
  intro h
  refine Ev.step (fun k=>impl_OpenSpans.j0.eq_2 true l s.f0 s.f1 s.f2 k) (Ev.pos rfl (Ev.to (Ev.now _) ?_))
  unfold spansR
  rw [if_neg h]
 refine Ev.bind (igood l hl) ?_
 by_cases a : goodB l=true
 ·refine Ev.pos a (Ev.bindS (isump s) ?_)
  by_cases b : sumpB s=true
  ·rw [b]
   obtain ⟨lo,hi,hh,h0,h1,h2,hin⟩:=hours_in (good_of a)
   have evp : ∀ x,lo≤x→x < lo + ((hi + 1 - lo).toNat : Int)→Ev (fun k=>(fun (k : Nat) (x_ : Int)=>impl_OpenSpans_1.f k x_ s.f0 s.f1 s.f2 l) k x) (Q1 l s.f2 x):=by
    intro x u v
    have i:=(hin x).mp ⟨u,by omega⟩
    show Ev (fun k=>impl_OpenSpans_1.f k x s.f0 s.f1 s.f2 l) (Q1 l s.f2 x)
    unfold impl_OpenSpans_1.f
    refine Ev.bind (iopen i _ _ _) (Ev.to (Ev.now _) ?_)
    unfold Q1
    rw [inB_true i,Bool.true_and]
   obtain ⟨K,hK⟩:=Ev.all (fun (k : Nat) (x_ : Int)=>impl_OpenSpans_1.f k x_ s.f0 s.f1 s.f2 l) (Q1 l s.f2) lo _ evp
   have sp : Ev (fun k=>impl_spans.f k lo hi (fun x_ : Int=>impl_OpenSpans_1.f k x_ s.f0 s.f1 s.f2 l)) (tbl (scan (Q1 l s.f2) (hi + 1 - lo).toNat lo [])):=
    ⟨K + 2000000,fun k hk=>ispans (Q1 l s.f2) _ lo hi h0 (by omega) k (by omega) (fun x u v=>hK k (by omega) x u (by omega))⟩
   have e:=scan_in (Q1 l s.f2) lo hi h0 h1 h2 (fun x hx=>Q1_out _ (fun i=>hx ((hin x).mpr i)))
   refine Ev.step (fun k=>impl_OpenSpans.j0.eq_2 _ l s.f0 s.f1 s.f2 k) (Ev.neg (by simp) (Ev.bind hh (Ev.bind sp (Ev.to (Ev.now _) ?_))))
   rw [spansR_t a b,e]
  ·have bf:=Bool.eq_false_iff.mpr b
   rw [bf]
   exact i0 (by simp [bf])
 ·exact Ev.neg a (i0 (by simp [a]))
theorem sspans_l0 (l : List S30) (s : S44) (hl : (l.length : Int)≤1000000000000) : ∀ (d : Nat) (h : Int) (R : List (Int × Int)),0≤h→1000 - h=d→R.length + d≤1000 →
  Ev (fun k=>spec_OpenSpans.l0 k l (tbl R) h s.f0 s.f1 s.f2) (tbl (scan (Q1 l s.f2) d h R),true):=by
 intro d
 induction d with
 | zero=>intro h R h0 hd hR;exact Ev.step (fun k=>spec_OpenSpans.l0.eq_2 l (tbl R) h s.f0 s.f1 s.f2 k) (Ev.neg (by omega) (Ev.now _))
 | succ d ih=>
  intro h R h0 hd hR
  have w : wrap64 (h + 1)=h + 1:=wr (by omega) (by omega)
  have w1 : wrap64 (h - 1)=h - 1:=wr (by omega) (by omega)
  have le:=stp_len (Q1 l s.f2) R h
  have go:=ih (h + 1) (stp (Q1 l s.f2) R h) (by omega) (by omega) (by omega)
  have off : Q1 l s.f2 h=false→Ev (fun k=>spec_OpenSpans.j2 k l (tbl R) h true s.f0 s.f1 s.f2) (tbl (scan (Q1 l s.f2) d (h + 1) (stp (Q1 l s.f2) R h)),true):=by
   intro q
   refine Ev.step (fun k=>spec_OpenSpans.j2.eq_2 l (tbl R) h true s.f0 s.f1 s.f2 k) (Ev.pos rfl ?_)
   rw [w]
   have e:=stp_no (Q:=Q1 l s.f2) (h:=h) R (by rw [q];simp)
   rw [e] at go ⊢
   exact go
  refine Ev.step (fun k=>spec_OpenSpans.l0.eq_2 l (tbl R) h s.f0 s.f1 s.f2 k) (Ev.pos (by omega) (Ev.bind (swithin l h hl) ?_))
  show Ev _ (tbl (scan (Q1 l s.f2) d (h + 1) (stp (Q1 l s.f2) R h)),true)
  by_cases i : InH l h
  ·have ib:=inB_true i
   refine Ev.pos ib (Ev.bind (sopen i _ _ _) ?_)
   by_cases o : op l s.f2 h=true
   ·have q : Q1 l s.f2 h=true:=by unfold Q1;rw [ib,o];rfl
    rw [o]
    refine Ev.step (fun k=>spec_OpenSpans.j2.eq_2 l (tbl R) h _ s.f0 s.f1 s.f2 k) (Ev.neg (by simp) ?_)
    simp only [w,w1,tbl_len]
    rcases R with _ | ⟨⟨a,b⟩,t⟩
    ·rw [stp_nil q] at go ⊢
     refine Ev.neg (by simp) (Ev.pos (by simp) ?_)
     exact go
    ·have w0 : wrap64 (((((a,b) :: t : List (Int × Int)).length : Nat) : Int) - 1)=(t.length : Int):=by
      simp only [List.length_cons] at hR ⊢
      rw [wr (by omega) (by omega)]
      omega
     have len2 : ((tp (a,b)).length : Int)=2:=rfl
     have r1 : rd (tp (a,b)) 1=b:=rfl
     have r0 : rd (tp (a,b)) 0=a:=rfl
     simp only [w0,tbl_last,len2,r1,r0]
     refine Ev.pos (by simp only [List.length_cons];omega) (Ev.pos (by omega) (Ev.pos (by simp only [List.length_cons];omega) (Ev.pos (by omega) ?_)))
     by_cases c2 : b=h - 1
     ·rw [stp_join t q c2] at go ⊢
      refine Ev.pos c2 (Ev.pos (by omega) ?_)
      have st : ([a,h] : List Int)=tp (a,h):=rfl
      rw [st,Int.toNat_natCast,tbl_set]
      exact go
     ·rw [stp_new t q c2] at go ⊢
      refine Ev.neg c2 (Ev.pos (by simp only [List.length_cons] at hR ⊢;omega) ?_)
      have st : ([h,h] : List Int)=tp (h,h):=rfl
      rw [st,tbl_add]
      exact go
   ·have of:=Bool.eq_false_iff.mpr o
    rw [of]
    exact off (by unfold Q1;rw [of,Bool.and_false])
  ·exact Ev.neg (by rw [inB_false i];simp) (off (Q1_out _ i))
theorem sspansF (l : List S30) (s : S44) (hl : (l.length : Int)≤1000000000000) : Ev (fun k=>spec_OpenSpans.f k l s.f0 s.f1 s.f2) (spansR l s):=by
 unfold spec_OpenSpans.f
 have s0 : ¬ (goodB l && sumpB s)=true→Ev (fun k=>spec_OpenSpans.j0 k l [] true s.f0 s.f1 s.f2) (spansR l s):=by
  intro h
  refine Ev.step (fun k=>spec_OpenSpans.j0.eq_2 l [] true s.f0 s.f1 s.f2 k) (Ev.pos rfl (Ev.to (Ev.now _) ?_))
  unfold spansR
  rw [if_neg h]
 refine Ev.someb (Ev.bind (sgood l hl) ?_)
 by_cases a : goodB l=true
 ·refine Ev.pos a (Ev.bindS (ssump s) ?_)
  by_cases b : sumpB s=true
  ·rw [b,spansR_t a b]
   exact Ev.step (fun k=>spec_OpenSpans.j0.eq_2 l [] _ s.f0 s.f1 s.f2 k) (Ev.neg (by simp) (sspans_l0 l s hl 1000 0 [] (Int.le_refl _) rfl (by simp)))
  ·have bf:=Bool.eq_false_iff.mpr b
   rw [bf]
   exact s0 (by simp [bf])
 ·exact Ev.neg a (s0 (by simp [a]))
noncomputable def closedR (l : List S30) (ss : List S44) (h : Int) : List Int × Bool:=if inB l h && sumpsB ss then (shut l h ss,true) else ([],false)
theorem closedR_t {l : List S30} {ss : List S44} {h : Int} (a : inB l h=true) (b : sumpsB ss=true) : closedR l ss h=(shut l h ss,true):=by unfold closedR;rw [a,b];rfl
theorem iclosed_l0 {l : List S30} {h : Int} (g : InH l h) (ss : List S44) (hl : (ss.length : Int)≤1000000000000) : ∀ (L M : List S44) (i : Int) (out : List Int),0≤i→i=M.length→M ++ L=ss→out.length≤M.length →
  Ev (fun k=>impl_ClosedSumps.l0 k l h out ss (ss.length : Int) i) (out ++ shut l h L,true):=by
 intro L
 induction L with
 | nil=>
  intro M i out h0 hi e ho
  have len:=congrArg List.length e
  simp at len
  exact Ev.step (fun k=>impl_ClosedSumps.l0.eq_2 l h out ss _ i k) (Ev.neg (by omega) (Ev.to (Ev.now _) (by simp [shut])))
 | cons s L ih=>
  intro M i out h0 hi e ho
  have len:=congrArg List.length e
  simp at len
  have w : wrap64 (i + 1)=i + 1:=wr (by omega) (by omega)
  have rd0:=rd44 ss M L s e i hi
  refine Ev.step (fun k=>impl_ClosedSumps.l0.eq_2 l h out ss _ i k) (Ev.pos (by omega) (Ev.pos h0 (Ev.pos (by omega) ?_)))
  simp only [rd0,w]
  refine Ev.bind (iopen g _ _ _) ?_
  have nx:=fun out' ho'=>ih (M ++ [s]) (i + 1) out' (by omega) (by simp;omega) (by rw [← e];simp) ho'
  by_cases c : op l s.f2 h=true
  ·refine Ev.pos c (Ev.to (nx out (by simp;omega)) ?_)
   simp [shut,c]
  ·refine Ev.neg c (Ev.pos (by omega) (Ev.to (nx _ (by simp;omega)) ?_))
   simp [shut,c]
theorem iclosed (l : List S30) (ss : List S44) (h : Int) (hl : (l.length : Int)≤1000000000000) (hs : (ss.length : Int)≤1000000000000) : Ev (fun k=>impl_ClosedSumps.f k l ss h) (closedR l ss h):=by
 unfold impl_ClosedSumps.f
 have i0 : ¬ (inB l h && sumpsB ss)=true→Ev (fun k=>impl_ClosedSumps.j0 k l ss h true) (closedR l ss h):=by
  intro c
  refine Ev.step (fun k=>impl_ClosedSumps.j0.eq_2 l ss h true k) (Ev.pos rfl (Ev.to (Ev.now _) ?_))
  unfold closedR
  rw [if_neg c]
 refine Ev.bind (ihas l h hl) ?_
 by_cases a : inB l h=true
 ·refine Ev.pos a (Ev.bind (isumps ss hs) ?_)
  by_cases b : sumpsB ss=true
  ·rw [b,closedR_t a b]
   exact Ev.step (fun k=>impl_ClosedSumps.j0.eq_2 l ss h _ k) (Ev.neg (by simp) (iclosed_l0 (in_of a) ss hs ss [] 0 [] (Int.le_refl _) rfl rfl (Nat.le_refl _)))
  ·have bf:=Bool.eq_false_iff.mpr b
   rw [bf]
   exact i0 (by simp [bf])
 ·exact Ev.neg a (i0 (by simp [a]))
theorem sclosedF (l : List S30) (ss : List S44) (h : Int) (hl : (l.length : Int)≤1000000000000) (hs : (ss.length : Int)≤1000000000000) : Ev (fun k=>spec_ClosedSumps.f k l ss h) (closedR l ss h):=by
 unfold spec_ClosedSumps.f
 have bad : ¬ (inB l h && sumpsB ss)=true→(([] : List Int),false)=closedR l ss h:=by
  intro c
  unfold closedR
  rw [if_neg c]
 refine Ev.bind (swithin l h hl) ?_
 by_cases a : inB l h=true
 ·refine Ev.pos a (Ev.bind (ssumps ss hs) ?_)
  by_cases b : sumpsB ss=true
  ·rw [closedR_t a b]
   exact Ev.pos b (Ev.bind (sclosed (in_of a) ss hs) (Ev.now _))
  ·exact Ev.neg b (Ev.to (Ev.now _) (bad (by simp [b])))
 ·exact Ev.neg a (Ev.to (Ev.now _) (bad (by simp [a])))
theorem sareSumps (l : List S44) (hl : (l.length : Int)≤1000000000000) : Ev (fun k=>spec_AreSumps.f k l) (sumpsB l):=by
 unfold spec_AreSumps.f
 exact Ev.bind (ssumps l hl) (Ev.now _)
def under (l : List S30) (s : S44) : Bool:=l.any (fun r=>decide (r.f1 > s.f1))
def drown (l : List S30) (ss : List S44) : List Int:=(ss.filter (under l)).map (·.f0)
noncomputable def drownedR (l : List S30) (ss : List S44) : List Int × Bool:=if goodB l && sumpsB ss then (drown l ss,true) else ([],false)
theorem drownedR_t {l : List S30} {ss : List S44} (a : goodB l=true) (b : sumpsB ss=true) : drownedR l ss=(drown l ss,true):=by unfold drownedR;rw [a,b];rfl
theorem rd30 (l M L : List S30) (s : S30) (e : M ++ s :: L=l) (i : Int) (hi : i=M.length) : rd_T30 l i=s:=by
 unfold rd_T30
 rw [← e,hi,Int.toNat_natCast]
 simp [List.getD_eq_getElem?_getD]
theorem iunder_l0 (l : List S30) (hl : (l.length : Int)≤1000000000000) (s : S44) : ∀ (L M : List S30) (i : Int),0≤i→i=M.length→M ++ L=l →
  ∃ r,(r ≥ 0 ↔ under L s=true)∧Ev (fun k=>impl_Reading_93.l0 k l (fun x_ : S30=>impl_DrownedSumps_1.f x_.f0 x_.f1 s.f0 s.f1 s.f2) (l.length : Int) i) r:=by
 intro L
 induction L with
 | nil=>
  intro M i h0 hi e
  have len:=congrArg List.length e
  simp at len
  exact ⟨-1,by simp [under],Ev.step (fun k=>impl_Reading_93.l0.eq_2 l _ _ i k) (Ev.neg (by omega) (Ev.now _))⟩
 | cons r L ih=>
  intro M i h0 hi e
  have len:=congrArg List.length e
  simp at len
  have w : wrap64 (i + 1)=i + 1:=wr (by omega) (by omega)
  have rd0:=rd30 l M L r e i hi
  obtain ⟨q,hq,ev⟩:=ih (M ++ [r]) (i + 1) (by omega) (by simp;omega) (by rw [← e];simp)
  by_cases c : r.f1 > s.f1
  ·refine ⟨i,by simp [under,c,h0],Ev.step (fun k=>impl_Reading_93.l0.eq_2 l _ _ i k) (Ev.pos (by omega) (Ev.pos h0 (Ev.pos (by omega) ?_)))⟩
   rw [rd0]
   exact Ev.someb (Ev.pos (decide_eq_true c) (Ev.now _))
  ·refine ⟨q,by rw [hq];simp [under,c],Ev.step (fun k=>impl_Reading_93.l0.eq_2 l _ _ i k) (Ev.pos (by omega) (Ev.pos h0 (Ev.pos (by omega) ?_)))⟩
   rw [rd0,w]
   exact Ev.someb (Ev.neg (by simp [c]) ev)
theorem iunder (l : List S30) (hl : (l.length : Int)≤1000000000000) (s : S44) : Ev (fun k=>impl_Reading_82.f k l (fun x_ : S30=>impl_DrownedSumps_1.f x_.f0 x_.f1 s.f0 s.f1 s.f2)) (under l s):=by
 obtain ⟨r,hr,ev⟩:=iunder_l0 l hl s l [] 0 (Int.le_refl _) rfl rfl
 unfold impl_Reading_82.f impl_Reading_93.f
 refine Ev.bind ev (Ev.to (Ev.now _) ?_)
 by_cases c : r ≥ 0
 ·rw [hr.mp c]
  exact decide_eq_true c
 ·rw [Bool.eq_false_iff.mpr (fun h=>c (hr.mpr h))]
  exact decide_eq_false c
theorem idrown_l0 (l : List S30) (ss : List S44) (hl : (l.length : Int)≤1000000000000) (hs : (ss.length : Int)≤1000000000000) : ∀ (L M : List S44) (i : Int) (out : List Int),0≤i→i=M.length→M ++ L=ss→out.length≤M.length →
  Ev (fun k=>impl_DrownedSumps.l0 k l out ss (ss.length : Int) i) (out ++ drown l L,true):=by
 intro L
 induction L with
 | nil=>
  intro M i out h0 hi e ho
  have len:=congrArg List.length e
  simp at len
  exact Ev.step (fun k=>impl_DrownedSumps.l0.eq_2 l out ss _ i k) (Ev.neg (by omega) (Ev.to (Ev.now _) (by simp [drown])))
 | cons s L ih=>
  intro M i out h0 hi e ho
  have len:=congrArg List.length e
  simp at len
  have w : wrap64 (i + 1)=i + 1:=wr (by omega) (by omega)
  have rd0:=rd44 ss M L s e i hi
  refine Ev.step (fun k=>impl_DrownedSumps.l0.eq_2 l out ss _ i k) (Ev.pos (by omega) (Ev.pos h0 (Ev.pos (by omega) ?_)))
  simp only [rd0,w]
  refine Ev.bind (iunder l hl s) ?_
  have nx:=fun out' ho'=>ih (M ++ [s]) (i + 1) out' (by omega) (by simp;omega) (by rw [← e];simp) ho'
  by_cases c : under l s=true
  ·refine Ev.pos c (Ev.pos (by omega) (Ev.to (nx _ (by simp;omega)) ?_))
   simp [drown,c]
  ·refine Ev.neg c (Ev.to (nx out (by simp;omega)) ?_)
   simp [drown,c]
theorem idrowned (l : List S30) (ss : List S44) (hl : (l.length : Int)≤1000000000000) (hs : (ss.length : Int)≤1000000000000) : Ev (fun k=>impl_DrownedSumps.f k l ss) (drownedR l ss):=by
 unfold impl_DrownedSumps.f
 have i0 : ¬ (goodB l && sumpsB ss)=true→Ev (fun k=>impl_DrownedSumps.j0 k l ss true) (drownedR l ss):=by
  intro c
  refine Ev.step (fun k=>impl_DrownedSumps.j0.eq_2 l ss true k) (Ev.pos rfl (Ev.to (Ev.now _) ?_))
  unfold drownedR
  rw [if_neg c]
 refine Ev.bind (igood l hl) ?_
 by_cases a : goodB l=true
 ·refine Ev.pos a (Ev.bind (isumps ss hs) ?_)
  by_cases b : sumpsB ss=true
  ·rw [b,drownedR_t a b]
   exact Ev.step (fun k=>impl_DrownedSumps.j0.eq_2 l ss _ k) (Ev.neg (by simp) (idrown_l0 l ss hl hs ss [] 0 [] (Int.le_refl _) rfl rfl (Nat.le_refl _)))
  ·have bf:=Bool.eq_false_iff.mpr b
   rw [bf]
   exact i0 (by simp [bf])
 ·exact Ev.neg a (i0 (by simp [a]))
theorem sdrown_l1 (l : List S30) (ss : List S44) (hl : (l.length : Int)≤1000000000000) (s : S44) (i : Int) (h0 : 0≤i) (h1 : i < ss.length) (hi : rd_T44 ss i=s) (out : List Int) (ho : out.length < 17592186044416) (r : List Int × Bool)
  (yes : under l s=true→Ev (fun k=>spec_DrownedSumps.l0 k l ss (out ++ [s.f0]) (wrap64 (i + 1))) r) (no : under l s=false→Ev (fun k=>spec_DrownedSumps.l0 k l ss out (wrap64 (i + 1))) r) :
  ∀ (L M : List S30) (j : Int),0≤j→j=M.length→M ++ L=l→(∀ x ∈ M,¬ x.f1 > s.f1)→Ev (fun k=>spec_DrownedSumps.l1 k l ss out i j) r:=by
 intro L
 induction L with
 | nil=>
  intro M j j0 hj e hM
  have len:=congrArg List.length e
  simp at len
  refine Ev.step (fun k=>spec_DrownedSumps.l1.eq_2 l ss out i j k) (Ev.neg (by omega) (no ?_))
  rw [List.append_nil] at e
  subst e
  unfold under
  rw [List.any_eq_false]
  intro x hx
  simp [hM x hx]
 | cons q L ih=>
  intro M j j0 hj e hM
  have len:=congrArg List.length e
  simp at len
  have w : wrap64 (j + 1)=j + 1:=wr (by omega) (by omega)
  have rd0:=rd30 l M L q e j hj
  refine Ev.step (fun k=>spec_DrownedSumps.l1.eq_2 l ss out i j k) (Ev.pos (by omega) (Ev.pos j0 (Ev.pos h0 (Ev.pos h1 ?_))))
  simp only [rd0,hi]
  by_cases c : q.f1 > s.f1
  ·refine Ev.pos c (Ev.pos ho (yes ?_))
   unfold under
   rw [List.any_eq_true]
   exact ⟨q,by rw [← e];simp,by simp [c]⟩
  ·refine Ev.neg c ?_
   rw [w]
   exact ih (M ++ [q]) (j + 1) (by omega) (by simp;omega) (by rw [← e];simp) (fun x hx=>by
    rcases List.mem_append.mp hx with m | m
    ·exact hM x m
    ·obtain rfl:=List.mem_singleton.mp m
     exact c)
theorem sdrown_l0 (l : List S30) (ss : List S44) (hl : (l.length : Int)≤1000000000000) (hs : (ss.length : Int)≤1000000000000) : ∀ (L M : List S44) (i : Int) (out : List Int),0≤i→i=M.length→M ++ L=ss→out.length≤M.length →
  Ev (fun k=>spec_DrownedSumps.l0 k l ss out i) (out ++ drown l L,true):=by
 intro L
 induction L with
 | nil=>
  intro M i out h0 hi e ho
  have len:=congrArg List.length e
  simp at len
  exact Ev.step (fun k=>spec_DrownedSumps.l0.eq_2 l ss out i k) (Ev.neg (by omega) (Ev.to (Ev.now _) (by simp [drown])))
 | cons s L ih=>
  intro M i out h0 hi e ho
  have len:=congrArg List.length e
  simp at len
  have w : wrap64 (i + 1)=i + 1:=wr (by omega) (by omega)
  have rd0:=rd44 ss M L s e i hi
  have nx:=fun out' ho'=>ih (M ++ [s]) (i + 1) out' (by omega) (by simp;omega) (by rw [← e];simp) ho'
  refine Ev.step (fun k=>spec_DrownedSumps.l0.eq_2 l ss out i k) (Ev.pos (by omega) ?_)
  refine sdrown_l1 l ss hl s i h0 (by omega) rd0 out (by omega) _ (fun c=>?_) (fun c=>?_) l [] 0 (Int.le_refl _) rfl rfl (fun x hx=>by cases hx)
  ·rw [w]
   exact Ev.to (nx _ (by simp;omega)) (by simp [drown,c])
  ·rw [w]
   exact Ev.to (nx out (by simp;omega)) (by simp [drown,c])
theorem sdrowned (l : List S30) (ss : List S44) (hl : (l.length : Int)≤1000000000000) (hs : (ss.length : Int)≤1000000000000) : Ev (fun k=>spec_DrownedSumps.f k l ss) (drownedR l ss):=by
 unfold spec_DrownedSumps.f
 have i0 : ¬ (goodB l && sumpsB ss)=true→Ev (fun k=>spec_DrownedSumps.j0 k l ss [] true) (drownedR l ss):=by
  intro c
  refine Ev.step (fun k=>spec_DrownedSumps.j0.eq_2 l ss [] true k) (Ev.pos rfl (Ev.to (Ev.now _) ?_))
  unfold drownedR
  rw [if_neg c]
 refine Ev.someb (Ev.bind (sgood l hl) ?_)
 by_cases a : goodB l=true
 ·refine Ev.pos a (Ev.bind (ssumps ss hs) ?_)
  by_cases b : sumpsB ss=true
  ·rw [b,drownedR_t a b]
   exact Ev.step (fun k=>spec_DrownedSumps.j0.eq_2 l ss [] _ k) (Ev.neg (by simp) (sdrown_l0 l ss hl hs ss [] 0 [] (Int.le_refl _) rfl rfl (Nat.le_refl _)))
  ·have bf:=Bool.eq_false_iff.mpr b
   rw [bf]
   exact i0 (by simp [bf])
 ·exact Ev.neg a (i0 (by simp [a]))
theorem readings_l1 {s : List Int} (hs : Bytes s) : ∀ (d : Nat) (xs : List S30) (x6 a sd y z : Int),0≤a→a + 2 * d + 20≤4611686018427387000→(17 : Int) - xs.length≤d→xs.length≤17 →
  0≤x6→x6 < xs.length→∃ l a' sd',Ev (fun k=>spec_l1Cur_readings.l1 k xs x6 s a sd y z) (l,a',sd')∧(l : List S30).length≤17∧a≤a'∧a'≤a + 2 * d + 20:=by
 intro d
 induction d with
 | zero=>
  intro xs x6 a sd y z h0 hd hx hm h1 h2
  obtain ⟨t,a1,sd1,e,t0,t1,_,b0,b1⟩:=pick_ok hs a sd 2 h0 (by omega)
  have t2:=t1 (by omega)
  have w : wrap64 (15 + t)=15 + t:=wr (by omega) (by omega)
  refine ⟨xs.set x6.toNat (⟨y,z⟩ : S30),a1,sd1,Ev.step (fun k=>spec_l1Cur_readings.l1.eq_2 xs x6 s a sd y z k) (Ev.bindS e ?_),?_,by omega,by omega⟩
  ·simp only [w]
   exact Ev.neg (by omega) (Ev.pos h1 (Ev.pos h2 (Ev.now _)))
  ·simp
   omega
 | succ d ih=>
  intro xs x6 a sd y z h0 hd hx hm h1 h2
  obtain ⟨t,a1,sd1,e,t0,t1,_,b0,b1⟩:=pick_ok hs a sd 2 h0 (by omega)
  have t2:=t1 (by omega)
  have w : wrap64 (15 + t)=15 + t:=wr (by omega) (by omega)
  by_cases c : (xs.length : Int) < 15 + t
  ·obtain ⟨l,a2,sd2,r,rl,r0,r1⟩:=ih (xs ++ [(⟨wrap64 (980 + (xs.length : Int)),2⟩ : S30)]) x6 a1 sd1 y z (by omega) (by omega) (by simp;omega) (by simp;omega) h1 (by simp;omega)
   refine ⟨l,a2,sd2,Ev.step (fun k=>spec_l1Cur_readings.l1.eq_2 xs x6 s a sd y z k) (Ev.bindS e ?_),rl,by omega,by omega⟩
   simp only [w]
   exact Ev.pos c (Ev.pos (by omega) r)
  ·refine ⟨xs.set x6.toNat (⟨y,z⟩ : S30),a1,sd1,Ev.step (fun k=>spec_l1Cur_readings.l1.eq_2 xs x6 s a sd y z k) (Ev.bindS e ?_),?_,by omega,by omega⟩
   ·simp only [w]
    exact Ev.neg c (Ev.pos h1 (Ev.pos h2 (Ev.now _)))
   ·simp
    omega
theorem readings_l0 {s : List Int} (hs : Bytes s) : ∀ (d : Nat) (xs : List S30) (x4 a sd : Int),0≤a→a + 4 * d + 100≤4611686018427387000→xs.length + d≤7 →
  ∃ l a' sd',Ev (fun k=>spec_l1Cur_readings.l0 k xs x4 (d : Int) s a sd) (l,a',sd')∧(l : List S30).length≤17∧a≤a'∧a'≤a + 4 * d + 100:=by
 intro d
 induction d with
 | zero=>
  intro xs x4 a sd h0 hd hx
  by_cases c : (xs.length : Int)=0
  ·exact ⟨_,a,sd,Ev.step (fun k=>spec_l1Cur_readings.l0.eq_2 xs x4 _ s a sd k) (Ev.neg (by omega) (Ev.pos c (Ev.now _))),by omega,by omega,by omega⟩
  obtain ⟨t,a1,sd1,e,t0,t1,_,b0,b1⟩:=pick_ok hs a sd (xs.length : Int) h0 (by omega)
  have t2:=t1 (by omega)
  obtain ⟨u,a2,sd2,e2,u0,u1,_,c0,c1⟩:=pick_ok hs a1 sd1 50 (by omega) (by omega)
  by_cases q0 : u=0
  ·obtain ⟨v,a3,sd3,e3,v0,v1,d0,d1⟩:=among_ok hs a2 sd2 [(-1),1000,(rd_T30 xs 0).f0] (by simp) (by omega) (by omega)
   refine ⟨_,a3,sd3,Ev.step (fun k=>spec_l1Cur_readings.l0.eq_2 xs x4 _ s a sd k) (Ev.neg (by omega) (Ev.neg c (Ev.bindS e (Ev.pos t0 (Ev.pos t2 (Ev.bindS e2 (Ev.pos q0 (Ev.pos (by omega) (Ev.bindS e3 (Ev.now _)))))))))),by simp;omega,by omega,by omega⟩
  by_cases q1 : u=1
  ·obtain ⟨v,a3,sd3,e3,v0,v1,d0,d1⟩:=among_ok hs a2 sd2 [(-501),501] (by simp) (by omega) (by omega)
   refine ⟨_,a3,sd3,Ev.step (fun k=>spec_l1Cur_readings.l0.eq_2 xs x4 _ s a sd k) (Ev.neg (by omega) (Ev.neg c (Ev.bindS e (Ev.pos t0 (Ev.pos t2 (Ev.bindS e2 (Ev.neg q0 (Ev.pos q1 (Ev.bindS e3 (Ev.now _)))))))))),by simp;omega,by omega,by omega⟩
  by_cases q2 : u=2
  ·obtain ⟨l,a3,sd3,r,rl,r0,r1⟩:=readings_l1 hs 17 xs t a2 sd2 (rd_T30 xs t).f0 (rd_T30 xs t).f1 (by omega) (by omega) (by omega) (by omega) t0 t2
   exact ⟨l,a3,sd3,Ev.step (fun k=>spec_l1Cur_readings.l0.eq_2 xs x4 _ s a sd k) (Ev.neg (by omega) (Ev.neg c (Ev.bindS e (Ev.pos t0 (Ev.pos t2 (Ev.bindS e2 (Ev.neg q0 (Ev.neg q1 (Ev.pos q2 r))))))))),rl,by omega,by omega⟩
  ·exact ⟨_,a2,sd2,Ev.step (fun k=>spec_l1Cur_readings.l0.eq_2 xs x4 _ s a sd k) (Ev.neg (by omega) (Ev.neg c (Ev.bindS e (Ev.pos t0 (Ev.pos t2 (Ev.bindS e2 (Ev.neg q0 (Ev.neg q1 (Ev.neg q2 (Ev.now _)))))))))),by simp;omega,by omega,by omega⟩
 | succ d ih=>
  intro xs x4 a sd h0 hd hx
  obtain ⟨t,a1,sd1,e,t0,t1,b0,b1⟩:=among_ok hs a sd [(-500),(-20),0,5,10,10,40,500] (by simp) h0 (by omega)
  obtain ⟨u,a2,sd2,e2,u0,u1,c0,c1⟩:=among_ok hs a1 sd1 [1,2,3,7,20] (by simp) (by omega) (by omega)
  obtain ⟨l,a3,sd3,r,rl,r0,r1⟩:=ih (xs ++ [(⟨x4,rd [(-500),(-20),0,5,10,10,40,500] t⟩ : S30)]) (wrap64 (x4 + rd [1,2,3,7,20] u)) a2 sd2 (by omega) (by omega) (by simp;omega)
  have w : wrap64 (((d + 1 : Nat) : Int) - 1)=(d : Int):=by rw [wr (by omega) (by omega)];omega
  refine ⟨l,a3,sd3,Ev.step (fun k=>spec_l1Cur_readings.l0.eq_2 xs x4 _ s a sd k) (Ev.pos (by omega) (Ev.bindS e (Ev.pos (by omega) (Ev.bindS e2 ?_)))),rl,by omega,by omega⟩
  simp only [w]
  exact r
theorem readings_ok {s : List Int} (hs : Bytes s) (a sd : Int) (h0 : 0≤a) (h1 : a≤4611686018427386000) :
  ∃ l a' sd',Ev (fun k=>spec_l1Cur_readings.f k s a sd) (l,a',sd')∧(l : List S30).length≤17∧a≤a'∧a'≤a + 200:=by
 obtain ⟨t,a1,sd1,e,t0,t1,b0,b1⟩:=among_ok hs a sd [0,5,900] (by simp) h0 (by omega)
 obtain ⟨u,a2,sd2,e2,u0,u1,_,c0,c1⟩:=pick_ok hs a1 sd1 7 (by omega) (by omega)
 have u2:=u1 (by omega)
 obtain ⟨n,rfl⟩:=Int.eq_ofNat_of_zero_le u0
 obtain ⟨l,a3,sd3,r,rl,r0,r1⟩:=readings_l0 hs n [] (rd [0,5,900] t) a2 sd2 (by omega) (by omega) (by simp;omega)
 refine ⟨l,a3,sd3,?_,rl,by omega,by omega⟩
 unfold spec_l1Cur_readings.f
 exact Ev.bindS e (Ev.bindS e2 r)
theorem one_ok {s : List Int} (hs : Bytes s) (a sd n : Int) (h0 : 0≤a) (h1 : a≤4611686018427387000) :
  ∃ t a' sd',spec_l1Cur_one.f s a sd n=some (t,a',sd')∧a≤a'∧a'≤a + 2:=by
 obtain ⟨t,a1,sd1,e,t0,t1,_,b0,b1⟩:=pick_ok hs a sd n h0 h1
 unfold spec_l1Cur_one.f
 rw [e]
 exact ⟨_,a1,sd1,rfl,b0,b1⟩
theorem hour_j0 {s : List Int} (hs : Bytes s) (l : List S30) (b : Bool) (a sd : Int) (hl : (l.length : Int)≤1000000) (hb : b=true→0 < l.length) (h0 : 0≤a) (h1 : a≤4611686018427386000) :
  ∃ h a' sd',Ev (fun k=>spec_l1Cur_hour23.j0 k l b s a sd) (h,a',sd')∧a≤a'∧a'≤a + 4:=by
 cases b with
 | true=>
  obtain ⟨t,a1,sd1,e,t0,t1,_,b0,b1⟩:=pick_ok hs a sd (l.length : Int) h0 (by omega)
  have t2:=t1 (by have:=hb rfl;omega)
  obtain ⟨u,a2,sd2,e2,u0,u1,c0,c1⟩:=among_ok hs a1 sd1 [0,1,2,(-1)] (by simp) (by omega) (by omega)
  exact ⟨_,a2,sd2,Ev.step (fun k=>spec_l1Cur_hour23.j0.eq_2 l true s a sd k) (Ev.pos rfl (Ev.bindS e (Ev.pos t0 (Ev.pos t2 (Ev.bindS e2 (Ev.now _)))))),by omega,by omega⟩
 | false=>
  obtain ⟨u,a2,sd2,e2,u0,u1,c0,c1⟩:=among_ok hs a sd [0,6,905,999,(-1),1000] (by simp) (by omega) (by omega)
  exact ⟨_,a2,sd2,Ev.step (fun k=>spec_l1Cur_hour23.j0.eq_2 l false s a sd k) (Ev.neg (by simp) (Ev.bindS e2 (Ev.now _))),by omega,by omega⟩
theorem hour_ok {s : List Int} (hs : Bytes s) (l : List S30) (a sd : Int) (hl : (l.length : Int)≤1000000) (h0 : 0≤a) (h1 : a≤4611686018427385000) :
  ∃ h a' sd',Ev (fun k=>spec_l1Cur_hour23.f k s a sd l) (h,a',sd')∧a≤a'∧a'≤a + 6:=by
 unfold spec_l1Cur_hour23.f
 by_cases c : (l.length : Int) > 0
 ·obtain ⟨t,a1,sd1,e,b0,b1⟩:=one_ok hs a sd 4 h0 (by omega)
  obtain ⟨h,a2,sd2,r,r0,r1⟩:=hour_j0 hs l (!t) a1 sd1 hl (fun _=>by omega) (by omega) (by omega)
  exact ⟨h,a2,sd2,Ev.pos c (Ev.bindS e r),by omega,by omega⟩
 ·obtain ⟨h,a2,sd2,r,r0,r1⟩:=hour_j0 hs l false a sd hl (fun q=>by simp at q) (by omega) (by omega)
  exact ⟨h,a2,sd2,Ev.neg c r,by omega,by omega⟩
theorem sump_j1 {s : List Int} (hs : Bytes s) (a sd x y z : Int) (h0 : 0≤a) (h1 : a≤4611686018427386000) :
  ∃ p q r a' sd',Ev (fun k=>spec_l1Cur_sump.j1 k s a sd x y z) (p,q,r,a',sd')∧a≤a'∧a'≤a + 4:=by
 obtain ⟨t,a1,sd1,e,t0,t1,_,b0,b1⟩:=pick_ok hs a sd 60 h0 (by omega)
 by_cases q0 : t=0
 ·obtain ⟨v,a3,sd3,e3,v0,v1,d0,d1⟩:=among_ok hs a1 sd1 [(-1),8] (by simp) (by omega) (by omega)
  exact ⟨_,_,_,a3,sd3,Ev.step (fun k=>spec_l1Cur_sump.j1.eq_2 s a sd x y z k) (Ev.bindS e (Ev.pos q0 (Ev.bindS e3 (Ev.now _)))),by omega,by omega⟩
 by_cases q1 : t=1
 ·obtain ⟨v,a3,sd3,e3,v0,v1,d0,d1⟩:=among_ok hs a1 sd1 [(-501),501] (by simp) (by omega) (by omega)
  exact ⟨_,_,_,a3,sd3,Ev.step (fun k=>spec_l1Cur_sump.j1.eq_2 s a sd x y z k) (Ev.bindS e (Ev.neg q0 (Ev.pos q1 (Ev.bindS e3 (Ev.now _))))),by omega,by omega⟩
 by_cases q2 : t=2
 ·obtain ⟨v,a3,sd3,e3,v0,v1,d0,d1⟩:=among_ok hs a1 sd1 [(-501),wrap64 (y + 1)] (by simp) (by omega) (by omega)
  exact ⟨_,_,_,a3,sd3,Ev.step (fun k=>spec_l1Cur_sump.j1.eq_2 s a sd x y z k) (Ev.bindS e (Ev.neg q0 (Ev.neg q1 (Ev.pos q2 (Ev.bindS e3 (Ev.now _)))))),by omega,by omega⟩
 ·exact ⟨_,_,_,a1,sd1,Ev.step (fun k=>spec_l1Cur_sump.j1.eq_2 s a sd x y z k) (Ev.bindS e (Ev.neg q0 (Ev.neg q1 (Ev.neg q2 (Ev.now _))))),by omega,by omega⟩
theorem sump_j0 {s : List Int} (hs : Bytes s) (b : Bool) (a sd x y z : Int) (h0 : 0≤a) (h1 : a≤4611686018427386000) :
  ∃ p q r a' sd',Ev (fun k=>spec_l1Cur_sump.j0 k b s a sd x y z) (p,q,r,a',sd')∧a≤a'∧a'≤a + 4:=by
 cases b with
 | true=>
  obtain ⟨p,q,r,a',sd',e,h⟩:=sump_j1 hs a sd x y y h0 h1
  exact ⟨p,q,r,a',sd',Ev.step (fun k=>spec_l1Cur_sump.j0.eq_2 true s a sd x y z k) (Ev.pos rfl e),h⟩
 | false=>
  obtain ⟨p,q,r,a',sd',e,h⟩:=sump_j1 hs a sd x y z h0 h1
  exact ⟨p,q,r,a',sd',Ev.step (fun k=>spec_l1Cur_sump.j0.eq_2 false s a sd x y z k) (Ev.neg (by simp) e),h⟩
theorem sump_ok {s : List Int} (hs : Bytes s) (a sd x : Int) (h0 : 0≤a) (h1 : a≤4611686018427385000) :
  ∃ p q r a' sd',Ev (fun k=>spec_l1Cur_sump.f k s a sd x) (p,q,r,a',sd')∧a≤a'∧a'≤a + 10:=by
 obtain ⟨u,a1,sd1,e1,u0,u1,b0,b1⟩:=among_ok hs a sd [(-10),10,12,50,500] (by simp) h0 (by omega)
 obtain ⟨v,a2,sd2,e2,v0,v1,c0,c1⟩:=among_ok hs a1 sd1 [(-500),(-10),0,7,10] (by simp) (by omega) (by omega)
 unfold spec_l1Cur_sump.f
 by_cases c : rd [(-500),(-10),0,7,10] v > rd [(-10),10,12,50,500] u
 ·obtain ⟨t,a3,sd3,e3,d0,d1⟩:=one_ok hs a2 sd2 20 (by omega) (by omega)
  obtain ⟨p,q,r,a',sd',e,g0,g1⟩:=sump_j0 hs (!t) a3 sd3 x (rd [(-10),10,12,50,500] u) (rd [(-500),(-10),0,7,10] v) (by omega) (by omega)
  exact ⟨p,q,r,a',sd',Ev.bindS e1 (Ev.bindS e2 (Ev.pos c (Ev.bindS e3 e))),by omega,by omega⟩
 ·obtain ⟨p,q,r,a',sd',e,g0,g1⟩:=sump_j0 hs false a2 sd2 x (rd [(-10),10,12,50,500] u) (rd [(-500),(-10),0,7,10] v) (by omega) (by omega)
  exact ⟨p,q,r,a',sd',Ev.bindS e1 (Ev.bindS e2 (Ev.neg c e)),by omega,by omega⟩
theorem sumps_l0 {s : List Int} (hs : Bytes s) : ∀ (d : Nat) (xs : List S44) (i a sd : Int),0≤a→a + 12 * d + 2≤4611686018427385000→0≤i→8 - i=d→xs.length + d≤8 →
  ∃ l a' sd',Ev (fun k=>spec_l1Cur_sumps.l0 k xs i s a sd) (l,a',sd')∧(l : List S44).length≤9∧a≤a'∧a'≤a + 12 * d + 2:=by
 intro d
 induction d with
 | zero=>
  intro xs i a sd h0 h1 hi hd hx
  by_cases c : (xs.length : Int) > 0
  ·obtain ⟨t,a1,sd1,e,b0,b1⟩:=one_ok hs a sd 24 h0 (by omega)
   cases t with
   | true=>exact ⟨_,a1,sd1,Ev.step (fun k=>spec_l1Cur_sumps.l0.eq_2 xs i s a sd k) (Ev.neg (by omega) (Ev.pos c (Ev.bindS e (Ev.pos rfl (Ev.pos c (Ev.pos (by omega) (Ev.now _))))))),by simp;omega,by omega,by omega⟩
   | false=>exact ⟨_,a1,sd1,Ev.step (fun k=>spec_l1Cur_sumps.l0.eq_2 xs i s a sd k) (Ev.neg (by omega) (Ev.pos c (Ev.bindS e (Ev.neg (by simp) (Ev.now _))))),by omega,by omega,by omega⟩
  ·exact ⟨_,a,sd,Ev.step (fun k=>spec_l1Cur_sumps.l0.eq_2 xs i s a sd k) (Ev.neg (by omega) (Ev.neg c (Ev.now _))),by omega,by omega,by omega⟩
 | succ d ih=>
  intro xs i a sd h0 h1 hi hd hx
  have w : wrap64 (i + 1)=i + 1:=wr (by omega) (by omega)
  obtain ⟨t,a1,sd1,e,b0,b1⟩:=one_ok hs a sd 4 h0 (by omega)
  cases t with
  | true=>
   obtain ⟨p,q,r,a2,sd2,e2,c0,c1⟩:=sump_ok hs a1 sd1 i (by omega) (by omega)
   obtain ⟨l,a3,sd3,r3,rl,r0,r1⟩:=ih (xs ++ [(⟨p,q,r⟩ : S44)]) (i + 1) a2 sd2 (by omega) (by omega) (by omega) (by omega) (by simp;omega)
   refine ⟨l,a3,sd3,Ev.step (fun k=>spec_l1Cur_sumps.l0.eq_2 xs i s a sd k) (Ev.pos (by omega) (Ev.bindS e (Ev.pos rfl (Ev.bind e2 (Ev.pos (by omega) ?_))))),rl,by omega,by omega⟩
   simp only [w]
   exact r3
  | false=>
   obtain ⟨l,a3,sd3,r3,rl,r0,r1⟩:=ih xs (i + 1) a1 sd1 (by omega) (by omega) (by omega) (by omega) (by omega)
   refine ⟨l,a3,sd3,Ev.step (fun k=>spec_l1Cur_sumps.l0.eq_2 xs i s a sd k) (Ev.pos (by omega) (Ev.bindS e (Ev.neg (by simp) ?_))),rl,by omega,by omega⟩
   simp only [w]
   exact r3
theorem sumps_draw {s : List Int} (hs : Bytes s) (a sd : Int) (h0 : 0≤a) (h1 : a≤4611686018427384000) :
  ∃ l a' sd',Ev (fun k=>spec_l1Cur_sumps.f k s a sd) (l,a',sd')∧(l : List S44).length≤9∧a≤a'∧a'≤a + 100:=by
 obtain ⟨l,a',sd',r,rl,r0,r1⟩:=sumps_l0 hs 8 [] 0 a sd h0 (by omega) (by omega) (by omega) (by simp)
 exact ⟨l,a',sd',r,rl,r0,by omega⟩
theorem DrawIsOpen_ok {s : List Int} (hs : Bytes s) : ∃ l p q r h,Ev (fun k=>spec_DrawIsOpen.f k s) (l,p,q,r,h)∧(l : List S30).length≤17:=by
 obtain ⟨l,a,sd,r,rl,r0,r1⟩:=readings_ok hs 0 0 (by omega) (by omega)
 obtain ⟨p,q,t,a1,sd1,e,e0,e1⟩:=sump_ok hs a sd 3 (by omega) (by omega)
 obtain ⟨h,a2,sd2,g,q0,q1⟩:=hour_ok hs l a1 sd1 (by omega) (by omega) (by omega)
 refine ⟨l,p,q,t,h,?_,rl⟩
 unfold spec_DrawIsOpen.f
 exact Ev.bind r (Ev.bind e (Ev.bind g (Ev.now _)))
theorem DrawOpenFor_ok {s : List Int} (hs : Bytes s) : ∃ l ss c,Ev (fun k=>spec_DrawOpenFor.f k s) (l,ss,c)∧(l : List S30).length≤17∧(ss : List S44).length≤9:=by
 obtain ⟨l,a,sd,r,rl,r0,r1⟩:=readings_ok hs 0 0 (by omega) (by omega)
 obtain ⟨ss,a1,sd1,e,el,e0,e1⟩:=sumps_draw hs a sd (by omega) (by omega)
 obtain ⟨t,a2,sd2,p,t0,t1,_,p0,p1⟩:=pick_ok hs a1 sd1 24 (by omega) (by omega)
 have t2:=t1 (by omega)
 have d : 0≤Int.tdiv t 11∧Int.tdiv t 11≤2:=by
  rw [Int.tdiv_eq_ediv_of_nonneg t0]
  omega
 have w : wrap64 (5 + wrap64 (Int.tdiv t 11))=5 + Int.tdiv t 11:=by rw [wr (x:=Int.tdiv t 11) (by omega) (by omega),wr (by omega) (by omega)]
 have ln : 0 < (([1,2,5,30,100,0,101] : List Int).take (5 + Int.tdiv t 11).toNat).length:=by simp;omega
 obtain ⟨u,a3,sd3,g,_⟩:=among_ok hs a2 sd2 (([1,2,5,30,100,0,101] : List Int).take (5 + Int.tdiv t 11).toNat) ln (by omega) (by omega)
 refine ⟨l,ss,rd (([1,2,5,30,100,0,101] : List Int).take (5 + Int.tdiv t 11).toNat) u,?_,rl,el⟩
 unfold spec_DrawOpenFor.f
 refine Ev.bind r (Ev.bind e (Ev.someb (Ev.bindS p ?_)))
 simp only [w]
 exact Ev.pos (by omega) (Ev.pos (by simp;omega) (Ev.bindS g (Ev.now _)))
theorem DrawClosedSumps_ok {s : List Int} (hs : Bytes s) : ∃ l ss h,Ev (fun k=>spec_DrawClosedSumps.f k s) (l,ss,h)∧(l : List S30).length≤17∧(ss : List S44).length≤9:=by
 obtain ⟨l,a,sd,r,rl,r0,r1⟩:=readings_ok hs 0 0 (by omega) (by omega)
 obtain ⟨ss,a1,sd1,e,el,e0,e1⟩:=sumps_draw hs a sd (by omega) (by omega)
 obtain ⟨h,a2,sd2,g,q0,q1⟩:=hour_ok hs l a1 sd1 (by omega) (by omega) (by omega)
 refine ⟨l,ss,h,?_,rl,el⟩
 unfold spec_DrawClosedSumps.f
 exact Ev.bind r (Ev.bind e (Ev.bind g (Ev.now _)))
theorem DrawDrownedSumps_ok {s : List Int} (hs : Bytes s) : ∃ l ss,Ev (fun k=>spec_DrawDrownedSumps.f k s) (l,ss)∧(l : List S30).length≤17∧(ss : List S44).length≤9:=by
 obtain ⟨l,a,sd,r,rl,r0,r1⟩:=readings_ok hs 0 0 (by omega) (by omega)
 obtain ⟨ss,a1,sd1,e,el,e0,e1⟩:=sumps_draw hs a sd (by omega) (by omega)
 refine ⟨l,ss,?_,rl,el⟩
 unfold spec_DrawDrownedSumps.f
 exact Ev.bind r (Ev.bind e (Ev.now _))
theorem rints_l0 (l : List Int) (hl : (l.length : Int)≤1000000000000) : ∀ (d : Nat) (i : Int),0≤i→(l.length : Int) - i=d→Ev (fun k=>laws_rInts.l0 k l l i) true:=by
 intro d
 induction d with
 | zero=>intro i h0 hd;exact Ev.step (fun k=>laws_rInts.l0.eq_2 l l i k) (Ev.neg (by omega) (Ev.now _))
 | succ d ih=>
  intro i h0 hd
  have w : wrap64 (i + 1)=i + 1:=wr (by omega) (by omega)
  refine Ev.step (fun k=>laws_rInts.l0.eq_2 l l i k) (Ev.pos (by omega) (Ev.pos h0 (Ev.pos (by omega) (Ev.pos rfl ?_))))
  rw [w];exact ih (i + 1) (by omega) (by omega)
theorem rints (l : List Int) (hl : (l.length : Int)≤1000000000000) : Ev (fun k=>laws_rInts.f k l l) true:=by
 unfold laws_rInts.f
 exact Ev.pos rfl (rints_l0 l hl l.length 0 (Int.le_refl _) (by omega))
theorem rtable_l0 (l : List (List Int)) (hl : (l.length : Int)≤1000000000000) (hi : ∀ i : Int,((rd_L4 l i).length : Int)≤1000000000000) : ∀ (d : Nat) (i : Int),0≤i→(l.length : Int) - i=d→Ev (fun k=>laws_rTable.l0 k l l i) true:=by
 intro d
 induction d with
 | zero=>intro i h0 hd;exact Ev.step (fun k=>laws_rTable.l0.eq_2 l l i k) (Ev.neg (by omega) (Ev.now _))
 | succ d ih=>
  intro i h0 hd
  have w : wrap64 (i + 1)=i + 1:=wr (by omega) (by omega)
  refine Ev.step (fun k=>laws_rTable.l0.eq_2 l l i k) (Ev.pos (by omega) (Ev.pos h0 (Ev.pos (by omega) (Ev.bind (rints _ (hi i)) (Ev.pos rfl ?_)))))
  rw [w];exact ih (i + 1) (by omega) (by omega)
theorem rtable (l : List (List Int)) (hl : (l.length : Int)≤1000000000000) (hi : ∀ i : Int,((rd_L4 l i).length : Int)≤1000000000000) : Ev (fun k=>laws_rTable.f k l l) true:=by
 unfold laws_rTable.f
 exact Ev.pos rfl (rtable_l0 l hl hi l.length 0 (Int.le_refl _) (by omega))
theorem rhas_l0 (l : List Int) (hl : (l.length : Int)≤1000000000000) (x : Int) : ∀ (L M : List Int) (i : Int),0≤i→i=M.length→M ++ L=l→x ∈ L→Ev (fun k=>laws_rHas.l0 k l x i) true:=by
 intro L
 induction L with
 | nil=>intro M i _ _ _ hx;cases hx
 | cons y L ih=>
  intro M i h0 hi e hx
  have len:=congrArg List.length e
  simp at len
  have w : wrap64 (i + 1)=i + 1:=wr (by omega) (by omega)
  have rd0 : rd l i=y:=by
   unfold rd
   rw [← e,hi,Int.toNat_natCast]
   simp [List.getD_eq_getElem?_getD]
  refine Ev.step (fun k=>laws_rHas.l0.eq_2 l x i k) (Ev.pos (by omega) (Ev.pos h0 ?_))
  rw [rd0,w]
  by_cases c : y=x
  ·exact Ev.pos c (Ev.now _)
  ·refine Ev.neg c (ih (M ++ [y]) (i + 1) (by omega) (by simp;omega) (by rw [← e];simp) ?_)
   rcases List.mem_cons.mp hx with h | h
   ·exact absurd h.symm c
   ·exact h
theorem rhas (l : List Int) (hl : (l.length : Int)≤1000000000000) (x : Int) (hx : x ∈ l) : Ev (fun k=>laws_rHas.f k l x) true:=rhas_l0 l hl x l [] 0 (Int.le_refl _) rfl rfl hx
theorem scan_len (Q : Int→Bool) : ∀ (n : Nat) (h : Int) (R : List (Int × Int)),(scan Q n h R).length≤R.length + n:=by
 intro n
 induction n with
 | zero=>intro h R;exact Nat.le_refl _
 | succ n ih=>
  intro h R
  have a:=ih (h + 1) (stp Q R h)
  have b:=stp_len Q R h
  show (scan Q n (h + 1) (stp Q R h)).length≤_
  omega
theorem tbl_row (R : List (Int × Int)) (i : Int) : ((rd_L4 (tbl R) i).length : Int)≤2:=by
 unfold rd_L4 tbl
 rw [List.getD_eq_getElem?_getD]
 rcases h : ((R.map tp).reverse)[i.toNat]? with _ | x
 ·simp
 ·have:=List.mem_of_getElem? h
  rw [List.mem_reverse,List.mem_map] at this
  obtain ⟨p,_,rfl⟩:=this
  simp [tp]
theorem in_l0 (code : List Int) (x : Int) (op1 ok : Bool) (R : List (Int × Int)) (hR : R.length≤100000) (fin : ∀ b : Bool,(b=true ↔ ∃ p ∈ R,p.1≤x∧x≤p.2)→Ev (fun k=>laws_FnSumps.l0 k code x op1 ok (tbl R) b (R.length : Int)) true) :
  ∀ (L M : List (Int × Int)) (i : Int) (b : Bool),0≤i→i=M.length→M ++ L=R.reverse→(b=true ↔ ∃ p ∈ M,p.1≤x∧x≤p.2)→Ev (fun k=>laws_FnSumps.l0 k code x op1 ok (tbl R) b i) true:=by
 have tb : tbl R=R.reverse.map tp:=by unfold tbl;rw [List.map_reverse]
 intro L
 induction L with
 | nil=>
  intro M i b h0 hi e hb
  have len:=congrArg List.length e
  simp at len
  have : i=(R.length : Int):=by omega
  rw [this]
  refine fin b ?_
  rw [hb]
  rw [List.append_nil] at e
  rw [e]
  simp only [List.mem_reverse]
 | cons q L ih=>
  intro M i b h0 hi e hb
  have len:=congrArg List.length e
  simp at len
  have w : wrap64 (i + 1)=i + 1:=wr (by omega) (by omega)
  have rd1 : rd_L4 (tbl R) i=tp q:=by
   rw [tb,← e]
   unfold rd_L4
   rw [hi,Int.toNat_natCast]
   simp [List.getD_eq_getElem?_getD]
  have l2 : ((tp q).length : Int)=2:=rfl
  have r1 : rd (tp q) 1=q.2:=rfl
  have r0 : rd (tp q) 0=q.1:=rfl
  have nx:=fun b' hb'=>ih (M ++ [q]) (i + 1) b' (by omega) (by simp;omega) (by rw [← e];simp) hb'
  refine Ev.step (fun k=>laws_FnSumps.l0.eq_2 code x op1 ok (tbl R) b i k) (Ev.pos (by rw [tbl_len];omega) ?_)
  simp only [rd1,l2,r1,r0,w]
  by_cases c : b=true
  ·refine Ev.pos c (nx true ?_)
   obtain ⟨p,hp,h⟩:=hb.mp c
   exact ⟨fun _=>⟨p,List.mem_append_left _ hp,h⟩,fun _=>rfl⟩
  ·refine Ev.neg c (Ev.pos h0 (Ev.pos (by omega) ?_))
   have no : ¬ ∃ p ∈ M,p.1≤x∧x≤p.2:=fun h=>c (hb.mpr h)
   by_cases c1 : x ≥ q.1
   ·refine Ev.pos c1 (Ev.pos (by omega) (nx _ ?_))
    rw [decide_eq_true_iff]
    constructor
    ·intro h
     exact ⟨q,by simp,c1,h⟩
    ·rintro ⟨p,hp,h⟩
     rcases List.mem_append.mp hp with m | m
     ·exact absurd ⟨p,m,h⟩ no
     ·obtain rfl:=List.mem_singleton.mp m
      exact h.2
   ·refine Ev.neg c1 (nx false ?_)
    constructor
    ·intro h;cases h
    ·rintro ⟨p,hp,h⟩
     rcases List.mem_append.mp hp with m | m
     ·exact absurd ⟨p,m,h⟩ no
     ·obtain rfl:=List.mem_singleton.mp m
      exact absurd h.1 c1
theorem lev_at {l : List S30} (g : GoodR l) (i : Int) (h0 : 0≤i) (h1 : i < l.length) : InH l (H l i)∧lev l (H l i) (pos l (H l i))=(Lv l i,1):=by
 have inh : InH l (H l i):=⟨g,by omega,g.le 0 i (by omega) h0 h1,g.le i _ h0 (by omega) (by omega)⟩
 refine ⟨inh,?_⟩
 have at_:=(pos_ok inh).1
 obtain ⟨a0,a1,a2,a3⟩:=at_
 have e : pos l (H l i)=i:=by
  rcases Int.lt_trichotomy (pos l (H l i)) i with h | h | h
  ·have x:=a3 (by omega)
   have y:=g.le (pos l (H l i) + 1) i (by omega) (by omega) h1
   omega
  ·exact h
  ·have x:=g.lt i (pos l (H l i)) h0 h a1
   omega
 rw [e]
 unfold lev
 rw [if_pos rfl]
theorem rd44_mem (ss : List S44) (i : Int) (h0 : 0≤i) (h1 : i < ss.length) : rd_T44 ss i ∈ ss:=by
 have e : rd_T44 ss i=ss[i.toNat]'(by omega):=by
  unfold rd_T44
  rw [List.getD_eq_getElem?_getD,List.getElem?_eq_getElem (by omega)]
  rfl
 rw [e]
 exact List.getElem_mem _
theorem rd30_mem (l : List S30) (i : Int) (h0 : 0≤i) (h1 : i < l.length) : rd_T30 l i ∈ l:=by
 have e : rd_T30 l i=l[i.toNat]'(by omega):=by
  unfold rd_T30
  rw [List.getD_eq_getElem?_getD,List.getElem?_eq_getElem (by omega)]
  rfl
 rw [e]
 exact List.getElem_mem _
theorem shut_has {l : List S30} {ss : List S44} (g : GoodR l) (gs : sumpsB ss=true) (i j : Int) (h0 : 0≤i) (h1 : i < l.length) (j0 : 0≤j) (j1 : j < ss.length) (h : Lv l i > (rd_T44 ss j).f1) :
  (rd_T44 ss j).f0 ∈ shut l (H l i) ss:=by
 have m:=rd44_mem ss j j0 j1
 have ok:=sumps_ok gs _ m
 unfold sumpB at ok
 have ok':=of_decide_eq_true ok
 have lv:=(lev_at g i h0 h1).2
 unfold shut
 rw [List.mem_map]
 refine ⟨rd_T44 ss j,List.mem_filter.mpr ⟨m,?_⟩,rfl⟩
 unfold op
 rw [lv]
 simp only []
 rw [wr (by omega) (by omega)]
 have : decide (Lv l i≤(rd_T44 ss j).f2 * 1)=false:=decide_eq_false (by omega)
 rw [this]
 rfl
theorem drown_has {l : List S30} {ss : List S44} (i j : Int) (h0 : 0≤i) (h1 : i < l.length) (j0 : 0≤j) (j1 : j < ss.length) (h : Lv l i > (rd_T44 ss j).f1) : (rd_T44 ss j).f0 ∈ drown l ss:=by
 unfold drown
 rw [List.mem_map]
 refine ⟨rd_T44 ss j,List.mem_filter.mpr ⟨rd44_mem ss j j0 j1,?_⟩,rfl⟩
 unfold under
 rw [List.any_eq_true]
 exact ⟨rd_T30 l i,rd30_mem l i h0 h1,decide_eq_true h⟩
theorem last_l2 (l : List S30) (ss : List S44) (g : GoodR l) (gs : sumpsB ss=true) (hs : (ss.length : Int)≤1000) (i : Int) (h0 : 0≤i) (h1 : i < l.length) (nxt : Ev (fun k=>laws_FnSumps.l1 k l ss (drown l ss) true (wrap64 (i + 1))) true) :
  ∀ (d : Nat) (j : Int),0≤j→(ss.length : Int) - j=d→Ev (fun k=>laws_FnSumps.l2 k l ss (drown l ss) true i (shut l (H l i) ss) true j) true:=by
 intro d
 induction d with
 | zero=>intro j j0 hd;exact Ev.step (fun k=>laws_FnSumps.l2.eq_2 l ss _ true i _ true j k) (Ev.neg (by omega) nxt)
 | succ d ih=>
  intro j j0 hd
  have w : wrap64 (j + 1)=j + 1:=wr (by omega) (by omega)
  have go : Ev (fun k=>laws_FnSumps.j12 k l ss (drown l ss) true i (shut l (H l i) ss) true j false) true:=by
   refine Ev.step (fun k=>laws_FnSumps.j12.eq_2 l ss _ true i _ true j false k) (Ev.neg (by simp) ?_)
   rw [w]
   exact ih (j + 1) (by omega) (by omega)
  refine Ev.step (fun k=>laws_FnSumps.l2.eq_2 l ss _ true i _ true j k) (Ev.pos (by omega) (Ev.pos rfl (Ev.pos h0 (Ev.pos h1 (Ev.pos j0 ?_)))))
  have n0:=shut_len l (H l i) ss
  have n1 : (drown l ss).length≤ss.length:=by
   unfold drown
   rw [List.length_map]
   exact List.length_filter_le _ _
  by_cases c : Lv l i > (rd_T44 ss j).f1
  ·refine Ev.pos c (Ev.bind (rhas _ (by omega) _ (shut_has g gs i j h0 h1 j0 (by omega) c)) (Ev.pos rfl (Ev.bind (rhas _ (by omega) _ (drown_has i j h0 h1 j0 (by omega) c)) ?_)))
   exact go
  ·exact Ev.neg c go
theorem last_l1 (l : List S30) (ss : List S44) (g : GoodR l) (gs : sumpsB ss=true) (hs : (ss.length : Int)≤1000) : ∀ (d : Nat) (i : Int),0≤i→(l.length : Int) - i=d→Ev (fun k=>laws_FnSumps.l1 k l ss (drown l ss) true i) true:=by
 have hl:=g.len
 intro d
 induction d with
 | zero=>
  intro i h0 hd
  refine Ev.step (fun k=>laws_FnSumps.l1.eq_2 l ss _ true i k) (Ev.neg (by omega) ?_)
  exact Ev.step (fun k=>laws_FnSumps.j10.eq_2 l ss _ true i false k) (Ev.neg (by simp) (Ev.now _))
 | succ d ih=>
  intro i h0 hd
  have w : wrap64 (i + 1)=i + 1:=wr (by omega) (by omega)
  have cl:=iclosed l ss (H l i) (by omega) (by omega)
  rw [closedR_t (inB_true (lev_at g i h0 (by omega)).1) gs] at cl
  refine Ev.step (fun k=>laws_FnSumps.l1.eq_2 l ss _ true i k) (Ev.pos (by omega) ?_)
  refine Ev.step (fun k=>laws_FnSumps.j10.eq_2 l ss _ true i true k) (Ev.pos rfl (Ev.pos h0 (Ev.pos (by omega) (Ev.bind cl ?_))))
  exact last_l2 l ss g gs hs i h0 (by omega) (by rw [w];exact ih (i + 1) (by omega) (by omega)) ss.length 0 (Int.le_refl _) (by omega)
theorem Sumps_big (code : List Int) (hb : Bytes code) : Ev (fun k=>laws_FnSumps.f k code) true:=by
 unfold laws_FnSumps.f laws_rBig.f
 by_cases big : (code.length : Int) > 65536
 ·exact Ev.someb (Ev.pos (decide_eq_true big) (Ev.now _))
 refine Ev.someb (Ev.neg (fun e=>big (of_decide_eq_true e)) ?_)
 obtain ⟨l,p,q,o,h,dr,ll⟩:=DrawIsOpen_ok hb
 have io:=iisopen l ⟨p,q,o⟩ h (by omega)
 have so:=sisopen l ⟨p,q,o⟩ h (by omega)
 refine Ev.bind dr (Ev.bind io (Ev.bind so (Ev.neg (by simp) ?_)))
 have isp:=ispansF l ⟨p,q,o⟩ (by omega)
 have ssp:=sspansF l ⟨p,q,o⟩ (by omega)
 have e0 : ((isOpenR l ⟨p,q,o⟩ h).2 != (isOpenR l ⟨p,q,o⟩ h).2)=false:=by simp
 simp only [e0]
 have rest : Ev (fun k=>laws_FnSumps.j3 k code false) true:=by
  refine Ev.step (fun k=>laws_FnSumps.j3.eq_2 code false k) (Ev.neg (by simp) ?_)
  obtain ⟨l1,s1,c1,dr1,n1,m1⟩:=DrawOpenFor_ok hb
  obtain ⟨r,sr,ir,hr⟩:=OpenFor_both l1 s1 c1 (by omega) (by omega)
  refine Ev.bind dr1 (Ev.bind ir (Ev.bind sr (Ev.pos rfl ?_)))
  have e1 : (r.2 != r.2)=false:=by simp
  simp only [e1]
  have rest2 : Ev (fun k=>laws_FnSumps.j6 k code) true:=by
   refine Ev.step (fun k=>laws_FnSumps.j6.eq_2 code k) ?_
   obtain ⟨l2,s2,h2,dr2,n2,m2⟩:=DrawClosedSumps_ok hb
   have ic:=iclosed l2 s2 h2 (by omega) (by omega)
   have sc:=sclosedF l2 s2 h2 (by omega) (by omega)
   have nl : ((closedR l2 s2 h2).1.length : Int)≤1000000000000:=by
    unfold closedR
    split
    ·have:=shut_len l2 h2 s2
     simp only []
     omega
    ·simp
   refine Ev.bind dr2 (Ev.bind ic (Ev.bind sc (Ev.neg (by simp) (Ev.bind (rints _ nl) (Ev.pos rfl (Ev.bind (isumps s2 (by omega)) (Ev.bind (sareSumps s2 (by omega)) ?_)))))))
   have e2 : (sumpsB s2 != sumpsB s2)=false:=by simp
   simp only [e2]
   refine Ev.step (fun k=>laws_FnSumps.j7.eq_2 code false k) (Ev.neg (by simp) ?_)
   obtain ⟨l3,s3,dr3,n3,m3⟩:=DrawDrownedSumps_ok hb
   have idr:=idrowned l3 s3 (by omega) (by omega)
   have sdr:=sdrowned l3 s3 (by omega) (by omega)
   have nd : ((drownedR l3 s3).1.length : Int)≤1000000000000:=by
    unfold drownedR
    split
    ·have : (drown l3 s3).length≤s3.length:=by
      unfold drown
      rw [List.length_map]
      exact List.length_filter_le _ _
     simp only []
     omega
    ·simp
   refine Ev.bind dr3 (Ev.bind idr (Ev.bind sdr (Ev.neg (by simp) (Ev.bind (rints _ nd) ?_))))
   refine Ev.step (fun k=>laws_FnSumps.j8.eq_2 l3 s3 _ _ _ k) (Ev.neg (by simp) ?_)
   by_cases ok : (goodB l3 && sumpsB s3)=true
   ·have ok':=ok
    simp only [Bool.and_eq_true] at ok'
    rw [drownedR_t ok'.1 ok'.2]
    exact last_l1 l3 s3 (good_of ok'.1) ok'.2 (by omega) l3.length 0 (Int.le_refl _) (by omega)
   ·have e3 : drownedR l3 s3=([],false):=by unfold drownedR;rw [if_neg ok]
    rw [e3]
    by_cases c : (0 : Int) < (l3.length : Int)
    ·refine Ev.step (fun k=>laws_FnSumps.l1.eq_2 l3 s3 _ _ _ k) (Ev.pos c ?_)
     exact Ev.step (fun k=>laws_FnSumps.j10.eq_2 l3 s3 _ _ _ false k) (Ev.neg (by simp) (Ev.now _))
    ·refine Ev.step (fun k=>laws_FnSumps.l1.eq_2 l3 s3 _ _ _ k) (Ev.neg c ?_)
     exact Ev.step (fun k=>laws_FnSumps.j10.eq_2 l3 s3 _ _ _ false k) (Ev.neg (by simp) (Ev.now _))
  refine Ev.step (fun k=>laws_FnSumps.j4.eq_2 code l1 s1 c1 r.1 r.2 false k) (Ev.neg (by simp) ?_)
  by_cases t : r.2=true
  ·obtain ⟨okf,run⟩:=hr t
   unfold okFor at okf
   simp only [Bool.and_eq_true] at okf
   obtain ⟨ga,gb,gc⟩:=okf
   have hc:=of_decide_eq_true gc
   have q0:=run r.1 (Int.le_refl _) (by omega)
   have q1:=run (r.1 + c1 - 1) (by omega) (by omega)
   have out:=Q_out s1 (good_of ga)
   have lo : 0≤r.1∧r.1≤999:=by
    constructor
    ·rcases Int.lt_or_le r.1 0 with h | h
     ·rw [out _ (.inl h)] at q0;cases q0
     ·exact h
    ·rcases Int.lt_or_le r.1 1000 with h | h
     ·omega
     ·rw [out _ (.inr h)] at q0;cases q0
   unfold Q at q0 q1
   simp only [Bool.and_eq_true] at q0 q1
   have w : wrap64 (wrap64 (r.1 + c1) - 1)=r.1 + c1 - 1:=by rw [wr (x:=r.1 + c1) (by omega) (by omega),wr (by omega) (by omega)]
   have ia:=iclosed l1 s1 r.1 (by omega) (by omega)
   have ib:=iclosed l1 s1 (r.1 + c1 - 1) (by omega) (by omega)
   rw [closedR_t q0.1 gb] at ia
   rw [closedR_t q1.1 gb] at ib
   have za : shut l1 r.1 s1 = []:=by have:=q0.2;unfold opens at this;exact List.isEmpty_iff.mp this
   have zb : shut l1 (r.1 + c1 - 1) s1 = []:=by have:=q1.2;unfold opens at this;exact List.isEmpty_iff.mp this
   rw [za] at ia
   rw [zb] at ib
   refine Ev.pos t (Ev.bind ia ?_)
   rw [w]
   refine Ev.bind ib (Ev.pos rfl (Ev.pos rfl (Ev.pos rfl ?_)))
   exact Ev.step (fun k=>laws_FnSumps.j5.eq_2 code _ k) (Ev.neg (by simp) rest2)
  ·exact Ev.neg t rest2
 refine Ev.step (fun k=>laws_FnSumps.j0.eq_2 code l h _ _ false p q o k) (Ev.neg (by simp) (Ev.bind isp (Ev.bind ssp (Ev.neg (by simp) ?_))))
 by_cases ok : (goodB l && sumpB ⟨p,q,o⟩)=true
 ·have ok':=ok
  simp only [Bool.and_eq_true] at ok'
  rw [spansR_t ok'.1 ok'.2]
  simp only []
  have sl:=scan_len (Q1 l o) 1000 0 []
  refine Ev.bind (rtable _ (by rw [tbl_len];simp at sl;omega) (fun i=>by have:=tbl_row (scan (Q1 l o) 1000 0 []) i;omega)) ?_
  refine Ev.step (fun k=>laws_FnSumps.j1.eq_2 code h _ _ _ _ k) (Ev.neg (by simp) ?_)
  have S:=Sp.scan (Q:=Q1 l o) 1000 0 [] (Int.le_refl _) (Sp.start _ _)
  refine in_l0 code h _ _ (scan (Q1 l o) 1000 0 []) (by simp at sl;omega) (fun b hb'=>?_) (scan (Q1 l o) 1000 0 []).reverse [] 0 false (Int.le_refl _) rfl (List.nil_append _) (by simp)
  refine Ev.step (fun k=>laws_FnSumps.l0.eq_2 code h _ _ _ b _ k) (Ev.neg (by rw [tbl_len];omega) ?_)
  by_cases t : inB l h=true
  ·rw [isOpenR_t t ok'.2]
   refine Ev.pos rfl ?_
   have inh:=in_of t
   have bd0:=inh.1.h 0 (by omega) (by have:=inh.2.1;omega)
   have bd1:=inh.1.h ((l.length : Int) - 1) (by have:=inh.2.1;omega) (by omega)
   have be : b=op l o h:=by
    cases e : op l o h with
    | true=>
     rw [hb']
     exact S.cov h (by have:=inh.2.2;omega) (by have:=inh.2.2;omega) (by unfold Q1;rw [t,e];rfl)
    | false=>
     rw [Bool.eq_false_iff]
     intro bt
     obtain ⟨x,hx,u,v⟩:=hb'.mp bt
     have:=(S.all x hx).2.2.2.1 h u v
     unfold Q1 at this
     rw [t,e] at this
     cases this
   have ee : (b != op l o h)=false:=by rw [be];simp
   simp only [ee]
   exact rest
  ·rw [isOpenR_a t]
   exact Ev.neg (by simp) rest
 ·have e3 : spansR l ⟨p,q,o⟩=([],false):=by unfold spansR;rw [if_neg ok]
  have e4 : isOpenR l ⟨p,q,o⟩ h=(false,false):=by
   unfold isOpenR
   refine if_neg (fun x=>ok ?_)
   simp only [Bool.and_eq_true] at x ⊢
   exact ⟨goodB_true (in_of x.1).1,x.2⟩
  rw [e3,e4]
  refine Ev.bind (rtable _ (by simp) (fun i=>by simp [rd_L4])) ?_
  refine Ev.step (fun k=>laws_FnSumps.j1.eq_2 code h _ _ _ _ k) (Ev.neg (by simp) ?_)
  exact Ev.step (fun k=>laws_FnSumps.l0.eq_2 code h _ _ _ _ _ k) (Ev.neg (by simp) (Ev.neg (by simp) rest))
end Go.Proofs.Ytldifiededjgjaa.Pu
namespace Go.Proofs.Ytldifiededjgjaa.Pure
open Go.RowKit Go.Proofs.Ytldifiededjgjaa.P Go.Proofs.YtldifiededjgjaaW.PrintWords
theorem FnSumps : laws_FnSumps.Pure:=fun l0 _ _ hw=>(Pu.Sumps_big l0 (fun x hx=>bounds_u8 (hw x hx))).rounds
end Go.Proofs.Ytldifiededjgjaa.Pure
