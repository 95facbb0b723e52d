/- For all inputs the law FnExactOpenSpans answers true, and no call of it panics. -/
import Derived.Test.YtldifiededjgjaaQP1
namespace Go.Proofs.Ytldifiededjgjaa.Pu
open Go.RowKit Go.Proofs.Ytldifiededjgjaa.P Go.Proofs.YtldifiededjgjaaW.PrintWords
def up : Int→Nat→List Int
 | _,0=>[]
 | a,n + 1=>a :: up (a + 1) n
theorem up_len : ∀ (n : Nat) (a : Int),(up a n).length=n:=by
 intro n
 induction n with
 | zero=>intro a;rfl
 | succ n ih=>intro a;simp [up,ih]
theorem rd_mid (M L : List Int) (s i : Int) (hi : i=M.length) : rd (M ++ s :: L) i=s:=by
 unfold rd
 rw [hi,Int.toNat_natCast]
 simp [List.getD_eq_getElem?_getD]
theorem set_at {α : Type} (M L : List α) (s y : α) (i : Int) (hi : i=M.length) : (M ++ s :: L).set i.toNat y=(M ++ [y]) ++ L:=by
 rw [hi,Int.toNat_natCast,List.set_append_right _ _ (Nat.le_refl _),Nat.sub_self]
 simp
theorem mark_l0 : ∀ (L M : List Int) (a i : Int),i=M.length→(M.length : Int) + L.length≤4000000000000000→0≤a→a + L.length≤8000000000000000000 →
  Ev (fun k=>laws_markIntS.l0 k (M ++ L) a i) (a + L.length,M ++ up a L.length):=by
 intro L
 induction L with
 | nil=>
  intro M a i hi hl h0 h1
  refine Ev.step (fun k=>laws_markIntS.l0.eq_2 _ _ _ k) (Ev.neg (by simp;omega) (Ev.to (Ev.now _) (by simp [up])))
 | cons s L ih=>
  intro M a i hi hl h0 h1
  simp only [List.length_cons] at hl h1
  have w : wrap64 (i + 1)=i + 1:=wr (by omega) (by omega)
  have w1 : wrap64 (a + 1)=a + 1:=wr (by omega) (by omega)
  refine Ev.step (fun k=>laws_markIntS.l0.eq_2 _ _ _ k) (Ev.pos (by simp;omega) (Ev.pos (by omega) ?_))
  rw [w,w1,set_at _ _ _ _ _ hi]
  refine Ev.to (ih (M ++ [a]) (a + 1) (i + 1) (by simp;omega) (by simp;omega) (by omega) (by omega)) ?_
  simp only [List.length_cons,up,List.append_assoc,List.cons_append,List.nil_append,Prod.mk.injEq,and_true]
  omega
theorem mark_ok (L : List Int) (a : Int) (hl : (L.length : Int)≤4000000000000000) (h0 : 0≤a) (h1 : a + L.length≤8000000000000000000) : Ev (fun k=>laws_markIntS.f k L a) (a + L.length,up a L.length):=by
 exact mark_l0 L [] a 0 rfl (by simpa using hl) h0 h1
theorem held_l0 : ∀ (n : Nat) (M : List Int) (a i : Int),i=M.length→(M.length : Int) + n≤4000000000000000→0≤a→a + n≤8000000000000000000 →
  Ev (fun k=>laws_heldIntS.l0 k (M ++ up a n) a i) (a + n):=by
 intro n
 induction n with
 | zero=>
  intro M a i hi hl h0 h1
  refine Ev.step (fun k=>laws_heldIntS.l0.eq_2 _ _ _ k) (Ev.neg (by simp [up];omega) (Ev.to (Ev.now _) (by simp)))
 | succ n ih=>
  intro M a i hi hl h0 h1
  have w : wrap64 (i + 1)=i + 1:=wr (by omega) (by omega)
  have w1 : wrap64 (a + 1)=a + 1:=wr (by omega) (by omega)
  refine Ev.step (fun k=>laws_heldIntS.l0.eq_2 _ _ _ k) (Ev.pos (by simp [up_len];omega) (Ev.pos (by omega) (Ev.pos (rd_mid _ _ _ _ hi) ?_)))
  rw [w,w1]
  have:=ih (M ++ [a]) (a + 1) (i + 1) (by simp;omega) (by simp;omega) (by omega) (by omega)
  rw [List.append_assoc] at this
  exact Ev.to this (by omega)
theorem held_ok (n : Nat) (a : Int) (hl : (n : Int)≤4000000000000000) (h0 : 0≤a) (h1 : a + n≤8000000000000000000) : Ev (fun k=>laws_heldIntS.f k (up a n) a) (a + n):=by
 exact held_l0 n [] a 0 rfl (by simpa using hl) h0 h1
theorem eqI_l0 (l : List Int) (hl : (l.length : Int)≤4000000000000000) : ∀ (d : Nat) (i : Int),0≤i→(l.length : Int) - i=d→Ev (fun k=>laws_eqIntS.l0 k l l i) true:=by
 intro d
 induction d with
 | zero=>intro i h0 hd;exact Ev.step (fun k=>laws_eqIntS.l0.eq_2 l l i k) (Ev.neg (by omega) (Ev.now _))
 | succ d ih=>
  intro i h0 hd
  have w : wrap64 (i + 1)=i + 1:=wr (by omega) (by omega)
  refine Ev.step (fun k=>laws_eqIntS.l0.eq_2 l l i k) (Ev.pos (by omega) (Ev.pos (by omega) (Ev.pos (by omega) (Ev.pos rfl ?_))))
  rw [w]
  exact ih (i + 1) (by omega) (by omega)
theorem eqI (l : List Int) (hl : (l.length : Int)≤4000000000000000) : Ev (fun k=>laws_eqIntS.f k l l) true:=by
 unfold laws_eqIntS.f
 exact Ev.pos rfl (eqI_l0 l hl l.length 0 (Int.le_refl _) (by omega))
end Go.Proofs.Ytldifiededjgjaa.Pu
namespace Go.Proofs.Ytldifiededjgjaa.P
open Go.RowKit Go.Proofs.YtldifiededjgjaaW.PrintWords Go.Proofs.YtldifiededjgjaaW.PrintLast Go.Proofs.YtldifiededjgjaaW.PrintMore
attribute [local go_sem] max2_int min2_int max_two min_two max_three min_three max_four min_four
set_option linter.unusedVariables false
set_option linter.unusedSimpArgs false
def impl_hasHour.f (k : Nat) (l0 : List (S30)) (a1 : Int) : Option (Bool):=(impl_hours.f l0).bind fun bt209=>((impl_AreReadings.f k l0).bind fun t211=>(if t211=true then ((impl_within.f a1 bt209.1 bt209.2).bind fun t212=>(some t212)) else (some false)))
theorem impl_hasHour.mono : ∀ a0 a1 k,LeO (impl_hasHour.f k a0 a1) (impl_hasHour.f (k + 1) a0 a1):=by
 intro a0 a1 k
 unfold impl_hasHour.f
 repeat' first
   | (with_reducible exact impl_AreReadings.mono _ _)
   | (with_reducible exact LeO.refl _)
   | (with_reducible exact LeO.none _)
   | (with_reducible refine LeO.ite ?_ ?_)
   | (with_reducible refine LeO.bind ?_ (fun _=>?_))
set_option maxHeartbeats 8000000 in
set_option maxRecDepth 100000 in
theorem impl_hasHour.calls (k : Nat) (A0 : Option Addr) (c0 : Nat) (l0 : List (S30)) (a1 : Int) (r : Bool) (w : World) (hr0 : Kd.C k30 w A0 l0.length l0) (hc0 : l0.length≤c0) (h : impl_hasHour.f k l0 a1=some r) :
  Calls Try.prog 49 #[.slice A0 l0.length c0,.int .i64 a1] w fun e w'=>e = .returned (.bool r)∧Below w.heap.size w w':=by
 have HR0:=amk hr0
 have HC0:=amk hc0
 clear hr0 hc0
 have HB:=amk (Below.refl w.heap.size w)
 have H : ((impl_hours.f l0).bind fun bt209=>((impl_AreReadings.f k l0).bind fun t211=>(if t211=true then ((impl_within.f a1 bt209.1 bt209.2).bind fun t212=>(some t212)) else (some false))))=some r:=h
 clear h
 replace H:=obs H
 obtain ⟨⟨t209,t210⟩,A30,H⟩:=H
 replace H : ((impl_AreReadings.f k l0).bind fun t211=>(if t211=true then ((impl_within.f a1 t209 t210).bind fun t212=>(some t212)) else (some false)))=some r:=H
 have A3:=amk A30
 clear A30
 replace H:=obs H
 obtain ⟨t211,A40,H⟩:=H
 replace H : (if t211=true then ((impl_within.f a1 t209 t210).bind fun t212=>(some t212)) else (some false))=some r:=H
 have A4:=amk A40
 clear A40
 by_cases c5 : t211=true
 ·subst c5
  have H1 : ((impl_within.f a1 t209 t210).bind fun t212=>(some t212))=some r:=by rw [if_pos rfl] at H;exact H
  clear H
  have H:=H1
  clear H1
  replace H:=obs H
  obtain ⟨t212,A60,H⟩:=H
  replace H : (some t212)=some r:=H
  have A6:=amk A60
  clear A60
  obtain rfl:=Option.some.inj H
  go_enter Try.func49,Try.ntmps49
  go_wp2_with (first | ((with_reducible refine gate_callee (f:=63) rfl ?_);refine goesL_ (some 9) rfl rfl Try.func63 (by kernel_rfl) rfl #[.slice A0 l0.length c0] rfl mtt ?_;(with_reducible refine (impl_hours.calls _ _ l0 t209 t210 _ ?side1 ?side2 A3.out).mono ?_);(case side1=>exact ccc HR0.out);(case side2=>exact HC0.out);rintro e w' ⟨rfl,⟨nd,rfl⟩⟩;refine ⟨_,rfl,?_⟩)|((with_reducible refine gate_callee (f:=15) rfl ?_);refine goesL_ (some 13) rfl rfl Try.func15 (by kernel_rfl) rfl #[.slice A0 l0.length c0] rfl mtt ?_;(with_reducible refine (impl_AreReadings.calls k _ _ l0 true _ ?side1 ?side2 A4.out).mono ?_);(case side1=>exact ccc HR0.out);(case side2=>exact HC0.out);rintro e w7 ⟨rfl,hb⟩;refine ⟨_,rfl,?_⟩;replace HB:=amk (below_step (bel HB) hb);(try clear hb))|(go_at_call 57;(with_reducible refine (impl_within.calls a1 t209 t210 t212 _ A6.out).mono ?_);rintro e w' ⟨rfl,⟨nd,rfl⟩⟩))
  go_ret
  exact ⟨erw0,bel HB⟩
 ·replace c5:=Bool.eq_false_iff.mpr c5
  subst c5
  have H1 : (some false)=some r:=by rw [if_neg (show ¬ (false=true) by decide)] at H;exact H
  clear H
  have H:=H1
  clear H1
  obtain rfl:=Option.some.inj H
  go_enter Try.func49,Try.ntmps49
  go_wp2_with (first | ((with_reducible refine gate_callee (f:=63) rfl ?_);refine goesL_ (some 9) rfl rfl Try.func63 (by kernel_rfl) rfl #[.slice A0 l0.length c0] rfl mtt ?_;(with_reducible refine (impl_hours.calls _ _ l0 t209 t210 _ ?side1 ?side2 A3.out).mono ?_);(case side1=>exact ccc HR0.out);(case side2=>exact HC0.out);rintro e w' ⟨rfl,⟨nd,rfl⟩⟩;refine ⟨_,rfl,?_⟩)|((with_reducible refine gate_callee (f:=15) rfl ?_);refine goesL_ (some 13) rfl rfl Try.func15 (by kernel_rfl) rfl #[.slice A0 l0.length c0] rfl mtt ?_;(with_reducible refine (impl_AreReadings.calls k _ _ l0 false _ ?side1 ?side2 A4.out).mono ?_);(case side1=>exact ccc HR0.out);(case side2=>exact HC0.out);rintro e w8 ⟨rfl,hb⟩;refine ⟨_,rfl,?_⟩;replace HB:=amk (below_step (bel HB) hb);(try clear hb)))
  go_ret
  exact ⟨erw0,bel HB⟩
def impl_LevelIn.f (k : Nat) (l0 : List (S30)) (a1 : Int) : Option (Int × Int × Bool):=(impl_hasHour.f k l0 a1).bind fun t225=>(if t225=true then ((impl_levelIn.f k l0 a1).bind fun bt226=>(some (bt226.1,bt226.2,true))) else (some (0,0,false)))
theorem impl_LevelIn.mono : ∀ a0 a1 k,LeO (impl_LevelIn.f k a0 a1) (impl_LevelIn.f (k + 1) a0 a1):=by
 intro a0 a1 k
 unfold impl_LevelIn.f
 repeat' first
   | (with_reducible exact impl_hasHour.mono _ _ _)
   | (with_reducible exact impl_levelIn.mono _ _ _)
   | (with_reducible exact LeO.refl _)
   | (with_reducible exact LeO.none _)
   | (with_reducible refine LeO.ite ?_ ?_)
   | (with_reducible refine LeO.bind ?_ (fun _=>?_))
set_option maxHeartbeats 8000000 in
set_option maxRecDepth 100000 in
theorem impl_LevelIn.calls (k : Nat) (A0 : Option Addr) (c0 : Nat) (l0 : List (S30)) (a1 : Int) (r1 : Int) (r2 : Int) (r3 : Bool) (w : World) (hr0 : Kd.C k30 w A0 l0.length l0) (hc0 : l0.length≤c0) (h : impl_LevelIn.f k l0 a1=some (r1,r2,r3)) :
  Calls Try.prog 9 #[.slice A0 l0.length c0,.int .i64 a1] w fun e w'=>e = .returned (.tuple #[.int .i64 r1,.int .i64 r2,.bool r3])∧Below w.heap.size w w':=by
 have hu82:=Try.underlying82
 have HR0:=amk hr0
 have HC0:=amk hc0
 clear hr0 hc0
 have HB:=amk (Below.refl w.heap.size w)
 have H : ((impl_hasHour.f k l0 a1).bind fun t225=>(if t225=true then ((impl_levelIn.f k l0 a1).bind fun bt226=>(some (bt226.1,bt226.2,true))) else (some (0,0,false))))=some (r1,r2,r3):=h
 clear h
 replace H:=obs H
 obtain ⟨t225,A30,H⟩:=H
 replace H : (if t225=true then ((impl_levelIn.f k l0 a1).bind fun bt226=>(some (bt226.1,bt226.2,true))) else (some (0,0,false)))=some (r1,r2,r3):=H
 have A3:=amk A30
 clear A30
 by_cases c4 : t225=true
 ·subst c4
  have H1 : ((impl_levelIn.f k l0 a1).bind fun bt226=>(some (bt226.1,bt226.2,true)))=some (r1,r2,r3):=by rw [if_pos rfl] at H;exact H
  clear H
  have H:=H1
  clear H1
  replace H:=obs H
  obtain ⟨⟨t226,t227⟩,A50,H⟩:=H
  replace H : (some (t226,t227,true))=some (r1,r2,r3):=H
  have A5:=amk A50
  clear A50
  simp only [Option.some.injEq,Prod.mk.injEq] at H
  obtain ⟨rfl,rfl,rfl⟩:=H
  go_enter Try.func9,Try.ntmps9
  go_wp2_with (first | (go_at_call 49;(with_reducible refine (impl_hasHour.calls k _ _ l0 a1 true _ ?side1 ?side2 A3.out).mono ?_);(case side1=>exact ccc HR0.out);(case side2=>exact HC0.out);rintro e w6 ⟨rfl,hb⟩;replace HB:=amk (below_step (bel HB) hb);(try clear hb))|(go_at_call 50;(with_reducible refine (impl_levelIn.calls k _ _ l0 a1 t226 t227 _ ?side1 ?side2 A5.out).mono ?_);(case side1=>exact ccc (Kd.C_below HR0.out HB.out));(case side2=>exact HC0.out);rintro e w7 ⟨rfl,hb⟩;replace HB:=amk (below_step (bel HB) hb);(try clear hb))|((with_reducible refine gate_dst (N:=7) rfl ?_);refine box_event ?hg (N:=7) ?hd (cs:=#[.int .i64 0,.int .i64 0]) (t:=82) ?hr ?_;(case hd=>rfl);(case hg=>rfl);(case hr=>first | (go_simp;done)|(go_simp;rfl));intro gb228 hg w8 hbox hb;have BK228:=amk (hbox);have GW228:=amk ((by rw [hg];exact (below_size (bel HB)) : w.heap.size≤gb228));have GE228:=amk ((by rw [hg];exact (below_size (bel HB)) : w.heap.size≤gb228));replace HB:=amk (below_step (bel HB) hb);clear hb hbox hg;have hcz9_0 : w8.cell? ⟨gb228,0,none⟩=some (.int .i64 0):=(blk_cell BK228.out 0).trans rfl;have hcz9_1 : w8.cell? ⟨gb228,1,none⟩=some (.int .i64 0):=(blk_cell BK228.out 1).trans rfl;have hfz9_0:=blk_frozen BK228.out 0;have hfz9_1:=blk_frozen BK228.out 1))
  repeat (go_quiet (first | (go_at_call 49;(with_reducible refine (impl_hasHour.calls k _ _ l0 a1 true _ ?side1 ?side2 A3.out).mono ?_);(case side1=>exact ccc HR0.out);(case side2=>exact HC0.out);rintro e w6 ⟨rfl,hb⟩;replace HB:=amk (below_step (bel HB) hb);(try clear hb))|(go_at_call 50;(with_reducible refine (impl_levelIn.calls k _ _ l0 a1 t226 t227 _ ?side1 ?side2 A5.out).mono ?_);(case side1=>exact ccc (Kd.C_below HR0.out HB.out));(case side2=>exact HC0.out);rintro e w7 ⟨rfl,hb⟩;replace HB:=amk (below_step (bel HB) hb);(try clear hb))|((with_reducible refine gate_dst (N:=7) rfl ?_);refine box_event ?hg (N:=7) ?hd (cs:=#[.int .i64 0,.int .i64 0]) (t:=82) ?hr ?_;(case hd=>rfl);(case hg=>rfl);(case hr=>first | (go_simp;done)|(go_simp;rfl));intro gb228 hg w8 hbox hb;have BK228:=amk (hbox);have GW228:=amk ((by rw [hg];exact (below_size (bel HB)) : w.heap.size≤gb228));have GE228:=amk ((by rw [hg];exact (below_size (bel HB)) : w.heap.size≤gb228));replace HB:=amk (below_step (bel HB) hb);clear hb hbox hg;have hcz9_0 : w8.cell? ⟨gb228,0,none⟩=some (.int .i64 0):=(blk_cell BK228.out 0).trans rfl;have hcz9_1 : w8.cell? ⟨gb228,1,none⟩=some (.int .i64 0):=(blk_cell BK228.out 1).trans rfl;have hfz9_0:=blk_frozen BK228.out 0;have hfz9_1:=blk_frozen BK228.out 1));try go_wp2_with (first | (go_at_call 49;(with_reducible refine (impl_hasHour.calls k _ _ l0 a1 true _ ?side1 ?side2 A3.out).mono ?_);(case side1=>exact ccc HR0.out);(case side2=>exact HC0.out);rintro e w6 ⟨rfl,hb⟩;replace HB:=amk (below_step (bel HB) hb);(try clear hb))|(go_at_call 50;(with_reducible refine (impl_levelIn.calls k _ _ l0 a1 t226 t227 _ ?side1 ?side2 A5.out).mono ?_);(case side1=>exact ccc (Kd.C_below HR0.out HB.out));(case side2=>exact HC0.out);rintro e w7 ⟨rfl,hb⟩;replace HB:=amk (below_step (bel HB) hb);(try clear hb))|((with_reducible refine gate_dst (N:=7) rfl ?_);refine box_event ?hg (N:=7) ?hd (cs:=#[.int .i64 0,.int .i64 0]) (t:=82) ?hr ?_;(case hd=>rfl);(case hg=>rfl);(case hr=>first | (go_simp;done)|(go_simp;rfl));intro gb228 hg w8 hbox hb;have BK228:=amk (hbox);have GW228:=amk ((by rw [hg];exact (below_size (bel HB)) : w.heap.size≤gb228));have GE228:=amk ((by rw [hg];exact (below_size (bel HB)) : w.heap.size≤gb228));replace HB:=amk (below_step (bel HB) hb);clear hb hbox hg;have hcz9_0 : w8.cell? ⟨gb228,0,none⟩=some (.int .i64 0):=(blk_cell BK228.out 0).trans rfl;have hcz9_1 : w8.cell? ⟨gb228,1,none⟩=some (.int .i64 0):=(blk_cell BK228.out 1).trans rfl;have hfz9_0:=blk_frozen BK228.out 0;have hfz9_1:=blk_frozen BK228.out 1)))
  go_ret3
  exact ⟨erw0,bel1 HB GE228.out⟩
 ·replace c4:=Bool.eq_false_iff.mpr c4
  subst c4
  have H1 : (some (0,0,false))=some (r1,r2,r3):=by rw [if_neg (show ¬ (false=true) by decide)] at H;exact H
  clear H
  have H:=H1
  clear H1
  simp only [Option.some.injEq,Prod.mk.injEq] at H
  obtain ⟨rfl,rfl,rfl⟩:=H
  go_enter Try.func9,Try.ntmps9
  go_wp2_with (first | (go_at_call 49;(with_reducible refine (impl_hasHour.calls k _ _ l0 a1 false _ ?side1 ?side2 A3.out).mono ?_);(case side1=>exact ccc HR0.out);(case side2=>exact HC0.out);rintro e w10 ⟨rfl,hb⟩;replace HB:=amk (below_step (bel HB) hb);(try clear hb)))
  repeat (go_quiet (first | (go_at_call 49;(with_reducible refine (impl_hasHour.calls k _ _ l0 a1 false _ ?side1 ?side2 A3.out).mono ?_);(case side1=>exact ccc HR0.out);(case side2=>exact HC0.out);rintro e w10 ⟨rfl,hb⟩;replace HB:=amk (below_step (bel HB) hb);(try clear hb)));try go_wp2_with (first | (go_at_call 49;(with_reducible refine (impl_hasHour.calls k _ _ l0 a1 false _ ?side1 ?side2 A3.out).mono ?_);(case side1=>exact ccc HR0.out);(case side2=>exact HC0.out);rintro e w10 ⟨rfl,hb⟩;replace HB:=amk (below_step (bel HB) hb);(try clear hb))))
  go_ret3
  exact ⟨erw0,bel HB⟩
def spec_LevelIn.f (k : Nat) (l0 : List (S30)) (a1 : Int) : Option (Int × Int × Bool):=(spec_l23Within.f k l0 a1).bind fun t251=>(if t251=true then ((spec_l23In.f k l0 a1).bind fun bt252=>(some (bt252.1,bt252.2,true))) else (some (0,0,false)))
theorem spec_LevelIn.mono : ∀ a0 a1 k,LeO (spec_LevelIn.f k a0 a1) (spec_LevelIn.f (k + 1) a0 a1):=by
 intro a0 a1 k
 unfold spec_LevelIn.f
 repeat' first
   | (with_reducible exact spec_l23In.mono _ _ _)
   | (with_reducible exact spec_l23Within.mono _ _ _)
   | (with_reducible exact LeO.refl _)
   | (with_reducible exact LeO.none _)
   | (with_reducible refine LeO.ite ?_ ?_)
   | (with_reducible refine LeO.bind ?_ (fun _=>?_))
set_option maxHeartbeats 8000000 in
set_option maxRecDepth 100000 in
theorem spec_LevelIn.calls (k : Nat) (A0 : Option Addr) (c0 : Nat) (l0 : List (S30)) (a1 : Int) (r1 : Int) (r2 : Int) (r3 : Bool) (w : World) (hr0 : Kd.C k30 w A0 l0.length l0) (hc0 : l0.length≤c0) (h : spec_LevelIn.f k l0 a1=some (r1,r2,r3)) :
  Calls Try.prog 10 #[.slice A0 l0.length c0,.int .i64 a1] w fun e w'=>e = .returned (.tuple #[.int .i64 r1,.int .i64 r2,.bool r3])∧Below w.heap.size w w':=by
 have HR0:=amk hr0
 have HC0:=amk hc0
 clear hr0 hc0
 have HB:=amk (Below.refl w.heap.size w)
 have H : ((spec_l23Within.f k l0 a1).bind fun t251=>(if t251=true then ((spec_l23In.f k l0 a1).bind fun bt252=>(some (bt252.1,bt252.2,true))) else (some (0,0,false))))=some (r1,r2,r3):=h
 clear h
 replace H:=obs H
 obtain ⟨t251,A30,H⟩:=H
 replace H : (if t251=true then ((spec_l23In.f k l0 a1).bind fun bt252=>(some (bt252.1,bt252.2,true))) else (some (0,0,false)))=some (r1,r2,r3):=H
 have A3:=amk A30
 clear A30
 by_cases c4 : t251=true
 ·subst c4
  have H1 : ((spec_l23In.f k l0 a1).bind fun bt252=>(some (bt252.1,bt252.2,true)))=some (r1,r2,r3):=by rw [if_pos rfl] at H;exact H
  clear H
  have H:=H1
  clear H1
  replace H:=obs H
  obtain ⟨⟨t252,t253⟩,A50,H⟩:=H
  replace H : (some (t252,t253,true))=some (r1,r2,r3):=H
  have A5:=amk A50
  clear A50
  simp only [Option.some.injEq,Prod.mk.injEq] at H
  obtain ⟨rfl,rfl,rfl⟩:=H
  go_enter Try.func10,Try.ntmps10
  go_wp2_with (first | ((with_reducible refine gate_callee (f:=51) rfl ?_);refine goesL_ (some 11) rfl rfl Try.func51 (by kernel_rfl) rfl #[.slice A0 l0.length c0,.int .i64 a1] rfl mtt ?_;(with_reducible refine (spec_l23Within.calls k _ _ l0 a1 true _ ?side1 ?side2 A3.out).mono ?_);(case side1=>exact ccc HR0.out);(case side2=>exact HC0.out);rintro e w6 ⟨rfl,hb⟩;refine ⟨_,rfl,?_⟩;replace HB:=amk (below_step (bel HB) hb);(try clear hb))|((with_reducible refine gate_callee (f:=52) rfl ?_);refine goesL_ (some 16) rfl rfl Try.func52 (by kernel_rfl) rfl #[.slice A0 l0.length c0,.int .i64 a1] rfl mtt ?_;(with_reducible refine (spec_l23In.calls k _ _ l0 a1 t252 t253 _ ?side1 ?side2 A5.out).mono ?_);(case side1=>exact ccc (Kd.C_below HR0.out HB.out));(case side2=>exact HC0.out);rintro e w7 ⟨rfl,hb⟩;refine ⟨_,rfl,?_⟩;replace HB:=amk (below_step (bel HB) hb);(try clear hb)))
  go_ret3
  exact ⟨erw0,bel HB⟩
 ·replace c4:=Bool.eq_false_iff.mpr c4
  subst c4
  have H1 : (some (0,0,false))=some (r1,r2,r3):=by rw [if_neg (show ¬ (false=true) by decide)] at H;exact H
  clear H
  have H:=H1
  clear H1
  simp only [Option.some.injEq,Prod.mk.injEq] at H
  obtain ⟨rfl,rfl,rfl⟩:=H
  go_enter Try.func10,Try.ntmps10
  go_wp2_with (first | ((with_reducible refine gate_callee (f:=51) rfl ?_);refine goesL_ (some 11) rfl rfl Try.func51 (by kernel_rfl) rfl #[.slice A0 l0.length c0,.int .i64 a1] rfl mtt ?_;(with_reducible refine (spec_l23Within.calls k _ _ l0 a1 false _ ?side1 ?side2 A3.out).mono ?_);(case side1=>exact ccc HR0.out);(case side2=>exact HC0.out);rintro e w8 ⟨rfl,hb⟩;refine ⟨_,rfl,?_⟩;replace HB:=amk (below_step (bel HB) hb);(try clear hb)))
  go_ret3
  exact ⟨erw0,bel HB⟩
def spec_AreReadings.f (k : Nat) (l0 : List (S30)) : Option (Bool):=(spec_l23Good.f k l0).bind fun t285=>(some t285)
theorem spec_AreReadings.mono : ∀ a0 k,LeO (spec_AreReadings.f k a0) (spec_AreReadings.f (k + 1) a0):=by
 intro a0 k
 unfold spec_AreReadings.f
 repeat' first
   | (with_reducible exact spec_l23Good.mono _ _)
   | (with_reducible exact LeO.refl _)
   | (with_reducible exact LeO.none _)
   | (with_reducible refine LeO.ite ?_ ?_)
   | (with_reducible refine LeO.bind ?_ (fun _=>?_))
set_option maxHeartbeats 8000000 in
set_option maxRecDepth 100000 in
theorem spec_AreReadings.calls (k : Nat) (A0 : Option Addr) (c0 : Nat) (l0 : List (S30)) (r : Bool) (w : World) (hr0 : Kd.C k30 w A0 l0.length l0) (hc0 : l0.length≤c0) (h : spec_AreReadings.f k l0=some r) :
  Calls Try.prog 16 #[.slice A0 l0.length c0] w fun e w'=>e = .returned (.bool r)∧Below w.heap.size w w':=by
 have HR0:=amk hr0
 have HC0:=amk hc0
 clear hr0 hc0
 have HB:=amk (Below.refl w.heap.size w)
 have H : ((spec_l23Good.f k l0).bind fun t285=>(some t285))=some r:=h
 clear h
 replace H:=obs H
 obtain ⟨t285,A20,H⟩:=H
 replace H : (some t285)=some r:=H
 have A2:=amk A20
 clear A20
 obtain rfl:=Option.some.inj H
 go_enter Try.func16,Try.ntmps16
 go_wp2_with (first | ((with_reducible refine gate_callee (f:=53) rfl ?_);refine goesL_ (some 4) rfl rfl Try.func53 (by kernel_rfl) rfl #[.slice A0 l0.length c0] rfl mtt ?_;(with_reducible refine (spec_l23Good.calls k _ _ l0 t285 _ ?side1 ?side2 A2.out).mono ?_);(case side1=>exact ccc HR0.out);(case side2=>exact HC0.out);rintro e w3 ⟨rfl,hb⟩;refine ⟨_,rfl,?_⟩;replace HB:=amk (below_step (bel HB) hb);(try clear hb)))
 go_ret
 exact ⟨erw0,bel HB⟩
end Go.Proofs.Ytldifiededjgjaa.P
namespace Go.Proofs.Ytldifiededjgjaa.Pu
open Go.RowKit Go.Proofs.Ytldifiededjgjaa.P Go.Proofs.YtldifiededjgjaaW.PrintWords
def H (l : List S30) (i : Int) : Int:=(rd_T30 l i).f0
def Lv (l : List S30) (i : Int) : Int:=(rd_T30 l i).f1
def okAt (l : List S30) (i : Int) : Prop:=(0≤H l i∧H l i≤999)∧(-500≤Lv l i∧Lv l i≤500)∧(0 < i→H l (i - 1) < H l i)
def GoodR (l : List S30) : Prop:=(∀ i : Int,0≤i→i < l.length→okAt l i)∧l.length≤15
noncomputable def goodB (l : List S30) : Bool:=@decide (GoodR l) (Classical.propDecidable (GoodR l))
theorem goodB_true {l : List S30} (h : GoodR l) : goodB l=true:=@decide_eq_true _ (Classical.propDecidable (GoodR l)) h
theorem goodB_false {l : List S30} (h : ¬ GoodR l) : goodB l=false:=@decide_eq_false _ (Classical.propDecidable (GoodR l)) h
theorem good_of {l : List S30} (h : goodB l=true) : GoodR l:=@of_decide_eq_true _ (Classical.propDecidable (GoodR l)) h
theorem l1In_eq (a b c : Int) : spec_l1In.f a b c=some (decide (b≤a∧a≤c)):=by
 unfold spec_l1In.f
 by_cases h : b≤a <;> simp [h]
theorem within_eq (a b c : Int) : impl_within.f a b c=some (decide (b≤a∧a≤c)):=by
 unfold impl_within.f
 by_cases h : b≤a <;> simp [h]
theorem level_eq (a : Int) : spec_l23Level.f a=some (decide (-500≤a∧a≤500)):=by
 unfold spec_l23Level.f
 rw [l1In_eq]
 rfl
theorem isLevel_eq (a : Int) : impl_isLevel.f a=some (decide (-500≤a∧a≤500)):=by
 unfold impl_isLevel.f
 rw [within_eq]
 rfl
theorem sgood_l0 (l : List S30) (hl : (l.length : Int)≤1000000000000) : ∀ (d : Nat) (i : Int),0≤i→(l.length : Int) - i=d →
  (∀ j : Int,0≤j→j < i→okAt l j)→Ev (fun k=>spec_l23Good.l0 k l i) (goodB l):=by
 intro d
 induction d with
 | zero=>
  intro i h0 hd hj
  refine Ev.step (fun k=>spec_l23Good.l0.eq_2 l i k) (Ev.neg (by omega) (Ev.to (Ev.now _) ?_))
  by_cases c : l.length≤15
  ·rw [goodB_true ⟨fun j a b=>hj j a (by omega),c⟩]
   exact decide_eq_true (by omega)
  ·rw [goodB_false (fun g=>c g.2)]
   exact decide_eq_false (by omega)
 | succ d ih=>
  intro i h0 hd hj
  refine Ev.step (fun k=>spec_l23Good.l0.eq_2 l i k) (Ev.pos (by omega) (Ev.pos h0 (Ev.bindS (l1In_eq _ _ _) ?_)))
  have jt : ¬ okAt l i→Ev (fun k=>spec_l23Good.j1 k l i true) (goodB l):=fun h=>
   Ev.step (fun k=>spec_l23Good.j1.eq_2 l i true k) (Ev.pos rfl (Ev.to (Ev.now _) (goodB_false (fun g=>h (g.1 i h0 (by omega)))).symm))
  have jf : okAt l i→Ev (fun k=>spec_l23Good.j1 k l i false) (goodB l):=by
   intro h
   have e2 : wrap64 (i + 1)=i + 1:=wr (by omega) (by omega)
   refine Ev.step (fun k=>spec_l23Good.j1.eq_2 l i false k) (Ev.neg (by simp) ?_)
   rw [e2]
   refine ih (i + 1) (by omega) (by omega) (fun j a b=>?_)
   by_cases ej : j=i
   ·rw [ej]
    exact h
   ·exact hj j a (by omega)
  by_cases c1 : 0≤H l i∧H l i≤999
  ·refine Ev.pos (decide_eq_true c1) (Ev.bindS (level_eq _) ?_)
   by_cases c2 : -500≤Lv l i∧Lv l i≤500
   ·refine Ev.pos (decide_eq_true c2) ?_
    by_cases c3 : i > 0
    ·have e : wrap64 (i - 1)=i - 1:=wr (by omega) (by omega)
     simp only [e]
     refine Ev.pos c3 (Ev.pos (by omega) (Ev.pos (by omega) ?_))
     by_cases c4 : H l (i - 1) ≥ H l i
     ·rw [show decide ((rd_T30 l (i - 1)).f0 ≥ (rd_T30 l i).f0)=true from decide_eq_true c4]
      exact jt (fun g=>by have:=g.2.2 c3;omega)
     ·rw [show decide ((rd_T30 l (i - 1)).f0 ≥ (rd_T30 l i).f0)=false from decide_eq_false c4]
      exact jf ⟨c1,c2,fun _=>by omega⟩
    ·exact Ev.neg c3 (jf ⟨c1,c2,fun h=>absurd h c3⟩)
   ·exact Ev.neg (fun e=>c2 (of_decide_eq_true e)) (jt (fun g=>c2 g.2.1))
  ·exact Ev.neg (fun e=>c1 (of_decide_eq_true e)) (jt (fun g=>c1 g.1))
theorem sgood (l : List S30) (hl : (l.length : Int)≤1000000000000) : Ev (fun k=>spec_l23Good.f k l) (goodB l):=
 sgood_l0 l hl l.length 0 (by omega) (by omega) (fun j a b=>by omega)
theorem igood_l0 (l : List S30) : ∀ (k : Nat),(∀ i : Int,impl_AreReadings.l0 k l l (l.length : Int) i=spec_l23Good.l0 k l i)∧∀ (i : Int) (b : Bool),impl_AreReadings.j1 k l l (l.length : Int) i b=spec_l23Good.j1 k l i b:=by
 intro k
 induction k with
 | zero=>exact ⟨fun i=>rfl,fun i b=>rfl⟩
 | succ k ih=>
  refine ⟨fun i=>?_,fun i b=>?_⟩
  ·rw [impl_AreReadings.l0.eq_2,spec_l23Good.l0.eq_2]
   simp only [ih.2,within_eq,isLevel_eq,l1In_eq,level_eq]
   by_cases c : i < (l.length : Int)
   ·simp only [if_pos c]
   ·simp only [if_neg c]
  ·rw [impl_AreReadings.j1.eq_2,spec_l23Good.j1.eq_2]
   simp only [ih.1]
theorem igood (l : List S30) (hl : (l.length : Int)≤1000000000000) : Ev (fun k=>impl_AreReadings.f k l) (goodB l):=by
 have h:=sgood l hl
 unfold spec_l23Good.f at h
 unfold impl_AreReadings.f
 simp only [(igood_l0 l _).1]
 exact h
theorem sare (l : List S30) (hl : (l.length : Int)≤1000000000000) : Ev (fun k=>spec_AreReadings.f k l) (goodB l):=by
 unfold spec_AreReadings.f
 exact Ev.bind (sgood l hl) (Ev.now _)
theorem gcd_next (a b : Int) : Int.gcd b (Int.tmod a b)=Int.gcd a b:=by
 unfold Int.gcd
 rw [Int.natAbs_tmod,Nat.gcd_comm b.natAbs,Nat.gcd_comm a.natAbs,← Nat.gcd_rec]
theorem abs_eq (a : Int) (h : -9223372036854775807≤a) (h' : a≤9223372036854775807) : impl_absolute.f a=some (a.natAbs : Int):=by
 unfold impl_absolute.f mx
 rw [wr (by omega) (by omega)]
 congr 1
 split <;> omega
theorem tmod_abs (a b : Int) (hb : b ≠ 0) : (Int.tmod a b).natAbs < b.natAbs:=by
 rw [Int.natAbs_tmod]
 exact Nat.mod_lt _ (by omega)
theorem igcd : ∀ (n : Nat) (a b : Int),b.natAbs≤n→a.natAbs≤9223372036854775807→b.natAbs≤9223372036854775807 →
  Ev (fun k=>impl_gcd.l0 k a b) (Int.gcd a b : Int):=by
 intro n
 induction n with
 | zero=>
  intro a b hn ha hb
  obtain rfl : b=0:=by omega
  refine Ev.step (fun k=>impl_gcd.l0.eq_2 a 0 k) (Ev.pos rfl (Ev.bindS (abs_eq a (by omega) (by omega)) (Ev.to (Ev.now _) ?_)))
  simp
 | succ n ih=>
  intro a b hn ha hb
  by_cases c : b=0
  ·subst c
   refine Ev.step (fun k=>impl_gcd.l0.eq_2 a 0 k) (Ev.pos rfl (Ev.bindS (abs_eq a (by omega) (by omega)) (Ev.to (Ev.now _) ?_)))
   simp
  ·refine Ev.step (fun k=>impl_gcd.l0.eq_2 a b k) (Ev.neg c (Ev.to (ih b (Int.tmod a b) ?_ hb ?_) ?_))
   ·have:=tmod_abs a b c;omega
   ·have:=tmod_abs a b c;omega
   ·rw [gcd_next a b]
theorem scommon : ∀ (n : Nat) (a b : Int),b.natAbs≤n→0≤a→0≤b→Ev (fun k=>spec_l23Common.l0 k a b) (Int.gcd a b : Int):=by
 intro n
 induction n with
 | zero=>
  intro a b hn ha hb
  obtain rfl : b=0:=by omega
  refine Ev.step (fun k=>spec_l23Common.l0.eq_2 a 0 k) (Ev.neg (by omega) (Ev.to (Ev.now _) ?_))
  simp
  omega
 | succ n ih=>
  intro a b hn ha hb
  by_cases c : b > 0
  ·refine Ev.step (fun k=>spec_l23Common.l0.eq_2 a b k) (Ev.pos c (Ev.neg (by omega) (Ev.to (ih b (Int.tmod a b) ?_ hb ?_) ?_)))
   ·have:=tmod_abs a b (by omega);omega
   ·exact Int.tmod_nonneg b ha
   ·rw [gcd_next a b]
  ·obtain rfl : b=0:=by omega
   refine Ev.step (fun k=>spec_l23Common.l0.eq_2 a 0 k) (Ev.neg (by omega) (Ev.to (Ev.now _) ?_))
   simp
   omega
def red (a b : Int) : Int × Int:=(a / (Int.gcd a b : Int),b / (Int.gcd a b : Int))
theorem gcd_pos {a b : Int} (hb : 0 < b) : 0 < (Int.gcd a b : Int):=by
 have : Int.gcd a b ≠ 0:=fun h=>by rw [Int.gcd_eq_zero_iff] at h;omega
 omega
theorem tdiv_gcd_l (a b : Int) : Int.tdiv a (Int.gcd a b : Int)=a / (Int.gcd a b : Int):=Int.tdiv_eq_ediv_of_dvd (Int.gcd_dvd_left _ _)
theorem tdiv_gcd_r (a b : Int) : Int.tdiv b (Int.gcd a b : Int)=b / (Int.gcd a b : Int):=Int.tdiv_eq_ediv_of_dvd (Int.gcd_dvd_right _ _)
theorem ediv_bound (a g : Int) (hg : 0 < g) (B : Int) (h : -B≤a) (h' : a≤B) : -B≤a / g∧a / g≤B:=by
 constructor
 ·refine (Int.le_ediv_iff_mul_le hg).2 ?_
  have : B * 1≤B * g:=Int.mul_le_mul_of_nonneg_left (by omega) (by omega)
  rw [Int.neg_mul]
  omega
 ·by_cases c : 0≤a
  ·exact Int.le_trans (Int.ediv_le_self _ c) h'
  ·have:=Int.ediv_neg_of_neg_of_pos (by omega : a < 0) hg
   omega
theorem ired (a b : Int) (hb : 0 < b) (h1 : -4611686018427387904≤a) (h2 : a≤4611686018427387904) (h3 : b≤4611686018427387904) :
  Ev (fun k=>impl_reduced.f k a b) (red a b):=by
 have hg:=gcd_pos (a:=a) hb
 have ba:=ediv_bound a _ hg 4611686018427387904 h1 h2
 have bb:=ediv_bound b _ hg 4611686018427387904 (by omega) h3
 unfold impl_reduced.f impl_gcd.f
 refine Ev.bind (igcd b.natAbs a b (Nat.le_refl _) (by omega) (by omega)) (Ev.neg (by omega) (Ev.to (Ev.now _) ?_))
 rw [tdiv_gcd_l,tdiv_gcd_r,wr (by omega) (by omega),wr (by omega) (by omega)]
 rfl
theorem sred (a b : Int) (hb : 0 < b) (h1 : -4611686018427387904≤a) (h2 : a≤4611686018427387904) (h3 : b≤4611686018427387904) :
  Ev (fun k=>spec_l23Reduce.f k a b) (red a b):=by
 have hg:=gcd_pos (a:=a) hb
 have ba:=ediv_bound a _ hg 4611686018427387904 h1 h2
 have bb:=ediv_bound b _ hg 4611686018427387904 (by omega) h3
 have hm : spec_l1Most.f a (wrap64 (-a))=some (a.natAbs : Int):=by
  unfold spec_l1Most.f
  rw [wr (by omega) (by omega)]
  by_cases c : a > -a
  ·rw [if_pos c];congr 1;omega
  ·rw [if_neg c];congr 1;omega
 have hc : Ev (fun k=>spec_l23Common.f k (a.natAbs : Int) b) (Int.gcd a b : Int):=by
  have h:=scommon b.natAbs (a.natAbs : Int) b (Nat.le_refl _) (by omega) (by omega)
  have e : Int.gcd (a.natAbs : Int) b=Int.gcd a b:=by unfold Int.gcd;rw [Int.natAbs_natCast]
  rw [e] at h
  exact h
 unfold spec_l23Reduce.f
 refine Ev.bindS hm (Ev.bind hc (Ev.neg (by omega) (Ev.to (Ev.now _) ?_)))
 rw [tdiv_gcd_l,tdiv_gcd_r,wr (by omega) (by omega),wr (by omega) (by omega)]
 rfl
theorem red_spec (a b : Int) (hb : 0 < b) : ∃ g : Int,0 < g∧a=(red a b).1 * g∧b=(red a b).2 * g∧0 < (red a b).2:=by
 have hg:=gcd_pos (a:=a) hb
 have e1 : a / (Int.gcd a b : Int) * (Int.gcd a b : Int)=a:=Int.ediv_mul_cancel (Int.gcd_dvd_left _ _)
 have e2 : b / (Int.gcd a b : Int) * (Int.gcd a b : Int)=b:=Int.ediv_mul_cancel (Int.gcd_dvd_right _ _)
 refine ⟨Int.gcd a b,hg,e1.symm,e2.symm,?_⟩
 by_cases c : 0 < b / (Int.gcd a b : Int)
 ·exact c
 ·have : b / (Int.gcd a b : Int) * (Int.gcd a b : Int)≤0 * (Int.gcd a b : Int):=Int.mul_le_mul_of_nonneg_right (by omega) (by omega)
  omega
theorem red_bound (a b B : Int) (hb : 0 < b) (h : -B≤a) (h' : a≤B) (hB : b≤B) : -B≤(red a b).1∧(red a b).1≤B∧(red a b).2≤B:=by
 have hg:=gcd_pos (a:=a) hb
 have ba:=ediv_bound a _ hg B h h'
 have bb:=ediv_bound b _ hg B (by omega) hB
 exact ⟨ba.1,ba.2,bb.2⟩
def InH (l : List S30) (h : Int) : Prop:=GoodR l∧0 < l.length∧H l 0≤h∧h≤H l ((l.length : Int) - 1)
noncomputable def inB (l : List S30) (h : Int) : Bool:=@decide (InH l h) (Classical.propDecidable (InH l h))
theorem inB_true {l : List S30} {h : Int} (g : InH l h) : inB l h=true:=@decide_eq_true _ (Classical.propDecidable (InH l h)) g
theorem inB_false {l : List S30} {h : Int} (g : ¬ InH l h) : inB l h=false:=@decide_eq_false _ (Classical.propDecidable (InH l h)) g
theorem in_of {l : List S30} {h : Int} (g : inB l h=true) : InH l h:=@of_decide_eq_true _ (Classical.propDecidable (InH l h)) g
theorem GoodR.len {l : List S30} (g : GoodR l) : (l.length : Int)≤15:=by have:=g.2;omega
theorem GoodR.h {l : List S30} (g : GoodR l) (i : Int) (h0 : 0≤i) (h1 : i < l.length) : 0≤H l i∧H l i≤999:=(g.1 i h0 h1).1
theorem GoodR.lv {l : List S30} (g : GoodR l) (i : Int) (h0 : 0≤i) (h1 : i < l.length) : -500≤Lv l i∧Lv l i≤500:=(g.1 i h0 h1).2.1
theorem GoodR.up {l : List S30} (g : GoodR l) (i : Int) (h0 : 0≤i) (h1 : i + 1 < l.length) : H l i < H l (i + 1):=by
 have h:=(g.1 (i + 1) (by omega) h1).2.2 (by omega)
 rw [show i + 1 - 1=i from by omega] at h
 exact h
theorem GoodR.mono {l : List S30} (g : GoodR l) (i : Int) (h0 : 0≤i) : ∀ (d : Nat),i + d < l.length→H l i≤H l (i + d):=by
 intro d
 induction d with
 | zero=>intro _;rw [show i + ((0 : Nat) : Int)=i from by omega];exact Int.le_refl _
 | succ d ih=>
  intro hd
  have a:=ih (by omega)
  have b:=g.up (i + d) (by omega) (by omega)
  rw [show i + ((d + 1 : Nat) : Int)=i + d + 1 from by omega]
  omega
theorem GoodR.le {l : List S30} (g : GoodR l) (i j : Int) (h0 : 0≤i) (h : i≤j) (h1 : j < l.length) : H l i≤H l j:=by
 have:=g.mono i h0 (j - i).toNat (by omega)
 rw [show i + (((j - i).toNat : Nat) : Int)=j from by omega] at this
 exact this
theorem GoodR.lt {l : List S30} (g : GoodR l) (i j : Int) (h0 : 0≤i) (h : i < j) (h1 : j < l.length) : H l i < H l j:=by
 have a:=g.up i h0 (by omega)
 have b:=g.le (i + 1) j (by omega) (by omega) h1
 omega
theorem swithin (l : List S30) (h : Int) (hl : (l.length : Int)≤1000000000000) : Ev (fun k=>spec_l23Within.f k l h) (inB l h):=by
 unfold spec_l23Within.f
 refine Ev.bind (sgood l hl) ?_
 by_cases g : GoodR l
 ·refine Ev.pos (goodB_true g) ?_
  by_cases c : (l.length : Int) > 0
  ·have e : wrap64 ((l.length : Int) - 1)=(l.length : Int) - 1:=wr (by omega) (by omega)
   simp only [e]
   refine Ev.pos c (Ev.pos c (Ev.pos (by omega) (Ev.pos (by omega) (Ev.bindS (l1In_eq _ _ _) (Ev.to (Ev.now _) ?_)))))
   by_cases d : H l 0≤h∧h≤H l ((l.length : Int) - 1)
   ·rw [inB_true ⟨g,by omega,d⟩]
    exact decide_eq_true d
   ·rw [inB_false (fun q=>d q.2.2)]
    exact decide_eq_false d
  ·exact Ev.neg c (Ev.to (Ev.now _) (inB_false (fun q=>by have:=q.2.1;omega)).symm)
 ·exact Ev.neg (by rw [goodB_false g];simp) (Ev.to (Ev.now _) (inB_false (fun q=>g q.1)).symm)
theorem ihours (l : List S30) (hl : (l.length : Int)≤1000000000000) :
  impl_hours.f l=some (if (l.length : Int)=0 then (0,-1) else (H l 0,H l ((l.length : Int) - 1))):=by
 unfold impl_hours.f
 by_cases c : (l.length : Int)=0
 ·rw [if_pos c,if_pos c]
 ·have e : wrap64 ((l.length : Int) - 1)=(l.length : Int) - 1:=wr (by omega) (by omega)
  simp only [e]
  rw [if_neg c,if_neg c,if_pos (by omega),if_pos (by omega),if_pos (by omega)]
  rfl
theorem ihas (l : List S30) (h : Int) (hl : (l.length : Int)≤1000000000000) : Ev (fun k=>impl_hasHour.f k l h) (inB l h):=by
 unfold impl_hasHour.f
 refine Ev.bindS (ihours l hl) (Ev.bind (igood l hl) ?_)
 by_cases g : GoodR l
 ·refine Ev.pos (goodB_true g) (Ev.bindS (within_eq _ _ _) (Ev.to (Ev.now _) ?_))
  by_cases c : (l.length : Int)=0
  ·rw [inB_false (fun q=>by have:=q.2.1;omega)]
   rw [if_pos c]
   exact decide_eq_false (fun q=>by have:=q.1;have:=q.2;omega)
  ·rw [if_neg c]
   by_cases d : H l 0≤h∧h≤H l ((l.length : Int) - 1)
   ·rw [inB_true ⟨g,by omega,d⟩]
    exact decide_eq_true d
   ·rw [inB_false (fun q=>d q.2.2)]
    exact decide_eq_false d
 ·exact Ev.neg (by rw [goodB_false g];simp) (Ev.to (Ev.now _) (inB_false (fun q=>g q.1)).symm)
def lev (l : List S30) (h p : Int) : Int × Int:=
 if H l p=h then (Lv l p,1) else red (Lv l p * (H l (p + 1) - h) + Lv l (p + 1) * (h - H l p)) (H l (p + 1) - H l p)
def At (l : List S30) (h p : Int) : Prop:=0≤p∧p < l.length∧H l p≤h∧(p + 1 < l.length→h < H l (p + 1))
theorem mul_small (a b : Int) (ha : -500≤a∧a≤500) (hb : 0≤b∧b≤999) : -500000≤a * b∧a * b≤500000:=by
 have h1 : a * b≤500 * b:=Int.mul_le_mul_of_nonneg_right ha.2 hb.1
 have h2 : -500 * b≤a * b:=Int.mul_le_mul_of_nonneg_right ha.1 hb.1
 omega
theorem ilev (l : List S30) (h : Int) (g : InH l h) : ∀ (d : Nat) (i : Int),0≤i→(l.length : Int) - 1 - i=d→H l i≤h →
  ∃ p,At l h p∧Ev (fun k=>impl_levelIn.l0 k l h i) (lev l h p):=by
 have hg:=g.1
 have hlen:=hg.len
 intro d
 induction d with
 | zero=>
  intro i h0 hd hi
  have e : wrap64 (i + 1)=i + 1:=wr (by omega) (by omega)
  have hh : H l i=h:=by have:=g.2.2.2;rw [show (l.length : Int) - 1=i from by omega] at this;omega
  refine ⟨i,⟨h0,by omega,hi,fun q=>by omega⟩,?_⟩
  refine Ev.step (fun k=>impl_levelIn.l0.eq_2 l h i k) ?_
  simp only [e]
  refine Ev.neg (by omega) (Ev.pos h0 (Ev.pos (by omega) (Ev.pos hh (Ev.to (Ev.now _) ?_))))
  unfold lev
  rw [if_pos hh]
  rfl
 | succ d ih=>
  intro i h0 hd hi
  have e : wrap64 (i + 1)=i + 1:=wr (by omega) (by omega)
  by_cases c : H l (i + 1)≤h
  ·obtain ⟨p,hp,hr⟩:=ih (i + 1) (by omega) (by omega) c
   refine ⟨p,hp,Ev.step (fun k=>impl_levelIn.l0.eq_2 l h i k) ?_⟩
   simp only [e]
   exact Ev.pos (by omega) (Ev.pos (by omega) (Ev.pos c hr))
  ·refine ⟨i,⟨h0,by omega,hi,fun q=>by omega⟩,Ev.step (fun k=>impl_levelIn.l0.eq_2 l h i k) ?_⟩
   simp only [e]
   refine Ev.pos (by omega) (Ev.pos (by omega) (Ev.neg c (Ev.pos h0 (Ev.pos (by omega) ?_))))
   by_cases q : H l i=h
   ·refine Ev.pos q (Ev.to (Ev.now _) ?_)
    unfold lev
    rw [if_pos q]
    rfl
   ·have b1:=hg.lv i h0 (by omega)
    have b2:=hg.lv (i + 1) (by omega) (by omega)
    have b3:=hg.h i h0 (by omega)
    have b4:=hg.h (i + 1) (by omega) (by omega)
    have m1:=mul_small (Lv l i) (H l (i + 1) - h) b1 (by omega)
    have m2:=mul_small (Lv l (i + 1)) (h - H l i) b2 (by omega)
    have w1 : wrap64 (H l (i + 1) - h)=H l (i + 1) - h:=wr (by omega) (by omega)
    have w2 : wrap64 (h - H l i)=h - H l i:=wr (by omega) (by omega)
    have w3 : wrap64 (Lv l i * (H l (i + 1) - h))=Lv l i * (H l (i + 1) - h):=wr (by omega) (by omega)
    have w4 : wrap64 (Lv l (i + 1) * (h - H l i))=Lv l (i + 1) * (h - H l i):=wr (by omega) (by omega)
    have w5 : wrap64 (Lv l i * (H l (i + 1) - h) + Lv l (i + 1) * (h - H l i))=Lv l i * (H l (i + 1) - h) + Lv l (i + 1) * (h - H l i):=wr (by omega) (by omega)
    have w6 : wrap64 (H l (i + 1) - H l i)=H l (i + 1) - H l i:=wr (by omega) (by omega)
    refine Ev.neg q ?_
    have r:=ired (Lv l i * (H l (i + 1) - h) + Lv l (i + 1) * (h - H l i)) (H l (i + 1) - H l i) (by omega) (by omega) (by omega) (by omega)
    unfold H at w1 w2 w6
    unfold H Lv at w3 w4 w5 r
    simp only [w1,w2,w3,w4,w5,w6]
    refine Ev.bind r (Ev.to (Ev.now _) ?_)
    unfold lev
    rw [if_neg q]
    rfl
theorem slev (l : List S30) (h p : Int) (g : InH l h) (hp : At l h p) : ∀ (d : Nat) (i : Int),0≤i→p + 1 - i=d→(i≤p ∨ H l p ≠ h) →
  Ev (fun k=>spec_l23In.l0 k l h i) (lev l h p):=by
 have hg:=g.1
 have hlen:=hg.len
 obtain ⟨p0,p1,p2,p3⟩:=hp
 have hlast : H l p ≠ h→p + 1 < l.length:=fun q=>by
  by_cases c : p + 1 < l.length
  ·exact c
  ·have:=g.2.2.2
   rw [show (l.length : Int) - 1=p from by omega] at this
   omega
 intro d
 induction d with
 | zero=>
  intro i h0 hd hq
  obtain rfl : i=p + 1:=by omega
  have q : H l p ≠ h:=by
   rcases hq with x | x
   ·omega
   ·exact x
  have c:=hlast q
  have u:=p3 c
  refine Ev.step (fun k=>spec_l23In.l0.eq_2 l h (p + 1) k) (Ev.pos h0 (Ev.pos c (Ev.neg (by show ¬ H l (p + 1) < h;omega) (Ev.neg (by show ¬ H l (p + 1)=h;omega) ?_))))
  have e : wrap64 (p + 1 - 1)=p:=by rw [wr (by omega) (by omega)];omega
  simp only [e]
  refine Ev.pos p0 (Ev.pos p1 ?_)
  have b1:=hg.lv p p0 p1
  have b2:=hg.lv (p + 1) (by omega) c
  have b3:=hg.h p p0 p1
  have b4:=hg.h (p + 1) (by omega) c
  have w1 : wrap64 (H l (p + 1) - h)=H l (p + 1) - h:=wr (by omega) (by omega)
  have m1:=mul_small (Lv l p) (H l (p + 1) - h) b1 (by omega)
  have m2:=mul_small (Lv l (p + 1)) (h - H l p) b2 (by omega)
  have w2 : wrap64 (h - H l p)=h - H l p:=wr (by omega) (by omega)
  have w3 : wrap64 (Lv l p * (H l (p + 1) - h))=Lv l p * (H l (p + 1) - h):=wr (by omega) (by omega)
  have w4 : wrap64 (Lv l (p + 1) * (h - H l p))=Lv l (p + 1) * (h - H l p):=wr (by omega) (by omega)
  have w5 : wrap64 (Lv l p * (H l (p + 1) - h) + Lv l (p + 1) * (h - H l p))=Lv l p * (H l (p + 1) - h) + Lv l (p + 1) * (h - H l p):=wr (by omega) (by omega)
  have w6 : wrap64 (H l (p + 1) - H l p)=H l (p + 1) - H l p:=wr (by omega) (by omega)
  have r:=sred (Lv l p * (H l (p + 1) - h) + Lv l (p + 1) * (h - H l p)) (H l (p + 1) - H l p) (by omega) (by omega) (by omega) (by omega)
  unfold H at w1 w2 w6
  unfold H Lv at w3 w4 w5 r
  simp only [w1,w2,w3,w4,w5,w6]
  refine Ev.bind r (Ev.to (Ev.now _) ?_)
  unfold lev
  rw [if_neg q]
  rfl
 | succ d ih=>
  intro i h0 hd hq
  have e : wrap64 (i + 1)=i + 1:=wr (by omega) (by omega)
  by_cases c : H l i < h
  ·refine Ev.step (fun k=>spec_l23In.l0.eq_2 l h i k) ?_
   simp only [e]
   exact Ev.pos h0 (Ev.pos (by omega) (Ev.pos c (ih (i + 1) (by omega) (by omega) (if x : i=p then .inr (by rw [← x];omega) else .inl (by omega)))))
  ·have le:=hg.le i p h0 (by omega) p1
   have q : H l i=h:=by omega
   have ip : i=p:=by
    by_cases x : i < p
    ·have:=hg.lt i p h0 x p1
     omega
    ·omega
   refine Ev.step (fun k=>spec_l23In.l0.eq_2 l h i k) (Ev.pos h0 (Ev.pos (by omega) (Ev.neg c (Ev.pos q (Ev.to (Ev.now _) ?_)))))
   unfold lev
   rw [ip] at q ⊢
   rw [if_pos q]
   rfl
theorem level_both (l : List S30) (h : Int) (g : InH l h) : ∃ p,At l h p∧Ev (fun k=>impl_levelIn.f k l h) (lev l h p)∧Ev (fun k=>spec_l23In.f k l h) (lev l h p):=by
 have hlen:=g.1.len
 have h1:=g.2.1
 obtain ⟨p,hp,hr⟩:=ilev l h g (l.length - 1) 0 (by omega) (by omega) g.2.2.1
 exact ⟨p,hp,hr,slev l h p g hp (p + 1).toNat 0 (by omega) (by have:=hp.1;omega) (.inl hp.1)⟩
end Go.Proofs.Ytldifiededjgjaa.Pu
namespace Go.Proofs.Ytldifiededjgjaa.P
open Go.RowKit Go.Proofs.YtldifiededjgjaaW.PrintWords Go.Proofs.YtldifiededjgjaaW.PrintLast Go.Proofs.YtldifiededjgjaaW.PrintMore
attribute [local go_sem] max2_int min2_int max_two min_two max_three min_three max_four min_four
set_option linter.unusedVariables false
set_option linter.unusedSimpArgs false
mutual
def impl_AreSumps.l0 : Nat→List (S44)→List (S44)→Int→Int→Option (Bool)
 | 0,_,_,_,_=>none
 | k + 1,x0,x5,x6,x7=>if x7 < x6 then (if 0≤x7 then (if x7 < (x5.length : Int) then ((impl_isSump.f ((rd_T44 x5 x7).f0) ((rd_T44 x5 x7).f1) ((rd_T44 x5 x7).f2)).bind fun t503=>(if t503=true then (if x7 > 0 then (if 0≤(wrap64 (x7 - 1)) then (if (wrap64 (x7 - 1)) < (x0.length : Int) then (impl_AreSumps.j1 k x0 x5 x6 x7 (decide (((rd_T44 x0 (wrap64 (x7 - 1))).f0) ≥ ((rd_T44 x5 x7).f0)))) else (none)) else (none)) else (impl_AreSumps.j1 k x0 x5 x6 x7 false)) else (impl_AreSumps.j1 k x0 x5 x6 x7 true))) else (none)) else (none)) else (some true)
def impl_AreSumps.j1 : Nat→List (S44)→List (S44)→Int→Int→Bool→Option (Bool)
 | 0,_,_,_,_,_=>none
 | k + 1,x0,x5,x6,x7,x29=>if x29=true then (some false) else (impl_AreSumps.l0 k x0 x5 x6 (wrap64 (x7 + 1)))
end
def impl_AreSumps.f (k : Nat) (l0 : List (S44)) : Option (Bool):=impl_AreSumps.l0 k l0 l0 (l0.length : Int) 0
theorem impl_AreSumps.mono_l : ∀ k,(∀ y0 y1 y2 y3,LeO (impl_AreSumps.l0 k y0 y1 y2 y3) (impl_AreSumps.l0 (k + 1) y0 y1 y2 y3))∧(∀ y0 y1 y2 y3 y4,LeO (impl_AreSumps.j1 k y0 y1 y2 y3 y4) (impl_AreSumps.j1 (k + 1) y0 y1 y2 y3 y4))
 | 0=>⟨fun _ _ _ _ r h=>by simp [impl_AreSumps.l0] at h,fun _ _ _ _ _ r h=>by simp [impl_AreSumps.j1] at h⟩
 | k + 1=>by
  obtain ⟨ih0,ih1⟩:=impl_AreSumps.mono_l k
  refine ⟨?_,?_⟩
  ·intro y0 y1 y2 y3
   unfold impl_AreSumps.l0
   repeat' first
   | (with_reducible exact ih0 _ _ _ _)
   | (with_reducible exact ih1 _ _ _ _ _)
   | (with_reducible exact LeO.refl _)
   | (with_reducible exact LeO.none _)
   | (with_reducible refine LeO.ite ?_ ?_)
   | (with_reducible refine LeO.bind ?_ (fun _=>?_))
   | exact ih0 _ _ _ _
   | exact ih1 _ _ _ _ _
  ·intro y0 y1 y2 y3 y4
   unfold impl_AreSumps.j1
   repeat' first
   | (with_reducible exact ih0 _ _ _ _)
   | (with_reducible exact ih1 _ _ _ _ _)
   | (with_reducible exact LeO.refl _)
   | (with_reducible exact LeO.none _)
   | (with_reducible refine LeO.ite ?_ ?_)
   | (with_reducible refine LeO.bind ?_ (fun _=>?_))
   | exact ih0 _ _ _ _
   | exact ih1 _ _ _ _ _
theorem impl_AreSumps.mono : ∀ a0 k,LeO (impl_AreSumps.f k a0) (impl_AreSumps.f (k + 1) a0):=by
 intro a0 k
 obtain ⟨ih0,ih1⟩:=impl_AreSumps.mono_l k
 unfold impl_AreSumps.f
 repeat' first
   | (with_reducible exact ih0 _ _ _ _)
   | (with_reducible exact ih1 _ _ _ _ _)
   | (with_reducible exact LeO.refl _)
   | (with_reducible exact LeO.none _)
   | (with_reducible refine LeO.ite ?_ ?_)
   | (with_reducible refine LeO.bind ?_ (fun _=>?_))
   | exact ih0 _ _ _ _
   | exact ih1 _ _ _ _ _
def impl_AreSumps.T4 : Bool × List (List Nat × List Nat):=(true,[([],[]),([0],[0]),([1],[1]),([2,1],[2]),([3],[3]),([4,3],[3,4]),([5,3,3],[3,5]),([6],[6]),([6],[6]),([8,6],[6,8]),([7,9,6],[6,7,9]),([10,6],[6,10]),([11,6],[6,11]),([6],[6]),([13,6],[6,13]),([12,14,6],[6,12,14]),([6,15,3],[3,6,15]),([3,16],[3,16])])
def impl_AreSumps.B4 : List Nat:=[0,1,3,7,15,31,63,127,127,383,1023,2047,4095,127,8319,32767,65535,131071]
theorem impl_AreSumps.tab4 : rtab .any (opsOf Try.f41 4)=impl_AreSumps.T4:=by kernel_rfl
theorem impl_AreSumps.bits4 : waitsOk impl_AreSumps.T4.2 impl_AreSumps.B4=true:=by kernel_rfl
set_option maxHeartbeats 8000000 in
set_option maxRecDepth 100000 in
theorem impl_AreSumps.calls (k : Nat) (A0 : Option Addr) (c0 : Nat) (l0 : List (S44)) (r : Bool) (w : World) (hr0 : Kd.C k44 w A0 l0.length l0) (hc0 : l0.length≤c0) (h : impl_AreSumps.f k l0=some r) :
  Calls Try.prog 41 #[.slice A0 l0.length c0] w fun e w'=>e = .returned (.bool r)∧Below w.heap.size w w':=by
 have hu44:=Try.underlying44
 have HR0:=amk hr0
 have HC0:=amk hc0
 clear hr0 hc0
 have HB:=amk (Below.refl w.heap.size w)
 have H : (impl_AreSumps.l0 k l0 l0 (l0.length : Int) 0)=some r:=h
 clear h
 have H':=amk H
 clear H
 go_enter Try.func41,Try.ntmps41
 go_wp2
 go_loopg [7] k (fun kq v7 w'=>∃ (x7_1 : Int),v7 = .int .i64 x7_1∧Aside0 (impl_AreSumps.l0 kq l0 l0 (l0.length : Int) x7_1=some r)∧Aside0 (kq≤k)∧Aside0 (Below w.heap.size w w'))
 case atStart=>exact ⟨(0),rsd,H',⟨Nat.le_refl _⟩,⟨bel HB⟩⟩
 case round=>
  clear H'
  obtain ⟨x7_1,rfl,HA,HK1,HB⟩:=hrel
  cases gk with
  | zero=>exact absurd HA.out (by simp [impl_AreSumps.l0])
  | succ k1=>
   have H:=HA.out
   clear HA
   simp only [impl_AreSumps.l0] at H
   by_cases c2 : x7_1 < (l0.length : Int)
   ·rw [if_pos c2] at H
    have c2b0 : decide (x7_1 < (l0.length : Int))=true:=decide_eq_true c2
    clear c2
    by_cases c3 : 0≤x7_1
    ·rw [if_pos c3] at H
     have c3b0 : decide (0≤x7_1)=true:=decide_eq_true c3
     clear c3
     by_cases c4 : x7_1 < (l0.length : Int)
     ·rw [if_pos c4] at H
      have c4b0 : decide (x7_1 < (l0.length : Int))=true:=decide_eq_true c4
      clear c4
      have HC5:=amk H
      clear H
      have p501 : 0≤(x7_1 : Int):=of_decide_eq_true ass
      have q501 : x7_1 < (l0.length : Int):=of_decide_eq_true ass
      obtain ⟨ad501,e501,hx501_0,hx501_1,hx501_2⟩:=at_T44 HR0.out x7_1 p501 q501
      cases e501
      replace hx501_0:=(HB.out.cell (World.block_lt_of_cell? w _ hx501_0)).trans hx501_0
      replace hx501_1:=(HB.out.cell (World.block_lt_of_cell? w _ hx501_1)).trans hx501_1
      replace hx501_2:=(HB.out.cell (World.block_lt_of_cell? w _ hx501_2)).trans hx501_2
      replace p501:=eq_true p501
      replace q501:=eq_true q501
      go_upto_region 4 with (first | ((with_reducible refine gate_dst (N:=4) rfl ?_);refine box_event ?hg (N:=4) ?hd (cs:=#[.int .i64 0,.int .i64 0,.int .i64 0]) (t:=44) ?hr ?_;(case hd=>rfl);(case hg=>rfl);(case hr=>first | (go_simp;done)|(go_simp;rfl));intro gb502 hg w6 hbox hb;have BK502:=amk (hbox);have GW502:=amk ((by rw [hg];exact (below_size (bel HB)) : w.heap.size≤gb502));have GE502:=amk ((by rw [hg];exact (below_size (bel HB)) : w.heap.size≤gb502));replace HB:=amk (below_step (bel HB) hb);clear hb hbox hg;have hcz7_0 : w6.cell? ⟨gb502,0,none⟩=some (.int .i64 0):=(blk_cell BK502.out 0).trans rfl;have hcz7_1 : w6.cell? ⟨gb502,1,none⟩=some (.int .i64 0):=(blk_cell BK502.out 1).trans rfl;have hcz7_2 : w6.cell? ⟨gb502,2,none⟩=some (.int .i64 0):=(blk_cell BK502.out 2).trans rfl;have hfz7_0:=blk_frozen BK502.out 0;have hfz7_1:=blk_frozen BK502.out 1;have hfz7_2:=blk_frozen BK502.out 2))
      (try simp only [Act.put,List.setIfInBounds_toArray,List.set_cons_zero,List.set_cons_succ])
      go_cut [29] (fun v29 wc=>∃ (kq : Nat) (x29_4 : Bool),v29 = .bool x29_4∧Aside0 (impl_AreSumps.j1 kq l0 l0 (l0.length : Int) x7_1 x29_4=some r)∧Aside0 (kq≤k1)∧Aside0 (wc.heap[gb502]? = some (.cells #[.int .i64 ((rd_T44 l0 x7_1).f0),.int .i64 ((rd_T44 l0 x7_1).f1),.int .i64 ((rd_T44 l0 x7_1).f2)] 44 (0,0)))∧Aside0 (Below w.heap.size w wc))
      case first=>
       have H:=HC5.out
       clear HC5
       replace H:=obs H
       obtain ⟨t503,A80,H⟩:=H
       replace H : (if t503=true then (if x7_1 > 0 then (if 0≤(wrap64 (x7_1 - 1)) then (if (wrap64 (x7_1 - 1)) < (l0.length : Int) then (impl_AreSumps.j1 k1 l0 l0 (l0.length : Int) x7_1 (decide (((rd_T44 l0 (wrap64 (x7_1 - 1))).f0) ≥ ((rd_T44 l0 x7_1).f0)))) else (none)) else (none)) else (impl_AreSumps.j1 k1 l0 l0 (l0.length : Int) x7_1 false)) else (impl_AreSumps.j1 k1 l0 l0 (l0.length : Int) x7_1 true))=some r:=H
       have A8:=amk A80
       clear A80
       by_cases c9 : t503=true
       ·subst c9
        have H1 : (if x7_1 > 0 then (if 0≤(wrap64 (x7_1 - 1)) then (if (wrap64 (x7_1 - 1)) < (l0.length : Int) then (impl_AreSumps.j1 k1 l0 l0 (l0.length : Int) x7_1 (decide (((rd_T44 l0 (wrap64 (x7_1 - 1))).f0) ≥ ((rd_T44 l0 x7_1).f0)))) else (none)) else (none)) else (impl_AreSumps.j1 k1 l0 l0 (l0.length : Int) x7_1 false))=some r:=by rw [if_pos rfl] at H;exact H
        clear H
        have H:=H1
        clear H1
        by_cases c10 : x7_1 > 0
        ·rw [if_pos c10] at H
         have c10b0 : decide (0 < x7_1)=true:=decide_eq_true c10
         clear c10
         (first | rw [c10b0] | (simp only [i64_w,i32_w];rw [c10b0]) | skip)
         obtain ⟨ji11,hji11⟩ : ∃ j_ : Int,(wrap64 (x7_1 - 1))=j_:=⟨_,rfl⟩
         replace H : (if 0≤(ji11) then (if (ji11) < (l0.length : Int) then (impl_AreSumps.j1 k1 l0 l0 (l0.length : Int) x7_1 (decide (((rd_T44 l0 (ji11)).f0) ≥ ((rd_T44 l0 x7_1).f0)))) else (none)) else (none))=some r:=by first | (rw [hji11] at H;exact H)|(simp only [hji11] at H ⊢;exact H)
         (try rw [hji11] at A8)
         have hji11w : (IntKind.i64.wrap (x7_1 - 1))=ji11:=(i64_w _).trans hji11
         by_cases c12 : 0≤(ji11)
         ·rw [if_pos c12] at H
          have c12b0 : decide (0≤(ji11))=true:=decide_eq_true c12
          clear c12
          by_cases c13 : (ji11) < (l0.length : Int)
          ·rw [if_pos c13] at H
           have c13b0 : decide ((ji11) < (l0.length : Int))=true:=decide_eq_true c13
           clear c13
           have H':=amk H
           clear H
           try go_wp2
           have n0_ : Aside0 ((((w6.setCell ⟨gb502,0,none⟩ (.int .i64 ((rd_T44 l0 x7_1).f0))).setCell ⟨gb502,1,none⟩ (.int .i64 ((rd_T44 l0 x7_1).f1))).setCell ⟨gb502,2,none⟩ (.int .i64 ((rd_T44 l0 x7_1).f2))).heap[gb502]? = some (.cells #[.int .i64 ((rd_T44 l0 x7_1).f0),.int .i64 ((rd_T44 l0 x7_1).f1),.int .i64 ((rd_T44 l0 x7_1).f2)] 44 (0,0))):=⟨by (with_reducible repeat (first | refine blk_drewN ?_ _ | refine blk_drew ?_ | refine blk_alloc ?_ _));refine blk_put (cs:=#[.int .i64 ((rd_T44 l0 x7_1).f0),.int .i64 ((rd_T44 l0 x7_1).f1),.int .i64 0]) ?_ 2 _ rfl;(with_reducible repeat (first | refine blk_drewN ?_ _ | refine blk_drew ?_ | refine blk_alloc ?_ _));refine blk_put (cs:=#[.int .i64 ((rd_T44 l0 x7_1).f0),.int .i64 0,.int .i64 0]) ?_ 1 _ rfl;(with_reducible repeat (first | refine blk_drewN ?_ _ | refine blk_drew ?_ | refine blk_alloc ?_ _));refine blk_put (cs:=#[.int .i64 0,.int .i64 0,.int .i64 0]) ?_ 0 _ rfl;(with_reducible repeat (first | refine blk_drewN ?_ _ | refine blk_drew ?_ | refine blk_alloc ?_ _));exact BK502.out⟩
           have n1_ : Aside0 (Below w.heap.size w (((w6.setCell ⟨gb502,0,none⟩ (.int .i64 ((rd_T44 l0 x7_1).f0))).setCell ⟨gb502,1,none⟩ (.int .i64 ((rd_T44 l0 x7_1).f1))).setCell ⟨gb502,2,none⟩ (.int .i64 ((rd_T44 l0 x7_1).f2)))):=⟨bel1 HB GE502.out⟩
           (try clear BK502)
           (try clear HB)
           generalize (((w6.setCell ⟨gb502,0,none⟩ (.int .i64 ((rd_T44 l0 x7_1).f0))).setCell ⟨gb502,1,none⟩ (.int .i64 ((rd_T44 l0 x7_1).f1))).setCell ⟨gb502,2,none⟩ (.int .i64 ((rd_T44 l0 x7_1).f2)))=w14 at n0_ n1_ ⊢
           have BK502:=n0_
           have HB:=n1_
           clear n0_ n1_
           have n0_:=amk (blk_drew BK502.out)
           have n1_:=amk (below_drew1 HB.out)
           clear BK502
           clear HB
           have BK502:=n0_
           have HB:=n1_
           clear n0_ n1_
           have p504 : 0≤((ji11) : Int):=of_decide_eq_true ass
           have q504 : (ji11) < (l0.length : Int):=of_decide_eq_true ass
           obtain ⟨ad504,e504,hx504_0,hx504_1,hx504_2⟩:=at_T44 HR0.out (ji11) p504 q504
           have hw504_2:=hx504_2
           have hw504_1:=hx504_1
           have hw504_0:=hx504_0
           obtain rfl : ad501=ad504:=(by injection e504)
           replace hx504_0:=(HB.out.cell (World.block_lt_of_cell? w _ hx504_0)).trans hx504_0
           replace hx504_1:=(HB.out.cell (World.block_lt_of_cell? w _ hx504_1)).trans hx504_1
           replace hx504_2:=(HB.out.cell (World.block_lt_of_cell? w _ hx504_2)).trans hx504_2
           replace p504:=eq_true p504
           replace q504:=eq_true q504
           refine start_ (n:=18) (S:=fun w'=>w'.cell? ⟨gb502,0,none⟩=some (.int .i64 ((rd_T44 l0 x7_1).f0))∧w'.cell? ⟨gb502,1,none⟩=some (.int .i64 ((rd_T44 l0 x7_1).f1))∧w'.cell? ⟨gb502,2,none⟩=some (.int .i64 ((rd_T44 l0 x7_1).f2))∧w'.cell? (ad501.add (((ji11)).toNat * 3))=some (.int .i64 ((rd_T44 l0 (ji11)).f0))∧w'.cell? ⟨(ad501.add (((ji11)).toNat * 3)).block,(ad501.add (((ji11)).toNat * 3)).off + 1,none⟩=some (.int .i64 ((rd_T44 l0 (ji11)).f1))∧w'.cell? ⟨(ad501.add (((ji11)).toNat * 3)).block,(ad501.add (((ji11)).toNat * 3)).off + 2,none⟩=some (.int .i64 ((rd_T44 l0 (ji11)).f2))) (ds:=[]) #[F0,F0,F0,F0,F0,F0,F0,F0,F0,F0,F0,F0,F0,F0,F0,F0,F0,F0] (by kernel_rfl) rfl rfl ⟨(blk_cell BK502.out 0).trans rfl,(blk_cell BK502.out 1).trans rfl,(blk_cell BK502.out 2).trans rfl,((HB.out.cell (World.block_lt_of_cell? w _ hw504_0)).trans hw504_0),((HB.out.cell (World.block_lt_of_cell? w _ hw504_1)).trans hw504_1),((HB.out.cell (World.block_lt_of_cell? w _ hw504_2)).trans hw504_2)⟩ (fun hHeld=>?_);refine with_tabW impl_AreSumps.tab4 impl_AreSumps.bits4 (fun HT_ HW_=>?_)
           generalize w14.drew=w15 at BK502 HB hx504_0 hx504_1 hx504_2 hHeld ⊢
           refine take_ (i:=0) (N:=some 12) (v:=?_) (a':=?_) #[T0,F0,F0,F0,F0,F0,F0,F0,F0,F0,F0,F0,F0,F0,F0,F0,F0,F0] rfl rfl (take_ofW HT_.out HW_.out (by kernel_rfl)) (fun _ _ _ h=>h) (Or.inl ⟨by rfl,?_⟩) hHeld ?_ ?_
           rotate_left
           ·rintro w' ⟨s0,s1,s2,s3,s4,s5⟩
            go_simp
            with_reducible rfl
           rotate_left
           ·simp only [Act.put,sI,sZ,sS,i64_w,i32_w]
            rfl
           refine one_ (i:=1) (N:=some 13) #[T0,T0,F0,F0,F0,F0,F0,F0,F0,F0,F0,F0,F0,F0,F0,F0,F0,F0] rfl rfl (one_of HT_.out (by kernel_rfl)) (by decide) (fun K hK=>?_)
           refine goes_ Try.func62 (by kernel_rfl) rfl #[.agg #[.int .i64 ((rd_T44 l0 x7_1).f0),.int .i64 ((rd_T44 l0 x7_1).f1),.int .i64 ((rd_T44 l0 x7_1).f2)]] (by rfl) rfl rfl mtt ?_
           with_reducible refine (impl_isSump.calls ((rd_T44 l0 x7_1).f0) ((rd_T44 l0 x7_1).f1) ((rd_T44 l0 x7_1).f2) true _ A8.out).mono ?_
           rintro e w16 ⟨rfl,hb⟩
           refine ⟨_,rfl,?_⟩
           have n0_:=amk (blk_below (g:=gb502) (o:=.cells #[.int .i64 ((rd_T44 l0 x7_1).f0),.int .i64 ((rd_T44 l0 x7_1).f1),.int .i64 ((rd_T44 l0 x7_1).f2)] 44 (0,0)) (bkk BK502) hb)
           have n1_:=amk (below_step (bel1 HB GE502.out) hb)
           clear BK502
           clear HB
           have BK502:=n0_
           have HB:=n1_
           clear n0_ n1_
           (try clear hb)
           (try clear hb2)
           (try clear hk)
           (try clear hi)
           refine hK.out _ _ ⟨(blk_cell BK502.out 0).trans rfl,(blk_cell BK502.out 1).trans rfl,(blk_cell BK502.out 2).trans rfl,((HB.out.cell (World.block_lt_of_cell? w _ hw504_0)).trans hw504_0),((HB.out.cell (World.block_lt_of_cell? w _ hw504_1)).trans hw504_1),((HB.out.cell (World.block_lt_of_cell? w _ hw504_2)).trans hw504_2)⟩ (fun hHeld=>?_)
           clear hK K
           refine norm_ (a':=?_) ?_ ?_
           rotate_left
           ·show Act.put _ (some 13) _=_
            simp only [Act.put,sI,sZ,sS,i64_w,i32_w]
            rfl
           refine pure_ (i:=2) (N:=some 14) (v:=?_) (a':=?_) #[T0,T0,T0,F0,F0,F0,F0,F0,F0,F0,F0,F0,F0,F0,F0,F0,F0,F0] rfl rfl (any_of HT_.out (by kernel_rfl)) (fun _ _ _ h=>h) (Or.inl ⟨by rfl,?_⟩) ?_ ?_
           rotate_left
           ·intro w'
            go_simp
            with_reducible rfl
           rotate_left
           ·simp only [Act.put,sI,sZ,sS,i64_w,i32_w]
            rfl
           refine pure_ (i:=3) (N:=some 15) (v:=?_) (a':=?_) #[T0,T0,T0,T0,F0,F0,F0,F0,F0,F0,F0,F0,F0,F0,F0,F0,F0,F0] rfl rfl (any_of HT_.out (by kernel_rfl)) (fun _ _ _ h=>h) (Or.inl ⟨by rfl,?_⟩) ?_ ?_
           rotate_left
           ·intro w'
            go_simp
            with_reducible rfl
           rotate_left
           ·simp only [Act.put,sI,sZ,sS,i64_w,i32_w]
            rfl
           refine pure_ (i:=4) (N:=some 16) (v:=?_) (a':=?_) #[T0,T0,T0,T0,T0,F0,F0,F0,F0,F0,F0,F0,F0,F0,F0,F0,F0,F0] rfl rfl (any_of HT_.out (by kernel_rfl)) (fun _ _ _ h=>h) (Or.inl ⟨by rfl,?_⟩) ?_ ?_
           rotate_left
           ·intro w'
            go_simp
            with_reducible rfl
           rotate_left
           ·simp only [Act.put,sI,sZ,sS,i64_w,i32_w]
            rfl
           refine pure_ (i:=5) (N:=some 17) (v:=?_) (a':=?_) #[T0,T0,T0,T0,T0,T0,F0,F0,F0,F0,F0,F0,F0,F0,F0,F0,F0,F0] rfl rfl (any_of HT_.out (by kernel_rfl)) (fun _ _ _ h=>h) (Or.inl ⟨by rfl,?_⟩) ?_ ?_
           rotate_left
           ·intro w'
            go_simp
            with_reducible rfl
           rotate_left
           ·simp only [Act.put,sI,sZ,sS,i64_w,i32_w]
            rfl
           refine pure_ (i:=6) (N:=some 18) (v:=?_) (a':=?_) #[T0,T0,T0,T0,T0,T0,T0,F0,F0,F0,F0,F0,F0,F0,F0,F0,F0,F0] rfl rfl (any_of HT_.out (by kernel_rfl)) (fun _ _ _ h=>h) (Or.inl ⟨by rfl,?_⟩) ?_ ?_
           rotate_left
           ·intro w'
            go_simp
            with_reducible rfl
           rotate_left
           ·simp only [Act.put,sI,sZ,sS,i64_w,i32_w]
            rfl
           refine pure_ (i:=7) (N:=some 19) (v:=?_) (a':=?_) #[T0,T0,T0,T0,T0,T0,T0,T0,F0,F0,F0,F0,F0,F0,F0,F0,F0,F0] rfl rfl (any_of HT_.out (by kernel_rfl)) (fun _ _ _ h=>h) (Or.inl ⟨by rfl,?_⟩) ?_ ?_
           rotate_left
           ·intro w'
            go_simp
            with_reducible rfl
           rotate_left
           ·simp only [Act.put,sI,sZ,sS,i64_w,i32_w]
            rfl
           refine pure_ (i:=8) (N:=some 20) (v:=?_) (a':=?_) #[T0,T0,T0,T0,T0,T0,T0,T0,T0,F0,F0,F0,F0,F0,F0,F0,F0,F0] rfl rfl (any_of HT_.out (by kernel_rfl)) (fun _ _ _ h=>h) (Or.inl ⟨by rfl,?_⟩) ?_ ?_
           rotate_left
           ·intro w'
            go_simp
            with_reducible rfl
           rotate_left
           ·simp only [Act.put,sI,sZ,sS,i64_w,i32_w]
            rfl
           refine pure_ (i:=9) (N:=some 21) (v:=?_) (a':=?_) #[T0,T0,T0,T0,T0,T0,T0,T0,T0,T0,F0,F0,F0,F0,F0,F0,F0,F0] rfl rfl (any_of HT_.out (by kernel_rfl)) (fun _ _ _ h=>h) (Or.inl ⟨by rfl,?_⟩) ?_ ?_
           rotate_left
           ·intro w'
            go_simp
            with_reducible rfl
           rotate_left
           ·simp only [Act.put,sI,sZ,sS,i64_w,i32_w]
            rfl
           refine pure_ (i:=10) (N:=some 22) (v:=?_) (a':=?_) #[T0,T0,T0,T0,T0,T0,T0,T0,T0,T0,T0,F0,F0,F0,F0,F0,F0,F0] rfl rfl (any_of HT_.out (by kernel_rfl)) (fun _ _ _ h=>h) (Or.inl ⟨by rfl,?_⟩) ?_ ?_
           rotate_left
           ·intro w'
            go_simp
            with_reducible rfl
           rotate_left
           ·simp only [Act.put,sI,sZ,sS,i64_w,i32_w]
            rfl
           refine pure_ (i:=11) (N:=some 23) (v:=?_) (a':=?_) #[T0,T0,T0,T0,T0,T0,T0,T0,T0,T0,T0,T0,F0,F0,F0,F0,F0,F0] rfl rfl (any_of HT_.out (by kernel_rfl)) (fun _ _ _ h=>h) (Or.inl ⟨by rfl,?_⟩) ?_ ?_
           rotate_left
           ·intro w'
            go_simp
            with_reducible rfl
           rotate_left
           ·simp only [Act.put,sI,sZ,sS,i64_w,i32_w]
            rfl
           refine pure_ (i:=13) (N:=some 25) (v:=?_) (a':=?_) #[T0,T0,T0,T0,T0,T0,T0,T0,T0,T0,T0,T0,F0,T0,F0,F0,F0,F0] rfl rfl (any_of HT_.out (by kernel_rfl)) (fun _ _ _ h=>h) (Or.inl ⟨by rfl,?_⟩) ?_ ?_
           rotate_left
           ·intro w'
            go_simp
            with_reducible rfl
           rotate_left
           ·simp only [Act.put,sI,sZ,sS,i64_w,i32_w]
            rfl
           refine take_ (i:=12) (N:=some 24) (v:=?_) (a':=?_) #[T0,T0,T0,T0,T0,T0,T0,T0,T0,T0,T0,T0,T0,T0,F0,F0,F0,F0] rfl rfl (take_ofW HT_.out HW_.out (by kernel_rfl)) (fun _ _ _ h=>h) (Or.inl ⟨by rfl,?_⟩) hHeld ?_ ?_
           rotate_left
           ·rintro w' ⟨s0,s1,s2,s3,s4,s5⟩
            go_simp
            with_reducible rfl
           rotate_left
           ·simp only [Act.put,sI,sZ,sS,i64_w,i32_w]
            rfl
           refine take_ (i:=14) (N:=some 26) (v:=?_) (a':=?_) #[T0,T0,T0,T0,T0,T0,T0,T0,T0,T0,T0,T0,T0,T0,T0,F0,F0,F0] rfl rfl (take_ofW HT_.out HW_.out (by kernel_rfl)) (fun _ _ _ h=>h) (Or.inl ⟨by rfl,?_⟩) hHeld ?_ ?_
           rotate_left
           ·rintro w' ⟨s0,s1,s2,s3,s4,s5⟩
            go_simp
            with_reducible rfl
           rotate_left
           ·simp only [Act.put,sI,sZ,sS,i64_w,i32_w]
            rfl
           refine pure_ (i:=15) (N:=some 27) (v:=?_) (a':=?_) #[T0,T0,T0,T0,T0,T0,T0,T0,T0,T0,T0,T0,T0,T0,T0,T0,F0,F0] rfl rfl (any_of HT_.out (by kernel_rfl)) (fun _ _ _ h=>h) (Or.inl ⟨by rfl,?_⟩) ?_ ?_
           rotate_left
           ·intro w'
            go_simp
            with_reducible rfl
           rotate_left
           ·simp only [Act.put,sI,sZ,sS,i64_w,i32_w]
            rfl
           refine pure_ (i:=16) (N:=some 28) (v:=?_) (a':=?_) #[T0,T0,T0,T0,T0,T0,T0,T0,T0,T0,T0,T0,T0,T0,T0,T0,T0,F0] rfl rfl (any_of HT_.out (by kernel_rfl)) (fun _ _ _ h=>h) (Or.inl ⟨by rfl,?_⟩) ?_ ?_
           rotate_left
           ·intro w'
            go_simp
            with_reducible rfl
           rotate_left
           ·simp only [Act.put,sI,sZ,sS,i64_w,i32_w]
            rfl
           refine pure_ (i:=17) (N:=some 29) (v:=?_) (a':=?_) #[T0,T0,T0,T0,T0,T0,T0,T0,T0,T0,T0,T0,T0,T0,T0,T0,T0,T0] rfl rfl (any_of HT_.out (by kernel_rfl)) (fun _ _ _ h=>h) (Or.inl ⟨by rfl,?_⟩) ?_ ?_
           rotate_left
           ·intro w'
            go_simp
            with_reducible rfl
           rotate_left
           ·simp only [Act.put,sI,sZ,sS,i64_w,i32_w]
            rfl
           refine done_ (done_of HT_.out (by kernel_rfl)) ?_
           try go_wp2
           go_meet
           case rel=>exact ⟨_,(decide (((rd_T44 l0 (ji11)).f0) ≥ ((rd_T44 l0 x7_1).f0))),(by first | rfl | (simp;done)|(simp only [← hji11] <;> (first | rfl | simp))|(simp [*];done)),H',⟨by have:=HK1.out;first | omega | exact Nat.le_refl _⟩,⟨by (with_reducible repeat (first | refine blk_drewN ?_ _ | refine blk_drew ?_ | refine blk_alloc ?_ _));exact BK502.out⟩,⟨bel1 HB GE502.out⟩⟩
          ·rw [if_neg c13] at H
           exact absurd H (by simp)
         ·rw [if_neg c12] at H
          exact absurd H (by simp)
        ·rw [if_neg c10] at H
         have c10b0 : decide (0 < x7_1)=false:=decide_eq_false c10
         clear c10
         (first | rw [c10b0] | (simp only [i64_w,i32_w];rw [c10b0]) | skip)
         have H':=amk H
         clear H
         try go_wp2
         have n0_ : Aside0 ((((w6.setCell ⟨gb502,0,none⟩ (.int .i64 ((rd_T44 l0 x7_1).f0))).setCell ⟨gb502,1,none⟩ (.int .i64 ((rd_T44 l0 x7_1).f1))).setCell ⟨gb502,2,none⟩ (.int .i64 ((rd_T44 l0 x7_1).f2))).heap[gb502]? = some (.cells #[.int .i64 ((rd_T44 l0 x7_1).f0),.int .i64 ((rd_T44 l0 x7_1).f1),.int .i64 ((rd_T44 l0 x7_1).f2)] 44 (0,0))):=⟨by (with_reducible repeat (first | refine blk_drewN ?_ _ | refine blk_drew ?_ | refine blk_alloc ?_ _));refine blk_put (cs:=#[.int .i64 ((rd_T44 l0 x7_1).f0),.int .i64 ((rd_T44 l0 x7_1).f1),.int .i64 0]) ?_ 2 _ rfl;(with_reducible repeat (first | refine blk_drewN ?_ _ | refine blk_drew ?_ | refine blk_alloc ?_ _));refine blk_put (cs:=#[.int .i64 ((rd_T44 l0 x7_1).f0),.int .i64 0,.int .i64 0]) ?_ 1 _ rfl;(with_reducible repeat (first | refine blk_drewN ?_ _ | refine blk_drew ?_ | refine blk_alloc ?_ _));refine blk_put (cs:=#[.int .i64 0,.int .i64 0,.int .i64 0]) ?_ 0 _ rfl;(with_reducible repeat (first | refine blk_drewN ?_ _ | refine blk_drew ?_ | refine blk_alloc ?_ _));exact BK502.out⟩
         have n1_ : Aside0 (Below w.heap.size w (((w6.setCell ⟨gb502,0,none⟩ (.int .i64 ((rd_T44 l0 x7_1).f0))).setCell ⟨gb502,1,none⟩ (.int .i64 ((rd_T44 l0 x7_1).f1))).setCell ⟨gb502,2,none⟩ (.int .i64 ((rd_T44 l0 x7_1).f2)))):=⟨bel1 HB GE502.out⟩
         (try clear BK502)
         (try clear HB)
         generalize (((w6.setCell ⟨gb502,0,none⟩ (.int .i64 ((rd_T44 l0 x7_1).f0))).setCell ⟨gb502,1,none⟩ (.int .i64 ((rd_T44 l0 x7_1).f1))).setCell ⟨gb502,2,none⟩ (.int .i64 ((rd_T44 l0 x7_1).f2)))=w17 at n0_ n1_ ⊢
         have BK502:=n0_
         have HB:=n1_
         clear n0_ n1_
         have n0_:=amk (blk_drew BK502.out)
         have n1_:=amk (below_drew1 HB.out)
         clear BK502
         clear HB
         have BK502:=n0_
         have HB:=n1_
         clear n0_ n1_
         refine start_ (n:=18) (S:=fun w'=>w'.cell? ⟨gb502,0,none⟩=some (.int .i64 ((rd_T44 l0 x7_1).f0))∧w'.cell? ⟨gb502,1,none⟩=some (.int .i64 ((rd_T44 l0 x7_1).f1))∧w'.cell? ⟨gb502,2,none⟩=some (.int .i64 ((rd_T44 l0 x7_1).f2))) (ds:=[]) #[F0,F0,F0,F0,F0,F0,F0,F0,F0,F0,F0,F0,F0,F0,F0,F0,F0,F0] (by kernel_rfl) rfl rfl ⟨(blk_cell BK502.out 0).trans rfl,(blk_cell BK502.out 1).trans rfl,(blk_cell BK502.out 2).trans rfl⟩ (fun hHeld=>?_);refine with_tabW impl_AreSumps.tab4 impl_AreSumps.bits4 (fun HT_ HW_=>?_)
         generalize w17.drew=w18 at BK502 HB hHeld ⊢
         refine take_ (i:=0) (N:=some 12) (v:=?_) (a':=?_) #[T0,F0,F0,F0,F0,F0,F0,F0,F0,F0,F0,F0,F0,F0,F0,F0,F0,F0] rfl rfl (take_ofW HT_.out HW_.out (by kernel_rfl)) (fun _ _ _ h=>h) (Or.inl ⟨by rfl,?_⟩) hHeld ?_ ?_
         rotate_left
         ·rintro w' ⟨s0,s1,s2⟩
          go_simp
          with_reducible rfl
         rotate_left
         ·simp only [Act.put,sI,sZ,sS,i64_w,i32_w]
          rfl
         refine one_ (i:=1) (N:=some 13) #[T0,T0,F0,F0,F0,F0,F0,F0,F0,F0,F0,F0,F0,F0,F0,F0,F0,F0] rfl rfl (one_of HT_.out (by kernel_rfl)) (by decide) (fun K hK=>?_)
         refine goes_ Try.func62 (by kernel_rfl) rfl #[.agg #[.int .i64 ((rd_T44 l0 x7_1).f0),.int .i64 ((rd_T44 l0 x7_1).f1),.int .i64 ((rd_T44 l0 x7_1).f2)]] (by rfl) rfl rfl mtt ?_
         with_reducible refine (impl_isSump.calls ((rd_T44 l0 x7_1).f0) ((rd_T44 l0 x7_1).f1) ((rd_T44 l0 x7_1).f2) true _ A8.out).mono ?_
         rintro e w19 ⟨rfl,hb⟩
         refine ⟨_,rfl,?_⟩
         have n0_:=amk (blk_below (g:=gb502) (o:=.cells #[.int .i64 ((rd_T44 l0 x7_1).f0),.int .i64 ((rd_T44 l0 x7_1).f1),.int .i64 ((rd_T44 l0 x7_1).f2)] 44 (0,0)) (bkk BK502) hb)
         have n1_:=amk (below_step (bel1 HB GE502.out) hb)
         clear BK502
         clear HB
         have BK502:=n0_
         have HB:=n1_
         clear n0_ n1_
         (try clear hb)
         (try clear hb2)
         (try clear hk)
         (try clear hi)
         refine hK.out _ _ ⟨(blk_cell BK502.out 0).trans rfl,(blk_cell BK502.out 1).trans rfl,(blk_cell BK502.out 2).trans rfl⟩ (fun hHeld=>?_)
         clear hK K
         refine norm_ (a':=?_) ?_ ?_
         rotate_left
         ·show Act.put _ (some 13) _=_
          simp only [Act.put,sI,sZ,sS,i64_w,i32_w]
          rfl
         refine pure_ (i:=2) (N:=some 14) (v:=?_) (a':=?_) #[T0,T0,T0,F0,F0,F0,F0,F0,F0,F0,F0,F0,F0,F0,F0,F0,F0,F0] rfl rfl (any_of HT_.out (by kernel_rfl)) (fun _ _ _ h=>h) (Or.inl ⟨by rfl,?_⟩) ?_ ?_
         rotate_left
         ·intro w'
          go_simp
          with_reducible rfl
         rotate_left
         ·simp only [Act.put,sI,sZ,sS,i64_w,i32_w]
          rfl
         refine pure_ (i:=3) (N:=some 15) (v:=?_) (a':=?_) #[T0,T0,T0,T0,F0,F0,F0,F0,F0,F0,F0,F0,F0,F0,F0,F0,F0,F0] rfl rfl (any_of HT_.out (by kernel_rfl)) (fun _ _ _ h=>h) (Or.inl ⟨by rfl,?_⟩) ?_ ?_
         rotate_left
         ·intro w'
          go_simp
          with_reducible rfl
         rotate_left
         ·simp only [Act.put,sI,sZ,sS,i64_w,i32_w]
          rfl
         refine pure_ (i:=4) (N:=some 16) (v:=?_) (a':=?_) #[T0,T0,T0,T0,T0,F0,F0,F0,F0,F0,F0,F0,F0,F0,F0,F0,F0,F0] rfl rfl (any_of HT_.out (by kernel_rfl)) (fun _ _ _ h=>h) (Or.inl ⟨by rfl,?_⟩) ?_ ?_
         rotate_left
         ·intro w'
          go_simp
          with_reducible rfl
         rotate_left
         ·simp only [Act.put,sI,sZ,sS,i64_w,i32_w]
          rfl
         refine pure_ (i:=5) (N:=some 17) (v:=?_) (a':=?_) #[T0,T0,T0,T0,T0,T0,F0,F0,F0,F0,F0,F0,F0,F0,F0,F0,F0,F0] rfl rfl (any_of HT_.out (by kernel_rfl)) (fun _ _ _ h=>h) (Or.inl ⟨by rfl,?_⟩) ?_ ?_
         rotate_left
         ·intro w'
          go_simp
          with_reducible rfl
         rotate_left
         ·simp only [Act.put,sI,sZ,sS,i64_w,i32_w]
          rfl
         refine pure_ (i:=6) (N:=some 18) (v:=?_) (a':=?_) #[T0,T0,T0,T0,T0,T0,T0,F0,F0,F0,F0,F0,F0,F0,F0,F0,F0,F0] rfl rfl (any_of HT_.out (by kernel_rfl)) (fun _ _ _ h=>h) (Or.inl ⟨by rfl,?_⟩) ?_ ?_
         rotate_left
         ·intro w'
          go_simp
          with_reducible rfl
         rotate_left
         ·simp only [Act.put,sI,sZ,sS,i64_w,i32_w]
          rfl
         refine pure_ (i:=7) (N:=some 19) (v:=undef) (a':=?_) #[T0,T0,T0,T0,T0,T0,T0,T0,F0,F0,F0,F0,F0,F0,F0,F0,F0,F0] rfl rfl (any_of HT_.out (by kernel_rfl)) (fun _ _ _ h=>h) (Or.inr ⟨by rfl,rfl⟩) ?_ ?_
         rotate_left
         ·simp only [Act.put,sI,sZ,sS,i64_w,i32_w]
          rfl
         refine pure_ (i:=8) (N:=some 20) (v:=undef) (a':=?_) #[T0,T0,T0,T0,T0,T0,T0,T0,T0,F0,F0,F0,F0,F0,F0,F0,F0,F0] rfl rfl (any_of HT_.out (by kernel_rfl)) (fun _ _ _ h=>h) (Or.inr ⟨by rfl,rfl⟩) ?_ ?_
         rotate_left
         ·simp only [Act.put,sI,sZ,sS,i64_w,i32_w]
          rfl
         refine pure_ (i:=9) (N:=some 21) (v:=undef) (a':=?_) #[T0,T0,T0,T0,T0,T0,T0,T0,T0,T0,F0,F0,F0,F0,F0,F0,F0,F0] rfl rfl (any_of HT_.out (by kernel_rfl)) (fun _ _ _ h=>h) (Or.inr ⟨by rfl,rfl⟩) ?_ ?_
         rotate_left
         ·simp only [Act.put,sI,sZ,sS,i64_w,i32_w]
          rfl
         refine pure_ (i:=10) (N:=some 22) (v:=undef) (a':=?_) #[T0,T0,T0,T0,T0,T0,T0,T0,T0,T0,T0,F0,F0,F0,F0,F0,F0,F0] rfl rfl (any_of HT_.out (by kernel_rfl)) (fun _ _ _ h=>h) (Or.inr ⟨by rfl,rfl⟩) ?_ ?_
         rotate_left
         ·simp only [Act.put,sI,sZ,sS,i64_w,i32_w]
          rfl
         refine pure_ (i:=11) (N:=some 23) (v:=undef) (a':=?_) #[T0,T0,T0,T0,T0,T0,T0,T0,T0,T0,T0,T0,F0,F0,F0,F0,F0,F0] rfl rfl (any_of HT_.out (by kernel_rfl)) (fun _ _ _ h=>h) (Or.inr ⟨by rfl,rfl⟩) ?_ ?_
         rotate_left
         ·simp only [Act.put,sI,sZ,sS,i64_w,i32_w]
          rfl
         refine pure_ (i:=12) (N:=some 24) (v:=undef) (a':=?_) #[T0,T0,T0,T0,T0,T0,T0,T0,T0,T0,T0,T0,T0,F0,F0,F0,F0,F0] rfl rfl (any_of HT_.out (by kernel_rfl)) (fun _ _ _ h=>h) (Or.inr ⟨by rfl,rfl⟩) ?_ ?_
         rotate_left
         ·simp only [Act.put,sI,sZ,sS,i64_w,i32_w]
          rfl
         refine pure_ (i:=13) (N:=some 25) (v:=undef) (a':=?_) #[T0,T0,T0,T0,T0,T0,T0,T0,T0,T0,T0,T0,T0,T0,F0,F0,F0,F0] rfl rfl (any_of HT_.out (by kernel_rfl)) (fun _ _ _ h=>h) (Or.inr ⟨by rfl,rfl⟩) ?_ ?_
         rotate_left
         ·simp only [Act.put,sI,sZ,sS,i64_w,i32_w]
          rfl
         refine pure_ (i:=14) (N:=some 26) (v:=undef) (a':=?_) #[T0,T0,T0,T0,T0,T0,T0,T0,T0,T0,T0,T0,T0,T0,T0,F0,F0,F0] rfl rfl (any_of HT_.out (by kernel_rfl)) (fun _ _ _ h=>h) (Or.inr ⟨by rfl,rfl⟩) ?_ ?_
         rotate_left
         ·simp only [Act.put,sI,sZ,sS,i64_w,i32_w]
          rfl
         refine pure_ (i:=15) (N:=some 27) (v:=undef) (a':=?_) #[T0,T0,T0,T0,T0,T0,T0,T0,T0,T0,T0,T0,T0,T0,T0,T0,F0,F0] rfl rfl (any_of HT_.out (by kernel_rfl)) (fun _ _ _ h=>h) (Or.inr ⟨by rfl,rfl⟩) ?_ ?_
         rotate_left
         ·simp only [Act.put,sI,sZ,sS,i64_w,i32_w]
          rfl
         refine pure_ (i:=16) (N:=some 28) (v:=?_) (a':=?_) #[T0,T0,T0,T0,T0,T0,T0,T0,T0,T0,T0,T0,T0,T0,T0,T0,T0,F0] rfl rfl (any_of HT_.out (by kernel_rfl)) (fun _ _ _ h=>h) (Or.inl ⟨by rfl,?_⟩) ?_ ?_
         rotate_left
         ·intro w'
          go_simp
          with_reducible rfl
         rotate_left
         ·simp only [Act.put,sI,sZ,sS,i64_w,i32_w]
          rfl
         refine pure_ (i:=17) (N:=some 29) (v:=?_) (a':=?_) #[T0,T0,T0,T0,T0,T0,T0,T0,T0,T0,T0,T0,T0,T0,T0,T0,T0,T0] rfl rfl (any_of HT_.out (by kernel_rfl)) (fun _ _ _ h=>h) (Or.inl ⟨by rfl,?_⟩) ?_ ?_
         rotate_left
         ·intro w'
          go_simp
          with_reducible rfl
         rotate_left
         ·simp only [Act.put,sI,sZ,sS,i64_w,i32_w]
          rfl
         refine done_ (done_of HT_.out (by kernel_rfl)) ?_
         try go_wp2
         go_meet
         case rel=>exact ⟨_,(false),rsd,H',⟨by have:=HK1.out;first | omega | exact Nat.le_refl _⟩,⟨by (with_reducible repeat (first | refine blk_drewN ?_ _ | refine blk_drew ?_ | refine blk_alloc ?_ _));exact BK502.out⟩,⟨bel1 HB GE502.out⟩⟩
       ·replace c9:=Bool.eq_false_iff.mpr c9
        subst c9
        have H1 : (impl_AreSumps.j1 k1 l0 l0 (l0.length : Int) x7_1 true)=some r:=by rw [if_neg (show ¬ (false=true) by decide)] at H;exact H
        clear H
        have H:=H1
        clear H1
        have H':=amk H
        clear H
        try go_wp2
        have n0_ : Aside0 ((((w6.setCell ⟨gb502,0,none⟩ (.int .i64 ((rd_T44 l0 x7_1).f0))).setCell ⟨gb502,1,none⟩ (.int .i64 ((rd_T44 l0 x7_1).f1))).setCell ⟨gb502,2,none⟩ (.int .i64 ((rd_T44 l0 x7_1).f2))).heap[gb502]? = some (.cells #[.int .i64 ((rd_T44 l0 x7_1).f0),.int .i64 ((rd_T44 l0 x7_1).f1),.int .i64 ((rd_T44 l0 x7_1).f2)] 44 (0,0))):=⟨by (with_reducible repeat (first | refine blk_drewN ?_ _ | refine blk_drew ?_ | refine blk_alloc ?_ _));refine blk_put (cs:=#[.int .i64 ((rd_T44 l0 x7_1).f0),.int .i64 ((rd_T44 l0 x7_1).f1),.int .i64 0]) ?_ 2 _ rfl;(with_reducible repeat (first | refine blk_drewN ?_ _ | refine blk_drew ?_ | refine blk_alloc ?_ _));refine blk_put (cs:=#[.int .i64 ((rd_T44 l0 x7_1).f0),.int .i64 0,.int .i64 0]) ?_ 1 _ rfl;(with_reducible repeat (first | refine blk_drewN ?_ _ | refine blk_drew ?_ | refine blk_alloc ?_ _));refine blk_put (cs:=#[.int .i64 0,.int .i64 0,.int .i64 0]) ?_ 0 _ rfl;(with_reducible repeat (first | refine blk_drewN ?_ _ | refine blk_drew ?_ | refine blk_alloc ?_ _));exact BK502.out⟩
        have n1_ : Aside0 (Below w.heap.size w (((w6.setCell ⟨gb502,0,none⟩ (.int .i64 ((rd_T44 l0 x7_1).f0))).setCell ⟨gb502,1,none⟩ (.int .i64 ((rd_T44 l0 x7_1).f1))).setCell ⟨gb502,2,none⟩ (.int .i64 ((rd_T44 l0 x7_1).f2)))):=⟨bel1 HB GE502.out⟩
        (try clear BK502)
        (try clear HB)
        generalize (((w6.setCell ⟨gb502,0,none⟩ (.int .i64 ((rd_T44 l0 x7_1).f0))).setCell ⟨gb502,1,none⟩ (.int .i64 ((rd_T44 l0 x7_1).f1))).setCell ⟨gb502,2,none⟩ (.int .i64 ((rd_T44 l0 x7_1).f2)))=w20 at n0_ n1_ ⊢
        have BK502:=n0_
        have HB:=n1_
        clear n0_ n1_
        have n0_:=amk (blk_drew BK502.out)
        have n1_:=amk (below_drew1 HB.out)
        clear BK502
        clear HB
        have BK502:=n0_
        have HB:=n1_
        clear n0_ n1_
        refine start_ (n:=18) (S:=fun w'=>w'.cell? ⟨gb502,0,none⟩=some (.int .i64 ((rd_T44 l0 x7_1).f0))∧w'.cell? ⟨gb502,1,none⟩=some (.int .i64 ((rd_T44 l0 x7_1).f1))∧w'.cell? ⟨gb502,2,none⟩=some (.int .i64 ((rd_T44 l0 x7_1).f2))) (ds:=[]) #[F0,F0,F0,F0,F0,F0,F0,F0,F0,F0,F0,F0,F0,F0,F0,F0,F0,F0] (by kernel_rfl) rfl rfl ⟨(blk_cell BK502.out 0).trans rfl,(blk_cell BK502.out 1).trans rfl,(blk_cell BK502.out 2).trans rfl⟩ (fun hHeld=>?_);refine with_tabW impl_AreSumps.tab4 impl_AreSumps.bits4 (fun HT_ HW_=>?_)
        generalize w20.drew=w21 at BK502 HB hHeld ⊢
        refine take_ (i:=0) (N:=some 12) (v:=?_) (a':=?_) #[T0,F0,F0,F0,F0,F0,F0,F0,F0,F0,F0,F0,F0,F0,F0,F0,F0,F0] rfl rfl (take_ofW HT_.out HW_.out (by kernel_rfl)) (fun _ _ _ h=>h) (Or.inl ⟨by rfl,?_⟩) hHeld ?_ ?_
        rotate_left
        ·rintro w' ⟨s0,s1,s2⟩
         go_simp
         with_reducible rfl
        rotate_left
        ·simp only [Act.put,sI,sZ,sS,i64_w,i32_w]
         rfl
        refine one_ (i:=1) (N:=some 13) #[T0,T0,F0,F0,F0,F0,F0,F0,F0,F0,F0,F0,F0,F0,F0,F0,F0,F0] rfl rfl (one_of HT_.out (by kernel_rfl)) (by decide) (fun K hK=>?_)
        refine goes_ Try.func62 (by kernel_rfl) rfl #[.agg #[.int .i64 ((rd_T44 l0 x7_1).f0),.int .i64 ((rd_T44 l0 x7_1).f1),.int .i64 ((rd_T44 l0 x7_1).f2)]] (by rfl) rfl rfl mtt ?_
        with_reducible refine (impl_isSump.calls ((rd_T44 l0 x7_1).f0) ((rd_T44 l0 x7_1).f1) ((rd_T44 l0 x7_1).f2) false _ A8.out).mono ?_
        rintro e w22 ⟨rfl,hb⟩
        refine ⟨_,rfl,?_⟩
        have n0_:=amk (blk_below (g:=gb502) (o:=.cells #[.int .i64 ((rd_T44 l0 x7_1).f0),.int .i64 ((rd_T44 l0 x7_1).f1),.int .i64 ((rd_T44 l0 x7_1).f2)] 44 (0,0)) (bkk BK502) hb)
        have n1_:=amk (below_step (bel1 HB GE502.out) hb)
        clear BK502
        clear HB
        have BK502:=n0_
        have HB:=n1_
        clear n0_ n1_
        (try clear hb)
        (try clear hb2)
        (try clear hk)
        (try clear hi)
        refine hK.out _ _ ⟨(blk_cell BK502.out 0).trans rfl,(blk_cell BK502.out 1).trans rfl,(blk_cell BK502.out 2).trans rfl⟩ (fun hHeld=>?_)
        clear hK K
        refine norm_ (a':=?_) ?_ ?_
        rotate_left
        ·show Act.put _ (some 13) _=_
         simp only [Act.put,sI,sZ,sS,i64_w,i32_w]
         rfl
        refine pure_ (i:=2) (N:=some 14) (v:=?_) (a':=?_) #[T0,T0,T0,F0,F0,F0,F0,F0,F0,F0,F0,F0,F0,F0,F0,F0,F0,F0] rfl rfl (any_of HT_.out (by kernel_rfl)) (fun _ _ _ h=>h) (Or.inl ⟨by rfl,?_⟩) ?_ ?_
        rotate_left
        ·intro w'
         go_simp
         with_reducible rfl
        rotate_left
        ·simp only [Act.put,sI,sZ,sS,i64_w,i32_w]
         rfl
        refine pure_ (i:=3) (N:=some 15) (v:=?_) (a':=?_) #[T0,T0,T0,T0,F0,F0,F0,F0,F0,F0,F0,F0,F0,F0,F0,F0,F0,F0] rfl rfl (any_of HT_.out (by kernel_rfl)) (fun _ _ _ h=>h) (Or.inl ⟨by rfl,?_⟩) ?_ ?_
        rotate_left
        ·intro w'
         go_simp
         with_reducible rfl
        rotate_left
        ·simp only [Act.put,sI,sZ,sS,i64_w,i32_w]
         rfl
        refine pure_ (i:=4) (N:=some 16) (v:=undef) (a':=?_) #[T0,T0,T0,T0,T0,F0,F0,F0,F0,F0,F0,F0,F0,F0,F0,F0,F0,F0] rfl rfl (any_of HT_.out (by kernel_rfl)) (fun _ _ _ h=>h) (Or.inr ⟨by rfl,rfl⟩) ?_ ?_
        rotate_left
        ·simp only [Act.put,sI,sZ,sS,i64_w,i32_w]
         rfl
        refine pure_ (i:=5) (N:=some 17) (v:=undef) (a':=?_) #[T0,T0,T0,T0,T0,T0,F0,F0,F0,F0,F0,F0,F0,F0,F0,F0,F0,F0] rfl rfl (any_of HT_.out (by kernel_rfl)) (fun _ _ _ h=>h) (Or.inr ⟨by rfl,rfl⟩) ?_ ?_
        rotate_left
        ·simp only [Act.put,sI,sZ,sS,i64_w,i32_w]
         rfl
        refine pure_ (i:=6) (N:=some 18) (v:=undef) (a':=?_) #[T0,T0,T0,T0,T0,T0,T0,F0,F0,F0,F0,F0,F0,F0,F0,F0,F0,F0] rfl rfl (any_of HT_.out (by kernel_rfl)) (fun _ _ _ h=>h) (Or.inr ⟨by rfl,rfl⟩) ?_ ?_
        rotate_left
        ·simp only [Act.put,sI,sZ,sS,i64_w,i32_w]
         rfl
        refine pure_ (i:=7) (N:=some 19) (v:=undef) (a':=?_) #[T0,T0,T0,T0,T0,T0,T0,T0,F0,F0,F0,F0,F0,F0,F0,F0,F0,F0] rfl rfl (any_of HT_.out (by kernel_rfl)) (fun _ _ _ h=>h) (Or.inr ⟨by rfl,rfl⟩) ?_ ?_
        rotate_left
        ·simp only [Act.put,sI,sZ,sS,i64_w,i32_w]
         rfl
        refine pure_ (i:=8) (N:=some 20) (v:=undef) (a':=?_) #[T0,T0,T0,T0,T0,T0,T0,T0,T0,F0,F0,F0,F0,F0,F0,F0,F0,F0] rfl rfl (any_of HT_.out (by kernel_rfl)) (fun _ _ _ h=>h) (Or.inr ⟨by rfl,rfl⟩) ?_ ?_
        rotate_left
        ·simp only [Act.put,sI,sZ,sS,i64_w,i32_w]
         rfl
        refine pure_ (i:=9) (N:=some 21) (v:=undef) (a':=?_) #[T0,T0,T0,T0,T0,T0,T0,T0,T0,T0,F0,F0,F0,F0,F0,F0,F0,F0] rfl rfl (any_of HT_.out (by kernel_rfl)) (fun _ _ _ h=>h) (Or.inr ⟨by rfl,rfl⟩) ?_ ?_
        rotate_left
        ·simp only [Act.put,sI,sZ,sS,i64_w,i32_w]
         rfl
        refine pure_ (i:=10) (N:=some 22) (v:=undef) (a':=?_) #[T0,T0,T0,T0,T0,T0,T0,T0,T0,T0,T0,F0,F0,F0,F0,F0,F0,F0] rfl rfl (any_of HT_.out (by kernel_rfl)) (fun _ _ _ h=>h) (Or.inr ⟨by rfl,rfl⟩) ?_ ?_
        rotate_left
        ·simp only [Act.put,sI,sZ,sS,i64_w,i32_w]
         rfl
        refine pure_ (i:=11) (N:=some 23) (v:=undef) (a':=?_) #[T0,T0,T0,T0,T0,T0,T0,T0,T0,T0,T0,T0,F0,F0,F0,F0,F0,F0] rfl rfl (any_of HT_.out (by kernel_rfl)) (fun _ _ _ h=>h) (Or.inr ⟨by rfl,rfl⟩) ?_ ?_
        rotate_left
        ·simp only [Act.put,sI,sZ,sS,i64_w,i32_w]
         rfl
        refine pure_ (i:=12) (N:=some 24) (v:=undef) (a':=?_) #[T0,T0,T0,T0,T0,T0,T0,T0,T0,T0,T0,T0,T0,F0,F0,F0,F0,F0] rfl rfl (any_of HT_.out (by kernel_rfl)) (fun _ _ _ h=>h) (Or.inr ⟨by rfl,rfl⟩) ?_ ?_
        rotate_left
        ·simp only [Act.put,sI,sZ,sS,i64_w,i32_w]
         rfl
        refine pure_ (i:=13) (N:=some 25) (v:=undef) (a':=?_) #[T0,T0,T0,T0,T0,T0,T0,T0,T0,T0,T0,T0,T0,T0,F0,F0,F0,F0] rfl rfl (any_of HT_.out (by kernel_rfl)) (fun _ _ _ h=>h) (Or.inr ⟨by rfl,rfl⟩) ?_ ?_
        rotate_left
        ·simp only [Act.put,sI,sZ,sS,i64_w,i32_w]
         rfl
        refine pure_ (i:=14) (N:=some 26) (v:=undef) (a':=?_) #[T0,T0,T0,T0,T0,T0,T0,T0,T0,T0,T0,T0,T0,T0,T0,F0,F0,F0] rfl rfl (any_of HT_.out (by kernel_rfl)) (fun _ _ _ h=>h) (Or.inr ⟨by rfl,rfl⟩) ?_ ?_
        rotate_left
        ·simp only [Act.put,sI,sZ,sS,i64_w,i32_w]
         rfl
        refine pure_ (i:=15) (N:=some 27) (v:=undef) (a':=?_) #[T0,T0,T0,T0,T0,T0,T0,T0,T0,T0,T0,T0,T0,T0,T0,T0,F0,F0] rfl rfl (any_of HT_.out (by kernel_rfl)) (fun _ _ _ h=>h) (Or.inr ⟨by rfl,rfl⟩) ?_ ?_
        rotate_left
        ·simp only [Act.put,sI,sZ,sS,i64_w,i32_w]
         rfl
        refine pure_ (i:=16) (N:=some 28) (v:=undef) (a':=?_) #[T0,T0,T0,T0,T0,T0,T0,T0,T0,T0,T0,T0,T0,T0,T0,T0,T0,F0] rfl rfl (any_of HT_.out (by kernel_rfl)) (fun _ _ _ h=>h) (Or.inr ⟨by rfl,rfl⟩) ?_ ?_
        rotate_left
        ·simp only [Act.put,sI,sZ,sS,i64_w,i32_w]
         rfl
        refine pure_ (i:=17) (N:=some 29) (v:=?_) (a':=?_) #[T0,T0,T0,T0,T0,T0,T0,T0,T0,T0,T0,T0,T0,T0,T0,T0,T0,T0] rfl rfl (any_of HT_.out (by kernel_rfl)) (fun _ _ _ h=>h) (Or.inl ⟨by rfl,?_⟩) ?_ ?_
        rotate_left
        ·intro w'
         go_simp
         with_reducible rfl
        rotate_left
        ·simp only [Act.put,sI,sZ,sS,i64_w,i32_w]
         rfl
        refine done_ (done_of HT_.out (by kernel_rfl)) ?_
        try go_wp2
        go_meet
        case rel=>exact ⟨_,(true),rsd,H',⟨by have:=HK1.out;first | omega | exact Nat.le_refl _⟩,⟨by (with_reducible repeat (first | refine blk_drewN ?_ _ | refine blk_drew ?_ | refine blk_alloc ?_ _));exact BK502.out⟩,⟨bel1 HB GE502.out⟩⟩
      case rest=>
       clear HC5
       try clear c1
       try clear c2
       try clear c2b0
       try clear p2
       try clear c3
       try clear c3b0
       try clear c4
       try clear c4b0
       try clear p5
       try clear q5
       try clear hx5
       try clear c6
       try clear p6
       try clear c9
       try clear c10
       try clear c10b0
       try clear c12
       try clear c12b0
       try clear c13
       try clear c13b0
       try clear hcz7_0
       try clear hcz7_1
       try clear hcz7_2
       try clear hfz7_0
       try clear hfz7_1
       try clear hfz7_2
       try clear hx501_0
       try clear hx501_1
       try clear hx501_2
       try clear hx504_0
       try clear hx504_1
       try clear hx504_2
       try clear p501
       try clear p504
       try clear q501
       try clear q504
       obtain ⟨kq,x29_4,rfl,HA,HJ4,BK502,HB⟩:=hcut
       cases kq with
       | zero=>exact absurd HA.out (by simp [impl_AreSumps.j1])
       | succ kj4=>
        have H:=HA.out
        clear HA
        simp only [impl_AreSumps.j1] at H
        by_cases c23 : x29_4=true
        ·subst c23
         have H1 : (some false)=some r:=by rw [if_pos rfl] at H;exact H
         clear H
         have H:=H1
         clear H1
         obtain rfl:=Option.some.inj H
         go_wp2
         go_ret
         exact ⟨erw0,bel1 HB GE502.out⟩
        ·replace c23:=Bool.eq_false_iff.mpr c23
         subst c23
         have H1 : (impl_AreSumps.l0 kj4 l0 l0 (l0.length : Int) (wrap64 (x7_1 + 1)))=some r:=by rw [if_neg (show ¬ (false=true) by decide)] at H;exact H
         clear H
         have H:=H1
         clear H1
         have H':=amk H
         clear H
         go_wp2
         go_roundg kj4
         case measure=>have:=HK1.out;have:=HJ4.out;omega
         case rel=>exact ⟨(wrap64 (x7_1 + 1)),rsd,H',⟨by have:=HK1.out;have:=HJ4.out;omega⟩,⟨bel1 HB GE502.out⟩⟩
     ·rw [if_neg c4] at H
      exact absurd H (by simp)
    ·rw [if_neg c3] at H
     exact absurd H (by simp)
   ·rw [if_neg c2] at H
    have c2b0 : decide (x7_1 < (l0.length : Int))=false:=decide_eq_false c2
    clear c2
    obtain rfl:=Option.some.inj H
    go_wp2
    go_ret
    exact ⟨erw0,bel HB⟩
def impl_OpenFor_1_1.f (k : Nat) (a0_0 : Int) (a0_1 : Int) (a0_2 : Int) (l1_0 : List (S30)) (a2_0 : Int) : Option (Bool):=(impl_Sump_open.f k a0_0 a0_1 a0_2 l1_0 a2_0).bind fun t509=>(some (!t509))
theorem impl_OpenFor_1_1.mono : ∀ a0 a1 a2 a3 a4 k,LeO (impl_OpenFor_1_1.f k a0 a1 a2 a3 a4) (impl_OpenFor_1_1.f (k + 1) a0 a1 a2 a3 a4):=by
 intro a0 a1 a2 a3 a4 k
 unfold impl_OpenFor_1_1.f
 repeat' first
   | (with_reducible exact impl_Sump_open.mono _ _ _ _ _ _)
   | (with_reducible exact LeO.refl _)
   | (with_reducible exact LeO.none _)
   | (with_reducible refine LeO.ite ?_ ?_)
   | (with_reducible refine LeO.bind ?_ (fun _=>?_))
set_option maxHeartbeats 8000000 in
set_option maxRecDepth 100000 in
theorem impl_OpenFor_1_1.calls (k : Nat) (a0_0 : Int) (a0_1 : Int) (a0_2 : Int) (gc1_ : Nat) (A1_0 : Option Addr) (c1_0 : Nat) (l1_0 : List (S30)) (gc2_ : Nat) (a2_0 : Int) (r : Bool) (w : World) (hr1_0 : Kd.C k30 w A1_0 l1_0.length l1_0) (hc1_0 : l1_0.length≤c1_0) (hk1 : w.heap[gc1_]? = some (.cells #[.slice A1_0 l1_0.length c1_0] 24 (0,0))) (hk2 : w.heap[gc2_]? = some (.cells #[.int .i64 a2_0] 3 (0,0))) (h : impl_OpenFor_1_1.f k a0_0 a0_1 a0_2 l1_0 a2_0=some r) :
  Calls Try.prog 76 #[.agg #[.int .i64 a0_0,.int .i64 a0_1,.int .i64 a0_2],.pointer (some ⟨gc1_,0,none⟩),.pointer (some ⟨gc2_,0,none⟩)] w fun e w'=>e = .returned (.bool r)∧Below w.heap.size w w':=by
 have hu44:=Try.underlying44
 have HR1_0:=amk hr1_0
 have HC1_0:=amk hc1_0
 clear hr1_0 hc1_0
 have BK1:=amk hk1
 clear hk1
 have BK2:=amk hk2
 clear hk2
 have HB:=amk (Below.refl w.heap.size w)
 have H : ((impl_Sump_open.f k a0_0 a0_1 a0_2 l1_0 a2_0).bind fun t509=>(some (!t509)))=some r:=h
 clear h
 replace H:=obs H
 obtain ⟨t509,A40,H⟩:=H
 replace H : (some (!t509))=some r:=H
 have A4:=amk A40
 clear A40
 obtain rfl:=Option.some.inj H
 go_enter Try.func76,Try.ntmps76
 go_wp2_with (first | ((with_reducible refine gate_dst (N:=3) rfl ?_);refine box_event ?hg (N:=3) ?hd (cs:=#[.int .i64 a0_0,.int .i64 a0_1,.int .i64 a0_2]) (t:=44) ?hr ?_;(case hd=>rfl);(case hg=>rfl);(case hr=>first | (go_simp;done)|(go_simp;rfl));intro gb508 hg w5 hbox hb;have BK508:=amk (hbox);have GW508:=amk ((by rw [hg];exact (below_size (bel HB)) : w.heap.size≤gb508));have GE508:=amk ((by rw [hg];exact (below_size (bel HB)) : w.heap.size≤gb508));replace HB:=amk (below_step (bel HB) hb);have NB1_508:=amk ((by rw [hg];exact Nat.ne_of_lt (blk_lt (g:=gc1_) (o:=.cells #[.slice A1_0 l1_0.length c1_0] 24 (0,0)) (bkk BK1)) : gc1_ ≠ gb508));have NB508_1:=amk ((by rw [hg];exact Nat.ne_of_gt (blk_lt (g:=gc1_) (o:=.cells #[.slice A1_0 l1_0.length c1_0] 24 (0,0)) (bkk BK1)) : gb508 ≠ gc1_));replace BK1:=amk (blk_below (g:=gc1_) (o:=.cells #[.slice A1_0 l1_0.length c1_0] 24 (0,0)) (bkk BK1) hb);have NB2_508:=amk ((by rw [hg];exact Nat.ne_of_lt (blk_lt (g:=gc2_) (o:=.cells #[.int .i64 a2_0] 3 (0,0)) (bkk BK2)) : gc2_ ≠ gb508));have NB508_2:=amk ((by rw [hg];exact Nat.ne_of_gt (blk_lt (g:=gc2_) (o:=.cells #[.int .i64 a2_0] 3 (0,0)) (bkk BK2)) : gb508 ≠ gc2_));replace BK2:=amk (blk_below (g:=gc2_) (o:=.cells #[.int .i64 a2_0] 3 (0,0)) (bkk BK2) hb);clear hb hbox hg;have hnb6:=NB508_1.out;have hnc6:=NB1_508.out;have hnb7:=NB508_2.out;have hnc7:=NB2_508.out;have hcz8_0 : w5.cell? ⟨gb508,0,none⟩=some (.int .i64 a0_0):=(blk_cell BK508.out 0).trans rfl;have hcz8_1 : w5.cell? ⟨gb508,1,none⟩=some (.int .i64 a0_1):=(blk_cell BK508.out 1).trans rfl;have hcz8_2 : w5.cell? ⟨gb508,2,none⟩=some (.int .i64 a0_2):=(blk_cell BK508.out 2).trans rfl;have hfz8_0:=blk_frozen BK508.out 0;have hfz8_1:=blk_frozen BK508.out 1;have hfz8_2:=blk_frozen BK508.out 2;have hcz9_0 : w5.cell? ⟨gc1_,0,none⟩=some (.slice A1_0 l1_0.length c1_0):=(blk_cell BK1.out 0).trans rfl;have hfz9_0:=blk_frozen BK1.out 0;have hcz10_0 : w5.cell? ⟨gc2_,0,none⟩=some (.int .i64 a2_0):=(blk_cell BK2.out 0).trans rfl;have hfz10_0:=blk_frozen BK2.out 0)|((with_reducible refine gate_callee (f:=66) rfl ?_);refine goesL_ (some 8) rfl rfl Try.func66 (by kernel_rfl) rfl #[.agg #[.int .i64 a0_0,.int .i64 a0_1,.int .i64 a0_2],.slice A1_0 l1_0.length c1_0,.int .i64 a2_0] rfl mtt ?_;(with_reducible refine (impl_Sump_open.calls k a0_0 a0_1 a0_2 _ _ l1_0 a2_0 t509 _ ?side1 ?side2 A4.out).mono ?_);(case side1=>exact ccc (Kd.C_below HR1_0.out HB.out));(case side2=>exact HC1_0.out);rintro e w11 ⟨rfl,hb⟩;refine ⟨_,rfl,?_⟩;replace BK1:=amk (blk_below (g:=gc1_) (o:=.cells #[.slice A1_0 l1_0.length c1_0] 24 (0,0)) (bkk BK1) hb);replace BK2:=amk (blk_below (g:=gc2_) (o:=.cells #[.int .i64 a2_0] 3 (0,0)) (bkk BK2) hb);replace BK508:=amk (blk_below (g:=gb508) (o:=.cells #[.int .i64 a0_0,.int .i64 a0_1,.int .i64 a0_2] 44 (0,0)) (bkk BK508) hb);replace HB:=amk (below_step (bel1 HB GE508.out) hb);(try clear hb)))
 go_ret
 exact ⟨erw0,bel1 HB GE508.out⟩
def impl_Sump_91.l0 : Nat→List (S44)→(S44→Option Bool)→Int→Int→Option (Int)
 | 0,_,_,_,_=>none
 | k + 1,x0,x1,x7,x8=>if x8 < x7 then (if 0≤x8 then (if x8 < (x0.length : Int) then ((x1 (⟨(rd_T44 x0 x8).f0,(rd_T44 x0 x8).f1,(rd_T44 x0 x8).f2⟩ : S44)).bind fun t506=>(if t506=true then (some x8) else (impl_Sump_91.l0 k x0 x1 x7 (wrap64 (x8 + 1))))) else (none)) else (none)) else (some (-1))
def impl_Sump_91.f (k : Nat) (l0 : List (S44)) (a1 : (S44→Option Bool)) : Option (Int):=impl_Sump_91.l0 k l0 a1 (l0.length : Int) 0
theorem impl_Sump_91.mono_l (p_ q_ : S44→Option Bool) (hpq_ : ∀ x_,LeO (p_ x_) (q_ x_)) : ∀ k,(∀ y0 y2 y3,LeO (impl_Sump_91.l0 k y0 p_ y2 y3) (impl_Sump_91.l0 (k + 1) y0 q_ y2 y3))
 | 0=>fun _ _ _ r h=>by simp [impl_Sump_91.l0] at h
 | k + 1=>by
  have ih0:=impl_Sump_91.mono_l p_ q_ hpq_ k
  ·intro y0 y2 y3
   unfold impl_Sump_91.l0
   repeat' first
   | (with_reducible exact ih0 _ _ _)
   | (with_reducible exact hpq_ _)
   | (with_reducible exact LeO.refl _)
   | (with_reducible exact LeO.none _)
   | (with_reducible refine LeO.ite ?_ ?_)
   | (with_reducible refine LeO.bind ?_ (fun _=>?_))
   | exact ih0 _ _ _
   | exact hpq_ _
theorem impl_Sump_91.mono : ∀ a0 (p_ q_ : S44→Option Bool) (k : Nat),(∀ x_,LeO (p_ x_) (q_ x_))→LeO (impl_Sump_91.f k a0 p_) (impl_Sump_91.f (k + 1) a0 q_):=by
 intro a0 p_ q_ k hpq_
 have ih0:=impl_Sump_91.mono_l p_ q_ hpq_ k
 unfold impl_Sump_91.f
 repeat' first
   | (with_reducible exact ih0 _ _ _)
   | (with_reducible exact hpq_ _)
   | (with_reducible exact LeO.refl _)
   | (with_reducible exact LeO.none _)
   | (with_reducible refine LeO.ite ?_ ?_)
   | (with_reducible refine LeO.bind ?_ (fun _=>?_))
   | exact ih0 _ _ _
   | exact hpq_ _
set_option maxHeartbeats 8000000 in
set_option maxRecDepth 100000 in
theorem impl_Sump_91.calls (k : Nat) (A0 : Option Addr) (c0 : Nat) (l0 : List (S44)) (gf1_ : Nat) (lb1_ : Array Value) (a1 : (S44→Option Bool)) (r : Int) (w : World) (hr0 : Kd.C k44 w A0 l0.length l0) (hc0 : l0.length≤c0) (eg1 : ∀ args_ w_,(callFunc gf1_ args_).run Try.prog w_ = .ok (.enter gf1_ args_) w_) (hp1 : ∀ (W_ : World) (x_ : S44) (b_ : Bool),a1 x_=some b_→Below w.heap.size w W_→Calls Try.prog gf1_ (#[.agg #[.int .i64 x_.f0,.int .i64 x_.f1,.int .i64 x_.f2]] ++ lb1_) W_ fun e w'=>e = .returned (.bool b_)∧Below W_.heap.size W_ w') (h : impl_Sump_91.f k l0 a1=some r) :
  Calls Try.prog 91 #[.slice A0 l0.length c0,.func (.func gf1_) #[] lb1_] w fun e w'=>e = .returned (.int .i64 r)∧Below w.heap.size w w':=by
 have hu44:=Try.underlying44
 have HR0:=amk hr0
 have HC0:=amk hc0
 clear hr0 hc0
 have HP1:=amk hp1
 clear hp1
 have HB:=amk (Below.refl w.heap.size w)
 have H : (impl_Sump_91.l0 k l0 a1 (l0.length : Int) 0)=some r:=h
 clear h
 have H':=amk H
 clear H
 go_enter Try.func91,Try.ntmps91
 go_wp2
 go_loopg [8] k (fun kq v8 w'=>∃ (x8_1 : Int),v8 = .int .i64 x8_1∧Aside0 (impl_Sump_91.l0 kq l0 a1 (l0.length : Int) x8_1=some r)∧Aside0 (kq≤k)∧Aside0 (Below w.heap.size w w'))
 case atStart=>exact ⟨(0),rsd,H',⟨Nat.le_refl _⟩,⟨bel HB⟩⟩
 case round=>
  clear H'
  try clear p1
  try clear p2
  obtain ⟨x8_1,rfl,HA,HK1,HB⟩:=hrel
  cases gk with
  | zero=>exact absurd HA.out (by simp [impl_Sump_91.l0])
  | succ k1=>
   have H:=HA.out
   clear HA
   simp only [impl_Sump_91.l0] at H
   by_cases c3 : x8_1 < (l0.length : Int)
   ·rw [if_pos c3] at H
    have c3b0 : decide (x8_1 < (l0.length : Int))=true:=decide_eq_true c3
    clear c3
    by_cases c4 : 0≤x8_1
    ·rw [if_pos c4] at H
     have c4b0 : decide (0≤x8_1)=true:=decide_eq_true c4
     clear c4
     by_cases c5 : x8_1 < (l0.length : Int)
     ·rw [if_pos c5] at H
      have c5b0 : decide (x8_1 < (l0.length : Int))=true:=decide_eq_true c5
      clear c5
      replace H:=obs H
      obtain ⟨t506,A60,H⟩:=H
      replace H : (if t506=true then (some x8_1) else (impl_Sump_91.l0 k1 l0 a1 (l0.length : Int) (wrap64 (x8_1 + 1))))=some r:=H
      have A6:=amk A60
      clear A60
      by_cases c7 : t506=true
      ·subst c7
       have H1 : (some x8_1)=some r:=by rw [if_pos rfl] at H;exact H
       clear H
       have H:=H1
       clear H1
       obtain rfl:=Option.some.inj H
       have p505 : 0≤(x8_1 : Int):=of_decide_eq_true ass
       have q505 : x8_1 < (l0.length : Int):=of_decide_eq_true ass
       obtain ⟨ad505,e505,hx505_0,hx505_1,hx505_2⟩:=at_T44 HR0.out x8_1 p505 q505
       cases e505
       replace hx505_0:=(HB.out.cell (World.block_lt_of_cell? w _ hx505_0)).trans hx505_0
       replace hx505_1:=(HB.out.cell (World.block_lt_of_cell? w _ hx505_1)).trans hx505_1
       replace hx505_2:=(HB.out.cell (World.block_lt_of_cell? w _ hx505_2)).trans hx505_2
       replace p505:=eq_true p505
       replace q505:=eq_true q505
       go_wp2_with (first | ((with_reducible refine (HP1.out _ _ true A6.out ?sidefp).mono ?_);(case sidefp=>exact bel HB);rintro e w8 ⟨rfl,hb⟩;replace HB:=amk (below_step (bel HB) hb);(try clear hb)))
       go_ret
       exact ⟨erw0,bel HB⟩
      ·replace c7:=Bool.eq_false_iff.mpr c7
       subst c7
       have H1 : (impl_Sump_91.l0 k1 l0 a1 (l0.length : Int) (wrap64 (x8_1 + 1)))=some r:=by rw [if_neg (show ¬ (false=true) by decide)] at H;exact H
       clear H
       have H:=H1
       clear H1
       have H':=amk H
       clear H
       have p505 : 0≤(x8_1 : Int):=of_decide_eq_true ass
       have q505 : x8_1 < (l0.length : Int):=of_decide_eq_true ass
       obtain ⟨ad505,e505,hx505_0,hx505_1,hx505_2⟩:=at_T44 HR0.out x8_1 p505 q505
       cases e505
       replace hx505_0:=(HB.out.cell (World.block_lt_of_cell? w _ hx505_0)).trans hx505_0
       replace hx505_1:=(HB.out.cell (World.block_lt_of_cell? w _ hx505_1)).trans hx505_1
       replace hx505_2:=(HB.out.cell (World.block_lt_of_cell? w _ hx505_2)).trans hx505_2
       replace p505:=eq_true p505
       replace q505:=eq_true q505
       go_wp2_with (first | ((with_reducible refine (HP1.out _ _ false A6.out ?sidefp).mono ?_);(case sidefp=>exact bel HB);rintro e w9 ⟨rfl,hb⟩;replace HB:=amk (below_step (bel HB) hb);(try clear hb)))
       go_roundg k1
       case measure=>have:=HK1.out;omega
       case rel=>exact ⟨(wrap64 (x8_1 + 1)),rsd,H',⟨by have:=HK1.out;omega⟩,⟨bel HB⟩⟩
     ·rw [if_neg c5] at H
      exact absurd H (by simp)
    ·rw [if_neg c4] at H
     exact absurd H (by simp)
   ·rw [if_neg c3] at H
    have c3b0 : decide (x8_1 < (l0.length : Int))=false:=decide_eq_false c3
    clear c3
    obtain rfl:=Option.some.inj H
    go_wp2
    go_ret
    exact ⟨erw0,bel HB⟩
def impl_Sump_75.f (k : Nat) (l0 : List (S44)) (a1 : (S44→Option Bool)) : Option (Bool):=(impl_Sump_91.f k l0 a1).bind fun t507=>(some (decide (t507 ≥ 0)))
theorem impl_Sump_75.mono : ∀ a0 (p_ q_ : S44→Option Bool) (k : Nat),(∀ x_,LeO (p_ x_) (q_ x_))→LeO (impl_Sump_75.f k a0 p_) (impl_Sump_75.f (k + 1) a0 q_):=by
 intro a0 p_ q_ k hpq_
 unfold impl_Sump_75.f
 repeat' first
   | (with_reducible exact hpq_ _)
   | (with_reducible exact impl_Sump_91.mono _ _ _ _ (fun x_=>hpq_ x_))
   | (with_reducible exact LeO.refl _)
   | (with_reducible exact LeO.none _)
   | (with_reducible refine LeO.ite ?_ ?_)
   | (with_reducible refine LeO.bind ?_ (fun _=>?_))
   | exact hpq_ _
   | exact impl_Sump_91.mono _ _ _ _ (fun x_=>hpq_ x_)
set_option maxHeartbeats 8000000 in
set_option maxRecDepth 100000 in
theorem impl_Sump_75.calls (k : Nat) (A0 : Option Addr) (c0 : Nat) (l0 : List (S44)) (gf1_ : Nat) (lb1_ : Array Value) (a1 : (S44→Option Bool)) (r : Bool) (w : World) (hr0 : Kd.C k44 w A0 l0.length l0) (hc0 : l0.length≤c0) (eg1 : ∀ args_ w_,(callFunc gf1_ args_).run Try.prog w_ = .ok (.enter gf1_ args_) w_) (hp1 : ∀ (W_ : World) (x_ : S44) (b_ : Bool),a1 x_=some b_→Below w.heap.size w W_→Calls Try.prog gf1_ (#[.agg #[.int .i64 x_.f0,.int .i64 x_.f1,.int .i64 x_.f2]] ++ lb1_) W_ fun e w'=>e = .returned (.bool b_)∧Below W_.heap.size W_ w') (h : impl_Sump_75.f k l0 a1=some r) :
  Calls Try.prog 75 #[.slice A0 l0.length c0,.func (.func gf1_) #[] lb1_] w fun e w'=>e = .returned (.bool r)∧Below w.heap.size w w':=by
 have HR0:=amk hr0
 have HC0:=amk hc0
 clear hr0 hc0
 have HP1:=amk hp1
 clear hp1
 have HB:=amk (Below.refl w.heap.size w)
 have H : ((impl_Sump_91.f k l0 a1).bind fun t507=>(some (decide (t507 ≥ 0))))=some r:=h
 clear h
 replace H:=obs H
 obtain ⟨t507,A30,H⟩:=H
 replace H : (some (decide (t507 ≥ 0)))=some r:=H
 have A3:=amk A30
 clear A30
 obtain rfl:=Option.some.inj H
 go_enter Try.func75,Try.ntmps75
 go_wp2_with (first | ((with_reducible refine gate_callee (f:=91) rfl ?_);refine goesL_ (some 7) rfl rfl Try.func91 (by kernel_rfl) rfl #[.slice A0 l0.length c0,.func (.func gf1_) #[] lb1_] rfl mtt ?_;(with_reducible refine (impl_Sump_91.calls k _ _ l0 gf1_ lb1_ a1 t507 _ ?side1 ?side2 ?side3 ?side4 A3.out).mono ?_);(case side1=>exact ccc HR0.out);(case side2=>exact HC0.out);(case side3=>exact eg1);(case side4=>exact fun W_ x_ b_ hx_ hW_=>HP1.out W_ x_ b_ hx_ (below_step (bel HB) hW_));rintro e w4 ⟨rfl,hb⟩;refine ⟨_,rfl,?_⟩;replace HB:=amk (below_step (bel HB) hb);(try clear hb)))
 go_ret
 exact ⟨erw0,bel HB⟩
def impl_OpenFor_1.f (k : Nat) (a0 : Int) (l1_0 : List (S44)) (l2_0 : List (S30)) : Option (Bool):=(impl_Sump_75.f k l1_0 (fun x_ : S44=>impl_OpenFor_1_1.f k x_.f0 x_.f1 x_.f2 l2_0 a0)).bind fun t511=>(some (!t511))
theorem impl_OpenFor_1.mono : ∀ a0 a1 a2 k,LeO (impl_OpenFor_1.f k a0 a1 a2) (impl_OpenFor_1.f (k + 1) a0 a1 a2):=by
 intro a0 a1 a2 k
 unfold impl_OpenFor_1.f
 repeat' first
   | (with_reducible exact impl_OpenFor_1_1.mono _ _ _ _ _ _)
   | (with_reducible exact impl_Sump_75.mono _ _ _ _ (fun _=>by first | exact LeO.refl _ | exact impl_OpenSpans_1.mono _ _ _ _ _ _ | exact impl_OpenFor_1_1.mono _ _ _ _ _ _ | exact impl_OpenFor_1.mono _ _ _ _))
   | (with_reducible exact LeO.refl _)
   | (with_reducible exact LeO.none _)
   | (with_reducible refine LeO.ite ?_ ?_)
   | (with_reducible refine LeO.bind ?_ (fun _=>?_))
   | exact impl_Sump_75.mono _ _ _ _ (fun _=>by first | exact LeO.refl _ | exact impl_OpenSpans_1.mono _ _ _ _ _ _ | exact impl_OpenFor_1_1.mono _ _ _ _ _ _ | exact impl_OpenFor_1.mono _ _ _ _)
set_option maxHeartbeats 8000000 in
set_option maxRecDepth 100000 in
theorem impl_OpenFor_1.calls (k : Nat) (a0 : Int) (gc1_ : Nat) (A1_0 : Option Addr) (c1_0 : Nat) (l1_0 : List (S44)) (gc2_ : Nat) (A2_0 : Option Addr) (c2_0 : Nat) (l2_0 : List (S30)) (r : Bool) (w : World) (hr1_0 : Kd.C k44 w A1_0 l1_0.length l1_0) (hc1_0 : l1_0.length≤c1_0) (hk1 : w.heap[gc1_]? = some (.cells #[.slice A1_0 l1_0.length c1_0] 55 (0,0))) (hr2_0 : Kd.C k30 w A2_0 l2_0.length l2_0) (hc2_0 : l2_0.length≤c2_0) (hk2 : w.heap[gc2_]? = some (.cells #[.slice A2_0 l2_0.length c2_0] 24 (0,0))) (h : impl_OpenFor_1.f k a0 l1_0 l2_0=some r) :
  Calls Try.prog 74 #[.int .i64 a0,.pointer (some ⟨gc1_,0,none⟩),.pointer (some ⟨gc2_,0,none⟩)] w fun e w'=>e = .returned (.bool r)∧Below w.heap.size w w':=by
 have HR1_0:=amk hr1_0
 have HC1_0:=amk hc1_0
 clear hr1_0 hc1_0
 have HR2_0:=amk hr2_0
 have HC2_0:=amk hc2_0
 clear hr2_0 hc2_0
 have BK1:=amk hk1
 clear hk1
 have BK2:=amk hk2
 clear hk2
 have HB:=amk (Below.refl w.heap.size w)
 have H : ((impl_Sump_75.f k l1_0 (fun x_ : S44=>impl_OpenFor_1_1.f k x_.f0 x_.f1 x_.f2 l2_0 a0)).bind fun t511=>(some (!t511)))=some r:=h
 clear h
 replace H:=obs H
 obtain ⟨t511,A40,H⟩:=H
 replace H : (some (!t511))=some r:=H
 have A4:=amk A40
 clear A40
 obtain rfl:=Option.some.inj H
 have hmf_ : ∀ (fn_ : Fn) (first_ cap_ : Array Value) (w_ : World),(Instr.makeFunc fn_ first_ cap_).run Try.prog w_ = .ok (.func fn_ first_ cap_) w_:=fun _ _ _ _=>rfl
 go_enter Try.func74,Try.ntmps74
 go_wp2_with (first | ((with_reducible refine gate_dst (N:=3) rfl ?_);refine box_event ?hg (N:=3) ?hd (cs:=#[.int .i64 a0]) (t:=3) ?hr ?_;(case hd=>rfl);(case hg=>rfl);(case hr=>first | (go_simp;done)|(go_simp;rfl));intro gb510 hg w5 hbox hb;have BK510:=amk (hbox);have GW510:=amk ((by rw [hg];exact (below_size (bel HB)) : w.heap.size≤gb510));have GE510:=amk ((by rw [hg];exact (below_size (bel HB)) : w.heap.size≤gb510));replace HB:=amk (below_step (bel HB) hb);have NB1_510:=amk ((by rw [hg];exact Nat.ne_of_lt (blk_lt (g:=gc1_) (o:=.cells #[.slice A1_0 l1_0.length c1_0] 55 (0,0)) (bkk BK1)) : gc1_ ≠ gb510));have NB510_1:=amk ((by rw [hg];exact Nat.ne_of_gt (blk_lt (g:=gc1_) (o:=.cells #[.slice A1_0 l1_0.length c1_0] 55 (0,0)) (bkk BK1)) : gb510 ≠ gc1_));replace BK1:=amk (blk_below (g:=gc1_) (o:=.cells #[.slice A1_0 l1_0.length c1_0] 55 (0,0)) (bkk BK1) hb);have NB2_510:=amk ((by rw [hg];exact Nat.ne_of_lt (blk_lt (g:=gc2_) (o:=.cells #[.slice A2_0 l2_0.length c2_0] 24 (0,0)) (bkk BK2)) : gc2_ ≠ gb510));have NB510_2:=amk ((by rw [hg];exact Nat.ne_of_gt (blk_lt (g:=gc2_) (o:=.cells #[.slice A2_0 l2_0.length c2_0] 24 (0,0)) (bkk BK2)) : gb510 ≠ gc2_));replace BK2:=amk (blk_below (g:=gc2_) (o:=.cells #[.slice A2_0 l2_0.length c2_0] 24 (0,0)) (bkk BK2) hb);clear hb hbox hg;have hnb6:=NB1_510.out;have hnc6:=NB510_1.out;have hcz7_0 : w5.cell? ⟨gc1_,0,none⟩=some (.slice A1_0 l1_0.length c1_0):=(blk_cell BK1.out 0).trans rfl;have hfz7_0:=blk_frozen BK1.out 0)|((with_reducible refine gate_callee (f:=75) rfl ?_);refine goesL_ (some 7) rfl rfl Try.func75 (by kernel_rfl) rfl #[.slice A1_0 l1_0.length c1_0,.func (.func 76) #[] #[.pointer (some ⟨gc2_,0,none⟩),.pointer (some ⟨gb510,0,none⟩)]] rfl mtt ?_;(with_reducible refine (impl_Sump_75.calls k _ _ l1_0 76 #[.pointer (some ⟨gc2_,0,none⟩),.pointer (some ⟨gb510,0,none⟩)] (fun x_ : S44=>impl_OpenFor_1_1.f k x_.f0 x_.f1 x_.f2 l2_0 a0) t511 _ ?side1 ?side2 ?side3 ?side4 A4.out).mono ?_);(case side1=>exact ccc (Kd.C_below HR1_0.out HB.out));(case side2=>exact HC1_0.out);(case side3=>exact enters_fn Try.func76 (by kernel_rfl) rfl);(case side4=>intro W_ x_ b_ hx_ hW_;exact (impl_OpenFor_1_1.calls k x_.f0 x_.f1 x_.f2 gc2_ _ _ l2_0 gb510 a0 b_ W_ (Kd.C_below (show Kd.C k30 _ _ _ l2_0 from by repeat (first | exact (Kd.C_below HR2_0.out HB.out)|(with_reducible refine Kd.C_alloc ?_ _)|(with_reducible refine Kd.C_drewN ?_ _)|(with_reducible refine Kd.C_drew ?_))) hW_) (by exact HC2_0.out) (blk_below (bkk BK2) hW_) (blk_below (bkk BK510) hW_) hx_).mono (fun _ _ h_=>⟨h_.1,h_.2⟩));rintro e w8 ⟨rfl,hb⟩;refine ⟨_,rfl,?_⟩;replace BK1:=amk (blk_below (g:=gc1_) (o:=.cells #[.slice A1_0 l1_0.length c1_0] 55 (0,0)) (bkk BK1) hb);replace BK2:=amk (blk_below (g:=gc2_) (o:=.cells #[.slice A2_0 l2_0.length c2_0] 24 (0,0)) (bkk BK2) hb);replace BK510:=amk (blk_below (g:=gb510) (o:=.cells #[.int .i64 a0] 3 (0,0)) (bkk BK510) hb);replace HB:=amk (below_step (bel1 HB GE510.out) hb);(try clear hb)))
 go_ret
 exact ⟨erw0,bel1 HB GE510.out⟩
mutual
def impl_OpenFor.j0 : Nat→Int→Bool→List (S30)→List (S44)→Option (Int × Bool)
 | 0,_,_,_,_=>none
 | k + 1,x2,x25,x513000,x514000=>if x25=true then (some (0,false)) else ((impl_hours.f x513000).bind fun bt517=>((impl_spans.f k bt517.1 bt517.2 (fun x_ : Int=>impl_OpenFor_1.f k x_ x514000 x513000)).bind fun t519=>(impl_OpenFor.l0 k x2 t519 (t519.length : Int) 0)))
def impl_OpenFor.l0 : Nat→Int→List (List Int)→Int→Int→Option (Int × Bool)
 | 0,_,_,_,_=>none
 | k + 1,x2,x35,x36,x37=>if x37 < x36 then (if 0≤x37 then (if x37 < (x35.length : Int) then (if 1 < ((rd_L4 x35 x37).length : Int) then (if 0 < ((rd_L4 x35 x37).length : Int) then (if (wrap64 ((wrap64 ((rd (rd_L4 x35 x37) 1) - (rd (rd_L4 x35 x37) 0))) + 1)) ≥ x2 then (some (rd (rd_L4 x35 x37) 0,true)) else (impl_OpenFor.l0 k x2 x35 x36 (wrap64 (x37 + 1)))) else (none)) else (none)) else (none)) else (none)) else (some (0,false))
end
def impl_OpenFor.f (k : Nat) (l0 : List (S30)) (l1 : List (S44)) (a2 : Int) : Option (Int × Bool):=(impl_AreReadings.f k l0).bind fun t514=>(if t514=true then ((impl_AreSumps.f k l1).bind fun t515=>(if t515=true then ((impl_within.f a2 1 100).bind fun t516=>(impl_OpenFor.j0 k a2 (!t516) l0 l1)) else (impl_OpenFor.j0 k a2 true l0 l1))) else (impl_OpenFor.j0 k a2 true l0 l1))
theorem impl_OpenFor.mono_l : ∀ k,(∀ y0 y1 y2 y3,LeO (impl_OpenFor.j0 k y0 y1 y2 y3) (impl_OpenFor.j0 (k + 1) y0 y1 y2 y3))∧(∀ y0 y1 y2 y3,LeO (impl_OpenFor.l0 k y0 y1 y2 y3) (impl_OpenFor.l0 (k + 1) y0 y1 y2 y3))
 | 0=>⟨fun _ _ _ _ r h=>by simp [impl_OpenFor.j0] at h,fun _ _ _ _ r h=>by simp [impl_OpenFor.l0] at h⟩
 | k + 1=>by
  obtain ⟨ih0,ih1⟩:=impl_OpenFor.mono_l k
  refine ⟨?_,?_⟩
  ·intro y0 y1 y2 y3
   unfold impl_OpenFor.j0
   repeat' first
   | (with_reducible exact ih0 _ _ _ _)
   | (with_reducible exact ih1 _ _ _ _)
   | (with_reducible exact impl_AreReadings.mono _ _)
   | (with_reducible exact impl_AreSumps.mono _ _)
   | (with_reducible exact impl_OpenFor_1.mono _ _ _ _)
   | (with_reducible exact impl_spans.mono _ _ _ _ _ (fun _=>by first | exact LeO.refl _ | exact impl_OpenSpans_1.mono _ _ _ _ _ _ | exact impl_OpenFor_1_1.mono _ _ _ _ _ _ | exact impl_OpenFor_1.mono _ _ _ _))
   | (with_reducible exact LeO.refl _)
   | (with_reducible exact LeO.none _)
   | (with_reducible refine LeO.ite ?_ ?_)
   | (with_reducible refine LeO.bind ?_ (fun _=>?_))
   | exact ih0 _ _ _ _
   | exact ih1 _ _ _ _
   | exact impl_spans.mono _ _ _ _ _ (fun _=>by first | exact LeO.refl _ | exact impl_OpenSpans_1.mono _ _ _ _ _ _ | exact impl_OpenFor_1_1.mono _ _ _ _ _ _ | exact impl_OpenFor_1.mono _ _ _ _)
  ·intro y0 y1 y2 y3
   unfold impl_OpenFor.l0
   repeat' first
   | (with_reducible exact ih0 _ _ _ _)
   | (with_reducible exact ih1 _ _ _ _)
   | (with_reducible exact impl_AreReadings.mono _ _)
   | (with_reducible exact impl_AreSumps.mono _ _)
   | (with_reducible exact impl_OpenFor_1.mono _ _ _ _)
   | (with_reducible exact impl_spans.mono _ _ _ _ _ (fun _=>by first | exact LeO.refl _ | exact impl_OpenSpans_1.mono _ _ _ _ _ _ | exact impl_OpenFor_1_1.mono _ _ _ _ _ _ | exact impl_OpenFor_1.mono _ _ _ _))
   | (with_reducible exact LeO.refl _)
   | (with_reducible exact LeO.none _)
   | (with_reducible refine LeO.ite ?_ ?_)
   | (with_reducible refine LeO.bind ?_ (fun _=>?_))
   | exact ih0 _ _ _ _
   | exact ih1 _ _ _ _
   | exact impl_spans.mono _ _ _ _ _ (fun _=>by first | exact LeO.refl _ | exact impl_OpenSpans_1.mono _ _ _ _ _ _ | exact impl_OpenFor_1_1.mono _ _ _ _ _ _ | exact impl_OpenFor_1.mono _ _ _ _)
theorem impl_OpenFor.mono : ∀ a0 a1 a2 k,LeO (impl_OpenFor.f k a0 a1 a2) (impl_OpenFor.f (k + 1) a0 a1 a2):=by
 intro a0 a1 a2 k
 obtain ⟨ih0,ih1⟩:=impl_OpenFor.mono_l k
 unfold impl_OpenFor.f
 repeat' first
   | (with_reducible exact ih0 _ _ _ _)
   | (with_reducible exact ih1 _ _ _ _)
   | (with_reducible exact impl_AreReadings.mono _ _)
   | (with_reducible exact impl_AreSumps.mono _ _)
   | (with_reducible exact impl_OpenFor_1.mono _ _ _ _)
   | (with_reducible exact impl_spans.mono _ _ _ _ _ (fun _=>by first | exact LeO.refl _ | exact impl_OpenSpans_1.mono _ _ _ _ _ _ | exact impl_OpenFor_1_1.mono _ _ _ _ _ _ | exact impl_OpenFor_1.mono _ _ _ _))
   | (with_reducible exact LeO.refl _)
   | (with_reducible exact LeO.none _)
   | (with_reducible refine LeO.ite ?_ ?_)
   | (with_reducible refine LeO.bind ?_ (fun _=>?_))
   | exact ih0 _ _ _ _
   | exact ih1 _ _ _ _
   | exact impl_spans.mono _ _ _ _ _ (fun _=>by first | exact LeO.refl _ | exact impl_OpenSpans_1.mono _ _ _ _ _ _ | exact impl_OpenFor_1_1.mono _ _ _ _ _ _ | exact impl_OpenFor_1.mono _ _ _ _)
set_option maxHeartbeats 8000000 in
set_option maxRecDepth 100000 in
theorem impl_OpenFor.calls (k : Nat) (A0 : Option Addr) (c0 : Nat) (l0 : List (S30)) (A1 : Option Addr) (c1 : Nat) (l1 : List (S44)) (a2 : Int) (r1 : Int) (r2 : Bool) (w : World) (hr0 : Kd.C k30 w A0 l0.length l0) (hc0 : l0.length≤c0) (hr1 : Kd.C k44 w A1 l1.length l1) (hc1 : l1.length≤c1) (h : impl_OpenFor.f k l0 l1 a2=some (r1,r2)) :
  Calls Try.prog 30 #[.slice A0 l0.length c0,.slice A1 l1.length c1,.int .i64 a2] w fun e w'=>e = .returned (.tuple #[.int .i64 r1,.bool r2])∧Below w.heap.size w w':=by
 have HR0:=amk hr0
 have HC0:=amk hc0
 clear hr0 hc0
 have HR1:=amk hr1
 have HC1:=amk hc1
 clear hr1 hc1
 have HB:=amk (Below.refl w.heap.size w)
 have H : ((impl_AreReadings.f k l0).bind fun t514=>(if t514=true then ((impl_AreSumps.f k l1).bind fun t515=>(if t515=true then ((impl_within.f a2 1 100).bind fun t516=>(impl_OpenFor.j0 k a2 (!t516) l0 l1)) else (impl_OpenFor.j0 k a2 true l0 l1))) else (impl_OpenFor.j0 k a2 true l0 l1)))=some (r1,r2):=h
 clear h
 have HC4:=amk H
 clear H
 have hmf_ : ∀ (fn_ : Fn) (first_ cap_ : Array Value) (w_ : World),(Instr.makeFunc fn_ first_ cap_).run Try.prog w_ = .ok (.func fn_ first_ cap_) w_:=fun _ _ _ _=>rfl
 go_enter Try.func30,Try.ntmps30
 go_upto_region 1 with (first | ((with_reducible refine gate_dst (N:=3) rfl ?_);refine box_event ?hg (N:=3) ?hd (cs:=#[.slice A0 l0.length c0]) (t:=24) ?hr ?_;(case hd=>rfl);(case hg=>rfl);(case hr=>first | (go_simp;done)|(go_simp;rfl));intro gb512 hg w5 hbox hb;have BK512:=amk (hbox);have GW512:=amk ((by rw [hg];exact (below_size (bel HB)) : w.heap.size≤gb512));have GE512:=amk ((by rw [hg];exact (below_size (bel HB)) : w.heap.size≤gb512));replace HB:=amk (below_step (bel HB) hb);clear hb hbox hg)|((with_reducible refine gate_dst (N:=4) rfl ?_);refine box_event ?hg (N:=4) ?hd (cs:=#[.slice A1 l1.length c1]) (t:=55) ?hr ?_;(case hd=>rfl);(case hg=>rfl);(case hr=>first | (go_simp;done)|(go_simp;rfl));intro gb513 hg w6 hbox hb;have BK513:=amk (hbox);have GW513:=amk ((by rw [hg];exact (below_size (bel1 HB GE512.out)) : w.heap.size≤gb513));have GE513:=amk ((by rw [hg];exact (below_size (bel1 HB GE512.out)) : w.heap.size≤gb513));replace HB:=amk (below_step (bel1 HB GE512.out) hb);have NB512_513:=amk ((by rw [hg];exact Nat.ne_of_lt (blk_lt (g:=gb512) (o:=.cells #[.slice A0 l0.length c0] 24 (0,0)) (bkk BK512)) : gb512 ≠ gb513));have NB513_512:=amk ((by rw [hg];exact Nat.ne_of_gt (blk_lt (g:=gb512) (o:=.cells #[.slice A0 l0.length c0] 24 (0,0)) (bkk BK512)) : gb513 ≠ gb512));replace BK512:=amk (blk_below (g:=gb512) (o:=.cells #[.slice A0 l0.length c0] 24 (0,0)) (bkk BK512) hb);clear hb hbox hg))
 repeat (go_quiet (first | ((with_reducible refine gate_dst (N:=3) rfl ?_);refine box_event ?hg (N:=3) ?hd (cs:=#[.slice A0 l0.length c0]) (t:=24) ?hr ?_;(case hd=>rfl);(case hg=>rfl);(case hr=>first | (go_simp;done)|(go_simp;rfl));intro gb512 hg w5 hbox hb;have BK512:=amk (hbox);have GW512:=amk ((by rw [hg];exact (below_size (bel HB)) : w.heap.size≤gb512));have GE512:=amk ((by rw [hg];exact (below_size (bel HB)) : w.heap.size≤gb512));replace HB:=amk (below_step (bel HB) hb);clear hb hbox hg)|((with_reducible refine gate_dst (N:=4) rfl ?_);refine box_event ?hg (N:=4) ?hd (cs:=#[.slice A1 l1.length c1]) (t:=55) ?hr ?_;(case hd=>rfl);(case hg=>rfl);(case hr=>first | (go_simp;done)|(go_simp;rfl));intro gb513 hg w6 hbox hb;have BK513:=amk (hbox);have GW513:=amk ((by rw [hg];exact (below_size (bel1 HB GE512.out)) : w.heap.size≤gb513));have GE513:=amk ((by rw [hg];exact (below_size (bel1 HB GE512.out)) : w.heap.size≤gb513));replace HB:=amk (below_step (bel1 HB GE512.out) hb);have NB512_513:=amk ((by rw [hg];exact Nat.ne_of_lt (blk_lt (g:=gb512) (o:=.cells #[.slice A0 l0.length c0] 24 (0,0)) (bkk BK512)) : gb512 ≠ gb513));have NB513_512:=amk ((by rw [hg];exact Nat.ne_of_gt (blk_lt (g:=gb512) (o:=.cells #[.slice A0 l0.length c0] 24 (0,0)) (bkk BK512)) : gb513 ≠ gb512));replace BK512:=amk (blk_below (g:=gb512) (o:=.cells #[.slice A0 l0.length c0] 24 (0,0)) (bkk BK512) hb);clear hb hbox hg));go_upto_region 1 with (first | ((with_reducible refine gate_dst (N:=3) rfl ?_);refine box_event ?hg (N:=3) ?hd (cs:=#[.slice A0 l0.length c0]) (t:=24) ?hr ?_;(case hd=>rfl);(case hg=>rfl);(case hr=>first | (go_simp;done)|(go_simp;rfl));intro gb512 hg w5 hbox hb;have BK512:=amk (hbox);have GW512:=amk ((by rw [hg];exact (below_size (bel HB)) : w.heap.size≤gb512));have GE512:=amk ((by rw [hg];exact (below_size (bel HB)) : w.heap.size≤gb512));replace HB:=amk (below_step (bel HB) hb);clear hb hbox hg)|((with_reducible refine gate_dst (N:=4) rfl ?_);refine box_event ?hg (N:=4) ?hd (cs:=#[.slice A1 l1.length c1]) (t:=55) ?hr ?_;(case hd=>rfl);(case hg=>rfl);(case hr=>first | (go_simp;done)|(go_simp;rfl));intro gb513 hg w6 hbox hb;have BK513:=amk (hbox);have GW513:=amk ((by rw [hg];exact (below_size (bel1 HB GE512.out)) : w.heap.size≤gb513));have GE513:=amk ((by rw [hg];exact (below_size (bel1 HB GE512.out)) : w.heap.size≤gb513));replace HB:=amk (below_step (bel1 HB GE512.out) hb);have NB512_513:=amk ((by rw [hg];exact Nat.ne_of_lt (blk_lt (g:=gb512) (o:=.cells #[.slice A0 l0.length c0] 24 (0,0)) (bkk BK512)) : gb512 ≠ gb513));have NB513_512:=amk ((by rw [hg];exact Nat.ne_of_gt (blk_lt (g:=gb512) (o:=.cells #[.slice A0 l0.length c0] 24 (0,0)) (bkk BK512)) : gb513 ≠ gb512));replace BK512:=amk (blk_below (g:=gb512) (o:=.cells #[.slice A0 l0.length c0] 24 (0,0)) (bkk BK512) hb);clear hb hbox hg)))
 (try simp only [Act.put,List.setIfInBounds_toArray,List.set_cons_zero,List.set_cons_succ])
 go_cut [25] (fun v25 wc=>∃ (kq : Nat) (x25_3 : Bool),v25 = .bool x25_3∧Aside0 (impl_OpenFor.j0 kq a2 x25_3 l0 l1=some (r1,r2))∧Aside0 (kq≤k)∧Aside0 (wc.heap[gb512]? = some (.cells #[(.slice A0 l0.length c0)] 24 (0,0)))∧Aside0 (wc.heap[gb513]? = some (.cells #[(.slice A1 l1.length c1)] 55 (0,0)))∧Aside0 (Below w.heap.size w wc))
 case first=>
  have H:=HC4.out
  clear HC4
  replace H:=obs H
  obtain ⟨t514,A70,H⟩:=H
  replace H : (if t514=true then ((impl_AreSumps.f k l1).bind fun t515=>(if t515=true then ((impl_within.f a2 1 100).bind fun t516=>(impl_OpenFor.j0 k a2 (!t516) l0 l1)) else (impl_OpenFor.j0 k a2 true l0 l1))) else (impl_OpenFor.j0 k a2 true l0 l1))=some (r1,r2):=H
  have A7:=amk A70
  clear A70
  by_cases c8 : t514=true
  ·subst c8
   have H1 : ((impl_AreSumps.f k l1).bind fun t515=>(if t515=true then ((impl_within.f a2 1 100).bind fun t516=>(impl_OpenFor.j0 k a2 (!t516) l0 l1)) else (impl_OpenFor.j0 k a2 true l0 l1)))=some (r1,r2):=by rw [if_pos rfl] at H;exact H
   clear H
   have H:=H1
   clear H1
   replace H:=obs H
   obtain ⟨t515,A90,H⟩:=H
   replace H : (if t515=true then ((impl_within.f a2 1 100).bind fun t516=>(impl_OpenFor.j0 k a2 (!t516) l0 l1)) else (impl_OpenFor.j0 k a2 true l0 l1))=some (r1,r2):=H
   have A9:=amk A90
   clear A90
   by_cases c10 : t515=true
   ·subst c10
    have H1 : ((impl_within.f a2 1 100).bind fun t516=>(impl_OpenFor.j0 k a2 (!t516) l0 l1))=some (r1,r2):=by rw [if_pos rfl] at H;exact H
    clear H
    have H:=H1
    clear H1
    replace H:=obs H
    obtain ⟨t516,A110,H⟩:=H
    replace H : (impl_OpenFor.j0 k a2 (!t516) l0 l1)=some (r1,r2):=H
    have A11:=amk A110
    clear A110
    have H':=amk H
    clear H
    have hnb12:=NB512_513.out
    have hnc12:=NB513_512.out
    have hcz13_0 : w6.cell? ⟨gb512,0,none⟩=some (.slice A0 l0.length c0):=(blk_cell BK512.out 0).trans rfl
    have hfz13_0:=blk_frozen BK512.out 0
    go_wp2_with (first | (go_at_call 15;(with_reducible refine (impl_AreReadings.calls k _ _ l0 true _ ?side1 ?side2 A7.out).mono ?_);(case side1=>exact ccc (Kd.C_below HR0.out HB.out));(case side2=>exact HC0.out);rintro e w14 ⟨rfl,hb⟩;replace BK512:=amk (blk_below (g:=gb512) (o:=.cells #[.slice A0 l0.length c0] 24 (0,0)) (bkk BK512) hb);replace BK513:=amk (blk_below (g:=gb513) (o:=.cells #[.slice A1 l1.length c1] 55 (0,0)) (bkk BK513) hb);replace HB:=amk (below_step (bel2 HB GE512.out GE513.out) hb);(try clear hb);have hcz15_0 : w14.cell? ⟨gb513,0,none⟩=some (.slice A1 l1.length c1):=(blk_cell BK513.out 0).trans rfl;have hfz15_0:=blk_frozen BK513.out 0)|(go_at_call 41;(with_reducible refine (impl_AreSumps.calls k _ _ l1 true _ ?side1 ?side2 A9.out).mono ?_);(case side1=>exact ccc (Kd.C_below HR1.out HB.out));(case side2=>exact HC1.out);rintro e w16 ⟨rfl,hb⟩;replace BK512:=amk (blk_below (g:=gb512) (o:=.cells #[.slice A0 l0.length c0] 24 (0,0)) (bkk BK512) hb);replace BK513:=amk (blk_below (g:=gb513) (o:=.cells #[.slice A1 l1.length c1] 55 (0,0)) (bkk BK513) hb);replace HB:=amk (below_step (bel2 HB GE512.out GE513.out) hb);(try clear hb))|(go_at_call 57;(with_reducible refine (impl_within.calls a2 1 100 t516 _ A11.out).mono ?_);rintro e w' ⟨rfl,⟨nd,rfl⟩⟩;(try exact ddd)))
    repeat (go_quiet (first | (go_at_call 15;(with_reducible refine (impl_AreReadings.calls k _ _ l0 true _ ?side1 ?side2 A7.out).mono ?_);(case side1=>exact ccc (Kd.C_below HR0.out HB.out));(case side2=>exact HC0.out);rintro e w14 ⟨rfl,hb⟩;replace BK512:=amk (blk_below (g:=gb512) (o:=.cells #[.slice A0 l0.length c0] 24 (0,0)) (bkk BK512) hb);replace BK513:=amk (blk_below (g:=gb513) (o:=.cells #[.slice A1 l1.length c1] 55 (0,0)) (bkk BK513) hb);replace HB:=amk (below_step (bel2 HB GE512.out GE513.out) hb);(try clear hb);have hcz15_0 : w14.cell? ⟨gb513,0,none⟩=some (.slice A1 l1.length c1):=(blk_cell BK513.out 0).trans rfl;have hfz15_0:=blk_frozen BK513.out 0)|(go_at_call 41;(with_reducible refine (impl_AreSumps.calls k _ _ l1 true _ ?side1 ?side2 A9.out).mono ?_);(case side1=>exact ccc (Kd.C_below HR1.out HB.out));(case side2=>exact HC1.out);rintro e w16 ⟨rfl,hb⟩;replace BK512:=amk (blk_below (g:=gb512) (o:=.cells #[.slice A0 l0.length c0] 24 (0,0)) (bkk BK512) hb);replace BK513:=amk (blk_below (g:=gb513) (o:=.cells #[.slice A1 l1.length c1] 55 (0,0)) (bkk BK513) hb);replace HB:=amk (below_step (bel2 HB GE512.out GE513.out) hb);(try clear hb))|(go_at_call 57;(with_reducible refine (impl_within.calls a2 1 100 t516 _ A11.out).mono ?_);rintro e w' ⟨rfl,⟨nd,rfl⟩⟩;(try exact ddd)));try go_wp2_with (first | (go_at_call 15;(with_reducible refine (impl_AreReadings.calls k _ _ l0 true _ ?side1 ?side2 A7.out).mono ?_);(case side1=>exact ccc (Kd.C_below HR0.out HB.out));(case side2=>exact HC0.out);rintro e w14 ⟨rfl,hb⟩;replace BK512:=amk (blk_below (g:=gb512) (o:=.cells #[.slice A0 l0.length c0] 24 (0,0)) (bkk BK512) hb);replace BK513:=amk (blk_below (g:=gb513) (o:=.cells #[.slice A1 l1.length c1] 55 (0,0)) (bkk BK513) hb);replace HB:=amk (below_step (bel2 HB GE512.out GE513.out) hb);(try clear hb);have hcz15_0 : w14.cell? ⟨gb513,0,none⟩=some (.slice A1 l1.length c1):=(blk_cell BK513.out 0).trans rfl;have hfz15_0:=blk_frozen BK513.out 0)|(go_at_call 41;(with_reducible refine (impl_AreSumps.calls k _ _ l1 true _ ?side1 ?side2 A9.out).mono ?_);(case side1=>exact ccc (Kd.C_below HR1.out HB.out));(case side2=>exact HC1.out);rintro e w16 ⟨rfl,hb⟩;replace BK512:=amk (blk_below (g:=gb512) (o:=.cells #[.slice A0 l0.length c0] 24 (0,0)) (bkk BK512) hb);replace BK513:=amk (blk_below (g:=gb513) (o:=.cells #[.slice A1 l1.length c1] 55 (0,0)) (bkk BK513) hb);replace HB:=amk (below_step (bel2 HB GE512.out GE513.out) hb);(try clear hb))|(go_at_call 57;(with_reducible refine (impl_within.calls a2 1 100 t516 _ A11.out).mono ?_);rintro e w' ⟨rfl,⟨nd,rfl⟩⟩;(try exact ddd))))
    go_meet
    case rel=>exact ⟨_,(!t516),rsd,H',⟨by first | omega | exact Nat.le_refl _⟩,⟨by (with_reducible repeat (first | refine blk_drewN ?_ _ | refine blk_drew ?_ | refine blk_alloc ?_ _));exact BK512.out⟩,⟨by (with_reducible repeat (first | refine blk_drewN ?_ _ | refine blk_drew ?_ | refine blk_alloc ?_ _));exact BK513.out⟩,⟨bel2 HB GE512.out GE513.out⟩⟩
   ·replace c10:=Bool.eq_false_iff.mpr c10
    subst c10
    have H1 : (impl_OpenFor.j0 k a2 true l0 l1)=some (r1,r2):=by rw [if_neg (show ¬ (false=true) by decide)] at H;exact H
    clear H
    have H:=H1
    clear H1
    have H':=amk H
    clear H
    have hnb17:=NB512_513.out
    have hnc17:=NB513_512.out
    have hcz18_0 : w6.cell? ⟨gb512,0,none⟩=some (.slice A0 l0.length c0):=(blk_cell BK512.out 0).trans rfl
    have hfz18_0:=blk_frozen BK512.out 0
    go_wp2_with (first | (go_at_call 15;(with_reducible refine (impl_AreReadings.calls k _ _ l0 true _ ?side1 ?side2 A7.out).mono ?_);(case side1=>exact ccc (Kd.C_below HR0.out HB.out));(case side2=>exact HC0.out);rintro e w19 ⟨rfl,hb⟩;replace BK512:=amk (blk_below (g:=gb512) (o:=.cells #[.slice A0 l0.length c0] 24 (0,0)) (bkk BK512) hb);replace BK513:=amk (blk_below (g:=gb513) (o:=.cells #[.slice A1 l1.length c1] 55 (0,0)) (bkk BK513) hb);replace HB:=amk (below_step (bel2 HB GE512.out GE513.out) hb);(try clear hb);have hcz20_0 : w19.cell? ⟨gb513,0,none⟩=some (.slice A1 l1.length c1):=(blk_cell BK513.out 0).trans rfl;have hfz20_0:=blk_frozen BK513.out 0)|(go_at_call 41;(with_reducible refine (impl_AreSumps.calls k _ _ l1 false _ ?side1 ?side2 A9.out).mono ?_);(case side1=>exact ccc (Kd.C_below HR1.out HB.out));(case side2=>exact HC1.out);rintro e w21 ⟨rfl,hb⟩;replace BK512:=amk (blk_below (g:=gb512) (o:=.cells #[.slice A0 l0.length c0] 24 (0,0)) (bkk BK512) hb);replace BK513:=amk (blk_below (g:=gb513) (o:=.cells #[.slice A1 l1.length c1] 55 (0,0)) (bkk BK513) hb);replace HB:=amk (below_step (bel2 HB GE512.out GE513.out) hb);(try clear hb)))
    repeat (go_quiet (first | (go_at_call 15;(with_reducible refine (impl_AreReadings.calls k _ _ l0 true _ ?side1 ?side2 A7.out).mono ?_);(case side1=>exact ccc (Kd.C_below HR0.out HB.out));(case side2=>exact HC0.out);rintro e w19 ⟨rfl,hb⟩;replace BK512:=amk (blk_below (g:=gb512) (o:=.cells #[.slice A0 l0.length c0] 24 (0,0)) (bkk BK512) hb);replace BK513:=amk (blk_below (g:=gb513) (o:=.cells #[.slice A1 l1.length c1] 55 (0,0)) (bkk BK513) hb);replace HB:=amk (below_step (bel2 HB GE512.out GE513.out) hb);(try clear hb);have hcz20_0 : w19.cell? ⟨gb513,0,none⟩=some (.slice A1 l1.length c1):=(blk_cell BK513.out 0).trans rfl;have hfz20_0:=blk_frozen BK513.out 0)|(go_at_call 41;(with_reducible refine (impl_AreSumps.calls k _ _ l1 false _ ?side1 ?side2 A9.out).mono ?_);(case side1=>exact ccc (Kd.C_below HR1.out HB.out));(case side2=>exact HC1.out);rintro e w21 ⟨rfl,hb⟩;replace BK512:=amk (blk_below (g:=gb512) (o:=.cells #[.slice A0 l0.length c0] 24 (0,0)) (bkk BK512) hb);replace BK513:=amk (blk_below (g:=gb513) (o:=.cells #[.slice A1 l1.length c1] 55 (0,0)) (bkk BK513) hb);replace HB:=amk (below_step (bel2 HB GE512.out GE513.out) hb);(try clear hb)));try go_wp2_with (first | (go_at_call 15;(with_reducible refine (impl_AreReadings.calls k _ _ l0 true _ ?side1 ?side2 A7.out).mono ?_);(case side1=>exact ccc (Kd.C_below HR0.out HB.out));(case side2=>exact HC0.out);rintro e w19 ⟨rfl,hb⟩;replace BK512:=amk (blk_below (g:=gb512) (o:=.cells #[.slice A0 l0.length c0] 24 (0,0)) (bkk BK512) hb);replace BK513:=amk (blk_below (g:=gb513) (o:=.cells #[.slice A1 l1.length c1] 55 (0,0)) (bkk BK513) hb);replace HB:=amk (below_step (bel2 HB GE512.out GE513.out) hb);(try clear hb);have hcz20_0 : w19.cell? ⟨gb513,0,none⟩=some (.slice A1 l1.length c1):=(blk_cell BK513.out 0).trans rfl;have hfz20_0:=blk_frozen BK513.out 0)|(go_at_call 41;(with_reducible refine (impl_AreSumps.calls k _ _ l1 false _ ?side1 ?side2 A9.out).mono ?_);(case side1=>exact ccc (Kd.C_below HR1.out HB.out));(case side2=>exact HC1.out);rintro e w21 ⟨rfl,hb⟩;replace BK512:=amk (blk_below (g:=gb512) (o:=.cells #[.slice A0 l0.length c0] 24 (0,0)) (bkk BK512) hb);replace BK513:=amk (blk_below (g:=gb513) (o:=.cells #[.slice A1 l1.length c1] 55 (0,0)) (bkk BK513) hb);replace HB:=amk (below_step (bel2 HB GE512.out GE513.out) hb);(try clear hb))))
    go_meet
    case rel=>exact ⟨_,(true),rsd,H',⟨by first | omega | exact Nat.le_refl _⟩,⟨by (with_reducible repeat (first | refine blk_drewN ?_ _ | refine blk_drew ?_ | refine blk_alloc ?_ _));exact BK512.out⟩,⟨by (with_reducible repeat (first | refine blk_drewN ?_ _ | refine blk_drew ?_ | refine blk_alloc ?_ _));exact BK513.out⟩,⟨bel2 HB GE512.out GE513.out⟩⟩
  ·replace c8:=Bool.eq_false_iff.mpr c8
   subst c8
   have H1 : (impl_OpenFor.j0 k a2 true l0 l1)=some (r1,r2):=by rw [if_neg (show ¬ (false=true) by decide)] at H;exact H
   clear H
   have H:=H1
   clear H1
   have H':=amk H
   clear H
   have hnb22:=NB512_513.out
   have hnc22:=NB513_512.out
   have hcz23_0 : w6.cell? ⟨gb512,0,none⟩=some (.slice A0 l0.length c0):=(blk_cell BK512.out 0).trans rfl
   have hfz23_0:=blk_frozen BK512.out 0
   go_wp2_with (first | (go_at_call 15;(with_reducible refine (impl_AreReadings.calls k _ _ l0 false _ ?side1 ?side2 A7.out).mono ?_);(case side1=>exact ccc (Kd.C_below HR0.out HB.out));(case side2=>exact HC0.out);rintro e w24 ⟨rfl,hb⟩;replace BK512:=amk (blk_below (g:=gb512) (o:=.cells #[.slice A0 l0.length c0] 24 (0,0)) (bkk BK512) hb);replace BK513:=amk (blk_below (g:=gb513) (o:=.cells #[.slice A1 l1.length c1] 55 (0,0)) (bkk BK513) hb);replace HB:=amk (below_step (bel2 HB GE512.out GE513.out) hb);(try clear hb)))
   repeat (go_quiet (first | (go_at_call 15;(with_reducible refine (impl_AreReadings.calls k _ _ l0 false _ ?side1 ?side2 A7.out).mono ?_);(case side1=>exact ccc (Kd.C_below HR0.out HB.out));(case side2=>exact HC0.out);rintro e w24 ⟨rfl,hb⟩;replace BK512:=amk (blk_below (g:=gb512) (o:=.cells #[.slice A0 l0.length c0] 24 (0,0)) (bkk BK512) hb);replace BK513:=amk (blk_below (g:=gb513) (o:=.cells #[.slice A1 l1.length c1] 55 (0,0)) (bkk BK513) hb);replace HB:=amk (below_step (bel2 HB GE512.out GE513.out) hb);(try clear hb)));try go_wp2_with (first | (go_at_call 15;(with_reducible refine (impl_AreReadings.calls k _ _ l0 false _ ?side1 ?side2 A7.out).mono ?_);(case side1=>exact ccc (Kd.C_below HR0.out HB.out));(case side2=>exact HC0.out);rintro e w24 ⟨rfl,hb⟩;replace BK512:=amk (blk_below (g:=gb512) (o:=.cells #[.slice A0 l0.length c0] 24 (0,0)) (bkk BK512) hb);replace BK513:=amk (blk_below (g:=gb513) (o:=.cells #[.slice A1 l1.length c1] 55 (0,0)) (bkk BK513) hb);replace HB:=amk (below_step (bel2 HB GE512.out GE513.out) hb);(try clear hb))))
   go_meet
   case rel=>exact ⟨_,(true),rsd,H',⟨by first | omega | exact Nat.le_refl _⟩,⟨by (with_reducible repeat (first | refine blk_drewN ?_ _ | refine blk_drew ?_ | refine blk_alloc ?_ _));exact BK512.out⟩,⟨by (with_reducible repeat (first | refine blk_drewN ?_ _ | refine blk_drew ?_ | refine blk_alloc ?_ _));exact BK513.out⟩,⟨bel2 HB GE512.out GE513.out⟩⟩
 case rest=>
  clear HC4
  try clear c1
  try clear c2
  try clear p2
  try clear c3
  try clear c8
  try clear c10
  try clear c12
  try clear c17
  try clear c22
  try clear hcz13_0
  try clear hcz15_0
  try clear hcz18_0
  try clear hcz20_0
  try clear hcz23_0
  try clear hfz13_0
  try clear hfz15_0
  try clear hfz18_0
  try clear hfz20_0
  try clear hfz23_0
  obtain ⟨kq,x25_3,rfl,HA,HJ3,BK512,BK513,HB⟩:=hcut
  cases kq with
  | zero=>exact absurd HA.out (by simp [impl_OpenFor.j0])
  | succ kj3=>
   have H:=HA.out
   clear HA
   simp only [impl_OpenFor.j0] at H
   by_cases c25 : x25_3=true
   ·subst c25
    have H1 : (some (0,false))=some (r1,r2):=by rw [if_pos rfl] at H;exact H
    clear H
    have H:=H1
    clear H1
    simp only [Option.some.injEq,Prod.mk.injEq] at H
    obtain ⟨rfl,rfl⟩:=H
    go_wp2
    repeat (go_quiet (fail);try go_wp2)
    go_ret2
    exact ⟨erw0,bel2 HB GE512.out GE513.out⟩
   ·replace c25:=Bool.eq_false_iff.mpr c25
    subst c25
    have H1 : ((impl_hours.f l0).bind fun bt517=>((impl_spans.f kj3 bt517.1 bt517.2 (fun x_ : Int=>impl_OpenFor_1.f kj3 x_ l1 l0)).bind fun t519=>(impl_OpenFor.l0 kj3 a2 t519 (t519.length : Int) 0)))=some (r1,r2):=by rw [if_neg (show ¬ (false=true) by decide)] at H;exact H
    clear H
    have H:=H1
    clear H1
    replace H:=obs H
    obtain ⟨⟨t517,t518⟩,A260,H⟩:=H
    replace H : ((impl_spans.f kj3 t517 t518 (fun x_ : Int=>impl_OpenFor_1.f kj3 x_ l1 l0)).bind fun t519=>(impl_OpenFor.l0 kj3 a2 t519 (t519.length : Int) 0))=some (r1,r2):=H
    have A26:=amk A260
    clear A260
    replace H:=obs H
    obtain ⟨t519,A270,H⟩:=H
    replace H : (impl_OpenFor.l0 kj3 a2 t519 (t519.length : Int) 0)=some (r1,r2):=H
    have A27:=amk A270
    clear A270
    have H':=amk H
    clear H
    have hnb28:=NB512_513.out
    have hnc28:=NB513_512.out
    have hcz29_0 : wc.cell? ⟨gb512,0,none⟩=some (.slice A0 l0.length c0):=(blk_cell BK512.out 0).trans rfl
    have hfz29_0:=blk_frozen BK512.out 0
    go_wp2_with (first | (go_at_call 63;(with_reducible refine (impl_hours.calls _ _ l0 t517 t518 _ ?side1 ?side2 A26.out).mono ?_);(case side1=>exact ccc (Kd.C_below HR0.out HB.out));(case side2=>exact HC0.out);rintro e w' ⟨rfl,⟨nd,rfl⟩⟩;(try exact ddd))|(go_at_call 64;(with_reducible refine (impl_spans.calls kj3 t517 t518 74 #[.pointer (some ⟨gb513,0,none⟩),.pointer (some ⟨gb512,0,none⟩)] (fun x_ : Int=>impl_OpenFor_1.f kj3 x_ l1 l0) t519 _ ?side1 ?side2 A27.out).mono ?_);(case side1=>exact enters_fn Try.func74 (by kernel_rfl) rfl);(case side2=>intro W_ x_ b_ hx_ hW_;exact (impl_OpenFor_1.calls kj3 x_ gb513 _ _ l1 gb512 _ _ l0 b_ W_ (Kd.C_below (show Kd.C k44 _ _ _ l1 from by repeat (first | exact (Kd.C_below HR1.out (bel2 HB GE512.out GE513.out))|(with_reducible refine Kd.C_alloc ?_ _)|(with_reducible refine Kd.C_drewN ?_ _)|(with_reducible refine Kd.C_drew ?_))) hW_) (by exact HC1.out) (blk_below (bkk BK513) hW_) (Kd.C_below (show Kd.C k30 _ _ _ l0 from by repeat (first | exact (Kd.C_below HR0.out (bel2 HB GE512.out GE513.out))|(with_reducible refine Kd.C_alloc ?_ _)|(with_reducible refine Kd.C_drewN ?_ _)|(with_reducible refine Kd.C_drew ?_))) hW_) (by exact HC0.out) (blk_below (bkk BK512) hW_) hx_).mono (fun _ _ h_=>⟨h_.1,h_.2⟩));rintro e w30 ⟨v520,rfl,ho0,hb⟩;have HO521:=amk (Kd.S_lower ho0 (below_size (bel2 HB GE512.out GE513.out)));replace BK512:=amk (blk_below (g:=gb512) (o:=.cells #[.slice A0 l0.length c0] 24 (0,0)) (bkk BK512) hb);replace BK513:=amk (blk_below (g:=gb513) (o:=.cells #[.slice A1 l1.length c1] 55 (0,0)) (bkk BK513) hb);replace HB:=amk (below_step (bel2 HB GE512.out GE513.out) hb);(try clear hb ho0);obtain ⟨Ao31,co31,eo31⟩:=Kd.S_slice HO521.out;subst eo31))
    repeat (go_quiet (first | (go_at_call 63;(with_reducible refine (impl_hours.calls _ _ l0 t517 t518 _ ?side1 ?side2 A26.out).mono ?_);(case side1=>exact ccc (Kd.C_below HR0.out HB.out));(case side2=>exact HC0.out);rintro e w' ⟨rfl,⟨nd,rfl⟩⟩;(try exact ddd))|(go_at_call 64;(with_reducible refine (impl_spans.calls kj3 t517 t518 74 #[.pointer (some ⟨gb513,0,none⟩),.pointer (some ⟨gb512,0,none⟩)] (fun x_ : Int=>impl_OpenFor_1.f kj3 x_ l1 l0) t519 _ ?side1 ?side2 A27.out).mono ?_);(case side1=>exact enters_fn Try.func74 (by kernel_rfl) rfl);(case side2=>intro W_ x_ b_ hx_ hW_;exact (impl_OpenFor_1.calls kj3 x_ gb513 _ _ l1 gb512 _ _ l0 b_ W_ (Kd.C_below (show Kd.C k44 _ _ _ l1 from by repeat (first | exact (Kd.C_below HR1.out (bel2 HB GE512.out GE513.out))|(with_reducible refine Kd.C_alloc ?_ _)|(with_reducible refine Kd.C_drewN ?_ _)|(with_reducible refine Kd.C_drew ?_))) hW_) (by exact HC1.out) (blk_below (bkk BK513) hW_) (Kd.C_below (show Kd.C k30 _ _ _ l0 from by repeat (first | exact (Kd.C_below HR0.out (bel2 HB GE512.out GE513.out))|(with_reducible refine Kd.C_alloc ?_ _)|(with_reducible refine Kd.C_drewN ?_ _)|(with_reducible refine Kd.C_drew ?_))) hW_) (by exact HC0.out) (blk_below (bkk BK512) hW_) hx_).mono (fun _ _ h_=>⟨h_.1,h_.2⟩));rintro e w30 ⟨v520,rfl,ho0,hb⟩;have HO521:=amk (Kd.S_lower ho0 (below_size (bel2 HB GE512.out GE513.out)));replace BK512:=amk (blk_below (g:=gb512) (o:=.cells #[.slice A0 l0.length c0] 24 (0,0)) (bkk BK512) hb);replace BK513:=amk (blk_below (g:=gb513) (o:=.cells #[.slice A1 l1.length c1] 55 (0,0)) (bkk BK513) hb);replace HB:=amk (below_step (bel2 HB GE512.out GE513.out) hb);(try clear hb ho0);obtain ⟨Ao31,co31,eo31⟩:=Kd.S_slice HO521.out;subst eo31));try go_wp2_with (first | (go_at_call 63;(with_reducible refine (impl_hours.calls _ _ l0 t517 t518 _ ?side1 ?side2 A26.out).mono ?_);(case side1=>exact ccc (Kd.C_below HR0.out HB.out));(case side2=>exact HC0.out);rintro e w' ⟨rfl,⟨nd,rfl⟩⟩;(try exact ddd))|(go_at_call 64;(with_reducible refine (impl_spans.calls kj3 t517 t518 74 #[.pointer (some ⟨gb513,0,none⟩),.pointer (some ⟨gb512,0,none⟩)] (fun x_ : Int=>impl_OpenFor_1.f kj3 x_ l1 l0) t519 _ ?side1 ?side2 A27.out).mono ?_);(case side1=>exact enters_fn Try.func74 (by kernel_rfl) rfl);(case side2=>intro W_ x_ b_ hx_ hW_;exact (impl_OpenFor_1.calls kj3 x_ gb513 _ _ l1 gb512 _ _ l0 b_ W_ (Kd.C_below (show Kd.C k44 _ _ _ l1 from by repeat (first | exact (Kd.C_below HR1.out (bel2 HB GE512.out GE513.out))|(with_reducible refine Kd.C_alloc ?_ _)|(with_reducible refine Kd.C_drewN ?_ _)|(with_reducible refine Kd.C_drew ?_))) hW_) (by exact HC1.out) (blk_below (bkk BK513) hW_) (Kd.C_below (show Kd.C k30 _ _ _ l0 from by repeat (first | exact (Kd.C_below HR0.out (bel2 HB GE512.out GE513.out))|(with_reducible refine Kd.C_alloc ?_ _)|(with_reducible refine Kd.C_drewN ?_ _)|(with_reducible refine Kd.C_drew ?_))) hW_) (by exact HC0.out) (blk_below (bkk BK512) hW_) hx_).mono (fun _ _ h_=>⟨h_.1,h_.2⟩));rintro e w30 ⟨v520,rfl,ho0,hb⟩;have HO521:=amk (Kd.S_lower ho0 (below_size (bel2 HB GE512.out GE513.out)));replace BK512:=amk (blk_below (g:=gb512) (o:=.cells #[.slice A0 l0.length c0] 24 (0,0)) (bkk BK512) hb);replace BK513:=amk (blk_below (g:=gb513) (o:=.cells #[.slice A1 l1.length c1] 55 (0,0)) (bkk BK513) hb);replace HB:=amk (below_step (bel2 HB GE512.out GE513.out) hb);(try clear hb ho0);obtain ⟨Ao31,co31,eo31⟩:=Kd.S_slice HO521.out;subst eo31)))
    go_loopg [37] kj3 (fun kq v37 w'=>∃ (x37_2 : Int),v37 = .int .i64 x37_2∧Aside0 (impl_OpenFor.l0 kq a2 t519 (t519.length : Int) x37_2=some (r1,r2))∧Aside0 (kq≤kj3)∧Aside0 (Kd.S (Kd.slice 3 (Kd.int .i64)) 63 w' w.heap.size (fun _=>True) (.slice Ao31 t519.length co31) t519)∧Aside0 (w'.heap[gb512]? = some (.cells #[(.slice A0 l0.length c0)] 24 (0,0)))∧Aside0 (w'.heap[gb513]? = some (.cells #[(.slice A1 l1.length c1)] 55 (0,0)))∧Aside0 (Below w.heap.size w w'))
    case atStart=>exact ⟨(0),rsd,H',⟨Nat.le_refl _⟩,⟨sss HO521⟩,⟨by (with_reducible repeat (first | refine blk_drewN ?_ _ | refine blk_drew ?_ | refine blk_alloc ?_ _));exact BK512.out⟩,⟨by (with_reducible repeat (first | refine blk_drewN ?_ _ | refine blk_drew ?_ | refine blk_alloc ?_ _));exact BK513.out⟩,⟨bel2 HB GE512.out GE513.out⟩⟩
    case round=>
     clear H'
     try clear c1
     try clear c2
     try clear p2
     try clear c3
     try clear c7
     try clear c8
     try clear c10
     try clear c12
     try clear c17
     try clear c22
     try clear c25
     try clear c28
     try clear c30
     try clear hcz13_0
     try clear hcz15_0
     try clear hcz18_0
     try clear hcz20_0
     try clear hcz23_0
     try clear hcz29_0
     try clear hfz13_0
     try clear hfz15_0
     try clear hfz18_0
     try clear hfz20_0
     try clear hfz23_0
     try clear hfz29_0
     try clear p2
     obtain ⟨x37_2,rfl,HA,HK2,HO_35,BK512,BK513,HB⟩:=hrel
     cases gk with
     | zero=>exact absurd HA.out (by simp [impl_OpenFor.l0])
     | succ k2=>
      have H:=HA.out
      clear HA
      simp only [impl_OpenFor.l0] at H
      by_cases c32 : x37_2 < (t519.length : Int)
      ·rw [if_pos c32] at H
       have c32b0 : decide (x37_2 < (t519.length : Int))=true:=decide_eq_true c32
       clear c32
       by_cases c33 : 0≤x37_2
       ·rw [if_pos c33] at H
        have c33b0 : decide (0≤x37_2)=true:=decide_eq_true c33
        clear c33
        by_cases c34 : x37_2 < (t519.length : Int)
        ·rw [if_pos c34] at H
         have c34b0 : decide (x37_2 < (t519.length : Int))=true:=decide_eq_true c34
         clear c34
         by_cases c35 : 1 < ((rd_L4 t519 x37_2).length : Int)
         ·rw [if_pos c35] at H
          have c35b0 : decide (1 < ((rd_L4 t519 x37_2).length : Int))=true:=decide_eq_true c35
          have c35b1 : decide (1 < (rd_L4 t519 x37_2).length)=true:=decide_eq_true (by omega)
          clear c35
          by_cases c36 : 0 < ((rd_L4 t519 x37_2).length : Int)
          ·rw [if_pos c36] at H
           have c36b0 : decide (0 < ((rd_L4 t519 x37_2).length : Int))=true:=decide_eq_true c36
           have c36b1 : decide (0 < (rd_L4 t519 x37_2).length)=true:=decide_eq_true (by omega)
           clear c36
           by_cases c37 : (wrap64 ((wrap64 ((rd (rd_L4 t519 x37_2) 1) - (rd (rd_L4 t519 x37_2) 0))) + 1)) ≥ a2
           ·rw [if_pos c37] at H
            have c37b0 : decide (a2≤(wrap64 ((wrap64 ((rd (rd_L4 t519 x37_2) 1) - (rd (rd_L4 t519 x37_2) 0))) + 1)))=true:=decide_eq_true c37
            clear c37
            simp only [Option.some.injEq,Prod.mk.injEq] at H
            obtain ⟨rfl,rfl⟩:=H
            have p522 : 0≤(x37_2 : Int):=of_decide_eq_true ass
            have q522 : x37_2 < (t519.length : Int):=of_decide_eq_true ass
            obtain ⟨ad522,A522_0,c522_0,e522,hx522_0,hl522_0,hi522_0⟩:=at_L4 (Kd.S_reads' HO_35.out).2.2 x37_2 p522 q522
            cases e522
            obtain ⟨ce522,hce522,hMe522,hcc522⟩:=Kd.S_get HO_35.out [] x37_2 p522 (by first | exact q522 | exact of_decide_eq_true ass | (have e_:=(Kd.S_reads' HO_35.out).1;omega))
            obtain ⟨ve522_0,rfl,ge522_0⟩:=hMe522
            have hv522_0:=hcc522 0 _ rfl
            rw [Nat.add_zero,show ((Kd.slice 3 (Kd.int .i64))).sz=1 from rfl,Nat.mul_one] at hv522_0
            replace hv522_0:=Option.some.inj (hv522_0.symm.trans hx522_0)
            rw [hv522_0] at ge522_0
            have HL522_0:=amk (show Kd.R (Kd.int .i64) 3 _ _ _ _ (rd_L4 t519 x37_2) from ge522_0)
            clear hv522_0 ge522_0
            clear hcc522 hce522
            have HR522_0:=amk hi522_0
            have HC522_0:=amk hl522_0
            clear hi522_0 hl522_0
            replace p522:=eq_true p522
            replace q522:=eq_true q522
            have p523 : 0≤(1 : Int):=(by omega)
            have q523 : 1 < ((rd_L4 t519 x37_2).length : Int):=of_decide_eq_true ass
            obtain ⟨ad523,e523,hx523_0⟩:=Kd.at_int (by repeat (first | (with_reducible exact HR522_0.out)|(with_reducible refine Kd.C_alloc ?_ _)|(with_reducible refine Kd.C_drewN ?_ _)|(with_reducible refine Kd.C_drew ?_) | exact HR522_0.out)) 1 p523 q523
            cases e523
            (try simp only [show (1 : Int).toNat=1 from rfl,Nat.reduceMul,Nat.reduceEqDiff,Go.Addr.add,↓reduceIte] at hx523_0)
            have qi523 : (1 < (rd_L4 t519 x37_2).length)=True:=eq_true (by omega)
            (try rw [show ((1 : Int)).toNat=1 from rfl] at hx523_0)
            replace p523:=eq_true p523
            replace q523:=eq_true q523
            have p524 : 0≤(0 : Int):=(by omega)
            have q524 : 0 < ((rd_L4 t519 x37_2).length : Int):=of_decide_eq_true ass
            obtain ⟨ad524,e524,hx524_0⟩:=Kd.at_int (by repeat (first | (with_reducible exact HR522_0.out)|(with_reducible refine Kd.C_alloc ?_ _)|(with_reducible refine Kd.C_drewN ?_ _)|(with_reducible refine Kd.C_drew ?_) | exact HR522_0.out)) 0 p524 q524
            obtain rfl : ad523=ad524:=(by injection e524)
            have qi524 : (0 < (rd_L4 t519 x37_2).length)=True:=eq_true (by omega)
            (try rw [show ((0 : Int)).toNat=0 from rfl] at hx524_0)
            (try rw [Addr.add_zero'] at hx524_0)
            replace p524:=eq_true p524
            replace q524:=eq_true q524
            have p525 : 0≤(0 : Int):=(by omega)
            have q525 : 0 < ((rd_L4 t519 x37_2).length : Int):=of_decide_eq_true ass
            obtain ⟨ad525,e525,hx525_0⟩:=Kd.at_int (by repeat (first | (with_reducible exact HR522_0.out)|(with_reducible refine Kd.C_alloc ?_ _)|(with_reducible refine Kd.C_drewN ?_ _)|(with_reducible refine Kd.C_drew ?_) | exact HR522_0.out)) 0 p525 q525
            obtain rfl : ad523=ad525:=(by injection e525)
            have qi525 : (0 < (rd_L4 t519 x37_2).length)=True:=eq_true (by omega)
            (try rw [show ((0 : Int)).toNat=0 from rfl] at hx525_0)
            (try rw [Addr.add_zero'] at hx525_0)
            replace p525:=eq_true p525
            replace q525:=eq_true q525
            go_wp2
            repeat (go_quiet (fail);try go_wp2)
            go_ret2
            exact ⟨erw0,bel2 HB GE512.out GE513.out⟩
           ·rw [if_neg c37] at H
            have c37b0 : decide (a2≤(wrap64 ((wrap64 ((rd (rd_L4 t519 x37_2) 1) - (rd (rd_L4 t519 x37_2) 0))) + 1)))=false:=decide_eq_false c37
            clear c37
            have H':=amk H
            clear H
            have p522 : 0≤(x37_2 : Int):=of_decide_eq_true ass
            have q522 : x37_2 < (t519.length : Int):=of_decide_eq_true ass
            obtain ⟨ad522,A522_0,c522_0,e522,hx522_0,hl522_0,hi522_0⟩:=at_L4 (Kd.S_reads' HO_35.out).2.2 x37_2 p522 q522
            cases e522
            obtain ⟨ce522,hce522,hMe522,hcc522⟩:=Kd.S_get HO_35.out [] x37_2 p522 (by first | exact q522 | exact of_decide_eq_true ass | (have e_:=(Kd.S_reads' HO_35.out).1;omega))
            obtain ⟨ve522_0,rfl,ge522_0⟩:=hMe522
            have hv522_0:=hcc522 0 _ rfl
            rw [Nat.add_zero,show ((Kd.slice 3 (Kd.int .i64))).sz=1 from rfl,Nat.mul_one] at hv522_0
            replace hv522_0:=Option.some.inj (hv522_0.symm.trans hx522_0)
            rw [hv522_0] at ge522_0
            have HL522_0:=amk (show Kd.R (Kd.int .i64) 3 _ _ _ _ (rd_L4 t519 x37_2) from ge522_0)
            clear hv522_0 ge522_0
            clear hcc522 hce522
            have HR522_0:=amk hi522_0
            have HC522_0:=amk hl522_0
            clear hi522_0 hl522_0
            replace p522:=eq_true p522
            replace q522:=eq_true q522
            have p523 : 0≤(1 : Int):=(by omega)
            have q523 : 1 < ((rd_L4 t519 x37_2).length : Int):=of_decide_eq_true ass
            obtain ⟨ad523,e523,hx523_0⟩:=Kd.at_int (by repeat (first | (with_reducible exact HR522_0.out)|(with_reducible refine Kd.C_alloc ?_ _)|(with_reducible refine Kd.C_drewN ?_ _)|(with_reducible refine Kd.C_drew ?_) | exact HR522_0.out)) 1 p523 q523
            cases e523
            (try simp only [show (1 : Int).toNat=1 from rfl,Nat.reduceMul,Nat.reduceEqDiff,Go.Addr.add,↓reduceIte] at hx523_0)
            have qi523 : (1 < (rd_L4 t519 x37_2).length)=True:=eq_true (by omega)
            (try rw [show ((1 : Int)).toNat=1 from rfl] at hx523_0)
            replace p523:=eq_true p523
            replace q523:=eq_true q523
            have p524 : 0≤(0 : Int):=(by omega)
            have q524 : 0 < ((rd_L4 t519 x37_2).length : Int):=of_decide_eq_true ass
            obtain ⟨ad524,e524,hx524_0⟩:=Kd.at_int (by repeat (first | (with_reducible exact HR522_0.out)|(with_reducible refine Kd.C_alloc ?_ _)|(with_reducible refine Kd.C_drewN ?_ _)|(with_reducible refine Kd.C_drew ?_) | exact HR522_0.out)) 0 p524 q524
            obtain rfl : ad523=ad524:=(by injection e524)
            have qi524 : (0 < (rd_L4 t519 x37_2).length)=True:=eq_true (by omega)
            (try rw [show ((0 : Int)).toNat=0 from rfl] at hx524_0)
            (try rw [Addr.add_zero'] at hx524_0)
            replace p524:=eq_true p524
            replace q524:=eq_true q524
            go_wp2
            repeat (go_quiet (fail);try go_wp2)
            go_roundg k2
            case measure=>have:=HJ3.out;have:=HK2.out;omega
            case rel=>exact ⟨(wrap64 (x37_2 + 1)),rsd,H',⟨by have:=HJ3.out;have:=HK2.out;omega⟩,⟨sss HO_35⟩,⟨by (with_reducible repeat (first | refine blk_drewN ?_ _ | refine blk_drew ?_ | refine blk_alloc ?_ _));exact BK512.out⟩,⟨by (with_reducible repeat (first | refine blk_drewN ?_ _ | refine blk_drew ?_ | refine blk_alloc ?_ _));exact BK513.out⟩,⟨bel2 HB GE512.out GE513.out⟩⟩
          ·rw [if_neg c36] at H
           exact absurd H (by simp)
         ·rw [if_neg c35] at H
          exact absurd H (by simp)
        ·rw [if_neg c34] at H
         exact absurd H (by simp)
       ·rw [if_neg c33] at H
        exact absurd H (by simp)
      ·rw [if_neg c32] at H
       have c32b0 : decide (x37_2 < (t519.length : Int))=false:=decide_eq_false c32
       clear c32
       simp only [Option.some.injEq,Prod.mk.injEq] at H
       obtain ⟨rfl,rfl⟩:=H
       go_wp2
       repeat (go_quiet (fail);try go_wp2)
       go_ret2
       exact ⟨erw0,bel2 HB GE512.out GE513.out⟩
mutual
def spec_l23Sumps.l0 : Nat→List (S44)→Int→Option (Bool)
 | 0,_,_=>none
 | k + 1,x0,x3=>if x3 < (x0.length : Int) then (if 0≤x3 then ((spec_l23Sump.f ((rd_T44 x0 x3).f0) ((rd_T44 x0 x3).f1) ((rd_T44 x0 x3).f2)).bind fun t474=>(if t474=true then (if x3 > 0 then (if 0≤(wrap64 (x3 - 1)) then (if (wrap64 (x3 - 1)) < (x0.length : Int) then (spec_l23Sumps.j1 k x0 x3 (decide (((rd_T44 x0 (wrap64 (x3 - 1))).f0) ≥ ((rd_T44 x0 x3).f0)))) else (none)) else (none)) else (spec_l23Sumps.j1 k x0 x3 false)) else (spec_l23Sumps.j1 k x0 x3 true))) else (none)) else (some true)
def spec_l23Sumps.j1 : Nat→List (S44)→Int→Bool→Option (Bool)
 | 0,_,_,_=>none
 | k + 1,x0,x3,x33=>if x33=true then (some false) else (spec_l23Sumps.l0 k x0 (wrap64 (x3 + 1)))
end
def spec_l23Sumps.f (k : Nat) (l0 : List (S44)) : Option (Bool):=spec_l23Sumps.l0 k l0 0
theorem spec_l23Sumps.mono_l : ∀ k,(∀ y0 y1,LeO (spec_l23Sumps.l0 k y0 y1) (spec_l23Sumps.l0 (k + 1) y0 y1))∧(∀ y0 y1 y2,LeO (spec_l23Sumps.j1 k y0 y1 y2) (spec_l23Sumps.j1 (k + 1) y0 y1 y2))
 | 0=>⟨fun _ _ r h=>by simp [spec_l23Sumps.l0] at h,fun _ _ _ r h=>by simp [spec_l23Sumps.j1] at h⟩
 | k + 1=>by
  obtain ⟨ih0,ih1⟩:=spec_l23Sumps.mono_l k
  refine ⟨?_,?_⟩
  ·intro y0 y1
   unfold spec_l23Sumps.l0
   repeat' first
   | (with_reducible exact ih0 _ _)
   | (with_reducible exact ih1 _ _ _)
   | (with_reducible exact LeO.refl _)
   | (with_reducible exact LeO.none _)
   | (with_reducible refine LeO.ite ?_ ?_)
   | (with_reducible refine LeO.bind ?_ (fun _=>?_))
   | exact ih0 _ _
   | exact ih1 _ _ _
  ·intro y0 y1 y2
   unfold spec_l23Sumps.j1
   repeat' first
   | (with_reducible exact ih0 _ _)
   | (with_reducible exact ih1 _ _ _)
   | (with_reducible exact LeO.refl _)
   | (with_reducible exact LeO.none _)
   | (with_reducible refine LeO.ite ?_ ?_)
   | (with_reducible refine LeO.bind ?_ (fun _=>?_))
   | exact ih0 _ _
   | exact ih1 _ _ _
theorem spec_l23Sumps.mono : ∀ a0 k,LeO (spec_l23Sumps.f k a0) (spec_l23Sumps.f (k + 1) a0):=by
 intro a0 k
 obtain ⟨ih0,ih1⟩:=spec_l23Sumps.mono_l k
 unfold spec_l23Sumps.f
 repeat' first
   | (with_reducible exact ih0 _ _)
   | (with_reducible exact ih1 _ _ _)
   | (with_reducible exact LeO.refl _)
   | (with_reducible exact LeO.none _)
   | (with_reducible refine LeO.ite ?_ ?_)
   | (with_reducible refine LeO.bind ?_ (fun _=>?_))
   | exact ih0 _ _
   | exact ih1 _ _ _
def spec_l23Sumps.T4 : Bool × List (List Nat × List Nat):=(true,[([],[]),([],[]),([0,1],[0,1]),([2],[2]),([3],[3]),([4],[4]),([5,4],[5]),([6],[6]),([7,6],[6,7]),([8,6,6],[6,8]),([9],[9]),([9],[9]),([11,9],[9,11]),([10,12,9],[9,10,12]),([13,9],[9,13]),([14,9],[9,14]),([9],[9]),([9],[9]),([16,17,9],[9,16,17]),([18,9],[9,18]),([19,9],[9,19]),([15,20,9],[9,15,20]),([9,21,6],[6,9,21]),([6,22],[6,22])])
def spec_l23Sumps.B4 : List Nat:=[0,0,3,7,15,31,63,127,255,511,1023,1023,3071,8191,16383,32767,1023,1023,197631,459775,984063,2097151,4194303,8388607]
theorem spec_l23Sumps.tab4 : rtab .any (opsOf Try.f71 4)=spec_l23Sumps.T4:=by kernel_rfl
theorem spec_l23Sumps.bits4 : waitsOk spec_l23Sumps.T4.2 spec_l23Sumps.B4=true:=by kernel_rfl
set_option maxHeartbeats 8000000 in
set_option maxRecDepth 100000 in
theorem spec_l23Sumps.calls (k : Nat) (A0 : Option Addr) (c0 : Nat) (l0 : List (S44)) (r : Bool) (w : World) (hr0 : Kd.C k44 w A0 l0.length l0) (hc0 : l0.length≤c0) (h : spec_l23Sumps.f k l0=some r) :
  Calls Try.prog 71 #[.slice A0 l0.length c0] w fun e w'=>e = .returned (.bool r)∧Below w.heap.size w w':=by
 have hu44:=Try.underlying44
 have HR0:=amk hr0
 have HC0:=amk hc0
 clear hr0 hc0
 have HB:=amk (Below.refl w.heap.size w)
 have H : (spec_l23Sumps.l0 k l0 0)=some r:=h
 clear h
 have H':=amk H
 clear H
 go_enter Try.func71,Try.ntmps71
 go_wp2
 go_loopg [3] k (fun kq v3 w'=>∃ (x3_1 : Int),v3 = .int .i64 x3_1∧Aside0 (spec_l23Sumps.l0 kq l0 x3_1=some r)∧Aside0 (kq≤k)∧Aside0 (Below w.heap.size w w'))
 case atStart=>exact ⟨(0),rsd,H',⟨Nat.le_refl _⟩,⟨bel HB⟩⟩
 case round=>
  clear H'
  obtain ⟨x3_1,rfl,HA,HK1,HB⟩:=hrel
  cases gk with
  | zero=>exact absurd HA.out (by simp [spec_l23Sumps.l0])
  | succ k1=>
   have H:=HA.out
   clear HA
   simp only [spec_l23Sumps.l0] at H
   by_cases c2 : x3_1 < (l0.length : Int)
   ·rw [if_pos c2] at H
    have c2b0 : decide (x3_1 < (l0.length : Int))=true:=decide_eq_true c2
    clear c2
    have HC3:=amk H
    clear H
    go_upto_region 4 with (fail)
    go_cut [33] (fun v33 wc=>∃ (kq : Nat) (x33_2 : Bool),v33 = .bool x33_2∧Aside0 (spec_l23Sumps.j1 kq l0 x3_1 x33_2=some r)∧Aside0 (kq≤k1)∧Aside0 (Below w.heap.size w wc))
    case first=>
     have H:=HC3.out
     clear HC3
     by_cases c4 : 0≤x3_1
     ·rw [if_pos c4] at H
      have c4b0 : decide (0≤x3_1)=true:=decide_eq_true c4
      clear c4
      (first | rw [c4b0] | (simp only [i64_w,i32_w];rw [c4b0]) | skip)
      replace H:=obs H
      obtain ⟨t474,A50,H⟩:=H
      replace H : (if t474=true then (if x3_1 > 0 then (if 0≤(wrap64 (x3_1 - 1)) then (if (wrap64 (x3_1 - 1)) < (l0.length : Int) then (spec_l23Sumps.j1 k1 l0 x3_1 (decide (((rd_T44 l0 (wrap64 (x3_1 - 1))).f0) ≥ ((rd_T44 l0 x3_1).f0)))) else (none)) else (none)) else (spec_l23Sumps.j1 k1 l0 x3_1 false)) else (spec_l23Sumps.j1 k1 l0 x3_1 true))=some r:=H
      have A5:=amk A50
      clear A50
      by_cases c6 : t474=true
      ·subst c6
       have H1 : (if x3_1 > 0 then (if 0≤(wrap64 (x3_1 - 1)) then (if (wrap64 (x3_1 - 1)) < (l0.length : Int) then (spec_l23Sumps.j1 k1 l0 x3_1 (decide (((rd_T44 l0 (wrap64 (x3_1 - 1))).f0) ≥ ((rd_T44 l0 x3_1).f0)))) else (none)) else (none)) else (spec_l23Sumps.j1 k1 l0 x3_1 false))=some r:=by rw [if_pos rfl] at H;exact H
       clear H
       have H:=H1
       clear H1
       by_cases c7 : x3_1 > 0
       ·rw [if_pos c7] at H
        have c7b0 : decide (0 < x3_1)=true:=decide_eq_true c7
        clear c7
        obtain ⟨ji8,hji8⟩ : ∃ j_ : Int,(wrap64 (x3_1 - 1))=j_:=⟨_,rfl⟩
        replace H : (if 0≤(ji8) then (if (ji8) < (l0.length : Int) then (spec_l23Sumps.j1 k1 l0 x3_1 (decide (((rd_T44 l0 (ji8)).f0) ≥ ((rd_T44 l0 x3_1).f0)))) else (none)) else (none))=some r:=by first | (rw [hji8] at H;exact H)|(simp only [hji8] at H ⊢;exact H)
        (try rw [hji8] at A5)
        have hji8w : (IntKind.i64.wrap (x3_1 - 1))=ji8:=(i64_w _).trans hji8
        by_cases c9 : 0≤(ji8)
        ·rw [if_pos c9] at H
         have c9b0 : decide (0≤(ji8))=true:=decide_eq_true c9
         clear c9
         by_cases c10 : (ji8) < (l0.length : Int)
         ·rw [if_pos c10] at H
          have c10b0 : decide ((ji8) < (l0.length : Int))=true:=decide_eq_true c10
          clear c10
          have H':=amk H
          clear H
          try go_wp2
          have n0_:=amk (below_drew1 HB.out)
          clear HB
          have HB:=n0_
          clear n0_
          have p473 : 0≤(x3_1 : Int):=of_decide_eq_true ass
          have q473 : x3_1 < (l0.length : Int):=of_decide_eq_true ass
          obtain ⟨ad473,e473,hx473_0,hx473_1,hx473_2⟩:=at_T44 HR0.out x3_1 p473 q473
          have hw473_2:=hx473_2
          have hw473_1:=hx473_1
          have hw473_0:=hx473_0
          cases e473
          replace hx473_0:=(HB.out.cell (World.block_lt_of_cell? w _ hx473_0)).trans hx473_0
          replace hx473_1:=(HB.out.cell (World.block_lt_of_cell? w _ hx473_1)).trans hx473_1
          replace hx473_2:=(HB.out.cell (World.block_lt_of_cell? w _ hx473_2)).trans hx473_2
          replace p473:=eq_true p473
          replace q473:=eq_true q473
          have p475 : 0≤((ji8) : Int):=of_decide_eq_true ass
          have q475 : (ji8) < (l0.length : Int):=of_decide_eq_true ass
          obtain ⟨ad475,e475,hx475_0,hx475_1,hx475_2⟩:=at_T44 HR0.out (ji8) p475 q475
          have hw475_2:=hx475_2
          have hw475_1:=hx475_1
          have hw475_0:=hx475_0
          obtain rfl : ad473=ad475:=(by injection e475)
          replace hx475_0:=(HB.out.cell (World.block_lt_of_cell? w _ hx475_0)).trans hx475_0
          replace hx475_1:=(HB.out.cell (World.block_lt_of_cell? w _ hx475_1)).trans hx475_1
          replace hx475_2:=(HB.out.cell (World.block_lt_of_cell? w _ hx475_2)).trans hx475_2
          replace p475:=eq_true p475
          replace q475:=eq_true q475
          have p476 : 0≤(x3_1 : Int):=of_decide_eq_true ass
          have q476 : x3_1 < (l0.length : Int):=of_decide_eq_true ass
          obtain ⟨ad476,e476,hx476_0,hx476_1,hx476_2⟩:=at_T44 HR0.out x3_1 p476 q476
          have hw476_2:=hx476_2
          have hw476_1:=hx476_1
          have hw476_0:=hx476_0
          obtain rfl : ad473=ad476:=(by injection e476)
          replace hx476_0:=(HB.out.cell (World.block_lt_of_cell? w _ hx476_0)).trans hx476_0
          replace hx476_1:=(HB.out.cell (World.block_lt_of_cell? w _ hx476_1)).trans hx476_1
          replace hx476_2:=(HB.out.cell (World.block_lt_of_cell? w _ hx476_2)).trans hx476_2
          replace p476:=eq_true p476
          replace q476:=eq_true q476
          refine start_ (n:=24) (S:=fun w'=>w'.cell? (ad473.add ((x3_1).toNat * 3))=some (.int .i64 ((rd_T44 l0 x3_1).f0))∧w'.cell? ⟨(ad473.add ((x3_1).toNat * 3)).block,(ad473.add ((x3_1).toNat * 3)).off + 1,none⟩=some (.int .i64 ((rd_T44 l0 x3_1).f1))∧w'.cell? ⟨(ad473.add ((x3_1).toNat * 3)).block,(ad473.add ((x3_1).toNat * 3)).off + 2,none⟩=some (.int .i64 ((rd_T44 l0 x3_1).f2))∧w'.cell? (ad473.add (((ji8)).toNat * 3))=some (.int .i64 ((rd_T44 l0 (ji8)).f0))∧w'.cell? ⟨(ad473.add (((ji8)).toNat * 3)).block,(ad473.add (((ji8)).toNat * 3)).off + 1,none⟩=some (.int .i64 ((rd_T44 l0 (ji8)).f1))∧w'.cell? ⟨(ad473.add (((ji8)).toNat * 3)).block,(ad473.add (((ji8)).toNat * 3)).off + 2,none⟩=some (.int .i64 ((rd_T44 l0 (ji8)).f2))∧w'.cell? (ad473.add ((x3_1).toNat * 3))=some (.int .i64 ((rd_T44 l0 x3_1).f0))∧w'.cell? ⟨(ad473.add ((x3_1).toNat * 3)).block,(ad473.add ((x3_1).toNat * 3)).off + 1,none⟩=some (.int .i64 ((rd_T44 l0 x3_1).f1))∧w'.cell? ⟨(ad473.add ((x3_1).toNat * 3)).block,(ad473.add ((x3_1).toNat * 3)).off + 2,none⟩=some (.int .i64 ((rd_T44 l0 x3_1).f2))) (ds:=[]) #[F0,F0,F0,F0,F0,F0,F0,F0,F0,F0,F0,F0,F0,F0,F0,F0,F0,F0,F0,F0,F0,F0,F0,F0] (by kernel_rfl) rfl rfl ⟨((HB.out.cell (World.block_lt_of_cell? w _ hw473_0)).trans hw473_0),((HB.out.cell (World.block_lt_of_cell? w _ hw473_1)).trans hw473_1),((HB.out.cell (World.block_lt_of_cell? w _ hw473_2)).trans hw473_2),((HB.out.cell (World.block_lt_of_cell? w _ hw475_0)).trans hw475_0),((HB.out.cell (World.block_lt_of_cell? w _ hw475_1)).trans hw475_1),((HB.out.cell (World.block_lt_of_cell? w _ hw475_2)).trans hw475_2),((HB.out.cell (World.block_lt_of_cell? w _ hw476_0)).trans hw476_0),((HB.out.cell (World.block_lt_of_cell? w _ hw476_1)).trans hw476_1),((HB.out.cell (World.block_lt_of_cell? w _ hw476_2)).trans hw476_2)⟩ (fun hHeld=>?_);refine with_tabW spec_l23Sumps.tab4 spec_l23Sumps.bits4 (fun HT_ HW_=>?_)
          generalize wr.drew=w11 at HB hx473_0 hx473_1 hx473_2 hx475_0 hx475_1 hx475_2 hx476_0 hx476_1 hx476_2 hHeld ⊢
          refine pure_ (i:=0) (N:=some 10) (v:=?_) (a':=?_) #[T0,F0,F0,F0,F0,F0,F0,F0,F0,F0,F0,F0,F0,F0,F0,F0,F0,F0,F0,F0,F0,F0,F0,F0] rfl rfl (any_of HT_.out (by kernel_rfl)) (fun _ _ _ h=>h) (Or.inl ⟨by rfl,?_⟩) ?_ ?_
          rotate_left
          ·intro w'
           go_simp
           with_reducible rfl
          rotate_left
          ·simp only [Act.put,sI,sZ,sS,i64_w,i32_w]
           rfl
          refine pure_ (i:=1) (N:=some 11) (v:=?_) (a':=?_) #[T0,T0,F0,F0,F0,F0,F0,F0,F0,F0,F0,F0,F0,F0,F0,F0,F0,F0,F0,F0,F0,F0,F0,F0] rfl rfl (any_of HT_.out (by kernel_rfl)) (fun _ _ _ h=>h) (Or.inl ⟨by rfl,?_⟩) ?_ ?_
          rotate_left
          ·intro w'
           go_simp
           with_reducible rfl
          rotate_left
          ·simp only [Act.put,sI,sZ,sS,i64_w,i32_w]
           rfl
          refine pure_ (i:=2) (N:=some 12) (v:=?_) (a':=?_) #[T0,T0,T0,F0,F0,F0,F0,F0,F0,F0,F0,F0,F0,F0,F0,F0,F0,F0,F0,F0,F0,F0,F0,F0] rfl rfl (any_of HT_.out (by kernel_rfl)) (fun _ _ _ h=>h) (Or.inl ⟨by rfl,?_⟩) ?_ ?_
          rotate_left
          ·intro w'
           go_simp
           with_reducible rfl
          rotate_left
          ·simp only [Act.put,sI,sZ,sS,i64_w,i32_w]
           rfl
          refine take_ (i:=3) (N:=some 13) (v:=?_) (a':=?_) #[T0,T0,T0,T0,F0,F0,F0,F0,F0,F0,F0,F0,F0,F0,F0,F0,F0,F0,F0,F0,F0,F0,F0,F0] rfl rfl (take_ofW HT_.out HW_.out (by kernel_rfl)) (fun _ _ _ h=>h) (Or.inl ⟨by rfl,?_⟩) hHeld ?_ ?_
          rotate_left
          ·rintro w' ⟨s0,s1,s2,s3,s4,s5,s6,s7,s8⟩
           go_simp
           with_reducible rfl
          rotate_left
          ·simp only [Act.put,sI,sZ,sS,i64_w,i32_w]
           rfl
          refine one_ (i:=4) (N:=some 14) #[T0,T0,T0,T0,T0,F0,F0,F0,F0,F0,F0,F0,F0,F0,F0,F0,F0,F0,F0,F0,F0,F0,F0,F0] rfl rfl (one_of HT_.out (by kernel_rfl)) (by decide) (fun K hK=>?_)
          refine goes_ Try.func59 (by kernel_rfl) rfl #[.agg #[.int .i64 ((rd_T44 l0 x3_1).f0),.int .i64 ((rd_T44 l0 x3_1).f1),.int .i64 ((rd_T44 l0 x3_1).f2)]] (by rfl) rfl rfl mtt ?_
          with_reducible refine (spec_l23Sump.calls ((rd_T44 l0 x3_1).f0) ((rd_T44 l0 x3_1).f1) ((rd_T44 l0 x3_1).f2) true _ A5.out).mono ?_
          rintro e w12 ⟨rfl,hb⟩
          refine ⟨_,rfl,?_⟩
          have n0_:=amk (below_step (bel HB) hb)
          clear HB
          have HB:=n0_
          clear n0_
          (try clear hb)
          (try clear hb2)
          (try clear hk)
          (try clear hi)
          refine hK.out _ _ ⟨((HB.out.cell (World.block_lt_of_cell? w _ hw473_0)).trans hw473_0),((HB.out.cell (World.block_lt_of_cell? w _ hw473_1)).trans hw473_1),((HB.out.cell (World.block_lt_of_cell? w _ hw473_2)).trans hw473_2),((HB.out.cell (World.block_lt_of_cell? w _ hw475_0)).trans hw475_0),((HB.out.cell (World.block_lt_of_cell? w _ hw475_1)).trans hw475_1),((HB.out.cell (World.block_lt_of_cell? w _ hw475_2)).trans hw475_2),((HB.out.cell (World.block_lt_of_cell? w _ hw476_0)).trans hw476_0),((HB.out.cell (World.block_lt_of_cell? w _ hw476_1)).trans hw476_1),((HB.out.cell (World.block_lt_of_cell? w _ hw476_2)).trans hw476_2)⟩ (fun hHeld=>?_)
          clear hK K
          refine norm_ (a':=?_) ?_ ?_
          rotate_left
          ·show Act.put _ (some 14) _=_
           simp only [Act.put,sI,sZ,sS,i64_w,i32_w]
           rfl
          refine pure_ (i:=5) (N:=some 15) (v:=?_) (a':=?_) #[T0,T0,T0,T0,T0,T0,F0,F0,F0,F0,F0,F0,F0,F0,F0,F0,F0,F0,F0,F0,F0,F0,F0,F0] rfl rfl (any_of HT_.out (by kernel_rfl)) (fun _ _ _ h=>h) (Or.inl ⟨by rfl,?_⟩) ?_ ?_
          rotate_left
          ·intro w'
           go_simp
           with_reducible rfl
          rotate_left
          ·simp only [Act.put,sI,sZ,sS,i64_w,i32_w]
           rfl
          refine pure_ (i:=6) (N:=some 16) (v:=?_) (a':=?_) #[T0,T0,T0,T0,T0,T0,T0,F0,F0,F0,F0,F0,F0,F0,F0,F0,F0,F0,F0,F0,F0,F0,F0,F0] rfl rfl (any_of HT_.out (by kernel_rfl)) (fun _ _ _ h=>h) (Or.inl ⟨by rfl,?_⟩) ?_ ?_
          rotate_left
          ·intro w'
           go_simp
           with_reducible rfl
          rotate_left
          ·simp only [Act.put,sI,sZ,sS,i64_w,i32_w]
           rfl
          refine pure_ (i:=7) (N:=some 17) (v:=?_) (a':=?_) #[T0,T0,T0,T0,T0,T0,T0,T0,F0,F0,F0,F0,F0,F0,F0,F0,F0,F0,F0,F0,F0,F0,F0,F0] rfl rfl (any_of HT_.out (by kernel_rfl)) (fun _ _ _ h=>h) (Or.inl ⟨by rfl,?_⟩) ?_ ?_
          rotate_left
          ·intro w'
           go_simp
           with_reducible rfl
          rotate_left
          ·simp only [Act.put,sI,sZ,sS,i64_w,i32_w]
           rfl
          refine pure_ (i:=8) (N:=some 18) (v:=?_) (a':=?_) #[T0,T0,T0,T0,T0,T0,T0,T0,T0,F0,F0,F0,F0,F0,F0,F0,F0,F0,F0,F0,F0,F0,F0,F0] rfl rfl (any_of HT_.out (by kernel_rfl)) (fun _ _ _ h=>h) (Or.inl ⟨by rfl,?_⟩) ?_ ?_
          rotate_left
          ·intro w'
           go_simp
           with_reducible rfl
          rotate_left
          ·simp only [Act.put,sI,sZ,sS,i64_w,i32_w]
           rfl
          refine pure_ (i:=9) (N:=some 19) (v:=?_) (a':=?_) #[T0,T0,T0,T0,T0,T0,T0,T0,T0,T0,F0,F0,F0,F0,F0,F0,F0,F0,F0,F0,F0,F0,F0,F0] rfl rfl (any_of HT_.out (by kernel_rfl)) (fun _ _ _ h=>h) (Or.inl ⟨by rfl,?_⟩) ?_ ?_
          rotate_left
          ·intro w'
           go_simp
           with_reducible rfl
          rotate_left
          ·simp only [Act.put,sI,sZ,sS,i64_w,i32_w]
           rfl
          refine pure_ (i:=10) (N:=some 20) (v:=?_) (a':=?_) #[T0,T0,T0,T0,T0,T0,T0,T0,T0,T0,T0,F0,F0,F0,F0,F0,F0,F0,F0,F0,F0,F0,F0,F0] rfl rfl (any_of HT_.out (by kernel_rfl)) (fun _ _ _ h=>h) (Or.inl ⟨by rfl,?_⟩) ?_ ?_
          rotate_left
          ·intro w'
           go_simp
           with_reducible rfl
          rotate_left
          ·simp only [Act.put,sI,sZ,sS,i64_w,i32_w]
           rfl
          refine pure_ (i:=11) (N:=some 21) (v:=?_) (a':=?_) #[T0,T0,T0,T0,T0,T0,T0,T0,T0,T0,T0,T0,F0,F0,F0,F0,F0,F0,F0,F0,F0,F0,F0,F0] rfl rfl (any_of HT_.out (by kernel_rfl)) (fun _ _ _ h=>h) (Or.inl ⟨by rfl,?_⟩) ?_ ?_
          rotate_left
          ·intro w'
           go_simp
           with_reducible rfl
          rotate_left
          ·simp only [Act.put,sI,sZ,sS,i64_w,i32_w]
           rfl
          refine pure_ (i:=12) (N:=some 22) (v:=?_) (a':=?_) #[T0,T0,T0,T0,T0,T0,T0,T0,T0,T0,T0,T0,T0,F0,F0,F0,F0,F0,F0,F0,F0,F0,F0,F0] rfl rfl (any_of HT_.out (by kernel_rfl)) (fun _ _ _ h=>h) (Or.inl ⟨by rfl,?_⟩) ?_ ?_
          rotate_left
          ·intro w'
           go_simp
           with_reducible rfl
          rotate_left
          ·simp only [Act.put,sI,sZ,sS,i64_w,i32_w]
           rfl
          refine pure_ (i:=13) (N:=some 23) (v:=?_) (a':=?_) #[T0,T0,T0,T0,T0,T0,T0,T0,T0,T0,T0,T0,T0,T0,F0,F0,F0,F0,F0,F0,F0,F0,F0,F0] rfl rfl (any_of HT_.out (by kernel_rfl)) (fun _ _ _ h=>h) (Or.inl ⟨by rfl,?_⟩) ?_ ?_
          rotate_left
          ·intro w'
           go_simp
           with_reducible rfl
          rotate_left
          ·simp only [Act.put,sI,sZ,sS,i64_w,i32_w]
           rfl
          refine pure_ (i:=14) (N:=some 24) (v:=?_) (a':=?_) #[T0,T0,T0,T0,T0,T0,T0,T0,T0,T0,T0,T0,T0,T0,T0,F0,F0,F0,F0,F0,F0,F0,F0,F0] rfl rfl (any_of HT_.out (by kernel_rfl)) (fun _ _ _ h=>h) (Or.inl ⟨by rfl,?_⟩) ?_ ?_
          rotate_left
          ·intro w'
           go_simp
           with_reducible rfl
          rotate_left
          ·simp only [Act.put,sI,sZ,sS,i64_w,i32_w]
           rfl
          refine pure_ (i:=16) (N:=some 26) (v:=?_) (a':=?_) #[T0,T0,T0,T0,T0,T0,T0,T0,T0,T0,T0,T0,T0,T0,T0,F0,T0,F0,F0,F0,F0,F0,F0,F0] rfl rfl (any_of HT_.out (by kernel_rfl)) (fun _ _ _ h=>h) (Or.inl ⟨by rfl,?_⟩) ?_ ?_
          rotate_left
          ·intro w'
           go_simp
           with_reducible rfl
          rotate_left
          ·simp only [Act.put,sI,sZ,sS,i64_w,i32_w]
           rfl
          refine pure_ (i:=17) (N:=some 27) (v:=?_) (a':=?_) #[T0,T0,T0,T0,T0,T0,T0,T0,T0,T0,T0,T0,T0,T0,T0,F0,T0,T0,F0,F0,F0,F0,F0,F0] rfl rfl (any_of HT_.out (by kernel_rfl)) (fun _ _ _ h=>h) (Or.inl ⟨by rfl,?_⟩) ?_ ?_
          rotate_left
          ·intro w'
           go_simp
           with_reducible rfl
          rotate_left
          ·simp only [Act.put,sI,sZ,sS,i64_w,i32_w]
           rfl
          refine pure_ (i:=18) (N:=some 28) (v:=?_) (a':=?_) #[T0,T0,T0,T0,T0,T0,T0,T0,T0,T0,T0,T0,T0,T0,T0,F0,T0,T0,T0,F0,F0,F0,F0,F0] rfl rfl (any_of HT_.out (by kernel_rfl)) (fun _ _ _ h=>h) (Or.inl ⟨by rfl,?_⟩) ?_ ?_
          rotate_left
          ·intro w'
           go_simp
           with_reducible rfl
          rotate_left
          ·simp only [Act.put,sI,sZ,sS,i64_w,i32_w]
           rfl
          refine pure_ (i:=19) (N:=some 29) (v:=?_) (a':=?_) #[T0,T0,T0,T0,T0,T0,T0,T0,T0,T0,T0,T0,T0,T0,T0,F0,T0,T0,T0,T0,F0,F0,F0,F0] rfl rfl (any_of HT_.out (by kernel_rfl)) (fun _ _ _ h=>h) (Or.inl ⟨by rfl,?_⟩) ?_ ?_
          rotate_left
          ·intro w'
           go_simp
           with_reducible rfl
          rotate_left
          ·simp only [Act.put,sI,sZ,sS,i64_w,i32_w]
           rfl
          refine take_ (i:=15) (N:=some 25) (v:=?_) (a':=?_) #[T0,T0,T0,T0,T0,T0,T0,T0,T0,T0,T0,T0,T0,T0,T0,T0,T0,T0,T0,T0,F0,F0,F0,F0] rfl rfl (take_ofW HT_.out HW_.out (by kernel_rfl)) (fun _ _ _ h=>h) (Or.inl ⟨by rfl,?_⟩) hHeld ?_ ?_
          rotate_left
          ·rintro w' ⟨s0,s1,s2,s3,s4,s5,s6,s7,s8⟩
           go_simp
           with_reducible rfl
          rotate_left
          ·simp only [Act.put,sI,sZ,sS,i64_w,i32_w]
           rfl
          refine take_ (i:=20) (N:=some 30) (v:=?_) (a':=?_) #[T0,T0,T0,T0,T0,T0,T0,T0,T0,T0,T0,T0,T0,T0,T0,T0,T0,T0,T0,T0,T0,F0,F0,F0] rfl rfl (take_ofW HT_.out HW_.out (by kernel_rfl)) (fun _ _ _ h=>h) (Or.inl ⟨by rfl,?_⟩) hHeld ?_ ?_
          rotate_left
          ·rintro w' ⟨s0,s1,s2,s3,s4,s5,s6,s7,s8⟩
           go_simp
           with_reducible rfl
          rotate_left
          ·simp only [Act.put,sI,sZ,sS,i64_w,i32_w]
           rfl
          refine pure_ (i:=21) (N:=some 31) (v:=?_) (a':=?_) #[T0,T0,T0,T0,T0,T0,T0,T0,T0,T0,T0,T0,T0,T0,T0,T0,T0,T0,T0,T0,T0,T0,F0,F0] rfl rfl (any_of HT_.out (by kernel_rfl)) (fun _ _ _ h=>h) (Or.inl ⟨by rfl,?_⟩) ?_ ?_
          rotate_left
          ·intro w'
           go_simp
           with_reducible rfl
          rotate_left
          ·simp only [Act.put,sI,sZ,sS,i64_w,i32_w]
           rfl
          refine pure_ (i:=22) (N:=some 32) (v:=?_) (a':=?_) #[T0,T0,T0,T0,T0,T0,T0,T0,T0,T0,T0,T0,T0,T0,T0,T0,T0,T0,T0,T0,T0,T0,T0,F0] rfl rfl (any_of HT_.out (by kernel_rfl)) (fun _ _ _ h=>h) (Or.inl ⟨by rfl,?_⟩) ?_ ?_
          rotate_left
          ·intro w'
           go_simp
           with_reducible rfl
          rotate_left
          ·simp only [Act.put,sI,sZ,sS,i64_w,i32_w]
           rfl
          refine pure_ (i:=23) (N:=some 33) (v:=?_) (a':=?_) #[T0,T0,T0,T0,T0,T0,T0,T0,T0,T0,T0,T0,T0,T0,T0,T0,T0,T0,T0,T0,T0,T0,T0,T0] rfl rfl (any_of HT_.out (by kernel_rfl)) (fun _ _ _ h=>h) (Or.inl ⟨by rfl,?_⟩) ?_ ?_
          rotate_left
          ·intro w'
           go_simp
           with_reducible rfl
          rotate_left
          ·simp only [Act.put,sI,sZ,sS,i64_w,i32_w]
           rfl
          refine done_ (done_of HT_.out (by kernel_rfl)) ?_
          try go_wp2
          go_meet
          case rel=>exact ⟨_,(decide (((rd_T44 l0 (ji8)).f0) ≥ ((rd_T44 l0 x3_1).f0))),(by first | rfl | (simp;done)|(simp only [← hji8] <;> (first | rfl | simp))|(simp [*];done)),H',⟨by have:=HK1.out;first | omega | exact Nat.le_refl _⟩,⟨bel HB⟩⟩
         ·rw [if_neg c10] at H
          exact absurd H (by simp)
        ·rw [if_neg c9] at H
         exact absurd H (by simp)
       ·rw [if_neg c7] at H
        have c7b0 : decide (0 < x3_1)=false:=decide_eq_false c7
        clear c7
        have H':=amk H
        clear H
        try go_wp2
        have n0_:=amk (below_drew1 HB.out)
        clear HB
        have HB:=n0_
        clear n0_
        have p473 : 0≤(x3_1 : Int):=of_decide_eq_true ass
        have q473 : x3_1 < (l0.length : Int):=of_decide_eq_true ass
        obtain ⟨ad473,e473,hx473_0,hx473_1,hx473_2⟩:=at_T44 HR0.out x3_1 p473 q473
        have hw473_2:=hx473_2
        have hw473_1:=hx473_1
        have hw473_0:=hx473_0
        cases e473
        replace hx473_0:=(HB.out.cell (World.block_lt_of_cell? w _ hx473_0)).trans hx473_0
        replace hx473_1:=(HB.out.cell (World.block_lt_of_cell? w _ hx473_1)).trans hx473_1
        replace hx473_2:=(HB.out.cell (World.block_lt_of_cell? w _ hx473_2)).trans hx473_2
        replace p473:=eq_true p473
        replace q473:=eq_true q473
        refine start_ (n:=24) (S:=fun w'=>w'.cell? (ad473.add ((x3_1).toNat * 3))=some (.int .i64 ((rd_T44 l0 x3_1).f0))∧w'.cell? ⟨(ad473.add ((x3_1).toNat * 3)).block,(ad473.add ((x3_1).toNat * 3)).off + 1,none⟩=some (.int .i64 ((rd_T44 l0 x3_1).f1))∧w'.cell? ⟨(ad473.add ((x3_1).toNat * 3)).block,(ad473.add ((x3_1).toNat * 3)).off + 2,none⟩=some (.int .i64 ((rd_T44 l0 x3_1).f2))) (ds:=[]) #[F0,F0,F0,F0,F0,F0,F0,F0,F0,F0,F0,F0,F0,F0,F0,F0,F0,F0,F0,F0,F0,F0,F0,F0] (by kernel_rfl) rfl rfl ⟨((HB.out.cell (World.block_lt_of_cell? w _ hw473_0)).trans hw473_0),((HB.out.cell (World.block_lt_of_cell? w _ hw473_1)).trans hw473_1),((HB.out.cell (World.block_lt_of_cell? w _ hw473_2)).trans hw473_2)⟩ (fun hHeld=>?_);refine with_tabW spec_l23Sumps.tab4 spec_l23Sumps.bits4 (fun HT_ HW_=>?_)
        generalize wr.drew=w13 at HB hx473_0 hx473_1 hx473_2 hHeld ⊢
        refine pure_ (i:=0) (N:=some 10) (v:=?_) (a':=?_) #[T0,F0,F0,F0,F0,F0,F0,F0,F0,F0,F0,F0,F0,F0,F0,F0,F0,F0,F0,F0,F0,F0,F0,F0] rfl rfl (any_of HT_.out (by kernel_rfl)) (fun _ _ _ h=>h) (Or.inl ⟨by rfl,?_⟩) ?_ ?_
        rotate_left
        ·intro w'
         go_simp
         with_reducible rfl
        rotate_left
        ·simp only [Act.put,sI,sZ,sS,i64_w,i32_w]
         rfl
        refine pure_ (i:=1) (N:=some 11) (v:=?_) (a':=?_) #[T0,T0,F0,F0,F0,F0,F0,F0,F0,F0,F0,F0,F0,F0,F0,F0,F0,F0,F0,F0,F0,F0,F0,F0] rfl rfl (any_of HT_.out (by kernel_rfl)) (fun _ _ _ h=>h) (Or.inl ⟨by rfl,?_⟩) ?_ ?_
        rotate_left
        ·intro w'
         go_simp
         with_reducible rfl
        rotate_left
        ·simp only [Act.put,sI,sZ,sS,i64_w,i32_w]
         rfl
        refine pure_ (i:=2) (N:=some 12) (v:=?_) (a':=?_) #[T0,T0,T0,F0,F0,F0,F0,F0,F0,F0,F0,F0,F0,F0,F0,F0,F0,F0,F0,F0,F0,F0,F0,F0] rfl rfl (any_of HT_.out (by kernel_rfl)) (fun _ _ _ h=>h) (Or.inl ⟨by rfl,?_⟩) ?_ ?_
        rotate_left
        ·intro w'
         go_simp
         with_reducible rfl
        rotate_left
        ·simp only [Act.put,sI,sZ,sS,i64_w,i32_w]
         rfl
        refine take_ (i:=3) (N:=some 13) (v:=?_) (a':=?_) #[T0,T0,T0,T0,F0,F0,F0,F0,F0,F0,F0,F0,F0,F0,F0,F0,F0,F0,F0,F0,F0,F0,F0,F0] rfl rfl (take_ofW HT_.out HW_.out (by kernel_rfl)) (fun _ _ _ h=>h) (Or.inl ⟨by rfl,?_⟩) hHeld ?_ ?_
        rotate_left
        ·rintro w' ⟨s0,s1,s2⟩
         go_simp
         with_reducible rfl
        rotate_left
        ·simp only [Act.put,sI,sZ,sS,i64_w,i32_w]
         rfl
        refine one_ (i:=4) (N:=some 14) #[T0,T0,T0,T0,T0,F0,F0,F0,F0,F0,F0,F0,F0,F0,F0,F0,F0,F0,F0,F0,F0,F0,F0,F0] rfl rfl (one_of HT_.out (by kernel_rfl)) (by decide) (fun K hK=>?_)
        refine goes_ Try.func59 (by kernel_rfl) rfl #[.agg #[.int .i64 ((rd_T44 l0 x3_1).f0),.int .i64 ((rd_T44 l0 x3_1).f1),.int .i64 ((rd_T44 l0 x3_1).f2)]] (by rfl) rfl rfl mtt ?_
        with_reducible refine (spec_l23Sump.calls ((rd_T44 l0 x3_1).f0) ((rd_T44 l0 x3_1).f1) ((rd_T44 l0 x3_1).f2) true _ A5.out).mono ?_
        rintro e w14 ⟨rfl,hb⟩
        refine ⟨_,rfl,?_⟩
        have n0_:=amk (below_step (bel HB) hb)
        clear HB
        have HB:=n0_
        clear n0_
        (try clear hb)
        (try clear hb2)
        (try clear hk)
        (try clear hi)
        refine hK.out _ _ ⟨((HB.out.cell (World.block_lt_of_cell? w _ hw473_0)).trans hw473_0),((HB.out.cell (World.block_lt_of_cell? w _ hw473_1)).trans hw473_1),((HB.out.cell (World.block_lt_of_cell? w _ hw473_2)).trans hw473_2)⟩ (fun hHeld=>?_)
        clear hK K
        refine norm_ (a':=?_) ?_ ?_
        rotate_left
        ·show Act.put _ (some 14) _=_
         simp only [Act.put,sI,sZ,sS,i64_w,i32_w]
         rfl
        refine pure_ (i:=5) (N:=some 15) (v:=?_) (a':=?_) #[T0,T0,T0,T0,T0,T0,F0,F0,F0,F0,F0,F0,F0,F0,F0,F0,F0,F0,F0,F0,F0,F0,F0,F0] rfl rfl (any_of HT_.out (by kernel_rfl)) (fun _ _ _ h=>h) (Or.inl ⟨by rfl,?_⟩) ?_ ?_
        rotate_left
        ·intro w'
         go_simp
         with_reducible rfl
        rotate_left
        ·simp only [Act.put,sI,sZ,sS,i64_w,i32_w]
         rfl
        refine pure_ (i:=6) (N:=some 16) (v:=?_) (a':=?_) #[T0,T0,T0,T0,T0,T0,T0,F0,F0,F0,F0,F0,F0,F0,F0,F0,F0,F0,F0,F0,F0,F0,F0,F0] rfl rfl (any_of HT_.out (by kernel_rfl)) (fun _ _ _ h=>h) (Or.inl ⟨by rfl,?_⟩) ?_ ?_
        rotate_left
        ·intro w'
         go_simp
         with_reducible rfl
        rotate_left
        ·simp only [Act.put,sI,sZ,sS,i64_w,i32_w]
         rfl
        refine pure_ (i:=7) (N:=some 17) (v:=?_) (a':=?_) #[T0,T0,T0,T0,T0,T0,T0,T0,F0,F0,F0,F0,F0,F0,F0,F0,F0,F0,F0,F0,F0,F0,F0,F0] rfl rfl (any_of HT_.out (by kernel_rfl)) (fun _ _ _ h=>h) (Or.inl ⟨by rfl,?_⟩) ?_ ?_
        rotate_left
        ·intro w'
         go_simp
         with_reducible rfl
        rotate_left
        ·simp only [Act.put,sI,sZ,sS,i64_w,i32_w]
         rfl
        refine pure_ (i:=8) (N:=some 18) (v:=?_) (a':=?_) #[T0,T0,T0,T0,T0,T0,T0,T0,T0,F0,F0,F0,F0,F0,F0,F0,F0,F0,F0,F0,F0,F0,F0,F0] rfl rfl (any_of HT_.out (by kernel_rfl)) (fun _ _ _ h=>h) (Or.inl ⟨by rfl,?_⟩) ?_ ?_
        rotate_left
        ·intro w'
         go_simp
         with_reducible rfl
        rotate_left
        ·simp only [Act.put,sI,sZ,sS,i64_w,i32_w]
         rfl
        refine pure_ (i:=9) (N:=some 19) (v:=?_) (a':=?_) #[T0,T0,T0,T0,T0,T0,T0,T0,T0,T0,F0,F0,F0,F0,F0,F0,F0,F0,F0,F0,F0,F0,F0,F0] rfl rfl (any_of HT_.out (by kernel_rfl)) (fun _ _ _ h=>h) (Or.inl ⟨by rfl,?_⟩) ?_ ?_
        rotate_left
        ·intro w'
         go_simp
         with_reducible rfl
        rotate_left
        ·simp only [Act.put,sI,sZ,sS,i64_w,i32_w]
         rfl
        refine pure_ (i:=10) (N:=some 20) (v:=undef) (a':=?_) #[T0,T0,T0,T0,T0,T0,T0,T0,T0,T0,T0,F0,F0,F0,F0,F0,F0,F0,F0,F0,F0,F0,F0,F0] rfl rfl (any_of HT_.out (by kernel_rfl)) (fun _ _ _ h=>h) (Or.inr ⟨by rfl,rfl⟩) ?_ ?_
        rotate_left
        ·simp only [Act.put,sI,sZ,sS,i64_w,i32_w]
         rfl
        refine pure_ (i:=11) (N:=some 21) (v:=undef) (a':=?_) #[T0,T0,T0,T0,T0,T0,T0,T0,T0,T0,T0,T0,F0,F0,F0,F0,F0,F0,F0,F0,F0,F0,F0,F0] rfl rfl (any_of HT_.out (by kernel_rfl)) (fun _ _ _ h=>h) (Or.inr ⟨by rfl,rfl⟩) ?_ ?_
        rotate_left
        ·simp only [Act.put,sI,sZ,sS,i64_w,i32_w]
         rfl
        refine pure_ (i:=12) (N:=some 22) (v:=undef) (a':=?_) #[T0,T0,T0,T0,T0,T0,T0,T0,T0,T0,T0,T0,T0,F0,F0,F0,F0,F0,F0,F0,F0,F0,F0,F0] rfl rfl (any_of HT_.out (by kernel_rfl)) (fun _ _ _ h=>h) (Or.inr ⟨by rfl,rfl⟩) ?_ ?_
        rotate_left
        ·simp only [Act.put,sI,sZ,sS,i64_w,i32_w]
         rfl
        refine pure_ (i:=13) (N:=some 23) (v:=undef) (a':=?_) #[T0,T0,T0,T0,T0,T0,T0,T0,T0,T0,T0,T0,T0,T0,F0,F0,F0,F0,F0,F0,F0,F0,F0,F0] rfl rfl (any_of HT_.out (by kernel_rfl)) (fun _ _ _ h=>h) (Or.inr ⟨by rfl,rfl⟩) ?_ ?_
        rotate_left
        ·simp only [Act.put,sI,sZ,sS,i64_w,i32_w]
         rfl
        refine pure_ (i:=14) (N:=some 24) (v:=undef) (a':=?_) #[T0,T0,T0,T0,T0,T0,T0,T0,T0,T0,T0,T0,T0,T0,T0,F0,F0,F0,F0,F0,F0,F0,F0,F0] rfl rfl (any_of HT_.out (by kernel_rfl)) (fun _ _ _ h=>h) (Or.inr ⟨by rfl,rfl⟩) ?_ ?_
        rotate_left
        ·simp only [Act.put,sI,sZ,sS,i64_w,i32_w]
         rfl
        refine pure_ (i:=15) (N:=some 25) (v:=undef) (a':=?_) #[T0,T0,T0,T0,T0,T0,T0,T0,T0,T0,T0,T0,T0,T0,T0,T0,F0,F0,F0,F0,F0,F0,F0,F0] rfl rfl (any_of HT_.out (by kernel_rfl)) (fun _ _ _ h=>h) (Or.inr ⟨by rfl,rfl⟩) ?_ ?_
        rotate_left
        ·simp only [Act.put,sI,sZ,sS,i64_w,i32_w]
         rfl
        refine pure_ (i:=16) (N:=some 26) (v:=undef) (a':=?_) #[T0,T0,T0,T0,T0,T0,T0,T0,T0,T0,T0,T0,T0,T0,T0,T0,T0,F0,F0,F0,F0,F0,F0,F0] rfl rfl (any_of HT_.out (by kernel_rfl)) (fun _ _ _ h=>h) (Or.inr ⟨by rfl,rfl⟩) ?_ ?_
        rotate_left
        ·simp only [Act.put,sI,sZ,sS,i64_w,i32_w]
         rfl
        refine pure_ (i:=17) (N:=some 27) (v:=undef) (a':=?_) #[T0,T0,T0,T0,T0,T0,T0,T0,T0,T0,T0,T0,T0,T0,T0,T0,T0,T0,F0,F0,F0,F0,F0,F0] rfl rfl (any_of HT_.out (by kernel_rfl)) (fun _ _ _ h=>h) (Or.inr ⟨by rfl,rfl⟩) ?_ ?_
        rotate_left
        ·simp only [Act.put,sI,sZ,sS,i64_w,i32_w]
         rfl
        refine pure_ (i:=18) (N:=some 28) (v:=undef) (a':=?_) #[T0,T0,T0,T0,T0,T0,T0,T0,T0,T0,T0,T0,T0,T0,T0,T0,T0,T0,T0,F0,F0,F0,F0,F0] rfl rfl (any_of HT_.out (by kernel_rfl)) (fun _ _ _ h=>h) (Or.inr ⟨by rfl,rfl⟩) ?_ ?_
        rotate_left
        ·simp only [Act.put,sI,sZ,sS,i64_w,i32_w]
         rfl
        refine pure_ (i:=19) (N:=some 29) (v:=undef) (a':=?_) #[T0,T0,T0,T0,T0,T0,T0,T0,T0,T0,T0,T0,T0,T0,T0,T0,T0,T0,T0,T0,F0,F0,F0,F0] rfl rfl (any_of HT_.out (by kernel_rfl)) (fun _ _ _ h=>h) (Or.inr ⟨by rfl,rfl⟩) ?_ ?_
        rotate_left
        ·simp only [Act.put,sI,sZ,sS,i64_w,i32_w]
         rfl
        refine pure_ (i:=20) (N:=some 30) (v:=undef) (a':=?_) #[T0,T0,T0,T0,T0,T0,T0,T0,T0,T0,T0,T0,T0,T0,T0,T0,T0,T0,T0,T0,T0,F0,F0,F0] rfl rfl (any_of HT_.out (by kernel_rfl)) (fun _ _ _ h=>h) (Or.inr ⟨by rfl,rfl⟩) ?_ ?_
        rotate_left
        ·simp only [Act.put,sI,sZ,sS,i64_w,i32_w]
         rfl
        refine pure_ (i:=21) (N:=some 31) (v:=undef) (a':=?_) #[T0,T0,T0,T0,T0,T0,T0,T0,T0,T0,T0,T0,T0,T0,T0,T0,T0,T0,T0,T0,T0,T0,F0,F0] rfl rfl (any_of HT_.out (by kernel_rfl)) (fun _ _ _ h=>h) (Or.inr ⟨by rfl,rfl⟩) ?_ ?_
        rotate_left
        ·simp only [Act.put,sI,sZ,sS,i64_w,i32_w]
         rfl
        refine pure_ (i:=22) (N:=some 32) (v:=?_) (a':=?_) #[T0,T0,T0,T0,T0,T0,T0,T0,T0,T0,T0,T0,T0,T0,T0,T0,T0,T0,T0,T0,T0,T0,T0,F0] rfl rfl (any_of HT_.out (by kernel_rfl)) (fun _ _ _ h=>h) (Or.inl ⟨by rfl,?_⟩) ?_ ?_
        rotate_left
        ·intro w'
         go_simp
         with_reducible rfl
        rotate_left
        ·simp only [Act.put,sI,sZ,sS,i64_w,i32_w]
         rfl
        refine pure_ (i:=23) (N:=some 33) (v:=?_) (a':=?_) #[T0,T0,T0,T0,T0,T0,T0,T0,T0,T0,T0,T0,T0,T0,T0,T0,T0,T0,T0,T0,T0,T0,T0,T0] rfl rfl (any_of HT_.out (by kernel_rfl)) (fun _ _ _ h=>h) (Or.inl ⟨by rfl,?_⟩) ?_ ?_
        rotate_left
        ·intro w'
         go_simp
         with_reducible rfl
        rotate_left
        ·simp only [Act.put,sI,sZ,sS,i64_w,i32_w]
         rfl
        refine done_ (done_of HT_.out (by kernel_rfl)) ?_
        try go_wp2
        go_meet
        case rel=>exact ⟨_,(false),rsd,H',⟨by have:=HK1.out;first | omega | exact Nat.le_refl _⟩,⟨bel HB⟩⟩
      ·replace c6:=Bool.eq_false_iff.mpr c6
       subst c6
       have H1 : (spec_l23Sumps.j1 k1 l0 x3_1 true)=some r:=by rw [if_neg (show ¬ (false=true) by decide)] at H;exact H
       clear H
       have H:=H1
       clear H1
       have H':=amk H
       clear H
       try go_wp2
       have n0_:=amk (below_drew1 HB.out)
       clear HB
       have HB:=n0_
       clear n0_
       have p473 : 0≤(x3_1 : Int):=of_decide_eq_true ass
       have q473 : x3_1 < (l0.length : Int):=of_decide_eq_true ass
       obtain ⟨ad473,e473,hx473_0,hx473_1,hx473_2⟩:=at_T44 HR0.out x3_1 p473 q473
       have hw473_2:=hx473_2
       have hw473_1:=hx473_1
       have hw473_0:=hx473_0
       cases e473
       replace hx473_0:=(HB.out.cell (World.block_lt_of_cell? w _ hx473_0)).trans hx473_0
       replace hx473_1:=(HB.out.cell (World.block_lt_of_cell? w _ hx473_1)).trans hx473_1
       replace hx473_2:=(HB.out.cell (World.block_lt_of_cell? w _ hx473_2)).trans hx473_2
       replace p473:=eq_true p473
       replace q473:=eq_true q473
       refine start_ (n:=24) (S:=fun w'=>w'.cell? (ad473.add ((x3_1).toNat * 3))=some (.int .i64 ((rd_T44 l0 x3_1).f0))∧w'.cell? ⟨(ad473.add ((x3_1).toNat * 3)).block,(ad473.add ((x3_1).toNat * 3)).off + 1,none⟩=some (.int .i64 ((rd_T44 l0 x3_1).f1))∧w'.cell? ⟨(ad473.add ((x3_1).toNat * 3)).block,(ad473.add ((x3_1).toNat * 3)).off + 2,none⟩=some (.int .i64 ((rd_T44 l0 x3_1).f2))) (ds:=[]) #[F0,F0,F0,F0,F0,F0,F0,F0,F0,F0,F0,F0,F0,F0,F0,F0,F0,F0,F0,F0,F0,F0,F0,F0] (by kernel_rfl) rfl rfl ⟨((HB.out.cell (World.block_lt_of_cell? w _ hw473_0)).trans hw473_0),((HB.out.cell (World.block_lt_of_cell? w _ hw473_1)).trans hw473_1),((HB.out.cell (World.block_lt_of_cell? w _ hw473_2)).trans hw473_2)⟩ (fun hHeld=>?_);refine with_tabW spec_l23Sumps.tab4 spec_l23Sumps.bits4 (fun HT_ HW_=>?_)
       generalize wr.drew=w15 at HB hx473_0 hx473_1 hx473_2 hHeld ⊢
       refine pure_ (i:=0) (N:=some 10) (v:=?_) (a':=?_) #[T0,F0,F0,F0,F0,F0,F0,F0,F0,F0,F0,F0,F0,F0,F0,F0,F0,F0,F0,F0,F0,F0,F0,F0] rfl rfl (any_of HT_.out (by kernel_rfl)) (fun _ _ _ h=>h) (Or.inl ⟨by rfl,?_⟩) ?_ ?_
       rotate_left
       ·intro w'
        go_simp
        with_reducible rfl
       rotate_left
       ·simp only [Act.put,sI,sZ,sS,i64_w,i32_w]
        rfl
       refine pure_ (i:=1) (N:=some 11) (v:=?_) (a':=?_) #[T0,T0,F0,F0,F0,F0,F0,F0,F0,F0,F0,F0,F0,F0,F0,F0,F0,F0,F0,F0,F0,F0,F0,F0] rfl rfl (any_of HT_.out (by kernel_rfl)) (fun _ _ _ h=>h) (Or.inl ⟨by rfl,?_⟩) ?_ ?_
       rotate_left
       ·intro w'
        go_simp
        with_reducible rfl
       rotate_left
       ·simp only [Act.put,sI,sZ,sS,i64_w,i32_w]
        rfl
       refine pure_ (i:=2) (N:=some 12) (v:=?_) (a':=?_) #[T0,T0,T0,F0,F0,F0,F0,F0,F0,F0,F0,F0,F0,F0,F0,F0,F0,F0,F0,F0,F0,F0,F0,F0] rfl rfl (any_of HT_.out (by kernel_rfl)) (fun _ _ _ h=>h) (Or.inl ⟨by rfl,?_⟩) ?_ ?_
       rotate_left
       ·intro w'
        go_simp
        with_reducible rfl
       rotate_left
       ·simp only [Act.put,sI,sZ,sS,i64_w,i32_w]
        rfl
       refine take_ (i:=3) (N:=some 13) (v:=?_) (a':=?_) #[T0,T0,T0,T0,F0,F0,F0,F0,F0,F0,F0,F0,F0,F0,F0,F0,F0,F0,F0,F0,F0,F0,F0,F0] rfl rfl (take_ofW HT_.out HW_.out (by kernel_rfl)) (fun _ _ _ h=>h) (Or.inl ⟨by rfl,?_⟩) hHeld ?_ ?_
       rotate_left
       ·rintro w' ⟨s0,s1,s2⟩
        go_simp
        with_reducible rfl
       rotate_left
       ·simp only [Act.put,sI,sZ,sS,i64_w,i32_w]
        rfl
       refine one_ (i:=4) (N:=some 14) #[T0,T0,T0,T0,T0,F0,F0,F0,F0,F0,F0,F0,F0,F0,F0,F0,F0,F0,F0,F0,F0,F0,F0,F0] rfl rfl (one_of HT_.out (by kernel_rfl)) (by decide) (fun K hK=>?_)
       refine goes_ Try.func59 (by kernel_rfl) rfl #[.agg #[.int .i64 ((rd_T44 l0 x3_1).f0),.int .i64 ((rd_T44 l0 x3_1).f1),.int .i64 ((rd_T44 l0 x3_1).f2)]] (by rfl) rfl rfl mtt ?_
       with_reducible refine (spec_l23Sump.calls ((rd_T44 l0 x3_1).f0) ((rd_T44 l0 x3_1).f1) ((rd_T44 l0 x3_1).f2) false _ A5.out).mono ?_
       rintro e w16 ⟨rfl,hb⟩
       refine ⟨_,rfl,?_⟩
       have n0_:=amk (below_step (bel HB) hb)
       clear HB
       have HB:=n0_
       clear n0_
       (try clear hb)
       (try clear hb2)
       (try clear hk)
       (try clear hi)
       refine hK.out _ _ ⟨((HB.out.cell (World.block_lt_of_cell? w _ hw473_0)).trans hw473_0),((HB.out.cell (World.block_lt_of_cell? w _ hw473_1)).trans hw473_1),((HB.out.cell (World.block_lt_of_cell? w _ hw473_2)).trans hw473_2)⟩ (fun hHeld=>?_)
       clear hK K
       refine norm_ (a':=?_) ?_ ?_
       rotate_left
       ·show Act.put _ (some 14) _=_
        simp only [Act.put,sI,sZ,sS,i64_w,i32_w]
        rfl
       refine pure_ (i:=5) (N:=some 15) (v:=?_) (a':=?_) #[T0,T0,T0,T0,T0,T0,F0,F0,F0,F0,F0,F0,F0,F0,F0,F0,F0,F0,F0,F0,F0,F0,F0,F0] rfl rfl (any_of HT_.out (by kernel_rfl)) (fun _ _ _ h=>h) (Or.inl ⟨by rfl,?_⟩) ?_ ?_
       rotate_left
       ·intro w'
        go_simp
        with_reducible rfl
       rotate_left
       ·simp only [Act.put,sI,sZ,sS,i64_w,i32_w]
        rfl
       refine pure_ (i:=6) (N:=some 16) (v:=?_) (a':=?_) #[T0,T0,T0,T0,T0,T0,T0,F0,F0,F0,F0,F0,F0,F0,F0,F0,F0,F0,F0,F0,F0,F0,F0,F0] rfl rfl (any_of HT_.out (by kernel_rfl)) (fun _ _ _ h=>h) (Or.inl ⟨by rfl,?_⟩) ?_ ?_
       rotate_left
       ·intro w'
        go_simp
        with_reducible rfl
       rotate_left
       ·simp only [Act.put,sI,sZ,sS,i64_w,i32_w]
        rfl
       refine pure_ (i:=7) (N:=some 17) (v:=undef) (a':=?_) #[T0,T0,T0,T0,T0,T0,T0,T0,F0,F0,F0,F0,F0,F0,F0,F0,F0,F0,F0,F0,F0,F0,F0,F0] rfl rfl (any_of HT_.out (by kernel_rfl)) (fun _ _ _ h=>h) (Or.inr ⟨by rfl,rfl⟩) ?_ ?_
       rotate_left
       ·simp only [Act.put,sI,sZ,sS,i64_w,i32_w]
        rfl
       refine pure_ (i:=8) (N:=some 18) (v:=undef) (a':=?_) #[T0,T0,T0,T0,T0,T0,T0,T0,T0,F0,F0,F0,F0,F0,F0,F0,F0,F0,F0,F0,F0,F0,F0,F0] rfl rfl (any_of HT_.out (by kernel_rfl)) (fun _ _ _ h=>h) (Or.inr ⟨by rfl,rfl⟩) ?_ ?_
       rotate_left
       ·simp only [Act.put,sI,sZ,sS,i64_w,i32_w]
        rfl
       refine pure_ (i:=9) (N:=some 19) (v:=undef) (a':=?_) #[T0,T0,T0,T0,T0,T0,T0,T0,T0,T0,F0,F0,F0,F0,F0,F0,F0,F0,F0,F0,F0,F0,F0,F0] rfl rfl (any_of HT_.out (by kernel_rfl)) (fun _ _ _ h=>h) (Or.inr ⟨by rfl,rfl⟩) ?_ ?_
       rotate_left
       ·simp only [Act.put,sI,sZ,sS,i64_w,i32_w]
        rfl
       refine pure_ (i:=10) (N:=some 20) (v:=undef) (a':=?_) #[T0,T0,T0,T0,T0,T0,T0,T0,T0,T0,T0,F0,F0,F0,F0,F0,F0,F0,F0,F0,F0,F0,F0,F0] rfl rfl (any_of HT_.out (by kernel_rfl)) (fun _ _ _ h=>h) (Or.inr ⟨by rfl,rfl⟩) ?_ ?_
       rotate_left
       ·simp only [Act.put,sI,sZ,sS,i64_w,i32_w]
        rfl
       refine pure_ (i:=11) (N:=some 21) (v:=undef) (a':=?_) #[T0,T0,T0,T0,T0,T0,T0,T0,T0,T0,T0,T0,F0,F0,F0,F0,F0,F0,F0,F0,F0,F0,F0,F0] rfl rfl (any_of HT_.out (by kernel_rfl)) (fun _ _ _ h=>h) (Or.inr ⟨by rfl,rfl⟩) ?_ ?_
       rotate_left
       ·simp only [Act.put,sI,sZ,sS,i64_w,i32_w]
        rfl
       refine pure_ (i:=12) (N:=some 22) (v:=undef) (a':=?_) #[T0,T0,T0,T0,T0,T0,T0,T0,T0,T0,T0,T0,T0,F0,F0,F0,F0,F0,F0,F0,F0,F0,F0,F0] rfl rfl (any_of HT_.out (by kernel_rfl)) (fun _ _ _ h=>h) (Or.inr ⟨by rfl,rfl⟩) ?_ ?_
       rotate_left
       ·simp only [Act.put,sI,sZ,sS,i64_w,i32_w]
        rfl
       refine pure_ (i:=13) (N:=some 23) (v:=undef) (a':=?_) #[T0,T0,T0,T0,T0,T0,T0,T0,T0,T0,T0,T0,T0,T0,F0,F0,F0,F0,F0,F0,F0,F0,F0,F0] rfl rfl (any_of HT_.out (by kernel_rfl)) (fun _ _ _ h=>h) (Or.inr ⟨by rfl,rfl⟩) ?_ ?_
       rotate_left
       ·simp only [Act.put,sI,sZ,sS,i64_w,i32_w]
        rfl
       refine pure_ (i:=14) (N:=some 24) (v:=undef) (a':=?_) #[T0,T0,T0,T0,T0,T0,T0,T0,T0,T0,T0,T0,T0,T0,T0,F0,F0,F0,F0,F0,F0,F0,F0,F0] rfl rfl (any_of HT_.out (by kernel_rfl)) (fun _ _ _ h=>h) (Or.inr ⟨by rfl,rfl⟩) ?_ ?_
       rotate_left
       ·simp only [Act.put,sI,sZ,sS,i64_w,i32_w]
        rfl
       refine pure_ (i:=15) (N:=some 25) (v:=undef) (a':=?_) #[T0,T0,T0,T0,T0,T0,T0,T0,T0,T0,T0,T0,T0,T0,T0,T0,F0,F0,F0,F0,F0,F0,F0,F0] rfl rfl (any_of HT_.out (by kernel_rfl)) (fun _ _ _ h=>h) (Or.inr ⟨by rfl,rfl⟩) ?_ ?_
       rotate_left
       ·simp only [Act.put,sI,sZ,sS,i64_w,i32_w]
        rfl
       refine pure_ (i:=16) (N:=some 26) (v:=undef) (a':=?_) #[T0,T0,T0,T0,T0,T0,T0,T0,T0,T0,T0,T0,T0,T0,T0,T0,T0,F0,F0,F0,F0,F0,F0,F0] rfl rfl (any_of HT_.out (by kernel_rfl)) (fun _ _ _ h=>h) (Or.inr ⟨by rfl,rfl⟩) ?_ ?_
       rotate_left
       ·simp only [Act.put,sI,sZ,sS,i64_w,i32_w]
        rfl
       refine pure_ (i:=17) (N:=some 27) (v:=undef) (a':=?_) #[T0,T0,T0,T0,T0,T0,T0,T0,T0,T0,T0,T0,T0,T0,T0,T0,T0,T0,F0,F0,F0,F0,F0,F0] rfl rfl (any_of HT_.out (by kernel_rfl)) (fun _ _ _ h=>h) (Or.inr ⟨by rfl,rfl⟩) ?_ ?_
       rotate_left
       ·simp only [Act.put,sI,sZ,sS,i64_w,i32_w]
        rfl
       refine pure_ (i:=18) (N:=some 28) (v:=undef) (a':=?_) #[T0,T0,T0,T0,T0,T0,T0,T0,T0,T0,T0,T0,T0,T0,T0,T0,T0,T0,T0,F0,F0,F0,F0,F0] rfl rfl (any_of HT_.out (by kernel_rfl)) (fun _ _ _ h=>h) (Or.inr ⟨by rfl,rfl⟩) ?_ ?_
       rotate_left
       ·simp only [Act.put,sI,sZ,sS,i64_w,i32_w]
        rfl
       refine pure_ (i:=19) (N:=some 29) (v:=undef) (a':=?_) #[T0,T0,T0,T0,T0,T0,T0,T0,T0,T0,T0,T0,T0,T0,T0,T0,T0,T0,T0,T0,F0,F0,F0,F0] rfl rfl (any_of HT_.out (by kernel_rfl)) (fun _ _ _ h=>h) (Or.inr ⟨by rfl,rfl⟩) ?_ ?_
       rotate_left
       ·simp only [Act.put,sI,sZ,sS,i64_w,i32_w]
        rfl
       refine pure_ (i:=20) (N:=some 30) (v:=undef) (a':=?_) #[T0,T0,T0,T0,T0,T0,T0,T0,T0,T0,T0,T0,T0,T0,T0,T0,T0,T0,T0,T0,T0,F0,F0,F0] rfl rfl (any_of HT_.out (by kernel_rfl)) (fun _ _ _ h=>h) (Or.inr ⟨by rfl,rfl⟩) ?_ ?_
       rotate_left
       ·simp only [Act.put,sI,sZ,sS,i64_w,i32_w]
        rfl
       refine pure_ (i:=21) (N:=some 31) (v:=undef) (a':=?_) #[T0,T0,T0,T0,T0,T0,T0,T0,T0,T0,T0,T0,T0,T0,T0,T0,T0,T0,T0,T0,T0,T0,F0,F0] rfl rfl (any_of HT_.out (by kernel_rfl)) (fun _ _ _ h=>h) (Or.inr ⟨by rfl,rfl⟩) ?_ ?_
       rotate_left
       ·simp only [Act.put,sI,sZ,sS,i64_w,i32_w]
        rfl
       refine pure_ (i:=22) (N:=some 32) (v:=undef) (a':=?_) #[T0,T0,T0,T0,T0,T0,T0,T0,T0,T0,T0,T0,T0,T0,T0,T0,T0,T0,T0,T0,T0,T0,T0,F0] rfl rfl (any_of HT_.out (by kernel_rfl)) (fun _ _ _ h=>h) (Or.inr ⟨by rfl,rfl⟩) ?_ ?_
       rotate_left
       ·simp only [Act.put,sI,sZ,sS,i64_w,i32_w]
        rfl
       refine pure_ (i:=23) (N:=some 33) (v:=?_) (a':=?_) #[T0,T0,T0,T0,T0,T0,T0,T0,T0,T0,T0,T0,T0,T0,T0,T0,T0,T0,T0,T0,T0,T0,T0,T0] rfl rfl (any_of HT_.out (by kernel_rfl)) (fun _ _ _ h=>h) (Or.inl ⟨by rfl,?_⟩) ?_ ?_
       rotate_left
       ·intro w'
        go_simp
        with_reducible rfl
       rotate_left
       ·simp only [Act.put,sI,sZ,sS,i64_w,i32_w]
        rfl
       refine done_ (done_of HT_.out (by kernel_rfl)) ?_
       try go_wp2
       go_meet
       case rel=>exact ⟨_,(true),rsd,H',⟨by have:=HK1.out;first | omega | exact Nat.le_refl _⟩,⟨bel HB⟩⟩
     ·rw [if_neg c4] at H
      exact absurd H (by simp)
    case rest=>
     clear HC3
     try clear c1
     try clear p2
     try clear c4
     try clear p4
     try clear q4
     try clear hx4
     try clear c5
     try clear c6
     try clear c7
     try clear c7b0
     try clear c9
     try clear c10
     try clear hx473_0
     try clear hx473_1
     try clear hx473_2
     try clear hx475_0
     try clear hx475_1
     try clear hx475_2
     try clear hx476_0
     try clear hx476_1
     try clear hx476_2
     try clear p473
     try clear p475
     try clear p476
     try clear q473
     try clear q475
     try clear q476
     obtain ⟨kq,x33_2,rfl,HA,HJ2,HB⟩:=hcut
     cases kq with
     | zero=>exact absurd HA.out (by simp [spec_l23Sumps.j1])
     | succ kj2=>
      have H:=HA.out
      clear HA
      simp only [spec_l23Sumps.j1] at H
      by_cases c17 : x33_2=true
      ·subst c17
       have H1 : (some false)=some r:=by rw [if_pos rfl] at H;exact H
       clear H
       have H:=H1
       clear H1
       obtain rfl:=Option.some.inj H
       go_wp2
       go_ret
       exact ⟨erw0,bel HB⟩
      ·replace c17:=Bool.eq_false_iff.mpr c17
       subst c17
       have H1 : (spec_l23Sumps.l0 kj2 l0 (wrap64 (x3_1 + 1)))=some r:=by rw [if_neg (show ¬ (false=true) by decide)] at H;exact H
       clear H
       have H:=H1
       clear H1
       have H':=amk H
       clear H
       go_wp2
       go_roundg kj2
       case measure=>have:=HK1.out;have:=HJ2.out;omega
       case rel=>exact ⟨(wrap64 (x3_1 + 1)),rsd,H',⟨by have:=HK1.out;have:=HJ2.out;omega⟩,⟨bel HB⟩⟩
   ·rw [if_neg c2] at H
    have c2b0 : decide (x3_1 < (l0.length : Int))=false:=decide_eq_false c2
    clear c2
    obtain rfl:=Option.some.inj H
    go_wp2
    go_ret
    exact ⟨erw0,bel HB⟩
def spec_l23Closed.l0 : Nat→List (S30)→List (S44)→Int→List Int→Int→Option (List Int)
 | 0,_,_,_,_,_=>none
 | k + 1,x0,x1,x2,x7,x8=>if x8 < (x1.length : Int) then (if 0≤x8 then ((spec_l23Open.f k x0 ((rd_T44 x1 x8).f0) ((rd_T44 x1 x8).f1) ((rd_T44 x1 x8).f2) x2).bind fun t481=>(if t481=true then (spec_l23Closed.l0 k x0 x1 x2 x7 (wrap64 (x8 + 1))) else (if x7.length < 17592186044416 then (spec_l23Closed.l0 k x0 x1 x2 (x7 ++ [(rd_T44 x1 x8).f0]) (wrap64 (x8 + 1))) else (none)))) else (none)) else (some x7)
def spec_l23Closed.f (k : Nat) (l0 : List (S30)) (l1 : List (S44)) (a2 : Int) : Option (List Int):=spec_l23Closed.l0 k l0 l1 a2 (([] : List Int)) 0
theorem spec_l23Closed.mono_l : ∀ k,(∀ y0 y1 y2 y3 y4,LeO (spec_l23Closed.l0 k y0 y1 y2 y3 y4) (spec_l23Closed.l0 (k + 1) y0 y1 y2 y3 y4))
 | 0=>fun _ _ _ _ _ r h=>by simp [spec_l23Closed.l0] at h
 | k + 1=>by
  have ih0:=spec_l23Closed.mono_l k
  ·intro y0 y1 y2 y3 y4
   unfold spec_l23Closed.l0
   repeat' first
   | (with_reducible exact ih0 _ _ _ _ _)
   | (with_reducible exact spec_l23Open.mono _ _ _ _ _ _)
   | (with_reducible exact LeO.refl _)
   | (with_reducible exact LeO.none _)
   | (with_reducible refine LeO.ite ?_ ?_)
   | (with_reducible refine LeO.bind ?_ (fun _=>?_))
   | exact ih0 _ _ _ _ _
theorem spec_l23Closed.mono : ∀ a0 a1 a2 k,LeO (spec_l23Closed.f k a0 a1 a2) (spec_l23Closed.f (k + 1) a0 a1 a2):=by
 intro a0 a1 a2 k
 have ih0:=spec_l23Closed.mono_l k
 unfold spec_l23Closed.f
 repeat' first
   | (with_reducible exact ih0 _ _ _ _ _)
   | (with_reducible exact spec_l23Open.mono _ _ _ _ _ _)
   | (with_reducible exact LeO.refl _)
   | (with_reducible exact LeO.none _)
   | (with_reducible refine LeO.ite ?_ ?_)
   | (with_reducible refine LeO.bind ?_ (fun _=>?_))
   | exact ih0 _ _ _ _ _
set_option maxHeartbeats 8000000 in
set_option maxRecDepth 100000 in
theorem spec_l23Closed.calls (k : Nat) (A0 : Option Addr) (c0 : Nat) (l0 : List (S30)) (A1 : Option Addr) (c1 : Nat) (l1 : List (S44)) (a2 : Int) (r : List Int) (w : World) (hr0 : Kd.C k30 w A0 l0.length l0) (hc0 : l0.length≤c0) (hr1 : Kd.C k44 w A1 l1.length l1) (hc1 : l1.length≤c1) (h : spec_l23Closed.f k l0 l1 a2=some r) :
  Calls Try.prog 73 #[.slice A0 l0.length c0,.slice A1 l1.length c1,.int .i64 a2] w fun e w'=>∃ v0_ : Value,e = .returned (v0_)∧Kd.R (Kd.int .i64) 3 w' w.heap.size (fun _=>True) v0_ r∧Below w.heap.size w w':=by
 have hu44:=Try.underlying44
 have HR0:=amk hr0
 have HC0:=amk hc0
 clear hr0 hc0
 have HR1:=amk hr1
 have HC1:=amk hc1
 clear hr1 hc1
 have HB:=amk (Below.refl w.heap.size w)
 have H : (spec_l23Closed.l0 k l0 l1 a2 (([] : List Int)) 0)=some r:=h
 clear h
 obtain ⟨y477,hy477⟩ : ∃ y_ : List Int,y_=(([] : List Int)):=⟨_,rfl⟩
 replace H : (spec_l23Closed.l0 k l0 l1 a2 y477 0)=some r:=by first | (rw [hy477];with_reducible exact H)|(have H2_:=(Option.bind_some _ _).symm.trans H;rw [hy477];with_reducible exact H2_)|(have H2_:=(Option.bind_some _ _).symm.trans H;with_reducible exact H2_) | with_reducible exact H | (rw [hy477];exact H) | exact H
 have Ny477:=amk hy477
 clear hy477
 have H':=amk H
 clear H
 go_enter Try.func73,Try.ntmps73
 go_wp2_with (first | ((with_reducible refine gate_dst (N:=9) rfl ?_);refine Kd.R_lit (Kd.int .i64) _ 3 ?hg (N:=9) ?hd (xs:=([] : List Int)) (inner:=[]) (ok:=fun _=>True) (okp:=fun _=>True) ?hr ?hp (fun _ hk=>hk) trivial (Below.refl _ _) (Nat.le_refl _) (by simp) ?_;(case hd=>rfl);(case hg=>rfl);(case hr=>first | (go_simp;done)|(go_simp;rfl));(case hp=>exact (Reps.none _ _));intro v478 w4 ho5 hb hg_ hnew_;clear hg_ hnew_;(first | rw [← Ny477.out] at ho5 | (simp only [Int.reduceToNat] at ho5;rw [← Ny477.out] at ho5));have HO479:=amk (Kd.R_lower ho5 (below_size (bel HB)));replace HB:=amk (below_step (bel HB) hb);clear hb ho5))
 go_loopg [7,8] k (fun kq v7 v8 w'=>∃ (x7_1 : List Int) (x8_1 : Int),v8 = .int .i64 x8_1∧Aside0 (spec_l23Closed.l0 kq l0 l1 a2 x7_1 x8_1=some r)∧Aside0 (kq≤k)∧Aside0 (Kd.R (Kd.int .i64) 3 w' w.heap.size (fun _=>True) v7 x7_1)∧Aside0 (Below w.heap.size w w'))
 case atStart=>exact ⟨(y477),(0),rsd,H',⟨Nat.le_refl _⟩,⟨rrr HO479⟩,⟨bel HB⟩⟩
 case round=>
  clear H'
  try clear c1
  try clear p2
  obtain ⟨x7_1,x8_1,rfl,HA,HK1,HO_7,HB⟩:=hrel
  cases gk with
  | zero=>exact absurd HA.out (by simp [spec_l23Closed.l0])
  | succ k1=>
   have H:=HA.out
   clear HA
   simp only [spec_l23Closed.l0] at H
   by_cases c6 : x8_1 < (l1.length : Int)
   ·rw [if_pos c6] at H
    have c6b0 : decide (x8_1 < (l1.length : Int))=true:=decide_eq_true c6
    clear c6
    by_cases c7 : 0≤x8_1
    ·rw [if_pos c7] at H
     have c7b0 : decide (0≤x8_1)=true:=decide_eq_true c7
     clear c7
     replace H:=obs H
     obtain ⟨t481,A80,H⟩:=H
     replace H : (if t481=true then (spec_l23Closed.l0 k1 l0 l1 a2 x7_1 (wrap64 (x8_1 + 1))) else (if x7_1.length < 17592186044416 then (spec_l23Closed.l0 k1 l0 l1 a2 (x7_1 ++ [(rd_T44 l1 x8_1).f0]) (wrap64 (x8_1 + 1))) else (none)))=some r:=H
     have A8:=amk A80
     clear A80
     by_cases c9 : t481=true
     ·subst c9
      have H1 : (spec_l23Closed.l0 k1 l0 l1 a2 x7_1 (wrap64 (x8_1 + 1)))=some r:=by rw [if_pos rfl] at H;exact H
      clear H
      have H:=H1
      clear H1
      have H':=amk H
      clear H
      have p480 : 0≤(x8_1 : Int):=of_decide_eq_true ass
      have q480 : x8_1 < (l1.length : Int):=of_decide_eq_true ass
      obtain ⟨ad480,e480,hx480_0,hx480_1,hx480_2⟩:=at_T44 HR1.out x8_1 p480 q480
      cases e480
      replace hx480_0:=(HB.out.cell (World.block_lt_of_cell? w _ hx480_0)).trans hx480_0
      replace hx480_1:=(HB.out.cell (World.block_lt_of_cell? w _ hx480_1)).trans hx480_1
      replace hx480_2:=(HB.out.cell (World.block_lt_of_cell? w _ hx480_2)).trans hx480_2
      replace p480:=eq_true p480
      replace q480:=eq_true q480
      go_wp2_with (first | ((with_reducible refine gate_callee (f:=60) rfl ?_);refine goesL_ (some 22) rfl rfl Try.func60 (by kernel_rfl) rfl #[.slice A0 l0.length c0,.agg #[.int .i64 ((rd_T44 l1 x8_1).f0),.int .i64 ((rd_T44 l1 x8_1).f1),.int .i64 ((rd_T44 l1 x8_1).f2)],.int .i64 a2] rfl mtt ?_;(with_reducible refine (spec_l23Open.calls k1 _ _ l0 ((rd_T44 l1 x8_1).f0) ((rd_T44 l1 x8_1).f1) ((rd_T44 l1 x8_1).f2) a2 true _ ?side1 ?side2 A8.out).mono ?_);(case side1=>exact ccc (Kd.C_below HR0.out HB.out));(case side2=>exact HC0.out);rintro e w10 ⟨rfl,hb⟩;refine ⟨_,rfl,?_⟩;replace HO_7:=amk (Kd.R_below (rrr HO_7) hb);replace HB:=amk (below_step (bel HB) hb);(try clear hb)))
      go_roundg k1
      case measure=>have:=HK1.out;omega
      case rel=>exact ⟨(x7_1),(wrap64 (x8_1 + 1)),rsd,H',⟨by have:=HK1.out;omega⟩,⟨rrr HO_7⟩,⟨bel HB⟩⟩
     ·replace c9:=Bool.eq_false_iff.mpr c9
      subst c9
      have H1 : (if x7_1.length < 17592186044416 then (spec_l23Closed.l0 k1 l0 l1 a2 (x7_1 ++ [(rd_T44 l1 x8_1).f0]) (wrap64 (x8_1 + 1))) else (none))=some r:=by rw [if_neg (show ¬ (false=true) by decide)] at H;exact H
      clear H
      have H:=H1
      clear H1
      by_cases c11 : x7_1.length < 17592186044416
      ·rw [if_pos c11] at H
       have LMc11:=amk c11
       clear c11
       obtain ⟨y483,hy483⟩ : ∃ y_ : List Int,y_=(x7_1 ++ [(rd_T44 l1 x8_1).f0]):=⟨_,rfl⟩
       replace H : (spec_l23Closed.l0 k1 l0 l1 a2 y483 (wrap64 (x8_1 + 1)))=some r:=by first | (rw [hy483];with_reducible exact H)|(have H2_:=(Option.bind_some _ _).symm.trans H;rw [hy483];with_reducible exact H2_)|(have H2_:=(Option.bind_some _ _).symm.trans H;with_reducible exact H2_) | with_reducible exact H | (rw [hy483];exact H) | exact H
       have Ny483:=amk hy483
       clear hy483
       have H':=amk H
       clear H
       have p480 : 0≤(x8_1 : Int):=of_decide_eq_true ass
       have q480 : x8_1 < (l1.length : Int):=of_decide_eq_true ass
       obtain ⟨ad480,e480,hx480_0,hx480_1,hx480_2⟩:=at_T44 HR1.out x8_1 p480 q480
       cases e480
       replace hx480_0:=(HB.out.cell (World.block_lt_of_cell? w _ hx480_0)).trans hx480_0
       replace hx480_1:=(HB.out.cell (World.block_lt_of_cell? w _ hx480_1)).trans hx480_1
       replace hx480_2:=(HB.out.cell (World.block_lt_of_cell? w _ hx480_2)).trans hx480_2
       replace p480:=eq_true p480
       replace q480:=eq_true q480
       go_wp2_with (first | ((with_reducible refine gate_callee (f:=60) rfl ?_);refine goesL_ (some 22) rfl rfl Try.func60 (by kernel_rfl) rfl #[.slice A0 l0.length c0,.agg #[.int .i64 ((rd_T44 l1 x8_1).f0),.int .i64 ((rd_T44 l1 x8_1).f1),.int .i64 ((rd_T44 l1 x8_1).f2)],.int .i64 a2] rfl mtt ?_;(with_reducible refine (spec_l23Open.calls k1 _ _ l0 ((rd_T44 l1 x8_1).f0) ((rd_T44 l1 x8_1).f1) ((rd_T44 l1 x8_1).f2) a2 false _ ?side1 ?side2 A8.out).mono ?_);(case side1=>exact ccc (Kd.C_below HR0.out HB.out));(case side2=>exact HC0.out);rintro e w12 ⟨rfl,hb⟩;refine ⟨_,rfl,?_⟩;replace HO_7:=amk (Kd.R_below (rrr HO_7) hb);replace HB:=amk (below_step (bel HB) hb);(try clear hb);have p482 : 0≤(x8_1 : Int):=of_decide_eq_true ass;have q482 : x8_1 < (l1.length : Int):=of_decide_eq_true ass;obtain ⟨ad482,e482,hx482_0,hx482_1,hx482_2⟩:=at_T44 HR1.out x8_1 p482 q482;obtain rfl : ad480=ad482:=(by injection e482);replace hx482_0:=(HB.out.cell (World.block_lt_of_cell? w _ hx482_0)).trans hx482_0;replace hx482_1:=(HB.out.cell (World.block_lt_of_cell? w _ hx482_1)).trans hx482_1;replace hx482_2:=(HB.out.cell (World.block_lt_of_cell? w _ hx482_2)).trans hx482_2;replace p482:=eq_true p482;replace q482:=eq_true q482)|((with_reducible refine gate_builtin (b:=.append) (xs:=#[.tmp 24,.tmp 30]) rfl ?_);at_builtin;refine Kd.R_append (Kd.int .i64) (w0:=w) w.heap.size rfl (.tmp 24) (.tmp 30) 63 3 (.int .i64 0) 8 rfl Try.underlying63 info3 rfl (by decide) (by omega) u7 x7_1 ((rd_T44 l1 x8_1).f0) [.int .i64 ((rd_T44 l1 x8_1).f0)] (fun _=>True) (fun _=>False) rfl rfl ?aP (fun _ hk=>hk.elim) ?aF ?aO ?aB ?aS ?aL ?_;(case aP=>exact rfl);(case aB=>exact (bel HB));(case aF=>exact (fun _ _=>trivial));(case aO=>exact (rrr HO_7));(case aS=>exact (below_size (bel HB)));(case aL=>have:=LMc11.out;omega);intro v484 w13 ho hb hg hat;rw [← Ny483.out] at ho;replace HB:=amk (hb);have HO485:=amk (ho);clear HO_7;clear ho hb hg hat))
       go_roundg k1
       case measure=>have:=HK1.out;omega
       case rel=>exact ⟨(y483),(wrap64 (x8_1 + 1)),rsd,H',⟨by have:=HK1.out;omega⟩,⟨rrr HO485⟩,⟨bel HB⟩⟩
      ·rw [if_neg c11] at H
       exact absurd H (by simp)
    ·rw [if_neg c7] at H
     exact absurd H (by simp)
   ·rw [if_neg c6] at H
    have c6b0 : decide (x8_1 < (l1.length : Int))=false:=decide_eq_false c6
    clear c6
    obtain rfl:=Option.some.inj H
    go_wp2
    go_ret
    exact ⟨_,erw0,rrr HO_7,bel HB⟩
mutual
def spec_OpenFor.j0 : Nat→List (S30)→List (S44)→Int→Bool→Option (Int × Bool)
 | 0,_,_,_,_=>none
 | k + 1,x0,x1,x2,x22=>if x22=true then (some (0,false)) else (spec_OpenFor.l0 k x0 x1 x2 0 0)
def spec_OpenFor.l0 : Nat→List (S30)→List (S44)→Int→Int→Int→Option (Int × Bool)
 | 0,_,_,_,_,_=>none
 | k + 1,x0,x1,x2,x8,x9=>if x9≤999 then ((spec_l23Within.f k x0 x9).bind fun t489=>(if t489=true then ((spec_l23Closed.f k x0 x1 x9).bind fun t490=>(spec_OpenFor.j2 k x0 x1 x2 (wrap64 (x8 + 1)) x9 (decide ((t490.length : Int) > 0)))) else (spec_OpenFor.j2 k x0 x1 x2 (wrap64 (x8 + 1)) x9 true))) else (some (0,false))
def spec_OpenFor.j2 : Nat→List (S30)→List (S44)→Int→Int→Int→Bool→Option (Int × Bool)
 | 0,_,_,_,_,_,_=>none
 | k + 1,x0,x1,x2,x8,x9,x40=>if x40=true then (if 0=x2 then (some (wrap64 ((wrap64 (x9 - x2)) + 1),true)) else (spec_OpenFor.l0 k x0 x1 x2 0 (wrap64 (x9 + 1)))) else (if x8=x2 then (some (wrap64 ((wrap64 (x9 - x2)) + 1),true)) else (spec_OpenFor.l0 k x0 x1 x2 x8 (wrap64 (x9 + 1))))
end
def spec_OpenFor.f (k : Nat) (l0 : List (S30)) (l1 : List (S44)) (a2 : Int) : Option (Int × Bool):=(spec_l23Good.f k l0).bind fun t486=>(if t486=true then ((spec_l23Sumps.f k l1).bind fun t487=>(if t487=true then ((spec_l1In.f a2 1 100).bind fun t488=>(spec_OpenFor.j0 k l0 l1 a2 (!t488))) else (spec_OpenFor.j0 k l0 l1 a2 true))) else (spec_OpenFor.j0 k l0 l1 a2 true))
theorem spec_OpenFor.mono_l : ∀ k,(∀ y0 y1 y2 y3,LeO (spec_OpenFor.j0 k y0 y1 y2 y3) (spec_OpenFor.j0 (k + 1) y0 y1 y2 y3))∧(∀ y0 y1 y2 y3 y4,LeO (spec_OpenFor.l0 k y0 y1 y2 y3 y4) (spec_OpenFor.l0 (k + 1) y0 y1 y2 y3 y4))∧(∀ y0 y1 y2 y3 y4 y5,LeO (spec_OpenFor.j2 k y0 y1 y2 y3 y4 y5) (spec_OpenFor.j2 (k + 1) y0 y1 y2 y3 y4 y5))
 | 0=>⟨fun _ _ _ _ r h=>by simp [spec_OpenFor.j0] at h,fun _ _ _ _ _ r h=>by simp [spec_OpenFor.l0] at h,fun _ _ _ _ _ _ r h=>by simp [spec_OpenFor.j2] at h⟩
 | k + 1=>by
  obtain ⟨ih0,ih1,ih2⟩:=spec_OpenFor.mono_l k
  refine ⟨?_,?_,?_⟩
  ·intro y0 y1 y2 y3
   unfold spec_OpenFor.j0
   repeat' first
   | (with_reducible exact ih0 _ _ _ _)
   | (with_reducible exact ih1 _ _ _ _ _)
   | (with_reducible exact ih2 _ _ _ _ _ _)
   | (with_reducible exact spec_l23Closed.mono _ _ _ _)
   | (with_reducible exact spec_l23Good.mono _ _)
   | (with_reducible exact spec_l23Sumps.mono _ _)
   | (with_reducible exact spec_l23Within.mono _ _ _)
   | (with_reducible exact LeO.refl _)
   | (with_reducible exact LeO.none _)
   | (with_reducible refine LeO.ite ?_ ?_)
   | (with_reducible refine LeO.bind ?_ (fun _=>?_))
   | exact ih0 _ _ _ _
   | exact ih1 _ _ _ _ _
   | exact ih2 _ _ _ _ _ _
  ·intro y0 y1 y2 y3 y4
   unfold spec_OpenFor.l0
   repeat' first
   | (with_reducible exact ih0 _ _ _ _)
   | (with_reducible exact ih1 _ _ _ _ _)
   | (with_reducible exact ih2 _ _ _ _ _ _)
   | (with_reducible exact spec_l23Closed.mono _ _ _ _)
   | (with_reducible exact spec_l23Good.mono _ _)
   | (with_reducible exact spec_l23Sumps.mono _ _)
   | (with_reducible exact spec_l23Within.mono _ _ _)
   | (with_reducible exact LeO.refl _)
   | (with_reducible exact LeO.none _)
   | (with_reducible refine LeO.ite ?_ ?_)
   | (with_reducible refine LeO.bind ?_ (fun _=>?_))
   | exact ih0 _ _ _ _
   | exact ih1 _ _ _ _ _
   | exact ih2 _ _ _ _ _ _
  ·intro y0 y1 y2 y3 y4 y5
   unfold spec_OpenFor.j2
   repeat' first
   | (with_reducible exact ih0 _ _ _ _)
   | (with_reducible exact ih1 _ _ _ _ _)
   | (with_reducible exact ih2 _ _ _ _ _ _)
   | (with_reducible exact spec_l23Closed.mono _ _ _ _)
   | (with_reducible exact spec_l23Good.mono _ _)
   | (with_reducible exact spec_l23Sumps.mono _ _)
   | (with_reducible exact spec_l23Within.mono _ _ _)
   | (with_reducible exact LeO.refl _)
   | (with_reducible exact LeO.none _)
   | (with_reducible refine LeO.ite ?_ ?_)
   | (with_reducible refine LeO.bind ?_ (fun _=>?_))
   | exact ih0 _ _ _ _
   | exact ih1 _ _ _ _ _
   | exact ih2 _ _ _ _ _ _
theorem spec_OpenFor.mono : ∀ a0 a1 a2 k,LeO (spec_OpenFor.f k a0 a1 a2) (spec_OpenFor.f (k + 1) a0 a1 a2):=by
 intro a0 a1 a2 k
 obtain ⟨ih0,ih1,ih2⟩:=spec_OpenFor.mono_l k
 unfold spec_OpenFor.f
 repeat' first
   | (with_reducible exact ih0 _ _ _ _)
   | (with_reducible exact ih1 _ _ _ _ _)
   | (with_reducible exact ih2 _ _ _ _ _ _)
   | (with_reducible exact spec_l23Closed.mono _ _ _ _)
   | (with_reducible exact spec_l23Good.mono _ _)
   | (with_reducible exact spec_l23Sumps.mono _ _)
   | (with_reducible exact spec_l23Within.mono _ _ _)
   | (with_reducible exact LeO.refl _)
   | (with_reducible exact LeO.none _)
   | (with_reducible refine LeO.ite ?_ ?_)
   | (with_reducible refine LeO.bind ?_ (fun _=>?_))
   | exact ih0 _ _ _ _
   | exact ih1 _ _ _ _ _
   | exact ih2 _ _ _ _ _ _
set_option maxHeartbeats 8000000 in
set_option maxRecDepth 100000 in
theorem spec_OpenFor.calls (k : Nat) (A0 : Option Addr) (c0 : Nat) (l0 : List (S30)) (A1 : Option Addr) (c1 : Nat) (l1 : List (S44)) (a2 : Int) (r1 : Int) (r2 : Bool) (w : World) (hr0 : Kd.C k30 w A0 l0.length l0) (hc0 : l0.length≤c0) (hr1 : Kd.C k44 w A1 l1.length l1) (hc1 : l1.length≤c1) (h : spec_OpenFor.f k l0 l1 a2=some (r1,r2)) :
  Calls Try.prog 28 #[.slice A0 l0.length c0,.slice A1 l1.length c1,.int .i64 a2] w fun e w'=>e = .returned (.tuple #[.int .i64 r1,.bool r2])∧Below w.heap.size w w':=by
 have HR0:=amk hr0
 have HC0:=amk hc0
 clear hr0 hc0
 have HR1:=amk hr1
 have HC1:=amk hc1
 clear hr1 hc1
 have HB:=amk (Below.refl w.heap.size w)
 have H : ((spec_l23Good.f k l0).bind fun t486=>(if t486=true then ((spec_l23Sumps.f k l1).bind fun t487=>(if t487=true then ((spec_l1In.f a2 1 100).bind fun t488=>(spec_OpenFor.j0 k l0 l1 a2 (!t488))) else (spec_OpenFor.j0 k l0 l1 a2 true))) else (spec_OpenFor.j0 k l0 l1 a2 true)))=some (r1,r2):=h
 clear h
 have HC4:=amk H
 clear H
 go_enter Try.func28,Try.ntmps28
 go_upto_region 1 with (fail)
 go_cut [22] (fun v22 wc=>∃ (kq : Nat) (x22_3 : Bool),v22 = .bool x22_3∧Aside0 (spec_OpenFor.j0 kq l0 l1 a2 x22_3=some (r1,r2))∧Aside0 (kq≤k)∧Aside0 (Below w.heap.size w wc))
 case first=>
  have H:=HC4.out
  clear HC4
  replace H:=obs H
  obtain ⟨t486,A50,H⟩:=H
  replace H : (if t486=true then ((spec_l23Sumps.f k l1).bind fun t487=>(if t487=true then ((spec_l1In.f a2 1 100).bind fun t488=>(spec_OpenFor.j0 k l0 l1 a2 (!t488))) else (spec_OpenFor.j0 k l0 l1 a2 true))) else (spec_OpenFor.j0 k l0 l1 a2 true))=some (r1,r2):=H
  have A5:=amk A50
  clear A50
  by_cases c6 : t486=true
  ·subst c6
   have H1 : ((spec_l23Sumps.f k l1).bind fun t487=>(if t487=true then ((spec_l1In.f a2 1 100).bind fun t488=>(spec_OpenFor.j0 k l0 l1 a2 (!t488))) else (spec_OpenFor.j0 k l0 l1 a2 true)))=some (r1,r2):=by rw [if_pos rfl] at H;exact H
   clear H
   have H:=H1
   clear H1
   replace H:=obs H
   obtain ⟨t487,A70,H⟩:=H
   replace H : (if t487=true then ((spec_l1In.f a2 1 100).bind fun t488=>(spec_OpenFor.j0 k l0 l1 a2 (!t488))) else (spec_OpenFor.j0 k l0 l1 a2 true))=some (r1,r2):=H
   have A7:=amk A70
   clear A70
   by_cases c8 : t487=true
   ·subst c8
    have H1 : ((spec_l1In.f a2 1 100).bind fun t488=>(spec_OpenFor.j0 k l0 l1 a2 (!t488)))=some (r1,r2):=by rw [if_pos rfl] at H;exact H
    clear H
    have H:=H1
    clear H1
    replace H:=obs H
    obtain ⟨t488,A90,H⟩:=H
    replace H : (spec_OpenFor.j0 k l0 l1 a2 (!t488))=some (r1,r2):=H
    have A9:=amk A90
    clear A90
    have H':=amk H
    clear H
    go_wp2_with (first | ((with_reducible refine gate_callee (f:=53) rfl ?_);refine goesL_ (some 11) rfl rfl Try.func53 (by kernel_rfl) rfl #[.slice A0 l0.length c0] rfl mtt ?_;(with_reducible refine (spec_l23Good.calls k _ _ l0 true _ ?side1 ?side2 A5.out).mono ?_);(case side1=>exact ccc (Kd.C_below HR0.out HB.out));(case side2=>exact HC0.out);rintro e w10 ⟨rfl,hb⟩;refine ⟨_,rfl,?_⟩;replace HB:=amk (below_step (bel HB) hb);(try clear hb))|(go_at_call 71;(with_reducible refine (spec_l23Sumps.calls k _ _ l1 true _ ?side1 ?side2 A7.out).mono ?_);(case side1=>exact ccc (Kd.C_below HR1.out HB.out));(case side2=>exact HC1.out);rintro e w11 ⟨rfl,hb⟩;replace HB:=amk (below_step (bel HB) hb);(try clear hb))|(go_at_call 72;(with_reducible refine (spec_l1In.calls a2 1 100 t488 _ A9.out).mono ?_);rintro e w' ⟨rfl,⟨nd,rfl⟩⟩))
    go_meet
    case rel=>exact ⟨_,(!t488),rsd,H',⟨by first | omega | exact Nat.le_refl _⟩,⟨bel HB⟩⟩
   ·replace c8:=Bool.eq_false_iff.mpr c8
    subst c8
    have H1 : (spec_OpenFor.j0 k l0 l1 a2 true)=some (r1,r2):=by rw [if_neg (show ¬ (false=true) by decide)] at H;exact H
    clear H
    have H:=H1
    clear H1
    have H':=amk H
    clear H
    go_wp2_with (first | ((with_reducible refine gate_callee (f:=53) rfl ?_);refine goesL_ (some 11) rfl rfl Try.func53 (by kernel_rfl) rfl #[.slice A0 l0.length c0] rfl mtt ?_;(with_reducible refine (spec_l23Good.calls k _ _ l0 true _ ?side1 ?side2 A5.out).mono ?_);(case side1=>exact ccc (Kd.C_below HR0.out HB.out));(case side2=>exact HC0.out);rintro e w12 ⟨rfl,hb⟩;refine ⟨_,rfl,?_⟩;replace HB:=amk (below_step (bel HB) hb);(try clear hb))|(go_at_call 71;(with_reducible refine (spec_l23Sumps.calls k _ _ l1 false _ ?side1 ?side2 A7.out).mono ?_);(case side1=>exact ccc (Kd.C_below HR1.out HB.out));(case side2=>exact HC1.out);rintro e w13 ⟨rfl,hb⟩;replace HB:=amk (below_step (bel HB) hb);(try clear hb)))
    go_meet
    case rel=>exact ⟨_,(true),rsd,H',⟨by first | omega | exact Nat.le_refl _⟩,⟨bel HB⟩⟩
  ·replace c6:=Bool.eq_false_iff.mpr c6
   subst c6
   have H1 : (spec_OpenFor.j0 k l0 l1 a2 true)=some (r1,r2):=by rw [if_neg (show ¬ (false=true) by decide)] at H;exact H
   clear H
   have H:=H1
   clear H1
   have H':=amk H
   clear H
   go_wp2_with (first | ((with_reducible refine gate_callee (f:=53) rfl ?_);refine goesL_ (some 11) rfl rfl Try.func53 (by kernel_rfl) rfl #[.slice A0 l0.length c0] rfl mtt ?_;(with_reducible refine (spec_l23Good.calls k _ _ l0 false _ ?side1 ?side2 A5.out).mono ?_);(case side1=>exact ccc (Kd.C_below HR0.out HB.out));(case side2=>exact HC0.out);rintro e w14 ⟨rfl,hb⟩;refine ⟨_,rfl,?_⟩;replace HB:=amk (below_step (bel HB) hb);(try clear hb)))
   go_meet
   case rel=>exact ⟨_,(true),rsd,H',⟨by first | omega | exact Nat.le_refl _⟩,⟨bel HB⟩⟩
 case rest=>
  clear HC4
  try clear c1
  try clear c2
  try clear p2
  try clear c5
  try clear c6
  try clear c8
  obtain ⟨kq,x22_3,rfl,HA,HJ3,HB⟩:=hcut
  cases kq with
  | zero=>exact absurd HA.out (by simp [spec_OpenFor.j0])
  | succ kj3=>
   have H:=HA.out
   clear HA
   simp only [spec_OpenFor.j0] at H
   by_cases c15 : x22_3=true
   ·subst c15
    have H1 : (some (0,false))=some (r1,r2):=by rw [if_pos rfl] at H;exact H
    clear H
    have H:=H1
    clear H1
    simp only [Option.some.injEq,Prod.mk.injEq] at H
    obtain ⟨rfl,rfl⟩:=H
    go_wp2
    go_ret2
    exact ⟨erw0,bel HB⟩
   ·replace c15:=Bool.eq_false_iff.mpr c15
    subst c15
    have H1 : (spec_OpenFor.l0 kj3 l0 l1 a2 0 0)=some (r1,r2):=by rw [if_neg (show ¬ (false=true) by decide)] at H;exact H
    clear H
    have H:=H1
    clear H1
    have H':=amk H
    clear H
    go_wp2
    go_loopg [8,9] kj3 (fun kq v8 v9 w'=>∃ (x8_2 : Int) (x9_2 : Int),v8 = .int .i64 x8_2∧v9 = .int .i64 x9_2∧Aside0 (spec_OpenFor.l0 kq l0 l1 a2 x8_2 x9_2=some (r1,r2))∧Aside0 (kq≤kj3)∧Aside0 (Below w.heap.size w w'))
    case atStart=>exact ⟨(0),(0),rsd,rsd,H',⟨Nat.le_refl _⟩,⟨bel HB⟩⟩
    case round=>
     clear H'
     try clear c1
     try clear c2
     try clear p2
     try clear c5
     try clear c6
     try clear c8
     try clear c15
     try clear p2
     obtain ⟨x8_2,x9_2,rfl,rfl,HA,HK2,HB⟩:=hrel
     cases gk with
     | zero=>exact absurd HA.out (by simp [spec_OpenFor.l0])
     | succ k2=>
      have H:=HA.out
      clear HA
      simp only [spec_OpenFor.l0] at H
      by_cases c16 : x9_2≤999
      ·rw [if_pos c16] at H
       have c16b0 : decide (x9_2≤999)=true:=decide_eq_true c16
       clear c16
       have HC17:=amk H
       clear H
       go_upto_region 8 with (fail)
       go_cut [40] (fun v40 wc=>∃ (kq : Nat) (x40_16 : Bool),v40 = .bool x40_16∧Aside0 (spec_OpenFor.j2 kq l0 l1 a2 (wrap64 (x8_2 + 1)) x9_2 x40_16=some (r1,r2))∧Aside0 (kq≤k2)∧Aside0 (Below w.heap.size w wc))
       case first=>
        have H:=HC17.out
        clear HC17
        replace H:=obs H
        obtain ⟨t489,A180,H⟩:=H
        replace H : (if t489=true then ((spec_l23Closed.f k2 l0 l1 x9_2).bind fun t490=>(spec_OpenFor.j2 k2 l0 l1 a2 (wrap64 (x8_2 + 1)) x9_2 (decide ((t490.length : Int) > 0)))) else (spec_OpenFor.j2 k2 l0 l1 a2 (wrap64 (x8_2 + 1)) x9_2 true))=some (r1,r2):=H
        have A18:=amk A180
        clear A180
        by_cases c19 : t489=true
        ·subst c19
         have H1 : ((spec_l23Closed.f k2 l0 l1 x9_2).bind fun t490=>(spec_OpenFor.j2 k2 l0 l1 a2 (wrap64 (x8_2 + 1)) x9_2 (decide ((t490.length : Int) > 0))))=some (r1,r2):=by rw [if_pos rfl] at H;exact H
         clear H
         have H:=H1
         clear H1
         replace H:=obs H
         obtain ⟨t490,A200,H⟩:=H
         replace H : (spec_OpenFor.j2 k2 l0 l1 a2 (wrap64 (x8_2 + 1)) x9_2 (decide ((t490.length : Int) > 0)))=some (r1,r2):=H
         have A20:=amk A200
         clear A200
         have H':=amk H
         clear H
         go_wp2_with (first | ((with_reducible refine gate_callee (f:=51) rfl ?_);refine goesL_ (some 31) rfl rfl Try.func51 (by kernel_rfl) rfl #[.slice A0 l0.length c0,.int .i64 x9_2] rfl mtt ?_;(with_reducible refine (spec_l23Within.calls k2 _ _ l0 x9_2 true _ ?side1 ?side2 A18.out).mono ?_);(case side1=>exact ccc (Kd.C_below HR0.out HB.out));(case side2=>exact HC0.out);rintro e w21 ⟨rfl,hb⟩;refine ⟨_,rfl,?_⟩;replace HB:=amk (below_step (bel HB) hb);(try clear hb))|(go_at_call 73;(with_reducible refine (spec_l23Closed.calls k2 _ _ l0 _ _ l1 x9_2 t490 _ ?side1 ?side2 ?side3 ?side4 A20.out).mono ?_);(case side1=>exact ccc (Kd.C_below HR0.out HB.out));(case side2=>exact HC0.out);(case side3=>exact ccc (Kd.C_below HR1.out HB.out));(case side4=>exact HC1.out);rintro e w22 ⟨v491,rfl,ho0,hb⟩;have HO492:=amk (Kd.R_lower ho0 (below_size (bel HB)));replace HB:=amk (below_step (bel HB) hb);(try clear hb ho0);obtain ⟨Ao23,co23,eo23⟩:=Kd.R_slice HO492.out;subst eo23))
         go_meet
         case rel=>exact ⟨_,(decide ((t490.length : Int) > 0)),rsd,H',⟨by have:=HJ3.out;have:=HK2.out;first | omega | exact Nat.le_refl _⟩,⟨bel HB⟩⟩
        ·replace c19:=Bool.eq_false_iff.mpr c19
         subst c19
         have H1 : (spec_OpenFor.j2 k2 l0 l1 a2 (wrap64 (x8_2 + 1)) x9_2 true)=some (r1,r2):=by rw [if_neg (show ¬ (false=true) by decide)] at H;exact H
         clear H
         have H:=H1
         clear H1
         have H':=amk H
         clear H
         go_wp2_with (first | ((with_reducible refine gate_callee (f:=51) rfl ?_);refine goesL_ (some 31) rfl rfl Try.func51 (by kernel_rfl) rfl #[.slice A0 l0.length c0,.int .i64 x9_2] rfl mtt ?_;(with_reducible refine (spec_l23Within.calls k2 _ _ l0 x9_2 false _ ?side1 ?side2 A18.out).mono ?_);(case side1=>exact ccc (Kd.C_below HR0.out HB.out));(case side2=>exact HC0.out);rintro e w24 ⟨rfl,hb⟩;refine ⟨_,rfl,?_⟩;replace HB:=amk (below_step (bel HB) hb);(try clear hb)))
         go_meet
         case rel=>exact ⟨_,(true),rsd,H',⟨by have:=HJ3.out;have:=HK2.out;first | omega | exact Nat.le_refl _⟩,⟨bel HB⟩⟩
       case rest=>
        clear HC17
        try clear c1
        try clear c2
        try clear p2
        try clear c5
        try clear c6
        try clear p6
        try clear c8
        try clear c15
        try clear c16
        try clear c16b0
        try clear c19
        try clear p2
        obtain ⟨kq,x40_16,rfl,HA,HJ16,HB⟩:=hcut
        cases kq with
        | zero=>exact absurd HA.out (by simp [spec_OpenFor.j2])
        | succ kj16=>
         have H:=HA.out
         clear HA
         simp only [spec_OpenFor.j2] at H
         by_cases c25 : x40_16=true
         ·subst c25
          have H1 : (if 0=a2 then (some (wrap64 ((wrap64 (x9_2 - a2)) + 1),true)) else (spec_OpenFor.l0 kj16 l0 l1 a2 0 (wrap64 (x9_2 + 1))))=some (r1,r2):=by rw [if_pos rfl] at H;exact H
          clear H
          have H:=H1
          clear H1
          by_cases c26 : 0=a2
          ·rw [if_pos c26] at H
           have c26b0 : (0 == a2)=true:=beq_iff_eq.mpr c26
           have c26b1 : (0 != a2)=false:=bne_eq_false_iff_eq.mpr c26
           clear c26
           simp only [Option.some.injEq,Prod.mk.injEq] at H
           obtain ⟨rfl,rfl⟩:=H
           go_wp2
           go_ret2
           exact ⟨erw0,bel HB⟩
          ·rw [if_neg c26] at H
           have c26b0 : (0 == a2)=false:=beq_eq_false_iff_ne.mpr c26
           have c26b1 : (0 != a2)=true:=bne_iff_ne.mpr c26
           have H':=amk H
           clear H
           go_wp2
           go_roundg kj16
           case measure=>have:=HJ3.out;have:=HK2.out;have:=HJ16.out;omega
           case rel=>exact ⟨(0),(wrap64 (x9_2 + 1)),rsd,rsd,H',⟨by have:=HJ3.out;have:=HK2.out;have:=HJ16.out;omega⟩,⟨bel HB⟩⟩
         ·replace c25:=Bool.eq_false_iff.mpr c25
          subst c25
          have H1 : (if (wrap64 (x8_2 + 1))=a2 then (some (wrap64 ((wrap64 (x9_2 - a2)) + 1),true)) else (spec_OpenFor.l0 kj16 l0 l1 a2 (wrap64 (x8_2 + 1)) (wrap64 (x9_2 + 1))))=some (r1,r2):=by rw [if_neg (show ¬ (false=true) by decide)] at H;exact H
          clear H
          have H:=H1
          clear H1
          by_cases c27 : (wrap64 (x8_2 + 1))=a2
          ·rw [if_pos c27] at H
           have c27b0 : ((wrap64 (x8_2 + 1)) == a2)=true:=beq_iff_eq.mpr c27
           have c27b1 : ((wrap64 (x8_2 + 1)) != a2)=false:=bne_eq_false_iff_eq.mpr c27
           clear c27
           simp only [Option.some.injEq,Prod.mk.injEq] at H
           obtain ⟨rfl,rfl⟩:=H
           go_wp2
           go_ret2
           exact ⟨erw0,bel HB⟩
          ·rw [if_neg c27] at H
           have c27b0 : ((wrap64 (x8_2 + 1)) == a2)=false:=beq_eq_false_iff_ne.mpr c27
           have c27b1 : ((wrap64 (x8_2 + 1)) != a2)=true:=bne_iff_ne.mpr c27
           have H':=amk H
           clear H
           go_wp2
           go_roundg kj16
           case measure=>have:=HJ3.out;have:=HK2.out;have:=HJ16.out;omega
           case rel=>exact ⟨((wrap64 (x8_2 + 1))),(wrap64 (x9_2 + 1)),rsd,rsd,H',⟨by have:=HJ3.out;have:=HK2.out;have:=HJ16.out;omega⟩,⟨bel HB⟩⟩
      ·rw [if_neg c16] at H
       have c16b0 : decide (x9_2≤999)=false:=decide_eq_false c16
       clear c16
       simp only [Option.some.injEq,Prod.mk.injEq] at H
       obtain ⟨rfl,rfl⟩:=H
       go_wp2
       go_ret2
       exact ⟨erw0,bel HB⟩
end Go.Proofs.Ytldifiededjgjaa.P
namespace Go.Proofs.Ytldifiededjgjaa.Pu
open Go.RowKit Go.Proofs.Ytldifiededjgjaa.P Go.Proofs.YtldifiededjgjaaW.PrintWords
def stp (Q : Int→Bool) (R : List (Int × Int)) (h : Int) : List (Int × Int):=
 if Q h=true then (match R with | []=>[(h,h)] | (a,b) :: t=>if b=h - 1 then (a,h) :: t else (h,h) :: (a,b) :: t) else R
def scan (Q : Int→Bool) : Nat→Int→List (Int × Int)→List (Int × Int)
 | 0,_,R=>R
 | n + 1,h,R=>scan Q n (h + 1) (stp Q R h)
def tp (p : Int × Int) : List Int:=[p.1,p.2]
def tbl (R : List (Int × Int)) : List (List Int):=(R.map tp).reverse
theorem tbl_len (R : List (Int × Int)) : (tbl R).length=R.length:=by simp [tbl]
theorem tbl_last (p : Int × Int) (t : List (Int × Int)) : rd_L4 (tbl (p :: t)) (t.length : Int)=tp p:=by
 unfold rd_L4 tbl
 simp [List.getD_eq_getElem?_getD]
theorem tbl_set (p q : Int × Int) (t : List (Int × Int)) : (tbl (p :: t)).set t.length (tp q)=tbl (q :: t):=by
 unfold tbl
 simp
theorem tbl_add (p : Int × Int) (R : List (Int × Int)) : tbl R ++ [tp p]=tbl (p :: R):=by simp [tbl]
theorem stp_nil {Q : Int→Bool} {h : Int} (c : Q h=true) : stp Q [] h = [(h,h)]:=by unfold stp;rw [if_pos c]
theorem stp_join {Q : Int→Bool} {h a b : Int} (t : List (Int × Int)) (c : Q h=true) (e : b=h - 1) : stp Q ((a,b) :: t) h=(a,h) :: t:=by
 unfold stp;rw [if_pos c];simp only [];rw [if_pos e]
theorem stp_new {Q : Int→Bool} {h a b : Int} (t : List (Int × Int)) (c : Q h=true) (e : ¬ b=h - 1) : stp Q ((a,b) :: t) h=(h,h) :: (a,b) :: t:=by
 unfold stp;rw [if_pos c];simp only [];rw [if_neg e]
theorem stp_no {Q : Int→Bool} {h : Int} (R : List (Int × Int)) (c : ¬ Q h=true) : stp Q R h=R:=by unfold stp;rw [if_neg c]
theorem stp_len (Q : Int→Bool) (R : List (Int × Int)) (h : Int) : (stp Q R h).length≤R.length + 1:=by
 unfold stp
 split
 ·match R with
  | []=>simp
  | (a,b) :: t=>simp only [];split <;> simp
 ·omega
theorem ispans_l0 (Q : Int→Bool) (p : Int→Option Bool) (z : Int) (hz : z≤1000000) : ∀ (n : Nat) (h : Int) (R : List (Int × Int)) (k : Nat),0≤h→z + 1 - h=n →
  n < k→R.length + n≤10000000→(∀ x,h≤x→x≤z→p x=some (Q x))→impl_spans.l0 k z p (tbl R) h=some (tbl (scan Q n h R)):=by
 intro n
 induction n with
 | zero=>
  intro h R k h0 hn hk hR hp
  obtain ⟨k,rfl⟩ : ∃ j,k=j + 1:=⟨k - 1,by omega⟩
  rw [impl_spans.l0.eq_2,if_neg (by omega)]
  rfl
 | succ n ih=>
  intro h R k h0 hn hk hR hp
  obtain ⟨k,rfl⟩ : ∃ j,k=j + 1:=⟨k - 1,by omega⟩
  have e : wrap64 (h + 1)=h + 1:=wr (by omega) (by omega)
  have e1 : wrap64 (h - 1)=h - 1:=wr (by omega) (by omega)
  have go:=fun R' hR'=>ih (h + 1) R' k (by omega) (by omega) (by omega) hR' (fun x a b=>hp x (by omega) b)
  have le:=stp_len Q R h
  rw [impl_spans.l0.eq_2,if_pos (by omega),hp h (Int.le_refl _) (by omega)]
  simp only [Option.bind_some,e,e1,tbl_len]
  show _=some (tbl (scan Q n (h + 1) (stp Q R h)))
  by_cases c : Q h=true
  ·rw [if_pos c]
   match R,hR,le with
   | [],hR,le=>
    have w0 : wrap64 (((([] : List (Int × Int)).length : Nat) : Int) - 1) = -1:=by simp only [List.length_nil];rw [wr (by omega) (by omega)];rfl
    rw [w0,if_neg (by omega),if_pos (by simp)]
    have:=stp_nil c
    rw [this] at le ⊢
    exact go [(h,h)] (by simp;omega)
   | (a,b) :: t,hR,le=>
    have w0 : wrap64 (((((a,b) :: t : List (Int × Int)).length : Nat) : Int) - 1)=(t.length : Int):=by
     simp only [List.length_cons] at hR ⊢
     rw [wr (by omega) (by omega)]
     omega
    have len2 : ((tp (a,b)).length : Int)=2:=rfl
    have r1 : rd (tp (a,b)) 1=b:=rfl
    rw [w0,if_pos (by omega),if_pos (by omega),if_pos (by simp only [List.length_cons];omega),tbl_last,len2,if_pos (by omega),r1]
    by_cases c2 : b=h - 1
    ·rw [if_pos c2]
     have:=stp_join (a:=a) t c c2
     rw [this] at le ⊢
     have st : (tp (a,b)).set (1 : Int).toNat h=tp (a,h):=rfl
     rw [st,Int.toNat_natCast,tbl_set]
     exact go _ (by simp only [List.length_cons] at hR ⊢;omega)
    ·rw [if_neg c2]
     have:=stp_new (a:=a) t c c2
     rw [this] at le ⊢
     rw [if_pos (by omega)]
     have st : ([h,h] : List Int)=tp (h,h):=rfl
     rw [st,tbl_add]
     exact go _ (by simp only [List.length_cons] at hR ⊢;omega)
  ·rw [if_neg c]
   have:=stp_no R c
   rw [this]
   exact go R (by omega)
theorem ispans (Q : Int→Bool) (p : Int→Option Bool) (a z : Int) (h0 : 0≤a) (hz : z≤1000000) (k : Nat) (hk : 2000000≤k) (hp : ∀ x,a≤x→x≤z→p x=some (Q x)) :
  impl_spans.f k a z p=some (tbl (scan Q (z + 1 - a).toNat a [])):=by
 unfold impl_spans.f
 by_cases c : a≤z + 1
 ·exact ispans_l0 Q p z hz (z + 1 - a).toNat a [] k h0 (by omega) (by omega) (by simp;omega) hp
 ·obtain ⟨k,rfl⟩ : ∃ j,k=j + 1:=⟨k - 1,by omega⟩
  rw [impl_spans.l0.eq_2,if_neg (by omega),show (z + 1 - a).toNat=0 from by omega]
  rfl
structure Sp (Q : Int→Bool) (lo h : Int) (R : List (Int × Int)) : Prop where
 all : ∀ p ∈ R,lo≤p.1∧p.1≤p.2∧p.2 < h∧(∀ x,p.1≤x→x≤p.2→Q x=true)∧(p.2 + 1 < h→Q (p.2 + 1)=false)
 cov : ∀ x,lo≤x→x < h→Q x=true→∃ p ∈ R,p.1≤x∧x≤p.2
 ord : R.Pairwise (fun p q=>q.2 < p.1)
theorem Sp.step {Q : Int→Bool} {lo h : Int} {R : List (Int × Int)} (s : Sp Q lo h R) (hl : lo≤h) : Sp Q lo (h + 1) (stp Q R h):=by
 by_cases c : Q h=true
 ·rcases R with _ | ⟨⟨a,b⟩,t⟩
  ·rw [stp_nil c]
   refine ⟨fun p hp=>?_,fun x a b q=>?_,by simp⟩
   ·obtain rfl:=List.mem_singleton.mp hp
    refine ⟨hl,Int.le_refl _,by simp only [];omega,fun x u v=>?_,fun g=>by simp only [] at g;omega⟩
    simp only [] at u v
    rw [show x=h from by omega]
    exact c
   ·by_cases e : x=h
    ·exact ⟨_,List.mem_singleton.mpr rfl,by simp only [];omega,by simp only [];omega⟩
    ·obtain ⟨p,hp,_⟩:=s.cov x a (by omega) q
     cases hp
  ·have sa:=s.all (a,b) List.mem_cons_self
   have so:=List.pairwise_cons.mp s.ord
   simp only [] at sa
   by_cases e : b=h - 1
   ·rw [stp_join t c e]
    refine ⟨fun p hp=>?_,fun x u v q=>?_,List.pairwise_cons.mpr ⟨fun q hq=>so.1 q hq,so.2⟩⟩
    ·rcases List.mem_cons.mp hp with rfl | hp
     ·refine ⟨sa.1,by simp only [];omega,by simp only [];omega,fun x u v=>?_,fun g=>by simp only [] at g;omega⟩
      simp only [] at u v
      by_cases w : x=h
      ·rw [w];exact c
      ·exact sa.2.2.2.1 x u (by omega)
     ·have:=s.all p (List.mem_cons_of_mem _ hp)
      have o:=so.1 p hp
      simp only [] at o
      exact ⟨this.1,this.2.1,by omega,this.2.2.2.1,fun g=>this.2.2.2.2 (by omega)⟩
    ·by_cases w : x=h
     ·exact ⟨_,List.mem_cons_self,by simp only [];omega,by simp only [];omega⟩
     ·obtain ⟨p,hp,u',v'⟩:=s.cov x u (by omega) q
      rcases List.mem_cons.mp hp with rfl | hp
      ·simp only [] at u' v'
       exact ⟨_,List.mem_cons_self,u',by simp only [];omega⟩
      ·exact ⟨p,List.mem_cons_of_mem _ hp,u',v'⟩
   ·rw [stp_new t c e]
    have low : ∀ p ∈ (a,b) :: t,p.2 < h - 1:=by
     intro p hp
     rcases List.mem_cons.mp hp with rfl | hp
     ·simp only [];omega
     ·have o:=so.1 p hp
      simp only [] at o
      omega
    refine ⟨fun p hp=>?_,fun x u v q=>?_,List.pairwise_cons.mpr ⟨fun q hq=>?_,s.ord⟩⟩
    ·rcases List.mem_cons.mp hp with rfl | hp
     ·refine ⟨hl,Int.le_refl _,by simp only [];omega,fun x u v=>?_,fun g=>by simp only [] at g;omega⟩
      simp only [] at u v
      rw [show x=h from by omega]
      exact c
     ·have:=s.all p hp
      have lt:=low p hp
      exact ⟨this.1,this.2.1,by omega,this.2.2.2.1,fun g=>this.2.2.2.2 (by omega)⟩
    ·by_cases w : x=h
     ·exact ⟨_,List.mem_cons_self,by simp only [];omega,by simp only [];omega⟩
     ·obtain ⟨p,hp,u',v'⟩:=s.cov x u (by omega) q
      exact ⟨p,List.mem_cons_of_mem _ hp,u',v'⟩
    ·have:=low q hq
     simp only []
     omega
 ·rw [stp_no R c]
  have cf : Q h=false:=by cases e : Q h <;> simp_all
  refine ⟨fun p hp=>?_,fun x u v q=>?_,s.ord⟩
  ·have:=s.all p hp
   refine ⟨this.1,this.2.1,by omega,this.2.2.2.1,fun g=>?_⟩
   by_cases w : p.2 + 1=h
   ·rw [w];exact cf
   ·exact this.2.2.2.2 (by omega)
  ·by_cases w : x=h
   ·rw [w,cf] at q;cases q
   ·exact s.cov x u (by omega) q
theorem Sp.scan {Q : Int→Bool} {lo : Int} : ∀ (n : Nat) (h : Int) (R : List (Int × Int)),lo≤h→Sp Q lo h R→Sp Q lo (h + n) (scan Q n h R):=by
 intro n
 induction n with
 | zero=>intro h R _ s;rw [show h + ((0 : Nat) : Int)=h from by omega];exact s
 | succ n ih=>
  intro h R hl s
  have:=ih (h + 1) (stp Q R h) (by omega) (s.step hl)
  rw [show h + ((n + 1 : Nat) : Int)=h + 1 + n from by omega]
  exact this
theorem Sp.start (Q : Int→Bool) (lo : Int) : Sp Q lo lo []:=⟨fun p hp=>absurd hp List.not_mem_nil,fun x a b=>absurd a (by omega),List.Pairwise.nil⟩
def Run (Q : Int→Bool) (c a : Int) : Prop:=∀ x,a≤x→x < a + c→Q x=true
def Ans (Q : Int→Bool) (c : Int) (r : Int × Bool) : Prop:=(r.2=true∧Run Q c r.1∧∀ a,a < r.1→¬ Run Q c a) ∨ (r=(0,false)∧∀ a,¬ Run Q c a)
theorem Ans.uniq {Q : Int→Bool} {c : Int} {r s : Int × Bool} (h : Ans Q c r) (g : Ans Q c s) : r=s:=by
 rcases h with ⟨h1,h2,h3⟩ | ⟨h1,h2⟩ <;> rcases g with ⟨g1,g2,g3⟩ | ⟨g1,g2⟩
 ·have : r.1=s.1:=by
   rcases Int.lt_trichotomy r.1 s.1 with e | e | e
   ·exact absurd h2 (g3 _ e)
   ·exact e
   ·exact absurd g2 (h3 _ e)
  exact Prod.ext this (by rw [h1,g1])
 ·exact absurd h2 (g2 _)
 ·exact absurd g2 (h2 _)
 ·rw [h1,g1]
theorem ifor_l0 (Q : Int→Bool) (c lo hi : Int) (R : List (Int × Int)) (hc : 1≤c) (h0 : 0≤lo) (hh : hi≤1000000) (s : Sp Q lo hi R) (out : ∀ x,x < lo ∨ hi≤x→Q x=false) (hR : R.length≤10000000) :
  ∀ (L M : List (Int × Int)) (i : Int),(0 : Int)≤i→i=M.length→M ++ L=R.reverse→(∀ p ∈ M,p.2 - p.1 + 1 < c) →
   ∃ r,Ans Q c r∧Ev (fun k=>impl_OpenFor.l0 k c (tbl R) ((tbl R).length : Int) i) r:=by
 have tb : tbl R=R.reverse.map tp:=by unfold tbl;rw [List.map_reverse]
 intro L
 induction L with
 | nil=>
  intro M i hi0 hM e hs
  have len : M.length=R.length:=by have:=congrArg List.length e;simp at this;omega
  refine ⟨(0,false),.inr ⟨rfl,fun a g=>?_⟩,Ev.step (fun k=>impl_OpenFor.l0.eq_2 c (tbl R) _ i k) (Ev.neg (by rw [tbl_len];omega) (Ev.now _))⟩
  have ga:=g a (Int.le_refl _) (by omega)
  have inr : ¬ (a < lo ∨ hi≤a):=fun h=>by rw [out a h] at ga;cases ga
  obtain ⟨p,hp,u,v⟩:=s.cov a (by omega) (by omega) ga
  have hp' : p ∈ M:=by
   have : p ∈ M ++ []:=by rw [e];exact List.mem_reverse.mpr hp
   simpa using this
  have sh:=hs p hp'
  have sp:=s.all p hp
  have nx:=g (p.2 + 1) (by omega) (by omega)
  by_cases w : p.2 + 1 < hi
  ·rw [sp.2.2.2.2 w] at nx;cases nx
  ·rw [out (p.2 + 1) (by omega)] at nx;cases nx
 | cons q L ih=>
  intro M i hi0 hM e hs
  have len : M.length + (L.length + 1)=R.length:=by have:=congrArg List.length e;simp at this;omega
  have hq : q ∈ R:=by rw [← List.mem_reverse,← e];simp
  have sp:=s.all q hq
  have rd1 : rd_L4 (tbl R) i=tp q:=by
   rw [tb,← e]
   unfold rd_L4
   rw [hM,Int.toNat_natCast]
   simp [List.getD_eq_getElem?_getD]
  have l2 : ((tp q).length : Int)=2:=rfl
  have r1 : rd (tp q) 1=q.2:=rfl
  have r0 : rd (tp q) 0=q.1:=rfl
  have w1 : wrap64 (wrap64 (q.2 - q.1) + 1)=q.2 - q.1 + 1:=by rw [wr (x:=q.2 - q.1) (by omega) (by omega),wr (by omega) (by omega)]
  have e1 : wrap64 (i + 1)=i + 1:=wr (by omega) (by omega)
  by_cases g : q.2 - q.1 + 1 ≥ c
  ·refine ⟨(q.1,true),.inl ⟨rfl,fun x u v=>sp.2.2.2.1 x u (by simp only [] at v;omega),fun a ha g'=>?_⟩,?_⟩
   ·simp only [] at ha
    have ga:=g' a (Int.le_refl _) (by omega)
    have inr : ¬ (a < lo ∨ hi≤a):=fun h=>by rw [out a h] at ga;cases ga
    obtain ⟨p,hp,u,v⟩:=s.cov a (by omega) (by omega) ga
    have hp' : p ∈ M ++ q :: L:=by rw [e];exact List.mem_reverse.mpr hp
    have sp':=s.all p hp
    have od : (M ++ q :: L).Pairwise (fun p q=>p.2 < q.1):=by rw [e];exact List.pairwise_reverse.mpr s.ord
    have od':=List.pairwise_append.mp od
    rcases List.mem_append.mp hp' with m | m
    ·have sh:=hs p m
     have nx:=g' (p.2 + 1) (by omega) (by omega)
     by_cases w : p.2 + 1 < hi
     ·rw [sp'.2.2.2.2 w] at nx;cases nx
     ·rw [out (p.2 + 1) (by omega)] at nx;cases nx
    ·rcases List.mem_cons.mp m with rfl | m
     ·omega
     ·have:=(List.pairwise_cons.mp od'.2.1).1 p m
      omega
   ·refine Ev.step (fun k=>impl_OpenFor.l0.eq_2 c (tbl R) _ i k) (Ev.pos (by rw [tbl_len];omega) (Ev.pos hi0 (Ev.pos (by rw [tbl_len];omega) ?_)))
    simp only [rd1,l2,r1,r0,w1]
    exact Ev.pos (by omega) (Ev.pos (by omega) (Ev.pos g (Ev.now _)))
  ·obtain ⟨r,ha,hr⟩:=ih (M ++ [q]) (i + 1) (by omega) (by simp;omega) (by rw [← e];simp) (fun p hp=>by
    rcases List.mem_append.mp hp with m | m
    ·exact hs p m
    ·obtain rfl:=List.mem_singleton.mp m
     omega)
   refine ⟨r,ha,Ev.step (fun k=>impl_OpenFor.l0.eq_2 c (tbl R) _ i k) (Ev.pos (by rw [tbl_len];omega) (Ev.pos hi0 (Ev.pos (by rw [tbl_len];omega) ?_)))⟩
   simp only [rd1,l2,r1,r0,w1,e1]
   exact Ev.pos (by omega) (Ev.pos (by omega) (Ev.neg g hr))
def sumpB (s : S44) : Bool:=decide ((0≤s.f0∧s.f0≤7)∧(-500≤s.f1∧s.f1≤500)∧(-500≤s.f2∧s.f2≤s.f1))
theorem ssump (s : S44) : spec_l23Sump.f s.f0 s.f1 s.f2=some (sumpB s):=by
 unfold spec_l23Sump.f spec_l4Station.f sumpB
 rw [l1In_eq,level_eq,l1In_eq]
 by_cases a : 0≤s.f0∧s.f0≤7 <;> by_cases b : -500≤s.f1∧s.f1≤500 <;> simp [a,b]
theorem isump (s : S44) : impl_isSump.f s.f0 s.f1 s.f2=some (sumpB s):=by
 unfold impl_isSump.f impl_isStation.f sumpB
 rw [within_eq,isLevel_eq,isLevel_eq]
 by_cases a : 0≤s.f0∧s.f0≤7
 ·by_cases b : -500≤s.f1∧s.f1≤500
  ·by_cases c : -500≤s.f2∧s.f2≤500
   ·simp [a,b,c]
   ·simp only [a,b,c,decide_true,decide_false,Option.bind_some,if_true,and_self,true_and,Bool.false_eq_true,if_false]
    exact congrArg some (decide_eq_false (by omega)).symm
  ·simp [a,b]
 ·simp [a]
def sumpsFrom (l : List S44) : Nat→Int→Bool
 | 0,_=>true
 | n + 1,i=>sumpB (rd_T44 l i) && (!(decide (i > 0) && decide ((rd_T44 l (i - 1)).f0 ≥ (rd_T44 l i).f0)) && sumpsFrom l n (i + 1))
def sumpsB (l : List S44) : Bool:=sumpsFrom l l.length 0
theorem ssumps_l0 (l : List S44) (hl : (l.length : Int)≤1000000000000) : ∀ (d : Nat) (i : Int),0≤i→(l.length : Int) - i=d→Ev (fun k=>spec_l23Sumps.l0 k l i) (sumpsFrom l d i):=by
 intro d
 induction d with
 | zero=>intro i h0 hd;exact Ev.step (fun k=>spec_l23Sumps.l0.eq_2 l i k) (Ev.neg (by omega) (Ev.now _))
 | succ d ih=>
  intro i h0 hd
  have e : wrap64 (i + 1)=i + 1:=wr (by omega) (by omega)
  have e1 : wrap64 (i - 1)=i - 1:=wr (by omega) (by omega)
  refine Ev.step (fun k=>spec_l23Sumps.l0.eq_2 l i k) (Ev.pos (by omega) (Ev.pos h0 (Ev.bindS (ssump _) ?_)))
  simp only [e1]
  have nx:=ih (i + 1) (by omega) (by omega)
  have jt : Ev (fun k=>spec_l23Sumps.j1 k l i true) false:=Ev.step (fun k=>spec_l23Sumps.j1.eq_2 l i true k) (Ev.pos rfl (Ev.now _))
  have jf : Ev (fun k=>spec_l23Sumps.j1 k l i false) (sumpsFrom l d (i + 1)):=Ev.step (fun k=>spec_l23Sumps.j1.eq_2 l i false k) (Ev.neg (by simp) (by rw [e];exact nx))
  unfold sumpsFrom
  by_cases c : sumpB (rd_T44 l i)=true
  ·refine Ev.pos c ?_
   rw [c,Bool.true_and]
   by_cases c2 : i > 0
   ·refine Ev.pos c2 (Ev.pos (by omega) (Ev.pos (by omega) ?_))
    by_cases c3 : (rd_T44 l (i - 1)).f0 ≥ (rd_T44 l i).f0
    ·rw [decide_eq_true c3]
     exact Ev.to jt (by simp [c2])
    ·rw [decide_eq_false c3]
     exact Ev.to jf (by simp)
   ·exact Ev.neg c2 (Ev.to jf (by simp [c2]))
  ·refine Ev.neg c (Ev.to jt ?_)
   cases x : sumpB (rd_T44 l i) <;> simp_all
theorem isumps_l0 (l : List S44) (hl : (l.length : Int)≤1000000000000) : ∀ (d : Nat) (i : Int),0≤i→(l.length : Int) - i=d→Ev (fun k=>impl_AreSumps.l0 k l l (l.length : Int) i) (sumpsFrom l d i):=by
 intro d
 induction d with
 | zero=>intro i h0 hd;exact Ev.step (fun k=>impl_AreSumps.l0.eq_2 l l _ i k) (Ev.neg (by omega) (Ev.now _))
 | succ d ih=>
  intro i h0 hd
  have e : wrap64 (i + 1)=i + 1:=wr (by omega) (by omega)
  have e1 : wrap64 (i - 1)=i - 1:=wr (by omega) (by omega)
  refine Ev.step (fun k=>impl_AreSumps.l0.eq_2 l l _ i k) (Ev.pos (by omega) (Ev.pos h0 (Ev.pos (by omega) (Ev.bindS (isump _) ?_))))
  simp only [e1]
  have nx:=ih (i + 1) (by omega) (by omega)
  have jt : Ev (fun k=>impl_AreSumps.j1 k l l (l.length : Int) i true) false:=Ev.step (fun k=>impl_AreSumps.j1.eq_2 l l (l.length : Int) i true k) (Ev.pos rfl (Ev.now _))
  have jf : Ev (fun k=>impl_AreSumps.j1 k l l (l.length : Int) i false) (sumpsFrom l d (i + 1)):=Ev.step (fun k=>impl_AreSumps.j1.eq_2 l l (l.length : Int) i false k) (Ev.neg (by simp) (by rw [e];exact nx))
  unfold sumpsFrom
  by_cases c : sumpB (rd_T44 l i)=true
  ·refine Ev.pos c ?_
   rw [c,Bool.true_and]
   by_cases c2 : i > 0
   ·refine Ev.pos c2 (Ev.pos (by omega) (Ev.pos (by omega) ?_))
    by_cases c3 : (rd_T44 l (i - 1)).f0 ≥ (rd_T44 l i).f0
    ·rw [decide_eq_true c3]
     exact Ev.to jt (by simp [c2])
    ·rw [decide_eq_false c3]
     exact Ev.to jf (by simp)
   ·exact Ev.neg c2 (Ev.to jf (by simp [c2]))
  ·refine Ev.neg c (Ev.to jt ?_)
   cases x : sumpB (rd_T44 l i) <;> simp_all
theorem ssumps (l : List S44) (hl : (l.length : Int)≤1000000000000) : Ev (fun k=>spec_l23Sumps.f k l) (sumpsB l):=ssumps_l0 l hl l.length 0 (Int.le_refl _) (by omega)
theorem isumps (l : List S44) (hl : (l.length : Int)≤1000000000000) : Ev (fun k=>impl_AreSumps.f k l) (sumpsB l):=isumps_l0 l hl l.length 0 (Int.le_refl _) (by omega)
theorem sumps_ok {l : List S44} (h : sumpsB l=true) : ∀ s ∈ l,sumpB s=true:=by
 have key : ∀ (d : Nat) (i : Int),0≤i→(l.length : Int) - i=d→sumpsFrom l d i=true→∀ j : Nat,i≤j→j < l.length→sumpB (rd_T44 l j)=true:=by
  intro d
  induction d with
  | zero=>intro i _ hd _ j a b;omega
  | succ d ih=>
   intro i h0 hd g j a b
   unfold sumpsFrom at g
   simp only [Bool.and_eq_true] at g
   by_cases e : i=j
   ·rw [← e];exact g.1
   ·exact ih (i + 1) (by omega) (by omega) g.2.2 j (by omega) b
 intro s hs
 obtain ⟨j,hj,rfl⟩:=List.getElem_of_mem hs
 have:=key l.length 0 (Int.le_refl _) (by omega) h j (by omega) hj
 unfold rd_T44 at this
 rw [Int.toNat_natCast,List.getD_eq_getElem?_getD,List.getElem?_eq_getElem hj] at this
 exact this
noncomputable def pos (l : List S30) (h : Int) : Int:=@dite _ (InH l h) (Classical.propDecidable _) (fun g=>Classical.choose (level_both l h g)) (fun _=>0)
theorem pos_ok {l : List S30} {h : Int} (g : InH l h) : At l h (pos l h)∧Ev (fun k=>impl_levelIn.f k l h) (lev l h (pos l h))∧Ev (fun k=>spec_l23In.f k l h) (lev l h (pos l h)):=by
 unfold pos
 rw [dif_pos g]
 exact Classical.choose_spec (level_both l h g)
noncomputable def op (l : List S30) (o h : Int) : Bool:=decide ((lev l h (pos l h)).1≤wrap64 (o * (lev l h (pos l h)).2))
theorem iopen {l : List S30} {h : Int} (g : InH l h) (a b o : Int) : Ev (fun k=>impl_Sump_open.f k a b o l h) (op l o h):=by
 unfold impl_Sump_open.f
 exact Ev.bind (pos_ok g).2.1 (Ev.now _)
theorem sopen {l : List S30} {h : Int} (g : InH l h) (a b o : Int) : Ev (fun k=>spec_l23Open.f k l a b o h) (op l o h):=by
 unfold spec_l23Open.f
 exact Ev.bind (pos_ok g).2.2 (Ev.now _)
noncomputable def shut (l : List S30) (h : Int) (ss : List S44) : List Int:=(ss.filter (fun s=>!op l s.f2 h)).map (·.f0)
theorem rd44 (l : List S44) (M L : List S44) (s : S44) (e : M ++ s :: L=l) (i : Int) (hi : i=M.length) : rd_T44 l i=s:=by
 unfold rd_T44
 rw [← e,hi,Int.toNat_natCast]
 simp [List.getD_eq_getElem?_getD]
theorem shut_len (l : List S30) (h : Int) (ss : List S44) : (shut l h ss).length≤ss.length:=by
 unfold shut
 rw [List.length_map]
 exact List.length_filter_le _ _
theorem sclosed_l0 {l : List S30} {h : Int} (g : InH l h) (ss : List S44) (hl : (ss.length : Int)≤1000000000000) : ∀ (L M : List S44) (i : Int) (out : List Int),0≤i→i=M.length→M ++ L=ss→out.length≤M.length →
  Ev (fun k=>spec_l23Closed.l0 k l ss h out i) (out ++ shut l h L):=by
 intro L
 induction L with
 | nil=>
  intro M i out h0 hi e ho
  have len:=congrArg List.length e
  simp at len
  exact Ev.step (fun k=>spec_l23Closed.l0.eq_2 l ss h out i k) (Ev.neg (by omega) (Ev.to (Ev.now _) (by simp [shut])))
 | cons s L ih=>
  intro M i out h0 hi e ho
  have len:=congrArg List.length e
  simp at len
  have w : wrap64 (i + 1)=i + 1:=wr (by omega) (by omega)
  have rd0:=rd44 ss M L s e i hi
  refine Ev.step (fun k=>spec_l23Closed.l0.eq_2 l ss h out i k) (Ev.pos (by omega) (Ev.pos h0 ?_))
  simp only [rd0,w]
  refine Ev.bind (sopen g _ _ _) ?_
  have nx:=fun out' ho'=>ih (M ++ [s]) (i + 1) out' (by omega) (by simp;omega) (by rw [← e];simp) ho'
  by_cases c : op l s.f2 h=true
  ·refine Ev.pos c (Ev.to (nx out (by simp;omega)) ?_)
   simp [shut,c]
  ·refine Ev.neg c (Ev.pos (by omega) (Ev.to (nx _ (by simp;omega)) ?_))
   simp [shut,c]
theorem sclosed {l : List S30} {h : Int} (g : InH l h) (ss : List S44) (hl : (ss.length : Int)≤1000000000000) : Ev (fun k=>spec_l23Closed.f k l ss h) (shut l h ss):=
 Ev.to (sclosed_l0 g ss hl ss [] 0 [] (Int.le_refl _) rfl rfl (Nat.le_refl _)) rfl
noncomputable def opens (l : List S30) (ss : List S44) (h : Int) : Bool:=(shut l h ss).isEmpty
theorem iopens_l0 {l : List S30} {h : Int} (ss : List S44) (hl : (ss.length : Int)≤1000000000000) (p : Nat→S44→Option Bool) (hp : ∀ s ∈ ss,Ev (fun k=>p k s) (!op l s.f2 h)) :
  ∀ (L M : List S44) (i : Int),0≤i→i=M.length→M ++ L=ss→∃ r,(r ≥ 0 ↔ ¬ opens l L h=true)∧∃ K,∀ k,K≤k→∀ m,L.length < m→impl_Sump_91.l0 m ss (p k) (ss.length : Int) i=some r:=by
 intro L
 induction L with
 | nil=>
  intro M i h0 hi e
  have len:=congrArg List.length e
  simp at len
  refine ⟨-1,by simp [opens,shut],0,fun k _ m hm=>?_⟩
  obtain ⟨m,rfl⟩ : ∃ j,m=j + 1:=⟨m - 1,by simp at hm;omega⟩
  rw [impl_Sump_91.l0.eq_2,if_neg (by omega)]
 | cons s L ih=>
  intro M i h0 hi e
  have len:=congrArg List.length e
  simp at len
  have w : wrap64 (i + 1)=i + 1:=wr (by omega) (by omega)
  have rd0:=rd44 ss M L s e i hi
  obtain ⟨r,hr,K,hK⟩:=ih (M ++ [s]) (i + 1) (by omega) (by simp;omega) (by rw [← e];simp)
  obtain ⟨K',hK'⟩:=hp s (by rw [← e];simp)
  by_cases c : op l s.f2 h=true
  ·refine ⟨r,by rw [hr];simp [opens,shut,c],K + K',fun k hk m hm=>?_⟩
   obtain ⟨m,rfl⟩ : ∃ j,m=j + 1:=⟨m - 1,by omega⟩
   rw [impl_Sump_91.l0.eq_2,if_pos (by omega),if_pos h0,if_pos (by omega),rd0]
   have this : p k s=some (!op l s.f2 h):=hK' k (by omega)
   rw [this,c]
   simp only [Option.bind_some,Bool.not_true,Bool.false_eq_true,if_false,w]
   exact hK k (by omega) m (by simp at hm;omega)
  ·refine ⟨i,by simp [opens,shut,c,h0],K',fun k hk m hm=>?_⟩
   obtain ⟨m,rfl⟩ : ∃ j,m=j + 1:=⟨m - 1,by omega⟩
   rw [impl_Sump_91.l0.eq_2,if_pos (by omega),if_pos h0,if_pos (by omega),rd0]
   have this : p k s=some (!op l s.f2 h):=hK' k (by omega)
   rw [this]
   have cf : op l s.f2 h=false:=by cases x : op l s.f2 h <;> simp_all
   simp [cf]
theorem iopens {l : List S30} {h : Int} (g : InH l h) (ss : List S44) (hl : (ss.length : Int)≤1000000000000) : Ev (fun k=>impl_OpenFor_1.f k h ss l) (opens l ss h):=by
 have hp : ∀ s ∈ ss,Ev (fun k=>(fun (k : Nat) (x_ : S44)=>impl_OpenFor_1_1.f k x_.f0 x_.f1 x_.f2 l h) k s) (!op l s.f2 h):=by
  intro s _
  simp only []
  unfold impl_OpenFor_1_1.f
  exact Ev.bind (iopen g _ _ _) (Ev.now _)
 obtain ⟨r,hr,K,hK⟩:=iopens_l0 ss hl _ hp ss [] 0 (Int.le_refl _) rfl rfl
 refine ⟨K + ss.length + 1,fun k hk=>?_⟩
 unfold impl_OpenFor_1.f impl_Sump_75.f impl_Sump_91.f
 have:=hK k (by omega) k (by omega)
 simp only []
 rw [this]
 simp only [Option.bind_some]
 by_cases c : r ≥ 0
 ·have:=hr.mp c
  simp [c,this]
 ·have : opens l ss h=true:=by
   cases x : opens l ss h
   ·exact absurd (hr.mpr (by simp [x])) c
   ·rfl
  simp [c,this]
theorem Ev.all {α : Type} (F : Nat→Int→Option α) (P : Int→α) (lo : Int) : ∀ (n : Nat),(∀ x,lo≤x→x < lo + n→Ev (fun k=>F k x) (P x))→∃ K,∀ k,K≤k→∀ x,lo≤x→x < lo + n→F k x=some (P x):=by
 intro n
 induction n with
 | zero=>intro _;exact ⟨0,fun k _ x a b=>by omega⟩
 | succ n ih=>
  intro h
  obtain ⟨K,hK⟩:=ih (fun x a b=>h x a (by omega))
  obtain ⟨K',hK'⟩:=h (lo + n) (by omega) (by omega)
  refine ⟨K + K',fun k hk x a b=>?_⟩
  by_cases e : x=lo + n
  ·rw [e];exact hK' k (by omega)
  ·exact hK k (by omega) x a (by omega)
noncomputable def Q (l : List S30) (ss : List S44) (h : Int) : Bool:=inB l h && opens l ss h
noncomputable def okFor (l : List S30) (ss : List S44) (c : Int) : Bool:=goodB l && (sumpsB ss && decide (1≤c∧c≤100))
theorem sfor_l0 (l : List S30) (ss : List S44) (c : Int) (hl : (l.length : Int)≤1000000000000) (hs : (ss.length : Int)≤1000000000000) (hc : 1≤c∧c≤100) (out : ∀ x,x < 0 ∨ 1000≤x→Q l ss x=false) :
  ∀ (d : Nat) (h r : Int),0≤h→1000 - h=d→0≤r→r < c→(∀ x,h - r≤x→x < h→Q l ss x=true)→Q l ss (h - r - 1)=false→(∀ a,a + c≤h→¬ Run (Q l ss) c a) →
   ∃ a,Ans (Q l ss) c a∧Ev (fun k=>spec_OpenFor.l0 k l ss c r h) a:=by
 intro d
 induction d with
 | zero=>
  intro h r h0 hd r0 rc run bef no
  refine ⟨(0,false),.inr ⟨rfl,fun a g=>?_⟩,Ev.step (fun k=>spec_OpenFor.l0.eq_2 l ss c r h k) (Ev.neg (by omega) (Ev.now _))⟩
  by_cases e : a + c≤h
  ·exact no a e g
  ·have:=g (a + c - 1) (by omega) (by omega)
   rw [out _ (by omega)] at this
   cases this
 | succ d ih=>
  intro h r h0 hd r0 rc run bef no
  have w : wrap64 (h + 1)=h + 1:=wr (by omega) (by omega)
  have w1 : wrap64 (r + 1)=r + 1:=wr (by omega) (by omega)
  have w2 : wrap64 (wrap64 (h - c) + 1)=h - c + 1:=by rw [wr (x:=h - c) (by omega) (by omega),wr (by omega) (by omega)]
  have off : Q l ss h=false→∃ a,Ans (Q l ss) c a∧Ev (fun k=>spec_OpenFor.j2 k l ss c (wrap64 (r + 1)) h true) a:=by
   intro q
   have no' : ∀ a,a + c≤h + 1→¬ Run (Q l ss) c a:=by
    intro a e g
    by_cases e' : a + c≤h
    ·exact no a e' g
    ·have:=g h (by omega) (by omega)
     rw [q] at this
     cases this
   obtain ⟨a,ha,hr⟩:=ih (h + 1) 0 (by omega) (by omega) (by omega) (by omega) (fun x u v=>by omega) (by rw [show h + 1 - 0 - 1=h from by omega];exact q) no'
   refine ⟨a,ha,Ev.step (fun k=>spec_OpenFor.j2.eq_2 l ss c _ h true k) (Ev.pos rfl (Ev.neg (by omega) ?_))⟩
   rw [w]
   exact hr
  by_cases g : InH l h
  ·have gb:=inB_true g
   by_cases o : opens l ss h=true
   ·have q : Q l ss h=true:=by unfold Q;rw [gb,o];rfl
    have z : decide (((shut l h ss).length : Int) > 0)=false:=by
     unfold opens at o
     rw [List.isEmpty_iff.mp o]
     rfl
    have run' : ∀ x,h + 1 - (r + 1)≤x→x < h + 1→Q l ss x=true:=by
     intro x u v
     by_cases e : x=h
     ·rw [e];exact q
     ·exact run x (by omega) (by omega)
    by_cases e : r + 1=c
    ·refine ⟨(h - c + 1,true),.inl ⟨rfl,fun x u v=>?_,fun a ha g'=>?_⟩,?_⟩
     ·simp only [] at u v
      exact run' x (by omega) (by omega)
     ·simp only [] at ha
      exact no a (by omega) g'
     ·refine Ev.step (fun k=>spec_OpenFor.l0.eq_2 l ss c r h k) (Ev.pos (by omega) (Ev.bind (swithin l h hl) (Ev.pos gb (Ev.bind (sclosed g ss hs) ?_))))
      rw [z,w1]
      refine Ev.step (fun k=>spec_OpenFor.j2.eq_2 l ss c _ h false k) (Ev.neg (by simp) (Ev.pos e ?_))
      rw [w2]
      exact Ev.now _
    ·have no' : ∀ a,a + c≤h + 1→¬ Run (Q l ss) c a:=by
      intro a e1 g'
      by_cases e' : a + c≤h
      ·exact no a e' g'
      ·have:=g' (h - r - 1) (by omega) (by omega)
       rw [bef] at this
       cases this
     obtain ⟨a,ha,hr⟩:=ih (h + 1) (r + 1) (by omega) (by omega) (by omega) (by omega) run' (by rw [show h + 1 - (r + 1) - 1=h - r - 1 from by omega];exact bef) no'
     refine ⟨a,ha,Ev.step (fun k=>spec_OpenFor.l0.eq_2 l ss c r h k) (Ev.pos (by omega) (Ev.bind (swithin l h hl) (Ev.pos gb (Ev.bind (sclosed g ss hs) ?_))))⟩
     rw [z,w1]
     refine Ev.step (fun k=>spec_OpenFor.j2.eq_2 l ss c _ h false k) (Ev.neg (by simp) (Ev.neg e ?_))
     rw [w]
     exact hr
   ·have q : Q l ss h=false:=by unfold Q;cases x : opens l ss h <;> simp_all
    obtain ⟨a,ha,hr⟩:=off q
    refine ⟨a,ha,Ev.step (fun k=>spec_OpenFor.l0.eq_2 l ss c r h k) (Ev.pos (by omega) (Ev.bind (swithin l h hl) (Ev.pos gb (Ev.bind (sclosed g ss hs) ?_))))⟩
    have z : decide (((shut l h ss).length : Int) > 0)=true:=by
     refine decide_eq_true ?_
     unfold opens at o
     rcases x : shut l h ss with _ | ⟨y,t⟩
     ·rw [x] at o;simp at o
     ·simp only [List.length_cons];omega
    rw [z]
    exact hr
  ·have q : Q l ss h=false:=by unfold Q;rw [inB_false g];rfl
   obtain ⟨a,ha,hr⟩:=off q
   refine ⟨a,ha,Ev.step (fun k=>spec_OpenFor.l0.eq_2 l ss c r h k) (Ev.pos (by omega) (Ev.bind (swithin l h hl) (Ev.neg (by rw [inB_false g];simp) hr)))⟩
theorem Q_out {l : List S30} (ss : List S44) (g : GoodR l) : ∀ x,x < 0 ∨ 1000≤x→Q l ss x=false:=by
 intro x hx
 have : ¬ InH l x:=by
  intro i
  have a:=g.h 0 (by omega) (by have:=i.2.1;omega)
  have b:=g.h ((l.length : Int) - 1) (by have:=i.2.1;omega) (by omega)
  have:=i.2.2
  omega
 unfold Q
 rw [inB_false this]
 rfl
theorem hours_in {l : List S30} (g : GoodR l) : ∃ lo hi,Ev (fun _=>impl_hours.f l) (lo,hi)∧0≤lo∧hi≤999∧lo≤hi + 1∧∀ x,(lo≤x∧x≤hi) ↔ InH l x:=by
 have hl:=g.len
 by_cases c : (l.length : Int)=0
 ·refine ⟨0,-1,⟨0,fun k _=>by rw [ihours l (by omega),if_pos c]⟩,by omega,by omega,by omega,fun x=>⟨fun h=>by omega,fun h=>by have:=h.2.1;omega⟩⟩
 ·refine ⟨H l 0,H l ((l.length : Int) - 1),⟨0,fun k _=>by rw [ihours l (by omega),if_neg c]⟩,(g.h 0 (by omega) (by omega)).1,(g.h _ (by omega) (by omega)).2,?_,fun x=>⟨fun h=>⟨g,by omega,h⟩,fun h=>h.2.2⟩⟩
  have:=g.le 0 ((l.length : Int) - 1) (by omega) (by omega) (by omega)
  omega
theorem OpenFor_both (l : List S30) (ss : List S44) (c : Int) (hl : (l.length : Int)≤1000000000000) (hs : (ss.length : Int)≤1000000000000) :
  ∃ r,Ev (fun k=>spec_OpenFor.f k l ss c) r∧Ev (fun k=>impl_OpenFor.f k l ss c) r∧(r.2=true→okFor l ss c=true∧Run (Q l ss) c r.1):=by
 unfold spec_OpenFor.f impl_OpenFor.f
 have bad : okFor l ss c=false→∃ r : Int × Bool,Ev (fun k=>(spec_l23Good.f k l).bind fun t472=>(if t472=true then ((spec_l23Sumps.f k ss).bind fun t473=>(if t473=true then ((spec_l1In.f c 1 100).bind fun t474=>(spec_OpenFor.j0 k l ss c (!t474))) else (spec_OpenFor.j0 k l ss c true))) else (spec_OpenFor.j0 k l ss c true))) r ∧
   Ev (fun k=>(impl_AreReadings.f k l).bind fun t500=>(if t500=true then ((impl_AreSumps.f k ss).bind fun t501=>(if t501=true then ((impl_within.f c 1 100).bind fun t502=>(impl_OpenFor.j0 k c (!t502) l ss)) else (impl_OpenFor.j0 k c true l ss))) else (impl_OpenFor.j0 k c true l ss))) r∧(r.2=true→okFor l ss c=true∧Run (Q l ss) c r.1):=by
  intro no
  have s0 : Ev (fun k=>spec_OpenFor.j0 k l ss c true) (0,false):=Ev.step (fun k=>spec_OpenFor.j0.eq_2 l ss c true k) (Ev.pos rfl (Ev.now _))
  have i0 : Ev (fun k=>impl_OpenFor.j0 k c true l ss) (0,false):=Ev.step (fun k=>impl_OpenFor.j0.eq_2 c true l ss k) (Ev.pos rfl (Ev.now _))
  refine ⟨(0,false),Ev.bind (sgood l hl) ?_,Ev.bind (igood l hl) ?_,fun h=>by cases h⟩
  ·by_cases a : goodB l=true
   ·refine Ev.pos a (Ev.bind (ssumps ss hs) ?_)
    by_cases b : sumpsB ss=true
    ·refine Ev.pos b (Ev.bindS (l1In_eq _ _ _) ?_)
     have : decide (1≤c∧c≤100)=false:=by unfold okFor at no;rw [a,b] at no;simpa using no
     rw [this]
     exact s0
    ·exact Ev.neg b s0
   ·exact Ev.neg a s0
  ·by_cases a : goodB l=true
   ·refine Ev.pos a (Ev.bind (isumps ss hs) ?_)
    by_cases b : sumpsB ss=true
    ·refine Ev.pos b (Ev.bindS (within_eq _ _ _) ?_)
     have : decide (1≤c∧c≤100)=false:=by unfold okFor at no;rw [a,b] at no;simpa using no
     rw [this]
     exact i0
    ·exact Ev.neg b i0
   ·exact Ev.neg a i0
 by_cases ok : okFor l ss c=true
 ·have ok':=ok
  unfold okFor at ok'
  simp only [Bool.and_eq_true] at ok'
  obtain ⟨a,b,d⟩:=ok'
  have hc:=of_decide_eq_true d
  have g:=good_of a
  have out:=Q_out ss g
  obtain ⟨r,hr,sr⟩:=sfor_l0 l ss c hl hs hc out 1000 0 0 (Int.le_refl _) rfl (Int.le_refl _) (by omega) (fun x u v=>by omega) (out _ (by omega)) (fun x e g'=>by
   have:=g' x (Int.le_refl _) (by omega)
   rw [out x (by omega)] at this
   cases this)
  obtain ⟨lo,hi,hh,h0,h1,h2,hin⟩:=hours_in g
  have evp : ∀ x,lo≤x→x < lo + ((hi + 1 - lo).toNat : Int)→Ev (fun k=>(fun (k : Nat) (x_ : Int)=>impl_OpenFor_1.f k x_ ss l) k x) (Q l ss x):=by
   intro x u v
   have i:=(hin x).mp ⟨u,by omega⟩
   refine Ev.to (iopens i ss hs) ?_
   unfold Q
   rw [inB_true i,Bool.true_and]
  obtain ⟨K,hK⟩:=Ev.all (fun (k : Nat) (x_ : Int)=>impl_OpenFor_1.f k x_ ss l) (Q l ss) lo _ evp
  have sp : Ev (fun k=>impl_spans.f k lo hi (fun x_ : Int=>impl_OpenFor_1.f k x_ ss l)) (tbl (scan (Q l ss) (hi + 1 - lo).toNat lo [])):=
   ⟨K + 2000000,fun k hk=>ispans (Q l ss) _ lo hi h0 (by omega) k (by omega) (fun x u v=>hK k (by omega) x u (by omega))⟩
  have S:=Sp.scan (Q:=Q l ss) (hi + 1 - lo).toNat lo [] (Int.le_refl _) (Sp.start _ _)
  have len : ∀ (n : Nat) (h : Int) (R : List (Int × Int)),(scan (Q l ss) n h R).length≤R.length + n:=by
   intro n
   induction n with
   | zero=>intro h R;exact Nat.le_refl _
   | succ n ih=>
    intro h R
    have a:=ih (h + 1) (stp (Q l ss) R h)
    have b:=stp_len (Q l ss) R h
    show (scan (Q l ss) n (h + 1) (stp (Q l ss) R h)).length≤_
    omega
  have ln:=len (hi + 1 - lo).toNat lo []
  obtain ⟨r',hr',ir⟩:=ifor_l0 (Q l ss) c lo _ _ hc.1 h0 (by omega) S (fun x hx=>by
   have : ¬ InH l x:=fun i=>by have:=(hin x).mpr i;omega
   unfold Q
   rw [inB_false this]
   rfl) (by simp at ln;omega) _ [] 0 (Int.le_refl _) rfl rfl (fun p hp=>by cases hp)
  have e:=hr.uniq hr'
  subst e
  refine ⟨r,?_,?_,fun h=>⟨ok,?_⟩⟩
  ·refine Ev.bind (sgood l hl) (Ev.pos a (Ev.bind (ssumps ss hs) (Ev.pos b (Ev.bindS (l1In_eq _ _ _) ?_))))
   rw [d]
   exact Ev.step (fun k=>spec_OpenFor.j0.eq_2 l ss c _ k) (Ev.neg (by simp) sr)
  ·refine Ev.bind (igood l hl) (Ev.pos a (Ev.bind (isumps ss hs) (Ev.pos b (Ev.bindS (within_eq _ _ _) ?_))))
   rw [d]
   exact Ev.step (fun k=>impl_OpenFor.j0.eq_2 c _ l ss k) (Ev.neg (by simp) (Ev.bind hh (Ev.bind sp ir)))
  ·rcases hr with ⟨_,h2,_⟩ | ⟨h2,_⟩
   ·exact h2
   ·rw [h2] at h;cases h
 ·exact bad (by cases x : okFor l ss c <;> simp_all)
end Go.Proofs.Ytldifiededjgjaa.Pu
namespace Go.Proofs.Ytldifiededjgjaa.P
open Go.RowKit Go.Proofs.YtldifiededjgjaaW.PrintWords Go.Proofs.YtldifiededjgjaaW.PrintLast Go.Proofs.YtldifiededjgjaaW.PrintMore
attribute [local go_sem] max2_int min2_int max_two min_two max_three min_three max_four min_four
set_option linter.unusedVariables false
set_option linter.unusedSimpArgs false
def impl_IsOpen.f (k : Nat) (l0 : List (S30)) (a1_0 : Int) (a1_1 : Int) (a1_2 : Int) (a2 : Int) : Option (Bool × Bool):=(impl_hasHour.f k l0 a2).bind fun t612=>(if t612=true then ((impl_isSump.f a1_0 a1_1 a1_2).bind fun t613=>(if t613=true then ((impl_Sump_open.f k a1_0 a1_1 a1_2 l0 a2).bind fun t614=>(some (t614,true))) else (some (false,false)))) else (some (false,false)))
theorem impl_IsOpen.mono : ∀ a0 a1 a2 a3 a4 k,LeO (impl_IsOpen.f k a0 a1 a2 a3 a4) (impl_IsOpen.f (k + 1) a0 a1 a2 a3 a4):=by
 intro a0 a1 a2 a3 a4 k
 unfold impl_IsOpen.f
 repeat' first
   | (with_reducible exact impl_Sump_open.mono _ _ _ _ _ _)
   | (with_reducible exact impl_hasHour.mono _ _ _)
   | (with_reducible exact LeO.refl _)
   | (with_reducible exact LeO.none _)
   | (with_reducible refine LeO.ite ?_ ?_)
   | (with_reducible refine LeO.bind ?_ (fun _=>?_))
set_option maxHeartbeats 8000000 in
set_option maxRecDepth 100000 in
theorem impl_IsOpen.calls (k : Nat) (A0 : Option Addr) (c0 : Nat) (l0 : List (S30)) (a1_0 : Int) (a1_1 : Int) (a1_2 : Int) (a2 : Int) (r1 : Bool) (r2 : Bool) (w : World) (hr0 : Kd.C k30 w A0 l0.length l0) (hc0 : l0.length≤c0) (h : impl_IsOpen.f k l0 a1_0 a1_1 a1_2 a2=some (r1,r2)) :
  Calls Try.prog 33 #[.slice A0 l0.length c0,.agg #[.int .i64 a1_0,.int .i64 a1_1,.int .i64 a1_2],.int .i64 a2] w fun e w'=>e = .returned (.tuple #[.bool r1,.bool r2])∧Below w.heap.size w w':=by
 have hu44:=Try.underlying44
 have HR0:=amk hr0
 have HC0:=amk hc0
 clear hr0 hc0
 have HB:=amk (Below.refl w.heap.size w)
 have H : ((impl_hasHour.f k l0 a2).bind fun t612=>(if t612=true then ((impl_isSump.f a1_0 a1_1 a1_2).bind fun t613=>(if t613=true then ((impl_Sump_open.f k a1_0 a1_1 a1_2 l0 a2).bind fun t614=>(some (t614,true))) else (some (false,false)))) else (some (false,false))))=some (r1,r2):=h
 clear h
 replace H:=obs H
 obtain ⟨t612,A40,H⟩:=H
 replace H : (if t612=true then ((impl_isSump.f a1_0 a1_1 a1_2).bind fun t613=>(if t613=true then ((impl_Sump_open.f k a1_0 a1_1 a1_2 l0 a2).bind fun t614=>(some (t614,true))) else (some (false,false)))) else (some (false,false)))=some (r1,r2):=H
 have A4:=amk A40
 clear A40
 by_cases c5 : t612=true
 ·subst c5
  have H1 : ((impl_isSump.f a1_0 a1_1 a1_2).bind fun t613=>(if t613=true then ((impl_Sump_open.f k a1_0 a1_1 a1_2 l0 a2).bind fun t614=>(some (t614,true))) else (some (false,false))))=some (r1,r2):=by rw [if_pos rfl] at H;exact H
  clear H
  have H:=H1
  clear H1
  replace H:=obs H
  obtain ⟨t613,A60,H⟩:=H
  replace H : (if t613=true then ((impl_Sump_open.f k a1_0 a1_1 a1_2 l0 a2).bind fun t614=>(some (t614,true))) else (some (false,false)))=some (r1,r2):=H
  have A6:=amk A60
  clear A60
  by_cases c7 : t613=true
  ·subst c7
   have H1 : ((impl_Sump_open.f k a1_0 a1_1 a1_2 l0 a2).bind fun t614=>(some (t614,true)))=some (r1,r2):=by rw [if_pos rfl] at H;exact H
   clear H
   have H:=H1
   clear H1
   replace H:=obs H
   obtain ⟨t614,A80,H⟩:=H
   replace H : (some (t614,true))=some (r1,r2):=H
   have A8:=amk A80
   clear A80
   simp only [Option.some.injEq,Prod.mk.injEq] at H
   obtain ⟨rfl,rfl⟩:=H
   go_enter Try.func33,Try.ntmps33
   go_wp2_with (first | ((with_reducible refine gate_dst (N:=4) rfl ?_);refine box_event ?hg (N:=4) ?hd (cs:=#[.int .i64 a1_0,.int .i64 a1_1,.int .i64 a1_2]) (t:=44) ?hr ?_;(case hd=>rfl);(case hg=>rfl);(case hr=>first | (go_simp;done)|(go_simp;rfl));intro gb611 hg w9 hbox hb;have BK611:=amk (hbox);have GW611:=amk ((by rw [hg];exact (below_size (bel HB)) : w.heap.size≤gb611));have GE611:=amk ((by rw [hg];exact (below_size (bel HB)) : w.heap.size≤gb611));replace HB:=amk (below_step (bel HB) hb);clear hb hbox hg)|((with_reducible refine gate_callee (f:=49) rfl ?_);refine goesL_ (some 10) rfl rfl Try.func49 (by kernel_rfl) rfl #[.slice A0 l0.length c0,.int .i64 a2] rfl mtt ?_;(with_reducible refine (impl_hasHour.calls k _ _ l0 a2 true _ ?side1 ?side2 A4.out).mono ?_);(case side1=>exact ccc (Kd.C_below HR0.out HB.out));(case side2=>exact HC0.out);rintro e w10 ⟨rfl,hb⟩;refine ⟨_,rfl,?_⟩;replace BK611:=amk (blk_below (g:=gb611) (o:=.cells #[.int .i64 a1_0,.int .i64 a1_1,.int .i64 a1_2] 44 (0,0)) (bkk BK611) hb);replace HB:=amk (below_step (bel1 HB GE611.out) hb);(try clear hb);have hcz11_0 : w10.cell? ⟨gb611,0,none⟩=some (.int .i64 a1_0):=(blk_cell BK611.out 0).trans rfl;have hcz11_1 : w10.cell? ⟨gb611,1,none⟩=some (.int .i64 a1_1):=(blk_cell BK611.out 1).trans rfl;have hcz11_2 : w10.cell? ⟨gb611,2,none⟩=some (.int .i64 a1_2):=(blk_cell BK611.out 2).trans rfl;have hfz11_0:=blk_frozen BK611.out 0;have hfz11_1:=blk_frozen BK611.out 1;have hfz11_2:=blk_frozen BK611.out 2)|(go_at_call 62;(with_reducible refine (impl_isSump.calls a1_0 a1_1 a1_2 true _ A6.out).mono ?_);rintro e w12 ⟨rfl,hb⟩;replace BK611:=amk (blk_below (g:=gb611) (o:=.cells #[.int .i64 a1_0,.int .i64 a1_1,.int .i64 a1_2] 44 (0,0)) (bkk BK611) hb);replace HB:=amk (below_step (bel1 HB GE611.out) hb);(try clear hb);have hcz13_0 : w12.cell? ⟨gb611,0,none⟩=some (.int .i64 a1_0):=(blk_cell BK611.out 0).trans rfl;have hcz13_1 : w12.cell? ⟨gb611,1,none⟩=some (.int .i64 a1_1):=(blk_cell BK611.out 1).trans rfl;have hcz13_2 : w12.cell? ⟨gb611,2,none⟩=some (.int .i64 a1_2):=(blk_cell BK611.out 2).trans rfl;have hfz13_0:=blk_frozen BK611.out 0;have hfz13_1:=blk_frozen BK611.out 1;have hfz13_2:=blk_frozen BK611.out 2)|((with_reducible refine gate_callee (f:=66) rfl ?_);refine goesL_ (some 20) rfl rfl Try.func66 (by kernel_rfl) rfl #[.agg #[.int .i64 a1_0,.int .i64 a1_1,.int .i64 a1_2],.slice A0 l0.length c0,.int .i64 a2] rfl mtt ?_;(with_reducible refine (impl_Sump_open.calls k a1_0 a1_1 a1_2 _ _ l0 a2 t614 _ ?side1 ?side2 A8.out).mono ?_);(case side1=>exact ccc (Kd.C_below HR0.out HB.out));(case side2=>exact HC0.out);rintro e w14 ⟨rfl,hb⟩;refine ⟨_,rfl,?_⟩;replace BK611:=amk (blk_below (g:=gb611) (o:=.cells #[.int .i64 a1_0,.int .i64 a1_1,.int .i64 a1_2] 44 (0,0)) (bkk BK611) hb);replace HB:=amk (below_step (bel1 HB GE611.out) hb);(try clear hb)))
   go_ret2
   exact ⟨erw0,bel1 HB GE611.out⟩
  ·replace c7:=Bool.eq_false_iff.mpr c7
   subst c7
   have H1 : (some (false,false))=some (r1,r2):=by rw [if_neg (show ¬ (false=true) by decide)] at H;exact H
   clear H
   have H:=H1
   clear H1
   simp only [Option.some.injEq,Prod.mk.injEq] at H
   obtain ⟨rfl,rfl⟩:=H
   go_enter Try.func33,Try.ntmps33
   go_wp2_with (first | ((with_reducible refine gate_dst (N:=4) rfl ?_);refine box_event ?hg (N:=4) ?hd (cs:=#[.int .i64 a1_0,.int .i64 a1_1,.int .i64 a1_2]) (t:=44) ?hr ?_;(case hd=>rfl);(case hg=>rfl);(case hr=>first | (go_simp;done)|(go_simp;rfl));intro gb611 hg w15 hbox hb;have BK611:=amk (hbox);have GW611:=amk ((by rw [hg];exact (below_size (bel HB)) : w.heap.size≤gb611));have GE611:=amk ((by rw [hg];exact (below_size (bel HB)) : w.heap.size≤gb611));replace HB:=amk (below_step (bel HB) hb);clear hb hbox hg)|((with_reducible refine gate_callee (f:=49) rfl ?_);refine goesL_ (some 10) rfl rfl Try.func49 (by kernel_rfl) rfl #[.slice A0 l0.length c0,.int .i64 a2] rfl mtt ?_;(with_reducible refine (impl_hasHour.calls k _ _ l0 a2 true _ ?side1 ?side2 A4.out).mono ?_);(case side1=>exact ccc (Kd.C_below HR0.out HB.out));(case side2=>exact HC0.out);rintro e w16 ⟨rfl,hb⟩;refine ⟨_,rfl,?_⟩;replace BK611:=amk (blk_below (g:=gb611) (o:=.cells #[.int .i64 a1_0,.int .i64 a1_1,.int .i64 a1_2] 44 (0,0)) (bkk BK611) hb);replace HB:=amk (below_step (bel1 HB GE611.out) hb);(try clear hb);have hcz17_0 : w16.cell? ⟨gb611,0,none⟩=some (.int .i64 a1_0):=(blk_cell BK611.out 0).trans rfl;have hcz17_1 : w16.cell? ⟨gb611,1,none⟩=some (.int .i64 a1_1):=(blk_cell BK611.out 1).trans rfl;have hcz17_2 : w16.cell? ⟨gb611,2,none⟩=some (.int .i64 a1_2):=(blk_cell BK611.out 2).trans rfl;have hfz17_0:=blk_frozen BK611.out 0;have hfz17_1:=blk_frozen BK611.out 1;have hfz17_2:=blk_frozen BK611.out 2)|(go_at_call 62;(with_reducible refine (impl_isSump.calls a1_0 a1_1 a1_2 false _ A6.out).mono ?_);rintro e w18 ⟨rfl,hb⟩;replace BK611:=amk (blk_below (g:=gb611) (o:=.cells #[.int .i64 a1_0,.int .i64 a1_1,.int .i64 a1_2] 44 (0,0)) (bkk BK611) hb);replace HB:=amk (below_step (bel1 HB GE611.out) hb);(try clear hb)))
   go_ret2
   exact ⟨erw0,bel1 HB GE611.out⟩
 ·replace c5:=Bool.eq_false_iff.mpr c5
  subst c5
  have H1 : (some (false,false))=some (r1,r2):=by rw [if_neg (show ¬ (false=true) by decide)] at H;exact H
  clear H
  have H:=H1
  clear H1
  simp only [Option.some.injEq,Prod.mk.injEq] at H
  obtain ⟨rfl,rfl⟩:=H
  go_enter Try.func33,Try.ntmps33
  go_wp2_with (first | ((with_reducible refine gate_dst (N:=4) rfl ?_);refine box_event ?hg (N:=4) ?hd (cs:=#[.int .i64 a1_0,.int .i64 a1_1,.int .i64 a1_2]) (t:=44) ?hr ?_;(case hd=>rfl);(case hg=>rfl);(case hr=>first | (go_simp;done)|(go_simp;rfl));intro gb611 hg w19 hbox hb;have BK611:=amk (hbox);have GW611:=amk ((by rw [hg];exact (below_size (bel HB)) : w.heap.size≤gb611));have GE611:=amk ((by rw [hg];exact (below_size (bel HB)) : w.heap.size≤gb611));replace HB:=amk (below_step (bel HB) hb);clear hb hbox hg)|((with_reducible refine gate_callee (f:=49) rfl ?_);refine goesL_ (some 10) rfl rfl Try.func49 (by kernel_rfl) rfl #[.slice A0 l0.length c0,.int .i64 a2] rfl mtt ?_;(with_reducible refine (impl_hasHour.calls k _ _ l0 a2 false _ ?side1 ?side2 A4.out).mono ?_);(case side1=>exact ccc (Kd.C_below HR0.out HB.out));(case side2=>exact HC0.out);rintro e w20 ⟨rfl,hb⟩;refine ⟨_,rfl,?_⟩;replace BK611:=amk (blk_below (g:=gb611) (o:=.cells #[.int .i64 a1_0,.int .i64 a1_1,.int .i64 a1_2] 44 (0,0)) (bkk BK611) hb);replace HB:=amk (below_step (bel1 HB GE611.out) hb);(try clear hb)))
  go_ret2
  exact ⟨erw0,bel1 HB GE611.out⟩
def spec_IsOpen.f (k : Nat) (l0 : List (S30)) (a1_0 : Int) (a1_1 : Int) (a1_2 : Int) (a2 : Int) : Option (Bool × Bool):=(spec_l23Within.f k l0 a2).bind fun t616=>(if t616=true then ((spec_l23Sump.f a1_0 a1_1 a1_2).bind fun t617=>(if t617=true then ((spec_l23Open.f k l0 a1_0 a1_1 a1_2 a2).bind fun t618=>(some (t618,true))) else (some (false,false)))) else (some (false,false)))
theorem spec_IsOpen.mono : ∀ a0 a1 a2 a3 a4 k,LeO (spec_IsOpen.f k a0 a1 a2 a3 a4) (spec_IsOpen.f (k + 1) a0 a1 a2 a3 a4):=by
 intro a0 a1 a2 a3 a4 k
 unfold spec_IsOpen.f
 repeat' first
   | (with_reducible exact spec_l23Open.mono _ _ _ _ _ _)
   | (with_reducible exact spec_l23Within.mono _ _ _)
   | (with_reducible exact LeO.refl _)
   | (with_reducible exact LeO.none _)
   | (with_reducible refine LeO.ite ?_ ?_)
   | (with_reducible refine LeO.bind ?_ (fun _=>?_))
set_option maxHeartbeats 8000000 in
set_option maxRecDepth 100000 in
theorem spec_IsOpen.calls (k : Nat) (A0 : Option Addr) (c0 : Nat) (l0 : List (S30)) (a1_0 : Int) (a1_1 : Int) (a1_2 : Int) (a2 : Int) (r1 : Bool) (r2 : Bool) (w : World) (hr0 : Kd.C k30 w A0 l0.length l0) (hc0 : l0.length≤c0) (h : spec_IsOpen.f k l0 a1_0 a1_1 a1_2 a2=some (r1,r2)) :
  Calls Try.prog 34 #[.slice A0 l0.length c0,.agg #[.int .i64 a1_0,.int .i64 a1_1,.int .i64 a1_2],.int .i64 a2] w fun e w'=>e = .returned (.tuple #[.bool r1,.bool r2])∧Below w.heap.size w w':=by
 have hu44:=Try.underlying44
 have HR0:=amk hr0
 have HC0:=amk hc0
 clear hr0 hc0
 have HB:=amk (Below.refl w.heap.size w)
 have H : ((spec_l23Within.f k l0 a2).bind fun t616=>(if t616=true then ((spec_l23Sump.f a1_0 a1_1 a1_2).bind fun t617=>(if t617=true then ((spec_l23Open.f k l0 a1_0 a1_1 a1_2 a2).bind fun t618=>(some (t618,true))) else (some (false,false)))) else (some (false,false))))=some (r1,r2):=h
 clear h
 replace H:=obs H
 obtain ⟨t616,A40,H⟩:=H
 replace H : (if t616=true then ((spec_l23Sump.f a1_0 a1_1 a1_2).bind fun t617=>(if t617=true then ((spec_l23Open.f k l0 a1_0 a1_1 a1_2 a2).bind fun t618=>(some (t618,true))) else (some (false,false)))) else (some (false,false)))=some (r1,r2):=H
 have A4:=amk A40
 clear A40
 by_cases c5 : t616=true
 ·subst c5
  have H1 : ((spec_l23Sump.f a1_0 a1_1 a1_2).bind fun t617=>(if t617=true then ((spec_l23Open.f k l0 a1_0 a1_1 a1_2 a2).bind fun t618=>(some (t618,true))) else (some (false,false))))=some (r1,r2):=by rw [if_pos rfl] at H;exact H
  clear H
  have H:=H1
  clear H1
  replace H:=obs H
  obtain ⟨t617,A60,H⟩:=H
  replace H : (if t617=true then ((spec_l23Open.f k l0 a1_0 a1_1 a1_2 a2).bind fun t618=>(some (t618,true))) else (some (false,false)))=some (r1,r2):=H
  have A6:=amk A60
  clear A60
  by_cases c7 : t617=true
  ·subst c7
   have H1 : ((spec_l23Open.f k l0 a1_0 a1_1 a1_2 a2).bind fun t618=>(some (t618,true)))=some (r1,r2):=by rw [if_pos rfl] at H;exact H
   clear H
   have H:=H1
   clear H1
   replace H:=obs H
   obtain ⟨t618,A80,H⟩:=H
   replace H : (some (t618,true))=some (r1,r2):=H
   have A8:=amk A80
   clear A80
   simp only [Option.some.injEq,Prod.mk.injEq] at H
   obtain ⟨rfl,rfl⟩:=H
   go_enter Try.func34,Try.ntmps34
   go_wp2_with (first | ((with_reducible refine gate_dst (N:=4) rfl ?_);refine box_event ?hg (N:=4) ?hd (cs:=#[.int .i64 a1_0,.int .i64 a1_1,.int .i64 a1_2]) (t:=44) ?hr ?_;(case hd=>rfl);(case hg=>rfl);(case hr=>first | (go_simp;done)|(go_simp;rfl));intro gb615 hg w9 hbox hb;have BK615:=amk (hbox);have GW615:=amk ((by rw [hg];exact (below_size (bel HB)) : w.heap.size≤gb615));have GE615:=amk ((by rw [hg];exact (below_size (bel HB)) : w.heap.size≤gb615));replace HB:=amk (below_step (bel HB) hb);clear hb hbox hg)|((with_reducible refine gate_callee (f:=51) rfl ?_);refine goesL_ (some 10) rfl rfl Try.func51 (by kernel_rfl) rfl #[.slice A0 l0.length c0,.int .i64 a2] rfl mtt ?_;(with_reducible refine (spec_l23Within.calls k _ _ l0 a2 true _ ?side1 ?side2 A4.out).mono ?_);(case side1=>exact ccc (Kd.C_below HR0.out HB.out));(case side2=>exact HC0.out);rintro e w10 ⟨rfl,hb⟩;refine ⟨_,rfl,?_⟩;replace BK615:=amk (blk_below (g:=gb615) (o:=.cells #[.int .i64 a1_0,.int .i64 a1_1,.int .i64 a1_2] 44 (0,0)) (bkk BK615) hb);replace HB:=amk (below_step (bel1 HB GE615.out) hb);(try clear hb);have hcz11_0 : w10.cell? ⟨gb615,0,none⟩=some (.int .i64 a1_0):=(blk_cell BK615.out 0).trans rfl;have hcz11_1 : w10.cell? ⟨gb615,1,none⟩=some (.int .i64 a1_1):=(blk_cell BK615.out 1).trans rfl;have hcz11_2 : w10.cell? ⟨gb615,2,none⟩=some (.int .i64 a1_2):=(blk_cell BK615.out 2).trans rfl;have hfz11_0:=blk_frozen BK615.out 0;have hfz11_1:=blk_frozen BK615.out 1;have hfz11_2:=blk_frozen BK615.out 2)|(go_at_call 59;(with_reducible refine (spec_l23Sump.calls a1_0 a1_1 a1_2 true _ A6.out).mono ?_);rintro e w12 ⟨rfl,hb⟩;replace BK615:=amk (blk_below (g:=gb615) (o:=.cells #[.int .i64 a1_0,.int .i64 a1_1,.int .i64 a1_2] 44 (0,0)) (bkk BK615) hb);replace HB:=amk (below_step (bel1 HB GE615.out) hb);(try clear hb);have hcz13_0 : w12.cell? ⟨gb615,0,none⟩=some (.int .i64 a1_0):=(blk_cell BK615.out 0).trans rfl;have hcz13_1 : w12.cell? ⟨gb615,1,none⟩=some (.int .i64 a1_1):=(blk_cell BK615.out 1).trans rfl;have hcz13_2 : w12.cell? ⟨gb615,2,none⟩=some (.int .i64 a1_2):=(blk_cell BK615.out 2).trans rfl;have hfz13_0:=blk_frozen BK615.out 0;have hfz13_1:=blk_frozen BK615.out 1;have hfz13_2:=blk_frozen BK615.out 2)|((with_reducible refine gate_callee (f:=60) rfl ?_);refine goesL_ (some 20) rfl rfl Try.func60 (by kernel_rfl) rfl #[.slice A0 l0.length c0,.agg #[.int .i64 a1_0,.int .i64 a1_1,.int .i64 a1_2],.int .i64 a2] rfl mtt ?_;(with_reducible refine (spec_l23Open.calls k _ _ l0 a1_0 a1_1 a1_2 a2 t618 _ ?side1 ?side2 A8.out).mono ?_);(case side1=>exact ccc (Kd.C_below HR0.out HB.out));(case side2=>exact HC0.out);rintro e w14 ⟨rfl,hb⟩;refine ⟨_,rfl,?_⟩;replace BK615:=amk (blk_below (g:=gb615) (o:=.cells #[.int .i64 a1_0,.int .i64 a1_1,.int .i64 a1_2] 44 (0,0)) (bkk BK615) hb);replace HB:=amk (below_step (bel1 HB GE615.out) hb);(try clear hb)))
   go_ret2
   exact ⟨erw0,bel1 HB GE615.out⟩
  ·replace c7:=Bool.eq_false_iff.mpr c7
   subst c7
   have H1 : (some (false,false))=some (r1,r2):=by rw [if_neg (show ¬ (false=true) by decide)] at H;exact H
   clear H
   have H:=H1
   clear H1
   simp only [Option.some.injEq,Prod.mk.injEq] at H
   obtain ⟨rfl,rfl⟩:=H
   go_enter Try.func34,Try.ntmps34
   go_wp2_with (first | ((with_reducible refine gate_dst (N:=4) rfl ?_);refine box_event ?hg (N:=4) ?hd (cs:=#[.int .i64 a1_0,.int .i64 a1_1,.int .i64 a1_2]) (t:=44) ?hr ?_;(case hd=>rfl);(case hg=>rfl);(case hr=>first | (go_simp;done)|(go_simp;rfl));intro gb615 hg w15 hbox hb;have BK615:=amk (hbox);have GW615:=amk ((by rw [hg];exact (below_size (bel HB)) : w.heap.size≤gb615));have GE615:=amk ((by rw [hg];exact (below_size (bel HB)) : w.heap.size≤gb615));replace HB:=amk (below_step (bel HB) hb);clear hb hbox hg)|((with_reducible refine gate_callee (f:=51) rfl ?_);refine goesL_ (some 10) rfl rfl Try.func51 (by kernel_rfl) rfl #[.slice A0 l0.length c0,.int .i64 a2] rfl mtt ?_;(with_reducible refine (spec_l23Within.calls k _ _ l0 a2 true _ ?side1 ?side2 A4.out).mono ?_);(case side1=>exact ccc (Kd.C_below HR0.out HB.out));(case side2=>exact HC0.out);rintro e w16 ⟨rfl,hb⟩;refine ⟨_,rfl,?_⟩;replace BK615:=amk (blk_below (g:=gb615) (o:=.cells #[.int .i64 a1_0,.int .i64 a1_1,.int .i64 a1_2] 44 (0,0)) (bkk BK615) hb);replace HB:=amk (below_step (bel1 HB GE615.out) hb);(try clear hb);have hcz17_0 : w16.cell? ⟨gb615,0,none⟩=some (.int .i64 a1_0):=(blk_cell BK615.out 0).trans rfl;have hcz17_1 : w16.cell? ⟨gb615,1,none⟩=some (.int .i64 a1_1):=(blk_cell BK615.out 1).trans rfl;have hcz17_2 : w16.cell? ⟨gb615,2,none⟩=some (.int .i64 a1_2):=(blk_cell BK615.out 2).trans rfl;have hfz17_0:=blk_frozen BK615.out 0;have hfz17_1:=blk_frozen BK615.out 1;have hfz17_2:=blk_frozen BK615.out 2)|(go_at_call 59;(with_reducible refine (spec_l23Sump.calls a1_0 a1_1 a1_2 false _ A6.out).mono ?_);rintro e w18 ⟨rfl,hb⟩;replace BK615:=amk (blk_below (g:=gb615) (o:=.cells #[.int .i64 a1_0,.int .i64 a1_1,.int .i64 a1_2] 44 (0,0)) (bkk BK615) hb);replace HB:=amk (below_step (bel1 HB GE615.out) hb);(try clear hb)))
   go_ret2
   exact ⟨erw0,bel1 HB GE615.out⟩
 ·replace c5:=Bool.eq_false_iff.mpr c5
  subst c5
  have H1 : (some (false,false))=some (r1,r2):=by rw [if_neg (show ¬ (false=true) by decide)] at H;exact H
  clear H
  have H:=H1
  clear H1
  simp only [Option.some.injEq,Prod.mk.injEq] at H
  obtain ⟨rfl,rfl⟩:=H
  go_enter Try.func34,Try.ntmps34
  go_wp2_with (first | ((with_reducible refine gate_dst (N:=4) rfl ?_);refine box_event ?hg (N:=4) ?hd (cs:=#[.int .i64 a1_0,.int .i64 a1_1,.int .i64 a1_2]) (t:=44) ?hr ?_;(case hd=>rfl);(case hg=>rfl);(case hr=>first | (go_simp;done)|(go_simp;rfl));intro gb615 hg w19 hbox hb;have BK615:=amk (hbox);have GW615:=amk ((by rw [hg];exact (below_size (bel HB)) : w.heap.size≤gb615));have GE615:=amk ((by rw [hg];exact (below_size (bel HB)) : w.heap.size≤gb615));replace HB:=amk (below_step (bel HB) hb);clear hb hbox hg)|((with_reducible refine gate_callee (f:=51) rfl ?_);refine goesL_ (some 10) rfl rfl Try.func51 (by kernel_rfl) rfl #[.slice A0 l0.length c0,.int .i64 a2] rfl mtt ?_;(with_reducible refine (spec_l23Within.calls k _ _ l0 a2 false _ ?side1 ?side2 A4.out).mono ?_);(case side1=>exact ccc (Kd.C_below HR0.out HB.out));(case side2=>exact HC0.out);rintro e w20 ⟨rfl,hb⟩;refine ⟨_,rfl,?_⟩;replace BK615:=amk (blk_below (g:=gb615) (o:=.cells #[.int .i64 a1_0,.int .i64 a1_1,.int .i64 a1_2] 44 (0,0)) (bkk BK615) hb);replace HB:=amk (below_step (bel1 HB GE615.out) hb);(try clear hb)))
  go_ret2
  exact ⟨erw0,bel1 HB GE615.out⟩
end Go.Proofs.Ytldifiededjgjaa.P
