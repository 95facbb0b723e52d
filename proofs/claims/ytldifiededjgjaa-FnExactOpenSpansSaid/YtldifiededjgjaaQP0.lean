/- For all inputs the law FnExactOpenSpans answers true, and no call of it panics. -/
import Derived.Test.YtldifiededjgjaaProg
import Derived.Below
import Derived.Deep.Draws
import Derived.Deep.AppendLies
import Derived.Maps.AppendAt
import Derived.OwnWalk
import Derived.Laws.BytesArg
import Derived.Laws.MakeOwn
import Derived.Laws.OwnMore
import Derived.Deep.OwnRows
import Derived.Tactics
import Derived.Lib.ConvBytes
import Derived.Laws.Slices
import Derived.WalkKit
import Derived.KernelRfl
import Derived.RowKit3
import Derived.Deep.LoopGhost
import Derived.Deep.QuietTactic
import Derived.BigQuiet
import Derived.WideLaws
import Derived.Deep.DeepCutAuto
import Derived.Deep.CutBlock
import Derived.Deep.RegionHeld3
import Derived.Laws.Rows
import Derived.Lib.AppendStr
import Derived.ArgAppend
import Derived.Laws.IdiomCopy
import Derived.OrdersHeld
import Derived.Laws.BitsLemmas
import Derived.RowKit
import Derived.Deep.Slices
import Derived.Deep.Fields
import Derived.ChangeSame
import Derived.SizedLaws
import Derived.ProofKit
import Derived.OpenShut
import Derived.ShutString
import Derived.ChangeOld
import Derived.Test.YtldifiededjgjaaQPWords
import Derived.Test.YtldifiededjgjaaQPLast
import Derived.Test.YtldifiededjgjaaQPTab
import Derived.Test.YtldifiededjgjaaQPFour
import Derived.Test.YtldifiededjgjaaQPQPut
import Derived.Test.YtldifiededjgjaaQPApart
import Derived.Test.YtldifiededjgjaaQPArr
import Derived.Test.YtldifiededjgjaaQPZeros
import Derived.Test.YtldifiededjgjaaQPFoot
import Derived.Test.YtldifiededjgjaaQPKept
import Derived.Test.YtldifiededjgjaaQPShare
import Derived.Test.YtldifiededjgjaaQPN
import Derived.Test.YtldifiededjgjaaQPFootNe
import Derived.Test.YtldifiededjgjaaQPAt
import Derived.Test.YtldifiededjgjaaQPEqStruct
import Derived.Test.YtldifiededjgjaaQPRepsOne
import Derived.Test.YtldifiededjgjaaQPInv
import Derived.Test.YtldifiededjgjaaQPInvWords
import Derived.Test.YtldifiededjgjaaQPGuard
import Derived.Test.YtldifiededjgjaaQPNEv
import Derived.Test.YtldifiededjgjaaQPMore
namespace Go.Proofs.Ytldifiededjgjaa.P
open Go.RowKit Go.Proofs.YtldifiededjgjaaW.PrintWords Go.Proofs.YtldifiededjgjaaW.PrintLast Go.Proofs.YtldifiededjgjaaW.PrintMore
attribute [local go_sem] max2_int min2_int max_two min_two max_three min_three max_four min_four
set_option linter.unusedVariables false
set_option linter.unusedSimpArgs false
theorem far_cut {n n0 c g : Nat} {A : Option Addr} (hne : some g ≠ (Value.slice A n0 c).ownBlock) : ∀ ad,A=some ad→0 < n→ad.block ≠ g:=by
 rintro ad rfl _ rfl
 exact hne (by simp [Value.ownBlock])
theorem aside_slice {α : Type} {d : Kd α} {e : Nat} {w : World} {base : Nat} {ok : Nat→Prop} {v : Value} {xs : List α} (h : Aside0 (d.R e w base ok v xs)) : ∃ A c,v = .slice A xs.length c:=Kd.R_slice h.out
theorem enters_fn {P : Program} {f : FuncId} {fn : Func} {c : Code} (hf : P.funcs[f]? = some fn) (hname : (fn.name == "runtime.NumGoroutine")=false) (hb : fn.body=some c) : ∀ args w,(callFunc f args).run P w = .ok (.enter f args) w:=by
 intro args w
 have h1 : fn.name ≠ "runtime.NumGoroutine" := by simpa using hname
 simp [callFunc,hf,h1,hb,mark]
theorem below_of_drawn {w w' : World} (h : Drawn0 w w') : Below w.heap.size w w':=by
 obtain ⟨n,rfl⟩:=h
 exact pw_below_drewN (Below.refl _ _) n
def errW : Option Int→Value
 | none=>.nilIface
 | some c=>.iface 0 (.int .i64 c)
theorem errW_none : errW none = .nilIface:=rfl
theorem errW_some (c : Int) : errW (some c) = .iface 0 (.int .i64 c):=rfl
theorem info3 : (Try.prog.info? 3).map (fun i=>(i.zero,i.size,i.bytes))=some (some (.int .i64 0),1,8):=by kernel_rfl
theorem info30 : (Try.prog.info? 30).map (fun i=>(i.zero,i.size,i.bytes))=some (some (.agg #[(.int .i64 0),(.int .i64 0)]),2,16):=by kernel_rfl
theorem info44 : (Try.prog.info? 44).map (fun i=>(i.zero,i.size,i.bytes))=some (some (.agg #[(.int .i64 0),(.int .i64 0),(.int .i64 0)]),3,24):=by kernel_rfl
theorem info63 : (Try.prog.info? 63).map (fun i=>(i.zero,i.size,i.bytes))=some (some (.slice none 0 0),1,24):=by kernel_rfl
structure S30 where
 f0 : Int
 f1 : Int
def z30 : S30:=⟨(0 : Int),(0 : Int)⟩
def k30 : Kd S30:=Kd.iso (Kd.pair (Kd.int .i64) (Kd.int .i64)) (fun x : S30=>(x.f0,x.f1))
theorem k30_open {w : World} {x : S30} {cs : List Value} (h : k30.K w x cs) : cs = [.int .i64 x.f0,.int .i64 x.f1]:=by
 obtain ⟨_,_,rfl,rfl,rfl⟩:=h
 exact rfl
theorem k30_openM {w : World} {base : Nat} {ok : Nat→Prop} {x : S30} {cs : List Value} (h : k30.M w base ok x cs) : cs = [.int .i64 x.f0,.int .i64 x.f1]:=by
 obtain ⟨_,_,rfl,rfl,rfl⟩:=h
 exact rfl
theorem k30_mk (w : World) (x : S30)  : k30.K w x [.int .i64 x.f0,.int .i64 x.f1]:=⟨[.int .i64 x.f0],[.int .i64 x.f1],rfl,rfl,rfl⟩
theorem k30_mkM (w : World) (base : Nat) (ok : Nat→Prop) (x : S30)  : k30.M w base ok x [.int .i64 x.f0,.int .i64 x.f1]:=⟨[.int .i64 x.f0],[.int .i64 x.f1],rfl,rfl,rfl⟩
def rd_T30 (xs : List S30) (i : Int) : S30:=xs.getD i.toNat z30
theorem at_T30 {w : World} {A : Option Addr} {n : Nat} {xs : List S30} (h : Kd.C k30 w A n xs) (i : Int) (h0 : 0≤i) (h1 : i < n) : ∃ ad,A=some ad∧w.cell? (ad.add (i.toNat * 2))=some (.int .i64 (rd_T30 xs i).f0)∧w.cell? ⟨(ad.add (i.toNat * 2)).block,(ad.add (i.toNat * 2)).off + 1,none⟩=some (.int .i64 (rd_T30 xs i).f1):=by
 obtain ⟨ad,c,e,_,hK,hc0⟩:=Kd.C_get h z30 i h0 h1
 have hc : ∀ j u,c[j]? = some u→w.cell? (ad.add (i.toNat * 2 + j))=some u:=hc0
 obtain rfl:=k30_open hK
 exact ⟨ad,e,hc 0 _ rfl,by rw [← add_field _ _ 1 (by omega)];exact hc 1 _ rfl⟩
structure S93 where
 f0 : Int
 f1 : Int
def z93 : S93:=⟨(0 : Int),(0 : Int)⟩
def k93 : Kd S93:=Kd.iso (Kd.pair (Kd.int .i64) (Kd.int .i64)) (fun x : S93=>(x.f0,x.f1))
theorem k93_open {w : World} {x : S93} {cs : List Value} (h : k93.K w x cs) : cs = [.int .i64 x.f0,.int .i64 x.f1]:=by
 obtain ⟨_,_,rfl,rfl,rfl⟩:=h
 exact rfl
theorem k93_openM {w : World} {base : Nat} {ok : Nat→Prop} {x : S93} {cs : List Value} (h : k93.M w base ok x cs) : cs = [.int .i64 x.f0,.int .i64 x.f1]:=by
 obtain ⟨_,_,rfl,rfl,rfl⟩:=h
 exact rfl
theorem k93_mk (w : World) (x : S93)  : k93.K w x [.int .i64 x.f0,.int .i64 x.f1]:=⟨[.int .i64 x.f0],[.int .i64 x.f1],rfl,rfl,rfl⟩
theorem k93_mkM (w : World) (base : Nat) (ok : Nat→Prop) (x : S93)  : k93.M w base ok x [.int .i64 x.f0,.int .i64 x.f1]:=⟨[.int .i64 x.f0],[.int .i64 x.f1],rfl,rfl,rfl⟩
def rd_T93 (xs : List S93) (i : Int) : S93:=xs.getD i.toNat z93
theorem at_T93 {w : World} {A : Option Addr} {n : Nat} {xs : List S93} (h : Kd.C k93 w A n xs) (i : Int) (h0 : 0≤i) (h1 : i < n) : ∃ ad,A=some ad∧w.cell? (ad.add (i.toNat * 2))=some (.int .i64 (rd_T93 xs i).f0)∧w.cell? ⟨(ad.add (i.toNat * 2)).block,(ad.add (i.toNat * 2)).off + 1,none⟩=some (.int .i64 (rd_T93 xs i).f1):=by
 obtain ⟨ad,c,e,_,hK,hc0⟩:=Kd.C_get h z93 i h0 h1
 have hc : ∀ j u,c[j]? = some u→w.cell? (ad.add (i.toNat * 2 + j))=some u:=hc0
 obtain rfl:=k93_open hK
 exact ⟨ad,e,hc 0 _ rfl,by rw [← add_field _ _ 1 (by omega)];exact hc 1 _ rfl⟩
def rd_L4 (xs : List (List Int)) (i : Int) : (List Int):=xs.getD i.toNat ([] : List Int)
theorem at_L4 {w : World} {A : Option Addr} {n : Nat} {xs : List (List Int)} (h : Kd.C (Kd.slice 3 (Kd.int .i64)) w A n xs) (i : Int) (h0 : 0≤i) (h1 : i < n) : ∃ ad A0 c0,A=some ad∧w.cell? (ad.add i.toNat)=some (.slice A0 (rd_L4 xs i).length c0)∧(rd_L4 xs i).length≤c0∧(Kd.int .i64).C w A0 (rd_L4 xs i).length (rd_L4 xs i):=by
 obtain ⟨ad,c,e,_,hK,hc0⟩:=Kd.C_get h ([] : List Int) i h0 h1
 have hc : ∀ j u,c[j]? = some u→w.cell? (ad.add (i.toNat * 1 + j))=some u:=hc0
 obtain ⟨A0,c0,rfl,l0,g0⟩:=hK
 exact ⟨ad,A0,c0,e,by have hq:=hc 0 _ rfl;rwa [Nat.mul_one,Nat.add_zero] at hq,l0,g0⟩
def rd_L5 (xs : List (List (List Int))) (i : Int) : (List (List Int)):=xs.getD i.toNat ([] : List (List Int))
theorem at_L5 {w : World} {A : Option Addr} {n : Nat} {xs : List (List (List Int))} (h : Kd.C (Kd.slice 63 (Kd.slice 3 (Kd.int .i64))) w A n xs) (i : Int) (h0 : 0≤i) (h1 : i < n) : ∃ ad A0 c0,A=some ad∧w.cell? (ad.add i.toNat)=some (.slice A0 (rd_L5 xs i).length c0)∧(rd_L5 xs i).length≤c0∧(Kd.slice 3 (Kd.int .i64)).C w A0 (rd_L5 xs i).length (rd_L5 xs i):=by
 obtain ⟨ad,c,e,_,hK,hc0⟩:=Kd.C_get h ([] : List (List Int)) i h0 h1
 have hc : ∀ j u,c[j]? = some u→w.cell? (ad.add (i.toNat * 1 + j))=some u:=hc0
 obtain ⟨A0,c0,rfl,l0,g0⟩:=hK
 exact ⟨ad,A0,c0,e,by have hq:=hc 0 _ rfl;rwa [Nat.mul_one,Nat.add_zero] at hq,l0,g0⟩
structure S38 where
 f0 : Int
 f1 : Int
 f2 : Int
def z38 : S38:=⟨(0 : Int),(0 : Int),(0 : Int)⟩
def k38 : Kd S38:=Kd.iso (Kd.pair (Kd.int .i64) (Kd.pair (Kd.int .i64) (Kd.int .i64))) (fun x : S38=>(x.f0,x.f1,x.f2))
theorem k38_open {w : World} {x : S38} {cs : List Value} (h : k38.K w x cs) : cs = [.int .i64 x.f0,.int .i64 x.f1,.int .i64 x.f2]:=by
 obtain ⟨_,_,rfl,rfl,⟨_,_,rfl,rfl,rfl⟩⟩:=h
 exact rfl
theorem k38_openM {w : World} {base : Nat} {ok : Nat→Prop} {x : S38} {cs : List Value} (h : k38.M w base ok x cs) : cs = [.int .i64 x.f0,.int .i64 x.f1,.int .i64 x.f2]:=by
 obtain ⟨_,_,rfl,rfl,⟨_,_,rfl,rfl,rfl⟩⟩:=h
 exact rfl
theorem k38_mk (w : World) (x : S38)  : k38.K w x [.int .i64 x.f0,.int .i64 x.f1,.int .i64 x.f2]:=⟨[.int .i64 x.f0],[.int .i64 x.f1,.int .i64 x.f2],rfl,rfl,⟨[.int .i64 x.f1],[.int .i64 x.f2],rfl,rfl,rfl⟩⟩
theorem k38_mkM (w : World) (base : Nat) (ok : Nat→Prop) (x : S38)  : k38.M w base ok x [.int .i64 x.f0,.int .i64 x.f1,.int .i64 x.f2]:=⟨[.int .i64 x.f0],[.int .i64 x.f1,.int .i64 x.f2],rfl,rfl,⟨[.int .i64 x.f1],[.int .i64 x.f2],rfl,rfl,rfl⟩⟩
def rd_T38 (xs : List S38) (i : Int) : S38:=xs.getD i.toNat z38
theorem at_T38 {w : World} {A : Option Addr} {n : Nat} {xs : List S38} (h : Kd.C k38 w A n xs) (i : Int) (h0 : 0≤i) (h1 : i < n) : ∃ ad,A=some ad∧w.cell? (ad.add (i.toNat * 3))=some (.int .i64 (rd_T38 xs i).f0)∧w.cell? ⟨(ad.add (i.toNat * 3)).block,(ad.add (i.toNat * 3)).off + 1,none⟩=some (.int .i64 (rd_T38 xs i).f1)∧w.cell? ⟨(ad.add (i.toNat * 3)).block,(ad.add (i.toNat * 3)).off + 2,none⟩=some (.int .i64 (rd_T38 xs i).f2):=by
 obtain ⟨ad,c,e,_,hK,hc0⟩:=Kd.C_get h z38 i h0 h1
 have hc : ∀ j u,c[j]? = some u→w.cell? (ad.add (i.toNat * 3 + j))=some u:=hc0
 obtain rfl:=k38_open hK
 exact ⟨ad,e,hc 0 _ rfl,by rw [← add_field _ _ 1 (by omega)];exact hc 1 _ rfl,by rw [← add_field _ _ 2 (by omega)];exact hc 2 _ rfl⟩
structure S44 where
 f0 : Int
 f1 : Int
 f2 : Int
def z44 : S44:=⟨(0 : Int),(0 : Int),(0 : Int)⟩
def k44 : Kd S44:=Kd.iso (Kd.pair (Kd.int .i64) (Kd.pair (Kd.int .i64) (Kd.int .i64))) (fun x : S44=>(x.f0,x.f1,x.f2))
theorem k44_open {w : World} {x : S44} {cs : List Value} (h : k44.K w x cs) : cs = [.int .i64 x.f0,.int .i64 x.f1,.int .i64 x.f2]:=by
 obtain ⟨_,_,rfl,rfl,⟨_,_,rfl,rfl,rfl⟩⟩:=h
 exact rfl
theorem k44_openM {w : World} {base : Nat} {ok : Nat→Prop} {x : S44} {cs : List Value} (h : k44.M w base ok x cs) : cs = [.int .i64 x.f0,.int .i64 x.f1,.int .i64 x.f2]:=by
 obtain ⟨_,_,rfl,rfl,⟨_,_,rfl,rfl,rfl⟩⟩:=h
 exact rfl
theorem k44_mk (w : World) (x : S44)  : k44.K w x [.int .i64 x.f0,.int .i64 x.f1,.int .i64 x.f2]:=⟨[.int .i64 x.f0],[.int .i64 x.f1,.int .i64 x.f2],rfl,rfl,⟨[.int .i64 x.f1],[.int .i64 x.f2],rfl,rfl,rfl⟩⟩
theorem k44_mkM (w : World) (base : Nat) (ok : Nat→Prop) (x : S44)  : k44.M w base ok x [.int .i64 x.f0,.int .i64 x.f1,.int .i64 x.f2]:=⟨[.int .i64 x.f0],[.int .i64 x.f1,.int .i64 x.f2],rfl,rfl,⟨[.int .i64 x.f1],[.int .i64 x.f2],rfl,rfl,rfl⟩⟩
def rd_T44 (xs : List S44) (i : Int) : S44:=xs.getD i.toNat z44
theorem at_T44 {w : World} {A : Option Addr} {n : Nat} {xs : List S44} (h : Kd.C k44 w A n xs) (i : Int) (h0 : 0≤i) (h1 : i < n) : ∃ ad,A=some ad∧w.cell? (ad.add (i.toNat * 3))=some (.int .i64 (rd_T44 xs i).f0)∧w.cell? ⟨(ad.add (i.toNat * 3)).block,(ad.add (i.toNat * 3)).off + 1,none⟩=some (.int .i64 (rd_T44 xs i).f1)∧w.cell? ⟨(ad.add (i.toNat * 3)).block,(ad.add (i.toNat * 3)).off + 2,none⟩=some (.int .i64 (rd_T44 xs i).f2):=by
 obtain ⟨ad,c,e,_,hK,hc0⟩:=Kd.C_get h z44 i h0 h1
 have hc : ∀ j u,c[j]? = some u→w.cell? (ad.add (i.toNat * 3 + j))=some u:=hc0
 obtain rfl:=k44_open hK
 exact ⟨ad,e,hc 0 _ rfl,by rw [← add_field _ _ 1 (by omega)];exact hc 1 _ rfl,by rw [← add_field _ _ 2 (by omega)];exact hc 2 _ rfl⟩
end Go.Proofs.Ytldifiededjgjaa.P
namespace Go.Proofs.Ytldifiededjgjaa.P
open Go.RowKit Go.Proofs.YtldifiededjgjaaW.PrintWords Go.Proofs.YtldifiededjgjaaW.PrintLast Go.Proofs.YtldifiededjgjaaW.PrintMore
set_option linter.unusedVariables false

theorem bel {n : Nat} {w w1 w2 : World} (h : Aside0 (Below n w w1)) (f : Below n w w1 → Below n w w2 := by intro h; repeat (first | (with_reducible first | exact h | apply below_alloc | apply pw_below_drewN | apply below_drew1) | exact h)) : Below n w w2 := f h.out
theorem bel1 {n : Nat} {w w1 w2 : World} {G0 : Prop} (h : Aside0 (Below n w w1)) (g0 : G0) (f : Below n w w1 → G0 → Below n w w2 := by intro h g0; repeat (first | (with_reducible first | exact h | apply below_alloc | apply pw_below_drewN | apply below_drew1 | refine below_set ?_ g0) | exact h)) : Below n w w2 := f h.out g0
theorem bel2 {n : Nat} {w w1 w2 : World} {G0 G1 : Prop} (h : Aside0 (Below n w w1)) (g0 : G0) (g1 : G1) (f : Below n w w1 → G0 → G1 → Below n w w2 := by intro h g0 g1; repeat (first | (with_reducible first | exact h | apply below_alloc | apply pw_below_drewN | apply below_drew1 | refine below_set ?_ g0 | refine below_set ?_ g1) | exact h)) : Below n w w2 := f h.out g0 g1
theorem bel3 {n : Nat} {w w1 w2 : World} {G0 G1 G2 : Prop} (h : Aside0 (Below n w w1)) (g0 : G0) (g1 : G1) (g2 : G2) (f : Below n w w1 → G0 → G1 → G2 → Below n w w2 := by intro h g0 g1 g2; repeat (first | (with_reducible first | exact h | apply below_alloc | apply pw_below_drewN | apply below_drew1 | refine below_set ?_ g0 | refine below_set ?_ g1 | refine below_set ?_ g2) | exact h)) : Below n w w2 := f h.out g0 g1 g2
theorem bkk {P Q : Prop} (h : Aside0 P) (f : P → Q := by intro h; (with_reducible repeat (first | refine blk_drewN ?_ _ | refine blk_drew ?_ | refine blk_alloc ?_ _)); exact h) : Q := f h.out
theorem rrr {P Q : Prop} (h : Aside0 P) (f : P → Q := by intro h; (with_reducible repeat (first | apply Kd.R_alloc | apply Kd.R_drewN | apply Kd.R_drew)); exact h) : Q := f h.out
theorem sss {P Q : Prop} (h : Aside0 P) (f : P → Q := by intro h; (with_reducible repeat (first | apply Kd.S_alloc | apply Kd.S_drewN | apply Kd.S_drew)); exact h) : Q := f h.out
theorem kkk {P Q : Prop} (h : Aside0 P) (f : P → Q := by intro h; repeat (first | (with_reducible first | exact h | apply KeepBut.set_ | apply keep_drewN | apply keep_drew | apply keep_alloc) | exact h)) : Q := f h.out
theorem kkk1 {P Q G0 : Prop} (h : Aside0 P) (g0 : G0) (f : P → G0 → Q := by intro h g0; repeat (first | (with_reducible first | exact h | apply KeepBut.set_ | apply keep_drewN | apply keep_drew | apply keep_alloc | refine keep_far ?_ g0 _) | exact h)) : Q := f h.out g0
theorem kkk2 {P Q G0 G1 : Prop} (h : Aside0 P) (g0 : G0) (g1 : G1) (f : P → G0 → G1 → Q := by intro h g0 g1; repeat (first | (with_reducible first | exact h | apply KeepBut.set_ | apply keep_drewN | apply keep_drew | apply keep_alloc | refine keep_far ?_ g0 _ | refine keep_far ?_ g1 _) | exact h)) : Q := f h.out g0 g1
theorem ccc {P Q : Prop} (h : P) (f : P → Q := by intro h; repeat (first | exact h | (with_reducible refine Kd.C_alloc ?_ _) | (with_reducible refine Kd.C_drewN ?_ _) | (with_reducible refine Kd.C_drew ?_))) : Q := f h
theorem mtt {P : Prop} (h : P := by (try simp only [List.map_toArray, List.map_cons, List.map_nil]); first | done | rfl | (simp only [List.length_drop, List.length_take]; rfl)) : P := h
theorem ass {P : Prop} (h : P := by first | (with_reducible assumption) | assumption) : P := h
theorem rsd {P : Prop} (h : P := by first | rfl | (simp; done) | (simp [*]; done)) : P := h
theorem ddd {P : Prop} (h : P := by first | exact ⟨rfl, _, World.drewN_drewN _ _ _⟩ | exact ⟨rfl, _, Eq.trans (World.drewN_drewN _ _ _) (congrArg (World.drewN _) (Nat.add_assoc _ _ _))⟩) : P := h
abbrev T0 : Bool := true
abbrev F0 : Bool := false
theorem sI {α : Type} {l : List α} {i : Nat} {a : α} : l.toArray.setIfInBounds i a = (l.set i a).toArray := List.setIfInBounds_toArray ..
theorem sZ {α : Type} {a b : α} {l : List α} : (a :: l).set 0 b = b :: l := List.set_cons_zero
theorem sS {α : Type} {a b : α} {l : List α} {n : Nat} : (a :: l).set (n + 1) b = a :: l.set n b := List.set_cons_succ
theorem amk {P : Prop} (h : P) : Aside0 P := Aside0.mk h
theorem obs {α β : Type} {o : Option α} {f : α → Option β} {b : β} (h : o.bind f = some b) : ∃ a, o = some a ∧ f a = some b := Option.bind_eq_some_iff.mp h
theorem erw0 {P : Prop} (h : P := by first | rfl | (simp [errW_none, errW_some] <;> rfl) | (simp [*, errW_none, errW_some] <;> rfl)) : P := h
theorem i77_0 {P Q : Prop} (h : Aside0 P) (f : P → Q := by intro h; repeat (first | (with_reducible first | exact h | apply IsS77.alloc | apply IsS77.drewN | apply IsS77.drew | apply IsS77.set_1 | apply IsS77.set_2) | exact h)) : Q := f h.out
theorem i77_1 {P Q G0 : Prop} (h : Aside0 P) (g0 : G0) (f : P → G0 → Q := by intro h g0; repeat (first | (with_reducible first | exact h | apply IsS77.alloc | apply IsS77.drewN | apply IsS77.drew | apply IsS77.set_1 | apply IsS77.set_2 | refine IsS77.far ?_ g0 _) | exact h)) : Q := f h.out g0
theorem i77_2 {P Q G0 G1 : Prop} (h : Aside0 P) (g0 : G0) (g1 : G1) (f : P → G0 → G1 → Q := by intro h g0 g1; repeat (first | (with_reducible first | exact h | apply IsS77.alloc | apply IsS77.drewN | apply IsS77.drew | apply IsS77.set_1 | apply IsS77.set_2 | refine IsS77.far ?_ g0 _ | refine IsS77.far ?_ g1 _) | exact h)) : Q := f h.out g0 g1
theorem i77_3 {P Q G0 G1 G2 : Prop} (h : Aside0 P) (g0 : G0) (g1 : G1) (g2 : G2) (f : P → G0 → G1 → G2 → Q := by intro h g0 g1 g2; repeat (first | (with_reducible first | exact h | apply IsS77.alloc | apply IsS77.drewN | apply IsS77.drew | apply IsS77.set_1 | apply IsS77.set_2 | refine IsS77.far ?_ g0 _ | refine IsS77.far ?_ g1 _ | refine IsS77.far ?_ g2 _) | exact h)) : Q := f h.out g0 g1 g2

end Go.Proofs.Ytldifiededjgjaa.P
namespace Go.Proofs.Ytldifiededjgjaa.P
open Go.RowKit Go.Proofs.YtldifiededjgjaaW.PrintWords Go.Proofs.YtldifiededjgjaaW.PrintLast Go.Proofs.YtldifiededjgjaaW.PrintMore
def SRow {α : Type} (d : Kd α) (e : Nat) (w wc : World) (a b : Nat) (v : Value) (xs : List α) : Prop:=Kd.S d e wc w.heap.size (fun k=>a≤k∧k < b) v xs∧b≤wc.heap.size∧a≤b
def RRow {α : Type} (d : Kd α) (e : Nat) (w wc : World) (a b : Nat) (v : Value) (xs : List α) : Prop:=d.R e wc w.heap.size (fun k=>a≤k∧k < b) v xs∧b≤wc.heap.size∧a≤b
theorem le_at {W W' : World} {n : Nat} (_ : Below W.heap.size W W') (h : n≤W.heap.size) : n≤W.heap.size:=h
theorem lt_at {W W' : World} {n : Nat} (_ : Below W.heap.size W W') (h : n < W.heap.size) : n < W.heap.size:=h
section
variable {α : Type} {d : Kd α} {e : Nat} {w wc wn W W' : World} {a b a' b' : Nat} {v : Value} {xs ys : List α} {A : Option Addr} {n c : Nat}
theorem SRow.new (h : Kd.S d e W' W.heap.size (fun _=>True) v xs) (hb : Below W.heap.size W W') (hB : Below w.heap.size w W) : SRow d e w W' W.heap.size W'.heap.size v xs:=
 ⟨Kd.S_lower (Kd.S_mono (Kd.S_bound h) (fun _ hk=>⟨hk.2.1,hk.2.2.1⟩)) hB.size,Nat.le_refl _,hb.size⟩
theorem SRow.below (h : SRow d e w wc a b v xs) (hb : Below wc.heap.size wc wn) : SRow d e w wn a b v xs:=⟨Kd.S_below h.1 hb,Nat.le_trans h.2.1 hb.size,h.2.2⟩
theorem SRow.kept (h : SRow d e w wc a b v xs) (hk : Kept wc wn (fun k=>a'≤k∧k < b')) (hd : b≤a' ∨ b'≤a) : SRow d e w wn a b v xs:=
 ⟨Kd.S_kept h.1 hk (fun k h1 h2=>by omega),Nat.le_trans h.2.1 hk.1,h.2.2⟩
theorem SRow.free (h : Kd.S d e wn w.heap.size (fun k=>(a≤k∧k < b) ∨ wc.heap.size≤k) v xs) (ha : a≤wc.heap.size) (hn : wc.heap.size≤wn.heap.size) : SRow d e w wn a wn.heap.size v xs:=
 ⟨Kd.S_mono (Kd.S_bound h) (fun k hk=>⟨by have:=hk.1;omega,hk.2.2.1⟩),Nat.le_refl _,Nat.le_trans ha hn⟩
theorem SRow.hi (h : SRow d e w wc a b v xs) : b≤wc.heap.size:=h.2.1
theorem SRow.lo (h : SRow d e w wc a b v xs) : a≤wc.heap.size:=Nat.le_trans h.2.2 h.2.1
theorem RRow.hi (h : RRow d e w wc a b v xs) : b≤wc.heap.size:=h.2.1
theorem RRow.lo (h : RRow d e w wc a b v xs) : a≤wc.heap.size:=Nat.le_trans h.2.2 h.2.1
theorem SRow.fact (h : SRow d e w wc a b v xs) : Kd.S d e wc w.heap.size (fun k=>a≤k∧k < b) v xs:=h.1
theorem SRow.C (h : SRow d e w wc a b (.slice A n c) xs) : d.C wc A xs.length xs:=(Kd.S_reads' h.1).2.2
theorem SRow.le (h : SRow d e w wc a b (.slice A n c) xs) : n≤c:=(Kd.S_reads' h.1).2.1
theorem SRow.len (h : SRow d e w wc a b (.slice A n c) xs) : n=xs.length:=(Kd.S_reads' h.1).1
theorem SRow.form (h : SRow d e w wc a b v xs) : ∃ A c,v = .slice A xs.length c:=Kd.S_slice h.1
theorem RRow.new (h : d.R e W' W.heap.size (fun _=>True) v xs) (hb : Below W.heap.size W W') (hB : Below w.heap.size w W) : RRow d e w W' W.heap.size W'.heap.size v xs:=
 ⟨Kd.R_lower (Kd.R_mono (Kd.R_bound h) (fun _ hk=>⟨hk.2.1,hk.2.2.1⟩)) hB.size,Nat.le_refl _,hb.size⟩
theorem RRow.below (h : RRow d e w wc a b v xs) (hb : Below wc.heap.size wc wn) : RRow d e w wn a b v xs:=⟨Kd.R_below h.1 hb,Nat.le_trans h.2.1 hb.size,h.2.2⟩
theorem RRow.kept (h : RRow d e w wc a b v xs) (hk : Kept wc wn (fun k=>a'≤k∧k < b')) (hd : b≤a' ∨ b'≤a) : RRow d e w wn a b v xs:=
 ⟨Kd.R_kept h.1 hk (fun k h1 h2=>by omega),Nat.le_trans h.2.1 hk.1,h.2.2⟩
theorem RRow.free (h : d.R e wn w.heap.size (fun k=>(a≤k∧k < b) ∨ wc.heap.size≤k) v xs) (ha : a≤wc.heap.size) (hn : wc.heap.size≤wn.heap.size) : RRow d e w wn a wn.heap.size v xs:=
 ⟨Kd.R_mono (Kd.R_bound h) (fun k hk=>⟨by have:=hk.1;omega,hk.2.2.1⟩),Nat.le_refl _,Nat.le_trans ha hn⟩
theorem RRow.fact (h : RRow d e w wc a b v xs) : d.R e wc w.heap.size (fun k=>a≤k∧k < b) v xs:=h.1
theorem RRow.C (h : RRow d e w wc a b (.slice A n c) xs) : d.C wc A xs.length xs:=(Kd.R_reads' h.1).2.2
theorem RRow.le (h : RRow d e w wc a b (.slice A n c) xs) : n≤c:=(Kd.R_reads' h.1).2.1
theorem RRow.len (h : RRow d e w wc a b (.slice A n c) xs) : n=xs.length:=(Kd.R_reads' h.1).1
theorem RRow.form (h : RRow d e w wc a b v xs) : ∃ A c,v = .slice A xs.length c:=Kd.R_slice h.1
end
end Go.Proofs.Ytldifiededjgjaa.P
namespace Go.Proofs.Ytldifiededjgjaa.P
open Go.RowKit Go.Proofs.YtldifiededjgjaaW.PrintWords Go.Proofs.YtldifiededjgjaaW.PrintLast Go.Proofs.YtldifiededjgjaaW.PrintMore
attribute [local go_sem] max2_int min2_int max_two min_two max_three min_three max_four min_four
set_option linter.unusedVariables false
set_option linter.unusedSimpArgs false
def laws_szReadingS.f (l0 : List (S93)) (a1 : Int) : Option (Int):=if (wrap64 (a1 - (l0.length : Int))) < 0 then (some (-1)) else (some (wrap64 (a1 - (l0.length : Int))))
set_option maxHeartbeats 8000000 in
set_option maxRecDepth 100000 in
theorem laws_szReadingS.calls (A0 : Option Addr) (c0 : Nat) (l0 : List (S93)) (a1 : Int) (r : Int) (w : World) (hr0 : Kd.C k93 w A0 l0.length l0) (hc0 : l0.length≤c0) (h : laws_szReadingS.f l0 a1=some r) :
  Calls Try.prog 17 #[.slice A0 l0.length c0,.int .i64 a1] w fun e w'=>e = .returned (.int .i64 r)∧Drawn0 w w':=by
 have HR0:=amk hr0
 have HC0:=amk hc0
 clear hr0 hc0
 have H : (if (wrap64 (a1 - (l0.length : Int))) < 0 then (some (-1)) else (some (wrap64 (a1 - (l0.length : Int)))))=some r:=h
 clear h
 by_cases c3 : (wrap64 (a1 - (l0.length : Int))) < 0
 ·rw [if_pos c3] at H
  have c3b0 : decide ((wrap64 (a1 - (l0.length : Int))) < 0)=true:=decide_eq_true c3
  clear c3
  obtain rfl:=Option.some.inj H
  go_enter Try.func17,Try.ntmps17
  go_wp2
  go_ret
  exact ⟨rsd,by repeat (first | exact Drawn0.refl _ | apply Drawn0.step)⟩
 ·rw [if_neg c3] at H
  have c3b0 : decide ((wrap64 (a1 - (l0.length : Int))) < 0)=false:=decide_eq_false c3
  clear c3
  obtain rfl:=Option.some.inj H
  go_enter Try.func17,Try.ntmps17
  go_wp2
  go_ret
  exact ⟨rsd,by repeat (first | exact Drawn0.refl _ | apply Drawn0.step)⟩
def spec_l1In.f (a0 : Int) (a1 : Int) (a2 : Int) : Option (Bool):=if a0 ≥ a1 then (some (decide (a0≤a2))) else (some false)
set_option maxHeartbeats 8000000 in
set_option maxRecDepth 100000 in
theorem spec_l1In.calls (a0 : Int) (a1 : Int) (a2 : Int) (r : Bool) (w : World) (h : spec_l1In.f a0 a1 a2=some r) :
  Calls Try.prog 72 #[.int .i64 a0,.int .i64 a1,.int .i64 a2] w fun e w'=>e = .returned (.bool r)∧Drawn0 w w':=by
 have H : (if a0 ≥ a1 then (some (decide (a0≤a2))) else (some false))=some r:=h
 clear h
 by_cases c4 : a0 ≥ a1
 ·rw [if_pos c4] at H
  have c4b0 : decide (a1≤a0)=true:=decide_eq_true c4
  clear c4
  obtain rfl:=Option.some.inj H
  go_enter Try.func72,Try.ntmps72
  go_wp2
  go_ret
  exact ⟨rsd,by repeat (first | exact Drawn0.refl _ | apply Drawn0.step)⟩
 ·rw [if_neg c4] at H
  have c4b0 : decide (a1≤a0)=false:=decide_eq_false c4
  clear c4
  obtain rfl:=Option.some.inj H
  go_enter Try.func72,Try.ntmps72
  go_wp2
  go_ret
  exact ⟨rsd,by repeat (first | exact Drawn0.refl _ | apply Drawn0.step)⟩
def spec_l23Level.f (a0 : Int) : Option (Bool):=(spec_l1In.f a0 (-500) 500).bind fun t229=>(some t229)
set_option maxHeartbeats 8000000 in
set_option maxRecDepth 100000 in
theorem spec_l23Level.calls (a0 : Int) (r : Bool) (w : World) (h : spec_l23Level.f a0=some r) :
  Calls Try.prog 85 #[.int .i64 a0] w fun e w'=>e = .returned (.bool r)∧Drawn0 w w':=by
 have H : ((spec_l1In.f a0 (-500) 500).bind fun t229=>(some t229))=some r:=h
 clear h
 replace H:=obs H
 obtain ⟨t229,A20,H⟩:=H
 replace H : (some t229)=some r:=H
 have A2:=amk A20
 clear A20
 obtain rfl:=Option.some.inj H
 go_enter Try.func85,Try.ntmps85
 go_wp2_with (first | ((with_reducible refine gate_callee (f:=72) rfl ?_);refine goesL_ (some 4) rfl rfl Try.func72 (by kernel_rfl) rfl #[.int .i64 a0,.int .i64 (-500),.int .i64 500] rfl mtt ?_;(with_reducible refine (spec_l1In.calls a0 (-500) 500 t229 _ A2.out).mono ?_);rintro e w' ⟨rfl,⟨nd,rfl⟩⟩;refine ⟨_,rfl,?_⟩))
 go_ret
 exact ⟨rsd,by repeat (first | exact Drawn0.refl _ | apply Drawn0.step)⟩
mutual
def spec_l23Good.l0 : Nat→List (S30)→Int→Option (Bool)
 | 0,_,_=>none
 | k + 1,x0,x3=>if x3 < (x0.length : Int) then (if 0≤x3 then ((spec_l1In.f ((rd_T30 x0 x3).f0) 0 999).bind fun t231=>(if t231=true then ((spec_l23Level.f ((rd_T30 x0 x3).f1)).bind fun t233=>(if t233=true then (if x3 > 0 then (if 0≤(wrap64 (x3 - 1)) then (if (wrap64 (x3 - 1)) < (x0.length : Int) then (spec_l23Good.j1 k x0 x3 (decide (((rd_T30 x0 (wrap64 (x3 - 1))).f0) ≥ ((rd_T30 x0 x3).f0)))) else (none)) else (none)) else (spec_l23Good.j1 k x0 x3 false)) else (spec_l23Good.j1 k x0 x3 true))) else (spec_l23Good.j1 k x0 x3 true))) else (none)) else (some (decide ((x0.length : Int)≤15)))
def spec_l23Good.j1 : Nat→List (S30)→Int→Bool→Option (Bool)
 | 0,_,_,_=>none
 | k + 1,x0,x3,x43=>if x43=true then (some false) else (spec_l23Good.l0 k x0 (wrap64 (x3 + 1)))
end
def spec_l23Good.f (k : Nat) (l0 : List (S30)) : Option (Bool):=spec_l23Good.l0 k l0 0
theorem spec_l23Good.mono_l : ∀ k,(∀ y0 y1,LeO (spec_l23Good.l0 k y0 y1) (spec_l23Good.l0 (k + 1) y0 y1))∧(∀ y0 y1 y2,LeO (spec_l23Good.j1 k y0 y1 y2) (spec_l23Good.j1 (k + 1) y0 y1 y2))
 | 0=>⟨fun _ _ r h=>by simp [spec_l23Good.l0] at h,fun _ _ _ r h=>by simp [spec_l23Good.j1] at h⟩
 | k + 1=>by
  obtain ⟨ih0,ih1⟩:=spec_l23Good.mono_l k
  refine ⟨?_,?_⟩
  ·intro y0 y1
   unfold spec_l23Good.l0
   repeat' first
   | (with_reducible exact ih0 _ _)
   | (with_reducible exact ih1 _ _ _)
   | (with_reducible exact LeO.refl _)
   | (with_reducible exact LeO.none _)
   | (with_reducible refine LeO.ite ?_ ?_)
   | (with_reducible refine LeO.bind ?_ (fun _=>?_))
   | exact ih0 _ _
   | exact ih1 _ _ _
  ·intro y0 y1 y2
   unfold spec_l23Good.j1
   repeat' first
   | (with_reducible exact ih0 _ _)
   | (with_reducible exact ih1 _ _ _)
   | (with_reducible exact LeO.refl _)
   | (with_reducible exact LeO.none _)
   | (with_reducible refine LeO.ite ?_ ?_)
   | (with_reducible refine LeO.bind ?_ (fun _=>?_))
   | exact ih0 _ _
   | exact ih1 _ _ _
theorem spec_l23Good.mono : ∀ a0 k,LeO (spec_l23Good.f k a0) (spec_l23Good.f (k + 1) a0):=by
 intro a0 k
 obtain ⟨ih0,ih1⟩:=spec_l23Good.mono_l k
 unfold spec_l23Good.f
 repeat' first
   | (with_reducible exact ih0 _ _)
   | (with_reducible exact ih1 _ _ _)
   | (with_reducible exact LeO.refl _)
   | (with_reducible exact LeO.none _)
   | (with_reducible refine LeO.ite ?_ ?_)
   | (with_reducible refine LeO.bind ?_ (fun _=>?_))
   | exact ih0 _ _
   | exact ih1 _ _ _
def spec_l23Good.T4 : Bool × List (List Nat × List Nat):=(true,[([],[]),([],[]),([0,1],[0,1]),([2],[2]),([3],[3]),([4],[4]),([5],[5]),([6,5],[6]),([7],[7]),([7],[7]),([8,9,7],[7,8,9]),([10,7],[7,10]),([11,7],[7,11]),([12,7,7],[7,12]),([13,7],[7,13]),([7,14],[7,14]),([15,13],[15]),([16],[16]),([17,16],[16,17]),([18,16,16],[16,18]),([19],[19]),([19],[19]),([21,19],[19,21]),([20,22,19],[19,20,22]),([23,19],[19,23]),([24,19],[19,24]),([19],[19]),([19],[19]),([26,27,19],[19,26,27]),([28,19],[19,28]),([29,19],[19,29]),([25,30,19],[19,25,30]),([19,31,16],[16,19,31]),([16,32],[16,32])])
def spec_l23Good.B4 : List Nat:=[0,0,3,7,15,31,63,127,255,255,1023,2047,4095,8191,16383,32767,65535,131071,262143,524287,1048575,1048575,3145727,8388607,16777215,33554431,1048575,1048575,202375167,470810623,1007681535,2147483647,4294967295,8589934591]
theorem spec_l23Good.tab4 : rtab .any (opsOf Try.f53 4)=spec_l23Good.T4:=by kernel_rfl
theorem spec_l23Good.bits4 : waitsOk spec_l23Good.T4.2 spec_l23Good.B4=true:=by kernel_rfl
set_option maxHeartbeats 8000000 in
set_option maxRecDepth 100000 in
theorem spec_l23Good.calls (k : Nat) (A0 : Option Addr) (c0 : Nat) (l0 : List (S30)) (r : Bool) (w : World) (hr0 : Kd.C k30 w A0 l0.length l0) (hc0 : l0.length≤c0) (h : spec_l23Good.f k l0=some r) :
  Calls Try.prog 53 #[.slice A0 l0.length c0] w fun e w'=>e = .returned (.bool r)∧Below w.heap.size w w':=by
 have HR0:=amk hr0
 have HC0:=amk hc0
 clear hr0 hc0
 have HB:=amk (Below.refl w.heap.size w)
 have H : (spec_l23Good.l0 k l0 0)=some r:=h
 clear h
 have H':=amk H
 clear H
 go_enter Try.func53,Try.ntmps53
 go_wp2
 go_loopg [3] k (fun kq v3 w'=>∃ (x3_1 : Int),v3 = .int .i64 x3_1∧Aside0 (spec_l23Good.l0 kq l0 x3_1=some r)∧Aside0 (kq≤k)∧Aside0 (Below w.heap.size w w'))
 case atStart=>exact ⟨(0),rsd,H',⟨Nat.le_refl _⟩,⟨bel HB⟩⟩
 case round=>
  clear H'
  obtain ⟨x3_1,rfl,HA,HK1,HB⟩:=hrel
  cases gk with
  | zero=>exact absurd HA.out (by simp [spec_l23Good.l0])
  | succ k1=>
   have H:=HA.out
   clear HA
   simp only [spec_l23Good.l0] at H
   by_cases c2 : x3_1 < (l0.length : Int)
   ·rw [if_pos c2] at H
    have c2b0 : decide (x3_1 < (l0.length : Int))=true:=decide_eq_true c2
    clear c2
    have HC3:=amk H
    clear H
    go_upto_region 4 with (fail)
    go_cut [43] (fun v43 wc=>∃ (kq : Nat) (x43_2 : Bool),v43 = .bool x43_2∧Aside0 (spec_l23Good.j1 kq l0 x3_1 x43_2=some r)∧Aside0 (kq≤k1)∧Aside0 (Below w.heap.size w wc))
    case first=>
     have H:=HC3.out
     clear HC3
     by_cases c4 : 0≤x3_1
     ·rw [if_pos c4] at H
      have c4b0 : decide (0≤x3_1)=true:=decide_eq_true c4
      clear c4
      (first | rw [c4b0] | (simp only [i64_w,i32_w];rw [c4b0]) | skip)
      replace H:=obs H
      obtain ⟨t231,A50,H⟩:=H
      replace H : (if t231=true then ((spec_l23Level.f ((rd_T30 l0 x3_1).f1)).bind fun t233=>(if t233=true then (if x3_1 > 0 then (if 0≤(wrap64 (x3_1 - 1)) then (if (wrap64 (x3_1 - 1)) < (l0.length : Int) then (spec_l23Good.j1 k1 l0 x3_1 (decide (((rd_T30 l0 (wrap64 (x3_1 - 1))).f0) ≥ ((rd_T30 l0 x3_1).f0)))) else (none)) else (none)) else (spec_l23Good.j1 k1 l0 x3_1 false)) else (spec_l23Good.j1 k1 l0 x3_1 true))) else (spec_l23Good.j1 k1 l0 x3_1 true))=some r:=H
      have A5:=amk A50
      clear A50
      by_cases c6 : t231=true
      ·subst c6
       have H1 : ((spec_l23Level.f ((rd_T30 l0 x3_1).f1)).bind fun t233=>(if t233=true then (if x3_1 > 0 then (if 0≤(wrap64 (x3_1 - 1)) then (if (wrap64 (x3_1 - 1)) < (l0.length : Int) then (spec_l23Good.j1 k1 l0 x3_1 (decide (((rd_T30 l0 (wrap64 (x3_1 - 1))).f0) ≥ ((rd_T30 l0 x3_1).f0)))) else (none)) else (none)) else (spec_l23Good.j1 k1 l0 x3_1 false)) else (spec_l23Good.j1 k1 l0 x3_1 true)))=some r:=by rw [if_pos rfl] at H;exact H
       clear H
       have H:=H1
       clear H1
       replace H:=obs H
       obtain ⟨t233,A70,H⟩:=H
       replace H : (if t233=true then (if x3_1 > 0 then (if 0≤(wrap64 (x3_1 - 1)) then (if (wrap64 (x3_1 - 1)) < (l0.length : Int) then (spec_l23Good.j1 k1 l0 x3_1 (decide (((rd_T30 l0 (wrap64 (x3_1 - 1))).f0) ≥ ((rd_T30 l0 x3_1).f0)))) else (none)) else (none)) else (spec_l23Good.j1 k1 l0 x3_1 false)) else (spec_l23Good.j1 k1 l0 x3_1 true))=some r:=H
       have A7:=amk A70
       clear A70
       by_cases c8 : t233=true
       ·subst c8
        have H1 : (if x3_1 > 0 then (if 0≤(wrap64 (x3_1 - 1)) then (if (wrap64 (x3_1 - 1)) < (l0.length : Int) then (spec_l23Good.j1 k1 l0 x3_1 (decide (((rd_T30 l0 (wrap64 (x3_1 - 1))).f0) ≥ ((rd_T30 l0 x3_1).f0)))) else (none)) else (none)) else (spec_l23Good.j1 k1 l0 x3_1 false))=some r:=by rw [if_pos rfl] at H;exact H
        clear H
        have H:=H1
        clear H1
        by_cases c9 : x3_1 > 0
        ·rw [if_pos c9] at H
         have c9b0 : decide (0 < x3_1)=true:=decide_eq_true c9
         clear c9
         obtain ⟨ji10,hji10⟩ : ∃ j_ : Int,(wrap64 (x3_1 - 1))=j_:=⟨_,rfl⟩
         replace H : (if 0≤(ji10) then (if (ji10) < (l0.length : Int) then (spec_l23Good.j1 k1 l0 x3_1 (decide (((rd_T30 l0 (ji10)).f0) ≥ ((rd_T30 l0 x3_1).f0)))) else (none)) else (none))=some r:=by first | (rw [hji10] at H;exact H)|(simp only [hji10] at H ⊢;exact H)
         (try rw [hji10] at A5)
         (try rw [hji10] at A7)
         have hji10w : (IntKind.i64.wrap (x3_1 - 1))=ji10:=(i64_w _).trans hji10
         by_cases c11 : 0≤(ji10)
         ·rw [if_pos c11] at H
          have c11b0 : decide (0≤(ji10))=true:=decide_eq_true c11
          clear c11
          by_cases c12 : (ji10) < (l0.length : Int)
          ·rw [if_pos c12] at H
           have c12b0 : decide ((ji10) < (l0.length : Int))=true:=decide_eq_true c12
           clear c12
           have H':=amk H
           clear H
           try go_wp2
           have n0_:=amk (below_drew1 HB.out)
           clear HB
           have HB:=n0_
           clear n0_
           have p230 : 0≤(x3_1 : Int):=of_decide_eq_true ass
           have q230 : x3_1 < (l0.length : Int):=of_decide_eq_true ass
           obtain ⟨ad230,e230,hx230_0,hx230_1⟩:=at_T30 HR0.out x3_1 p230 q230
           have hw230_1:=hx230_1
           have hw230_0:=hx230_0
           cases e230
           replace hx230_0:=(HB.out.cell (World.block_lt_of_cell? w _ hx230_0)).trans hx230_0
           replace hx230_1:=(HB.out.cell (World.block_lt_of_cell? w _ hx230_1)).trans hx230_1
           replace p230:=eq_true p230
           replace q230:=eq_true q230
           have p232 : 0≤(x3_1 : Int):=of_decide_eq_true ass
           have q232 : x3_1 < (l0.length : Int):=of_decide_eq_true ass
           obtain ⟨ad232,e232,hx232_0,hx232_1⟩:=at_T30 HR0.out x3_1 p232 q232
           have hw232_1:=hx232_1
           have hw232_0:=hx232_0
           obtain rfl : ad230=ad232:=(by injection e232)
           replace hx232_0:=(HB.out.cell (World.block_lt_of_cell? w _ hx232_0)).trans hx232_0
           replace hx232_1:=(HB.out.cell (World.block_lt_of_cell? w _ hx232_1)).trans hx232_1
           replace p232:=eq_true p232
           replace q232:=eq_true q232
           have p234 : 0≤((ji10) : Int):=of_decide_eq_true ass
           have q234 : (ji10) < (l0.length : Int):=of_decide_eq_true ass
           obtain ⟨ad234,e234,hx234_0,hx234_1⟩:=at_T30 HR0.out (ji10) p234 q234
           have hw234_1:=hx234_1
           have hw234_0:=hx234_0
           obtain rfl : ad230=ad234:=(by injection e234)
           replace hx234_0:=(HB.out.cell (World.block_lt_of_cell? w _ hx234_0)).trans hx234_0
           replace hx234_1:=(HB.out.cell (World.block_lt_of_cell? w _ hx234_1)).trans hx234_1
           replace p234:=eq_true p234
           replace q234:=eq_true q234
           have p235 : 0≤(x3_1 : Int):=of_decide_eq_true ass
           have q235 : x3_1 < (l0.length : Int):=of_decide_eq_true ass
           obtain ⟨ad235,e235,hx235_0,hx235_1⟩:=at_T30 HR0.out x3_1 p235 q235
           have hw235_1:=hx235_1
           have hw235_0:=hx235_0
           obtain rfl : ad230=ad235:=(by injection e235)
           replace hx235_0:=(HB.out.cell (World.block_lt_of_cell? w _ hx235_0)).trans hx235_0
           replace hx235_1:=(HB.out.cell (World.block_lt_of_cell? w _ hx235_1)).trans hx235_1
           replace p235:=eq_true p235
           replace q235:=eq_true q235
           refine start_ (n:=34) (S:=fun w'=>w'.cell? (ad230.add ((x3_1).toNat * 2))=some (.int .i64 ((rd_T30 l0 x3_1).f0))∧w'.cell? ⟨(ad230.add ((x3_1).toNat * 2)).block,(ad230.add ((x3_1).toNat * 2)).off + 1,none⟩=some (.int .i64 ((rd_T30 l0 x3_1).f1))∧w'.cell? (ad230.add ((x3_1).toNat * 2))=some (.int .i64 ((rd_T30 l0 x3_1).f0))∧w'.cell? ⟨(ad230.add ((x3_1).toNat * 2)).block,(ad230.add ((x3_1).toNat * 2)).off + 1,none⟩=some (.int .i64 ((rd_T30 l0 x3_1).f1))∧w'.cell? (ad230.add (((ji10)).toNat * 2))=some (.int .i64 ((rd_T30 l0 (ji10)).f0))∧w'.cell? ⟨(ad230.add (((ji10)).toNat * 2)).block,(ad230.add (((ji10)).toNat * 2)).off + 1,none⟩=some (.int .i64 ((rd_T30 l0 (ji10)).f1))∧w'.cell? (ad230.add ((x3_1).toNat * 2))=some (.int .i64 ((rd_T30 l0 x3_1).f0))∧w'.cell? ⟨(ad230.add ((x3_1).toNat * 2)).block,(ad230.add ((x3_1).toNat * 2)).off + 1,none⟩=some (.int .i64 ((rd_T30 l0 x3_1).f1))) (ds:=[]) #[F0,F0,F0,F0,F0,F0,F0,F0,F0,F0,F0,F0,F0,F0,F0,F0,F0,F0,F0,F0,F0,F0,F0,F0,F0,F0,F0,F0,F0,F0,F0,F0,F0,F0] (by kernel_rfl) rfl rfl ⟨((HB.out.cell (World.block_lt_of_cell? w _ hw230_0)).trans hw230_0),((HB.out.cell (World.block_lt_of_cell? w _ hw230_1)).trans hw230_1),((HB.out.cell (World.block_lt_of_cell? w _ hw232_0)).trans hw232_0),((HB.out.cell (World.block_lt_of_cell? w _ hw232_1)).trans hw232_1),((HB.out.cell (World.block_lt_of_cell? w _ hw234_0)).trans hw234_0),((HB.out.cell (World.block_lt_of_cell? w _ hw234_1)).trans hw234_1),((HB.out.cell (World.block_lt_of_cell? w _ hw235_0)).trans hw235_0),((HB.out.cell (World.block_lt_of_cell? w _ hw235_1)).trans hw235_1)⟩ (fun hHeld=>?_);refine with_tabW spec_l23Good.tab4 spec_l23Good.bits4 (fun HT_ HW_=>?_)
           generalize wr.drew=w13 at HB hx230_0 hx230_1 hx232_0 hx232_1 hx234_0 hx234_1 hx235_0 hx235_1 hHeld ⊢
           refine pure_ (i:=0) (N:=some 10) (v:=?_) (a':=?_) #[T0,F0,F0,F0,F0,F0,F0,F0,F0,F0,F0,F0,F0,F0,F0,F0,F0,F0,F0,F0,F0,F0,F0,F0,F0,F0,F0,F0,F0,F0,F0,F0,F0,F0] rfl rfl (any_of HT_.out (by kernel_rfl)) (fun _ _ _ h=>h) (Or.inl ⟨by rfl,?_⟩) ?_ ?_
           rotate_left
           ·intro w'
            go_simp
            with_reducible rfl
           rotate_left
           ·simp only [Act.put,sI,sZ,sS,i64_w,i32_w]
            rfl
           refine pure_ (i:=1) (N:=some 11) (v:=?_) (a':=?_) #[T0,T0,F0,F0,F0,F0,F0,F0,F0,F0,F0,F0,F0,F0,F0,F0,F0,F0,F0,F0,F0,F0,F0,F0,F0,F0,F0,F0,F0,F0,F0,F0,F0,F0] rfl rfl (any_of HT_.out (by kernel_rfl)) (fun _ _ _ h=>h) (Or.inl ⟨by rfl,?_⟩) ?_ ?_
           rotate_left
           ·intro w'
            go_simp
            with_reducible rfl
           rotate_left
           ·simp only [Act.put,sI,sZ,sS,i64_w,i32_w]
            rfl
           refine pure_ (i:=2) (N:=some 12) (v:=?_) (a':=?_) #[T0,T0,T0,F0,F0,F0,F0,F0,F0,F0,F0,F0,F0,F0,F0,F0,F0,F0,F0,F0,F0,F0,F0,F0,F0,F0,F0,F0,F0,F0,F0,F0,F0,F0] rfl rfl (any_of HT_.out (by kernel_rfl)) (fun _ _ _ h=>h) (Or.inl ⟨by rfl,?_⟩) ?_ ?_
           rotate_left
           ·intro w'
            go_simp
            with_reducible rfl
           rotate_left
           ·simp only [Act.put,sI,sZ,sS,i64_w,i32_w]
            rfl
           refine pure_ (i:=3) (N:=some 13) (v:=?_) (a':=?_) #[T0,T0,T0,T0,F0,F0,F0,F0,F0,F0,F0,F0,F0,F0,F0,F0,F0,F0,F0,F0,F0,F0,F0,F0,F0,F0,F0,F0,F0,F0,F0,F0,F0,F0] rfl rfl (any_of HT_.out (by kernel_rfl)) (fun _ _ _ h=>h) (Or.inl ⟨by rfl,?_⟩) ?_ ?_
           rotate_left
           ·intro w'
            go_simp
            with_reducible rfl
           rotate_left
           ·simp only [Act.put,sI,sZ,sS,i64_w,i32_w]
            rfl
           refine take_ (i:=4) (N:=some 14) (v:=?_) (a':=?_) #[T0,T0,T0,T0,T0,F0,F0,F0,F0,F0,F0,F0,F0,F0,F0,F0,F0,F0,F0,F0,F0,F0,F0,F0,F0,F0,F0,F0,F0,F0,F0,F0,F0,F0] rfl rfl (take_ofW HT_.out HW_.out (by kernel_rfl)) (fun _ _ _ h=>h) (Or.inl ⟨by rfl,?_⟩) hHeld ?_ ?_
           rotate_left
           ·rintro w' ⟨s0,s1,s2,s3,s4,s5,s6,s7⟩
            go_simp
            with_reducible rfl
           rotate_left
           ·simp only [Act.put,sI,sZ,sS,i64_w,i32_w]
            rfl
           refine one_ (i:=5) (N:=some 15) #[T0,T0,T0,T0,T0,T0,F0,F0,F0,F0,F0,F0,F0,F0,F0,F0,F0,F0,F0,F0,F0,F0,F0,F0,F0,F0,F0,F0,F0,F0,F0,F0,F0,F0] rfl rfl (one_of HT_.out (by kernel_rfl)) (by decide) (fun K hK=>?_)
           refine goes_ Try.func72 (by kernel_rfl) rfl #[.int .i64 ((rd_T30 l0 x3_1).f0),.int .i64 0,.int .i64 999] (by rfl) rfl rfl mtt ?_
           with_reducible refine (spec_l1In.calls ((rd_T30 l0 x3_1).f0) 0 999 true _ A5.out).mono ?_
           rintro e w' ⟨rfl,⟨nd,rfl⟩⟩
           refine ⟨_,rfl,?_⟩
           refine hK.out _ _ ⟨((HB.out.cell (World.block_lt_of_cell? w _ hw230_0)).trans hw230_0),((HB.out.cell (World.block_lt_of_cell? w _ hw230_1)).trans hw230_1),((HB.out.cell (World.block_lt_of_cell? w _ hw232_0)).trans hw232_0),((HB.out.cell (World.block_lt_of_cell? w _ hw232_1)).trans hw232_1),((HB.out.cell (World.block_lt_of_cell? w _ hw234_0)).trans hw234_0),((HB.out.cell (World.block_lt_of_cell? w _ hw234_1)).trans hw234_1),((HB.out.cell (World.block_lt_of_cell? w _ hw235_0)).trans hw235_0),((HB.out.cell (World.block_lt_of_cell? w _ hw235_1)).trans hw235_1)⟩ (fun hHeld=>?_)
           clear hK K
           refine norm_ (a':=?_) ?_ ?_
           rotate_left
           ·show Act.put _ (some 15) _=_
            simp only [Act.put,sI,sZ,sS,i64_w,i32_w]
            rfl
           refine pure_ (i:=6) (N:=some 16) (v:=?_) (a':=?_) #[T0,T0,T0,T0,T0,T0,T0,F0,F0,F0,F0,F0,F0,F0,F0,F0,F0,F0,F0,F0,F0,F0,F0,F0,F0,F0,F0,F0,F0,F0,F0,F0,F0,F0] rfl rfl (any_of HT_.out (by kernel_rfl)) (fun _ _ _ h=>h) (Or.inl ⟨by rfl,?_⟩) ?_ ?_
           rotate_left
           ·intro w'
            go_simp
            with_reducible rfl
           rotate_left
           ·simp only [Act.put,sI,sZ,sS,i64_w,i32_w]
            rfl
           refine pure_ (i:=7) (N:=some 17) (v:=?_) (a':=?_) #[T0,T0,T0,T0,T0,T0,T0,T0,F0,F0,F0,F0,F0,F0,F0,F0,F0,F0,F0,F0,F0,F0,F0,F0,F0,F0,F0,F0,F0,F0,F0,F0,F0,F0] rfl rfl (any_of HT_.out (by kernel_rfl)) (fun _ _ _ h=>h) (Or.inl ⟨by rfl,?_⟩) ?_ ?_
           rotate_left
           ·intro w'
            go_simp
            with_reducible rfl
           rotate_left
           ·simp only [Act.put,sI,sZ,sS,i64_w,i32_w]
            rfl
           refine pure_ (i:=8) (N:=some 18) (v:=?_) (a':=?_) #[T0,T0,T0,T0,T0,T0,T0,T0,T0,F0,F0,F0,F0,F0,F0,F0,F0,F0,F0,F0,F0,F0,F0,F0,F0,F0,F0,F0,F0,F0,F0,F0,F0,F0] rfl rfl (any_of HT_.out (by kernel_rfl)) (fun _ _ _ h=>h) (Or.inl ⟨by rfl,?_⟩) ?_ ?_
           rotate_left
           ·intro w'
            go_simp
            with_reducible rfl
           rotate_left
           ·simp only [Act.put,sI,sZ,sS,i64_w,i32_w]
            rfl
           refine pure_ (i:=9) (N:=some 19) (v:=?_) (a':=?_) #[T0,T0,T0,T0,T0,T0,T0,T0,T0,T0,F0,F0,F0,F0,F0,F0,F0,F0,F0,F0,F0,F0,F0,F0,F0,F0,F0,F0,F0,F0,F0,F0,F0,F0] rfl rfl (any_of HT_.out (by kernel_rfl)) (fun _ _ _ h=>h) (Or.inl ⟨by rfl,?_⟩) ?_ ?_
           rotate_left
           ·intro w'
            go_simp
            with_reducible rfl
           rotate_left
           ·simp only [Act.put,sI,sZ,sS,i64_w,i32_w]
            rfl
           refine pure_ (i:=10) (N:=some 20) (v:=?_) (a':=?_) #[T0,T0,T0,T0,T0,T0,T0,T0,T0,T0,T0,F0,F0,F0,F0,F0,F0,F0,F0,F0,F0,F0,F0,F0,F0,F0,F0,F0,F0,F0,F0,F0,F0,F0] rfl rfl (any_of HT_.out (by kernel_rfl)) (fun _ _ _ h=>h) (Or.inl ⟨by rfl,?_⟩) ?_ ?_
           rotate_left
           ·intro w'
            go_simp
            with_reducible rfl
           rotate_left
           ·simp only [Act.put,sI,sZ,sS,i64_w,i32_w]
            rfl
           refine pure_ (i:=11) (N:=some 21) (v:=?_) (a':=?_) #[T0,T0,T0,T0,T0,T0,T0,T0,T0,T0,T0,T0,F0,F0,F0,F0,F0,F0,F0,F0,F0,F0,F0,F0,F0,F0,F0,F0,F0,F0,F0,F0,F0,F0] rfl rfl (any_of HT_.out (by kernel_rfl)) (fun _ _ _ h=>h) (Or.inl ⟨by rfl,?_⟩) ?_ ?_
           rotate_left
           ·intro w'
            go_simp
            with_reducible rfl
           rotate_left
           ·simp only [Act.put,sI,sZ,sS,i64_w,i32_w]
            rfl
           refine take_ (i:=12) (N:=some 22) (v:=?_) (a':=?_) #[T0,T0,T0,T0,T0,T0,T0,T0,T0,T0,T0,T0,T0,F0,F0,F0,F0,F0,F0,F0,F0,F0,F0,F0,F0,F0,F0,F0,F0,F0,F0,F0,F0,F0] rfl rfl (take_ofW HT_.out HW_.out (by kernel_rfl)) (fun _ _ _ h=>h) (Or.inl ⟨by rfl,?_⟩) hHeld ?_ ?_
           rotate_left
           ·rintro w' ⟨s0,s1,s2,s3,s4,s5,s6,s7⟩
            go_simp
            with_reducible rfl
           rotate_left
           ·simp only [Act.put,sI,sZ,sS,i64_w,i32_w]
            rfl
           refine one_ (i:=13) (N:=some 23) #[T0,T0,T0,T0,T0,T0,T0,T0,T0,T0,T0,T0,T0,T0,F0,F0,F0,F0,F0,F0,F0,F0,F0,F0,F0,F0,F0,F0,F0,F0,F0,F0,F0,F0] rfl rfl (one_of HT_.out (by kernel_rfl)) (by decide) (fun K hK=>?_)
           refine goes_ Try.func85 (by kernel_rfl) rfl #[.int .i64 ((rd_T30 l0 x3_1).f1)] (by rfl) rfl rfl mtt ?_
           with_reducible refine (spec_l23Level.calls ((rd_T30 l0 x3_1).f1) true _ A7.out).mono ?_
           rintro e w' ⟨rfl,⟨nd,rfl⟩⟩
           refine ⟨_,rfl,?_⟩
           refine hK.out _ _ ⟨((HB.out.cell (World.block_lt_of_cell? w _ hw230_0)).trans hw230_0),((HB.out.cell (World.block_lt_of_cell? w _ hw230_1)).trans hw230_1),((HB.out.cell (World.block_lt_of_cell? w _ hw232_0)).trans hw232_0),((HB.out.cell (World.block_lt_of_cell? w _ hw232_1)).trans hw232_1),((HB.out.cell (World.block_lt_of_cell? w _ hw234_0)).trans hw234_0),((HB.out.cell (World.block_lt_of_cell? w _ hw234_1)).trans hw234_1),((HB.out.cell (World.block_lt_of_cell? w _ hw235_0)).trans hw235_0),((HB.out.cell (World.block_lt_of_cell? w _ hw235_1)).trans hw235_1)⟩ (fun hHeld=>?_)
           clear hK K
           refine norm_ (a':=?_) ?_ ?_
           rotate_left
           ·show Act.put _ (some 23) _=_
            simp only [Act.put,sI,sZ,sS,i64_w,i32_w]
            rfl
           refine pure_ (i:=14) (N:=some 24) (v:=?_) (a':=?_) #[T0,T0,T0,T0,T0,T0,T0,T0,T0,T0,T0,T0,T0,T0,T0,F0,F0,F0,F0,F0,F0,F0,F0,F0,F0,F0,F0,F0,F0,F0,F0,F0,F0,F0] rfl rfl (any_of HT_.out (by kernel_rfl)) (fun _ _ _ h=>h) (Or.inl ⟨by rfl,?_⟩) ?_ ?_
           rotate_left
           ·intro w'
            go_simp
            with_reducible rfl
           rotate_left
           ·simp only [Act.put,sI,sZ,sS,i64_w,i32_w]
            rfl
           refine pure_ (i:=15) (N:=some 25) (v:=?_) (a':=?_) #[T0,T0,T0,T0,T0,T0,T0,T0,T0,T0,T0,T0,T0,T0,T0,T0,F0,F0,F0,F0,F0,F0,F0,F0,F0,F0,F0,F0,F0,F0,F0,F0,F0,F0] rfl rfl (any_of HT_.out (by kernel_rfl)) (fun _ _ _ h=>h) (Or.inl ⟨by rfl,?_⟩) ?_ ?_
           rotate_left
           ·intro w'
            go_simp
            with_reducible rfl
           rotate_left
           ·simp only [Act.put,sI,sZ,sS,i64_w,i32_w]
            rfl
           refine pure_ (i:=16) (N:=some 26) (v:=?_) (a':=?_) #[T0,T0,T0,T0,T0,T0,T0,T0,T0,T0,T0,T0,T0,T0,T0,T0,T0,F0,F0,F0,F0,F0,F0,F0,F0,F0,F0,F0,F0,F0,F0,F0,F0,F0] rfl rfl (any_of HT_.out (by kernel_rfl)) (fun _ _ _ h=>h) (Or.inl ⟨by rfl,?_⟩) ?_ ?_
           rotate_left
           ·intro w'
            go_simp
            with_reducible rfl
           rotate_left
           ·simp only [Act.put,sI,sZ,sS,i64_w,i32_w]
            rfl
           refine pure_ (i:=17) (N:=some 27) (v:=?_) (a':=?_) #[T0,T0,T0,T0,T0,T0,T0,T0,T0,T0,T0,T0,T0,T0,T0,T0,T0,T0,F0,F0,F0,F0,F0,F0,F0,F0,F0,F0,F0,F0,F0,F0,F0,F0] rfl rfl (any_of HT_.out (by kernel_rfl)) (fun _ _ _ h=>h) (Or.inl ⟨by rfl,?_⟩) ?_ ?_
           rotate_left
           ·intro w'
            go_simp
            with_reducible rfl
           rotate_left
           ·simp only [Act.put,sI,sZ,sS,i64_w,i32_w]
            rfl
           refine pure_ (i:=18) (N:=some 28) (v:=?_) (a':=?_) #[T0,T0,T0,T0,T0,T0,T0,T0,T0,T0,T0,T0,T0,T0,T0,T0,T0,T0,T0,F0,F0,F0,F0,F0,F0,F0,F0,F0,F0,F0,F0,F0,F0,F0] rfl rfl (any_of HT_.out (by kernel_rfl)) (fun _ _ _ h=>h) (Or.inl ⟨by rfl,?_⟩) ?_ ?_
           rotate_left
           ·intro w'
            go_simp
            with_reducible rfl
           rotate_left
           ·simp only [Act.put,sI,sZ,sS,i64_w,i32_w]
            rfl
           refine pure_ (i:=19) (N:=some 29) (v:=?_) (a':=?_) #[T0,T0,T0,T0,T0,T0,T0,T0,T0,T0,T0,T0,T0,T0,T0,T0,T0,T0,T0,T0,F0,F0,F0,F0,F0,F0,F0,F0,F0,F0,F0,F0,F0,F0] rfl rfl (any_of HT_.out (by kernel_rfl)) (fun _ _ _ h=>h) (Or.inl ⟨by rfl,?_⟩) ?_ ?_
           rotate_left
           ·intro w'
            go_simp
            with_reducible rfl
           rotate_left
           ·simp only [Act.put,sI,sZ,sS,i64_w,i32_w]
            rfl
           refine pure_ (i:=20) (N:=some 30) (v:=?_) (a':=?_) #[T0,T0,T0,T0,T0,T0,T0,T0,T0,T0,T0,T0,T0,T0,T0,T0,T0,T0,T0,T0,T0,F0,F0,F0,F0,F0,F0,F0,F0,F0,F0,F0,F0,F0] rfl rfl (any_of HT_.out (by kernel_rfl)) (fun _ _ _ h=>h) (Or.inl ⟨by rfl,?_⟩) ?_ ?_
           rotate_left
           ·intro w'
            go_simp
            with_reducible rfl
           rotate_left
           ·simp only [Act.put,sI,sZ,sS,i64_w,i32_w]
            rfl
           refine pure_ (i:=21) (N:=some 31) (v:=?_) (a':=?_) #[T0,T0,T0,T0,T0,T0,T0,T0,T0,T0,T0,T0,T0,T0,T0,T0,T0,T0,T0,T0,T0,T0,F0,F0,F0,F0,F0,F0,F0,F0,F0,F0,F0,F0] rfl rfl (any_of HT_.out (by kernel_rfl)) (fun _ _ _ h=>h) (Or.inl ⟨by rfl,?_⟩) ?_ ?_
           rotate_left
           ·intro w'
            go_simp
            with_reducible rfl
           rotate_left
           ·simp only [Act.put,sI,sZ,sS,i64_w,i32_w]
            rfl
           refine pure_ (i:=22) (N:=some 32) (v:=?_) (a':=?_) #[T0,T0,T0,T0,T0,T0,T0,T0,T0,T0,T0,T0,T0,T0,T0,T0,T0,T0,T0,T0,T0,T0,T0,F0,F0,F0,F0,F0,F0,F0,F0,F0,F0,F0] rfl rfl (any_of HT_.out (by kernel_rfl)) (fun _ _ _ h=>h) (Or.inl ⟨by rfl,?_⟩) ?_ ?_
           rotate_left
           ·intro w'
            go_simp
            with_reducible rfl
           rotate_left
           ·simp only [Act.put,sI,sZ,sS,i64_w,i32_w]
            rfl
           refine pure_ (i:=23) (N:=some 33) (v:=?_) (a':=?_) #[T0,T0,T0,T0,T0,T0,T0,T0,T0,T0,T0,T0,T0,T0,T0,T0,T0,T0,T0,T0,T0,T0,T0,T0,F0,F0,F0,F0,F0,F0,F0,F0,F0,F0] rfl rfl (any_of HT_.out (by kernel_rfl)) (fun _ _ _ h=>h) (Or.inl ⟨by rfl,?_⟩) ?_ ?_
           rotate_left
           ·intro w'
            go_simp
            with_reducible rfl
           rotate_left
           ·simp only [Act.put,sI,sZ,sS,i64_w,i32_w]
            rfl
           refine pure_ (i:=24) (N:=some 34) (v:=?_) (a':=?_) #[T0,T0,T0,T0,T0,T0,T0,T0,T0,T0,T0,T0,T0,T0,T0,T0,T0,T0,T0,T0,T0,T0,T0,T0,T0,F0,F0,F0,F0,F0,F0,F0,F0,F0] rfl rfl (any_of HT_.out (by kernel_rfl)) (fun _ _ _ h=>h) (Or.inl ⟨by rfl,?_⟩) ?_ ?_
           rotate_left
           ·intro w'
            go_simp
            with_reducible rfl
           rotate_left
           ·simp only [Act.put,sI,sZ,sS,i64_w,i32_w]
            rfl
           refine pure_ (i:=26) (N:=some 36) (v:=?_) (a':=?_) #[T0,T0,T0,T0,T0,T0,T0,T0,T0,T0,T0,T0,T0,T0,T0,T0,T0,T0,T0,T0,T0,T0,T0,T0,T0,F0,T0,F0,F0,F0,F0,F0,F0,F0] rfl rfl (any_of HT_.out (by kernel_rfl)) (fun _ _ _ h=>h) (Or.inl ⟨by rfl,?_⟩) ?_ ?_
           rotate_left
           ·intro w'
            go_simp
            with_reducible rfl
           rotate_left
           ·simp only [Act.put,sI,sZ,sS,i64_w,i32_w]
            rfl
           refine pure_ (i:=27) (N:=some 37) (v:=?_) (a':=?_) #[T0,T0,T0,T0,T0,T0,T0,T0,T0,T0,T0,T0,T0,T0,T0,T0,T0,T0,T0,T0,T0,T0,T0,T0,T0,F0,T0,T0,F0,F0,F0,F0,F0,F0] rfl rfl (any_of HT_.out (by kernel_rfl)) (fun _ _ _ h=>h) (Or.inl ⟨by rfl,?_⟩) ?_ ?_
           rotate_left
           ·intro w'
            go_simp
            with_reducible rfl
           rotate_left
           ·simp only [Act.put,sI,sZ,sS,i64_w,i32_w]
            rfl
           refine pure_ (i:=28) (N:=some 38) (v:=?_) (a':=?_) #[T0,T0,T0,T0,T0,T0,T0,T0,T0,T0,T0,T0,T0,T0,T0,T0,T0,T0,T0,T0,T0,T0,T0,T0,T0,F0,T0,T0,T0,F0,F0,F0,F0,F0] rfl rfl (any_of HT_.out (by kernel_rfl)) (fun _ _ _ h=>h) (Or.inl ⟨by rfl,?_⟩) ?_ ?_
           rotate_left
           ·intro w'
            go_simp
            with_reducible rfl
           rotate_left
           ·simp only [Act.put,sI,sZ,sS,i64_w,i32_w]
            rfl
           refine pure_ (i:=29) (N:=some 39) (v:=?_) (a':=?_) #[T0,T0,T0,T0,T0,T0,T0,T0,T0,T0,T0,T0,T0,T0,T0,T0,T0,T0,T0,T0,T0,T0,T0,T0,T0,F0,T0,T0,T0,T0,F0,F0,F0,F0] rfl rfl (any_of HT_.out (by kernel_rfl)) (fun _ _ _ h=>h) (Or.inl ⟨by rfl,?_⟩) ?_ ?_
           rotate_left
           ·intro w'
            go_simp
            with_reducible rfl
           rotate_left
           ·simp only [Act.put,sI,sZ,sS,i64_w,i32_w]
            rfl
           refine take_ (i:=25) (N:=some 35) (v:=?_) (a':=?_) #[T0,T0,T0,T0,T0,T0,T0,T0,T0,T0,T0,T0,T0,T0,T0,T0,T0,T0,T0,T0,T0,T0,T0,T0,T0,T0,T0,T0,T0,T0,F0,F0,F0,F0] rfl rfl (take_ofW HT_.out HW_.out (by kernel_rfl)) (fun _ _ _ h=>h) (Or.inl ⟨by rfl,?_⟩) hHeld ?_ ?_
           rotate_left
           ·rintro w' ⟨s0,s1,s2,s3,s4,s5,s6,s7⟩
            go_simp
            with_reducible rfl
           rotate_left
           ·simp only [Act.put,sI,sZ,sS,i64_w,i32_w]
            rfl
           refine take_ (i:=30) (N:=some 40) (v:=?_) (a':=?_) #[T0,T0,T0,T0,T0,T0,T0,T0,T0,T0,T0,T0,T0,T0,T0,T0,T0,T0,T0,T0,T0,T0,T0,T0,T0,T0,T0,T0,T0,T0,T0,F0,F0,F0] rfl rfl (take_ofW HT_.out HW_.out (by kernel_rfl)) (fun _ _ _ h=>h) (Or.inl ⟨by rfl,?_⟩) hHeld ?_ ?_
           rotate_left
           ·rintro w' ⟨s0,s1,s2,s3,s4,s5,s6,s7⟩
            go_simp
            with_reducible rfl
           rotate_left
           ·simp only [Act.put,sI,sZ,sS,i64_w,i32_w]
            rfl
           refine pure_ (i:=31) (N:=some 41) (v:=?_) (a':=?_) #[T0,T0,T0,T0,T0,T0,T0,T0,T0,T0,T0,T0,T0,T0,T0,T0,T0,T0,T0,T0,T0,T0,T0,T0,T0,T0,T0,T0,T0,T0,T0,T0,F0,F0] rfl rfl (any_of HT_.out (by kernel_rfl)) (fun _ _ _ h=>h) (Or.inl ⟨by rfl,?_⟩) ?_ ?_
           rotate_left
           ·intro w'
            go_simp
            with_reducible rfl
           rotate_left
           ·simp only [Act.put,sI,sZ,sS,i64_w,i32_w]
            rfl
           refine pure_ (i:=32) (N:=some 42) (v:=?_) (a':=?_) #[T0,T0,T0,T0,T0,T0,T0,T0,T0,T0,T0,T0,T0,T0,T0,T0,T0,T0,T0,T0,T0,T0,T0,T0,T0,T0,T0,T0,T0,T0,T0,T0,T0,F0] rfl rfl (any_of HT_.out (by kernel_rfl)) (fun _ _ _ h=>h) (Or.inl ⟨by rfl,?_⟩) ?_ ?_
           rotate_left
           ·intro w'
            go_simp
            with_reducible rfl
           rotate_left
           ·simp only [Act.put,sI,sZ,sS,i64_w,i32_w]
            rfl
           refine pure_ (i:=33) (N:=some 43) (v:=?_) (a':=?_) #[T0,T0,T0,T0,T0,T0,T0,T0,T0,T0,T0,T0,T0,T0,T0,T0,T0,T0,T0,T0,T0,T0,T0,T0,T0,T0,T0,T0,T0,T0,T0,T0,T0,T0] rfl rfl (any_of HT_.out (by kernel_rfl)) (fun _ _ _ h=>h) (Or.inl ⟨by rfl,?_⟩) ?_ ?_
           rotate_left
           ·intro w'
            go_simp
            with_reducible rfl
           rotate_left
           ·simp only [Act.put,sI,sZ,sS,i64_w,i32_w]
            rfl
           refine done_ (done_of HT_.out (by kernel_rfl)) ?_
           try go_wp2
           go_meet
           case rel=>exact ⟨_,(decide (((rd_T30 l0 (ji10)).f0) ≥ ((rd_T30 l0 x3_1).f0))),(by first | rfl | (simp;done)|(simp only [← hji10] <;> (first | rfl | simp))|(simp [*];done)),H',⟨by have:=HK1.out;first | omega | exact Nat.le_refl _⟩,⟨bel HB⟩⟩
          ·rw [if_neg c12] at H
           exact absurd H (by simp)
         ·rw [if_neg c11] at H
          exact absurd H (by simp)
        ·rw [if_neg c9] at H
         have c9b0 : decide (0 < x3_1)=false:=decide_eq_false c9
         clear c9
         have H':=amk H
         clear H
         try go_wp2
         have n0_:=amk (below_drew1 HB.out)
         clear HB
         have HB:=n0_
         clear n0_
         have p230 : 0≤(x3_1 : Int):=of_decide_eq_true ass
         have q230 : x3_1 < (l0.length : Int):=of_decide_eq_true ass
         obtain ⟨ad230,e230,hx230_0,hx230_1⟩:=at_T30 HR0.out x3_1 p230 q230
         have hw230_1:=hx230_1
         have hw230_0:=hx230_0
         cases e230
         replace hx230_0:=(HB.out.cell (World.block_lt_of_cell? w _ hx230_0)).trans hx230_0
         replace hx230_1:=(HB.out.cell (World.block_lt_of_cell? w _ hx230_1)).trans hx230_1
         replace p230:=eq_true p230
         replace q230:=eq_true q230
         have p232 : 0≤(x3_1 : Int):=of_decide_eq_true ass
         have q232 : x3_1 < (l0.length : Int):=of_decide_eq_true ass
         obtain ⟨ad232,e232,hx232_0,hx232_1⟩:=at_T30 HR0.out x3_1 p232 q232
         have hw232_1:=hx232_1
         have hw232_0:=hx232_0
         obtain rfl : ad230=ad232:=(by injection e232)
         replace hx232_0:=(HB.out.cell (World.block_lt_of_cell? w _ hx232_0)).trans hx232_0
         replace hx232_1:=(HB.out.cell (World.block_lt_of_cell? w _ hx232_1)).trans hx232_1
         replace p232:=eq_true p232
         replace q232:=eq_true q232
         refine start_ (n:=34) (S:=fun w'=>w'.cell? (ad230.add ((x3_1).toNat * 2))=some (.int .i64 ((rd_T30 l0 x3_1).f0))∧w'.cell? ⟨(ad230.add ((x3_1).toNat * 2)).block,(ad230.add ((x3_1).toNat * 2)).off + 1,none⟩=some (.int .i64 ((rd_T30 l0 x3_1).f1))∧w'.cell? (ad230.add ((x3_1).toNat * 2))=some (.int .i64 ((rd_T30 l0 x3_1).f0))∧w'.cell? ⟨(ad230.add ((x3_1).toNat * 2)).block,(ad230.add ((x3_1).toNat * 2)).off + 1,none⟩=some (.int .i64 ((rd_T30 l0 x3_1).f1))) (ds:=[]) #[F0,F0,F0,F0,F0,F0,F0,F0,F0,F0,F0,F0,F0,F0,F0,F0,F0,F0,F0,F0,F0,F0,F0,F0,F0,F0,F0,F0,F0,F0,F0,F0,F0,F0] (by kernel_rfl) rfl rfl ⟨((HB.out.cell (World.block_lt_of_cell? w _ hw230_0)).trans hw230_0),((HB.out.cell (World.block_lt_of_cell? w _ hw230_1)).trans hw230_1),((HB.out.cell (World.block_lt_of_cell? w _ hw232_0)).trans hw232_0),((HB.out.cell (World.block_lt_of_cell? w _ hw232_1)).trans hw232_1)⟩ (fun hHeld=>?_);refine with_tabW spec_l23Good.tab4 spec_l23Good.bits4 (fun HT_ HW_=>?_)
         generalize wr.drew=w14 at HB hx230_0 hx230_1 hx232_0 hx232_1 hHeld ⊢
         refine pure_ (i:=0) (N:=some 10) (v:=?_) (a':=?_) #[T0,F0,F0,F0,F0,F0,F0,F0,F0,F0,F0,F0,F0,F0,F0,F0,F0,F0,F0,F0,F0,F0,F0,F0,F0,F0,F0,F0,F0,F0,F0,F0,F0,F0] rfl rfl (any_of HT_.out (by kernel_rfl)) (fun _ _ _ h=>h) (Or.inl ⟨by rfl,?_⟩) ?_ ?_
         rotate_left
         ·intro w'
          go_simp
          with_reducible rfl
         rotate_left
         ·simp only [Act.put,sI,sZ,sS,i64_w,i32_w]
          rfl
         refine pure_ (i:=1) (N:=some 11) (v:=?_) (a':=?_) #[T0,T0,F0,F0,F0,F0,F0,F0,F0,F0,F0,F0,F0,F0,F0,F0,F0,F0,F0,F0,F0,F0,F0,F0,F0,F0,F0,F0,F0,F0,F0,F0,F0,F0] rfl rfl (any_of HT_.out (by kernel_rfl)) (fun _ _ _ h=>h) (Or.inl ⟨by rfl,?_⟩) ?_ ?_
         rotate_left
         ·intro w'
          go_simp
          with_reducible rfl
         rotate_left
         ·simp only [Act.put,sI,sZ,sS,i64_w,i32_w]
          rfl
         refine pure_ (i:=2) (N:=some 12) (v:=?_) (a':=?_) #[T0,T0,T0,F0,F0,F0,F0,F0,F0,F0,F0,F0,F0,F0,F0,F0,F0,F0,F0,F0,F0,F0,F0,F0,F0,F0,F0,F0,F0,F0,F0,F0,F0,F0] rfl rfl (any_of HT_.out (by kernel_rfl)) (fun _ _ _ h=>h) (Or.inl ⟨by rfl,?_⟩) ?_ ?_
         rotate_left
         ·intro w'
          go_simp
          with_reducible rfl
         rotate_left
         ·simp only [Act.put,sI,sZ,sS,i64_w,i32_w]
          rfl
         refine pure_ (i:=3) (N:=some 13) (v:=?_) (a':=?_) #[T0,T0,T0,T0,F0,F0,F0,F0,F0,F0,F0,F0,F0,F0,F0,F0,F0,F0,F0,F0,F0,F0,F0,F0,F0,F0,F0,F0,F0,F0,F0,F0,F0,F0] rfl rfl (any_of HT_.out (by kernel_rfl)) (fun _ _ _ h=>h) (Or.inl ⟨by rfl,?_⟩) ?_ ?_
         rotate_left
         ·intro w'
          go_simp
          with_reducible rfl
         rotate_left
         ·simp only [Act.put,sI,sZ,sS,i64_w,i32_w]
          rfl
         refine take_ (i:=4) (N:=some 14) (v:=?_) (a':=?_) #[T0,T0,T0,T0,T0,F0,F0,F0,F0,F0,F0,F0,F0,F0,F0,F0,F0,F0,F0,F0,F0,F0,F0,F0,F0,F0,F0,F0,F0,F0,F0,F0,F0,F0] rfl rfl (take_ofW HT_.out HW_.out (by kernel_rfl)) (fun _ _ _ h=>h) (Or.inl ⟨by rfl,?_⟩) hHeld ?_ ?_
         rotate_left
         ·rintro w' ⟨s0,s1,s2,s3⟩
          go_simp
          with_reducible rfl
         rotate_left
         ·simp only [Act.put,sI,sZ,sS,i64_w,i32_w]
          rfl
         refine one_ (i:=5) (N:=some 15) #[T0,T0,T0,T0,T0,T0,F0,F0,F0,F0,F0,F0,F0,F0,F0,F0,F0,F0,F0,F0,F0,F0,F0,F0,F0,F0,F0,F0,F0,F0,F0,F0,F0,F0] rfl rfl (one_of HT_.out (by kernel_rfl)) (by decide) (fun K hK=>?_)
         refine goes_ Try.func72 (by kernel_rfl) rfl #[.int .i64 ((rd_T30 l0 x3_1).f0),.int .i64 0,.int .i64 999] (by rfl) rfl rfl mtt ?_
         with_reducible refine (spec_l1In.calls ((rd_T30 l0 x3_1).f0) 0 999 true _ A5.out).mono ?_
         rintro e w' ⟨rfl,⟨nd,rfl⟩⟩
         refine ⟨_,rfl,?_⟩
         refine hK.out _ _ ⟨((HB.out.cell (World.block_lt_of_cell? w _ hw230_0)).trans hw230_0),((HB.out.cell (World.block_lt_of_cell? w _ hw230_1)).trans hw230_1),((HB.out.cell (World.block_lt_of_cell? w _ hw232_0)).trans hw232_0),((HB.out.cell (World.block_lt_of_cell? w _ hw232_1)).trans hw232_1)⟩ (fun hHeld=>?_)
         clear hK K
         refine norm_ (a':=?_) ?_ ?_
         rotate_left
         ·show Act.put _ (some 15) _=_
          simp only [Act.put,sI,sZ,sS,i64_w,i32_w]
          rfl
         refine pure_ (i:=6) (N:=some 16) (v:=?_) (a':=?_) #[T0,T0,T0,T0,T0,T0,T0,F0,F0,F0,F0,F0,F0,F0,F0,F0,F0,F0,F0,F0,F0,F0,F0,F0,F0,F0,F0,F0,F0,F0,F0,F0,F0,F0] rfl rfl (any_of HT_.out (by kernel_rfl)) (fun _ _ _ h=>h) (Or.inl ⟨by rfl,?_⟩) ?_ ?_
         rotate_left
         ·intro w'
          go_simp
          with_reducible rfl
         rotate_left
         ·simp only [Act.put,sI,sZ,sS,i64_w,i32_w]
          rfl
         refine pure_ (i:=7) (N:=some 17) (v:=?_) (a':=?_) #[T0,T0,T0,T0,T0,T0,T0,T0,F0,F0,F0,F0,F0,F0,F0,F0,F0,F0,F0,F0,F0,F0,F0,F0,F0,F0,F0,F0,F0,F0,F0,F0,F0,F0] rfl rfl (any_of HT_.out (by kernel_rfl)) (fun _ _ _ h=>h) (Or.inl ⟨by rfl,?_⟩) ?_ ?_
         rotate_left
         ·intro w'
          go_simp
          with_reducible rfl
         rotate_left
         ·simp only [Act.put,sI,sZ,sS,i64_w,i32_w]
          rfl
         refine pure_ (i:=8) (N:=some 18) (v:=?_) (a':=?_) #[T0,T0,T0,T0,T0,T0,T0,T0,T0,F0,F0,F0,F0,F0,F0,F0,F0,F0,F0,F0,F0,F0,F0,F0,F0,F0,F0,F0,F0,F0,F0,F0,F0,F0] rfl rfl (any_of HT_.out (by kernel_rfl)) (fun _ _ _ h=>h) (Or.inl ⟨by rfl,?_⟩) ?_ ?_
         rotate_left
         ·intro w'
          go_simp
          with_reducible rfl
         rotate_left
         ·simp only [Act.put,sI,sZ,sS,i64_w,i32_w]
          rfl
         refine pure_ (i:=9) (N:=some 19) (v:=?_) (a':=?_) #[T0,T0,T0,T0,T0,T0,T0,T0,T0,T0,F0,F0,F0,F0,F0,F0,F0,F0,F0,F0,F0,F0,F0,F0,F0,F0,F0,F0,F0,F0,F0,F0,F0,F0] rfl rfl (any_of HT_.out (by kernel_rfl)) (fun _ _ _ h=>h) (Or.inl ⟨by rfl,?_⟩) ?_ ?_
         rotate_left
         ·intro w'
          go_simp
          with_reducible rfl
         rotate_left
         ·simp only [Act.put,sI,sZ,sS,i64_w,i32_w]
          rfl
         refine pure_ (i:=10) (N:=some 20) (v:=?_) (a':=?_) #[T0,T0,T0,T0,T0,T0,T0,T0,T0,T0,T0,F0,F0,F0,F0,F0,F0,F0,F0,F0,F0,F0,F0,F0,F0,F0,F0,F0,F0,F0,F0,F0,F0,F0] rfl rfl (any_of HT_.out (by kernel_rfl)) (fun _ _ _ h=>h) (Or.inl ⟨by rfl,?_⟩) ?_ ?_
         rotate_left
         ·intro w'
          go_simp
          with_reducible rfl
         rotate_left
         ·simp only [Act.put,sI,sZ,sS,i64_w,i32_w]
          rfl
         refine pure_ (i:=11) (N:=some 21) (v:=?_) (a':=?_) #[T0,T0,T0,T0,T0,T0,T0,T0,T0,T0,T0,T0,F0,F0,F0,F0,F0,F0,F0,F0,F0,F0,F0,F0,F0,F0,F0,F0,F0,F0,F0,F0,F0,F0] rfl rfl (any_of HT_.out (by kernel_rfl)) (fun _ _ _ h=>h) (Or.inl ⟨by rfl,?_⟩) ?_ ?_
         rotate_left
         ·intro w'
          go_simp
          with_reducible rfl
         rotate_left
         ·simp only [Act.put,sI,sZ,sS,i64_w,i32_w]
          rfl
         refine take_ (i:=12) (N:=some 22) (v:=?_) (a':=?_) #[T0,T0,T0,T0,T0,T0,T0,T0,T0,T0,T0,T0,T0,F0,F0,F0,F0,F0,F0,F0,F0,F0,F0,F0,F0,F0,F0,F0,F0,F0,F0,F0,F0,F0] rfl rfl (take_ofW HT_.out HW_.out (by kernel_rfl)) (fun _ _ _ h=>h) (Or.inl ⟨by rfl,?_⟩) hHeld ?_ ?_
         rotate_left
         ·rintro w' ⟨s0,s1,s2,s3⟩
          go_simp
          with_reducible rfl
         rotate_left
         ·simp only [Act.put,sI,sZ,sS,i64_w,i32_w]
          rfl
         refine one_ (i:=13) (N:=some 23) #[T0,T0,T0,T0,T0,T0,T0,T0,T0,T0,T0,T0,T0,T0,F0,F0,F0,F0,F0,F0,F0,F0,F0,F0,F0,F0,F0,F0,F0,F0,F0,F0,F0,F0] rfl rfl (one_of HT_.out (by kernel_rfl)) (by decide) (fun K hK=>?_)
         refine goes_ Try.func85 (by kernel_rfl) rfl #[.int .i64 ((rd_T30 l0 x3_1).f1)] (by rfl) rfl rfl mtt ?_
         with_reducible refine (spec_l23Level.calls ((rd_T30 l0 x3_1).f1) true _ A7.out).mono ?_
         rintro e w' ⟨rfl,⟨nd,rfl⟩⟩
         refine ⟨_,rfl,?_⟩
         refine hK.out _ _ ⟨((HB.out.cell (World.block_lt_of_cell? w _ hw230_0)).trans hw230_0),((HB.out.cell (World.block_lt_of_cell? w _ hw230_1)).trans hw230_1),((HB.out.cell (World.block_lt_of_cell? w _ hw232_0)).trans hw232_0),((HB.out.cell (World.block_lt_of_cell? w _ hw232_1)).trans hw232_1)⟩ (fun hHeld=>?_)
         clear hK K
         refine norm_ (a':=?_) ?_ ?_
         rotate_left
         ·show Act.put _ (some 23) _=_
          simp only [Act.put,sI,sZ,sS,i64_w,i32_w]
          rfl
         refine pure_ (i:=14) (N:=some 24) (v:=?_) (a':=?_) #[T0,T0,T0,T0,T0,T0,T0,T0,T0,T0,T0,T0,T0,T0,T0,F0,F0,F0,F0,F0,F0,F0,F0,F0,F0,F0,F0,F0,F0,F0,F0,F0,F0,F0] rfl rfl (any_of HT_.out (by kernel_rfl)) (fun _ _ _ h=>h) (Or.inl ⟨by rfl,?_⟩) ?_ ?_
         rotate_left
         ·intro w'
          go_simp
          with_reducible rfl
         rotate_left
         ·simp only [Act.put,sI,sZ,sS,i64_w,i32_w]
          rfl
         refine pure_ (i:=15) (N:=some 25) (v:=?_) (a':=?_) #[T0,T0,T0,T0,T0,T0,T0,T0,T0,T0,T0,T0,T0,T0,T0,T0,F0,F0,F0,F0,F0,F0,F0,F0,F0,F0,F0,F0,F0,F0,F0,F0,F0,F0] rfl rfl (any_of HT_.out (by kernel_rfl)) (fun _ _ _ h=>h) (Or.inl ⟨by rfl,?_⟩) ?_ ?_
         rotate_left
         ·intro w'
          go_simp
          with_reducible rfl
         rotate_left
         ·simp only [Act.put,sI,sZ,sS,i64_w,i32_w]
          rfl
         refine pure_ (i:=16) (N:=some 26) (v:=?_) (a':=?_) #[T0,T0,T0,T0,T0,T0,T0,T0,T0,T0,T0,T0,T0,T0,T0,T0,T0,F0,F0,F0,F0,F0,F0,F0,F0,F0,F0,F0,F0,F0,F0,F0,F0,F0] rfl rfl (any_of HT_.out (by kernel_rfl)) (fun _ _ _ h=>h) (Or.inl ⟨by rfl,?_⟩) ?_ ?_
         rotate_left
         ·intro w'
          go_simp
          with_reducible rfl
         rotate_left
         ·simp only [Act.put,sI,sZ,sS,i64_w,i32_w]
          rfl
         refine pure_ (i:=17) (N:=some 27) (v:=?_) (a':=?_) #[T0,T0,T0,T0,T0,T0,T0,T0,T0,T0,T0,T0,T0,T0,T0,T0,T0,T0,F0,F0,F0,F0,F0,F0,F0,F0,F0,F0,F0,F0,F0,F0,F0,F0] rfl rfl (any_of HT_.out (by kernel_rfl)) (fun _ _ _ h=>h) (Or.inl ⟨by rfl,?_⟩) ?_ ?_
         rotate_left
         ·intro w'
          go_simp
          with_reducible rfl
         rotate_left
         ·simp only [Act.put,sI,sZ,sS,i64_w,i32_w]
          rfl
         refine pure_ (i:=18) (N:=some 28) (v:=?_) (a':=?_) #[T0,T0,T0,T0,T0,T0,T0,T0,T0,T0,T0,T0,T0,T0,T0,T0,T0,T0,T0,F0,F0,F0,F0,F0,F0,F0,F0,F0,F0,F0,F0,F0,F0,F0] rfl rfl (any_of HT_.out (by kernel_rfl)) (fun _ _ _ h=>h) (Or.inl ⟨by rfl,?_⟩) ?_ ?_
         rotate_left
         ·intro w'
          go_simp
          with_reducible rfl
         rotate_left
         ·simp only [Act.put,sI,sZ,sS,i64_w,i32_w]
          rfl
         refine pure_ (i:=19) (N:=some 29) (v:=?_) (a':=?_) #[T0,T0,T0,T0,T0,T0,T0,T0,T0,T0,T0,T0,T0,T0,T0,T0,T0,T0,T0,T0,F0,F0,F0,F0,F0,F0,F0,F0,F0,F0,F0,F0,F0,F0] rfl rfl (any_of HT_.out (by kernel_rfl)) (fun _ _ _ h=>h) (Or.inl ⟨by rfl,?_⟩) ?_ ?_
         rotate_left
         ·intro w'
          go_simp
          with_reducible rfl
         rotate_left
         ·simp only [Act.put,sI,sZ,sS,i64_w,i32_w]
          rfl
         refine pure_ (i:=20) (N:=some 30) (v:=undef) (a':=?_) #[T0,T0,T0,T0,T0,T0,T0,T0,T0,T0,T0,T0,T0,T0,T0,T0,T0,T0,T0,T0,T0,F0,F0,F0,F0,F0,F0,F0,F0,F0,F0,F0,F0,F0] rfl rfl (any_of HT_.out (by kernel_rfl)) (fun _ _ _ h=>h) (Or.inr ⟨by rfl,rfl⟩) ?_ ?_
         rotate_left
         ·simp only [Act.put,sI,sZ,sS,i64_w,i32_w]
          rfl
         refine pure_ (i:=21) (N:=some 31) (v:=undef) (a':=?_) #[T0,T0,T0,T0,T0,T0,T0,T0,T0,T0,T0,T0,T0,T0,T0,T0,T0,T0,T0,T0,T0,T0,F0,F0,F0,F0,F0,F0,F0,F0,F0,F0,F0,F0] rfl rfl (any_of HT_.out (by kernel_rfl)) (fun _ _ _ h=>h) (Or.inr ⟨by rfl,rfl⟩) ?_ ?_
         rotate_left
         ·simp only [Act.put,sI,sZ,sS,i64_w,i32_w]
          rfl
         refine pure_ (i:=22) (N:=some 32) (v:=undef) (a':=?_) #[T0,T0,T0,T0,T0,T0,T0,T0,T0,T0,T0,T0,T0,T0,T0,T0,T0,T0,T0,T0,T0,T0,T0,F0,F0,F0,F0,F0,F0,F0,F0,F0,F0,F0] rfl rfl (any_of HT_.out (by kernel_rfl)) (fun _ _ _ h=>h) (Or.inr ⟨by rfl,rfl⟩) ?_ ?_
         rotate_left
         ·simp only [Act.put,sI,sZ,sS,i64_w,i32_w]
          rfl
         refine pure_ (i:=23) (N:=some 33) (v:=undef) (a':=?_) #[T0,T0,T0,T0,T0,T0,T0,T0,T0,T0,T0,T0,T0,T0,T0,T0,T0,T0,T0,T0,T0,T0,T0,T0,F0,F0,F0,F0,F0,F0,F0,F0,F0,F0] rfl rfl (any_of HT_.out (by kernel_rfl)) (fun _ _ _ h=>h) (Or.inr ⟨by rfl,rfl⟩) ?_ ?_
         rotate_left
         ·simp only [Act.put,sI,sZ,sS,i64_w,i32_w]
          rfl
         refine pure_ (i:=24) (N:=some 34) (v:=undef) (a':=?_) #[T0,T0,T0,T0,T0,T0,T0,T0,T0,T0,T0,T0,T0,T0,T0,T0,T0,T0,T0,T0,T0,T0,T0,T0,T0,F0,F0,F0,F0,F0,F0,F0,F0,F0] rfl rfl (any_of HT_.out (by kernel_rfl)) (fun _ _ _ h=>h) (Or.inr ⟨by rfl,rfl⟩) ?_ ?_
         rotate_left
         ·simp only [Act.put,sI,sZ,sS,i64_w,i32_w]
          rfl
         refine pure_ (i:=25) (N:=some 35) (v:=undef) (a':=?_) #[T0,T0,T0,T0,T0,T0,T0,T0,T0,T0,T0,T0,T0,T0,T0,T0,T0,T0,T0,T0,T0,T0,T0,T0,T0,T0,F0,F0,F0,F0,F0,F0,F0,F0] rfl rfl (any_of HT_.out (by kernel_rfl)) (fun _ _ _ h=>h) (Or.inr ⟨by rfl,rfl⟩) ?_ ?_
         rotate_left
         ·simp only [Act.put,sI,sZ,sS,i64_w,i32_w]
          rfl
         refine pure_ (i:=26) (N:=some 36) (v:=undef) (a':=?_) #[T0,T0,T0,T0,T0,T0,T0,T0,T0,T0,T0,T0,T0,T0,T0,T0,T0,T0,T0,T0,T0,T0,T0,T0,T0,T0,T0,F0,F0,F0,F0,F0,F0,F0] rfl rfl (any_of HT_.out (by kernel_rfl)) (fun _ _ _ h=>h) (Or.inr ⟨by rfl,rfl⟩) ?_ ?_
         rotate_left
         ·simp only [Act.put,sI,sZ,sS,i64_w,i32_w]
          rfl
         refine pure_ (i:=27) (N:=some 37) (v:=undef) (a':=?_) #[T0,T0,T0,T0,T0,T0,T0,T0,T0,T0,T0,T0,T0,T0,T0,T0,T0,T0,T0,T0,T0,T0,T0,T0,T0,T0,T0,T0,F0,F0,F0,F0,F0,F0] rfl rfl (any_of HT_.out (by kernel_rfl)) (fun _ _ _ h=>h) (Or.inr ⟨by rfl,rfl⟩) ?_ ?_
         rotate_left
         ·simp only [Act.put,sI,sZ,sS,i64_w,i32_w]
          rfl
         refine pure_ (i:=28) (N:=some 38) (v:=undef) (a':=?_) #[T0,T0,T0,T0,T0,T0,T0,T0,T0,T0,T0,T0,T0,T0,T0,T0,T0,T0,T0,T0,T0,T0,T0,T0,T0,T0,T0,T0,T0,F0,F0,F0,F0,F0] rfl rfl (any_of HT_.out (by kernel_rfl)) (fun _ _ _ h=>h) (Or.inr ⟨by rfl,rfl⟩) ?_ ?_
         rotate_left
         ·simp only [Act.put,sI,sZ,sS,i64_w,i32_w]
          rfl
         refine pure_ (i:=29) (N:=some 39) (v:=undef) (a':=?_) #[T0,T0,T0,T0,T0,T0,T0,T0,T0,T0,T0,T0,T0,T0,T0,T0,T0,T0,T0,T0,T0,T0,T0,T0,T0,T0,T0,T0,T0,T0,F0,F0,F0,F0] rfl rfl (any_of HT_.out (by kernel_rfl)) (fun _ _ _ h=>h) (Or.inr ⟨by rfl,rfl⟩) ?_ ?_
         rotate_left
         ·simp only [Act.put,sI,sZ,sS,i64_w,i32_w]
          rfl
         refine pure_ (i:=30) (N:=some 40) (v:=undef) (a':=?_) #[T0,T0,T0,T0,T0,T0,T0,T0,T0,T0,T0,T0,T0,T0,T0,T0,T0,T0,T0,T0,T0,T0,T0,T0,T0,T0,T0,T0,T0,T0,T0,F0,F0,F0] rfl rfl (any_of HT_.out (by kernel_rfl)) (fun _ _ _ h=>h) (Or.inr ⟨by rfl,rfl⟩) ?_ ?_
         rotate_left
         ·simp only [Act.put,sI,sZ,sS,i64_w,i32_w]
          rfl
         refine pure_ (i:=31) (N:=some 41) (v:=undef) (a':=?_) #[T0,T0,T0,T0,T0,T0,T0,T0,T0,T0,T0,T0,T0,T0,T0,T0,T0,T0,T0,T0,T0,T0,T0,T0,T0,T0,T0,T0,T0,T0,T0,T0,F0,F0] rfl rfl (any_of HT_.out (by kernel_rfl)) (fun _ _ _ h=>h) (Or.inr ⟨by rfl,rfl⟩) ?_ ?_
         rotate_left
         ·simp only [Act.put,sI,sZ,sS,i64_w,i32_w]
          rfl
         refine pure_ (i:=32) (N:=some 42) (v:=?_) (a':=?_) #[T0,T0,T0,T0,T0,T0,T0,T0,T0,T0,T0,T0,T0,T0,T0,T0,T0,T0,T0,T0,T0,T0,T0,T0,T0,T0,T0,T0,T0,T0,T0,T0,T0,F0] rfl rfl (any_of HT_.out (by kernel_rfl)) (fun _ _ _ h=>h) (Or.inl ⟨by rfl,?_⟩) ?_ ?_
         rotate_left
         ·intro w'
          go_simp
          with_reducible rfl
         rotate_left
         ·simp only [Act.put,sI,sZ,sS,i64_w,i32_w]
          rfl
         refine pure_ (i:=33) (N:=some 43) (v:=?_) (a':=?_) #[T0,T0,T0,T0,T0,T0,T0,T0,T0,T0,T0,T0,T0,T0,T0,T0,T0,T0,T0,T0,T0,T0,T0,T0,T0,T0,T0,T0,T0,T0,T0,T0,T0,T0] rfl rfl (any_of HT_.out (by kernel_rfl)) (fun _ _ _ h=>h) (Or.inl ⟨by rfl,?_⟩) ?_ ?_
         rotate_left
         ·intro w'
          go_simp
          with_reducible rfl
         rotate_left
         ·simp only [Act.put,sI,sZ,sS,i64_w,i32_w]
          rfl
         refine done_ (done_of HT_.out (by kernel_rfl)) ?_
         try go_wp2
         go_meet
         case rel=>exact ⟨_,(false),rsd,H',⟨by have:=HK1.out;first | omega | exact Nat.le_refl _⟩,⟨bel HB⟩⟩
       ·replace c8:=Bool.eq_false_iff.mpr c8
        subst c8
        have H1 : (spec_l23Good.j1 k1 l0 x3_1 true)=some r:=by rw [if_neg (show ¬ (false=true) by decide)] at H;exact H
        clear H
        have H:=H1
        clear H1
        have H':=amk H
        clear H
        try go_wp2
        have n0_:=amk (below_drew1 HB.out)
        clear HB
        have HB:=n0_
        clear n0_
        have p230 : 0≤(x3_1 : Int):=of_decide_eq_true ass
        have q230 : x3_1 < (l0.length : Int):=of_decide_eq_true ass
        obtain ⟨ad230,e230,hx230_0,hx230_1⟩:=at_T30 HR0.out x3_1 p230 q230
        have hw230_1:=hx230_1
        have hw230_0:=hx230_0
        cases e230
        replace hx230_0:=(HB.out.cell (World.block_lt_of_cell? w _ hx230_0)).trans hx230_0
        replace hx230_1:=(HB.out.cell (World.block_lt_of_cell? w _ hx230_1)).trans hx230_1
        replace p230:=eq_true p230
        replace q230:=eq_true q230
        have p232 : 0≤(x3_1 : Int):=of_decide_eq_true ass
        have q232 : x3_1 < (l0.length : Int):=of_decide_eq_true ass
        obtain ⟨ad232,e232,hx232_0,hx232_1⟩:=at_T30 HR0.out x3_1 p232 q232
        have hw232_1:=hx232_1
        have hw232_0:=hx232_0
        obtain rfl : ad230=ad232:=(by injection e232)
        replace hx232_0:=(HB.out.cell (World.block_lt_of_cell? w _ hx232_0)).trans hx232_0
        replace hx232_1:=(HB.out.cell (World.block_lt_of_cell? w _ hx232_1)).trans hx232_1
        replace p232:=eq_true p232
        replace q232:=eq_true q232
        refine start_ (n:=34) (S:=fun w'=>w'.cell? (ad230.add ((x3_1).toNat * 2))=some (.int .i64 ((rd_T30 l0 x3_1).f0))∧w'.cell? ⟨(ad230.add ((x3_1).toNat * 2)).block,(ad230.add ((x3_1).toNat * 2)).off + 1,none⟩=some (.int .i64 ((rd_T30 l0 x3_1).f1))∧w'.cell? (ad230.add ((x3_1).toNat * 2))=some (.int .i64 ((rd_T30 l0 x3_1).f0))∧w'.cell? ⟨(ad230.add ((x3_1).toNat * 2)).block,(ad230.add ((x3_1).toNat * 2)).off + 1,none⟩=some (.int .i64 ((rd_T30 l0 x3_1).f1))) (ds:=[]) #[F0,F0,F0,F0,F0,F0,F0,F0,F0,F0,F0,F0,F0,F0,F0,F0,F0,F0,F0,F0,F0,F0,F0,F0,F0,F0,F0,F0,F0,F0,F0,F0,F0,F0] (by kernel_rfl) rfl rfl ⟨((HB.out.cell (World.block_lt_of_cell? w _ hw230_0)).trans hw230_0),((HB.out.cell (World.block_lt_of_cell? w _ hw230_1)).trans hw230_1),((HB.out.cell (World.block_lt_of_cell? w _ hw232_0)).trans hw232_0),((HB.out.cell (World.block_lt_of_cell? w _ hw232_1)).trans hw232_1)⟩ (fun hHeld=>?_);refine with_tabW spec_l23Good.tab4 spec_l23Good.bits4 (fun HT_ HW_=>?_)
        generalize wr.drew=w15 at HB hx230_0 hx230_1 hx232_0 hx232_1 hHeld ⊢
        refine pure_ (i:=0) (N:=some 10) (v:=?_) (a':=?_) #[T0,F0,F0,F0,F0,F0,F0,F0,F0,F0,F0,F0,F0,F0,F0,F0,F0,F0,F0,F0,F0,F0,F0,F0,F0,F0,F0,F0,F0,F0,F0,F0,F0,F0] rfl rfl (any_of HT_.out (by kernel_rfl)) (fun _ _ _ h=>h) (Or.inl ⟨by rfl,?_⟩) ?_ ?_
        rotate_left
        ·intro w'
         go_simp
         with_reducible rfl
        rotate_left
        ·simp only [Act.put,sI,sZ,sS,i64_w,i32_w]
         rfl
        refine pure_ (i:=1) (N:=some 11) (v:=?_) (a':=?_) #[T0,T0,F0,F0,F0,F0,F0,F0,F0,F0,F0,F0,F0,F0,F0,F0,F0,F0,F0,F0,F0,F0,F0,F0,F0,F0,F0,F0,F0,F0,F0,F0,F0,F0] rfl rfl (any_of HT_.out (by kernel_rfl)) (fun _ _ _ h=>h) (Or.inl ⟨by rfl,?_⟩) ?_ ?_
        rotate_left
        ·intro w'
         go_simp
         with_reducible rfl
        rotate_left
        ·simp only [Act.put,sI,sZ,sS,i64_w,i32_w]
         rfl
        refine pure_ (i:=2) (N:=some 12) (v:=?_) (a':=?_) #[T0,T0,T0,F0,F0,F0,F0,F0,F0,F0,F0,F0,F0,F0,F0,F0,F0,F0,F0,F0,F0,F0,F0,F0,F0,F0,F0,F0,F0,F0,F0,F0,F0,F0] rfl rfl (any_of HT_.out (by kernel_rfl)) (fun _ _ _ h=>h) (Or.inl ⟨by rfl,?_⟩) ?_ ?_
        rotate_left
        ·intro w'
         go_simp
         with_reducible rfl
        rotate_left
        ·simp only [Act.put,sI,sZ,sS,i64_w,i32_w]
         rfl
        refine pure_ (i:=3) (N:=some 13) (v:=?_) (a':=?_) #[T0,T0,T0,T0,F0,F0,F0,F0,F0,F0,F0,F0,F0,F0,F0,F0,F0,F0,F0,F0,F0,F0,F0,F0,F0,F0,F0,F0,F0,F0,F0,F0,F0,F0] rfl rfl (any_of HT_.out (by kernel_rfl)) (fun _ _ _ h=>h) (Or.inl ⟨by rfl,?_⟩) ?_ ?_
        rotate_left
        ·intro w'
         go_simp
         with_reducible rfl
        rotate_left
        ·simp only [Act.put,sI,sZ,sS,i64_w,i32_w]
         rfl
        refine take_ (i:=4) (N:=some 14) (v:=?_) (a':=?_) #[T0,T0,T0,T0,T0,F0,F0,F0,F0,F0,F0,F0,F0,F0,F0,F0,F0,F0,F0,F0,F0,F0,F0,F0,F0,F0,F0,F0,F0,F0,F0,F0,F0,F0] rfl rfl (take_ofW HT_.out HW_.out (by kernel_rfl)) (fun _ _ _ h=>h) (Or.inl ⟨by rfl,?_⟩) hHeld ?_ ?_
        rotate_left
        ·rintro w' ⟨s0,s1,s2,s3⟩
         go_simp
         with_reducible rfl
        rotate_left
        ·simp only [Act.put,sI,sZ,sS,i64_w,i32_w]
         rfl
        refine one_ (i:=5) (N:=some 15) #[T0,T0,T0,T0,T0,T0,F0,F0,F0,F0,F0,F0,F0,F0,F0,F0,F0,F0,F0,F0,F0,F0,F0,F0,F0,F0,F0,F0,F0,F0,F0,F0,F0,F0] rfl rfl (one_of HT_.out (by kernel_rfl)) (by decide) (fun K hK=>?_)
        refine goes_ Try.func72 (by kernel_rfl) rfl #[.int .i64 ((rd_T30 l0 x3_1).f0),.int .i64 0,.int .i64 999] (by rfl) rfl rfl mtt ?_
        with_reducible refine (spec_l1In.calls ((rd_T30 l0 x3_1).f0) 0 999 true _ A5.out).mono ?_
        rintro e w' ⟨rfl,⟨nd,rfl⟩⟩
        refine ⟨_,rfl,?_⟩
        refine hK.out _ _ ⟨((HB.out.cell (World.block_lt_of_cell? w _ hw230_0)).trans hw230_0),((HB.out.cell (World.block_lt_of_cell? w _ hw230_1)).trans hw230_1),((HB.out.cell (World.block_lt_of_cell? w _ hw232_0)).trans hw232_0),((HB.out.cell (World.block_lt_of_cell? w _ hw232_1)).trans hw232_1)⟩ (fun hHeld=>?_)
        clear hK K
        refine norm_ (a':=?_) ?_ ?_
        rotate_left
        ·show Act.put _ (some 15) _=_
         simp only [Act.put,sI,sZ,sS,i64_w,i32_w]
         rfl
        refine pure_ (i:=6) (N:=some 16) (v:=?_) (a':=?_) #[T0,T0,T0,T0,T0,T0,T0,F0,F0,F0,F0,F0,F0,F0,F0,F0,F0,F0,F0,F0,F0,F0,F0,F0,F0,F0,F0,F0,F0,F0,F0,F0,F0,F0] rfl rfl (any_of HT_.out (by kernel_rfl)) (fun _ _ _ h=>h) (Or.inl ⟨by rfl,?_⟩) ?_ ?_
        rotate_left
        ·intro w'
         go_simp
         with_reducible rfl
        rotate_left
        ·simp only [Act.put,sI,sZ,sS,i64_w,i32_w]
         rfl
        refine pure_ (i:=7) (N:=some 17) (v:=?_) (a':=?_) #[T0,T0,T0,T0,T0,T0,T0,T0,F0,F0,F0,F0,F0,F0,F0,F0,F0,F0,F0,F0,F0,F0,F0,F0,F0,F0,F0,F0,F0,F0,F0,F0,F0,F0] rfl rfl (any_of HT_.out (by kernel_rfl)) (fun _ _ _ h=>h) (Or.inl ⟨by rfl,?_⟩) ?_ ?_
        rotate_left
        ·intro w'
         go_simp
         with_reducible rfl
        rotate_left
        ·simp only [Act.put,sI,sZ,sS,i64_w,i32_w]
         rfl
        refine pure_ (i:=8) (N:=some 18) (v:=?_) (a':=?_) #[T0,T0,T0,T0,T0,T0,T0,T0,T0,F0,F0,F0,F0,F0,F0,F0,F0,F0,F0,F0,F0,F0,F0,F0,F0,F0,F0,F0,F0,F0,F0,F0,F0,F0] rfl rfl (any_of HT_.out (by kernel_rfl)) (fun _ _ _ h=>h) (Or.inl ⟨by rfl,?_⟩) ?_ ?_
        rotate_left
        ·intro w'
         go_simp
         with_reducible rfl
        rotate_left
        ·simp only [Act.put,sI,sZ,sS,i64_w,i32_w]
         rfl
        refine pure_ (i:=9) (N:=some 19) (v:=?_) (a':=?_) #[T0,T0,T0,T0,T0,T0,T0,T0,T0,T0,F0,F0,F0,F0,F0,F0,F0,F0,F0,F0,F0,F0,F0,F0,F0,F0,F0,F0,F0,F0,F0,F0,F0,F0] rfl rfl (any_of HT_.out (by kernel_rfl)) (fun _ _ _ h=>h) (Or.inl ⟨by rfl,?_⟩) ?_ ?_
        rotate_left
        ·intro w'
         go_simp
         with_reducible rfl
        rotate_left
        ·simp only [Act.put,sI,sZ,sS,i64_w,i32_w]
         rfl
        refine pure_ (i:=10) (N:=some 20) (v:=?_) (a':=?_) #[T0,T0,T0,T0,T0,T0,T0,T0,T0,T0,T0,F0,F0,F0,F0,F0,F0,F0,F0,F0,F0,F0,F0,F0,F0,F0,F0,F0,F0,F0,F0,F0,F0,F0] rfl rfl (any_of HT_.out (by kernel_rfl)) (fun _ _ _ h=>h) (Or.inl ⟨by rfl,?_⟩) ?_ ?_
        rotate_left
        ·intro w'
         go_simp
         with_reducible rfl
        rotate_left
        ·simp only [Act.put,sI,sZ,sS,i64_w,i32_w]
         rfl
        refine pure_ (i:=11) (N:=some 21) (v:=?_) (a':=?_) #[T0,T0,T0,T0,T0,T0,T0,T0,T0,T0,T0,T0,F0,F0,F0,F0,F0,F0,F0,F0,F0,F0,F0,F0,F0,F0,F0,F0,F0,F0,F0,F0,F0,F0] rfl rfl (any_of HT_.out (by kernel_rfl)) (fun _ _ _ h=>h) (Or.inl ⟨by rfl,?_⟩) ?_ ?_
        rotate_left
        ·intro w'
         go_simp
         with_reducible rfl
        rotate_left
        ·simp only [Act.put,sI,sZ,sS,i64_w,i32_w]
         rfl
        refine take_ (i:=12) (N:=some 22) (v:=?_) (a':=?_) #[T0,T0,T0,T0,T0,T0,T0,T0,T0,T0,T0,T0,T0,F0,F0,F0,F0,F0,F0,F0,F0,F0,F0,F0,F0,F0,F0,F0,F0,F0,F0,F0,F0,F0] rfl rfl (take_ofW HT_.out HW_.out (by kernel_rfl)) (fun _ _ _ h=>h) (Or.inl ⟨by rfl,?_⟩) hHeld ?_ ?_
        rotate_left
        ·rintro w' ⟨s0,s1,s2,s3⟩
         go_simp
         with_reducible rfl
        rotate_left
        ·simp only [Act.put,sI,sZ,sS,i64_w,i32_w]
         rfl
        refine one_ (i:=13) (N:=some 23) #[T0,T0,T0,T0,T0,T0,T0,T0,T0,T0,T0,T0,T0,T0,F0,F0,F0,F0,F0,F0,F0,F0,F0,F0,F0,F0,F0,F0,F0,F0,F0,F0,F0,F0] rfl rfl (one_of HT_.out (by kernel_rfl)) (by decide) (fun K hK=>?_)
        refine goes_ Try.func85 (by kernel_rfl) rfl #[.int .i64 ((rd_T30 l0 x3_1).f1)] (by rfl) rfl rfl mtt ?_
        with_reducible refine (spec_l23Level.calls ((rd_T30 l0 x3_1).f1) false _ A7.out).mono ?_
        rintro e w' ⟨rfl,⟨nd,rfl⟩⟩
        refine ⟨_,rfl,?_⟩
        refine hK.out _ _ ⟨((HB.out.cell (World.block_lt_of_cell? w _ hw230_0)).trans hw230_0),((HB.out.cell (World.block_lt_of_cell? w _ hw230_1)).trans hw230_1),((HB.out.cell (World.block_lt_of_cell? w _ hw232_0)).trans hw232_0),((HB.out.cell (World.block_lt_of_cell? w _ hw232_1)).trans hw232_1)⟩ (fun hHeld=>?_)
        clear hK K
        refine norm_ (a':=?_) ?_ ?_
        rotate_left
        ·show Act.put _ (some 23) _=_
         simp only [Act.put,sI,sZ,sS,i64_w,i32_w]
         rfl
        refine pure_ (i:=14) (N:=some 24) (v:=?_) (a':=?_) #[T0,T0,T0,T0,T0,T0,T0,T0,T0,T0,T0,T0,T0,T0,T0,F0,F0,F0,F0,F0,F0,F0,F0,F0,F0,F0,F0,F0,F0,F0,F0,F0,F0,F0] rfl rfl (any_of HT_.out (by kernel_rfl)) (fun _ _ _ h=>h) (Or.inl ⟨by rfl,?_⟩) ?_ ?_
        rotate_left
        ·intro w'
         go_simp
         with_reducible rfl
        rotate_left
        ·simp only [Act.put,sI,sZ,sS,i64_w,i32_w]
         rfl
        refine pure_ (i:=15) (N:=some 25) (v:=?_) (a':=?_) #[T0,T0,T0,T0,T0,T0,T0,T0,T0,T0,T0,T0,T0,T0,T0,T0,F0,F0,F0,F0,F0,F0,F0,F0,F0,F0,F0,F0,F0,F0,F0,F0,F0,F0] rfl rfl (any_of HT_.out (by kernel_rfl)) (fun _ _ _ h=>h) (Or.inl ⟨by rfl,?_⟩) ?_ ?_
        rotate_left
        ·intro w'
         go_simp
         with_reducible rfl
        rotate_left
        ·simp only [Act.put,sI,sZ,sS,i64_w,i32_w]
         rfl
        refine pure_ (i:=16) (N:=some 26) (v:=?_) (a':=?_) #[T0,T0,T0,T0,T0,T0,T0,T0,T0,T0,T0,T0,T0,T0,T0,T0,T0,F0,F0,F0,F0,F0,F0,F0,F0,F0,F0,F0,F0,F0,F0,F0,F0,F0] rfl rfl (any_of HT_.out (by kernel_rfl)) (fun _ _ _ h=>h) (Or.inl ⟨by rfl,?_⟩) ?_ ?_
        rotate_left
        ·intro w'
         go_simp
         with_reducible rfl
        rotate_left
        ·simp only [Act.put,sI,sZ,sS,i64_w,i32_w]
         rfl
        refine pure_ (i:=17) (N:=some 27) (v:=undef) (a':=?_) #[T0,T0,T0,T0,T0,T0,T0,T0,T0,T0,T0,T0,T0,T0,T0,T0,T0,T0,F0,F0,F0,F0,F0,F0,F0,F0,F0,F0,F0,F0,F0,F0,F0,F0] rfl rfl (any_of HT_.out (by kernel_rfl)) (fun _ _ _ h=>h) (Or.inr ⟨by rfl,rfl⟩) ?_ ?_
        rotate_left
        ·simp only [Act.put,sI,sZ,sS,i64_w,i32_w]
         rfl
        refine pure_ (i:=18) (N:=some 28) (v:=undef) (a':=?_) #[T0,T0,T0,T0,T0,T0,T0,T0,T0,T0,T0,T0,T0,T0,T0,T0,T0,T0,T0,F0,F0,F0,F0,F0,F0,F0,F0,F0,F0,F0,F0,F0,F0,F0] rfl rfl (any_of HT_.out (by kernel_rfl)) (fun _ _ _ h=>h) (Or.inr ⟨by rfl,rfl⟩) ?_ ?_
        rotate_left
        ·simp only [Act.put,sI,sZ,sS,i64_w,i32_w]
         rfl
        refine pure_ (i:=19) (N:=some 29) (v:=undef) (a':=?_) #[T0,T0,T0,T0,T0,T0,T0,T0,T0,T0,T0,T0,T0,T0,T0,T0,T0,T0,T0,T0,F0,F0,F0,F0,F0,F0,F0,F0,F0,F0,F0,F0,F0,F0] rfl rfl (any_of HT_.out (by kernel_rfl)) (fun _ _ _ h=>h) (Or.inr ⟨by rfl,rfl⟩) ?_ ?_
        rotate_left
        ·simp only [Act.put,sI,sZ,sS,i64_w,i32_w]
         rfl
        refine pure_ (i:=20) (N:=some 30) (v:=undef) (a':=?_) #[T0,T0,T0,T0,T0,T0,T0,T0,T0,T0,T0,T0,T0,T0,T0,T0,T0,T0,T0,T0,T0,F0,F0,F0,F0,F0,F0,F0,F0,F0,F0,F0,F0,F0] rfl rfl (any_of HT_.out (by kernel_rfl)) (fun _ _ _ h=>h) (Or.inr ⟨by rfl,rfl⟩) ?_ ?_
        rotate_left
        ·simp only [Act.put,sI,sZ,sS,i64_w,i32_w]
         rfl
        refine pure_ (i:=21) (N:=some 31) (v:=undef) (a':=?_) #[T0,T0,T0,T0,T0,T0,T0,T0,T0,T0,T0,T0,T0,T0,T0,T0,T0,T0,T0,T0,T0,T0,F0,F0,F0,F0,F0,F0,F0,F0,F0,F0,F0,F0] rfl rfl (any_of HT_.out (by kernel_rfl)) (fun _ _ _ h=>h) (Or.inr ⟨by rfl,rfl⟩) ?_ ?_
        rotate_left
        ·simp only [Act.put,sI,sZ,sS,i64_w,i32_w]
         rfl
        refine pure_ (i:=22) (N:=some 32) (v:=undef) (a':=?_) #[T0,T0,T0,T0,T0,T0,T0,T0,T0,T0,T0,T0,T0,T0,T0,T0,T0,T0,T0,T0,T0,T0,T0,F0,F0,F0,F0,F0,F0,F0,F0,F0,F0,F0] rfl rfl (any_of HT_.out (by kernel_rfl)) (fun _ _ _ h=>h) (Or.inr ⟨by rfl,rfl⟩) ?_ ?_
        rotate_left
        ·simp only [Act.put,sI,sZ,sS,i64_w,i32_w]
         rfl
        refine pure_ (i:=23) (N:=some 33) (v:=undef) (a':=?_) #[T0,T0,T0,T0,T0,T0,T0,T0,T0,T0,T0,T0,T0,T0,T0,T0,T0,T0,T0,T0,T0,T0,T0,T0,F0,F0,F0,F0,F0,F0,F0,F0,F0,F0] rfl rfl (any_of HT_.out (by kernel_rfl)) (fun _ _ _ h=>h) (Or.inr ⟨by rfl,rfl⟩) ?_ ?_
        rotate_left
        ·simp only [Act.put,sI,sZ,sS,i64_w,i32_w]
         rfl
        refine pure_ (i:=24) (N:=some 34) (v:=undef) (a':=?_) #[T0,T0,T0,T0,T0,T0,T0,T0,T0,T0,T0,T0,T0,T0,T0,T0,T0,T0,T0,T0,T0,T0,T0,T0,T0,F0,F0,F0,F0,F0,F0,F0,F0,F0] rfl rfl (any_of HT_.out (by kernel_rfl)) (fun _ _ _ h=>h) (Or.inr ⟨by rfl,rfl⟩) ?_ ?_
        rotate_left
        ·simp only [Act.put,sI,sZ,sS,i64_w,i32_w]
         rfl
        refine pure_ (i:=25) (N:=some 35) (v:=undef) (a':=?_) #[T0,T0,T0,T0,T0,T0,T0,T0,T0,T0,T0,T0,T0,T0,T0,T0,T0,T0,T0,T0,T0,T0,T0,T0,T0,T0,F0,F0,F0,F0,F0,F0,F0,F0] rfl rfl (any_of HT_.out (by kernel_rfl)) (fun _ _ _ h=>h) (Or.inr ⟨by rfl,rfl⟩) ?_ ?_
        rotate_left
        ·simp only [Act.put,sI,sZ,sS,i64_w,i32_w]
         rfl
        refine pure_ (i:=26) (N:=some 36) (v:=undef) (a':=?_) #[T0,T0,T0,T0,T0,T0,T0,T0,T0,T0,T0,T0,T0,T0,T0,T0,T0,T0,T0,T0,T0,T0,T0,T0,T0,T0,T0,F0,F0,F0,F0,F0,F0,F0] rfl rfl (any_of HT_.out (by kernel_rfl)) (fun _ _ _ h=>h) (Or.inr ⟨by rfl,rfl⟩) ?_ ?_
        rotate_left
        ·simp only [Act.put,sI,sZ,sS,i64_w,i32_w]
         rfl
        refine pure_ (i:=27) (N:=some 37) (v:=undef) (a':=?_) #[T0,T0,T0,T0,T0,T0,T0,T0,T0,T0,T0,T0,T0,T0,T0,T0,T0,T0,T0,T0,T0,T0,T0,T0,T0,T0,T0,T0,F0,F0,F0,F0,F0,F0] rfl rfl (any_of HT_.out (by kernel_rfl)) (fun _ _ _ h=>h) (Or.inr ⟨by rfl,rfl⟩) ?_ ?_
        rotate_left
        ·simp only [Act.put,sI,sZ,sS,i64_w,i32_w]
         rfl
        refine pure_ (i:=28) (N:=some 38) (v:=undef) (a':=?_) #[T0,T0,T0,T0,T0,T0,T0,T0,T0,T0,T0,T0,T0,T0,T0,T0,T0,T0,T0,T0,T0,T0,T0,T0,T0,T0,T0,T0,T0,F0,F0,F0,F0,F0] rfl rfl (any_of HT_.out (by kernel_rfl)) (fun _ _ _ h=>h) (Or.inr ⟨by rfl,rfl⟩) ?_ ?_
        rotate_left
        ·simp only [Act.put,sI,sZ,sS,i64_w,i32_w]
         rfl
        refine pure_ (i:=29) (N:=some 39) (v:=undef) (a':=?_) #[T0,T0,T0,T0,T0,T0,T0,T0,T0,T0,T0,T0,T0,T0,T0,T0,T0,T0,T0,T0,T0,T0,T0,T0,T0,T0,T0,T0,T0,T0,F0,F0,F0,F0] rfl rfl (any_of HT_.out (by kernel_rfl)) (fun _ _ _ h=>h) (Or.inr ⟨by rfl,rfl⟩) ?_ ?_
        rotate_left
        ·simp only [Act.put,sI,sZ,sS,i64_w,i32_w]
         rfl
        refine pure_ (i:=30) (N:=some 40) (v:=undef) (a':=?_) #[T0,T0,T0,T0,T0,T0,T0,T0,T0,T0,T0,T0,T0,T0,T0,T0,T0,T0,T0,T0,T0,T0,T0,T0,T0,T0,T0,T0,T0,T0,T0,F0,F0,F0] rfl rfl (any_of HT_.out (by kernel_rfl)) (fun _ _ _ h=>h) (Or.inr ⟨by rfl,rfl⟩) ?_ ?_
        rotate_left
        ·simp only [Act.put,sI,sZ,sS,i64_w,i32_w]
         rfl
        refine pure_ (i:=31) (N:=some 41) (v:=undef) (a':=?_) #[T0,T0,T0,T0,T0,T0,T0,T0,T0,T0,T0,T0,T0,T0,T0,T0,T0,T0,T0,T0,T0,T0,T0,T0,T0,T0,T0,T0,T0,T0,T0,T0,F0,F0] rfl rfl (any_of HT_.out (by kernel_rfl)) (fun _ _ _ h=>h) (Or.inr ⟨by rfl,rfl⟩) ?_ ?_
        rotate_left
        ·simp only [Act.put,sI,sZ,sS,i64_w,i32_w]
         rfl
        refine pure_ (i:=32) (N:=some 42) (v:=undef) (a':=?_) #[T0,T0,T0,T0,T0,T0,T0,T0,T0,T0,T0,T0,T0,T0,T0,T0,T0,T0,T0,T0,T0,T0,T0,T0,T0,T0,T0,T0,T0,T0,T0,T0,T0,F0] rfl rfl (any_of HT_.out (by kernel_rfl)) (fun _ _ _ h=>h) (Or.inr ⟨by rfl,rfl⟩) ?_ ?_
        rotate_left
        ·simp only [Act.put,sI,sZ,sS,i64_w,i32_w]
         rfl
        refine pure_ (i:=33) (N:=some 43) (v:=?_) (a':=?_) #[T0,T0,T0,T0,T0,T0,T0,T0,T0,T0,T0,T0,T0,T0,T0,T0,T0,T0,T0,T0,T0,T0,T0,T0,T0,T0,T0,T0,T0,T0,T0,T0,T0,T0] rfl rfl (any_of HT_.out (by kernel_rfl)) (fun _ _ _ h=>h) (Or.inl ⟨by rfl,?_⟩) ?_ ?_
        rotate_left
        ·intro w'
         go_simp
         with_reducible rfl
        rotate_left
        ·simp only [Act.put,sI,sZ,sS,i64_w,i32_w]
         rfl
        refine done_ (done_of HT_.out (by kernel_rfl)) ?_
        try go_wp2
        go_meet
        case rel=>exact ⟨_,(true),rsd,H',⟨by have:=HK1.out;first | omega | exact Nat.le_refl _⟩,⟨bel HB⟩⟩
      ·replace c6:=Bool.eq_false_iff.mpr c6
       subst c6
       have H1 : (spec_l23Good.j1 k1 l0 x3_1 true)=some r:=by rw [if_neg (show ¬ (false=true) by decide)] at H;exact H
       clear H
       have H:=H1
       clear H1
       have H':=amk H
       clear H
       try go_wp2
       have n0_:=amk (below_drew1 HB.out)
       clear HB
       have HB:=n0_
       clear n0_
       have p230 : 0≤(x3_1 : Int):=of_decide_eq_true ass
       have q230 : x3_1 < (l0.length : Int):=of_decide_eq_true ass
       obtain ⟨ad230,e230,hx230_0,hx230_1⟩:=at_T30 HR0.out x3_1 p230 q230
       have hw230_1:=hx230_1
       have hw230_0:=hx230_0
       cases e230
       replace hx230_0:=(HB.out.cell (World.block_lt_of_cell? w _ hx230_0)).trans hx230_0
       replace hx230_1:=(HB.out.cell (World.block_lt_of_cell? w _ hx230_1)).trans hx230_1
       replace p230:=eq_true p230
       replace q230:=eq_true q230
       refine start_ (n:=34) (S:=fun w'=>w'.cell? (ad230.add ((x3_1).toNat * 2))=some (.int .i64 ((rd_T30 l0 x3_1).f0))∧w'.cell? ⟨(ad230.add ((x3_1).toNat * 2)).block,(ad230.add ((x3_1).toNat * 2)).off + 1,none⟩=some (.int .i64 ((rd_T30 l0 x3_1).f1))) (ds:=[]) #[F0,F0,F0,F0,F0,F0,F0,F0,F0,F0,F0,F0,F0,F0,F0,F0,F0,F0,F0,F0,F0,F0,F0,F0,F0,F0,F0,F0,F0,F0,F0,F0,F0,F0] (by kernel_rfl) rfl rfl ⟨((HB.out.cell (World.block_lt_of_cell? w _ hw230_0)).trans hw230_0),((HB.out.cell (World.block_lt_of_cell? w _ hw230_1)).trans hw230_1)⟩ (fun hHeld=>?_);refine with_tabW spec_l23Good.tab4 spec_l23Good.bits4 (fun HT_ HW_=>?_)
       generalize wr.drew=w16 at HB hx230_0 hx230_1 hHeld ⊢
       refine pure_ (i:=0) (N:=some 10) (v:=?_) (a':=?_) #[T0,F0,F0,F0,F0,F0,F0,F0,F0,F0,F0,F0,F0,F0,F0,F0,F0,F0,F0,F0,F0,F0,F0,F0,F0,F0,F0,F0,F0,F0,F0,F0,F0,F0] rfl rfl (any_of HT_.out (by kernel_rfl)) (fun _ _ _ h=>h) (Or.inl ⟨by rfl,?_⟩) ?_ ?_
       rotate_left
       ·intro w'
        go_simp
        with_reducible rfl
       rotate_left
       ·simp only [Act.put,sI,sZ,sS,i64_w,i32_w]
        rfl
       refine pure_ (i:=1) (N:=some 11) (v:=?_) (a':=?_) #[T0,T0,F0,F0,F0,F0,F0,F0,F0,F0,F0,F0,F0,F0,F0,F0,F0,F0,F0,F0,F0,F0,F0,F0,F0,F0,F0,F0,F0,F0,F0,F0,F0,F0] rfl rfl (any_of HT_.out (by kernel_rfl)) (fun _ _ _ h=>h) (Or.inl ⟨by rfl,?_⟩) ?_ ?_
       rotate_left
       ·intro w'
        go_simp
        with_reducible rfl
       rotate_left
       ·simp only [Act.put,sI,sZ,sS,i64_w,i32_w]
        rfl
       refine pure_ (i:=2) (N:=some 12) (v:=?_) (a':=?_) #[T0,T0,T0,F0,F0,F0,F0,F0,F0,F0,F0,F0,F0,F0,F0,F0,F0,F0,F0,F0,F0,F0,F0,F0,F0,F0,F0,F0,F0,F0,F0,F0,F0,F0] rfl rfl (any_of HT_.out (by kernel_rfl)) (fun _ _ _ h=>h) (Or.inl ⟨by rfl,?_⟩) ?_ ?_
       rotate_left
       ·intro w'
        go_simp
        with_reducible rfl
       rotate_left
       ·simp only [Act.put,sI,sZ,sS,i64_w,i32_w]
        rfl
       refine pure_ (i:=3) (N:=some 13) (v:=?_) (a':=?_) #[T0,T0,T0,T0,F0,F0,F0,F0,F0,F0,F0,F0,F0,F0,F0,F0,F0,F0,F0,F0,F0,F0,F0,F0,F0,F0,F0,F0,F0,F0,F0,F0,F0,F0] rfl rfl (any_of HT_.out (by kernel_rfl)) (fun _ _ _ h=>h) (Or.inl ⟨by rfl,?_⟩) ?_ ?_
       rotate_left
       ·intro w'
        go_simp
        with_reducible rfl
       rotate_left
       ·simp only [Act.put,sI,sZ,sS,i64_w,i32_w]
        rfl
       refine take_ (i:=4) (N:=some 14) (v:=?_) (a':=?_) #[T0,T0,T0,T0,T0,F0,F0,F0,F0,F0,F0,F0,F0,F0,F0,F0,F0,F0,F0,F0,F0,F0,F0,F0,F0,F0,F0,F0,F0,F0,F0,F0,F0,F0] rfl rfl (take_ofW HT_.out HW_.out (by kernel_rfl)) (fun _ _ _ h=>h) (Or.inl ⟨by rfl,?_⟩) hHeld ?_ ?_
       rotate_left
       ·rintro w' ⟨s0,s1⟩
        go_simp
        with_reducible rfl
       rotate_left
       ·simp only [Act.put,sI,sZ,sS,i64_w,i32_w]
        rfl
       refine one_ (i:=5) (N:=some 15) #[T0,T0,T0,T0,T0,T0,F0,F0,F0,F0,F0,F0,F0,F0,F0,F0,F0,F0,F0,F0,F0,F0,F0,F0,F0,F0,F0,F0,F0,F0,F0,F0,F0,F0] rfl rfl (one_of HT_.out (by kernel_rfl)) (by decide) (fun K hK=>?_)
       refine goes_ Try.func72 (by kernel_rfl) rfl #[.int .i64 ((rd_T30 l0 x3_1).f0),.int .i64 0,.int .i64 999] (by rfl) rfl rfl mtt ?_
       with_reducible refine (spec_l1In.calls ((rd_T30 l0 x3_1).f0) 0 999 false _ A5.out).mono ?_
       rintro e w' ⟨rfl,⟨nd,rfl⟩⟩
       refine ⟨_,rfl,?_⟩
       refine hK.out _ _ ⟨((HB.out.cell (World.block_lt_of_cell? w _ hw230_0)).trans hw230_0),((HB.out.cell (World.block_lt_of_cell? w _ hw230_1)).trans hw230_1)⟩ (fun hHeld=>?_)
       clear hK K
       refine norm_ (a':=?_) ?_ ?_
       rotate_left
       ·show Act.put _ (some 15) _=_
        simp only [Act.put,sI,sZ,sS,i64_w,i32_w]
        rfl
       refine pure_ (i:=6) (N:=some 16) (v:=?_) (a':=?_) #[T0,T0,T0,T0,T0,T0,T0,F0,F0,F0,F0,F0,F0,F0,F0,F0,F0,F0,F0,F0,F0,F0,F0,F0,F0,F0,F0,F0,F0,F0,F0,F0,F0,F0] rfl rfl (any_of HT_.out (by kernel_rfl)) (fun _ _ _ h=>h) (Or.inl ⟨by rfl,?_⟩) ?_ ?_
       rotate_left
       ·intro w'
        go_simp
        with_reducible rfl
       rotate_left
       ·simp only [Act.put,sI,sZ,sS,i64_w,i32_w]
        rfl
       refine pure_ (i:=7) (N:=some 17) (v:=?_) (a':=?_) #[T0,T0,T0,T0,T0,T0,T0,T0,F0,F0,F0,F0,F0,F0,F0,F0,F0,F0,F0,F0,F0,F0,F0,F0,F0,F0,F0,F0,F0,F0,F0,F0,F0,F0] rfl rfl (any_of HT_.out (by kernel_rfl)) (fun _ _ _ h=>h) (Or.inl ⟨by rfl,?_⟩) ?_ ?_
       rotate_left
       ·intro w'
        go_simp
        with_reducible rfl
       rotate_left
       ·simp only [Act.put,sI,sZ,sS,i64_w,i32_w]
        rfl
       refine pure_ (i:=8) (N:=some 18) (v:=undef) (a':=?_) #[T0,T0,T0,T0,T0,T0,T0,T0,T0,F0,F0,F0,F0,F0,F0,F0,F0,F0,F0,F0,F0,F0,F0,F0,F0,F0,F0,F0,F0,F0,F0,F0,F0,F0] rfl rfl (any_of HT_.out (by kernel_rfl)) (fun _ _ _ h=>h) (Or.inr ⟨by rfl,rfl⟩) ?_ ?_
       rotate_left
       ·simp only [Act.put,sI,sZ,sS,i64_w,i32_w]
        rfl
       refine pure_ (i:=9) (N:=some 19) (v:=undef) (a':=?_) #[T0,T0,T0,T0,T0,T0,T0,T0,T0,T0,F0,F0,F0,F0,F0,F0,F0,F0,F0,F0,F0,F0,F0,F0,F0,F0,F0,F0,F0,F0,F0,F0,F0,F0] rfl rfl (any_of HT_.out (by kernel_rfl)) (fun _ _ _ h=>h) (Or.inr ⟨by rfl,rfl⟩) ?_ ?_
       rotate_left
       ·simp only [Act.put,sI,sZ,sS,i64_w,i32_w]
        rfl
       refine pure_ (i:=10) (N:=some 20) (v:=undef) (a':=?_) #[T0,T0,T0,T0,T0,T0,T0,T0,T0,T0,T0,F0,F0,F0,F0,F0,F0,F0,F0,F0,F0,F0,F0,F0,F0,F0,F0,F0,F0,F0,F0,F0,F0,F0] rfl rfl (any_of HT_.out (by kernel_rfl)) (fun _ _ _ h=>h) (Or.inr ⟨by rfl,rfl⟩) ?_ ?_
       rotate_left
       ·simp only [Act.put,sI,sZ,sS,i64_w,i32_w]
        rfl
       refine pure_ (i:=11) (N:=some 21) (v:=undef) (a':=?_) #[T0,T0,T0,T0,T0,T0,T0,T0,T0,T0,T0,T0,F0,F0,F0,F0,F0,F0,F0,F0,F0,F0,F0,F0,F0,F0,F0,F0,F0,F0,F0,F0,F0,F0] rfl rfl (any_of HT_.out (by kernel_rfl)) (fun _ _ _ h=>h) (Or.inr ⟨by rfl,rfl⟩) ?_ ?_
       rotate_left
       ·simp only [Act.put,sI,sZ,sS,i64_w,i32_w]
        rfl
       refine pure_ (i:=12) (N:=some 22) (v:=undef) (a':=?_) #[T0,T0,T0,T0,T0,T0,T0,T0,T0,T0,T0,T0,T0,F0,F0,F0,F0,F0,F0,F0,F0,F0,F0,F0,F0,F0,F0,F0,F0,F0,F0,F0,F0,F0] rfl rfl (any_of HT_.out (by kernel_rfl)) (fun _ _ _ h=>h) (Or.inr ⟨by rfl,rfl⟩) ?_ ?_
       rotate_left
       ·simp only [Act.put,sI,sZ,sS,i64_w,i32_w]
        rfl
       refine pure_ (i:=13) (N:=some 23) (v:=undef) (a':=?_) #[T0,T0,T0,T0,T0,T0,T0,T0,T0,T0,T0,T0,T0,T0,F0,F0,F0,F0,F0,F0,F0,F0,F0,F0,F0,F0,F0,F0,F0,F0,F0,F0,F0,F0] rfl rfl (any_of HT_.out (by kernel_rfl)) (fun _ _ _ h=>h) (Or.inr ⟨by rfl,rfl⟩) ?_ ?_
       rotate_left
       ·simp only [Act.put,sI,sZ,sS,i64_w,i32_w]
        rfl
       refine pure_ (i:=14) (N:=some 24) (v:=undef) (a':=?_) #[T0,T0,T0,T0,T0,T0,T0,T0,T0,T0,T0,T0,T0,T0,T0,F0,F0,F0,F0,F0,F0,F0,F0,F0,F0,F0,F0,F0,F0,F0,F0,F0,F0,F0] rfl rfl (any_of HT_.out (by kernel_rfl)) (fun _ _ _ h=>h) (Or.inr ⟨by rfl,rfl⟩) ?_ ?_
       rotate_left
       ·simp only [Act.put,sI,sZ,sS,i64_w,i32_w]
        rfl
       refine pure_ (i:=15) (N:=some 25) (v:=?_) (a':=?_) #[T0,T0,T0,T0,T0,T0,T0,T0,T0,T0,T0,T0,T0,T0,T0,T0,F0,F0,F0,F0,F0,F0,F0,F0,F0,F0,F0,F0,F0,F0,F0,F0,F0,F0] rfl rfl (any_of HT_.out (by kernel_rfl)) (fun _ _ _ h=>h) (Or.inl ⟨by rfl,?_⟩) ?_ ?_
       rotate_left
       ·intro w'
        go_simp
        with_reducible rfl
       rotate_left
       ·simp only [Act.put,sI,sZ,sS,i64_w,i32_w]
        rfl
       refine pure_ (i:=16) (N:=some 26) (v:=?_) (a':=?_) #[T0,T0,T0,T0,T0,T0,T0,T0,T0,T0,T0,T0,T0,T0,T0,T0,T0,F0,F0,F0,F0,F0,F0,F0,F0,F0,F0,F0,F0,F0,F0,F0,F0,F0] rfl rfl (any_of HT_.out (by kernel_rfl)) (fun _ _ _ h=>h) (Or.inl ⟨by rfl,?_⟩) ?_ ?_
       rotate_left
       ·intro w'
        go_simp
        with_reducible rfl
       rotate_left
       ·simp only [Act.put,sI,sZ,sS,i64_w,i32_w]
        rfl
       refine pure_ (i:=17) (N:=some 27) (v:=undef) (a':=?_) #[T0,T0,T0,T0,T0,T0,T0,T0,T0,T0,T0,T0,T0,T0,T0,T0,T0,T0,F0,F0,F0,F0,F0,F0,F0,F0,F0,F0,F0,F0,F0,F0,F0,F0] rfl rfl (any_of HT_.out (by kernel_rfl)) (fun _ _ _ h=>h) (Or.inr ⟨by rfl,rfl⟩) ?_ ?_
       rotate_left
       ·simp only [Act.put,sI,sZ,sS,i64_w,i32_w]
        rfl
       refine pure_ (i:=18) (N:=some 28) (v:=undef) (a':=?_) #[T0,T0,T0,T0,T0,T0,T0,T0,T0,T0,T0,T0,T0,T0,T0,T0,T0,T0,T0,F0,F0,F0,F0,F0,F0,F0,F0,F0,F0,F0,F0,F0,F0,F0] rfl rfl (any_of HT_.out (by kernel_rfl)) (fun _ _ _ h=>h) (Or.inr ⟨by rfl,rfl⟩) ?_ ?_
       rotate_left
       ·simp only [Act.put,sI,sZ,sS,i64_w,i32_w]
        rfl
       refine pure_ (i:=19) (N:=some 29) (v:=undef) (a':=?_) #[T0,T0,T0,T0,T0,T0,T0,T0,T0,T0,T0,T0,T0,T0,T0,T0,T0,T0,T0,T0,F0,F0,F0,F0,F0,F0,F0,F0,F0,F0,F0,F0,F0,F0] rfl rfl (any_of HT_.out (by kernel_rfl)) (fun _ _ _ h=>h) (Or.inr ⟨by rfl,rfl⟩) ?_ ?_
       rotate_left
       ·simp only [Act.put,sI,sZ,sS,i64_w,i32_w]
        rfl
       refine pure_ (i:=20) (N:=some 30) (v:=undef) (a':=?_) #[T0,T0,T0,T0,T0,T0,T0,T0,T0,T0,T0,T0,T0,T0,T0,T0,T0,T0,T0,T0,T0,F0,F0,F0,F0,F0,F0,F0,F0,F0,F0,F0,F0,F0] rfl rfl (any_of HT_.out (by kernel_rfl)) (fun _ _ _ h=>h) (Or.inr ⟨by rfl,rfl⟩) ?_ ?_
       rotate_left
       ·simp only [Act.put,sI,sZ,sS,i64_w,i32_w]
        rfl
       refine pure_ (i:=21) (N:=some 31) (v:=undef) (a':=?_) #[T0,T0,T0,T0,T0,T0,T0,T0,T0,T0,T0,T0,T0,T0,T0,T0,T0,T0,T0,T0,T0,T0,F0,F0,F0,F0,F0,F0,F0,F0,F0,F0,F0,F0] rfl rfl (any_of HT_.out (by kernel_rfl)) (fun _ _ _ h=>h) (Or.inr ⟨by rfl,rfl⟩) ?_ ?_
       rotate_left
       ·simp only [Act.put,sI,sZ,sS,i64_w,i32_w]
        rfl
       refine pure_ (i:=22) (N:=some 32) (v:=undef) (a':=?_) #[T0,T0,T0,T0,T0,T0,T0,T0,T0,T0,T0,T0,T0,T0,T0,T0,T0,T0,T0,T0,T0,T0,T0,F0,F0,F0,F0,F0,F0,F0,F0,F0,F0,F0] rfl rfl (any_of HT_.out (by kernel_rfl)) (fun _ _ _ h=>h) (Or.inr ⟨by rfl,rfl⟩) ?_ ?_
       rotate_left
       ·simp only [Act.put,sI,sZ,sS,i64_w,i32_w]
        rfl
       refine pure_ (i:=23) (N:=some 33) (v:=undef) (a':=?_) #[T0,T0,T0,T0,T0,T0,T0,T0,T0,T0,T0,T0,T0,T0,T0,T0,T0,T0,T0,T0,T0,T0,T0,T0,F0,F0,F0,F0,F0,F0,F0,F0,F0,F0] rfl rfl (any_of HT_.out (by kernel_rfl)) (fun _ _ _ h=>h) (Or.inr ⟨by rfl,rfl⟩) ?_ ?_
       rotate_left
       ·simp only [Act.put,sI,sZ,sS,i64_w,i32_w]
        rfl
       refine pure_ (i:=24) (N:=some 34) (v:=undef) (a':=?_) #[T0,T0,T0,T0,T0,T0,T0,T0,T0,T0,T0,T0,T0,T0,T0,T0,T0,T0,T0,T0,T0,T0,T0,T0,T0,F0,F0,F0,F0,F0,F0,F0,F0,F0] rfl rfl (any_of HT_.out (by kernel_rfl)) (fun _ _ _ h=>h) (Or.inr ⟨by rfl,rfl⟩) ?_ ?_
       rotate_left
       ·simp only [Act.put,sI,sZ,sS,i64_w,i32_w]
        rfl
       refine pure_ (i:=25) (N:=some 35) (v:=undef) (a':=?_) #[T0,T0,T0,T0,T0,T0,T0,T0,T0,T0,T0,T0,T0,T0,T0,T0,T0,T0,T0,T0,T0,T0,T0,T0,T0,T0,F0,F0,F0,F0,F0,F0,F0,F0] rfl rfl (any_of HT_.out (by kernel_rfl)) (fun _ _ _ h=>h) (Or.inr ⟨by rfl,rfl⟩) ?_ ?_
       rotate_left
       ·simp only [Act.put,sI,sZ,sS,i64_w,i32_w]
        rfl
       refine pure_ (i:=26) (N:=some 36) (v:=undef) (a':=?_) #[T0,T0,T0,T0,T0,T0,T0,T0,T0,T0,T0,T0,T0,T0,T0,T0,T0,T0,T0,T0,T0,T0,T0,T0,T0,T0,T0,F0,F0,F0,F0,F0,F0,F0] rfl rfl (any_of HT_.out (by kernel_rfl)) (fun _ _ _ h=>h) (Or.inr ⟨by rfl,rfl⟩) ?_ ?_
       rotate_left
       ·simp only [Act.put,sI,sZ,sS,i64_w,i32_w]
        rfl
       refine pure_ (i:=27) (N:=some 37) (v:=undef) (a':=?_) #[T0,T0,T0,T0,T0,T0,T0,T0,T0,T0,T0,T0,T0,T0,T0,T0,T0,T0,T0,T0,T0,T0,T0,T0,T0,T0,T0,T0,F0,F0,F0,F0,F0,F0] rfl rfl (any_of HT_.out (by kernel_rfl)) (fun _ _ _ h=>h) (Or.inr ⟨by rfl,rfl⟩) ?_ ?_
       rotate_left
       ·simp only [Act.put,sI,sZ,sS,i64_w,i32_w]
        rfl
       refine pure_ (i:=28) (N:=some 38) (v:=undef) (a':=?_) #[T0,T0,T0,T0,T0,T0,T0,T0,T0,T0,T0,T0,T0,T0,T0,T0,T0,T0,T0,T0,T0,T0,T0,T0,T0,T0,T0,T0,T0,F0,F0,F0,F0,F0] rfl rfl (any_of HT_.out (by kernel_rfl)) (fun _ _ _ h=>h) (Or.inr ⟨by rfl,rfl⟩) ?_ ?_
       rotate_left
       ·simp only [Act.put,sI,sZ,sS,i64_w,i32_w]
        rfl
       refine pure_ (i:=29) (N:=some 39) (v:=undef) (a':=?_) #[T0,T0,T0,T0,T0,T0,T0,T0,T0,T0,T0,T0,T0,T0,T0,T0,T0,T0,T0,T0,T0,T0,T0,T0,T0,T0,T0,T0,T0,T0,F0,F0,F0,F0] rfl rfl (any_of HT_.out (by kernel_rfl)) (fun _ _ _ h=>h) (Or.inr ⟨by rfl,rfl⟩) ?_ ?_
       rotate_left
       ·simp only [Act.put,sI,sZ,sS,i64_w,i32_w]
        rfl
       refine pure_ (i:=30) (N:=some 40) (v:=undef) (a':=?_) #[T0,T0,T0,T0,T0,T0,T0,T0,T0,T0,T0,T0,T0,T0,T0,T0,T0,T0,T0,T0,T0,T0,T0,T0,T0,T0,T0,T0,T0,T0,T0,F0,F0,F0] rfl rfl (any_of HT_.out (by kernel_rfl)) (fun _ _ _ h=>h) (Or.inr ⟨by rfl,rfl⟩) ?_ ?_
       rotate_left
       ·simp only [Act.put,sI,sZ,sS,i64_w,i32_w]
        rfl
       refine pure_ (i:=31) (N:=some 41) (v:=undef) (a':=?_) #[T0,T0,T0,T0,T0,T0,T0,T0,T0,T0,T0,T0,T0,T0,T0,T0,T0,T0,T0,T0,T0,T0,T0,T0,T0,T0,T0,T0,T0,T0,T0,T0,F0,F0] rfl rfl (any_of HT_.out (by kernel_rfl)) (fun _ _ _ h=>h) (Or.inr ⟨by rfl,rfl⟩) ?_ ?_
       rotate_left
       ·simp only [Act.put,sI,sZ,sS,i64_w,i32_w]
        rfl
       refine pure_ (i:=32) (N:=some 42) (v:=undef) (a':=?_) #[T0,T0,T0,T0,T0,T0,T0,T0,T0,T0,T0,T0,T0,T0,T0,T0,T0,T0,T0,T0,T0,T0,T0,T0,T0,T0,T0,T0,T0,T0,T0,T0,T0,F0] rfl rfl (any_of HT_.out (by kernel_rfl)) (fun _ _ _ h=>h) (Or.inr ⟨by rfl,rfl⟩) ?_ ?_
       rotate_left
       ·simp only [Act.put,sI,sZ,sS,i64_w,i32_w]
        rfl
       refine pure_ (i:=33) (N:=some 43) (v:=?_) (a':=?_) #[T0,T0,T0,T0,T0,T0,T0,T0,T0,T0,T0,T0,T0,T0,T0,T0,T0,T0,T0,T0,T0,T0,T0,T0,T0,T0,T0,T0,T0,T0,T0,T0,T0,T0] rfl rfl (any_of HT_.out (by kernel_rfl)) (fun _ _ _ h=>h) (Or.inl ⟨by rfl,?_⟩) ?_ ?_
       rotate_left
       ·intro w'
        go_simp
        with_reducible rfl
       rotate_left
       ·simp only [Act.put,sI,sZ,sS,i64_w,i32_w]
        rfl
       refine done_ (done_of HT_.out (by kernel_rfl)) ?_
       try go_wp2
       go_meet
       case rel=>exact ⟨_,(true),rsd,H',⟨by have:=HK1.out;first | omega | exact Nat.le_refl _⟩,⟨bel HB⟩⟩
     ·rw [if_neg c4] at H
      exact absurd H (by simp)
    case rest=>
     clear HC3
     try clear p2
     try clear q2
     try clear hx2
     try clear c4
     try clear c6
     try clear c7
     try clear c8
     try clear hx230_0
     try clear hx230_1
     try clear hx232_0
     try clear hx232_1
     try clear p230
     try clear p232
     try clear q230
     try clear q232
     obtain ⟨kq,x43_2,rfl,HA,HJ2,HB⟩:=hcut
     cases kq with
     | zero=>exact absurd HA.out (by simp [spec_l23Good.j1])
     | succ kj2=>
      have H:=HA.out
      clear HA
      simp only [spec_l23Good.j1] at H
      by_cases c17 : x43_2=true
      ·subst c17
       have H1 : (some false)=some r:=by rw [if_pos rfl] at H;exact H
       clear H
       have H:=H1
       clear H1
       obtain rfl:=Option.some.inj H
       go_wp2
       go_ret
       exact ⟨erw0,bel HB⟩
      ·replace c17:=Bool.eq_false_iff.mpr c17
       subst c17
       have H1 : (spec_l23Good.l0 kj2 l0 (wrap64 (x3_1 + 1)))=some r:=by rw [if_neg (show ¬ (false=true) by decide)] at H;exact H
       clear H
       have H:=H1
       clear H1
       have H':=amk H
       clear H
       go_wp2
       go_roundg kj2
       case measure=>have:=HK1.out;have:=HJ2.out;omega
       case rel=>exact ⟨(wrap64 (x3_1 + 1)),rsd,H',⟨by have:=HK1.out;have:=HJ2.out;omega⟩,⟨bel HB⟩⟩
   ·rw [if_neg c2] at H
    have c2b0 : decide (x3_1 < (l0.length : Int))=false:=decide_eq_false c2
    clear c2
    obtain rfl:=Option.some.inj H
    go_wp2
    go_ret
    exact ⟨erw0,bel HB⟩
def spec_l23Within.f (k : Nat) (l0 : List (S30)) (a1 : Int) : Option (Bool):=(spec_l23Good.f k l0).bind fun t236=>(if t236=true then (if (l0.length : Int) > 0 then (if 0 < (l0.length : Int) then (if 0≤(wrap64 ((l0.length : Int) - 1)) then (if (wrap64 ((l0.length : Int) - 1)) < (l0.length : Int) then ((spec_l1In.f a1 ((rd_T30 l0 0).f0) ((rd_T30 l0 (wrap64 ((l0.length : Int) - 1))).f0)).bind fun t239=>(some t239)) else (none)) else (none)) else (none)) else (some false)) else (some false))
theorem spec_l23Within.mono : ∀ a0 a1 k,LeO (spec_l23Within.f k a0 a1) (spec_l23Within.f (k + 1) a0 a1):=by
 intro a0 a1 k
 unfold spec_l23Within.f
 repeat' first
   | (with_reducible exact spec_l23Good.mono _ _)
   | (with_reducible exact LeO.refl _)
   | (with_reducible exact LeO.none _)
   | (with_reducible refine LeO.ite ?_ ?_)
   | (with_reducible refine LeO.bind ?_ (fun _=>?_))
def spec_l23Within.T1 : Bool × List (List Nat × List Nat):=(true,[([],[]),([0],[0]),([1,1],[1]),([2],[2]),([3,2],[2,3]),([4,2],[2,4]),([2,5],[2,5]),([6,2],[6]),([7],[7]),([7],[7]),([9,7],[7,9]),([10,7],[7,10]),([11,7],[7,11]),([7],[7]),([7],[7]),([14,7],[7,14]),([15,7],[7,15]),([13,16,7],[7,13,16]),([17,7],[7,17]),([18,7],[7,18]),([8,12,19,7,7],[7,8,12,19]),([7,20],[7,20]),([21,20,0,1,2,3,4,5,6,7,8,9,10,11,12,13,14,15,16,17,18,19,20,21],[21])])
def spec_l23Within.B1 : List Nat:=[0,1,3,7,15,31,63,127,255,255,767,1791,3839,255,255,16639,49407,123135,254207,516351,1048575,2097151,4194303]
theorem spec_l23Within.tab1 : rtab .any (opsOf Try.f51 1)=spec_l23Within.T1:=by kernel_rfl
theorem spec_l23Within.bits1 : waitsOk spec_l23Within.T1.2 spec_l23Within.B1=true:=by kernel_rfl
set_option maxHeartbeats 8000000 in
set_option maxRecDepth 100000 in
theorem spec_l23Within.calls (k : Nat) (A0 : Option Addr) (c0 : Nat) (l0 : List (S30)) (a1 : Int) (r : Bool) (w : World) (hr0 : Kd.C k30 w A0 l0.length l0) (hc0 : l0.length≤c0) (h : spec_l23Within.f k l0 a1=some r) :
  Calls Try.prog 51 #[.slice A0 l0.length c0,.int .i64 a1] w fun e w'=>e = .returned (.bool r)∧Below w.heap.size w w':=by
 have HR0:=amk hr0
 have HC0:=amk hc0
 clear hr0 hc0
 have HB:=amk (Below.refl w.heap.size w)
 have H : ((spec_l23Good.f k l0).bind fun t236=>(if t236=true then (if (l0.length : Int) > 0 then (if 0 < (l0.length : Int) then (if 0≤(wrap64 ((l0.length : Int) - 1)) then (if (wrap64 ((l0.length : Int) - 1)) < (l0.length : Int) then ((spec_l1In.f a1 ((rd_T30 l0 0).f0) ((rd_T30 l0 (wrap64 ((l0.length : Int) - 1))).f0)).bind fun t239=>(some t239)) else (none)) else (none)) else (none)) else (some false)) else (some false)))=some r:=h
 clear h
 replace H:=obs H
 obtain ⟨t236,A30,H⟩:=H
 replace H : (if t236=true then (if (l0.length : Int) > 0 then (if 0 < (l0.length : Int) then (if 0≤(wrap64 ((l0.length : Int) - 1)) then (if (wrap64 ((l0.length : Int) - 1)) < (l0.length : Int) then ((spec_l1In.f a1 ((rd_T30 l0 0).f0) ((rd_T30 l0 (wrap64 ((l0.length : Int) - 1))).f0)).bind fun t239=>(some t239)) else (none)) else (none)) else (none)) else (some false)) else (some false))=some r:=H
 have A3:=amk A30
 clear A30
 by_cases c4 : t236=true
 ·subst c4
  have H1 : (if (l0.length : Int) > 0 then (if 0 < (l0.length : Int) then (if 0≤(wrap64 ((l0.length : Int) - 1)) then (if (wrap64 ((l0.length : Int) - 1)) < (l0.length : Int) then ((spec_l1In.f a1 ((rd_T30 l0 0).f0) ((rd_T30 l0 (wrap64 ((l0.length : Int) - 1))).f0)).bind fun t239=>(some t239)) else (none)) else (none)) else (none)) else (some false))=some r:=by rw [if_pos rfl] at H;exact H
  clear H
  have H:=H1
  clear H1
  by_cases c5 : (l0.length : Int) > 0
  ·rw [if_pos c5] at H
   have c5b0 : decide (0 < (l0.length : Int))=true:=decide_eq_true c5
   have c5b1 : decide (0 < l0.length)=true:=decide_eq_true (by omega)
   clear c5
   by_cases c6 : 0 < (l0.length : Int)
   ·rw [if_pos c6] at H
    have c6b0 : decide (0 < (l0.length : Int))=true:=decide_eq_true c6
    have c6b1 : decide (0 < l0.length)=true:=decide_eq_true (by omega)
    clear c6
    obtain ⟨ji7,hji7⟩ : ∃ j_ : Int,(wrap64 ((l0.length : Int) - 1))=j_:=⟨_,rfl⟩
    replace H : (if 0≤(ji7) then (if (ji7) < (l0.length : Int) then ((spec_l1In.f a1 ((rd_T30 l0 0).f0) ((rd_T30 l0 (ji7)).f0)).bind fun t239=>(some t239)) else (none)) else (none))=some r:=by first | (rw [hji7] at H;exact H)|(simp only [hji7] at H ⊢;exact H)
    (try rw [hji7] at A3)
    have hji7w : (IntKind.i64.wrap ((l0.length : Int) - 1))=ji7:=(i64_w _).trans hji7
    by_cases c8 : 0≤(ji7)
    ·rw [if_pos c8] at H
     have c8b0 : decide (0≤(ji7))=true:=decide_eq_true c8
     clear c8
     by_cases c9 : (ji7) < (l0.length : Int)
     ·rw [if_pos c9] at H
      have c9b0 : decide ((ji7) < (l0.length : Int))=true:=decide_eq_true c9
      clear c9
      replace H:=obs H
      obtain ⟨t239,A100,H⟩:=H
      replace H : (some t239)=some r:=H
      have A10:=amk A100
      clear A100
      obtain rfl:=Option.some.inj H
      go_enter Try.func51,Try.ntmps51
      try go_wp2
      have n0_:=amk (below_drew1 HB.out)
      clear HB
      have HB:=n0_
      clear n0_
      have p237 : 0≤(0 : Int):=(by omega)
      have q237 : 0 < (l0.length : Int):=of_decide_eq_true ass
      obtain ⟨ad237,e237,hx237_0,hx237_1⟩:=at_T30 HR0.out 0 p237 q237
      have hw237_1:=hx237_1
      (try rw [show ((0 : Int)).toNat=0 from rfl] at hw237_1)
      (try rw [show 0 * 2=0 from rfl] at hw237_1)
      (try rw [Addr.add_zero'] at hw237_1)
      have hw237_0:=hx237_0
      (try rw [show ((0 : Int)).toNat=0 from rfl] at hw237_0)
      (try rw [show 0 * 2=0 from rfl] at hw237_0)
      (try rw [Addr.add_zero'] at hw237_0)
      cases e237
      have qi237 : (0 < l0.length)=True:=eq_true (by omega)
      (try rw [show ((0 : Int)).toNat=0 from rfl] at hx237_0)
      (try rw [show 0 * 2=0 from rfl] at hx237_0)
      (try rw [Addr.add_zero'] at hx237_0)
      (try rw [show ((0 : Int)).toNat=0 from rfl] at hx237_1)
      (try rw [show 0 * 2=0 from rfl] at hx237_1)
      (try rw [Addr.add_zero'] at hx237_1)
      replace hx237_0:=(HB.out.cell (World.block_lt_of_cell? w _ hx237_0)).trans hx237_0
      replace hx237_1:=(HB.out.cell (World.block_lt_of_cell? w _ hx237_1)).trans hx237_1
      replace p237:=eq_true p237
      replace q237:=eq_true q237
      have p238 : 0≤((ji7) : Int):=of_decide_eq_true ass
      have q238 : (ji7) < (l0.length : Int):=of_decide_eq_true ass
      obtain ⟨ad238,e238,hx238_0,hx238_1⟩:=at_T30 HR0.out (ji7) p238 q238
      have hw238_1:=hx238_1
      have hw238_0:=hx238_0
      obtain rfl : ad237=ad238:=(by injection e238)
      replace hx238_0:=(HB.out.cell (World.block_lt_of_cell? w _ hx238_0)).trans hx238_0
      replace hx238_1:=(HB.out.cell (World.block_lt_of_cell? w _ hx238_1)).trans hx238_1
      replace p238:=eq_true p238
      replace q238:=eq_true q238
      refine start_ (n:=23) (S:=fun w'=>w'.cell? ad237=some (.int .i64 ((rd_T30 l0 0).f0))∧w'.cell? ⟨ad237.block,ad237.off + 1,none⟩=some (.int .i64 ((rd_T30 l0 0).f1))∧w'.cell? (ad237.add (((ji7)).toNat * 2))=some (.int .i64 ((rd_T30 l0 (ji7)).f0))∧w'.cell? ⟨(ad237.add (((ji7)).toNat * 2)).block,(ad237.add (((ji7)).toNat * 2)).off + 1,none⟩=some (.int .i64 ((rd_T30 l0 (ji7)).f1))) (ds:=[]) #[F0,F0,F0,F0,F0,F0,F0,F0,F0,F0,F0,F0,F0,F0,F0,F0,F0,F0,F0,F0,F0,F0,F0] (by kernel_rfl) rfl rfl ⟨((HB.out.cell (World.block_lt_of_cell? w _ hw237_0)).trans hw237_0),((HB.out.cell (World.block_lt_of_cell? w _ hw237_1)).trans hw237_1),((HB.out.cell (World.block_lt_of_cell? w _ hw238_0)).trans hw238_0),((HB.out.cell (World.block_lt_of_cell? w _ hw238_1)).trans hw238_1)⟩ (fun hHeld=>?_);refine with_tabW spec_l23Within.tab1 spec_l23Within.bits1 (fun HT_ HW_=>?_)
      generalize w.drew=w11 at HB hx237_0 hx237_1 hx238_0 hx238_1 hHeld ⊢
      refine pure_ (i:=0) (N:=some 5) (v:=?_) (a':=?_) #[T0,F0,F0,F0,F0,F0,F0,F0,F0,F0,F0,F0,F0,F0,F0,F0,F0,F0,F0,F0,F0,F0,F0] rfl rfl (any_of HT_.out (by kernel_rfl)) (fun _ _ _ h=>h) (Or.inl ⟨by rfl,?_⟩) ?_ ?_
      rotate_left
      ·intro w'
       go_simp
       with_reducible rfl
      rotate_left
      ·simp only [Act.put,sI,sZ,sS,i64_w,i32_w]
       rfl
      refine one_ (i:=1) (N:=some 6) #[T0,T0,F0,F0,F0,F0,F0,F0,F0,F0,F0,F0,F0,F0,F0,F0,F0,F0,F0,F0,F0,F0,F0] rfl rfl (one_of HT_.out (by kernel_rfl)) (by decide) (fun K hK=>?_)
      refine goes_ Try.func53 (by kernel_rfl) rfl #[.slice (some ad237) l0.length c0] (by rfl) rfl rfl mtt ?_
      with_reducible refine (spec_l23Good.calls k _ _ l0 true _ ?side1 ?side2 A3.out).mono ?_
      (case side1=>exact ccc (Kd.C_below HR0.out HB.out))
      (case side2=>exact HC0.out)
      rintro e w12 ⟨rfl,hb⟩
      refine ⟨_,rfl,?_⟩
      have n0_:=amk (below_step (bel HB) hb)
      clear HB
      have HB:=n0_
      clear n0_
      (try clear hb)
      (try clear hb2)
      (try clear hk)
      (try clear hi)
      refine hK.out _ _ ⟨((HB.out.cell (World.block_lt_of_cell? w _ hw237_0)).trans hw237_0),((HB.out.cell (World.block_lt_of_cell? w _ hw237_1)).trans hw237_1),((HB.out.cell (World.block_lt_of_cell? w _ hw238_0)).trans hw238_0),((HB.out.cell (World.block_lt_of_cell? w _ hw238_1)).trans hw238_1)⟩ (fun hHeld=>?_)
      clear hK K
      refine norm_ (a':=?_) ?_ ?_
      rotate_left
      ·show Act.put _ (some 6) _=_
       simp only [Act.put,sI,sZ,sS,i64_w,i32_w]
       rfl
      refine pure_ (i:=2) (N:=some 7) (v:=?_) (a':=?_) #[T0,T0,T0,F0,F0,F0,F0,F0,F0,F0,F0,F0,F0,F0,F0,F0,F0,F0,F0,F0,F0,F0,F0] rfl rfl (any_of HT_.out (by kernel_rfl)) (fun _ _ _ h=>h) (Or.inl ⟨by rfl,?_⟩) ?_ ?_
      rotate_left
      ·intro w'
       go_simp
       with_reducible rfl
      rotate_left
      ·simp only [Act.put,sI,sZ,sS,i64_w,i32_w]
       rfl
      refine pure_ (i:=3) (N:=some 8) (v:=?_) (a':=?_) #[T0,T0,T0,T0,F0,F0,F0,F0,F0,F0,F0,F0,F0,F0,F0,F0,F0,F0,F0,F0,F0,F0,F0] rfl rfl (any_of HT_.out (by kernel_rfl)) (fun _ _ _ h=>h) (Or.inl ⟨by rfl,?_⟩) ?_ ?_
      rotate_left
      ·intro w'
       go_simp
       with_reducible rfl
      rotate_left
      ·simp only [Act.put,sI,sZ,sS,i64_w,i32_w]
       rfl
      refine pure_ (i:=4) (N:=some 9) (v:=?_) (a':=?_) #[T0,T0,T0,T0,T0,F0,F0,F0,F0,F0,F0,F0,F0,F0,F0,F0,F0,F0,F0,F0,F0,F0,F0] rfl rfl (any_of HT_.out (by kernel_rfl)) (fun _ _ _ h=>h) (Or.inl ⟨by rfl,?_⟩) ?_ ?_
      rotate_left
      ·intro w'
       go_simp
       with_reducible rfl
      rotate_left
      ·simp only [Act.put,sI,sZ,sS,i64_w,i32_w]
       rfl
      refine pure_ (i:=5) (N:=some 10) (v:=?_) (a':=?_) #[T0,T0,T0,T0,T0,T0,F0,F0,F0,F0,F0,F0,F0,F0,F0,F0,F0,F0,F0,F0,F0,F0,F0] rfl rfl (any_of HT_.out (by kernel_rfl)) (fun _ _ _ h=>h) (Or.inl ⟨by rfl,?_⟩) ?_ ?_
      rotate_left
      ·intro w'
       go_simp
       with_reducible rfl
      rotate_left
      ·simp only [Act.put,sI,sZ,sS,i64_w,i32_w]
       rfl
      refine pure_ (i:=6) (N:=some 11) (v:=?_) (a':=?_) #[T0,T0,T0,T0,T0,T0,T0,F0,F0,F0,F0,F0,F0,F0,F0,F0,F0,F0,F0,F0,F0,F0,F0] rfl rfl (any_of HT_.out (by kernel_rfl)) (fun _ _ _ h=>h) (Or.inl ⟨by rfl,?_⟩) ?_ ?_
      rotate_left
      ·intro w'
       go_simp
       with_reducible rfl
      rotate_left
      ·simp only [Act.put,sI,sZ,sS,i64_w,i32_w]
       rfl
      refine pure_ (i:=7) (N:=some 12) (v:=?_) (a':=?_) #[T0,T0,T0,T0,T0,T0,T0,T0,F0,F0,F0,F0,F0,F0,F0,F0,F0,F0,F0,F0,F0,F0,F0] rfl rfl (any_of HT_.out (by kernel_rfl)) (fun _ _ _ h=>h) (Or.inl ⟨by rfl,?_⟩) ?_ ?_
      rotate_left
      ·intro w'
       go_simp
       with_reducible rfl
      rotate_left
      ·simp only [Act.put,sI,sZ,sS,i64_w,i32_w]
       rfl
      refine pure_ (i:=8) (N:=some 13) (v:=?_) (a':=?_) #[T0,T0,T0,T0,T0,T0,T0,T0,T0,F0,F0,F0,F0,F0,F0,F0,F0,F0,F0,F0,F0,F0,F0] rfl rfl (any_of HT_.out (by kernel_rfl)) (fun _ _ _ h=>h) (Or.inl ⟨by rfl,?_⟩) ?_ ?_
      rotate_left
      ·intro w'
       go_simp
       with_reducible rfl
      rotate_left
      ·simp only [Act.put,sI,sZ,sS,i64_w,i32_w]
       rfl
      refine pure_ (i:=9) (N:=some 14) (v:=?_) (a':=?_) #[T0,T0,T0,T0,T0,T0,T0,T0,T0,T0,F0,F0,F0,F0,F0,F0,F0,F0,F0,F0,F0,F0,F0] rfl rfl (any_of HT_.out (by kernel_rfl)) (fun _ _ _ h=>h) (Or.inl ⟨by rfl,?_⟩) ?_ ?_
      rotate_left
      ·intro w'
       go_simp
       with_reducible rfl
      rotate_left
      ·simp only [Act.put,sI,sZ,sS,i64_w,i32_w]
       rfl
      refine pure_ (i:=10) (N:=some 15) (v:=?_) (a':=?_) #[T0,T0,T0,T0,T0,T0,T0,T0,T0,T0,T0,F0,F0,F0,F0,F0,F0,F0,F0,F0,F0,F0,F0] rfl rfl (any_of HT_.out (by kernel_rfl)) (fun _ _ _ h=>h) (Or.inl ⟨by rfl,?_⟩) ?_ ?_
      rotate_left
      ·intro w'
       go_simp
       with_reducible rfl
      rotate_left
      ·simp only [Act.put,sI,sZ,sS,i64_w,i32_w]
       rfl
      refine pure_ (i:=11) (N:=some 16) (v:=?_) (a':=?_) #[T0,T0,T0,T0,T0,T0,T0,T0,T0,T0,T0,T0,F0,F0,F0,F0,F0,F0,F0,F0,F0,F0,F0] rfl rfl (any_of HT_.out (by kernel_rfl)) (fun _ _ _ h=>h) (Or.inl ⟨by rfl,?_⟩) ?_ ?_
      rotate_left
      ·intro w'
       go_simp
       with_reducible rfl
      rotate_left
      ·simp only [Act.put,sI,sZ,sS,i64_w,i32_w]
       rfl
      refine pure_ (i:=13) (N:=some 18) (v:=?_) (a':=?_) #[T0,T0,T0,T0,T0,T0,T0,T0,T0,T0,T0,T0,F0,T0,F0,F0,F0,F0,F0,F0,F0,F0,F0] rfl rfl (any_of HT_.out (by kernel_rfl)) (fun _ _ _ h=>h) (Or.inl ⟨by rfl,?_⟩) ?_ ?_
      rotate_left
      ·intro w'
       go_simp
       with_reducible rfl
      rotate_left
      ·simp only [Act.put,sI,sZ,sS,i64_w,i32_w]
       rfl
      refine pure_ (i:=14) (N:=some 19) (v:=?_) (a':=?_) #[T0,T0,T0,T0,T0,T0,T0,T0,T0,T0,T0,T0,F0,T0,T0,F0,F0,F0,F0,F0,F0,F0,F0] rfl rfl (any_of HT_.out (by kernel_rfl)) (fun _ _ _ h=>h) (Or.inl ⟨by rfl,?_⟩) ?_ ?_
      rotate_left
      ·intro w'
       go_simp
       with_reducible rfl
      rotate_left
      ·simp only [Act.put,sI,sZ,sS,i64_w,i32_w]
       rfl
      refine pure_ (i:=15) (N:=some 20) (v:=?_) (a':=?_) #[T0,T0,T0,T0,T0,T0,T0,T0,T0,T0,T0,T0,F0,T0,T0,T0,F0,F0,F0,F0,F0,F0,F0] rfl rfl (any_of HT_.out (by kernel_rfl)) (fun _ _ _ h=>h) (Or.inl ⟨by rfl,?_⟩) ?_ ?_
      rotate_left
      ·intro w'
       go_simp
       with_reducible rfl
      rotate_left
      ·simp only [Act.put,sI,sZ,sS,i64_w,i32_w]
       rfl
      refine pure_ (i:=16) (N:=some 21) (v:=?_) (a':=?_) #[T0,T0,T0,T0,T0,T0,T0,T0,T0,T0,T0,T0,F0,T0,T0,T0,T0,F0,F0,F0,F0,F0,F0] rfl rfl (any_of HT_.out (by kernel_rfl)) (fun _ _ _ h=>h) (Or.inl ⟨by rfl,?_⟩) ?_ ?_
      rotate_left
      ·intro w'
       go_simp
       with_reducible rfl
      rotate_left
      ·simp only [Act.put,sI,sZ,sS,i64_w,i32_w]
       rfl
      refine pure_ (i:=17) (N:=some 22) (v:=?_) (a':=?_) #[T0,T0,T0,T0,T0,T0,T0,T0,T0,T0,T0,T0,F0,T0,T0,T0,T0,T0,F0,F0,F0,F0,F0] rfl rfl (any_of HT_.out (by kernel_rfl)) (fun _ _ _ h=>h) (Or.inl ⟨by rfl,?_⟩) ?_ ?_
      rotate_left
      ·intro w'
       go_simp
       with_reducible rfl
      rotate_left
      ·simp only [Act.put,sI,sZ,sS,i64_w,i32_w]
       rfl
      refine pure_ (i:=18) (N:=some 23) (v:=?_) (a':=?_) #[T0,T0,T0,T0,T0,T0,T0,T0,T0,T0,T0,T0,F0,T0,T0,T0,T0,T0,T0,F0,F0,F0,F0] rfl rfl (any_of HT_.out (by kernel_rfl)) (fun _ _ _ h=>h) (Or.inl ⟨by rfl,?_⟩) ?_ ?_
      rotate_left
      ·intro w'
       go_simp
       with_reducible rfl
      rotate_left
      ·simp only [Act.put,sI,sZ,sS,i64_w,i32_w]
       rfl
      refine take_ (i:=12) (N:=some 17) (v:=?_) (a':=?_) #[T0,T0,T0,T0,T0,T0,T0,T0,T0,T0,T0,T0,T0,T0,T0,T0,T0,T0,T0,F0,F0,F0,F0] rfl rfl (take_ofW HT_.out HW_.out (by kernel_rfl)) (fun _ _ _ h=>h) (Or.inl ⟨by rfl,?_⟩) hHeld ?_ ?_
      rotate_left
      ·rintro w' ⟨s0,s1,s2,s3⟩
       go_simp
       with_reducible rfl
      rotate_left
      ·simp only [Act.put,sI,sZ,sS,i64_w,i32_w]
       rfl
      refine take_ (i:=19) (N:=some 24) (v:=?_) (a':=?_) #[T0,T0,T0,T0,T0,T0,T0,T0,T0,T0,T0,T0,T0,T0,T0,T0,T0,T0,T0,T0,F0,F0,F0] rfl rfl (take_ofW HT_.out HW_.out (by kernel_rfl)) (fun _ _ _ h=>h) (Or.inl ⟨by rfl,?_⟩) hHeld ?_ ?_
      rotate_left
      ·rintro w' ⟨s0,s1,s2,s3⟩
       go_simp
       with_reducible rfl
      rotate_left
      ·simp only [Act.put,sI,sZ,sS,i64_w,i32_w]
       rfl
      refine one_ (i:=20) (N:=some 25) #[T0,T0,T0,T0,T0,T0,T0,T0,T0,T0,T0,T0,T0,T0,T0,T0,T0,T0,T0,T0,T0,F0,F0] rfl rfl (one_of HT_.out (by kernel_rfl)) (by decide) (fun K hK=>?_)
      refine goes_ Try.func72 (by kernel_rfl) rfl #[.int .i64 a1,.int .i64 ((rd_T30 l0 0).f0),.int .i64 ((rd_T30 l0 (ji7)).f0)] (by rfl) rfl rfl (by (try simp only [List.map_toArray,List.map_cons,List.map_nil]);first | done | (simp only [hji7];rfl) | rfl | (simp only [List.length_drop,List.length_take];rfl)) ?_
      with_reducible refine (spec_l1In.calls a1 ((rd_T30 l0 0).f0) ((rd_T30 l0 (ji7)).f0) t239 _ A10.out).mono ?_
      rintro e w' ⟨rfl,⟨nd,rfl⟩⟩
      refine ⟨_,rfl,?_⟩
      refine hK.out _ _ ⟨((HB.out.cell (World.block_lt_of_cell? w _ hw237_0)).trans hw237_0),((HB.out.cell (World.block_lt_of_cell? w _ hw237_1)).trans hw237_1),((HB.out.cell (World.block_lt_of_cell? w _ hw238_0)).trans hw238_0),((HB.out.cell (World.block_lt_of_cell? w _ hw238_1)).trans hw238_1)⟩ (fun hHeld=>?_)
      clear hK K
      refine norm_ (a':=?_) ?_ ?_
      rotate_left
      ·show Act.put _ (some 25) _=_
       simp only [Act.put,sI,sZ,sS,i64_w,i32_w]
       rfl
      refine pure_ (i:=21) (N:=some 26) (v:=?_) (a':=?_) #[T0,T0,T0,T0,T0,T0,T0,T0,T0,T0,T0,T0,T0,T0,T0,T0,T0,T0,T0,T0,T0,T0,F0] rfl rfl (any_of HT_.out (by kernel_rfl)) (fun _ _ _ h=>h) (Or.inl ⟨by rfl,?_⟩) ?_ ?_
      rotate_left
      ·intro w'
       go_simp
       with_reducible rfl
      rotate_left
      ·simp only [Act.put,sI,sZ,sS,i64_w,i32_w]
       rfl
      refine pure_ (i:=22) (N:=some 4) (v:=?_) (a':=?_) #[T0,T0,T0,T0,T0,T0,T0,T0,T0,T0,T0,T0,T0,T0,T0,T0,T0,T0,T0,T0,T0,T0,T0] rfl rfl (any_of HT_.out (by kernel_rfl)) (fun _ _ _ h=>h) (Or.inl ⟨by rfl,?_⟩) ?_ ?_
      rotate_left
      ·intro w'
       go_simp
       with_reducible rfl
      rotate_left
      ·simp only [Act.put,sI,sZ,sS,i64_w,i32_w]
       rfl
      refine done_ (done_of HT_.out (by kernel_rfl)) ?_
      try go_wp2
      go_ret
      exact ⟨by first | rfl | (simp [errW_none,errW_some] <;> rfl)|(simp only [← hji7];first | rfl | (simp [errW_none,errW_some] <;> rfl))|(simp [*,errW_none,errW_some] <;> rfl),bel HB⟩
     ·rw [if_neg c9] at H
      exact absurd H (by simp)
    ·rw [if_neg c8] at H
     exact absurd H (by simp)
   ·rw [if_neg c6] at H
    exact absurd H (by simp)
  ·rw [if_neg c5] at H
   have c5b0 : decide (0 < (l0.length : Int))=false:=decide_eq_false c5
   have c5b1 : decide (0 < l0.length)=false:=decide_eq_false (by omega)
   clear c5
   obtain rfl:=Option.some.inj H
   go_enter Try.func51,Try.ntmps51
   try go_wp2
   have n0_:=amk (below_drew1 HB.out)
   clear HB
   have HB:=n0_
   clear n0_
   refine start_ (n:=23) (S:=fun w'=>True) (ds:=[]) #[F0,F0,F0,F0,F0,F0,F0,F0,F0,F0,F0,F0,F0,F0,F0,F0,F0,F0,F0,F0,F0,F0,F0] (by kernel_rfl) rfl rfl trivial (fun hHeld=>?_);refine with_tabW spec_l23Within.tab1 spec_l23Within.bits1 (fun HT_ HW_=>?_)
   generalize w.drew=w13 at HB hHeld ⊢
   refine pure_ (i:=0) (N:=some 5) (v:=?_) (a':=?_) #[T0,F0,F0,F0,F0,F0,F0,F0,F0,F0,F0,F0,F0,F0,F0,F0,F0,F0,F0,F0,F0,F0,F0] rfl rfl (any_of HT_.out (by kernel_rfl)) (fun _ _ _ h=>h) (Or.inl ⟨by rfl,?_⟩) ?_ ?_
   rotate_left
   ·intro w'
    go_simp
    with_reducible rfl
   rotate_left
   ·simp only [Act.put,sI,sZ,sS,i64_w,i32_w]
    rfl
   refine one_ (i:=1) (N:=some 6) #[T0,T0,F0,F0,F0,F0,F0,F0,F0,F0,F0,F0,F0,F0,F0,F0,F0,F0,F0,F0,F0,F0,F0] rfl rfl (one_of HT_.out (by kernel_rfl)) (by decide) (fun K hK=>?_)
   refine goes_ Try.func53 (by kernel_rfl) rfl #[.slice A0 l0.length c0] (by rfl) rfl rfl mtt ?_
   with_reducible refine (spec_l23Good.calls k _ _ l0 true _ ?side1 ?side2 A3.out).mono ?_
   (case side1=>exact ccc (Kd.C_below HR0.out HB.out))
   (case side2=>exact HC0.out)
   rintro e w14 ⟨rfl,hb⟩
   refine ⟨_,rfl,?_⟩
   have n0_:=amk (below_step (bel HB) hb)
   clear HB
   have HB:=n0_
   clear n0_
   (try clear hb)
   (try clear hb2)
   (try clear hk)
   (try clear hi)
   refine hK.out _ _ trivial (fun hHeld=>?_)
   clear hK K
   refine norm_ (a':=?_) ?_ ?_
   rotate_left
   ·show Act.put _ (some 6) _=_
    simp only [Act.put,sI,sZ,sS,i64_w,i32_w]
    rfl
   refine pure_ (i:=2) (N:=some 7) (v:=?_) (a':=?_) #[T0,T0,T0,F0,F0,F0,F0,F0,F0,F0,F0,F0,F0,F0,F0,F0,F0,F0,F0,F0,F0,F0,F0] rfl rfl (any_of HT_.out (by kernel_rfl)) (fun _ _ _ h=>h) (Or.inl ⟨by rfl,?_⟩) ?_ ?_
   rotate_left
   ·intro w'
    go_simp
    with_reducible rfl
   rotate_left
   ·simp only [Act.put,sI,sZ,sS,i64_w,i32_w]
    rfl
   refine pure_ (i:=3) (N:=some 8) (v:=?_) (a':=?_) #[T0,T0,T0,T0,F0,F0,F0,F0,F0,F0,F0,F0,F0,F0,F0,F0,F0,F0,F0,F0,F0,F0,F0] rfl rfl (any_of HT_.out (by kernel_rfl)) (fun _ _ _ h=>h) (Or.inl ⟨by rfl,?_⟩) ?_ ?_
   rotate_left
   ·intro w'
    go_simp
    with_reducible rfl
   rotate_left
   ·simp only [Act.put,sI,sZ,sS,i64_w,i32_w]
    rfl
   refine pure_ (i:=4) (N:=some 9) (v:=?_) (a':=?_) #[T0,T0,T0,T0,T0,F0,F0,F0,F0,F0,F0,F0,F0,F0,F0,F0,F0,F0,F0,F0,F0,F0,F0] rfl rfl (any_of HT_.out (by kernel_rfl)) (fun _ _ _ h=>h) (Or.inl ⟨by rfl,?_⟩) ?_ ?_
   rotate_left
   ·intro w'
    go_simp
    with_reducible rfl
   rotate_left
   ·simp only [Act.put,sI,sZ,sS,i64_w,i32_w]
    rfl
   refine pure_ (i:=5) (N:=some 10) (v:=?_) (a':=?_) #[T0,T0,T0,T0,T0,T0,F0,F0,F0,F0,F0,F0,F0,F0,F0,F0,F0,F0,F0,F0,F0,F0,F0] rfl rfl (any_of HT_.out (by kernel_rfl)) (fun _ _ _ h=>h) (Or.inl ⟨by rfl,?_⟩) ?_ ?_
   rotate_left
   ·intro w'
    go_simp
    with_reducible rfl
   rotate_left
   ·simp only [Act.put,sI,sZ,sS,i64_w,i32_w]
    rfl
   refine pure_ (i:=6) (N:=some 11) (v:=?_) (a':=?_) #[T0,T0,T0,T0,T0,T0,T0,F0,F0,F0,F0,F0,F0,F0,F0,F0,F0,F0,F0,F0,F0,F0,F0] rfl rfl (any_of HT_.out (by kernel_rfl)) (fun _ _ _ h=>h) (Or.inl ⟨by rfl,?_⟩) ?_ ?_
   rotate_left
   ·intro w'
    go_simp
    with_reducible rfl
   rotate_left
   ·simp only [Act.put,sI,sZ,sS,i64_w,i32_w]
    rfl
   refine pure_ (i:=7) (N:=some 12) (v:=?_) (a':=?_) #[T0,T0,T0,T0,T0,T0,T0,T0,F0,F0,F0,F0,F0,F0,F0,F0,F0,F0,F0,F0,F0,F0,F0] rfl rfl (any_of HT_.out (by kernel_rfl)) (fun _ _ _ h=>h) (Or.inl ⟨by rfl,?_⟩) ?_ ?_
   rotate_left
   ·intro w'
    go_simp
    with_reducible rfl
   rotate_left
   ·simp only [Act.put,sI,sZ,sS,i64_w,i32_w]
    rfl
   refine pure_ (i:=8) (N:=some 13) (v:=undef) (a':=?_) #[T0,T0,T0,T0,T0,T0,T0,T0,T0,F0,F0,F0,F0,F0,F0,F0,F0,F0,F0,F0,F0,F0,F0] rfl rfl (any_of HT_.out (by kernel_rfl)) (fun _ _ _ h=>h) (Or.inr ⟨by rfl,rfl⟩) ?_ ?_
   rotate_left
   ·simp only [Act.put,sI,sZ,sS,i64_w,i32_w]
    rfl
   refine pure_ (i:=9) (N:=some 14) (v:=undef) (a':=?_) #[T0,T0,T0,T0,T0,T0,T0,T0,T0,T0,F0,F0,F0,F0,F0,F0,F0,F0,F0,F0,F0,F0,F0] rfl rfl (any_of HT_.out (by kernel_rfl)) (fun _ _ _ h=>h) (Or.inr ⟨by rfl,rfl⟩) ?_ ?_
   rotate_left
   ·simp only [Act.put,sI,sZ,sS,i64_w,i32_w]
    rfl
   refine pure_ (i:=10) (N:=some 15) (v:=undef) (a':=?_) #[T0,T0,T0,T0,T0,T0,T0,T0,T0,T0,T0,F0,F0,F0,F0,F0,F0,F0,F0,F0,F0,F0,F0] rfl rfl (any_of HT_.out (by kernel_rfl)) (fun _ _ _ h=>h) (Or.inr ⟨by rfl,rfl⟩) ?_ ?_
   rotate_left
   ·simp only [Act.put,sI,sZ,sS,i64_w,i32_w]
    rfl
   refine pure_ (i:=11) (N:=some 16) (v:=undef) (a':=?_) #[T0,T0,T0,T0,T0,T0,T0,T0,T0,T0,T0,T0,F0,F0,F0,F0,F0,F0,F0,F0,F0,F0,F0] rfl rfl (any_of HT_.out (by kernel_rfl)) (fun _ _ _ h=>h) (Or.inr ⟨by rfl,rfl⟩) ?_ ?_
   rotate_left
   ·simp only [Act.put,sI,sZ,sS,i64_w,i32_w]
    rfl
   refine pure_ (i:=12) (N:=some 17) (v:=undef) (a':=?_) #[T0,T0,T0,T0,T0,T0,T0,T0,T0,T0,T0,T0,T0,F0,F0,F0,F0,F0,F0,F0,F0,F0,F0] rfl rfl (any_of HT_.out (by kernel_rfl)) (fun _ _ _ h=>h) (Or.inr ⟨by rfl,rfl⟩) ?_ ?_
   rotate_left
   ·simp only [Act.put,sI,sZ,sS,i64_w,i32_w]
    rfl
   refine pure_ (i:=13) (N:=some 18) (v:=undef) (a':=?_) #[T0,T0,T0,T0,T0,T0,T0,T0,T0,T0,T0,T0,T0,T0,F0,F0,F0,F0,F0,F0,F0,F0,F0] rfl rfl (any_of HT_.out (by kernel_rfl)) (fun _ _ _ h=>h) (Or.inr ⟨by rfl,rfl⟩) ?_ ?_
   rotate_left
   ·simp only [Act.put,sI,sZ,sS,i64_w,i32_w]
    rfl
   refine pure_ (i:=14) (N:=some 19) (v:=undef) (a':=?_) #[T0,T0,T0,T0,T0,T0,T0,T0,T0,T0,T0,T0,T0,T0,T0,F0,F0,F0,F0,F0,F0,F0,F0] rfl rfl (any_of HT_.out (by kernel_rfl)) (fun _ _ _ h=>h) (Or.inr ⟨by rfl,rfl⟩) ?_ ?_
   rotate_left
   ·simp only [Act.put,sI,sZ,sS,i64_w,i32_w]
    rfl
   refine pure_ (i:=15) (N:=some 20) (v:=undef) (a':=?_) #[T0,T0,T0,T0,T0,T0,T0,T0,T0,T0,T0,T0,T0,T0,T0,T0,F0,F0,F0,F0,F0,F0,F0] rfl rfl (any_of HT_.out (by kernel_rfl)) (fun _ _ _ h=>h) (Or.inr ⟨by rfl,rfl⟩) ?_ ?_
   rotate_left
   ·simp only [Act.put,sI,sZ,sS,i64_w,i32_w]
    rfl
   refine pure_ (i:=16) (N:=some 21) (v:=undef) (a':=?_) #[T0,T0,T0,T0,T0,T0,T0,T0,T0,T0,T0,T0,T0,T0,T0,T0,T0,F0,F0,F0,F0,F0,F0] rfl rfl (any_of HT_.out (by kernel_rfl)) (fun _ _ _ h=>h) (Or.inr ⟨by rfl,rfl⟩) ?_ ?_
   rotate_left
   ·simp only [Act.put,sI,sZ,sS,i64_w,i32_w]
    rfl
   refine pure_ (i:=17) (N:=some 22) (v:=undef) (a':=?_) #[T0,T0,T0,T0,T0,T0,T0,T0,T0,T0,T0,T0,T0,T0,T0,T0,T0,T0,F0,F0,F0,F0,F0] rfl rfl (any_of HT_.out (by kernel_rfl)) (fun _ _ _ h=>h) (Or.inr ⟨by rfl,rfl⟩) ?_ ?_
   rotate_left
   ·simp only [Act.put,sI,sZ,sS,i64_w,i32_w]
    rfl
   refine pure_ (i:=18) (N:=some 23) (v:=undef) (a':=?_) #[T0,T0,T0,T0,T0,T0,T0,T0,T0,T0,T0,T0,T0,T0,T0,T0,T0,T0,T0,F0,F0,F0,F0] rfl rfl (any_of HT_.out (by kernel_rfl)) (fun _ _ _ h=>h) (Or.inr ⟨by rfl,rfl⟩) ?_ ?_
   rotate_left
   ·simp only [Act.put,sI,sZ,sS,i64_w,i32_w]
    rfl
   refine pure_ (i:=19) (N:=some 24) (v:=undef) (a':=?_) #[T0,T0,T0,T0,T0,T0,T0,T0,T0,T0,T0,T0,T0,T0,T0,T0,T0,T0,T0,T0,F0,F0,F0] rfl rfl (any_of HT_.out (by kernel_rfl)) (fun _ _ _ h=>h) (Or.inr ⟨by rfl,rfl⟩) ?_ ?_
   rotate_left
   ·simp only [Act.put,sI,sZ,sS,i64_w,i32_w]
    rfl
   refine pure_ (i:=20) (N:=some 25) (v:=undef) (a':=?_) #[T0,T0,T0,T0,T0,T0,T0,T0,T0,T0,T0,T0,T0,T0,T0,T0,T0,T0,T0,T0,T0,F0,F0] rfl rfl (any_of HT_.out (by kernel_rfl)) (fun _ _ _ h=>h) (Or.inr ⟨by rfl,rfl⟩) ?_ ?_
   rotate_left
   ·simp only [Act.put,sI,sZ,sS,i64_w,i32_w]
    rfl
   refine pure_ (i:=21) (N:=some 26) (v:=?_) (a':=?_) #[T0,T0,T0,T0,T0,T0,T0,T0,T0,T0,T0,T0,T0,T0,T0,T0,T0,T0,T0,T0,T0,T0,F0] rfl rfl (any_of HT_.out (by kernel_rfl)) (fun _ _ _ h=>h) (Or.inl ⟨by rfl,?_⟩) ?_ ?_
   rotate_left
   ·intro w'
    go_simp
    with_reducible rfl
   rotate_left
   ·simp only [Act.put,sI,sZ,sS,i64_w,i32_w]
    rfl
   refine pure_ (i:=22) (N:=some 4) (v:=?_) (a':=?_) #[T0,T0,T0,T0,T0,T0,T0,T0,T0,T0,T0,T0,T0,T0,T0,T0,T0,T0,T0,T0,T0,T0,T0] rfl rfl (any_of HT_.out (by kernel_rfl)) (fun _ _ _ h=>h) (Or.inl ⟨by rfl,?_⟩) ?_ ?_
   rotate_left
   ·intro w'
    go_simp
    with_reducible rfl
   rotate_left
   ·simp only [Act.put,sI,sZ,sS,i64_w,i32_w]
    rfl
   refine done_ (done_of HT_.out (by kernel_rfl)) ?_
   try go_wp2
   go_ret
   exact ⟨erw0,bel HB⟩
 ·replace c4:=Bool.eq_false_iff.mpr c4
  subst c4
  have H1 : (some false)=some r:=by rw [if_neg (show ¬ (false=true) by decide)] at H;exact H
  clear H
  have H:=H1
  clear H1
  obtain rfl:=Option.some.inj H
  go_enter Try.func51,Try.ntmps51
  try go_wp2
  have n0_:=amk (below_drew1 HB.out)
  clear HB
  have HB:=n0_
  clear n0_
  refine start_ (n:=23) (S:=fun w'=>True) (ds:=[]) #[F0,F0,F0,F0,F0,F0,F0,F0,F0,F0,F0,F0,F0,F0,F0,F0,F0,F0,F0,F0,F0,F0,F0] (by kernel_rfl) rfl rfl trivial (fun hHeld=>?_);refine with_tabW spec_l23Within.tab1 spec_l23Within.bits1 (fun HT_ HW_=>?_)
  generalize w.drew=w15 at HB hHeld ⊢
  refine pure_ (i:=0) (N:=some 5) (v:=?_) (a':=?_) #[T0,F0,F0,F0,F0,F0,F0,F0,F0,F0,F0,F0,F0,F0,F0,F0,F0,F0,F0,F0,F0,F0,F0] rfl rfl (any_of HT_.out (by kernel_rfl)) (fun _ _ _ h=>h) (Or.inl ⟨by rfl,?_⟩) ?_ ?_
  rotate_left
  ·intro w'
   go_simp
   with_reducible rfl
  rotate_left
  ·simp only [Act.put,sI,sZ,sS,i64_w,i32_w]
   rfl
  refine one_ (i:=1) (N:=some 6) #[T0,T0,F0,F0,F0,F0,F0,F0,F0,F0,F0,F0,F0,F0,F0,F0,F0,F0,F0,F0,F0,F0,F0] rfl rfl (one_of HT_.out (by kernel_rfl)) (by decide) (fun K hK=>?_)
  refine goes_ Try.func53 (by kernel_rfl) rfl #[.slice A0 l0.length c0] (by rfl) rfl rfl mtt ?_
  with_reducible refine (spec_l23Good.calls k _ _ l0 false _ ?side1 ?side2 A3.out).mono ?_
  (case side1=>exact ccc (Kd.C_below HR0.out HB.out))
  (case side2=>exact HC0.out)
  rintro e w16 ⟨rfl,hb⟩
  refine ⟨_,rfl,?_⟩
  have n0_:=amk (below_step (bel HB) hb)
  clear HB
  have HB:=n0_
  clear n0_
  (try clear hb)
  (try clear hb2)
  (try clear hk)
  (try clear hi)
  refine hK.out _ _ trivial (fun hHeld=>?_)
  clear hK K
  refine norm_ (a':=?_) ?_ ?_
  rotate_left
  ·show Act.put _ (some 6) _=_
   simp only [Act.put,sI,sZ,sS,i64_w,i32_w]
   rfl
  refine pure_ (i:=2) (N:=some 7) (v:=?_) (a':=?_) #[T0,T0,T0,F0,F0,F0,F0,F0,F0,F0,F0,F0,F0,F0,F0,F0,F0,F0,F0,F0,F0,F0,F0] rfl rfl (any_of HT_.out (by kernel_rfl)) (fun _ _ _ h=>h) (Or.inl ⟨by rfl,?_⟩) ?_ ?_
  rotate_left
  ·intro w'
   go_simp
   with_reducible rfl
  rotate_left
  ·simp only [Act.put,sI,sZ,sS,i64_w,i32_w]
   rfl
  refine pure_ (i:=3) (N:=some 8) (v:=undef) (a':=?_) #[T0,T0,T0,T0,F0,F0,F0,F0,F0,F0,F0,F0,F0,F0,F0,F0,F0,F0,F0,F0,F0,F0,F0] rfl rfl (any_of HT_.out (by kernel_rfl)) (fun _ _ _ h=>h) (Or.inr ⟨by rfl,rfl⟩) ?_ ?_
  rotate_left
  ·simp only [Act.put,sI,sZ,sS,i64_w,i32_w]
   rfl
  refine pure_ (i:=4) (N:=some 9) (v:=undef) (a':=?_) #[T0,T0,T0,T0,T0,F0,F0,F0,F0,F0,F0,F0,F0,F0,F0,F0,F0,F0,F0,F0,F0,F0,F0] rfl rfl (any_of HT_.out (by kernel_rfl)) (fun _ _ _ h=>h) (Or.inr ⟨by rfl,rfl⟩) ?_ ?_
  rotate_left
  ·simp only [Act.put,sI,sZ,sS,i64_w,i32_w]
   rfl
  refine pure_ (i:=5) (N:=some 10) (v:=undef) (a':=?_) #[T0,T0,T0,T0,T0,T0,F0,F0,F0,F0,F0,F0,F0,F0,F0,F0,F0,F0,F0,F0,F0,F0,F0] rfl rfl (any_of HT_.out (by kernel_rfl)) (fun _ _ _ h=>h) (Or.inr ⟨by rfl,rfl⟩) ?_ ?_
  rotate_left
  ·simp only [Act.put,sI,sZ,sS,i64_w,i32_w]
   rfl
  refine pure_ (i:=6) (N:=some 11) (v:=?_) (a':=?_) #[T0,T0,T0,T0,T0,T0,T0,F0,F0,F0,F0,F0,F0,F0,F0,F0,F0,F0,F0,F0,F0,F0,F0] rfl rfl (any_of HT_.out (by kernel_rfl)) (fun _ _ _ h=>h) (Or.inl ⟨by rfl,?_⟩) ?_ ?_
  rotate_left
  ·intro w'
   go_simp
   with_reducible rfl
  rotate_left
  ·simp only [Act.put,sI,sZ,sS,i64_w,i32_w]
   rfl
  refine pure_ (i:=7) (N:=some 12) (v:=?_) (a':=?_) #[T0,T0,T0,T0,T0,T0,T0,T0,F0,F0,F0,F0,F0,F0,F0,F0,F0,F0,F0,F0,F0,F0,F0] rfl rfl (any_of HT_.out (by kernel_rfl)) (fun _ _ _ h=>h) (Or.inl ⟨by rfl,?_⟩) ?_ ?_
  rotate_left
  ·intro w'
   go_simp
   with_reducible rfl
  rotate_left
  ·simp only [Act.put,sI,sZ,sS,i64_w,i32_w]
   rfl
  refine pure_ (i:=8) (N:=some 13) (v:=undef) (a':=?_) #[T0,T0,T0,T0,T0,T0,T0,T0,T0,F0,F0,F0,F0,F0,F0,F0,F0,F0,F0,F0,F0,F0,F0] rfl rfl (any_of HT_.out (by kernel_rfl)) (fun _ _ _ h=>h) (Or.inr ⟨by rfl,rfl⟩) ?_ ?_
  rotate_left
  ·simp only [Act.put,sI,sZ,sS,i64_w,i32_w]
   rfl
  refine pure_ (i:=9) (N:=some 14) (v:=undef) (a':=?_) #[T0,T0,T0,T0,T0,T0,T0,T0,T0,T0,F0,F0,F0,F0,F0,F0,F0,F0,F0,F0,F0,F0,F0] rfl rfl (any_of HT_.out (by kernel_rfl)) (fun _ _ _ h=>h) (Or.inr ⟨by rfl,rfl⟩) ?_ ?_
  rotate_left
  ·simp only [Act.put,sI,sZ,sS,i64_w,i32_w]
   rfl
  refine pure_ (i:=10) (N:=some 15) (v:=undef) (a':=?_) #[T0,T0,T0,T0,T0,T0,T0,T0,T0,T0,T0,F0,F0,F0,F0,F0,F0,F0,F0,F0,F0,F0,F0] rfl rfl (any_of HT_.out (by kernel_rfl)) (fun _ _ _ h=>h) (Or.inr ⟨by rfl,rfl⟩) ?_ ?_
  rotate_left
  ·simp only [Act.put,sI,sZ,sS,i64_w,i32_w]
   rfl
  refine pure_ (i:=11) (N:=some 16) (v:=undef) (a':=?_) #[T0,T0,T0,T0,T0,T0,T0,T0,T0,T0,T0,T0,F0,F0,F0,F0,F0,F0,F0,F0,F0,F0,F0] rfl rfl (any_of HT_.out (by kernel_rfl)) (fun _ _ _ h=>h) (Or.inr ⟨by rfl,rfl⟩) ?_ ?_
  rotate_left
  ·simp only [Act.put,sI,sZ,sS,i64_w,i32_w]
   rfl
  refine pure_ (i:=12) (N:=some 17) (v:=undef) (a':=?_) #[T0,T0,T0,T0,T0,T0,T0,T0,T0,T0,T0,T0,T0,F0,F0,F0,F0,F0,F0,F0,F0,F0,F0] rfl rfl (any_of HT_.out (by kernel_rfl)) (fun _ _ _ h=>h) (Or.inr ⟨by rfl,rfl⟩) ?_ ?_
  rotate_left
  ·simp only [Act.put,sI,sZ,sS,i64_w,i32_w]
   rfl
  refine pure_ (i:=13) (N:=some 18) (v:=undef) (a':=?_) #[T0,T0,T0,T0,T0,T0,T0,T0,T0,T0,T0,T0,T0,T0,F0,F0,F0,F0,F0,F0,F0,F0,F0] rfl rfl (any_of HT_.out (by kernel_rfl)) (fun _ _ _ h=>h) (Or.inr ⟨by rfl,rfl⟩) ?_ ?_
  rotate_left
  ·simp only [Act.put,sI,sZ,sS,i64_w,i32_w]
   rfl
  refine pure_ (i:=14) (N:=some 19) (v:=undef) (a':=?_) #[T0,T0,T0,T0,T0,T0,T0,T0,T0,T0,T0,T0,T0,T0,T0,F0,F0,F0,F0,F0,F0,F0,F0] rfl rfl (any_of HT_.out (by kernel_rfl)) (fun _ _ _ h=>h) (Or.inr ⟨by rfl,rfl⟩) ?_ ?_
  rotate_left
  ·simp only [Act.put,sI,sZ,sS,i64_w,i32_w]
   rfl
  refine pure_ (i:=15) (N:=some 20) (v:=undef) (a':=?_) #[T0,T0,T0,T0,T0,T0,T0,T0,T0,T0,T0,T0,T0,T0,T0,T0,F0,F0,F0,F0,F0,F0,F0] rfl rfl (any_of HT_.out (by kernel_rfl)) (fun _ _ _ h=>h) (Or.inr ⟨by rfl,rfl⟩) ?_ ?_
  rotate_left
  ·simp only [Act.put,sI,sZ,sS,i64_w,i32_w]
   rfl
  refine pure_ (i:=16) (N:=some 21) (v:=undef) (a':=?_) #[T0,T0,T0,T0,T0,T0,T0,T0,T0,T0,T0,T0,T0,T0,T0,T0,T0,F0,F0,F0,F0,F0,F0] rfl rfl (any_of HT_.out (by kernel_rfl)) (fun _ _ _ h=>h) (Or.inr ⟨by rfl,rfl⟩) ?_ ?_
  rotate_left
  ·simp only [Act.put,sI,sZ,sS,i64_w,i32_w]
   rfl
  refine pure_ (i:=17) (N:=some 22) (v:=undef) (a':=?_) #[T0,T0,T0,T0,T0,T0,T0,T0,T0,T0,T0,T0,T0,T0,T0,T0,T0,T0,F0,F0,F0,F0,F0] rfl rfl (any_of HT_.out (by kernel_rfl)) (fun _ _ _ h=>h) (Or.inr ⟨by rfl,rfl⟩) ?_ ?_
  rotate_left
  ·simp only [Act.put,sI,sZ,sS,i64_w,i32_w]
   rfl
  refine pure_ (i:=18) (N:=some 23) (v:=undef) (a':=?_) #[T0,T0,T0,T0,T0,T0,T0,T0,T0,T0,T0,T0,T0,T0,T0,T0,T0,T0,T0,F0,F0,F0,F0] rfl rfl (any_of HT_.out (by kernel_rfl)) (fun _ _ _ h=>h) (Or.inr ⟨by rfl,rfl⟩) ?_ ?_
  rotate_left
  ·simp only [Act.put,sI,sZ,sS,i64_w,i32_w]
   rfl
  refine pure_ (i:=19) (N:=some 24) (v:=undef) (a':=?_) #[T0,T0,T0,T0,T0,T0,T0,T0,T0,T0,T0,T0,T0,T0,T0,T0,T0,T0,T0,T0,F0,F0,F0] rfl rfl (any_of HT_.out (by kernel_rfl)) (fun _ _ _ h=>h) (Or.inr ⟨by rfl,rfl⟩) ?_ ?_
  rotate_left
  ·simp only [Act.put,sI,sZ,sS,i64_w,i32_w]
   rfl
  refine pure_ (i:=20) (N:=some 25) (v:=undef) (a':=?_) #[T0,T0,T0,T0,T0,T0,T0,T0,T0,T0,T0,T0,T0,T0,T0,T0,T0,T0,T0,T0,T0,F0,F0] rfl rfl (any_of HT_.out (by kernel_rfl)) (fun _ _ _ h=>h) (Or.inr ⟨by rfl,rfl⟩) ?_ ?_
  rotate_left
  ·simp only [Act.put,sI,sZ,sS,i64_w,i32_w]
   rfl
  refine pure_ (i:=21) (N:=some 26) (v:=?_) (a':=?_) #[T0,T0,T0,T0,T0,T0,T0,T0,T0,T0,T0,T0,T0,T0,T0,T0,T0,T0,T0,T0,T0,T0,F0] rfl rfl (any_of HT_.out (by kernel_rfl)) (fun _ _ _ h=>h) (Or.inl ⟨by rfl,?_⟩) ?_ ?_
  rotate_left
  ·intro w'
   go_simp
   with_reducible rfl
  rotate_left
  ·simp only [Act.put,sI,sZ,sS,i64_w,i32_w]
   rfl
  refine pure_ (i:=22) (N:=some 4) (v:=?_) (a':=?_) #[T0,T0,T0,T0,T0,T0,T0,T0,T0,T0,T0,T0,T0,T0,T0,T0,T0,T0,T0,T0,T0,T0,T0] rfl rfl (any_of HT_.out (by kernel_rfl)) (fun _ _ _ h=>h) (Or.inl ⟨by rfl,?_⟩) ?_ ?_
  rotate_left
  ·intro w'
   go_simp
   with_reducible rfl
  rotate_left
  ·simp only [Act.put,sI,sZ,sS,i64_w,i32_w]
   rfl
  refine done_ (done_of HT_.out (by kernel_rfl)) ?_
  try go_wp2
  go_ret
  exact ⟨erw0,bel HB⟩
def spec_l4Station.f (a0 : Int) : Option (Bool):=(spec_l1In.f a0 0 7).bind fun t324=>(some t324)
set_option maxHeartbeats 8000000 in
set_option maxRecDepth 100000 in
theorem spec_l4Station.calls (a0 : Int) (r : Bool) (w : World) (h : spec_l4Station.f a0=some r) :
  Calls Try.prog 89 #[.int .i64 a0] w fun e w'=>e = .returned (.bool r)∧Drawn0 w w':=by
 have H : ((spec_l1In.f a0 0 7).bind fun t324=>(some t324))=some r:=h
 clear h
 replace H:=obs H
 obtain ⟨t324,A20,H⟩:=H
 replace H : (some t324)=some r:=H
 have A2:=amk A20
 clear A20
 obtain rfl:=Option.some.inj H
 go_enter Try.func89,Try.ntmps89
 go_wp2_with (first | ((with_reducible refine gate_callee (f:=72) rfl ?_);refine goesL_ (some 4) rfl rfl Try.func72 (by kernel_rfl) rfl #[.int .i64 a0,.int .i64 0,.int .i64 7] rfl mtt ?_;(with_reducible refine (spec_l1In.calls a0 0 7 t324 _ A2.out).mono ?_);rintro e w' ⟨rfl,⟨nd,rfl⟩⟩;refine ⟨_,rfl,?_⟩))
 go_ret
 exact ⟨rsd,by repeat (first | exact Drawn0.refl _ | apply Drawn0.step)⟩
def spec_l23Sump.f (a0_0 : Int) (a0_1 : Int) (a0_2 : Int) : Option (Bool):=(spec_l4Station.f a0_0).bind fun t326=>(if t326=true then ((spec_l23Level.f a0_1).bind fun t327=>(if t327=true then ((spec_l1In.f a0_2 (-500) a0_1).bind fun t328=>(some t328)) else (some false))) else (some false))
set_option maxHeartbeats 8000000 in
set_option maxRecDepth 100000 in
theorem spec_l23Sump.calls (a0_0 : Int) (a0_1 : Int) (a0_2 : Int) (r : Bool) (w : World) (h : spec_l23Sump.f a0_0 a0_1 a0_2=some r) :
  Calls Try.prog 59 #[.agg #[.int .i64 a0_0,.int .i64 a0_1,.int .i64 a0_2]] w fun e w'=>e = .returned (.bool r)∧Below w.heap.size w w':=by
 have hu44:=Try.underlying44
 have HB:=amk (Below.refl w.heap.size w)
 have H : ((spec_l4Station.f a0_0).bind fun t326=>(if t326=true then ((spec_l23Level.f a0_1).bind fun t327=>(if t327=true then ((spec_l1In.f a0_2 (-500) a0_1).bind fun t328=>(some t328)) else (some false))) else (some false)))=some r:=h
 clear h
 replace H:=obs H
 obtain ⟨t326,A20,H⟩:=H
 replace H : (if t326=true then ((spec_l23Level.f a0_1).bind fun t327=>(if t327=true then ((spec_l1In.f a0_2 (-500) a0_1).bind fun t328=>(some t328)) else (some false))) else (some false))=some r:=H
 have A2:=amk A20
 clear A20
 by_cases c3 : t326=true
 ·subst c3
  have H1 : ((spec_l23Level.f a0_1).bind fun t327=>(if t327=true then ((spec_l1In.f a0_2 (-500) a0_1).bind fun t328=>(some t328)) else (some false)))=some r:=by rw [if_pos rfl] at H;exact H
  clear H
  have H:=H1
  clear H1
  replace H:=obs H
  obtain ⟨t327,A40,H⟩:=H
  replace H : (if t327=true then ((spec_l1In.f a0_2 (-500) a0_1).bind fun t328=>(some t328)) else (some false))=some r:=H
  have A4:=amk A40
  clear A40
  by_cases c5 : t327=true
  ·subst c5
   have H1 : ((spec_l1In.f a0_2 (-500) a0_1).bind fun t328=>(some t328))=some r:=by rw [if_pos rfl] at H;exact H
   clear H
   have H:=H1
   clear H1
   replace H:=obs H
   obtain ⟨t328,A60,H⟩:=H
   replace H : (some t328)=some r:=H
   have A6:=amk A60
   clear A60
   obtain rfl:=Option.some.inj H
   go_enter Try.func59,Try.ntmps59
   go_wp2_with (first | ((with_reducible refine gate_dst (N:=1) rfl ?_);refine box_event ?hg (N:=1) ?hd (cs:=#[.int .i64 a0_0,.int .i64 a0_1,.int .i64 a0_2]) (t:=44) ?hr ?_;(case hd=>rfl);(case hg=>rfl);(case hr=>first | (go_simp;done)|(go_simp;rfl));intro gb325 hg w7 hbox hb;have BK325:=amk (hbox);have GW325:=amk ((by rw [hg];exact (below_size (bel HB)) : w.heap.size≤gb325));have GE325:=amk ((by rw [hg];exact (below_size (bel HB)) : w.heap.size≤gb325));replace HB:=amk (below_step (bel HB) hb);clear hb hbox hg;have hcz8_0 : w7.cell? ⟨gb325,0,none⟩=some (.int .i64 a0_0):=(blk_cell BK325.out 0).trans rfl;have hcz8_1 : w7.cell? ⟨gb325,1,none⟩=some (.int .i64 a0_1):=(blk_cell BK325.out 1).trans rfl;have hcz8_2 : w7.cell? ⟨gb325,2,none⟩=some (.int .i64 a0_2):=(blk_cell BK325.out 2).trans rfl;have hfz8_0:=blk_frozen BK325.out 0;have hfz8_1:=blk_frozen BK325.out 1;have hfz8_2:=blk_frozen BK325.out 2)|((with_reducible refine gate_callee (f:=89) rfl ?_);refine goesL_ (some 5) rfl rfl Try.func89 (by kernel_rfl) rfl #[.int .i64 a0_0] rfl mtt ?_;(with_reducible refine (spec_l4Station.calls a0_0 true _ A2.out).mono ?_);rintro e w' ⟨rfl,⟨nd,rfl⟩⟩;refine ⟨_,rfl,?_⟩)|(go_at_call 85;(with_reducible refine (spec_l23Level.calls a0_1 true _ A4.out).mono ?_);rintro e w' ⟨rfl,⟨nd,rfl⟩⟩)|(go_at_call 72;(with_reducible refine (spec_l1In.calls a0_2 (-500) a0_1 t328 _ A6.out).mono ?_);rintro e w' ⟨rfl,⟨nd,rfl⟩⟩))
   go_ret
   exact ⟨erw0,bel1 HB GE325.out⟩
  ·replace c5:=Bool.eq_false_iff.mpr c5
   subst c5
   have H1 : (some false)=some r:=by rw [if_neg (show ¬ (false=true) by decide)] at H;exact H
   clear H
   have H:=H1
   clear H1
   obtain rfl:=Option.some.inj H
   go_enter Try.func59,Try.ntmps59
   go_wp2_with (first | ((with_reducible refine gate_dst (N:=1) rfl ?_);refine box_event ?hg (N:=1) ?hd (cs:=#[.int .i64 a0_0,.int .i64 a0_1,.int .i64 a0_2]) (t:=44) ?hr ?_;(case hd=>rfl);(case hg=>rfl);(case hr=>first | (go_simp;done)|(go_simp;rfl));intro gb325 hg w9 hbox hb;have BK325:=amk (hbox);have GW325:=amk ((by rw [hg];exact (below_size (bel HB)) : w.heap.size≤gb325));have GE325:=amk ((by rw [hg];exact (below_size (bel HB)) : w.heap.size≤gb325));replace HB:=amk (below_step (bel HB) hb);clear hb hbox hg;have hcz10_0 : w9.cell? ⟨gb325,0,none⟩=some (.int .i64 a0_0):=(blk_cell BK325.out 0).trans rfl;have hcz10_1 : w9.cell? ⟨gb325,1,none⟩=some (.int .i64 a0_1):=(blk_cell BK325.out 1).trans rfl;have hcz10_2 : w9.cell? ⟨gb325,2,none⟩=some (.int .i64 a0_2):=(blk_cell BK325.out 2).trans rfl;have hfz10_0:=blk_frozen BK325.out 0;have hfz10_1:=blk_frozen BK325.out 1;have hfz10_2:=blk_frozen BK325.out 2)|((with_reducible refine gate_callee (f:=89) rfl ?_);refine goesL_ (some 5) rfl rfl Try.func89 (by kernel_rfl) rfl #[.int .i64 a0_0] rfl mtt ?_;(with_reducible refine (spec_l4Station.calls a0_0 true _ A2.out).mono ?_);rintro e w' ⟨rfl,⟨nd,rfl⟩⟩;refine ⟨_,rfl,?_⟩)|(go_at_call 85;(with_reducible refine (spec_l23Level.calls a0_1 false _ A4.out).mono ?_);rintro e w' ⟨rfl,⟨nd,rfl⟩⟩))
   go_ret
   exact ⟨erw0,bel1 HB GE325.out⟩
 ·replace c3:=Bool.eq_false_iff.mpr c3
  subst c3
  have H1 : (some false)=some r:=by rw [if_neg (show ¬ (false=true) by decide)] at H;exact H
  clear H
  have H:=H1
  clear H1
  obtain rfl:=Option.some.inj H
  go_enter Try.func59,Try.ntmps59
  go_wp2_with (first | ((with_reducible refine gate_dst (N:=1) rfl ?_);refine box_event ?hg (N:=1) ?hd (cs:=#[.int .i64 a0_0,.int .i64 a0_1,.int .i64 a0_2]) (t:=44) ?hr ?_;(case hd=>rfl);(case hg=>rfl);(case hr=>first | (go_simp;done)|(go_simp;rfl));intro gb325 hg w11 hbox hb;have BK325:=amk (hbox);have GW325:=amk ((by rw [hg];exact (below_size (bel HB)) : w.heap.size≤gb325));have GE325:=amk ((by rw [hg];exact (below_size (bel HB)) : w.heap.size≤gb325));replace HB:=amk (below_step (bel HB) hb);clear hb hbox hg;have hcz12_0 : w11.cell? ⟨gb325,0,none⟩=some (.int .i64 a0_0):=(blk_cell BK325.out 0).trans rfl;have hcz12_1 : w11.cell? ⟨gb325,1,none⟩=some (.int .i64 a0_1):=(blk_cell BK325.out 1).trans rfl;have hcz12_2 : w11.cell? ⟨gb325,2,none⟩=some (.int .i64 a0_2):=(blk_cell BK325.out 2).trans rfl;have hfz12_0:=blk_frozen BK325.out 0;have hfz12_1:=blk_frozen BK325.out 1;have hfz12_2:=blk_frozen BK325.out 2)|((with_reducible refine gate_callee (f:=89) rfl ?_);refine goesL_ (some 5) rfl rfl Try.func89 (by kernel_rfl) rfl #[.int .i64 a0_0] rfl mtt ?_;(with_reducible refine (spec_l4Station.calls a0_0 false _ A2.out).mono ?_);rintro e w' ⟨rfl,⟨nd,rfl⟩⟩;refine ⟨_,rfl,?_⟩))
  go_ret
  exact ⟨erw0,bel1 HB GE325.out⟩
def spec_l23Common.l0 : Nat→Int→Int→Option (Int)
 | 0,_,_=>none
 | k + 1,x0,x1=>if x1 > 0 then (if x1=0 then (none) else (spec_l23Common.l0 k x1 (Int.tmod x0 x1))) else (some x0)
def spec_l23Common.f (k : Nat) (a0 : Int) (a1 : Int) : Option (Int):=spec_l23Common.l0 k a0 a1
theorem spec_l23Common.mono_l : ∀ k,(∀ y0 y1,LeO (spec_l23Common.l0 k y0 y1) (spec_l23Common.l0 (k + 1) y0 y1))
 | 0=>fun _ _ r h=>by simp [spec_l23Common.l0] at h
 | k + 1=>by
  have ih0:=spec_l23Common.mono_l k
  ·intro y0 y1
   unfold spec_l23Common.l0
   repeat' first
   | (with_reducible exact ih0 _ _)
   | (with_reducible exact LeO.refl _)
   | (with_reducible exact LeO.none _)
   | (with_reducible refine LeO.ite ?_ ?_)
   | (with_reducible refine LeO.bind ?_ (fun _=>?_))
   | exact ih0 _ _
theorem spec_l23Common.mono : ∀ a0 a1 k,LeO (spec_l23Common.f k a0 a1) (spec_l23Common.f (k + 1) a0 a1):=by
 intro a0 a1 k
 have ih0:=spec_l23Common.mono_l k
 unfold spec_l23Common.f
 repeat' first
   | (with_reducible exact ih0 _ _)
   | (with_reducible exact LeO.refl _)
   | (with_reducible exact LeO.none _)
   | (with_reducible refine LeO.ite ?_ ?_)
   | (with_reducible refine LeO.bind ?_ (fun _=>?_))
   | exact ih0 _ _
set_option maxHeartbeats 8000000 in
set_option maxRecDepth 100000 in
theorem spec_l23Common.calls (k : Nat) (a0 : Int) (a1 : Int) (r : Int) (w : World) (h : spec_l23Common.f k a0 a1=some r) :
  Calls Try.prog 87 #[.int .i64 a0,.int .i64 a1] w fun e w'=>e = .returned (.int .i64 r)∧Drawn0 w w':=by
 have H : (spec_l23Common.l0 k a0 a1)=some r:=h
 clear h
 have H':=amk H
 clear H
 go_enter Try.func87,Try.ntmps87
 go_wp2
 go_loopg [0,1] k (fun kq v0 v1 w'=>∃ (x0_1 : Int) (x1_1 : Int),v0 = .int .i64 x0_1∧v1 = .int .i64 x1_1∧Aside0 (spec_l23Common.l0 kq x0_1 x1_1=some r)∧Aside0 (kq≤k)∧Drawn0 w w')
 case atStart=>exact ⟨(a0),(a1),rsd,rsd,H',⟨Nat.le_refl _⟩,by repeat (first | exact Drawn0.refl _ | apply Drawn0.step)⟩
 case round=>
  clear H'
  try clear p2
  obtain ⟨x0_1,x1_1,rfl,rfl,HA,HK1,⟨m1,rfl⟩⟩:=hrel
  cases gk with
  | zero=>exact absurd HA.out (by simp [spec_l23Common.l0])
  | succ k1=>
   have H:=HA.out
   clear HA
   simp only [spec_l23Common.l0] at H
   by_cases c3 : x1_1 > 0
   ·rw [if_pos c3] at H
    have c3b0 : decide (0 < x1_1)=true:=decide_eq_true c3
    clear c3
    by_cases c4 : x1_1=0
    ·rw [if_pos c4] at H
     exact absurd H (by simp)
    ·rw [if_neg c4] at H
     have c4b0 : (x1_1 == 0)=false:=beq_eq_false_iff_ne.mpr c4
     have c4b1 : (x1_1 != 0)=true:=bne_iff_ne.mpr c4
     have H':=amk H
     clear H
     go_wp2
     go_roundg k1
     case measure=>have:=HK1.out;omega
     case rel=>exact ⟨(x1_1),(Int.tmod x0_1 x1_1),rsd,rsd,H',⟨by have:=HK1.out;omega⟩,by repeat (first | exact Drawn0.refl _ | apply Drawn0.step)⟩
   ·rw [if_neg c3] at H
    have c3b0 : decide (0 < x1_1)=false:=decide_eq_false c3
    clear c3
    obtain rfl:=Option.some.inj H
    go_wp2
    go_ret
    exact ⟨rsd,by repeat (first | exact Drawn0.refl _ | apply Drawn0.step)⟩
def spec_l1Most.f (a0 : Int) (a1 : Int) : Option (Int):=if a0 > a1 then (some a0) else (some a1)
set_option maxHeartbeats 8000000 in
set_option maxRecDepth 100000 in
theorem spec_l1Most.calls (a0 : Int) (a1 : Int) (r : Int) (w : World) (h : spec_l1Most.f a0 a1=some r) :
  Calls Try.prog 88 #[.int .i64 a0,.int .i64 a1] w fun e w'=>e = .returned (.int .i64 r)∧Drawn0 w w':=by
 have H : (if a0 > a1 then (some a0) else (some a1))=some r:=h
 clear h
 by_cases c3 : a0 > a1
 ·rw [if_pos c3] at H
  have c3b0 : decide (a1 < a0)=true:=decide_eq_true c3
  clear c3
  obtain rfl:=Option.some.inj H
  go_enter Try.func88,Try.ntmps88
  go_wp2
  go_ret
  exact ⟨rsd,by repeat (first | exact Drawn0.refl _ | apply Drawn0.step)⟩
 ·rw [if_neg c3] at H
  have c3b0 : decide (a1 < a0)=false:=decide_eq_false c3
  clear c3
  obtain rfl:=Option.some.inj H
  go_enter Try.func88,Try.ntmps88
  go_wp2
  go_ret
  exact ⟨rsd,by repeat (first | exact Drawn0.refl _ | apply Drawn0.step)⟩
def spec_l23Reduce.f (k : Nat) (a0 : Int) (a1 : Int) : Option (Int × Int):=(spec_l1Most.f a0 (wrap64 (-a0))).bind fun t240=>((spec_l23Common.f k t240 a1).bind fun t241=>(if t241=0 then (none) else (some (wrap64 (Int.tdiv a0 t241),wrap64 (Int.tdiv a1 t241)))))
theorem spec_l23Reduce.mono : ∀ a0 a1 k,LeO (spec_l23Reduce.f k a0 a1) (spec_l23Reduce.f (k + 1) a0 a1):=by
 intro a0 a1 k
 unfold spec_l23Reduce.f
 repeat' first
   | (with_reducible exact spec_l23Common.mono _ _ _)
   | (with_reducible exact LeO.refl _)
   | (with_reducible exact LeO.none _)
   | (with_reducible refine LeO.ite ?_ ?_)
   | (with_reducible refine LeO.bind ?_ (fun _=>?_))
set_option maxHeartbeats 8000000 in
set_option maxRecDepth 100000 in
theorem spec_l23Reduce.calls (k : Nat) (a0 : Int) (a1 : Int) (r1 : Int) (r2 : Int) (w : World) (h : spec_l23Reduce.f k a0 a1=some (r1,r2)) :
  Calls Try.prog 56 #[.int .i64 a0,.int .i64 a1] w fun e w'=>e = .returned (.tuple #[.int .i64 r1,.int .i64 r2])∧Drawn0 w w':=by
 have H : ((spec_l1Most.f a0 (wrap64 (-a0))).bind fun t240=>((spec_l23Common.f k t240 a1).bind fun t241=>(if t241=0 then (none) else (some (wrap64 (Int.tdiv a0 t241),wrap64 (Int.tdiv a1 t241))))))=some (r1,r2):=h
 clear h
 replace H:=obs H
 obtain ⟨t240,A30,H⟩:=H
 replace H : ((spec_l23Common.f k t240 a1).bind fun t241=>(if t241=0 then (none) else (some (wrap64 (Int.tdiv a0 t241),wrap64 (Int.tdiv a1 t241)))))=some (r1,r2):=H
 have A3:=amk A30
 clear A30
 replace H:=obs H
 obtain ⟨t241,A40,H⟩:=H
 replace H : (if t241=0 then (none) else (some (wrap64 (Int.tdiv a0 t241),wrap64 (Int.tdiv a1 t241))))=some (r1,r2):=H
 have A4:=amk A40
 clear A40
 by_cases c5 : t241=0
 ·rw [if_pos c5] at H
  exact absurd H (by simp)
 ·rw [if_neg c5] at H
  have c5b0 : (t241 == 0)=false:=beq_eq_false_iff_ne.mpr c5
  have c5b1 : (t241 != 0)=true:=bne_iff_ne.mpr c5
  simp only [Option.some.injEq,Prod.mk.injEq] at H
  obtain ⟨rfl,rfl⟩:=H
  go_enter Try.func56,Try.ntmps56
  go_wp2_with (first | (go_at_call 88;(with_reducible refine (spec_l1Most.calls a0 (wrap64 (-a0)) t240 _ A3.out).mono ?_);rintro e w' ⟨rfl,⟨nd,rfl⟩⟩;(try exact ddd))|(go_at_call 87;(with_reducible refine (spec_l23Common.calls k t240 a1 t241 _ A4.out).mono ?_);rintro e w' ⟨rfl,⟨nd,rfl⟩⟩;(try exact ddd)))
  repeat (go_quiet (first | (go_at_call 88;(with_reducible refine (spec_l1Most.calls a0 (wrap64 (-a0)) t240 _ A3.out).mono ?_);rintro e w' ⟨rfl,⟨nd,rfl⟩⟩;(try exact ddd))|(go_at_call 87;(with_reducible refine (spec_l23Common.calls k t240 a1 t241 _ A4.out).mono ?_);rintro e w' ⟨rfl,⟨nd,rfl⟩⟩;(try exact ddd)));try go_wp2_with (first | (go_at_call 88;(with_reducible refine (spec_l1Most.calls a0 (wrap64 (-a0)) t240 _ A3.out).mono ?_);rintro e w' ⟨rfl,⟨nd,rfl⟩⟩;(try exact ddd))|(go_at_call 87;(with_reducible refine (spec_l23Common.calls k t240 a1 t241 _ A4.out).mono ?_);rintro e w' ⟨rfl,⟨nd,rfl⟩⟩;(try exact ddd))))
  go_ret2
  exact ⟨rsd,by repeat (first | exact Drawn0.refl _ | apply Drawn0.step)⟩
def spec_l23In.l0 : Nat→List (S30)→Int→Int→Option (Int × Int)
 | 0,_,_,_=>none
 | k + 1,x0,x1,x6=>if 0≤x6 then (if x6 < (x0.length : Int) then (if ((rd_T30 x0 x6).f0) < x1 then (spec_l23In.l0 k x0 x1 (wrap64 (x6 + 1))) else (if ((rd_T30 x0 x6).f0)=x1 then (some ((rd_T30 x0 x6).f1,1)) else (if 0≤(wrap64 (x6 - 1)) then (if (wrap64 (x6 - 1)) < (x0.length : Int) then ((spec_l23Reduce.f k (wrap64 ((wrap64 (((rd_T30 x0 (wrap64 (x6 - 1))).f1) * (wrap64 (((rd_T30 x0 x6).f0) - x1)))) + (wrap64 (((rd_T30 x0 x6).f1) * (wrap64 (x1 - ((rd_T30 x0 (wrap64 (x6 - 1))).f0))))))) (wrap64 (((rd_T30 x0 x6).f0) - ((rd_T30 x0 (wrap64 (x6 - 1))).f0)))).bind fun bt249=>(some (bt249.1,bt249.2))) else (none)) else (none)))) else (none)) else (none)
def spec_l23In.f (k : Nat) (l0 : List (S30)) (a1 : Int) : Option (Int × Int):=spec_l23In.l0 k l0 a1 0
theorem spec_l23In.mono_l : ∀ k,(∀ y0 y1 y2,LeO (spec_l23In.l0 k y0 y1 y2) (spec_l23In.l0 (k + 1) y0 y1 y2))
 | 0=>fun _ _ _ r h=>by simp [spec_l23In.l0] at h
 | k + 1=>by
  have ih0:=spec_l23In.mono_l k
  ·intro y0 y1 y2
   unfold spec_l23In.l0
   repeat' first
   | (with_reducible exact ih0 _ _ _)
   | (with_reducible exact spec_l23Reduce.mono _ _ _)
   | (with_reducible exact LeO.refl _)
   | (with_reducible exact LeO.none _)
   | (with_reducible refine LeO.ite ?_ ?_)
   | (with_reducible refine LeO.bind ?_ (fun _=>?_))
   | exact ih0 _ _ _
theorem spec_l23In.mono : ∀ a0 a1 k,LeO (spec_l23In.f k a0 a1) (spec_l23In.f (k + 1) a0 a1):=by
 intro a0 a1 k
 have ih0:=spec_l23In.mono_l k
 unfold spec_l23In.f
 repeat' first
   | (with_reducible exact ih0 _ _ _)
   | (with_reducible exact spec_l23Reduce.mono _ _ _)
   | (with_reducible exact LeO.refl _)
   | (with_reducible exact LeO.none _)
   | (with_reducible refine LeO.ite ?_ ?_)
   | (with_reducible refine LeO.bind ?_ (fun _=>?_))
   | exact ih0 _ _ _
def spec_l23In.T6 : Bool × List (List Nat × List Nat):=(true,[([],[]),([],[]),([1],[1]),([0,2],[0,2]),([3],[3]),([],[]),([],[]),([5,6],[5,6]),([7],[7]),([],[]),([],[]),([9,4,0,1,2,3,4,9,10],[4,9]),([10,8,11,0,1,2,3,4,5,6,7,8,9,10,11],[8,10])])
def spec_l23In.B6 : List Nat:=[0,0,2,7,15,0,0,96,224,0,0,1567,4095]
theorem spec_l23In.tab6 : rtab .any (opsOf Try.f52 6)=spec_l23In.T6:=by kernel_rfl
theorem spec_l23In.bits6 : waitsOk spec_l23In.T6.2 spec_l23In.B6=true:=by kernel_rfl
set_option maxHeartbeats 8000000 in
set_option maxRecDepth 100000 in
theorem spec_l23In.calls (k : Nat) (A0 : Option Addr) (c0 : Nat) (l0 : List (S30)) (a1 : Int) (r1 : Int) (r2 : Int) (w : World) (hr0 : Kd.C k30 w A0 l0.length l0) (hc0 : l0.length≤c0) (h : spec_l23In.f k l0 a1=some (r1,r2)) :
  Calls Try.prog 52 #[.slice A0 l0.length c0,.int .i64 a1] w fun e w'=>e = .returned (.tuple #[.int .i64 r1,.int .i64 r2])∧Below w.heap.size w w':=by
 have hu30:=Try.underlying30
 have HR0:=amk hr0
 have HC0:=amk hc0
 clear hr0 hc0
 have HB:=amk (Below.refl w.heap.size w)
 have H : (spec_l23In.l0 k l0 a1 0)=some (r1,r2):=h
 clear h
 have H':=amk H
 clear H
 go_enter Try.func52,Try.ntmps52
 go_wp2
 go_loopg [6] k (fun kq v6 w'=>∃ (x6_1 : Int),v6 = .int .i64 x6_1∧Aside0 (spec_l23In.l0 kq l0 a1 x6_1=some (r1,r2))∧Aside0 (kq≤k)∧Aside0 (Below w.heap.size w w'))
 case atStart=>exact ⟨(0),rsd,H',⟨Nat.le_refl _⟩,⟨bel HB⟩⟩
 case round=>
  clear H'
  try clear p2
  obtain ⟨x6_1,rfl,HA,HK1,HB⟩:=hrel
  cases gk with
  | zero=>exact absurd HA.out (by simp [spec_l23In.l0])
  | succ k1=>
   have H:=HA.out
   clear HA
   simp only [spec_l23In.l0] at H
   by_cases c3 : 0≤x6_1
   ·rw [if_pos c3] at H
    have c3b0 : decide (0≤x6_1)=true:=decide_eq_true c3
    clear c3
    by_cases c4 : x6_1 < (l0.length : Int)
    ·rw [if_pos c4] at H
     have c4b0 : decide (x6_1 < (l0.length : Int))=true:=decide_eq_true c4
     clear c4
     by_cases c5 : ((rd_T30 l0 x6_1).f0) < a1
     ·rw [if_pos c5] at H
      have c5b0 : decide (((rd_T30 l0 x6_1).f0) < a1)=true:=decide_eq_true c5
      clear c5
      have H':=amk H
      clear H
      have p242 : 0≤(x6_1 : Int):=of_decide_eq_true ass
      have q242 : x6_1 < (l0.length : Int):=of_decide_eq_true ass
      obtain ⟨ad242,e242,hx242_0,hx242_1⟩:=at_T30 HR0.out x6_1 p242 q242
      cases e242
      replace hx242_0:=(HB.out.cell (World.block_lt_of_cell? w _ hx242_0)).trans hx242_0
      replace hx242_1:=(HB.out.cell (World.block_lt_of_cell? w _ hx242_1)).trans hx242_1
      replace p242:=eq_true p242
      replace q242:=eq_true q242
      go_wp2
      go_roundg k1
      case measure=>have:=HK1.out;omega
      case rel=>exact ⟨(wrap64 (x6_1 + 1)),rsd,H',⟨by have:=HK1.out;omega⟩,⟨bel HB⟩⟩
     ·rw [if_neg c5] at H
      have c5b0 : decide (((rd_T30 l0 x6_1).f0) < a1)=false:=decide_eq_false c5
      clear c5
      by_cases c6 : ((rd_T30 l0 x6_1).f0)=a1
      ·rw [if_pos c6] at H
       have c6b0 : (((rd_T30 l0 x6_1).f0) == a1)=true:=beq_iff_eq.mpr c6
       have c6b1 : (((rd_T30 l0 x6_1).f0) != a1)=false:=bne_eq_false_iff_eq.mpr c6
       clear c6
       simp only [Option.some.injEq,Prod.mk.injEq] at H
       obtain ⟨rfl,rfl⟩:=H
       have p242 : 0≤(x6_1 : Int):=of_decide_eq_true ass
       have q242 : x6_1 < (l0.length : Int):=of_decide_eq_true ass
       obtain ⟨ad242,e242,hx242_0,hx242_1⟩:=at_T30 HR0.out x6_1 p242 q242
       cases e242
       replace hx242_0:=(HB.out.cell (World.block_lt_of_cell? w _ hx242_0)).trans hx242_0
       replace hx242_1:=(HB.out.cell (World.block_lt_of_cell? w _ hx242_1)).trans hx242_1
       replace p242:=eq_true p242
       replace q242:=eq_true q242
       have p243 : 0≤(x6_1 : Int):=of_decide_eq_true ass
       have q243 : x6_1 < (l0.length : Int):=of_decide_eq_true ass
       obtain ⟨ad243,e243,hx243_0,hx243_1⟩:=at_T30 HR0.out x6_1 p243 q243
       obtain rfl : ad242=ad243:=(by injection e243)
       replace hx243_0:=(HB.out.cell (World.block_lt_of_cell? w _ hx243_0)).trans hx243_0
       replace hx243_1:=(HB.out.cell (World.block_lt_of_cell? w _ hx243_1)).trans hx243_1
       replace p243:=eq_true p243
       replace q243:=eq_true q243
       have p244 : 0≤(x6_1 : Int):=of_decide_eq_true ass
       have q244 : x6_1 < (l0.length : Int):=of_decide_eq_true ass
       obtain ⟨ad244,e244,hx244_0,hx244_1⟩:=at_T30 HR0.out x6_1 p244 q244
       obtain rfl : ad242=ad244:=(by injection e244)
       replace hx244_0:=(HB.out.cell (World.block_lt_of_cell? w _ hx244_0)).trans hx244_0
       replace hx244_1:=(HB.out.cell (World.block_lt_of_cell? w _ hx244_1)).trans hx244_1
       replace p244:=eq_true p244
       replace q244:=eq_true q244
       go_wp2
       go_ret2
       exact ⟨erw0,bel HB⟩
      ·rw [if_neg c6] at H
       have c6b0 : (((rd_T30 l0 x6_1).f0) == a1)=false:=beq_eq_false_iff_ne.mpr c6
       have c6b1 : (((rd_T30 l0 x6_1).f0) != a1)=true:=bne_iff_ne.mpr c6
       obtain ⟨ji7,hji7⟩ : ∃ j_ : Int,(wrap64 (x6_1 - 1))=j_:=⟨_,rfl⟩
       replace H : (if 0≤(ji7) then (if (ji7) < (l0.length : Int) then ((spec_l23Reduce.f k1 (wrap64 ((wrap64 (((rd_T30 l0 (ji7)).f1) * (wrap64 (((rd_T30 l0 x6_1).f0) - a1)))) + (wrap64 (((rd_T30 l0 x6_1).f1) * (wrap64 (a1 - ((rd_T30 l0 (ji7)).f0))))))) (wrap64 (((rd_T30 l0 x6_1).f0) - ((rd_T30 l0 (ji7)).f0)))).bind fun bt249=>(some (bt249.1,bt249.2))) else (none)) else (none))=some (r1,r2):=by first | (rw [hji7] at H;exact H)|(simp only [hji7] at H ⊢;exact H)
       have hji7w : (IntKind.i64.wrap (x6_1 - 1))=ji7:=(i64_w _).trans hji7
       by_cases c8 : 0≤(ji7)
       ·rw [if_pos c8] at H
        have c8b0 : decide (0≤(ji7))=true:=decide_eq_true c8
        clear c8
        by_cases c9 : (ji7) < (l0.length : Int)
        ·rw [if_pos c9] at H
         have c9b0 : decide ((ji7) < (l0.length : Int))=true:=decide_eq_true c9
         clear c9
         replace H:=obs H
         obtain ⟨⟨t249,t250⟩,A100,H⟩:=H
         replace H : (some (t249,t250))=some (r1,r2):=H
         have A10:=amk A100
         clear A100
         simp only [Option.some.injEq,Prod.mk.injEq] at H
         obtain ⟨rfl,rfl⟩:=H
         have p242 : 0≤(x6_1 : Int):=of_decide_eq_true ass
         have q242 : x6_1 < (l0.length : Int):=of_decide_eq_true ass
         obtain ⟨ad242,e242,hx242_0,hx242_1⟩:=at_T30 HR0.out x6_1 p242 q242
         cases e242
         replace hx242_0:=(HB.out.cell (World.block_lt_of_cell? w _ hx242_0)).trans hx242_0
         replace hx242_1:=(HB.out.cell (World.block_lt_of_cell? w _ hx242_1)).trans hx242_1
         replace p242:=eq_true p242
         replace q242:=eq_true q242
         have p243 : 0≤(x6_1 : Int):=of_decide_eq_true ass
         have q243 : x6_1 < (l0.length : Int):=of_decide_eq_true ass
         obtain ⟨ad243,e243,hx243_0,hx243_1⟩:=at_T30 HR0.out x6_1 p243 q243
         obtain rfl : ad242=ad243:=(by injection e243)
         replace hx243_0:=(HB.out.cell (World.block_lt_of_cell? w _ hx243_0)).trans hx243_0
         replace hx243_1:=(HB.out.cell (World.block_lt_of_cell? w _ hx243_1)).trans hx243_1
         replace p243:=eq_true p243
         replace q243:=eq_true q243
         try go_wp2
         have n0_:=amk (below_drew1 HB.out)
         clear HB
         have HB:=n0_
         clear n0_
         have p245 : 0≤((ji7) : Int):=of_decide_eq_true ass
         have q245 : (ji7) < (l0.length : Int):=of_decide_eq_true ass
         obtain ⟨ad245,e245,hx245_0,hx245_1⟩:=at_T30 HR0.out (ji7) p245 q245
         have hw245_1:=hx245_1
         have hw245_0:=hx245_0
         obtain rfl : ad242=ad245:=(by injection e245)
         replace hx245_0:=(HB.out.cell (World.block_lt_of_cell? w _ hx245_0)).trans hx245_0
         replace hx245_1:=(HB.out.cell (World.block_lt_of_cell? w _ hx245_1)).trans hx245_1
         replace p245:=eq_true p245
         replace q245:=eq_true q245
         have p246 : 0≤(x6_1 : Int):=of_decide_eq_true ass
         have q246 : x6_1 < (l0.length : Int):=of_decide_eq_true ass
         obtain ⟨ad246,e246,hx246_0,hx246_1⟩:=at_T30 HR0.out x6_1 p246 q246
         have hw246_1:=hx246_1
         have hw246_0:=hx246_0
         obtain rfl : ad242=ad246:=(by injection e246)
         replace hx246_0:=(HB.out.cell (World.block_lt_of_cell? w _ hx246_0)).trans hx246_0
         replace hx246_1:=(HB.out.cell (World.block_lt_of_cell? w _ hx246_1)).trans hx246_1
         replace p246:=eq_true p246
         replace q246:=eq_true q246
         refine start_ (n:=13) (S:=fun w'=>w'.cell? (ad242.add (((ji7)).toNat * 2))=some (.int .i64 ((rd_T30 l0 (ji7)).f0))∧w'.cell? ⟨(ad242.add (((ji7)).toNat * 2)).block,(ad242.add (((ji7)).toNat * 2)).off + 1,none⟩=some (.int .i64 ((rd_T30 l0 (ji7)).f1))∧w'.cell? (ad242.add ((x6_1).toNat * 2))=some (.int .i64 ((rd_T30 l0 x6_1).f0))∧w'.cell? ⟨(ad242.add ((x6_1).toNat * 2)).block,(ad242.add ((x6_1).toNat * 2)).off + 1,none⟩=some (.int .i64 ((rd_T30 l0 x6_1).f1))) (ds:=[]) #[F0,F0,F0,F0,F0,F0,F0,F0,F0,F0,F0,F0,F0] (by kernel_rfl) rfl rfl ⟨((HB.out.cell (World.block_lt_of_cell? w _ hw245_0)).trans hw245_0),((HB.out.cell (World.block_lt_of_cell? w _ hw245_1)).trans hw245_1),((HB.out.cell (World.block_lt_of_cell? w _ hw246_0)).trans hw246_0),((HB.out.cell (World.block_lt_of_cell? w _ hw246_1)).trans hw246_1)⟩ (fun hHeld=>?_);refine with_tabW spec_l23In.tab6 spec_l23In.bits6 (fun HT_ HW_=>?_)
         generalize wr.drew=w11 at HB hx245_0 hx245_1 hx246_0 hx246_1 hHeld ⊢
         refine pure_ (i:=0) (N:=some 32) (v:=?_) (a':=?_) #[T0,F0,F0,F0,F0,F0,F0,F0,F0,F0,F0,F0,F0] rfl rfl (any_of HT_.out (by kernel_rfl)) (fun _ _ _ h=>h) (Or.inl ⟨by rfl,?_⟩) ?_ ?_
         rotate_left
         ·intro w'
          go_simp
          with_reducible rfl
         rotate_left
         ·simp only [Act.put,sI,sZ,sS,i64_w,i32_w]
          rfl
         refine pure_ (i:=1) (N:=some 33) (v:=?_) (a':=?_) #[T0,T0,F0,F0,F0,F0,F0,F0,F0,F0,F0,F0,F0] rfl rfl (any_of HT_.out (by kernel_rfl)) (fun _ _ _ h=>h) (Or.inl ⟨by rfl,?_⟩) ?_ ?_
         rotate_left
         ·intro w'
          go_simp
          with_reducible rfl
         rotate_left
         ·simp only [Act.put,sI,sZ,sS,i64_w,i32_w]
          rfl
         refine pure_ (i:=2) (N:=some 34) (v:=?_) (a':=?_) #[T0,T0,T0,F0,F0,F0,F0,F0,F0,F0,F0,F0,F0] rfl rfl (any_of HT_.out (by kernel_rfl)) (fun _ _ _ h=>h) (Or.inl ⟨by rfl,?_⟩) ?_ ?_
         rotate_left
         ·intro w'
          go_simp
          with_reducible rfl
         rotate_left
         ·simp only [Act.put,sI,sZ,sS,i64_w,i32_w]
          rfl
         refine pure_ (i:=3) (N:=some 35) (v:=?_) (a':=?_) #[T0,T0,T0,T0,F0,F0,F0,F0,F0,F0,F0,F0,F0] rfl rfl (any_of HT_.out (by kernel_rfl)) (fun _ _ _ h=>h) (Or.inl ⟨by rfl,?_⟩) ?_ ?_
         rotate_left
         ·intro w'
          go_simp
          with_reducible rfl
         rotate_left
         ·simp only [Act.put,sI,sZ,sS,i64_w,i32_w]
          rfl
         refine pure_ (i:=5) (N:=some 37) (v:=?_) (a':=?_) #[T0,T0,T0,T0,F0,T0,F0,F0,F0,F0,F0,F0,F0] rfl rfl (any_of HT_.out (by kernel_rfl)) (fun _ _ _ h=>h) (Or.inl ⟨by rfl,?_⟩) ?_ ?_
         rotate_left
         ·intro w'
          go_simp
          with_reducible rfl
         rotate_left
         ·simp only [Act.put,sI,sZ,sS,i64_w,i32_w]
          rfl
         refine pure_ (i:=6) (N:=some 38) (v:=?_) (a':=?_) #[T0,T0,T0,T0,F0,T0,T0,F0,F0,F0,F0,F0,F0] rfl rfl (any_of HT_.out (by kernel_rfl)) (fun _ _ _ h=>h) (Or.inl ⟨by rfl,?_⟩) ?_ ?_
         rotate_left
         ·intro w'
          go_simp
          with_reducible rfl
         rotate_left
         ·simp only [Act.put,sI,sZ,sS,i64_w,i32_w]
          rfl
         refine pure_ (i:=7) (N:=some 39) (v:=?_) (a':=?_) #[T0,T0,T0,T0,F0,T0,T0,T0,F0,F0,F0,F0,F0] rfl rfl (any_of HT_.out (by kernel_rfl)) (fun _ _ _ h=>h) (Or.inl ⟨by rfl,?_⟩) ?_ ?_
         rotate_left
         ·intro w'
          go_simp
          with_reducible rfl
         rotate_left
         ·simp only [Act.put,sI,sZ,sS,i64_w,i32_w]
          rfl
         refine take_ (i:=4) (N:=some 36) (v:=?_) (a':=?_) #[T0,T0,T0,T0,T0,T0,T0,T0,F0,F0,F0,F0,F0] rfl rfl (take_ofW HT_.out HW_.out (by kernel_rfl)) (fun _ _ _ h=>h) (Or.inl ⟨by rfl,?_⟩) hHeld ?_ ?_
         rotate_left
         ·rintro w' ⟨s0,s1,s2,s3⟩
          go_simp
          with_reducible rfl
         rotate_left
         ·simp only [Act.put,sI,sZ,sS,i64_w,i32_w]
          rfl
         refine take_ (i:=8) (N:=some 40) (v:=?_) (a':=?_) #[T0,T0,T0,T0,T0,T0,T0,T0,T0,F0,F0,F0,F0] rfl rfl (take_ofW HT_.out HW_.out (by kernel_rfl)) (fun _ _ _ h=>h) (Or.inl ⟨by rfl,?_⟩) hHeld ?_ ?_
         rotate_left
         ·rintro w' ⟨s0,s1,s2,s3⟩
          go_simp
          with_reducible rfl
         rotate_left
         ·simp only [Act.put,sI,sZ,sS,i64_w,i32_w]
          rfl
         refine join_ (σ:=Nat × Nat) 2 #[T0,T0,T0,T0,T0,T0,T0,T0,T0,T0,T0,F0,F0] (fun s_=>[(7,.pointer (some ⟨s_.1,0,none⟩)),(8,.pointer (some ⟨s_.2,0,none⟩))]) (fun s_ w'=>(w'.cell? (ad242.add (((ji7)).toNat * 2))=some (.int .i64 ((rd_T30 l0 (ji7)).f0))∧w'.cell? ⟨(ad242.add (((ji7)).toNat * 2)).block,(ad242.add (((ji7)).toNat * 2)).off + 1,none⟩=some (.int .i64 ((rd_T30 l0 (ji7)).f1))∧w'.cell? (ad242.add ((x6_1).toNat * 2))=some (.int .i64 ((rd_T30 l0 x6_1).f0))∧w'.cell? ⟨(ad242.add ((x6_1).toNat * 2)).block,(ad242.add ((x6_1).toNat * 2)).off + 1,none⟩=some (.int .i64 ((rd_T30 l0 x6_1).f1)))∧(w'.heap[s_.1]? = some (.cells #[.int .i64 0,.int .i64 0] 30 (0,0)))∧(w'.heap[s_.2]? = some (.cells #[.int .i64 0,.int .i64 0] 30 (0,0)))∧(w.heap.size≤s_.1)∧(w.heap.size≤s_.1)∧(s_.2 ≠ s_.1)∧(s_.1 ≠ s_.2)∧(w.heap.size≤s_.2)∧(w.heap.size≤s_.2)∧(Below w.heap.size w w')) ?_ ?_
         rotate_left
         ·intro hCont
          refine two_ (i:=9) (j:=10) (Ni:=some 7) (Nj:=some 8) #[T0,T0,T0,T0,T0,T0,T0,T0,T0,T0,F0,F0,F0] #[T0,T0,T0,T0,T0,T0,T0,T0,T0,F0,T0,F0,F0] rfl rfl rfl rfl (two_of HT_.out (by kernel_rfl)) (by decide) (by decide) (fun K hK=>?_) (fun K hK=>?_)
          ·skip
           refine box_step ?hg (N:=7) ?hd (cs:=#[.int .i64 0,.int .i64 0]) (t:=30) ?hr ?_;(case hd=>rfl);(case hg=>rfl);(case hr=>first | (go_simp;done)|(go_simp;rfl))
           intro gb247 hg w12 hbox hb
           have n0_:=amk (below_step (bel HB) hb)
           have n1_:=amk (hbox)
           have n2_:=amk ((by rw [hg];exact (below_size (bel HB)) : w.heap.size≤gb247))
           have n3_:=amk ((by rw [hg];exact (below_size (bel HB)) : w.heap.size≤gb247))
           clear HB
           have HB:=n0_
           have BK247:=n1_
           have GW247:=n2_
           have GE247:=n3_
           clear n0_ n1_ n2_ n3_
           clear hb hbox hg
           refine hK.out _ _ ⟨((HB.out.cell (World.block_lt_of_cell? w _ hw245_0)).trans hw245_0),((HB.out.cell (World.block_lt_of_cell? w _ hw245_1)).trans hw245_1),((HB.out.cell (World.block_lt_of_cell? w _ hw246_0)).trans hw246_0),((HB.out.cell (World.block_lt_of_cell? w _ hw246_1)).trans hw246_1)⟩ (fun hHeld=>?_)
           clear hK K
           refine norm_ (a':=?_) ?_ ?_
           rotate_left
           ·show Act.put _ (some 7) _=_
            simp only [Act.put,sI,sZ,sS,i64_w,i32_w]
            rfl
           refine one_ (i:=10) (N:=some 8) #[T0,T0,T0,T0,T0,T0,T0,T0,T0,T0,T0,F0,F0] rfl rfl (one_of HT_.out (by kernel_rfl)) (by decide) (fun K hK=>?_)
           refine box_step ?hg (N:=8) ?hd (cs:=#[.int .i64 0,.int .i64 0]) (t:=30) ?hr ?_;(case hd=>rfl);(case hg=>rfl);(case hr=>first | (go_simp;done)|(go_simp;rfl))
           intro gb248 hg w13 hbox hb
           have n0_:=amk (blk_below (g:=gb247) (o:=.cells #[.int .i64 0,.int .i64 0] 30 (0,0)) (bkk BK247) hb)
           have n1_:=amk (below_step (bel1 HB GE247.out) hb)
           have n2_:=amk (hbox)
           have n3_:=amk ((by rw [hg];exact (below_size (bel1 HB GE247.out)) : w.heap.size≤gb248))
           have n4_:=amk ((by rw [hg];exact (below_size (bel1 HB GE247.out)) : w.heap.size≤gb248))
           have n5_:=amk ((by rw [hg];exact Nat.ne_of_lt (blk_lt (g:=gb247) (o:=.cells #[.int .i64 0,.int .i64 0] 30 (0,0)) (bkk BK247)) : gb247 ≠ gb248))
           have n6_:=amk ((by rw [hg];exact Nat.ne_of_gt (blk_lt (g:=gb247) (o:=.cells #[.int .i64 0,.int .i64 0] 30 (0,0)) (bkk BK247)) : gb248 ≠ gb247))
           clear BK247
           clear HB
           have BK247:=n0_
           have HB:=n1_
           have BK248:=n2_
           have GW248:=n3_
           have GE248:=n4_
           have NB247_248:=n5_
           have NB248_247:=n6_
           clear n0_ n1_ n2_ n3_ n4_ n5_ n6_
           clear hb hbox hg
           refine hK.out _ _ ⟨((HB.out.cell (World.block_lt_of_cell? w _ hw245_0)).trans hw245_0),((HB.out.cell (World.block_lt_of_cell? w _ hw245_1)).trans hw245_1),((HB.out.cell (World.block_lt_of_cell? w _ hw246_0)).trans hw246_0),((HB.out.cell (World.block_lt_of_cell? w _ hw246_1)).trans hw246_1)⟩ (fun hHeld=>?_)
           clear hK K
           refine norm_ (a':=?_) ?_ ?_
           rotate_left
           ·show Act.put _ (some 8) _=_
            simp only [Act.put,sI,sZ,sS,i64_w,i32_w]
            rfl
           exact norm_ (by simp only [putAll,Act.put,List.setIfInBounds_toArray,List.set_cons_zero,List.set_cons_succ]) (hCont (gb247,gb248) _ ⟨hHeld,(bkk BK247),(bkk BK248),GW247.out,GE247.out,NB248_247.out,NB247_248.out,GW248.out,GE248.out,(bel2 HB GE247.out GE248.out)⟩)
          ·skip
           refine box_step ?hg (N:=8) ?hd (cs:=#[.int .i64 0,.int .i64 0]) (t:=30) ?hr ?_;(case hd=>rfl);(case hg=>rfl);(case hr=>first | (go_simp;done)|(go_simp;rfl))
           intro gb248 hg w12 hbox hb
           have n0_:=amk (below_step (bel HB) hb)
           have n1_:=amk (hbox)
           have n2_:=amk ((by rw [hg];exact (below_size (bel HB)) : w.heap.size≤gb248))
           have n3_:=amk ((by rw [hg];exact (below_size (bel HB)) : w.heap.size≤gb248))
           clear HB
           have HB:=n0_
           have BK248:=n1_
           have GW248:=n2_
           have GE248:=n3_
           clear n0_ n1_ n2_ n3_
           clear hb hbox hg
           refine hK.out _ _ ⟨((HB.out.cell (World.block_lt_of_cell? w _ hw245_0)).trans hw245_0),((HB.out.cell (World.block_lt_of_cell? w _ hw245_1)).trans hw245_1),((HB.out.cell (World.block_lt_of_cell? w _ hw246_0)).trans hw246_0),((HB.out.cell (World.block_lt_of_cell? w _ hw246_1)).trans hw246_1)⟩ (fun hHeld=>?_)
           clear hK K
           refine norm_ (a':=?_) ?_ ?_
           rotate_left
           ·show Act.put _ (some 8) _=_
            simp only [Act.put,sI,sZ,sS,i64_w,i32_w]
            rfl
           refine one_ (i:=9) (N:=some 7) #[T0,T0,T0,T0,T0,T0,T0,T0,T0,T0,T0,F0,F0] rfl rfl (one_of HT_.out (by kernel_rfl)) (by decide) (fun K hK=>?_)
           refine box_step ?hg (N:=7) ?hd (cs:=#[.int .i64 0,.int .i64 0]) (t:=30) ?hr ?_;(case hd=>rfl);(case hg=>rfl);(case hr=>first | (go_simp;done)|(go_simp;rfl))
           intro gb247 hg w13 hbox hb
           have n0_:=amk (blk_below (g:=gb248) (o:=.cells #[.int .i64 0,.int .i64 0] 30 (0,0)) (bkk BK248) hb)
           have n1_:=amk (below_step (bel1 HB GE248.out) hb)
           have n2_:=amk (hbox)
           have n3_:=amk ((by rw [hg];exact (below_size (bel1 HB GE248.out)) : w.heap.size≤gb247))
           have n4_:=amk ((by rw [hg];exact (below_size (bel1 HB GE248.out)) : w.heap.size≤gb247))
           have n5_:=amk ((by rw [hg];exact Nat.ne_of_lt (blk_lt (g:=gb248) (o:=.cells #[.int .i64 0,.int .i64 0] 30 (0,0)) (bkk BK248)) : gb248 ≠ gb247))
           have n6_:=amk ((by rw [hg];exact Nat.ne_of_gt (blk_lt (g:=gb248) (o:=.cells #[.int .i64 0,.int .i64 0] 30 (0,0)) (bkk BK248)) : gb247 ≠ gb248))
           clear BK248
           clear HB
           have BK248:=n0_
           have HB:=n1_
           have BK247:=n2_
           have GW247:=n3_
           have GE247:=n4_
           have NB248_247:=n5_
           have NB247_248:=n6_
           clear n0_ n1_ n2_ n3_ n4_ n5_ n6_
           clear hb hbox hg
           refine hK.out _ _ ⟨((HB.out.cell (World.block_lt_of_cell? w _ hw245_0)).trans hw245_0),((HB.out.cell (World.block_lt_of_cell? w _ hw245_1)).trans hw245_1),((HB.out.cell (World.block_lt_of_cell? w _ hw246_0)).trans hw246_0),((HB.out.cell (World.block_lt_of_cell? w _ hw246_1)).trans hw246_1)⟩ (fun hHeld=>?_)
           clear hK K
           refine norm_ (a':=?_) ?_ ?_
           rotate_left
           ·show Act.put _ (some 7) _=_
            simp only [Act.put,sI,sZ,sS,i64_w,i32_w]
            rfl
           exact norm_ (by simp only [putAll,Act.put,List.setIfInBounds_toArray,List.set_cons_zero,List.set_cons_succ]) (hCont (gb247,gb248) _ ⟨hHeld,(bkk BK247),(bkk BK248),GW247.out,GE247.out,NB248_247.out,NB247_248.out,GW248.out,GE248.out,(bel2 HB GE248.out GE247.out)⟩)
         rintro ⟨gb247,gb248⟩ w14 ⟨hS_,h0_,h1_,h2_,h3_,h4_,h5_,h6_,h7_,h8_⟩
         have n0_ : Aside0 (w14.heap[gb247]? = some (.cells #[.int .i64 0,.int .i64 0] 30 (0,0))):=⟨h0_⟩
         have n1_ : Aside0 (w14.heap[gb248]? = some (.cells #[.int .i64 0,.int .i64 0] 30 (0,0))):=⟨h1_⟩
         have n2_ : Aside0 (w.heap.size≤gb247):=⟨h2_⟩
         have n3_ : Aside0 (w.heap.size≤gb247):=⟨h3_⟩
         have n4_ : Aside0 (gb248 ≠ gb247):=⟨h4_⟩
         have n5_ : Aside0 (gb247 ≠ gb248):=⟨h5_⟩
         have n6_ : Aside0 (w.heap.size≤gb248):=⟨h6_⟩
         have n7_ : Aside0 (w.heap.size≤gb248):=⟨h7_⟩
         have n8_ : Aside0 (Below w.heap.size w w14):=⟨h8_⟩
         clear HB
         clear h0_ h1_ h2_ h3_ h4_ h5_ h6_ h7_ h8_
         have BK247:=n0_
         have BK248:=n1_
         have GW247:=n2_
         have GE247:=n3_
         have NB248_247:=n4_
         have NB247_248:=n5_
         have GW248:=n6_
         have GE248:=n7_
         have HB:=n8_
         clear n0_ n1_ n2_ n3_ n4_ n5_ n6_ n7_ n8_
         have hHeld : w14.cell? (ad242.add (((ji7)).toNat * 2))=some (.int .i64 ((rd_T30 l0 (ji7)).f0))∧w14.cell? ⟨(ad242.add (((ji7)).toNat * 2)).block,(ad242.add (((ji7)).toNat * 2)).off + 1,none⟩=some (.int .i64 ((rd_T30 l0 (ji7)).f1))∧w14.cell? (ad242.add ((x6_1).toNat * 2))=some (.int .i64 ((rd_T30 l0 x6_1).f0))∧w14.cell? ⟨(ad242.add ((x6_1).toNat * 2)).block,(ad242.add ((x6_1).toNat * 2)).off + 1,none⟩=some (.int .i64 ((rd_T30 l0 x6_1).f1)):=hS_
         refine norm_ (a':=?_) ?_ ?_
         rotate_left
         ·simp only [putAll,Act.put,List.setIfInBounds_toArray,List.set_cons_zero,List.set_cons_succ]
          rfl
         refine one_ (i:=11) (N:=none) #[T0,T0,T0,T0,T0,T0,T0,T0,T0,T0,T0,T0,F0] rfl rfl (one_of HT_.out (by kernel_rfl)) (by decide) (fun K hK=>?_)
         have hs15 : w14.cell? ⟨gb247,0,none⟩=some (.int .i64 0):=(blk_cell BK247.out 0).trans rfl
         have hfs15:=blk_frozen BK247.out 0
         have hns15_1:=NB248_247.out
         have hms15_1:=NB247_248.out
         have hs16 : w14.cell? ⟨gb247,1,none⟩=some (.int .i64 0):=(blk_cell BK247.out 1).trans rfl
         have hfs16:=blk_frozen BK247.out 1
         have hns16_1:=NB248_247.out
         have hms16_1:=NB247_248.out
         refine skip_ (w1:=?_) (by rfl) rfl ?_ ?_
         rotate_left
         ·go_simp
          rfl
         refine hK.out _ _ ⟨((cell_far (p:=⟨gb247,_,none⟩) (by first | exact Nat.ne_of_lt (Nat.lt_of_lt_of_le (by have:=World.block_lt_of_cell? _ _ hw245_0;first | rwa [add_block] at this | exact this) GW247.out)|(rw [add_block];exact Nat.ne_of_lt (Nat.lt_of_lt_of_le (by have:=World.block_lt_of_cell? _ _ hw245_0;first | rwa [add_block] at this | exact this) GW247.out))|(show (Addr.add _ _).block ≠ _;rw [add_block];exact Nat.ne_of_lt (Nat.lt_of_lt_of_le (by have:=World.block_lt_of_cell? _ _ hw245_0;first | rwa [add_block] at this | exact this) GW247.out))|(dsimp only;exact Nat.ne_of_lt (Nat.lt_of_lt_of_le (by have:=World.block_lt_of_cell? _ _ hw245_0;first | rwa [add_block] at this | exact this) GW247.out))) _).trans (((cell_far (p:=⟨gb247,_,none⟩) (by first | exact Nat.ne_of_lt (Nat.lt_of_lt_of_le (by have:=World.block_lt_of_cell? _ _ hw245_0;first | rwa [add_block] at this | exact this) GW247.out)|(rw [add_block];exact Nat.ne_of_lt (Nat.lt_of_lt_of_le (by have:=World.block_lt_of_cell? _ _ hw245_0;first | rwa [add_block] at this | exact this) GW247.out))|(show (Addr.add _ _).block ≠ _;rw [add_block];exact Nat.ne_of_lt (Nat.lt_of_lt_of_le (by have:=World.block_lt_of_cell? _ _ hw245_0;first | rwa [add_block] at this | exact this) GW247.out))|(dsimp only;exact Nat.ne_of_lt (Nat.lt_of_lt_of_le (by have:=World.block_lt_of_cell? _ _ hw245_0;first | rwa [add_block] at this | exact this) GW247.out))) _).trans (hHeld.1)))),((cell_far (p:=⟨gb247,_,none⟩) (by first | exact Nat.ne_of_lt (Nat.lt_of_lt_of_le (by have:=World.block_lt_of_cell? _ _ hw245_1;first | rwa [add_block] at this | exact this) GW247.out)|(rw [add_block];exact Nat.ne_of_lt (Nat.lt_of_lt_of_le (by have:=World.block_lt_of_cell? _ _ hw245_1;first | rwa [add_block] at this | exact this) GW247.out))|(show (Addr.add _ _).block ≠ _;rw [add_block];exact Nat.ne_of_lt (Nat.lt_of_lt_of_le (by have:=World.block_lt_of_cell? _ _ hw245_1;first | rwa [add_block] at this | exact this) GW247.out))|(dsimp only;exact Nat.ne_of_lt (Nat.lt_of_lt_of_le (by have:=World.block_lt_of_cell? _ _ hw245_1;first | rwa [add_block] at this | exact this) GW247.out))) _).trans (((cell_far (p:=⟨gb247,_,none⟩) (by first | exact Nat.ne_of_lt (Nat.lt_of_lt_of_le (by have:=World.block_lt_of_cell? _ _ hw245_1;first | rwa [add_block] at this | exact this) GW247.out)|(rw [add_block];exact Nat.ne_of_lt (Nat.lt_of_lt_of_le (by have:=World.block_lt_of_cell? _ _ hw245_1;first | rwa [add_block] at this | exact this) GW247.out))|(show (Addr.add _ _).block ≠ _;rw [add_block];exact Nat.ne_of_lt (Nat.lt_of_lt_of_le (by have:=World.block_lt_of_cell? _ _ hw245_1;first | rwa [add_block] at this | exact this) GW247.out))|(dsimp only;exact Nat.ne_of_lt (Nat.lt_of_lt_of_le (by have:=World.block_lt_of_cell? _ _ hw245_1;first | rwa [add_block] at this | exact this) GW247.out))) _).trans (hHeld.2.1)))),((cell_far (p:=⟨gb247,_,none⟩) (by first | exact Nat.ne_of_lt (Nat.lt_of_lt_of_le (by have:=World.block_lt_of_cell? _ _ hw246_0;first | rwa [add_block] at this | exact this) GW247.out)|(rw [add_block];exact Nat.ne_of_lt (Nat.lt_of_lt_of_le (by have:=World.block_lt_of_cell? _ _ hw246_0;first | rwa [add_block] at this | exact this) GW247.out))|(show (Addr.add _ _).block ≠ _;rw [add_block];exact Nat.ne_of_lt (Nat.lt_of_lt_of_le (by have:=World.block_lt_of_cell? _ _ hw246_0;first | rwa [add_block] at this | exact this) GW247.out))|(dsimp only;exact Nat.ne_of_lt (Nat.lt_of_lt_of_le (by have:=World.block_lt_of_cell? _ _ hw246_0;first | rwa [add_block] at this | exact this) GW247.out))) _).trans (((cell_far (p:=⟨gb247,_,none⟩) (by first | exact Nat.ne_of_lt (Nat.lt_of_lt_of_le (by have:=World.block_lt_of_cell? _ _ hw246_0;first | rwa [add_block] at this | exact this) GW247.out)|(rw [add_block];exact Nat.ne_of_lt (Nat.lt_of_lt_of_le (by have:=World.block_lt_of_cell? _ _ hw246_0;first | rwa [add_block] at this | exact this) GW247.out))|(show (Addr.add _ _).block ≠ _;rw [add_block];exact Nat.ne_of_lt (Nat.lt_of_lt_of_le (by have:=World.block_lt_of_cell? _ _ hw246_0;first | rwa [add_block] at this | exact this) GW247.out))|(dsimp only;exact Nat.ne_of_lt (Nat.lt_of_lt_of_le (by have:=World.block_lt_of_cell? _ _ hw246_0;first | rwa [add_block] at this | exact this) GW247.out))) _).trans (hHeld.2.2.1)))),((cell_far (p:=⟨gb247,_,none⟩) (by first | exact Nat.ne_of_lt (Nat.lt_of_lt_of_le (by have:=World.block_lt_of_cell? _ _ hw246_1;first | rwa [add_block] at this | exact this) GW247.out)|(rw [add_block];exact Nat.ne_of_lt (Nat.lt_of_lt_of_le (by have:=World.block_lt_of_cell? _ _ hw246_1;first | rwa [add_block] at this | exact this) GW247.out))|(show (Addr.add _ _).block ≠ _;rw [add_block];exact Nat.ne_of_lt (Nat.lt_of_lt_of_le (by have:=World.block_lt_of_cell? _ _ hw246_1;first | rwa [add_block] at this | exact this) GW247.out))|(dsimp only;exact Nat.ne_of_lt (Nat.lt_of_lt_of_le (by have:=World.block_lt_of_cell? _ _ hw246_1;first | rwa [add_block] at this | exact this) GW247.out))) _).trans (((cell_far (p:=⟨gb247,_,none⟩) (by first | exact Nat.ne_of_lt (Nat.lt_of_lt_of_le (by have:=World.block_lt_of_cell? _ _ hw246_1;first | rwa [add_block] at this | exact this) GW247.out)|(rw [add_block];exact Nat.ne_of_lt (Nat.lt_of_lt_of_le (by have:=World.block_lt_of_cell? _ _ hw246_1;first | rwa [add_block] at this | exact this) GW247.out))|(show (Addr.add _ _).block ≠ _;rw [add_block];exact Nat.ne_of_lt (Nat.lt_of_lt_of_le (by have:=World.block_lt_of_cell? _ _ hw246_1;first | rwa [add_block] at this | exact this) GW247.out))|(dsimp only;exact Nat.ne_of_lt (Nat.lt_of_lt_of_le (by have:=World.block_lt_of_cell? _ _ hw246_1;first | rwa [add_block] at this | exact this) GW247.out))) _).trans (hHeld.2.2.2))))⟩ (fun hHeld=>?_)
         clear hK K
         refine one_ (i:=12) (N:=none) #[T0,T0,T0,T0,T0,T0,T0,T0,T0,T0,T0,T0,T0] rfl rfl (one_of HT_.out (by kernel_rfl)) (by decide) (fun K hK=>?_)
         have hs17 : w14.cell? ⟨gb248,0,none⟩=some (.int .i64 0):=(blk_cell BK248.out 0).trans rfl
         have hfs17:=blk_frozen BK248.out 0
         have hns17_0:=NB247_248.out
         have hms17_0:=NB248_247.out
         have hs18 : w14.cell? ⟨gb248,1,none⟩=some (.int .i64 0):=(blk_cell BK248.out 1).trans rfl
         have hfs18:=blk_frozen BK248.out 1
         have hns18_0:=NB247_248.out
         have hms18_0:=NB248_247.out
         refine skip_ (w1:=?_) (by rfl) rfl ?_ ?_
         rotate_left
         ·go_simp
          rfl
         refine hK.out _ _ ⟨((cell_far (p:=⟨gb248,_,none⟩) (by first | exact Nat.ne_of_lt (Nat.lt_of_lt_of_le (by have:=World.block_lt_of_cell? _ _ hw245_0;first | rwa [add_block] at this | exact this) GW248.out)|(rw [add_block];exact Nat.ne_of_lt (Nat.lt_of_lt_of_le (by have:=World.block_lt_of_cell? _ _ hw245_0;first | rwa [add_block] at this | exact this) GW248.out))|(show (Addr.add _ _).block ≠ _;rw [add_block];exact Nat.ne_of_lt (Nat.lt_of_lt_of_le (by have:=World.block_lt_of_cell? _ _ hw245_0;first | rwa [add_block] at this | exact this) GW248.out))|(dsimp only;exact Nat.ne_of_lt (Nat.lt_of_lt_of_le (by have:=World.block_lt_of_cell? _ _ hw245_0;first | rwa [add_block] at this | exact this) GW248.out))) _).trans (((cell_far (p:=⟨gb248,_,none⟩) (by first | exact Nat.ne_of_lt (Nat.lt_of_lt_of_le (by have:=World.block_lt_of_cell? _ _ hw245_0;first | rwa [add_block] at this | exact this) GW248.out)|(rw [add_block];exact Nat.ne_of_lt (Nat.lt_of_lt_of_le (by have:=World.block_lt_of_cell? _ _ hw245_0;first | rwa [add_block] at this | exact this) GW248.out))|(show (Addr.add _ _).block ≠ _;rw [add_block];exact Nat.ne_of_lt (Nat.lt_of_lt_of_le (by have:=World.block_lt_of_cell? _ _ hw245_0;first | rwa [add_block] at this | exact this) GW248.out))|(dsimp only;exact Nat.ne_of_lt (Nat.lt_of_lt_of_le (by have:=World.block_lt_of_cell? _ _ hw245_0;first | rwa [add_block] at this | exact this) GW248.out))) _).trans (hHeld.1)))),((cell_far (p:=⟨gb248,_,none⟩) (by first | exact Nat.ne_of_lt (Nat.lt_of_lt_of_le (by have:=World.block_lt_of_cell? _ _ hw245_1;first | rwa [add_block] at this | exact this) GW248.out)|(rw [add_block];exact Nat.ne_of_lt (Nat.lt_of_lt_of_le (by have:=World.block_lt_of_cell? _ _ hw245_1;first | rwa [add_block] at this | exact this) GW248.out))|(show (Addr.add _ _).block ≠ _;rw [add_block];exact Nat.ne_of_lt (Nat.lt_of_lt_of_le (by have:=World.block_lt_of_cell? _ _ hw245_1;first | rwa [add_block] at this | exact this) GW248.out))|(dsimp only;exact Nat.ne_of_lt (Nat.lt_of_lt_of_le (by have:=World.block_lt_of_cell? _ _ hw245_1;first | rwa [add_block] at this | exact this) GW248.out))) _).trans (((cell_far (p:=⟨gb248,_,none⟩) (by first | exact Nat.ne_of_lt (Nat.lt_of_lt_of_le (by have:=World.block_lt_of_cell? _ _ hw245_1;first | rwa [add_block] at this | exact this) GW248.out)|(rw [add_block];exact Nat.ne_of_lt (Nat.lt_of_lt_of_le (by have:=World.block_lt_of_cell? _ _ hw245_1;first | rwa [add_block] at this | exact this) GW248.out))|(show (Addr.add _ _).block ≠ _;rw [add_block];exact Nat.ne_of_lt (Nat.lt_of_lt_of_le (by have:=World.block_lt_of_cell? _ _ hw245_1;first | rwa [add_block] at this | exact this) GW248.out))|(dsimp only;exact Nat.ne_of_lt (Nat.lt_of_lt_of_le (by have:=World.block_lt_of_cell? _ _ hw245_1;first | rwa [add_block] at this | exact this) GW248.out))) _).trans (hHeld.2.1)))),((cell_far (p:=⟨gb248,_,none⟩) (by first | exact Nat.ne_of_lt (Nat.lt_of_lt_of_le (by have:=World.block_lt_of_cell? _ _ hw246_0;first | rwa [add_block] at this | exact this) GW248.out)|(rw [add_block];exact Nat.ne_of_lt (Nat.lt_of_lt_of_le (by have:=World.block_lt_of_cell? _ _ hw246_0;first | rwa [add_block] at this | exact this) GW248.out))|(show (Addr.add _ _).block ≠ _;rw [add_block];exact Nat.ne_of_lt (Nat.lt_of_lt_of_le (by have:=World.block_lt_of_cell? _ _ hw246_0;first | rwa [add_block] at this | exact this) GW248.out))|(dsimp only;exact Nat.ne_of_lt (Nat.lt_of_lt_of_le (by have:=World.block_lt_of_cell? _ _ hw246_0;first | rwa [add_block] at this | exact this) GW248.out))) _).trans (((cell_far (p:=⟨gb248,_,none⟩) (by first | exact Nat.ne_of_lt (Nat.lt_of_lt_of_le (by have:=World.block_lt_of_cell? _ _ hw246_0;first | rwa [add_block] at this | exact this) GW248.out)|(rw [add_block];exact Nat.ne_of_lt (Nat.lt_of_lt_of_le (by have:=World.block_lt_of_cell? _ _ hw246_0;first | rwa [add_block] at this | exact this) GW248.out))|(show (Addr.add _ _).block ≠ _;rw [add_block];exact Nat.ne_of_lt (Nat.lt_of_lt_of_le (by have:=World.block_lt_of_cell? _ _ hw246_0;first | rwa [add_block] at this | exact this) GW248.out))|(dsimp only;exact Nat.ne_of_lt (Nat.lt_of_lt_of_le (by have:=World.block_lt_of_cell? _ _ hw246_0;first | rwa [add_block] at this | exact this) GW248.out))) _).trans (hHeld.2.2.1)))),((cell_far (p:=⟨gb248,_,none⟩) (by first | exact Nat.ne_of_lt (Nat.lt_of_lt_of_le (by have:=World.block_lt_of_cell? _ _ hw246_1;first | rwa [add_block] at this | exact this) GW248.out)|(rw [add_block];exact Nat.ne_of_lt (Nat.lt_of_lt_of_le (by have:=World.block_lt_of_cell? _ _ hw246_1;first | rwa [add_block] at this | exact this) GW248.out))|(show (Addr.add _ _).block ≠ _;rw [add_block];exact Nat.ne_of_lt (Nat.lt_of_lt_of_le (by have:=World.block_lt_of_cell? _ _ hw246_1;first | rwa [add_block] at this | exact this) GW248.out))|(dsimp only;exact Nat.ne_of_lt (Nat.lt_of_lt_of_le (by have:=World.block_lt_of_cell? _ _ hw246_1;first | rwa [add_block] at this | exact this) GW248.out))) _).trans (((cell_far (p:=⟨gb248,_,none⟩) (by first | exact Nat.ne_of_lt (Nat.lt_of_lt_of_le (by have:=World.block_lt_of_cell? _ _ hw246_1;first | rwa [add_block] at this | exact this) GW248.out)|(rw [add_block];exact Nat.ne_of_lt (Nat.lt_of_lt_of_le (by have:=World.block_lt_of_cell? _ _ hw246_1;first | rwa [add_block] at this | exact this) GW248.out))|(show (Addr.add _ _).block ≠ _;rw [add_block];exact Nat.ne_of_lt (Nat.lt_of_lt_of_le (by have:=World.block_lt_of_cell? _ _ hw246_1;first | rwa [add_block] at this | exact this) GW248.out))|(dsimp only;exact Nat.ne_of_lt (Nat.lt_of_lt_of_le (by have:=World.block_lt_of_cell? _ _ hw246_1;first | rwa [add_block] at this | exact this) GW248.out))) _).trans (hHeld.2.2.2))))⟩ (fun hHeld=>?_)
         clear hK K
         refine done_ (done_of HT_.out (by kernel_rfl)) ?_
         have hnb19:=NB247_248.out
         have hnc19:=NB248_247.out
         have hcz20_0 : w14.cell? ⟨gb247,0,none⟩=some (.int .i64 0):=(blk_cell BK247.out 0).trans rfl
         have hcz20_1 : w14.cell? ⟨gb247,1,none⟩=some (.int .i64 0):=(blk_cell BK247.out 1).trans rfl
         have hfz20_0:=blk_frozen BK247.out 0
         have hfz20_1:=blk_frozen BK247.out 1
         have hcz21_0 : w14.cell? ⟨gb248,0,none⟩=some (.int .i64 0):=(blk_cell BK248.out 0).trans rfl
         have hcz21_1 : w14.cell? ⟨gb248,1,none⟩=some (.int .i64 0):=(blk_cell BK248.out 1).trans rfl
         have hfz21_0:=blk_frozen BK248.out 0
         have hfz21_1:=blk_frozen BK248.out 1
         try go_wp2_with (first | ((with_reducible refine gate_callee (f:=56) rfl ?_);refine goesL_ (some 62) rfl rfl Try.func56 (by kernel_rfl) rfl #[.int .i64 (wrap64 ((wrap64 (((rd_T30 l0 (ji7)).f1) * (wrap64 (((rd_T30 l0 x6_1).f0) - a1)))) + (wrap64 (((rd_T30 l0 x6_1).f1) * (wrap64 (a1 - ((rd_T30 l0 (ji7)).f0))))))),.int .i64 (wrap64 (((rd_T30 l0 x6_1).f0) - ((rd_T30 l0 (ji7)).f0)))] rfl (by (try simp only [List.map_toArray,List.map_cons,List.map_nil]);first | done | (simp only [hji7];rfl) | rfl | (simp only [List.length_drop,List.length_take];rfl)) ?_;(with_reducible refine (spec_l23Reduce.calls k1 (wrap64 ((wrap64 (((rd_T30 l0 (ji7)).f1) * (wrap64 (((rd_T30 l0 x6_1).f0) - a1)))) + (wrap64 (((rd_T30 l0 x6_1).f1) * (wrap64 (a1 - ((rd_T30 l0 (ji7)).f0))))))) (wrap64 (((rd_T30 l0 x6_1).f0) - ((rd_T30 l0 (ji7)).f0))) t249 t250 _ A10.out).mono ?_);rintro e w' ⟨rfl,⟨nd,rfl⟩⟩;refine ⟨_,rfl,?_⟩))
         go_ret2
         exact ⟨by first | rfl | (simp [errW_none,errW_some] <;> rfl)|(simp only [← hji7];first | rfl | (simp [errW_none,errW_some] <;> rfl))|(simp [*,errW_none,errW_some] <;> rfl),bel2 HB GE247.out GE248.out⟩
        ·rw [if_neg c9] at H
         exact absurd H (by simp)
       ·rw [if_neg c8] at H
        exact absurd H (by simp)
    ·rw [if_neg c4] at H
     exact absurd H (by simp)
   ·rw [if_neg c3] at H
    exact absurd H (by simp)
def spec_l23Open.f (k : Nat) (l0 : List (S30)) (a1_0 : Int) (a1_1 : Int) (a1_2 : Int) (a2 : Int) : Option (Bool):=(spec_l23In.f k l0 a2).bind fun bt330=>(some (decide (bt330.1≤(wrap64 (a1_2 * bt330.2)))))
theorem spec_l23Open.mono : ∀ a0 a1 a2 a3 a4 k,LeO (spec_l23Open.f k a0 a1 a2 a3 a4) (spec_l23Open.f (k + 1) a0 a1 a2 a3 a4):=by
 intro a0 a1 a2 a3 a4 k
 unfold spec_l23Open.f
 repeat' first
   | (with_reducible exact spec_l23In.mono _ _ _)
   | (with_reducible exact LeO.refl _)
   | (with_reducible exact LeO.none _)
   | (with_reducible refine LeO.ite ?_ ?_)
   | (with_reducible refine LeO.bind ?_ (fun _=>?_))
set_option maxHeartbeats 8000000 in
set_option maxRecDepth 100000 in
theorem spec_l23Open.calls (k : Nat) (A0 : Option Addr) (c0 : Nat) (l0 : List (S30)) (a1_0 : Int) (a1_1 : Int) (a1_2 : Int) (a2 : Int) (r : Bool) (w : World) (hr0 : Kd.C k30 w A0 l0.length l0) (hc0 : l0.length≤c0) (h : spec_l23Open.f k l0 a1_0 a1_1 a1_2 a2=some r) :
  Calls Try.prog 60 #[.slice A0 l0.length c0,.agg #[.int .i64 a1_0,.int .i64 a1_1,.int .i64 a1_2],.int .i64 a2] w fun e w'=>e = .returned (.bool r)∧Below w.heap.size w w':=by
 have hu44:=Try.underlying44
 have HR0:=amk hr0
 have HC0:=amk hc0
 clear hr0 hc0
 have HB:=amk (Below.refl w.heap.size w)
 have H : ((spec_l23In.f k l0 a2).bind fun bt330=>(some (decide (bt330.1≤(wrap64 (a1_2 * bt330.2))))))=some r:=h
 clear h
 replace H:=obs H
 obtain ⟨⟨t330,t331⟩,A40,H⟩:=H
 replace H : (some (decide (t330≤(wrap64 (a1_2 * t331)))))=some r:=H
 have A4:=amk A40
 clear A40
 obtain rfl:=Option.some.inj H
 go_enter Try.func60,Try.ntmps60
 go_wp2_with (first | ((with_reducible refine gate_dst (N:=4) rfl ?_);refine box_event ?hg (N:=4) ?hd (cs:=#[.int .i64 a1_0,.int .i64 a1_1,.int .i64 a1_2]) (t:=44) ?hr ?_;(case hd=>rfl);(case hg=>rfl);(case hr=>first | (go_simp;done)|(go_simp;rfl));intro gb329 hg w5 hbox hb;have BK329:=amk (hbox);have GW329:=amk ((by rw [hg];exact (below_size (bel HB)) : w.heap.size≤gb329));have GE329:=amk ((by rw [hg];exact (below_size (bel HB)) : w.heap.size≤gb329));replace HB:=amk (below_step (bel HB) hb);clear hb hbox hg)|((with_reducible refine gate_callee (f:=52) rfl ?_);refine goesL_ (some 12) rfl rfl Try.func52 (by kernel_rfl) rfl #[.slice A0 l0.length c0,.int .i64 a2] rfl mtt ?_;(with_reducible refine (spec_l23In.calls k _ _ l0 a2 t330 t331 _ ?side1 ?side2 A4.out).mono ?_);(case side1=>exact ccc (Kd.C_below HR0.out HB.out));(case side2=>exact HC0.out);rintro e w6 ⟨rfl,hb⟩;refine ⟨_,rfl,?_⟩;replace BK329:=amk (blk_below (g:=gb329) (o:=.cells #[.int .i64 a1_0,.int .i64 a1_1,.int .i64 a1_2] 44 (0,0)) (bkk BK329) hb);replace HB:=amk (below_step (bel1 HB GE329.out) hb);(try clear hb);have hcz7_0 : w6.cell? ⟨gb329,0,none⟩=some (.int .i64 a1_0):=(blk_cell BK329.out 0).trans rfl;have hcz7_1 : w6.cell? ⟨gb329,1,none⟩=some (.int .i64 a1_1):=(blk_cell BK329.out 1).trans rfl;have hcz7_2 : w6.cell? ⟨gb329,2,none⟩=some (.int .i64 a1_2):=(blk_cell BK329.out 2).trans rfl;have hfz7_0:=blk_frozen BK329.out 0;have hfz7_1:=blk_frozen BK329.out 1;have hfz7_2:=blk_frozen BK329.out 2))
 go_ret
 exact ⟨erw0,bel1 HB GE329.out⟩
mutual
def spec_OpenSpans.j0 : Nat→List (S30)→List (List Int)→Bool→Int→Int→Int→Option ((List (List Int)) × Bool)
 | 0,_,_,_,_,_,_=>none
 | k + 1,x0,x6,x17,x333000,x333001,x333002=>if x17=true then (some (x6,false)) else (spec_OpenSpans.l0 k x0 x6 0 x333000 x333001 x333002)
def spec_OpenSpans.l0 : Nat→List (S30)→List (List Int)→Int→Int→Int→Int→Option ((List (List Int)) × Bool)
 | 0,_,_,_,_,_,_=>none
 | k + 1,x0,x6,x7,x333000,x333001,x333002=>if x7≤999 then ((spec_l23Within.f k x0 x7).bind fun t338=>(if t338=true then ((spec_l23Open.f k x0 x333000 x333001 x333002 x7).bind fun t339=>(spec_OpenSpans.j2 k x0 x6 x7 (!t339) x333000 x333001 x333002)) else (spec_OpenSpans.j2 k x0 x6 x7 true x333000 x333001 x333002))) else (some (x6,true))
def spec_OpenSpans.j2 : Nat→List (S30)→List (List Int)→Int→Bool→Int→Int→Int→Option ((List (List Int)) × Bool)
 | 0,_,_,_,_,_,_,_=>none
 | k + 1,x0,x6,x7,x33,x333000,x333001,x333002=>if x33=true then (spec_OpenSpans.l0 k x0 x6 (wrap64 (x7 + 1)) x333000 x333001 x333002) else (if (x6.length : Int) > 0 then (if 0≤(wrap64 ((x6.length : Int) - 1)) then (if (wrap64 ((x6.length : Int) - 1)) < (x6.length : Int) then (if 1 < ((rd_L4 x6 (wrap64 ((x6.length : Int) - 1))).length : Int) then (if (rd (rd_L4 x6 (wrap64 ((x6.length : Int) - 1))) 1)=(wrap64 (x7 - 1)) then (if 0 < ((rd_L4 x6 (wrap64 ((x6.length : Int) - 1))).length : Int) then (spec_OpenSpans.l0 k x0 (x6.set ((wrap64 ((x6.length : Int) - 1)) : Int).toNat (([rd (rd_L4 x6 (wrap64 ((x6.length : Int) - 1))) 0,x7] : List Int))) (wrap64 (x7 + 1)) x333000 x333001 x333002) else (none)) else (if x6.length < 5864062014805 then (spec_OpenSpans.l0 k x0 (x6 ++ [(([x7,x7] : List Int))]) (wrap64 (x7 + 1)) x333000 x333001 x333002) else (none))) else (none)) else (none)) else (none)) else (if x6.length < 5864062014805 then (spec_OpenSpans.l0 k x0 (x6 ++ [(([x7,x7] : List Int))]) (wrap64 (x7 + 1)) x333000 x333001 x333002) else (none)))
end
def spec_OpenSpans.f (k : Nat) (l0 : List (S30)) (a1_0 : Int) (a1_1 : Int) (a1_2 : Int) : Option ((List (List Int)) × Bool):=(some (([] : List (List Int)) : List (List Int))).bind fun y333=>((spec_l23Good.f k l0).bind fun t336=>(if t336=true then ((spec_l23Sump.f a1_0 a1_1 a1_2).bind fun t337=>(spec_OpenSpans.j0 k l0 y333 (!t337) a1_0 a1_1 a1_2)) else (spec_OpenSpans.j0 k l0 y333 true a1_0 a1_1 a1_2)))
theorem spec_OpenSpans.mono_l : ∀ k,(∀ y0 y1 y2 y3 y4 y5,LeO (spec_OpenSpans.j0 k y0 y1 y2 y3 y4 y5) (spec_OpenSpans.j0 (k + 1) y0 y1 y2 y3 y4 y5))∧(∀ y0 y1 y2 y3 y4 y5,LeO (spec_OpenSpans.l0 k y0 y1 y2 y3 y4 y5) (spec_OpenSpans.l0 (k + 1) y0 y1 y2 y3 y4 y5))∧(∀ y0 y1 y2 y3 y4 y5 y6,LeO (spec_OpenSpans.j2 k y0 y1 y2 y3 y4 y5 y6) (spec_OpenSpans.j2 (k + 1) y0 y1 y2 y3 y4 y5 y6))
 | 0=>⟨fun _ _ _ _ _ _ r h=>by simp [spec_OpenSpans.j0] at h,fun _ _ _ _ _ _ r h=>by simp [spec_OpenSpans.l0] at h,fun _ _ _ _ _ _ _ r h=>by simp [spec_OpenSpans.j2] at h⟩
 | k + 1=>by
  obtain ⟨ih0,ih1,ih2⟩:=spec_OpenSpans.mono_l k
  refine ⟨?_,?_,?_⟩
  ·intro y0 y1 y2 y3 y4 y5
   unfold spec_OpenSpans.j0
   repeat' first
   | (with_reducible exact ih0 _ _ _ _ _ _)
   | (with_reducible exact ih1 _ _ _ _ _ _)
   | (with_reducible exact ih2 _ _ _ _ _ _ _)
   | (with_reducible exact spec_l23Good.mono _ _)
   | (with_reducible exact spec_l23Open.mono _ _ _ _ _ _)
   | (with_reducible exact spec_l23Within.mono _ _ _)
   | (with_reducible exact LeO.refl _)
   | (with_reducible exact LeO.none _)
   | (with_reducible refine LeO.ite ?_ ?_)
   | (with_reducible refine LeO.bind ?_ (fun _=>?_))
   | exact ih0 _ _ _ _ _ _
   | exact ih1 _ _ _ _ _ _
   | exact ih2 _ _ _ _ _ _ _
  ·intro y0 y1 y2 y3 y4 y5
   unfold spec_OpenSpans.l0
   repeat' first
   | (with_reducible exact ih0 _ _ _ _ _ _)
   | (with_reducible exact ih1 _ _ _ _ _ _)
   | (with_reducible exact ih2 _ _ _ _ _ _ _)
   | (with_reducible exact spec_l23Good.mono _ _)
   | (with_reducible exact spec_l23Open.mono _ _ _ _ _ _)
   | (with_reducible exact spec_l23Within.mono _ _ _)
   | (with_reducible exact LeO.refl _)
   | (with_reducible exact LeO.none _)
   | (with_reducible refine LeO.ite ?_ ?_)
   | (with_reducible refine LeO.bind ?_ (fun _=>?_))
   | exact ih0 _ _ _ _ _ _
   | exact ih1 _ _ _ _ _ _
   | exact ih2 _ _ _ _ _ _ _
  ·intro y0 y1 y2 y3 y4 y5 y6
   unfold spec_OpenSpans.j2
   repeat' first
   | (with_reducible exact ih0 _ _ _ _ _ _)
   | (with_reducible exact ih1 _ _ _ _ _ _)
   | (with_reducible exact ih2 _ _ _ _ _ _ _)
   | (with_reducible exact spec_l23Good.mono _ _)
   | (with_reducible exact spec_l23Open.mono _ _ _ _ _ _)
   | (with_reducible exact spec_l23Within.mono _ _ _)
   | (with_reducible exact LeO.refl _)
   | (with_reducible exact LeO.none _)
   | (with_reducible refine LeO.ite ?_ ?_)
   | (with_reducible refine LeO.bind ?_ (fun _=>?_))
   | exact ih0 _ _ _ _ _ _
   | exact ih1 _ _ _ _ _ _
   | exact ih2 _ _ _ _ _ _ _
theorem spec_OpenSpans.mono : ∀ a0 a1 a2 a3 k,LeO (spec_OpenSpans.f k a0 a1 a2 a3) (spec_OpenSpans.f (k + 1) a0 a1 a2 a3):=by
 intro a0 a1 a2 a3 k
 obtain ⟨ih0,ih1,ih2⟩:=spec_OpenSpans.mono_l k
 unfold spec_OpenSpans.f
 repeat' first
   | (with_reducible exact ih0 _ _ _ _ _ _)
   | (with_reducible exact ih1 _ _ _ _ _ _)
   | (with_reducible exact ih2 _ _ _ _ _ _ _)
   | (with_reducible exact spec_l23Good.mono _ _)
   | (with_reducible exact spec_l23Open.mono _ _ _ _ _ _)
   | (with_reducible exact spec_l23Within.mono _ _ _)
   | (with_reducible exact LeO.refl _)
   | (with_reducible exact LeO.none _)
   | (with_reducible refine LeO.ite ?_ ?_)
   | (with_reducible refine LeO.bind ?_ (fun _=>?_))
   | exact ih0 _ _ _ _ _ _
   | exact ih1 _ _ _ _ _ _
   | exact ih2 _ _ _ _ _ _ _
set_option maxHeartbeats 8000000 in
set_option maxRecDepth 100000 in
theorem spec_OpenSpans.calls (k : Nat) (A0 : Option Addr) (c0 : Nat) (l0 : List (S30)) (a1_0 : Int) (a1_1 : Int) (a1_2 : Int) (r1 : List (List Int)) (r2 : Bool) (w : World) (hr0 : Kd.C k30 w A0 l0.length l0) (hc0 : l0.length≤c0) (h : spec_OpenSpans.f k l0 a1_0 a1_1 a1_2=some (r1,r2)) :
  Calls Try.prog 18 #[.slice A0 l0.length c0,.agg #[.int .i64 a1_0,.int .i64 a1_1,.int .i64 a1_2]] w fun e w'=>∃ v0_ : Value,e = .returned (.tuple #[v0_,.bool r2])∧Kd.S (Kd.slice 3 (Kd.int .i64)) 63 w' w.heap.size (fun _=>True) v0_ r1∧Below w.heap.size w w':=by
 have hu44:=Try.underlying44
 have HR0:=amk hr0
 have HC0:=amk hc0
 clear hr0 hc0
 have HB:=amk (Below.refl w.heap.size w)
 have H : ((some (([] : List (List Int)) : List (List Int))).bind fun y333=>((spec_l23Good.f k l0).bind fun t336=>(if t336=true then ((spec_l23Sump.f a1_0 a1_1 a1_2).bind fun t337=>(spec_OpenSpans.j0 k l0 y333 (!t337) a1_0 a1_1 a1_2)) else (spec_OpenSpans.j0 k l0 y333 true a1_0 a1_1 a1_2))))=some (r1,r2):=h
 clear h
 obtain ⟨y333,hy333⟩ : ∃ y_ : List (List Int),y_=(([] : List (List Int))):=⟨_,rfl⟩
 replace H : ((spec_l23Good.f k l0).bind fun t336=>(if t336=true then ((spec_l23Sump.f a1_0 a1_1 a1_2).bind fun t337=>(spec_OpenSpans.j0 k l0 y333 (!t337) a1_0 a1_1 a1_2)) else (spec_OpenSpans.j0 k l0 y333 true a1_0 a1_1 a1_2)))=some (r1,r2):=by first | (rw [hy333];with_reducible exact H)|(have H2_:=(Option.bind_some _ _).symm.trans H;rw [hy333];with_reducible exact H2_)|(have H2_:=(Option.bind_some _ _).symm.trans H;with_reducible exact H2_) | with_reducible exact H | (rw [hy333];exact H) | exact H
 have Ny333:=amk hy333
 clear hy333
 have HC3:=amk H
 clear H
 go_enter Try.func18,Try.ntmps18
 go_upto_region 2 with (first | ((with_reducible refine gate_dst (N:=3) rfl ?_);refine box_event ?hg (N:=3) ?hd (cs:=#[.int .i64 a1_0,.int .i64 a1_1,.int .i64 a1_2]) (t:=44) ?hr ?_;(case hd=>rfl);(case hg=>rfl);(case hr=>first | (go_simp;done)|(go_simp;rfl));intro gb332 hg w4 hbox hb;have BK332:=amk (hbox);have GW332:=amk ((by rw [hg];exact (below_size (bel HB)) : w.heap.size≤gb332));have GE332:=amk ((by rw [hg];exact (below_size (bel HB)) : w.heap.size≤gb332));replace HB:=amk (below_step (bel HB) hb);clear hb hbox hg)|((with_reducible refine gate_dst (N:=9) rfl ?_);refine Kd.S_lit (Kd.slice 3 (Kd.int .i64)) _ 63 ?hg (N:=9) ?hd (xs:=([] : List (List Int))) (inner:=[]) (ok:=fun _=>True) (okp:=fun _=>True) ?hr ?hp (fun _ hk=>hk) trivial (Below.refl _ _) (Nat.le_refl _) (by simp) ?_;(case hd=>rfl);(case hg=>rfl);(case hr=>first | (go_simp;done)|(go_simp;rfl));(case hp=>exact (Reps.none _ _));intro v334 w5 ho6 hb hg_ hnew_;clear hg_ hnew_;(first | rw [← Ny333.out] at ho6 | (simp only [Int.reduceToNat] at ho6;rw [← Ny333.out] at ho6));have HO335:=amk (Kd.S_lower ho6 (below_size (bel1 HB GE332.out)));replace BK332:=amk (blk_below (g:=gb332) (o:=.cells #[.int .i64 a1_0,.int .i64 a1_1,.int .i64 a1_2] 44 (0,0)) (bkk BK332) hb);replace HB:=amk (below_step (bel1 HB GE332.out) hb);clear hb ho6))
 (try simp only [Act.put,List.setIfInBounds_toArray,List.set_cons_zero,List.set_cons_succ])
 go_cut [17] (fun v17 wc=>∃ (kq : Nat) (x17_2 : Bool),v17 = .bool x17_2∧Aside0 (spec_OpenSpans.j0 kq l0 y333 x17_2 a1_0 a1_1 a1_2=some (r1,r2))∧Aside0 (kq≤k)∧Aside0 (Kd.S (Kd.slice 3 (Kd.int .i64)) 63 wc w.heap.size (fun _=>True) v334 y333)∧Aside0 (wc.heap[gb332]? = some (.cells #[.int .i64 a1_0,.int .i64 a1_1,.int .i64 a1_2] 44 (0,0)))∧Aside0 (Below w.heap.size w wc))
 case first=>
  have H:=HC3.out
  clear HC3
  replace H:=obs H
  obtain ⟨t336,A70,H⟩:=H
  replace H : (if t336=true then ((spec_l23Sump.f a1_0 a1_1 a1_2).bind fun t337=>(spec_OpenSpans.j0 k l0 y333 (!t337) a1_0 a1_1 a1_2)) else (spec_OpenSpans.j0 k l0 y333 true a1_0 a1_1 a1_2))=some (r1,r2):=H
  have A7:=amk A70
  clear A70
  by_cases c8 : t336=true
  ·subst c8
   have H1 : ((spec_l23Sump.f a1_0 a1_1 a1_2).bind fun t337=>(spec_OpenSpans.j0 k l0 y333 (!t337) a1_0 a1_1 a1_2))=some (r1,r2):=by rw [if_pos rfl] at H;exact H
   clear H
   have H:=H1
   clear H1
   replace H:=obs H
   obtain ⟨t337,A90,H⟩:=H
   replace H : (spec_OpenSpans.j0 k l0 y333 (!t337) a1_0 a1_1 a1_2)=some (r1,r2):=H
   have A9:=amk A90
   clear A90
   have H':=amk H
   clear H
   go_wp2_with (first | ((with_reducible refine gate_callee (f:=53) rfl ?_);refine goesL_ (some 11) rfl rfl Try.func53 (by kernel_rfl) rfl #[.slice A0 l0.length c0] rfl mtt ?_;(with_reducible refine (spec_l23Good.calls k _ _ l0 true _ ?side1 ?side2 A7.out).mono ?_);(case side1=>exact ccc (Kd.C_below HR0.out HB.out));(case side2=>exact HC0.out);rintro e w10 ⟨rfl,hb⟩;refine ⟨_,rfl,?_⟩;replace HO335:=amk (Kd.S_below (sss HO335) hb);replace BK332:=amk (blk_below (g:=gb332) (o:=.cells #[.int .i64 a1_0,.int .i64 a1_1,.int .i64 a1_2] 44 (0,0)) (bkk BK332) hb);replace HB:=amk (below_step (bel1 HB GE332.out) hb);(try clear hb);have hcz11_0 : w10.cell? ⟨gb332,0,none⟩=some (.int .i64 a1_0):=(blk_cell BK332.out 0).trans rfl;have hcz11_1 : w10.cell? ⟨gb332,1,none⟩=some (.int .i64 a1_1):=(blk_cell BK332.out 1).trans rfl;have hcz11_2 : w10.cell? ⟨gb332,2,none⟩=some (.int .i64 a1_2):=(blk_cell BK332.out 2).trans rfl;have hfz11_0:=blk_frozen BK332.out 0;have hfz11_1:=blk_frozen BK332.out 1;have hfz11_2:=blk_frozen BK332.out 2)|(go_at_call 59;(with_reducible refine (spec_l23Sump.calls a1_0 a1_1 a1_2 t337 _ A9.out).mono ?_);rintro e w12 ⟨rfl,hb⟩;replace HO335:=amk (Kd.S_below (sss HO335) hb);replace BK332:=amk (blk_below (g:=gb332) (o:=.cells #[.int .i64 a1_0,.int .i64 a1_1,.int .i64 a1_2] 44 (0,0)) (bkk BK332) hb);replace HB:=amk (below_step (bel1 HB GE332.out) hb);(try clear hb)))
   go_meet
   case rel=>exact ⟨_,(!t337),rsd,H',⟨by first | omega | exact Nat.le_refl _⟩,⟨sss HO335⟩,⟨by (with_reducible repeat (first | refine blk_drewN ?_ _ | refine blk_drew ?_ | refine blk_alloc ?_ _));exact BK332.out⟩,⟨bel1 HB GE332.out⟩⟩
  ·replace c8:=Bool.eq_false_iff.mpr c8
   subst c8
   have H1 : (spec_OpenSpans.j0 k l0 y333 true a1_0 a1_1 a1_2)=some (r1,r2):=by rw [if_neg (show ¬ (false=true) by decide)] at H;exact H
   clear H
   have H:=H1
   clear H1
   have H':=amk H
   clear H
   go_wp2_with (first | ((with_reducible refine gate_callee (f:=53) rfl ?_);refine goesL_ (some 11) rfl rfl Try.func53 (by kernel_rfl) rfl #[.slice A0 l0.length c0] rfl mtt ?_;(with_reducible refine (spec_l23Good.calls k _ _ l0 false _ ?side1 ?side2 A7.out).mono ?_);(case side1=>exact ccc (Kd.C_below HR0.out HB.out));(case side2=>exact HC0.out);rintro e w13 ⟨rfl,hb⟩;refine ⟨_,rfl,?_⟩;replace HO335:=amk (Kd.S_below (sss HO335) hb);replace BK332:=amk (blk_below (g:=gb332) (o:=.cells #[.int .i64 a1_0,.int .i64 a1_1,.int .i64 a1_2] 44 (0,0)) (bkk BK332) hb);replace HB:=amk (below_step (bel1 HB GE332.out) hb);(try clear hb)))
   go_meet
   case rel=>exact ⟨_,(true),rsd,H',⟨by first | omega | exact Nat.le_refl _⟩,⟨sss HO335⟩,⟨by (with_reducible repeat (first | refine blk_drewN ?_ _ | refine blk_drew ?_ | refine blk_alloc ?_ _));exact BK332.out⟩,⟨bel1 HB GE332.out⟩⟩
 case rest=>
  clear HC3
  try clear c1
  try clear p2
  try clear c5
  try clear c8
  try clear hcz11_0
  try clear hcz11_1
  try clear hcz11_2
  try clear hfz11_0
  try clear hfz11_1
  try clear hfz11_2
  obtain ⟨kq,x17_2,rfl,HA,HJ2,HO_6,BK332,HB⟩:=hcut
  cases kq with
  | zero=>exact absurd HA.out (by simp [spec_OpenSpans.j0])
  | succ kj2=>
   have H:=HA.out
   clear HA
   simp only [spec_OpenSpans.j0] at H
   by_cases c14 : x17_2=true
   ·subst c14
    have H1 : (some (y333,false))=some (r1,r2):=by rw [if_pos rfl] at H;exact H
    clear H
    have H:=H1
    clear H1
    simp only [Option.some.injEq,Prod.mk.injEq] at H
    obtain ⟨rfl,rfl⟩:=H
    go_wp2
    go_ret2
    exact ⟨_,erw0,sss HO_6,bel1 HB GE332.out⟩
   ·replace c14:=Bool.eq_false_iff.mpr c14
    subst c14
    have H1 : (spec_OpenSpans.l0 kj2 l0 y333 0 a1_0 a1_1 a1_2)=some (r1,r2):=by rw [if_neg (show ¬ (false=true) by decide)] at H;exact H
    clear H
    have H:=H1
    clear H1
    have H':=amk H
    clear H
    go_wp2
    go_loopg [6,7] kj2 (fun kq v6 v7 w'=>∃ (x6_2 : List (List Int)) (x7_2 : Int),v7 = .int .i64 x7_2∧Aside0 (spec_OpenSpans.l0 kq l0 x6_2 x7_2 a1_0 a1_1 a1_2=some (r1,r2))∧Aside0 (kq≤kj2)∧Aside0 (Kd.S (Kd.slice 3 (Kd.int .i64)) 63 w' w.heap.size (fun _=>True) v6 x6_2)∧Aside0 (w'.heap[gb332]? = some (.cells #[.int .i64 a1_0,.int .i64 a1_1,.int .i64 a1_2] 44 (0,0)))∧Aside0 (Below w.heap.size w w'))
    case atStart=>exact ⟨(y333),(0),rsd,H',⟨Nat.le_refl _⟩,⟨sss HO_6⟩,⟨by (with_reducible repeat (first | refine blk_drewN ?_ _ | refine blk_drew ?_ | refine blk_alloc ?_ _));exact BK332.out⟩,⟨bel1 HB GE332.out⟩⟩
    case round=>
     clear H'
     try clear c1
     try clear p2
     try clear c5
     try clear c8
     try clear c14
     try clear hcz11_0
     try clear hcz11_1
     try clear hcz11_2
     try clear hfz11_0
     try clear hfz11_1
     try clear hfz11_2
     try clear p2
     obtain ⟨x6_2,x7_2,rfl,HA,HK2,HO_6,BK332,HB⟩:=hrel
     cases gk with
     | zero=>exact absurd HA.out (by simp [spec_OpenSpans.l0])
     | succ k2=>
      have H:=HA.out
      clear HA
      simp only [spec_OpenSpans.l0] at H
      by_cases c15 : x7_2≤999
      ·rw [if_pos c15] at H
       have c15b0 : decide (x7_2≤999)=true:=decide_eq_true c15
       clear c15
       have HC16:=amk H
       clear H
       go_upto_region 7 with (fail)
       go_cut [33] (fun v33 wc=>∃ (kq : Nat) (x33_15 : Bool),v33 = .bool x33_15∧Aside0 (spec_OpenSpans.j2 kq l0 x6_2 x7_2 x33_15 a1_0 a1_1 a1_2=some (r1,r2))∧Aside0 (kq≤k2)∧Aside0 (Kd.S (Kd.slice 3 (Kd.int .i64)) 63 wc w.heap.size (fun _=>True) u6 x6_2)∧Aside0 (wc.heap[gb332]? = some (.cells #[.int .i64 a1_0,.int .i64 a1_1,.int .i64 a1_2] 44 (0,0)))∧Aside0 (Below w.heap.size w wc))
       case first=>
        have H:=HC16.out
        clear HC16
        replace H:=obs H
        obtain ⟨t338,A170,H⟩:=H
        replace H : (if t338=true then ((spec_l23Open.f k2 l0 a1_0 a1_1 a1_2 x7_2).bind fun t339=>(spec_OpenSpans.j2 k2 l0 x6_2 x7_2 (!t339) a1_0 a1_1 a1_2)) else (spec_OpenSpans.j2 k2 l0 x6_2 x7_2 true a1_0 a1_1 a1_2))=some (r1,r2):=H
        have A17:=amk A170
        clear A170
        by_cases c18 : t338=true
        ·subst c18
         have H1 : ((spec_l23Open.f k2 l0 a1_0 a1_1 a1_2 x7_2).bind fun t339=>(spec_OpenSpans.j2 k2 l0 x6_2 x7_2 (!t339) a1_0 a1_1 a1_2))=some (r1,r2):=by rw [if_pos rfl] at H;exact H
         clear H
         have H:=H1
         clear H1
         replace H:=obs H
         obtain ⟨t339,A190,H⟩:=H
         replace H : (spec_OpenSpans.j2 k2 l0 x6_2 x7_2 (!t339) a1_0 a1_1 a1_2)=some (r1,r2):=H
         have A19:=amk A190
         clear A190
         have H':=amk H
         clear H
         go_wp2_with (first | ((with_reducible refine gate_callee (f:=51) rfl ?_);refine goesL_ (some 25) rfl rfl Try.func51 (by kernel_rfl) rfl #[.slice A0 l0.length c0,.int .i64 x7_2] rfl mtt ?_;(with_reducible refine (spec_l23Within.calls k2 _ _ l0 x7_2 true _ ?side1 ?side2 A17.out).mono ?_);(case side1=>exact ccc (Kd.C_below HR0.out HB.out));(case side2=>exact HC0.out);rintro e w20 ⟨rfl,hb⟩;refine ⟨_,rfl,?_⟩;replace HO_6:=amk (Kd.S_below (sss HO_6) hb);replace BK332:=amk (blk_below (g:=gb332) (o:=.cells #[.int .i64 a1_0,.int .i64 a1_1,.int .i64 a1_2] 44 (0,0)) (bkk BK332) hb);replace HB:=amk (below_step (bel1 HB GE332.out) hb);(try clear hb);have hcz21_0 : w20.cell? ⟨gb332,0,none⟩=some (.int .i64 a1_0):=(blk_cell BK332.out 0).trans rfl;have hcz21_1 : w20.cell? ⟨gb332,1,none⟩=some (.int .i64 a1_1):=(blk_cell BK332.out 1).trans rfl;have hcz21_2 : w20.cell? ⟨gb332,2,none⟩=some (.int .i64 a1_2):=(blk_cell BK332.out 2).trans rfl;have hfz21_0:=blk_frozen BK332.out 0;have hfz21_1:=blk_frozen BK332.out 1;have hfz21_2:=blk_frozen BK332.out 2)|(go_at_call 60;(with_reducible refine (spec_l23Open.calls k2 _ _ l0 a1_0 a1_1 a1_2 x7_2 t339 _ ?side1 ?side2 A19.out).mono ?_);(case side1=>exact ccc (Kd.C_below HR0.out HB.out));(case side2=>exact HC0.out);rintro e w22 ⟨rfl,hb⟩;replace HO_6:=amk (Kd.S_below (sss HO_6) hb);replace BK332:=amk (blk_below (g:=gb332) (o:=.cells #[.int .i64 a1_0,.int .i64 a1_1,.int .i64 a1_2] 44 (0,0)) (bkk BK332) hb);replace HB:=amk (below_step (bel1 HB GE332.out) hb);(try clear hb)))
         go_meet
         case rel=>exact ⟨_,(!t339),rsd,H',⟨by have:=HJ2.out;have:=HK2.out;first | omega | exact Nat.le_refl _⟩,⟨sss HO_6⟩,⟨by (with_reducible repeat (first | refine blk_drewN ?_ _ | refine blk_drew ?_ | refine blk_alloc ?_ _));exact BK332.out⟩,⟨bel1 HB GE332.out⟩⟩
        ·replace c18:=Bool.eq_false_iff.mpr c18
         subst c18
         have H1 : (spec_OpenSpans.j2 k2 l0 x6_2 x7_2 true a1_0 a1_1 a1_2)=some (r1,r2):=by rw [if_neg (show ¬ (false=true) by decide)] at H;exact H
         clear H
         have H:=H1
         clear H1
         have H':=amk H
         clear H
         go_wp2_with (first | ((with_reducible refine gate_callee (f:=51) rfl ?_);refine goesL_ (some 25) rfl rfl Try.func51 (by kernel_rfl) rfl #[.slice A0 l0.length c0,.int .i64 x7_2] rfl mtt ?_;(with_reducible refine (spec_l23Within.calls k2 _ _ l0 x7_2 false _ ?side1 ?side2 A17.out).mono ?_);(case side1=>exact ccc (Kd.C_below HR0.out HB.out));(case side2=>exact HC0.out);rintro e w23 ⟨rfl,hb⟩;refine ⟨_,rfl,?_⟩;replace HO_6:=amk (Kd.S_below (sss HO_6) hb);replace BK332:=amk (blk_below (g:=gb332) (o:=.cells #[.int .i64 a1_0,.int .i64 a1_1,.int .i64 a1_2] 44 (0,0)) (bkk BK332) hb);replace HB:=amk (below_step (bel1 HB GE332.out) hb);(try clear hb)))
         go_meet
         case rel=>exact ⟨_,(true),rsd,H',⟨by have:=HJ2.out;have:=HK2.out;first | omega | exact Nat.le_refl _⟩,⟨sss HO_6⟩,⟨by (with_reducible repeat (first | refine blk_drewN ?_ _ | refine blk_drew ?_ | refine blk_alloc ?_ _));exact BK332.out⟩,⟨bel1 HB GE332.out⟩⟩
       case rest=>
        clear HC16
        try clear c1
        try clear p2
        try clear c5
        try clear c8
        try clear c14
        try clear c15
        try clear c15b0
        try clear c18
        try clear hcz11_0
        try clear hcz11_1
        try clear hcz11_2
        try clear hcz21_0
        try clear hcz21_1
        try clear hcz21_2
        try clear hfz11_0
        try clear hfz11_1
        try clear hfz11_2
        try clear hfz21_0
        try clear hfz21_1
        try clear hfz21_2
        try clear p2
        obtain ⟨kq,x33_15,rfl,HA,HJ15,HO_6,BK332,HB⟩:=hcut
        cases kq with
        | zero=>exact absurd HA.out (by simp [spec_OpenSpans.j2])
        | succ kj15=>
         have H:=HA.out
         clear HA
         simp only [spec_OpenSpans.j2] at H
         by_cases c24 : x33_15=true
         ·subst c24
          have H1 : (spec_OpenSpans.l0 kj15 l0 x6_2 (wrap64 (x7_2 + 1)) a1_0 a1_1 a1_2)=some (r1,r2):=by rw [if_pos rfl] at H;exact H
          clear H
          have H:=H1
          clear H1
          have H':=amk H
          clear H
          go_wp2
          go_roundg kj15
          case measure=>have:=HJ2.out;have:=HK2.out;have:=HJ15.out;omega
          case rel=>exact ⟨(x6_2),(wrap64 (x7_2 + 1)),rsd,H',⟨by have:=HJ2.out;have:=HK2.out;have:=HJ15.out;omega⟩,⟨sss HO_6⟩,⟨by (with_reducible repeat (first | refine blk_drewN ?_ _ | refine blk_drew ?_ | refine blk_alloc ?_ _));exact BK332.out⟩,⟨bel1 HB GE332.out⟩⟩
         ·replace c24:=Bool.eq_false_iff.mpr c24
          subst c24
          have H1 : (if (x6_2.length : Int) > 0 then (if 0≤(wrap64 ((x6_2.length : Int) - 1)) then (if (wrap64 ((x6_2.length : Int) - 1)) < (x6_2.length : Int) then (if 1 < ((rd_L4 x6_2 (wrap64 ((x6_2.length : Int) - 1))).length : Int) then (if (rd (rd_L4 x6_2 (wrap64 ((x6_2.length : Int) - 1))) 1)=(wrap64 (x7_2 - 1)) then (if 0 < ((rd_L4 x6_2 (wrap64 ((x6_2.length : Int) - 1))).length : Int) then (spec_OpenSpans.l0 kj15 l0 (x6_2.set ((wrap64 ((x6_2.length : Int) - 1)) : Int).toNat (([rd (rd_L4 x6_2 (wrap64 ((x6_2.length : Int) - 1))) 0,x7_2] : List Int))) (wrap64 (x7_2 + 1)) a1_0 a1_1 a1_2) else (none)) else (if x6_2.length < 5864062014805 then (spec_OpenSpans.l0 kj15 l0 (x6_2 ++ [(([x7_2,x7_2] : List Int))]) (wrap64 (x7_2 + 1)) a1_0 a1_1 a1_2) else (none))) else (none)) else (none)) else (none)) else (if x6_2.length < 5864062014805 then (spec_OpenSpans.l0 kj15 l0 (x6_2 ++ [(([x7_2,x7_2] : List Int))]) (wrap64 (x7_2 + 1)) a1_0 a1_1 a1_2) else (none)))=some (r1,r2):=by rw [if_neg (show ¬ (false=true) by decide)] at H;exact H
          clear H
          have H:=H1
          clear H1
          by_cases c25 : (x6_2.length : Int) > 0
          ·rw [if_pos c25] at H
           have c25b0 : decide (0 < (x6_2.length : Int))=true:=decide_eq_true c25
           have c25b1 : decide (0 < x6_2.length)=true:=decide_eq_true (by omega)
           clear c25
           obtain ⟨ji26,hji26⟩ : ∃ j_ : Int,(wrap64 ((x6_2.length : Int) - 1))=j_:=⟨_,rfl⟩
           replace H : (if 0≤(ji26) then (if (ji26) < (x6_2.length : Int) then (if 1 < ((rd_L4 x6_2 (ji26)).length : Int) then (if (rd (rd_L4 x6_2 (ji26)) 1)=(wrap64 (x7_2 - 1)) then (if 0 < ((rd_L4 x6_2 (ji26)).length : Int) then (spec_OpenSpans.l0 kj15 l0 (x6_2.set ((ji26) : Int).toNat (([rd (rd_L4 x6_2 (ji26)) 0,x7_2] : List Int))) (wrap64 (x7_2 + 1)) a1_0 a1_1 a1_2) else (none)) else (if x6_2.length < 5864062014805 then (spec_OpenSpans.l0 kj15 l0 (x6_2 ++ [(([x7_2,x7_2] : List Int))]) (wrap64 (x7_2 + 1)) a1_0 a1_1 a1_2) else (none))) else (none)) else (none)) else (none))=some (r1,r2):=by first | (rw [hji26] at H;exact H)|(simp only [hji26] at H ⊢;exact H)
           have hji26w : (IntKind.i64.wrap ((x6_2.length : Int) - 1))=ji26:=(i64_w _).trans hji26
           by_cases c27 : 0≤(ji26)
           ·rw [if_pos c27] at H
            have c27b0 : decide (0≤(ji26))=true:=decide_eq_true c27
            clear c27
            by_cases c28 : (ji26) < (x6_2.length : Int)
            ·rw [if_pos c28] at H
             have c28b0 : decide ((ji26) < (x6_2.length : Int))=true:=decide_eq_true c28
             clear c28
             by_cases c29 : 1 < ((rd_L4 x6_2 (ji26)).length : Int)
             ·rw [if_pos c29] at H
              have c29b0 : decide (1 < ((rd_L4 x6_2 (ji26)).length : Int))=true:=decide_eq_true c29
              have c29b1 : decide (1 < (rd_L4 x6_2 (ji26)).length)=true:=decide_eq_true (by omega)
              clear c29
              by_cases c30 : (rd (rd_L4 x6_2 (ji26)) 1)=(wrap64 (x7_2 - 1))
              ·rw [if_pos c30] at H
               have c30b0 : ((rd (rd_L4 x6_2 (ji26)) 1) == (wrap64 (x7_2 - 1)))=true:=beq_iff_eq.mpr c30
               have c30b1 : ((rd (rd_L4 x6_2 (ji26)) 1) != (wrap64 (x7_2 - 1)))=false:=bne_eq_false_iff_eq.mpr c30
               clear c30
               by_cases c31 : 0 < ((rd_L4 x6_2 (ji26)).length : Int)
               ·rw [if_pos c31] at H
                have c31b0 : decide (0 < ((rd_L4 x6_2 (ji26)).length : Int))=true:=decide_eq_true c31
                have c31b1 : decide (0 < (rd_L4 x6_2 (ji26)).length)=true:=decide_eq_true (by omega)
                clear c31
                obtain ⟨y344,hy344⟩ : ∃ y_ : List Int,y_=(([rd (rd_L4 x6_2 (ji26)) 0,x7_2] : List Int)):=⟨_,rfl⟩
                replace H : (spec_OpenSpans.l0 kj15 l0 (x6_2.set ((ji26) : Int).toNat y344) (wrap64 (x7_2 + 1)) a1_0 a1_1 a1_2)=some (r1,r2):=by first | (rw [hy344];with_reducible exact H)|(have H2_:=(Option.bind_some _ _).symm.trans H;rw [hy344];with_reducible exact H2_)|(have H2_:=(Option.bind_some _ _).symm.trans H;with_reducible exact H2_) | with_reducible exact H | (rw [hy344];exact H) | exact H
                have Ny344:=amk hy344
                clear hy344
                obtain ⟨y347,hy347⟩ : ∃ y_ : List (List Int),y_=(x6_2.set ((ji26) : Int).toNat y344):=⟨_,rfl⟩
                replace H : (spec_OpenSpans.l0 kj15 l0 y347 (wrap64 (x7_2 + 1)) a1_0 a1_1 a1_2)=some (r1,r2):=by first | (rw [hy347];with_reducible exact H)|(have H2_:=(Option.bind_some _ _).symm.trans H;rw [hy347];with_reducible exact H2_)|(have H2_:=(Option.bind_some _ _).symm.trans H;with_reducible exact H2_) | with_reducible exact H | (rw [hy347];exact H) | exact H
                have Ny347:=amk hy347
                clear hy347
                have H':=amk H
                clear H
                obtain ⟨Ao33,co33,eo33⟩:=Kd.S_slice HO_6.out
                subst eo33
                have p340 : 0≤((ji26) : Int):=of_decide_eq_true ass
                have q340 : (ji26) < (x6_2.length : Int):=of_decide_eq_true ass
                obtain ⟨ad340,A340_0,c340_0,e340,hx340_0,hl340_0,hi340_0⟩:=at_L4 (Kd.S_reads' HO_6.out).2.2 (ji26) p340 q340
                cases e340
                obtain ⟨ce340,hce340,hMe340,hcc340⟩:=Kd.S_get HO_6.out [] (ji26) p340 (by first | exact q340 | exact of_decide_eq_true ass | (have e_:=(Kd.S_reads' HO_6.out).1;omega))
                obtain ⟨ve340_0,rfl,ge340_0⟩:=hMe340
                have hv340_0:=hcc340 0 _ rfl
                rw [Nat.add_zero,show ((Kd.slice 3 (Kd.int .i64))).sz=1 from rfl,Nat.mul_one] at hv340_0
                replace hv340_0:=Option.some.inj (hv340_0.symm.trans hx340_0)
                rw [hv340_0] at ge340_0
                have HL340_0:=amk (show Kd.R (Kd.int .i64) 3 _ _ _ _ (rd_L4 x6_2 (ji26)) from ge340_0)
                clear hv340_0 ge340_0
                clear hcc340 hce340
                have HR340_0:=amk hi340_0
                have HC340_0:=amk hl340_0
                clear hi340_0 hl340_0
                replace p340:=eq_true p340
                replace q340:=eq_true q340
                have p341 : 0≤(1 : Int):=(by omega)
                have q341 : 1 < ((rd_L4 x6_2 (ji26)).length : Int):=of_decide_eq_true ass
                obtain ⟨ad341,e341,hx341_0⟩:=Kd.at_int (by repeat (first | (with_reducible exact HR340_0.out)|(with_reducible refine Kd.C_alloc ?_ _)|(with_reducible refine Kd.C_drewN ?_ _)|(with_reducible refine Kd.C_drew ?_) | exact HR340_0.out)) 1 p341 q341
                cases e341
                (try simp only [show (1 : Int).toNat=1 from rfl,Nat.reduceMul,Nat.reduceEqDiff,Go.Addr.add,↓reduceIte] at hx341_0)
                have qi341 : (1 < (rd_L4 x6_2 (ji26)).length)=True:=eq_true (by omega)
                (try rw [show ((1 : Int)).toNat=1 from rfl] at hx341_0)
                replace p341:=eq_true p341
                replace q341:=eq_true q341
                have p342 : 0≤((ji26) : Int):=of_decide_eq_true ass
                have q342 : (ji26) < (x6_2.length : Int):=of_decide_eq_true ass
                obtain ⟨ad342,A342_0,c342_0,e342,hx342_0,hl342_0,hi342_0⟩:=at_L4 (Kd.S_reads' HO_6.out).2.2 (ji26) p342 q342
                obtain rfl : ad340=ad342:=(by injection e342)
                obtain ⟨ce342,hce342,hMe342,hcc342⟩:=Kd.S_get HO_6.out [] (ji26) p342 (by first | exact q342 | exact of_decide_eq_true ass | (have e_:=(Kd.S_reads' HO_6.out).1;omega))
                obtain ⟨ve342_0,rfl,ge342_0⟩:=hMe342
                have hv342_0:=hcc342 0 _ rfl
                rw [Nat.add_zero,show ((Kd.slice 3 (Kd.int .i64))).sz=1 from rfl,Nat.mul_one] at hv342_0
                replace hv342_0:=Option.some.inj (hv342_0.symm.trans hx342_0)
                rw [hv342_0] at ge342_0
                have HL342_0:=amk (show Kd.R (Kd.int .i64) 3 _ _ _ _ (rd_L4 x6_2 (ji26)) from ge342_0)
                clear hv342_0 ge342_0
                clear hcc342 hce342
                have HR342_0:=amk hi342_0
                have HC342_0:=amk hl342_0
                clear hi342_0 hl342_0
                replace p342:=eq_true p342
                replace q342:=eq_true q342
                have ea_:=Option.some.inj (hx340_0.symm.trans hx342_0)
                injection ea_ with ea_ en_ ec_
                subst ea_
                subst ec_
                clear en_
                have p343 : 0≤(0 : Int):=(by omega)
                have q343 : 0 < ((rd_L4 x6_2 (ji26)).length : Int):=of_decide_eq_true ass
                obtain ⟨ad343,e343,hx343_0⟩:=Kd.at_int (by repeat (first | (with_reducible exact HR342_0.out)|(with_reducible refine Kd.C_alloc ?_ _)|(with_reducible refine Kd.C_drewN ?_ _)|(with_reducible refine Kd.C_drew ?_) | exact HR342_0.out)) 0 p343 q343
                cases e343
                have qi343 : (0 < (rd_L4 x6_2 (ji26)).length)=True:=eq_true (by omega)
                (try rw [show ((0 : Int)).toNat=0 from rfl] at hx343_0)
                (try rw [Addr.add_zero'] at hx343_0)
                replace p343:=eq_true p343
                replace q343:=eq_true q343
                go_wp2_with (first | ((with_reducible refine gate_dst (N:=61) rfl ?_);refine Kd.R_lit (Kd.int .i64) _ 3 ?hg (N:=61) ?hd (xs:=([rd (rd_L4 x6_2 (ji26)) 0,x7_2] : List Int)) (inner:=[.int .i64 (rd (rd_L4 x6_2 (ji26)) 0),.int .i64 x7_2]) (ok:=fun _=>True) (okp:=fun _=>True) ?hr ?hp (fun _ hk=>hk) trivial (Below.refl _ _) (Nat.le_refl _) (by simp) ?_;(case hd=>rfl);(case hg=>rfl);(case hr=>first | (go_simp;done)|(go_simp;rfl));(case hp=>exact (Reps.one (show Kd.M (Kd.int .i64) _ _ _ (rd (rd_L4 x6_2 (ji26)) 0) [.int .i64 (rd (rd_L4 x6_2 (ji26)) 0)] from rfl) (Reps.one (show Kd.M (Kd.int .i64) _ _ _ x7_2 [.int .i64 x7_2] from rfl) (Reps.none _ _))));intro v345 w34 ho35 hb hg_ hnew_;clear hg_ hnew_;(first | rw [← Ny344.out] at ho35 | (simp only [Int.reduceToNat] at ho35;rw [← Ny344.out] at ho35));replace HO_6:=amk (Kd.S_elder' (sss HO_6) (Kd.R_base ho35) hb);have HO346:=amk (Kd.R_lower (Kd.R_new' (Kd.R_new' ho35 (Kd.R_lt (rrr HL340_0))) (Kd.R_lt (rrr HL342_0))) (below_size (bel1 HB GE332.out)));replace HL340_0:=amk (Kd.R_elder' (rrr HL340_0) (Kd.R_base ho35) hb);replace HL342_0:=amk (Kd.R_elder' (rrr HL342_0) (Kd.R_base ho35) hb);replace BK332:=amk (blk_below (g:=gb332) (o:=.cells #[.int .i64 a1_0,.int .i64 a1_1,.int .i64 a1_2] 44 (0,0)) (bkk BK332) hb);replace HR340_0:=amk (Kd.C_below (by repeat (first | (with_reducible exact HR340_0.out)|(with_reducible refine Kd.C_alloc ?_ _)|(with_reducible refine Kd.C_drewN ?_ _)|(with_reducible refine Kd.C_drew ?_) | exact HR340_0.out)) hb);replace HR342_0:=amk (Kd.C_below (by repeat (first | (with_reducible exact HR342_0.out)|(with_reducible refine Kd.C_alloc ?_ _)|(with_reducible refine Kd.C_drewN ?_ _)|(with_reducible refine Kd.C_drew ?_) | exact HR342_0.out)) hb);replace HB:=amk (below_step (bel1 HB GE332.out) hb);clear hb ho35;have p32 : 0≤((ji26) : Int):=of_decide_eq_true ass;have q32 : ((ji26) : Int) < ((x6_2.length : Int) : Int):=of_decide_eq_true ass;obtain ⟨go32,co32,eo32,gb32,gl32,cl32,HG32⟩:=Kd.S_form HO_6.out (by omega);(first | cases eo32 | (injection eo32 with ea_ en_ ec_;(first | subst ea_ | (injection ea_ with ea_;subst ea_));subst ec_;clear en_));have GB32:=amk gb32;have GG32:=amk HG32;clear gb32 gl32 HG32;(first | simp only [add_plain] at hx340_0 | skip);(first | simp only [add_plain] at hx342_0 | skip);obtain ⟨_,ce32,hcl32,hM32,hcc32,hfr32,_,_⟩:=Kd.S_elem HO_6.out [] ((ji26) : Int) p32 q32;obtain ⟨ve32_0,rfl,ge32_0⟩:=hM32;have hx32_0:=hcc32 0 _ rfl;have hf32_0:=hfr32 0;(try simp only [show ((Kd.slice 3 (Kd.int .i64))).sz=1 from rfl,Nat.mul_one,Nat.add_zero] at hx32_0);(try simp only [show ((Kd.slice 3 (Kd.int .i64))).sz=1 from rfl,Nat.mul_one,Nat.add_zero] at hf32_0);((try clear hcl32);(try clear hcc32);(try clear hfr32);(try clear hM32));replace p32:=eq_true p32;replace q32:=eq_true q32;have n_:=amk (Kd.S_mono (ok':=(fun k_=>some k_ ≠ (v345 : Value).ownBlock)) HO_6.out (fun k_ hk=>hk.2));clear HO_6;have HO_6:=n_;clear n_;have HX36:=amk (show Kd.S (Kd.slice 3 (Kd.int .i64)) 63 w34 w.heap.size (fun k_=>((fun _=>True)) k_∧¬ ((fun k_=>some k_=(v345 : Value).ownBlock)) k_) (.slice (some ⟨go32,0,none⟩) x6_2.length co33) x6_2 from (by (with_reducible repeat (first | apply Kd.S_alloc | apply Kd.S_drewN | apply Kd.S_drew));exact Kd.S_mono HO_6.out (fun k_ hk=>⟨trivial,fun e_=>hk e_⟩)));obtain ⟨oki36,ce36,hcl36,hM36,hcc36,hfr36,hoki36,hH36⟩:=Kd.S_elem HX36.out [] ((ji26) : Int) (of_decide_eq_true ass) (by have h_ : ((ji26) : Int) < ((x6_2.length : Int) : Int):=of_decide_eq_true ass;first | exact h_ | (have e_:=(Kd.S_reads' HO_6.out).1;omega) | simpa using h_);obtain ⟨ve36_0,rfl,ge36_0⟩:=hM36;have HP36:=Kd.S_seg hH36 (of_decide_eq_true ass) (by have h_ : ((ji26) : Int) < ((x6_2.length : Int) : Int):=of_decide_eq_true ass;first | exact h_ | (have e_:=(Kd.S_reads' HO_6.out).1;omega) | simpa using h_) (seg:=[v345]) (j:=0) (show 1≤1 from by decide) (x':=y344) (Kd.M_row (Kd.R_mono (Kd.R_tight rfl (Kd.R_mono (ok':=fun k_=>((fun _=>True)) k_∧k_ ≠ go32) (Kd.R_apart' (HO346.out) (Kd.S_typed HO_6.out) (by decide)) (fun k_ hk=>⟨trivial,fun e_=>(hk.2) (by rw [e_];rfl)⟩))) (fun _ h_=>Or.inr (h_)))) (fun _ hk=>hk) (fun k_ hk_=>((Kd.R_mono (ok':=fun k_=>((fun _=>True)) k_∧k_ ≠ go32) (Kd.R_apart' (HO346.out) (Kd.S_typed HO_6.out) (by decide)) (fun k_ hk=>⟨trivial,fun e_=>(hk.2) (by rw [e_];rfl)⟩))).1 k_ hk_.symm);have hx36_0:=hcc36 0 _ rfl;(try simp only [show ((Kd.slice 3 (Kd.int .i64))).sz=1 from rfl,Nat.mul_one,Nat.add_zero] at hx36_0);have hf36_0:=hfr36 0;(try simp only [show ((Kd.slice 3 (Kd.int .i64))).sz=1 from rfl,Nat.mul_one,Nat.add_zero] at hf36_0);((try clear hcl36);(try clear hcc36);(try clear hfr36);(try clear hM36);(try clear hoki36);(try clear hH36));(try simp only [show ((Kd.slice 3 (Kd.int .i64))).sz=1 from rfl,Nat.mul_one,Nat.add_zero] at HP36))|((with_reducible refine gate_store (t:=63) (p:=62) rfl ?_);refine store_event (t:=63) (p:=62) (v:=?vo_w37) (w1:=(w34.setCell ⟨go32,((ji26) : Int).toNat,none⟩ (v345))) ?hg ?ho ?hn ?hr ?_;(case ho=>rfl);(case hg=>rfl);(case hn=>rfl);(case hr=>first | (go_simp;done)|(go_simp;rfl)|(obtain ⟨A_,c_,e_⟩:=aside_slice (v:=v345) (by assumption);subst e_;first | (go_simp;done)|(go_simp;rfl)));intro w37 hw;have hg : w34.grownBy w37 (some go32):=(by rw [hw];exact HP36.2);have hp_ : Kd.S (Kd.slice 3 (Kd.int .i64)) 63 w37 w.heap.size (fun _=>True) (.slice (some ⟨go32,0,none⟩) x6_2.length co33) y347:=(by rw [hw,Ny347.out];exact HP36.1);clear HP36;replace BK332:=amk (blk_grown (g:=gb332) (o:=.cells #[.int .i64 a1_0,.int .i64 a1_1,.int .i64 a1_2] 44 (0,0)) (bkk BK332) hg (Kd.S_ne HO_6.out BK332.out (by decide)));replace HO_6:=amk (hp_);replace HL340_0:=amk (Kd.R_after (v:=(.slice (some ⟨go32,0,none⟩) x6_2.length co33)) (v1:=(.slice (some ⟨go32,0,none⟩) x6_2.length co33)) (ok:=(fun k_=>some k_ ≠ (v345 : Value).ownBlock)) (by (with_reducible repeat (first | apply Kd.R_alloc | apply Kd.R_drewN | apply Kd.R_drew));exact Kd.R_mono HL340_0.out (fun _ hk=>⟨hk.2,hk.1.2⟩)) hg (.inl rfl));replace HL342_0:=amk (Kd.R_after (v:=(.slice (some ⟨go32,0,none⟩) x6_2.length co33)) (v1:=(.slice (some ⟨go32,0,none⟩) x6_2.length co33)) (ok:=(fun k_=>some k_ ≠ (v345 : Value).ownBlock)) (by (with_reducible repeat (first | apply Kd.R_alloc | apply Kd.R_drewN | apply Kd.R_drew));exact Kd.R_mono HL342_0.out (fun _ hk=>⟨hk.2,hk.1.2⟩)) hg (.inl rfl));replace HB:=amk ((by rw [hw];exact below_set (HB.out) GB32.out : Below w.heap.size w w37));clear HO346;clear hg hw hp_))
                go_roundg kj15
                case measure=>have:=HJ2.out;have:=HK2.out;have:=HJ15.out;omega
                case rel=>exact ⟨(y347),(wrap64 (x7_2 + 1)),rsd,H',⟨by have:=HJ2.out;have:=HK2.out;have:=HJ15.out;omega⟩,⟨sss HO_6⟩,⟨by (with_reducible repeat (first | refine blk_drewN ?_ _ | refine blk_drew ?_ | refine blk_alloc ?_ _));exact BK332.out⟩,⟨bel1 HB GE332.out⟩⟩
               ·rw [if_neg c31] at H
                exact absurd H (by simp)
              ·rw [if_neg c30] at H
               have c30b0 : ((rd (rd_L4 x6_2 (ji26)) 1) == (wrap64 (x7_2 - 1)))=false:=beq_eq_false_iff_ne.mpr c30
               have c30b1 : ((rd (rd_L4 x6_2 (ji26)) 1) != (wrap64 (x7_2 - 1)))=true:=bne_iff_ne.mpr c30
               obtain ⟨y348,hy348⟩ : ∃ y_ : List Int,y_=(([x7_2,x7_2] : List Int)):=⟨_,rfl⟩
               replace H : (if x6_2.length < 5864062014805 then (spec_OpenSpans.l0 kj15 l0 (x6_2 ++ [y348]) (wrap64 (x7_2 + 1)) a1_0 a1_1 a1_2) else (none))=some (r1,r2):=by first | (rw [hy348];with_reducible exact H)|(have H2_:=(Option.bind_some _ _).symm.trans H;rw [hy348];with_reducible exact H2_)|(have H2_:=(Option.bind_some _ _).symm.trans H;with_reducible exact H2_) | with_reducible exact H | (rw [hy348];exact H) | exact H
               have Ny348:=amk hy348
               clear hy348
               by_cases c38 : x6_2.length < 5864062014805
               ·rw [if_pos c38] at H
                have LMc38:=amk c38
                clear c38
                obtain ⟨y351,hy351⟩ : ∃ y_ : List (List Int),y_=(x6_2 ++ [y348]):=⟨_,rfl⟩
                replace H : (spec_OpenSpans.l0 kj15 l0 y351 (wrap64 (x7_2 + 1)) a1_0 a1_1 a1_2)=some (r1,r2):=by first | (rw [hy351];with_reducible exact H)|(have H2_:=(Option.bind_some _ _).symm.trans H;rw [hy351];with_reducible exact H2_)|(have H2_:=(Option.bind_some _ _).symm.trans H;with_reducible exact H2_) | with_reducible exact H | (rw [hy351];exact H) | exact H
                have Ny351:=amk hy351
                clear hy351
                have H':=amk H
                clear H
                obtain ⟨Ao39,co39,eo39⟩:=Kd.S_slice HO_6.out
                subst eo39
                have p340 : 0≤((ji26) : Int):=of_decide_eq_true ass
                have q340 : (ji26) < (x6_2.length : Int):=of_decide_eq_true ass
                obtain ⟨ad340,A340_0,c340_0,e340,hx340_0,hl340_0,hi340_0⟩:=at_L4 (Kd.S_reads' HO_6.out).2.2 (ji26) p340 q340
                cases e340
                obtain ⟨ce340,hce340,hMe340,hcc340⟩:=Kd.S_get HO_6.out [] (ji26) p340 (by first | exact q340 | exact of_decide_eq_true ass | (have e_:=(Kd.S_reads' HO_6.out).1;omega))
                obtain ⟨ve340_0,rfl,ge340_0⟩:=hMe340
                have hv340_0:=hcc340 0 _ rfl
                rw [Nat.add_zero,show ((Kd.slice 3 (Kd.int .i64))).sz=1 from rfl,Nat.mul_one] at hv340_0
                replace hv340_0:=Option.some.inj (hv340_0.symm.trans hx340_0)
                rw [hv340_0] at ge340_0
                have HL340_0:=amk (show Kd.R (Kd.int .i64) 3 _ _ _ _ (rd_L4 x6_2 (ji26)) from ge340_0)
                clear hv340_0 ge340_0
                clear hcc340 hce340
                have HR340_0:=amk hi340_0
                have HC340_0:=amk hl340_0
                clear hi340_0 hl340_0
                replace p340:=eq_true p340
                replace q340:=eq_true q340
                have p341 : 0≤(1 : Int):=(by omega)
                have q341 : 1 < ((rd_L4 x6_2 (ji26)).length : Int):=of_decide_eq_true ass
                obtain ⟨ad341,e341,hx341_0⟩:=Kd.at_int (by repeat (first | (with_reducible exact HR340_0.out)|(with_reducible refine Kd.C_alloc ?_ _)|(with_reducible refine Kd.C_drewN ?_ _)|(with_reducible refine Kd.C_drew ?_) | exact HR340_0.out)) 1 p341 q341
                cases e341
                (try simp only [show (1 : Int).toNat=1 from rfl,Nat.reduceMul,Nat.reduceEqDiff,Go.Addr.add,↓reduceIte] at hx341_0)
                have qi341 : (1 < (rd_L4 x6_2 (ji26)).length)=True:=eq_true (by omega)
                (try rw [show ((1 : Int)).toNat=1 from rfl] at hx341_0)
                replace p341:=eq_true p341
                replace q341:=eq_true q341
                go_wp2_with (first | ((with_reducible refine gate_dst (N:=66) rfl ?_);refine Kd.R_lit (Kd.int .i64) _ 3 ?hg (N:=66) ?hd (xs:=([x7_2,x7_2] : List Int)) (inner:=[.int .i64 x7_2,.int .i64 x7_2]) (ok:=fun _=>True) (okp:=fun _=>True) ?hr ?hp (fun _ hk=>hk) trivial (Below.refl _ _) (Nat.le_refl _) (by simp) ?_;(case hd=>rfl);(case hg=>rfl);(case hr=>first | (go_simp;done)|(go_simp;rfl));(case hp=>exact (Reps.one (show Kd.M (Kd.int .i64) _ _ _ x7_2 [.int .i64 x7_2] from rfl) (Reps.one (show Kd.M (Kd.int .i64) _ _ _ x7_2 [.int .i64 x7_2] from rfl) (Reps.none _ _))));intro v349 w40 ho41 hb hg_ hnew_;clear hg_ hnew_;(first | rw [← Ny348.out] at ho41 | (simp only [Int.reduceToNat] at ho41;rw [← Ny348.out] at ho41));replace HO_6:=amk (Kd.S_elder' (sss HO_6) (Kd.R_base ho41) hb);have HO350:=amk (Kd.R_lower (Kd.R_new' ho41 (Kd.R_lt (rrr HL340_0))) (below_size (bel1 HB GE332.out)));replace HL340_0:=amk (Kd.R_elder' (rrr HL340_0) (Kd.R_base ho41) hb);replace BK332:=amk (blk_below (g:=gb332) (o:=.cells #[.int .i64 a1_0,.int .i64 a1_1,.int .i64 a1_2] 44 (0,0)) (bkk BK332) hb);replace HR340_0:=amk (Kd.C_below (by repeat (first | (with_reducible exact HR340_0.out)|(with_reducible refine Kd.C_alloc ?_ _)|(with_reducible refine Kd.C_drewN ?_ _)|(with_reducible refine Kd.C_drew ?_) | exact HR340_0.out)) hb);replace HB:=amk (below_step (bel1 HB GE332.out) hb);clear hb ho41;obtain ⟨Ao43,co43,eo43⟩:=Kd.R_slice HO350.out;subst eo43)|((with_reducible refine gate_builtin (b:=.append) (xs:=#[.tmp 63,.tmp 67]) rfl ?_);at_builtin;refine Kd.S_append (Kd.slice 3 (Kd.int .i64)) (w0:=w) w.heap.size rfl (.tmp 63) (.tmp 67) 40 63 (.slice none 0 0) 24 rfl Try.underlying40 info63 rfl (by decide) (by omega) (.slice (some ad340) x6_2.length co39) x6_2 y348 [.slice Ao43 y348.length co43] (fun _=>True) (fun k_=>some k_=(.slice Ao43 y348.length co43 : Value).ownBlock) rfl rfl ?aP (fun k_ hk_=>((Kd.R_mono (ok':=fun k_=>((fun _=>True)) k_∧some k_ ≠ (.slice (some ad340) x6_2.length co39 : Value).ownBlock) (Kd.R_apart' (HO350.out) (Kd.S_typed HO_6.out) (by decide)) (fun k_ hk=>⟨trivial,hk.2⟩))).1 k_ hk_.symm) ?aF ?aO ?aB ?aS ?aL ?_;(case aP=>exact Kd.M_row (Kd.R_mono (Kd.R_tight rfl (Kd.R_mono (ok':=fun k_=>((fun _=>True)) k_∧some k_ ≠ (.slice (some ad340) x6_2.length co39 : Value).ownBlock) (Kd.R_apart' (HO350.out) (Kd.S_typed HO_6.out) (by decide)) (fun k_ hk=>⟨trivial,hk.2⟩))) (fun _ h_=>h_)));(case aB=>exact (bel1 HB GE332.out));(case aF=>exact (fun _ _=>trivial));(case aO=>exact (by (with_reducible repeat (first | apply Kd.S_alloc | apply Kd.S_drewN | apply Kd.S_drew));exact Kd.S_mono HO_6.out (fun k_ hk=>⟨trivial,fun e_=>hk.2 e_⟩)));(case aS=>exact (below_size (bel1 HB GE332.out)));(case aL=>have:=LMc38.out;omega);intro v352 w42 ho hb hg hat;rw [← Ny351.out] at ho;replace BK332:=amk (blk_grown (g:=gb332) (o:=.cells #[.int .i64 a1_0,.int .i64 a1_1,.int .i64 a1_2] 44 (0,0)) (bkk BK332) hg (Kd.S_ne HO_6.out BK332.out (by decide)));replace HL340_0:=amk (Kd.R_after (ok:=(fun k_=>some k_ ≠ (.slice Ao43 y348.length co43 : Value).ownBlock)) (by (with_reducible repeat (first | apply Kd.R_alloc | apply Kd.R_drewN | apply Kd.R_drew));exact Kd.R_mono HL340_0.out (fun _ hk=>⟨hk.2,hk.1.2⟩)) hg hat);replace HB:=amk (hb);have HO353:=amk (ho);clear HO350 HO_6;clear ho hb hg hat))
                go_roundg kj15
                case measure=>have:=HJ2.out;have:=HK2.out;have:=HJ15.out;omega
                case rel=>exact ⟨(y351),(wrap64 (x7_2 + 1)),rsd,H',⟨by have:=HJ2.out;have:=HK2.out;have:=HJ15.out;omega⟩,⟨sss HO353⟩,⟨by (with_reducible repeat (first | refine blk_drewN ?_ _ | refine blk_drew ?_ | refine blk_alloc ?_ _));exact BK332.out⟩,⟨bel1 HB GE332.out⟩⟩
               ·rw [if_neg c38] at H
                exact absurd H (by simp)
             ·rw [if_neg c29] at H
              exact absurd H (by simp)
            ·rw [if_neg c28] at H
             exact absurd H (by simp)
           ·rw [if_neg c27] at H
            exact absurd H (by simp)
          ·rw [if_neg c25] at H
           have c25b0 : decide (0 < (x6_2.length : Int))=false:=decide_eq_false c25
           have c25b1 : decide (0 < x6_2.length)=false:=decide_eq_false (by omega)
           clear c25
           obtain ⟨y354,hy354⟩ : ∃ y_ : List Int,y_=(([x7_2,x7_2] : List Int)):=⟨_,rfl⟩
           replace H : (if x6_2.length < 5864062014805 then (spec_OpenSpans.l0 kj15 l0 (x6_2 ++ [y354]) (wrap64 (x7_2 + 1)) a1_0 a1_1 a1_2) else (none))=some (r1,r2):=by first | (rw [hy354];with_reducible exact H)|(have H2_:=(Option.bind_some _ _).symm.trans H;rw [hy354];with_reducible exact H2_)|(have H2_:=(Option.bind_some _ _).symm.trans H;with_reducible exact H2_) | with_reducible exact H | (rw [hy354];exact H) | exact H
           have Ny354:=amk hy354
           clear hy354
           by_cases c44 : x6_2.length < 5864062014805
           ·rw [if_pos c44] at H
            have LMc44:=amk c44
            clear c44
            obtain ⟨y357,hy357⟩ : ∃ y_ : List (List Int),y_=(x6_2 ++ [y354]):=⟨_,rfl⟩
            replace H : (spec_OpenSpans.l0 kj15 l0 y357 (wrap64 (x7_2 + 1)) a1_0 a1_1 a1_2)=some (r1,r2):=by first | (rw [hy357];with_reducible exact H)|(have H2_:=(Option.bind_some _ _).symm.trans H;rw [hy357];with_reducible exact H2_)|(have H2_:=(Option.bind_some _ _).symm.trans H;with_reducible exact H2_) | with_reducible exact H | (rw [hy357];exact H) | exact H
            have Ny357:=amk hy357
            clear hy357
            have H':=amk H
            clear H
            obtain ⟨Ao45,co45,eo45⟩:=Kd.S_slice HO_6.out
            subst eo45
            go_wp2_with (first | ((with_reducible refine gate_dst (N:=66) rfl ?_);refine Kd.R_lit (Kd.int .i64) _ 3 ?hg (N:=66) ?hd (xs:=([x7_2,x7_2] : List Int)) (inner:=[.int .i64 x7_2,.int .i64 x7_2]) (ok:=fun _=>True) (okp:=fun _=>True) ?hr ?hp (fun _ hk=>hk) trivial (Below.refl _ _) (Nat.le_refl _) (by simp) ?_;(case hd=>rfl);(case hg=>rfl);(case hr=>first | (go_simp;done)|(go_simp;rfl));(case hp=>exact (Reps.one (show Kd.M (Kd.int .i64) _ _ _ x7_2 [.int .i64 x7_2] from rfl) (Reps.one (show Kd.M (Kd.int .i64) _ _ _ x7_2 [.int .i64 x7_2] from rfl) (Reps.none _ _))));intro v355 w46 ho47 hb hg_ hnew_;clear hg_ hnew_;(first | rw [← Ny354.out] at ho47 | (simp only [Int.reduceToNat] at ho47;rw [← Ny354.out] at ho47));replace HO_6:=amk (Kd.S_elder' (sss HO_6) (Kd.R_base ho47) hb);have HO356:=amk (Kd.R_lower ho47 (below_size (bel1 HB GE332.out)));replace BK332:=amk (blk_below (g:=gb332) (o:=.cells #[.int .i64 a1_0,.int .i64 a1_1,.int .i64 a1_2] 44 (0,0)) (bkk BK332) hb);replace HB:=amk (below_step (bel1 HB GE332.out) hb);clear hb ho47;obtain ⟨Ao49,co49,eo49⟩:=Kd.R_slice HO356.out;subst eo49)|((with_reducible refine gate_builtin (b:=.append) (xs:=#[.tmp 63,.tmp 67]) rfl ?_);at_builtin;refine Kd.S_append (Kd.slice 3 (Kd.int .i64)) (w0:=w) w.heap.size rfl (.tmp 63) (.tmp 67) 40 63 (.slice none 0 0) 24 rfl Try.underlying40 info63 rfl (by decide) (by omega) (.slice Ao45 x6_2.length co45) x6_2 y354 [.slice Ao49 y354.length co49] (fun _=>True) (fun k_=>some k_=(.slice Ao49 y354.length co49 : Value).ownBlock) rfl rfl ?aP (fun k_ hk_=>((Kd.R_mono (ok':=fun k_=>((fun _=>True)) k_∧some k_ ≠ (.slice Ao45 x6_2.length co45 : Value).ownBlock) (Kd.R_apart' (HO356.out) (Kd.S_typed HO_6.out) (by decide)) (fun k_ hk=>⟨trivial,hk.2⟩))).1 k_ hk_.symm) ?aF ?aO ?aB ?aS ?aL ?_;(case aP=>exact Kd.M_row (Kd.R_mono (Kd.R_tight rfl (Kd.R_mono (ok':=fun k_=>((fun _=>True)) k_∧some k_ ≠ (.slice Ao45 x6_2.length co45 : Value).ownBlock) (Kd.R_apart' (HO356.out) (Kd.S_typed HO_6.out) (by decide)) (fun k_ hk=>⟨trivial,hk.2⟩))) (fun _ h_=>h_)));(case aB=>exact (bel1 HB GE332.out));(case aF=>exact (fun _ _=>trivial));(case aO=>exact (by (with_reducible repeat (first | apply Kd.S_alloc | apply Kd.S_drewN | apply Kd.S_drew));exact Kd.S_mono HO_6.out (fun k_ hk=>⟨trivial,fun e_=>hk.2 e_⟩)));(case aS=>exact (below_size (bel1 HB GE332.out)));(case aL=>have:=LMc44.out;omega);intro v358 w48 ho hb hg hat;rw [← Ny357.out] at ho;replace BK332:=amk (blk_grown (g:=gb332) (o:=.cells #[.int .i64 a1_0,.int .i64 a1_1,.int .i64 a1_2] 44 (0,0)) (bkk BK332) hg (Kd.S_ne HO_6.out BK332.out (by decide)));replace HB:=amk (hb);have HO359:=amk (ho);clear HO356 HO_6;clear ho hb hg hat))
            go_roundg kj15
            case measure=>have:=HJ2.out;have:=HK2.out;have:=HJ15.out;omega
            case rel=>exact ⟨(y357),(wrap64 (x7_2 + 1)),rsd,H',⟨by have:=HJ2.out;have:=HK2.out;have:=HJ15.out;omega⟩,⟨sss HO359⟩,⟨by (with_reducible repeat (first | refine blk_drewN ?_ _ | refine blk_drew ?_ | refine blk_alloc ?_ _));exact BK332.out⟩,⟨bel1 HB GE332.out⟩⟩
           ·rw [if_neg c44] at H
            exact absurd H (by simp)
      ·rw [if_neg c15] at H
       have c15b0 : decide (x7_2≤999)=false:=decide_eq_false c15
       clear c15
       simp only [Option.some.injEq,Prod.mk.injEq] at H
       obtain ⟨rfl,rfl⟩:=H
       go_wp2
       go_ret2
       exact ⟨_,erw0,sss HO_6,bel1 HB GE332.out⟩
def laws_toReading.f (a0_0 : Int) (a0_1 : Int) : Option (Int × Int):=some (a0_0,a0_1)
set_option maxHeartbeats 8000000 in
set_option maxRecDepth 100000 in
theorem laws_toReading.calls (a0_0 : Int) (a0_1 : Int) (r1 : Int) (r2 : Int) (w : World) (h : laws_toReading.f a0_0 a0_1=some (r1,r2)) :
  Calls Try.prog 61 #[.agg #[.int .i64 a0_0,.int .i64 a0_1]] w fun e w'=>e = .returned (.agg #[.int .i64 r1,.int .i64 r2])∧Below w.heap.size w w':=by
 have hu93:=Try.underlying93
 have hu30:=Try.underlying30
 have HB:=amk (Below.refl w.heap.size w)
 have H : (some (a0_0,a0_1))=some (r1,r2):=h
 clear h
 simp only [Option.some.injEq,Prod.mk.injEq] at H
 obtain ⟨rfl,rfl⟩:=H
 go_enter Try.func61,Try.ntmps61
 go_wp2_with (first | ((with_reducible refine gate_dst (N:=1) rfl ?_);refine box_event ?hg (N:=1) ?hd (cs:=#[.int .i64 a0_0,.int .i64 a0_1]) (t:=93) ?hr ?_;(case hd=>rfl);(case hg=>rfl);(case hr=>first | (go_simp;done)|(go_simp;rfl));intro gb360 hg w2 hbox hb;have BK360:=amk (hbox);have GW360:=amk ((by rw [hg];exact (below_size (bel HB)) : w.heap.size≤gb360));have GE360:=amk ((by rw [hg];exact (below_size (bel HB)) : w.heap.size≤gb360));replace HB:=amk (below_step (bel HB) hb);clear hb hbox hg)|((with_reducible refine gate_dst (N:=2) rfl ?_);refine box_event ?hg (N:=2) ?hd (cs:=#[.int .i64 0,.int .i64 0]) (t:=30) ?hr ?_;(case hd=>rfl);(case hg=>rfl);(case hr=>first | (go_simp;done)|(go_simp;rfl));intro gb361 hg w3 hbox hb;have BK361:=amk (hbox);have GW361:=amk ((by rw [hg];exact (below_size (bel1 HB GE360.out)) : w.heap.size≤gb361));have GE361:=amk ((by rw [hg];exact (below_size (bel1 HB GE360.out)) : w.heap.size≤gb361));replace HB:=amk (below_step (bel1 HB GE360.out) hb);have NB360_361:=amk ((by rw [hg];exact Nat.ne_of_lt (blk_lt (g:=gb360) (o:=.cells #[.int .i64 a0_0,.int .i64 a0_1] 93 (0,0)) (bkk BK360)) : gb360 ≠ gb361));have NB361_360:=amk ((by rw [hg];exact Nat.ne_of_gt (blk_lt (g:=gb360) (o:=.cells #[.int .i64 a0_0,.int .i64 a0_1] 93 (0,0)) (bkk BK360)) : gb361 ≠ gb360));replace BK360:=amk (blk_below (g:=gb360) (o:=.cells #[.int .i64 a0_0,.int .i64 a0_1] 93 (0,0)) (bkk BK360) hb);clear hb hbox hg)|((with_reducible refine gate_dst (N:=3) rfl ?_);refine box_event ?hg (N:=3) ?hd (cs:=#[.int .i64 0,.int .i64 0]) (t:=30) ?hr ?_;(case hd=>rfl);(case hg=>rfl);(case hr=>first | (go_simp;done)|(go_simp;rfl));intro gb362 hg w4 hbox hb;have BK362:=amk (hbox);have GW362:=amk ((by rw [hg];exact (below_size (bel2 HB GE360.out GE361.out)) : w.heap.size≤gb362));have GE362:=amk ((by rw [hg];exact (below_size (bel2 HB GE360.out GE361.out)) : w.heap.size≤gb362));replace HB:=amk (below_step (bel2 HB GE360.out GE361.out) hb);have NB360_362:=amk ((by rw [hg];exact Nat.ne_of_lt (blk_lt (g:=gb360) (o:=.cells #[.int .i64 a0_0,.int .i64 a0_1] 93 (0,0)) (bkk BK360)) : gb360 ≠ gb362));have NB362_360:=amk ((by rw [hg];exact Nat.ne_of_gt (blk_lt (g:=gb360) (o:=.cells #[.int .i64 a0_0,.int .i64 a0_1] 93 (0,0)) (bkk BK360)) : gb362 ≠ gb360));replace BK360:=amk (blk_below (g:=gb360) (o:=.cells #[.int .i64 a0_0,.int .i64 a0_1] 93 (0,0)) (bkk BK360) hb);have NB361_362:=amk ((by rw [hg];exact Nat.ne_of_lt (blk_lt (g:=gb361) (o:=.cells #[.int .i64 0,.int .i64 0] 30 (0,0)) (bkk BK361)) : gb361 ≠ gb362));have NB362_361:=amk ((by rw [hg];exact Nat.ne_of_gt (blk_lt (g:=gb361) (o:=.cells #[.int .i64 0,.int .i64 0] 30 (0,0)) (bkk BK361)) : gb362 ≠ gb361));replace BK361:=amk (blk_below (g:=gb361) (o:=.cells #[.int .i64 0,.int .i64 0] 30 (0,0)) (bkk BK361) hb);clear hb hbox hg;have hnb5:=NB360_361.out;have hnc5:=NB361_360.out;have hnb6:=NB360_362.out;have hnc6:=NB362_360.out;have hcz7_0 : w4.cell? ⟨gb360,0,none⟩=some (.int .i64 a0_0):=(blk_cell BK360.out 0).trans rfl;have hcz7_1 : w4.cell? ⟨gb360,1,none⟩=some (.int .i64 a0_1):=(blk_cell BK360.out 1).trans rfl;have hfz7_0:=blk_frozen BK360.out 0;have hfz7_1:=blk_frozen BK360.out 1;have hnb8:=NB362_361.out;have hnc8:=NB361_362.out;have hcz9_0 : w4.cell? ⟨gb362,0,none⟩=some (.int .i64 0):=(blk_cell BK362.out 0).trans rfl;have hcz9_1 : w4.cell? ⟨gb362,1,none⟩=some (.int .i64 0):=(blk_cell BK362.out 1).trans rfl;have hfz9_0:=blk_frozen BK362.out 0;have hfz9_1:=blk_frozen BK362.out 1;have hcz10_0 : w4.cell? ⟨gb361,0,none⟩=some (.int .i64 0):=(blk_cell BK361.out 0).trans rfl;have hcz10_1 : w4.cell? ⟨gb361,1,none⟩=some (.int .i64 0):=(blk_cell BK361.out 1).trans rfl;have hfz10_0:=blk_frozen BK361.out 0;have hfz10_1:=blk_frozen BK361.out 1))
 refine bodyPost_ret (results_cell_row rfl _ _ gb361 30 #[.int .i64 a0_0,.int .i64 a0_1] (0,0) _ rfl (by (with_reducible repeat (first | refine blk_drewN ?_ _ | refine blk_drew ?_ | refine blk_alloc ?_ _));refine blk_put (cs:=#[.int .i64 a0_0,.int .i64 0]) ?_ 1 _ rfl;(with_reducible repeat (first | refine blk_drewN ?_ _ | refine blk_drew ?_ | refine blk_alloc ?_ _));refine blk_put (cs:=#[.int .i64 0,.int .i64 0]) ?_ 0 _ rfl;(with_reducible repeat (first | refine blk_drewN ?_ _ | refine blk_drew ?_ | refine blk_alloc ?_ _));refine blk_far ?_ NB361_362.out _;(with_reducible repeat (first | refine blk_drewN ?_ _ | refine blk_drew ?_ | refine blk_alloc ?_ _));refine blk_far ?_ NB361_362.out _;(with_reducible repeat (first | refine blk_drewN ?_ _ | refine blk_drew ?_ | refine blk_alloc ?_ _));exact BK361.out) Try.underlying30 rfl (by kernel_rfl)) rfl ?_
 exact ⟨erw0,bel3 HB GE360.out GE361.out GE362.out⟩
def laws_toReadingS.l0 : Nat→List (S93)→List (S30)→Int→Option ((List (S30)))
 | 0,_,_,_=>none
 | k + 1,x0,x3,x4=>if x4 < (x0.length : Int) then (if 0≤x4 then ((laws_toReading.f ((rd_T93 x0 x4).f0) ((rd_T93 x0 x4).f1)).bind fun bt367=>(if x4 < (x3.length : Int) then (laws_toReadingS.l0 k x0 (x3.set (x4 : Int).toNat (⟨bt367.1,bt367.2⟩ : S30)) (wrap64 (x4 + 1))) else (none))) else (none)) else (some x3)
def laws_toReadingS.f (k : Nat) (l0 : List (S93)) : Option ((List (S30))):=if 0≤(l0.length : Int) then (if ((l0.length : Int) : Int).toNat≤17592186044416 then (laws_toReadingS.l0 k l0 (List.replicate ((l0.length : Int) : Int).toNat z30) 0) else (none)) else (none)
theorem laws_toReadingS.mono_l : ∀ k,(∀ y0 y1 y2,LeO (laws_toReadingS.l0 k y0 y1 y2) (laws_toReadingS.l0 (k + 1) y0 y1 y2))
 | 0=>fun _ _ _ r h=>by simp [laws_toReadingS.l0] at h
 | k + 1=>by
  have ih0:=laws_toReadingS.mono_l k
  ·intro y0 y1 y2
   unfold laws_toReadingS.l0
   repeat' first
   | (with_reducible exact ih0 _ _ _)
   | (with_reducible exact LeO.refl _)
   | (with_reducible exact LeO.none _)
   | (with_reducible refine LeO.ite ?_ ?_)
   | (with_reducible refine LeO.bind ?_ (fun _=>?_))
   | exact ih0 _ _ _
theorem laws_toReadingS.mono : ∀ a0 k,LeO (laws_toReadingS.f k a0) (laws_toReadingS.f (k + 1) a0):=by
 intro a0 k
 have ih0:=laws_toReadingS.mono_l k
 unfold laws_toReadingS.f
 repeat' first
   | (with_reducible exact ih0 _ _ _)
   | (with_reducible exact LeO.refl _)
   | (with_reducible exact LeO.none _)
   | (with_reducible refine LeO.ite ?_ ?_)
   | (with_reducible refine LeO.bind ?_ (fun _=>?_))
   | exact ih0 _ _ _
set_option maxHeartbeats 8000000 in
set_option maxRecDepth 100000 in
theorem laws_toReadingS.calls (k : Nat) (A0 : Option Addr) (c0 : Nat) (l0 : List (S93)) (r : List (S30)) (w : World) (hr0 : Kd.C k93 w A0 l0.length l0) (hc0 : l0.length≤c0) (h : laws_toReadingS.f k l0=some r) :
  Calls Try.prog 19 #[.slice A0 l0.length c0] w fun e w'=>∃ v0_ : Value,e = .returned (v0_)∧Kd.R k30 30 w' w.heap.size (fun _=>True) v0_ r∧Below w.heap.size w w':=by
 have hu93:=Try.underlying93
 have hu30:=Try.underlying30
 have HR0:=amk hr0
 have HC0:=amk hc0
 clear hr0 hc0
 have HB:=amk (Below.refl w.heap.size w)
 have H : (if 0≤(l0.length : Int) then (if ((l0.length : Int) : Int).toNat≤17592186044416 then (laws_toReadingS.l0 k l0 (List.replicate ((l0.length : Int) : Int).toNat z30) 0) else (none)) else (none))=some r:=h
 clear h
 by_cases c2 : 0≤(l0.length : Int)
 ·rw [if_pos c2] at H
  have c2b0:=eq_true c2
  have c2b1 : decide (0≤(l0.length : Int))=true:=decide_eq_true c2
  clear c2
  by_cases c3 : ((l0.length : Int) : Int).toNat≤17592186044416
  ·rw [if_pos c3] at H
   have c3b0:=eq_true c3
   have c3b1 : decide (((l0.length : Int) : Int).toNat≤17592186044416)=true:=decide_eq_true c3
   clear c3
   obtain ⟨y363,hy363⟩ : ∃ y_ : List (S30),y_=(List.replicate ((l0.length : Int) : Int).toNat z30):=⟨_,rfl⟩
   replace H : (laws_toReadingS.l0 k l0 y363 0)=some r:=by first | (rw [hy363];with_reducible exact H)|(have H2_:=(Option.bind_some _ _).symm.trans H;rw [hy363];with_reducible exact H2_)|(have H2_:=(Option.bind_some _ _).symm.trans H;with_reducible exact H2_) | with_reducible exact H | (rw [hy363];exact H) | exact H
   have Ny363:=amk hy363
   clear hy363
   have H':=amk H
   clear H
   go_enter Try.func19,Try.ntmps19
   go_wp2_with (first | ((with_reducible refine gate_dst (N:=7) rfl ?_);refine Kd.R_make k30 _ 30 rfl (N:=7) rfl 24 _ _ rfl (l0.length : Int) rfl rfl Try.underlying24 (.agg #[(.int .i64 0),(.int .i64 0)]) 16 info30 rfl (by decide) (by omega) z30 (ok:=fun _=>True) (okp:=fun _=>True) (k30_mkM _ _ _ z30) (fun _ hk=>hk) trivial (of_decide_eq_true ass) (Nat.le_trans (Nat.mul_le_mul_right _ (of_decide_eq_true ass : (l0.length : Int).toNat≤17592186044416)) (by omega)) (Below.refl _ _) (Nat.le_refl _) ?_;intro v364 w4 ho5 hb hg_ hnew_;clear hg_ hnew_;(first | rw [← Ny363.out] at ho5 | (simp only [Int.reduceToNat] at ho5;rw [← Ny363.out] at ho5));have HO365:=amk (Kd.R_lower ho5 (below_size (bel HB)));replace HB:=amk (below_step (bel HB) hb);clear hb ho5))
   go_loopg [4] k (fun kq v4 w'=>∃ (x3_1 : List (S30)) (x4_1 : Int),v4 = .int .i64 x4_1∧Aside0 (laws_toReadingS.l0 kq l0 x3_1 x4_1=some r)∧Aside0 (kq≤k)∧Aside0 (Kd.R k30 30 w' w.heap.size (fun _=>True) v364 x3_1)∧Aside0 (Below w.heap.size w w'))
   case atStart=>exact ⟨(y363),(0),rsd,H',⟨Nat.le_refl _⟩,⟨rrr HO365⟩,⟨bel HB⟩⟩
   case round=>
    clear H'
    try clear c1
    try clear c2
    try clear c2b0
    try clear c2b1
    try clear p2
    try clear c3
    try clear c3b0
    try clear c3b1
    obtain ⟨x3_1,x4_1,rfl,HA,HK1,HO_3,HB⟩:=hrel
    cases gk with
    | zero=>exact absurd HA.out (by simp [laws_toReadingS.l0])
    | succ k1=>
     have H:=HA.out
     clear HA
     simp only [laws_toReadingS.l0] at H
     by_cases c6 : x4_1 < (l0.length : Int)
     ·rw [if_pos c6] at H
      have c6b0 : decide (x4_1 < (l0.length : Int))=true:=decide_eq_true c6
      clear c6
      by_cases c7 : 0≤x4_1
      ·rw [if_pos c7] at H
       have c7b0 : decide (0≤x4_1)=true:=decide_eq_true c7
       clear c7
       replace H:=obs H
       obtain ⟨⟨t367,t368⟩,A80,H⟩:=H
       replace H : (if x4_1 < (x3_1.length : Int) then (laws_toReadingS.l0 k1 l0 (x3_1.set (x4_1 : Int).toNat (⟨t367,t368⟩ : S30)) (wrap64 (x4_1 + 1))) else (none))=some r:=H
       have A8:=amk A80
       clear A80
       by_cases c9 : x4_1 < (x3_1.length : Int)
       ·rw [if_pos c9] at H
        have c9b0 : decide (x4_1 < (x3_1.length : Int))=true:=decide_eq_true c9
        clear c9
        obtain ⟨y369,hy369⟩ : ∃ y_ : List (S30),y_=(x3_1.set (x4_1 : Int).toNat (⟨t367,t368⟩ : S30)):=⟨_,rfl⟩
        replace H : (laws_toReadingS.l0 k1 l0 y369 (wrap64 (x4_1 + 1)))=some r:=by first | (rw [hy369];with_reducible exact H)|(have H2_:=(Option.bind_some _ _).symm.trans H;rw [hy369];with_reducible exact H2_)|(have H2_:=(Option.bind_some _ _).symm.trans H;with_reducible exact H2_) | with_reducible exact H | (rw [hy369];exact H) | exact H
        have Ny369:=amk hy369
        clear hy369
        have H':=amk H
        clear H
        have p366 : 0≤(x4_1 : Int):=of_decide_eq_true ass
        have q366 : x4_1 < (l0.length : Int):=of_decide_eq_true ass
        obtain ⟨ad366,e366,hx366_0,hx366_1⟩:=at_T93 HR0.out x4_1 p366 q366
        cases e366
        replace hx366_0:=(HB.out.cell (World.block_lt_of_cell? w _ hx366_0)).trans hx366_0
        replace hx366_1:=(HB.out.cell (World.block_lt_of_cell? w _ hx366_1)).trans hx366_1
        replace p366:=eq_true p366
        replace q366:=eq_true q366
        go_wp2_with (first | ((with_reducible refine gate_callee (f:=61) rfl ?_);refine goesL_ (some 20) rfl rfl Try.func61 (by kernel_rfl) rfl #[.agg #[.int .i64 ((rd_T93 l0 x4_1).f0),.int .i64 ((rd_T93 l0 x4_1).f1)]] rfl mtt ?_;(with_reducible refine (laws_toReading.calls ((rd_T93 l0 x4_1).f0) ((rd_T93 l0 x4_1).f1) t367 t368 _ A8.out).mono ?_);rintro e w11 ⟨rfl,hb⟩;refine ⟨_,rfl,?_⟩;replace HO_3:=amk (Kd.R_below (rrr HO_3) hb);replace HB:=amk (below_step (bel HB) hb);(try clear hb);have p10 : 0≤(x4_1 : Int):=of_decide_eq_true ass;have q10 : (x4_1 : Int) < ((x3_1.length : Int) : Int):=of_decide_eq_true ass;obtain ⟨go10,co10,eo10,gb10,gl10,cl10,HG10⟩:=Kd.R_form HO_3.out (by omega);(first | cases eo10 | (injection eo10 with ea_ en_ ec_;(first | subst ea_ | (injection ea_ with ea_;subst ea_));subst ec_;clear en_));have GB10:=amk gb10;have GG10:=amk HG10;clear gb10 gl10 HG10;obtain ⟨ce10,hcl10,hM10,hcc10,hfr10⟩:=Kd.R_elem HO_3.out z30 (x4_1 : Int) p10 q10;obtain rfl:=k30_openM hM10;have hx10_0 : w11.cell? ⟨go10,(x4_1 : Int).toNat * 2,none⟩=some (.int .i64 ((rd_T30 x3_1 x4_1).f0)):=hcc10 0 _ rfl;have hx10_1 : w11.cell? ⟨go10,(x4_1 : Int).toNat * 2 + 1,none⟩=some (.int .i64 ((rd_T30 x3_1 x4_1).f1)):=hcc10 1 _ rfl;have hf10_0 : w11.frozen? ⟨go10,(x4_1 : Int).toNat * 2,none⟩=false:=hfr10 0;have hf10_1 : w11.frozen? ⟨go10,(x4_1 : Int).toNat * 2 + 1,none⟩=false:=hfr10 1;((try clear hcl10);(try clear hcc10);(try clear hfr10);(try clear hM10));replace p10:=eq_true p10;replace q10:=eq_true q10;have HX12:=amk (show Kd.R k30 30 w11 w.heap.size (fun _=>True) (.slice (some ⟨go10,0,none⟩) x3_1.length co10) x3_1 from (rrr HO_3));obtain ⟨ce12,hcl12,hM12,hcc12,hfr12⟩:=Kd.R_elem HX12.out z30 (x4_1 : Int) (of_decide_eq_true ass) (by have h_ : (x4_1 : Int) < ((x3_1.length : Int) : Int):=of_decide_eq_true ass;first | exact h_ | (have e_:=(Kd.R_reads' HO_3.out).1;omega) | simpa using h_);obtain rfl:=k30_openM hM12;have HP12:=Kd.R_seg HX12.out (x4_1 : Int) (of_decide_eq_true ass) (by have h_ : (x4_1 : Int) < ((x3_1.length : Int) : Int):=of_decide_eq_true ass;first | exact h_ | (have e_:=(Kd.R_reads' HO_3.out).1;omega) | simpa using h_) (seg:=[.int .i64 t367,.int .i64 t368]) (j:=0) hcl12 hcc12 (show 2≤2 from by decide) (x':=(⟨t367,t368⟩ : S30)) (k30_mkM _ _ _ (⟨t367,t368⟩ : S30)) (fun _ hk=>hk);have hx12_0:=hcc12 0 _ rfl;(try simp only [show (k30).sz=2 from rfl,Nat.mul_one,Nat.add_zero] at hx12_0);have hf12_0:=hfr12 0;(try simp only [show (k30).sz=2 from rfl,Nat.mul_one,Nat.add_zero] at hf12_0);have hx12_1:=hcc12 1 _ rfl;(try simp only [show (k30).sz=2 from rfl,Nat.mul_one,Nat.add_zero] at hx12_1);have hf12_1:=hfr12 1;(try simp only [show (k30).sz=2 from rfl,Nat.mul_one,Nat.add_zero] at hf12_1);((try clear hcl12);(try clear hcc12);(try clear hfr12);(try clear hM12)))|((with_reducible refine gate_store (t:=30) (p:=21) rfl ?_);refine store_event (t:=30) (p:=21) (v:=?vo_w13) (w1:=((w11.setCell ⟨go10,(x4_1 : Int).toNat * 2,none⟩ (.int .i64 t367)).setCell ⟨go10,(x4_1 : Int).toNat * 2 + 1,none⟩ (.int .i64 t368))) ?hg ?ho ?hn ?hr ?_;(case ho=>rfl);(case hg=>rfl);(case hn=>rfl);(case hr=>first | (go_simp;done)|(go_simp;rfl));intro w13 hw;have hg : w11.grownBy w13 (some go10):=(by rw [hw];exact HP12.2);have hp_ : Kd.R k30 30 w13 w.heap.size (fun _=>True) (.slice (some ⟨go10,0,none⟩) x3_1.length co10) y369:=(by rw [hw,Ny369.out];exact HP12.1);clear HP12;replace HO_3:=amk (hp_);replace HB:=amk ((by rw [hw];exact below_set (below_set (HB.out) GB10.out) GB10.out : Below w.heap.size w w13));clear hg hw hp_))
        go_roundg k1
        case measure=>have:=HK1.out;omega
        case rel=>exact ⟨(y369),(wrap64 (x4_1 + 1)),rsd,H',⟨by have:=HK1.out;omega⟩,⟨rrr HO_3⟩,⟨bel HB⟩⟩
       ·rw [if_neg c9] at H
        exact absurd H (by simp)
      ·rw [if_neg c7] at H
       exact absurd H (by simp)
     ·rw [if_neg c6] at H
      have c6b0 : decide (x4_1 < (l0.length : Int))=false:=decide_eq_false c6
      clear c6
      obtain rfl:=Option.some.inj H
      go_wp2
      go_ret
      exact ⟨_,erw0,rrr HO_3,bel HB⟩
  ·rw [if_neg c3] at H
   exact absurd H (by simp)
 ·rw [if_neg c2] at H
  exact absurd H (by simp)
def laws_toSump.f (a0_0 : Int) (a0_1 : Int) (a0_2 : Int) : Option (Int × Int × Int):=some (a0_0,a0_1,a0_2)
set_option maxHeartbeats 8000000 in
set_option maxRecDepth 100000 in
theorem laws_toSump.calls (a0_0 : Int) (a0_1 : Int) (a0_2 : Int) (r1 : Int) (r2 : Int) (r3 : Int) (w : World) (h : laws_toSump.f a0_0 a0_1 a0_2=some (r1,r2,r3)) :
  Calls Try.prog 20 #[.agg #[.int .i64 a0_0,.int .i64 a0_1,.int .i64 a0_2]] w fun e w'=>e = .returned (.agg #[.int .i64 r1,.int .i64 r2,.int .i64 r3])∧Below w.heap.size w w':=by
 have hu38:=Try.underlying38
 have hu44:=Try.underlying44
 have HB:=amk (Below.refl w.heap.size w)
 have H : (some (a0_0,a0_1,a0_2))=some (r1,r2,r3):=h
 clear h
 simp only [Option.some.injEq,Prod.mk.injEq] at H
 obtain ⟨rfl,rfl,rfl⟩:=H
 go_enter Try.func20,Try.ntmps20
 go_wp2_with (first | ((with_reducible refine gate_dst (N:=1) rfl ?_);refine box_event ?hg (N:=1) ?hd (cs:=#[.int .i64 a0_0,.int .i64 a0_1,.int .i64 a0_2]) (t:=38) ?hr ?_;(case hd=>rfl);(case hg=>rfl);(case hr=>first | (go_simp;done)|(go_simp;rfl));intro gb370 hg w2 hbox hb;have BK370:=amk (hbox);have GW370:=amk ((by rw [hg];exact (below_size (bel HB)) : w.heap.size≤gb370));have GE370:=amk ((by rw [hg];exact (below_size (bel HB)) : w.heap.size≤gb370));replace HB:=amk (below_step (bel HB) hb);clear hb hbox hg)|((with_reducible refine gate_dst (N:=2) rfl ?_);refine box_event ?hg (N:=2) ?hd (cs:=#[.int .i64 0,.int .i64 0,.int .i64 0]) (t:=44) ?hr ?_;(case hd=>rfl);(case hg=>rfl);(case hr=>first | (go_simp;done)|(go_simp;rfl));intro gb371 hg w3 hbox hb;have BK371:=amk (hbox);have GW371:=amk ((by rw [hg];exact (below_size (bel1 HB GE370.out)) : w.heap.size≤gb371));have GE371:=amk ((by rw [hg];exact (below_size (bel1 HB GE370.out)) : w.heap.size≤gb371));replace HB:=amk (below_step (bel1 HB GE370.out) hb);have NB370_371:=amk ((by rw [hg];exact Nat.ne_of_lt (blk_lt (g:=gb370) (o:=.cells #[.int .i64 a0_0,.int .i64 a0_1,.int .i64 a0_2] 38 (0,0)) (bkk BK370)) : gb370 ≠ gb371));have NB371_370:=amk ((by rw [hg];exact Nat.ne_of_gt (blk_lt (g:=gb370) (o:=.cells #[.int .i64 a0_0,.int .i64 a0_1,.int .i64 a0_2] 38 (0,0)) (bkk BK370)) : gb371 ≠ gb370));replace BK370:=amk (blk_below (g:=gb370) (o:=.cells #[.int .i64 a0_0,.int .i64 a0_1,.int .i64 a0_2] 38 (0,0)) (bkk BK370) hb);clear hb hbox hg)|((with_reducible refine gate_dst (N:=3) rfl ?_);refine box_event ?hg (N:=3) ?hd (cs:=#[.int .i64 0,.int .i64 0,.int .i64 0]) (t:=44) ?hr ?_;(case hd=>rfl);(case hg=>rfl);(case hr=>first | (go_simp;done)|(go_simp;rfl));intro gb372 hg w4 hbox hb;have BK372:=amk (hbox);have GW372:=amk ((by rw [hg];exact (below_size (bel2 HB GE370.out GE371.out)) : w.heap.size≤gb372));have GE372:=amk ((by rw [hg];exact (below_size (bel2 HB GE370.out GE371.out)) : w.heap.size≤gb372));replace HB:=amk (below_step (bel2 HB GE370.out GE371.out) hb);have NB370_372:=amk ((by rw [hg];exact Nat.ne_of_lt (blk_lt (g:=gb370) (o:=.cells #[.int .i64 a0_0,.int .i64 a0_1,.int .i64 a0_2] 38 (0,0)) (bkk BK370)) : gb370 ≠ gb372));have NB372_370:=amk ((by rw [hg];exact Nat.ne_of_gt (blk_lt (g:=gb370) (o:=.cells #[.int .i64 a0_0,.int .i64 a0_1,.int .i64 a0_2] 38 (0,0)) (bkk BK370)) : gb372 ≠ gb370));replace BK370:=amk (blk_below (g:=gb370) (o:=.cells #[.int .i64 a0_0,.int .i64 a0_1,.int .i64 a0_2] 38 (0,0)) (bkk BK370) hb);have NB371_372:=amk ((by rw [hg];exact Nat.ne_of_lt (blk_lt (g:=gb371) (o:=.cells #[.int .i64 0,.int .i64 0,.int .i64 0] 44 (0,0)) (bkk BK371)) : gb371 ≠ gb372));have NB372_371:=amk ((by rw [hg];exact Nat.ne_of_gt (blk_lt (g:=gb371) (o:=.cells #[.int .i64 0,.int .i64 0,.int .i64 0] 44 (0,0)) (bkk BK371)) : gb372 ≠ gb371));replace BK371:=amk (blk_below (g:=gb371) (o:=.cells #[.int .i64 0,.int .i64 0,.int .i64 0] 44 (0,0)) (bkk BK371) hb);clear hb hbox hg;have hnb5:=NB370_371.out;have hnc5:=NB371_370.out;have hnb6:=NB370_372.out;have hnc6:=NB372_370.out;have hcz7_0 : w4.cell? ⟨gb370,0,none⟩=some (.int .i64 a0_0):=(blk_cell BK370.out 0).trans rfl;have hcz7_1 : w4.cell? ⟨gb370,1,none⟩=some (.int .i64 a0_1):=(blk_cell BK370.out 1).trans rfl;have hcz7_2 : w4.cell? ⟨gb370,2,none⟩=some (.int .i64 a0_2):=(blk_cell BK370.out 2).trans rfl;have hfz7_0:=blk_frozen BK370.out 0;have hfz7_1:=blk_frozen BK370.out 1;have hfz7_2:=blk_frozen BK370.out 2;have hnb8:=NB372_371.out;have hnc8:=NB371_372.out;have hcz9_0 : w4.cell? ⟨gb372,0,none⟩=some (.int .i64 0):=(blk_cell BK372.out 0).trans rfl;have hcz9_1 : w4.cell? ⟨gb372,1,none⟩=some (.int .i64 0):=(blk_cell BK372.out 1).trans rfl;have hcz9_2 : w4.cell? ⟨gb372,2,none⟩=some (.int .i64 0):=(blk_cell BK372.out 2).trans rfl;have hfz9_0:=blk_frozen BK372.out 0;have hfz9_1:=blk_frozen BK372.out 1;have hfz9_2:=blk_frozen BK372.out 2;have hcz10_0 : w4.cell? ⟨gb371,0,none⟩=some (.int .i64 0):=(blk_cell BK371.out 0).trans rfl;have hcz10_1 : w4.cell? ⟨gb371,1,none⟩=some (.int .i64 0):=(blk_cell BK371.out 1).trans rfl;have hcz10_2 : w4.cell? ⟨gb371,2,none⟩=some (.int .i64 0):=(blk_cell BK371.out 2).trans rfl;have hfz10_0:=blk_frozen BK371.out 0;have hfz10_1:=blk_frozen BK371.out 1;have hfz10_2:=blk_frozen BK371.out 2))
 refine bodyPost_ret (results_cell_row rfl _ _ gb371 44 #[.int .i64 a0_0,.int .i64 a0_1,.int .i64 a0_2] (0,0) _ rfl (by (with_reducible repeat (first | refine blk_drewN ?_ _ | refine blk_drew ?_ | refine blk_alloc ?_ _));refine blk_put (cs:=#[.int .i64 a0_0,.int .i64 a0_1,.int .i64 0]) ?_ 2 _ rfl;(with_reducible repeat (first | refine blk_drewN ?_ _ | refine blk_drew ?_ | refine blk_alloc ?_ _));refine blk_put (cs:=#[.int .i64 a0_0,.int .i64 0,.int .i64 0]) ?_ 1 _ rfl;(with_reducible repeat (first | refine blk_drewN ?_ _ | refine blk_drew ?_ | refine blk_alloc ?_ _));refine blk_put (cs:=#[.int .i64 0,.int .i64 0,.int .i64 0]) ?_ 0 _ rfl;(with_reducible repeat (first | refine blk_drewN ?_ _ | refine blk_drew ?_ | refine blk_alloc ?_ _));refine blk_far ?_ NB371_372.out _;(with_reducible repeat (first | refine blk_drewN ?_ _ | refine blk_drew ?_ | refine blk_alloc ?_ _));refine blk_far ?_ NB371_372.out _;(with_reducible repeat (first | refine blk_drewN ?_ _ | refine blk_drew ?_ | refine blk_alloc ?_ _));refine blk_far ?_ NB371_372.out _;(with_reducible repeat (first | refine blk_drewN ?_ _ | refine blk_drew ?_ | refine blk_alloc ?_ _));exact BK371.out) Try.underlying44 rfl (by kernel_rfl)) rfl ?_
 exact ⟨erw0,bel3 HB GE370.out GE371.out GE372.out⟩
def impl_within.f (a0 : Int) (a1 : Int) (a2 : Int) : Option (Bool):=if a0 ≥ a1 then (some (decide (a0≤a2))) else (some false)
set_option maxHeartbeats 8000000 in
set_option maxRecDepth 100000 in
theorem impl_within.calls (a0 : Int) (a1 : Int) (a2 : Int) (r : Bool) (w : World) (h : impl_within.f a0 a1 a2=some r) :
  Calls Try.prog 57 #[.int .i64 a0,.int .i64 a1,.int .i64 a2] w fun e w'=>e = .returned (.bool r)∧Drawn0 w w':=by
 have H : (if a0 ≥ a1 then (some (decide (a0≤a2))) else (some false))=some r:=h
 clear h
 by_cases c4 : a0 ≥ a1
 ·rw [if_pos c4] at H
  have c4b0 : decide (a1≤a0)=true:=decide_eq_true c4
  clear c4
  obtain rfl:=Option.some.inj H
  go_enter Try.func57,Try.ntmps57
  go_wp2
  go_ret
  exact ⟨rsd,by repeat (first | exact Drawn0.refl _ | apply Drawn0.step)⟩
 ·rw [if_neg c4] at H
  have c4b0 : decide (a1≤a0)=false:=decide_eq_false c4
  clear c4
  obtain rfl:=Option.some.inj H
  go_enter Try.func57,Try.ntmps57
  go_wp2
  go_ret
  exact ⟨rsd,by repeat (first | exact Drawn0.refl _ | apply Drawn0.step)⟩
def impl_isLevel.f (a0 : Int) : Option (Bool):=(impl_within.f a0 (-500) 500).bind fun t201=>(some t201)
set_option maxHeartbeats 8000000 in
set_option maxRecDepth 100000 in
theorem impl_isLevel.calls (a0 : Int) (r : Bool) (w : World) (h : impl_isLevel.f a0=some r) :
  Calls Try.prog 58 #[.int .i64 a0] w fun e w'=>e = .returned (.bool r)∧Drawn0 w w':=by
 have H : ((impl_within.f a0 (-500) 500).bind fun t201=>(some t201))=some r:=h
 clear h
 replace H:=obs H
 obtain ⟨t201,A20,H⟩:=H
 replace H : (some t201)=some r:=H
 have A2:=amk A20
 clear A20
 obtain rfl:=Option.some.inj H
 go_enter Try.func58,Try.ntmps58
 go_wp2_with (first | ((with_reducible refine gate_callee (f:=57) rfl ?_);refine goesL_ (some 4) rfl rfl Try.func57 (by kernel_rfl) rfl #[.int .i64 a0,.int .i64 (-500),.int .i64 500] rfl mtt ?_;(with_reducible refine (impl_within.calls a0 (-500) 500 t201 _ A2.out).mono ?_);rintro e w' ⟨rfl,⟨nd,rfl⟩⟩;refine ⟨_,rfl,?_⟩))
 go_ret
 exact ⟨rsd,by repeat (first | exact Drawn0.refl _ | apply Drawn0.step)⟩
end Go.Proofs.Ytldifiededjgjaa.P
