/- Texts that a law rests on, part h1: plain lemmas and what functions of the program do. No condition. -/
import Derived.BigQuiet
import Derived.Deep.QuietTactic
import Derived.Deep.Slices
import Derived.Ground.GgsProg
import Derived.JoinedCond
import Derived.Laws.MakeOwn
import Derived.Lib.AppendZeros
import Derived.Lib.SlicesCompact
import Derived.Maps.AppendAt
import Derived.OpenShut
import Derived.ProofKit
import Derived.Scope
import Derived.Shelf.GgSortFunc.Tiny
import Derived.Shelf.SlSortFuncK.WholeK
import Derived.Shelf.Slices.CompactI
import Derived.Shelf.Slices.In.SortNone
import Derived.Shelf.Sort.Plain
import Derived.SizedLaws
import Derived.Sort.OwnSorted
import Derived.Sort.OwnSortedInts
import Derived.Test.YtnconfggojpkcaaGreatRows
import Derived.WalkKit
import Derived.WalkLawsBesides
import Derived.WalkSpells
import Derived.WideKeyRuns
import Derived.Test.YtnconfggojpkcaaGreatSz7
set_option linter.all false
set_option maxHeartbeats 16000000
set_option maxRecDepth 100000
namespace Go.Proofs.YtnconfggojpkcaaGreat
open Go.RowKit
section
variable {w w':World} {g:Nat} {t:TypeId} {cs:Array Value}
end
section
variable {S S':Nat→Prop} {w w' w'':World}
end
section
variable {α:Type} {w w':World} {B B' sz:Nat} {enc:α→List Value} {v:Value} {xs:List α}
end
section
variable {α:Type} {w w':World} {base B sz:Nat} {e:TypeId} {enc:α→List Value} {v:Value} {xs:List α}
end
def Stop (p:Prop):Prop:=p
end Go.Proofs.YtnconfggojpkcaaGreat
namespace Go.Proofs.YtnconfggojpkcaaGreat
open Go.RowKit
namespace AM
section
variable {m:Nat} {H H' H1 L:List Bk}
theorem vI.trans (h:vI m H H1) (h1:vI m H1 H'):vI m H H':=fun i b hi hb hn=>h1 i b hi (h i b hi hb hn) hn
theorem vI.append (h:vI m H H1):vI m H (H1++L):=h.trans .app
end
end AM
end Go.Proofs.YtnconfggojpkcaaGreat
namespace Go.Proofs.YtnconfggojpkcaaGreat
namespace Can
variable {L:Type} [DecidableEq L]
theorem Form.apart {F:Int→Int→Option L} {o:List (Rc L)} (h:Form F o):o.Pairwise fun p q=>p.x1<q.x0∨p.y1<q.y0:=by
 obtain ⟨R,B,h1,h2,rfl⟩:=h
 unfold emit
 rw [List.flatMap_def,List.pairwise_flatten]
 refine ⟨fun l hl => ?_,?_⟩
 ·obtain ⟨b,hb,rfl⟩:=List.mem_map.1 hl
  unfold qhx
  rw [List.pairwise_map]
  obtain ⟨e,_⟩:=qa7 h2 hb (y:=b.a) (Int.le_refl _) (h2.le b hb)
  rw [← e]
  exact (h1 b.a).pw.imp fun h => .inl h.1
 ·rw [List.pairwise_map]
  refine h2.pw.imp fun {b c} hbc p hp q hq => ?_
  obtain ⟨r,_,rfl⟩:=List.mem_map.1 hp
  obtain ⟨s,_,rfl⟩:=List.mem_map.1 hq
  exact .inr hbc.1
def jm (g:Int→Nat):Nat→Nat
 | 0=>0
 | n+1=>jm g n+g n
theorem jO {g h:Int→Nat}:∀ {n:Nat},(∀ k:Nat,k<n→g k=h k)→jm g n=jm h n
 | 0,_=>rfl
 | n+1,e=>by rw [jm,jm,jO (fun k hk=>e k (by omega)),e n (by omega)]
theorem Jj {g h:Int→Nat}:∀ {n:Nat},jm (fun x=>g x+h x) n=jm g n+jm h n
 | 0=>rfl
 | n+1=>by rw [jm,jm,jm,Jj]; omega
theorem Zo:∀ {n:Nat},jm (fun _=>0) n=0
 | 0=>rfl
 | n+1=>by rw [jm,Zo]
theorem Jd {g h:Int→Nat}:∀ {n:Nat},(∀ k:Nat,k<n→g k≤h k)→jm g n≤jm h n
 | 0,_=>Nat.le_refl _
 | n+1,e=>by
  rw [jm,jm]
  have:=Jd (n:=n) (fun k hk=>e k (by omega))
  have:=e n (by omega)
  omega
theorem Ji {g h:Int→Nat}:∀ {n:Nat},(∀ k:Nat,k<n→g k≤h k)→jm h n≤jm g n→∀ k:Nat,k<n→g k=h k
 | 0,_,_,k,hk=>by omega
 | n+1,e,hs,k,hk=>by
  rw [jm,jm] at hs
  have h1:=Jd (n:=n) (fun k hk=>e k (by omega))
  have h2:=e n (by omega)
  by_cases hkn:k=n
  ·subst hkn; omega
  ·exact Ji (n:=n) (fun k hk=>e k (by omega)) (by omega) k (by omega)
theorem Vu {a b:Int} {c:Nat} (h0:0≤a) (hab:a≤b):∀ {n:Nat},jm (fun x=>if a≤x∧x≤b then c else 0) n=(min (n:Int) (b+1) - min (n:Int) a).toNat*c
 | 0=>by
  have:(min ((0:Nat):Int) (b+1) - min ((0:Nat):Int) a).toNat=0:=by omega
  rw [jm,this,Nat.zero_mul]
 | n+1=>by
  rw [jm,Vu h0 hab (n:=n)]
  by_cases h:a≤(n:Int)∧(n:Int)≤b
  ·rw [if_pos h,← Nat.succ_mul]
   congr 1
   omega
  ·rw [if_neg h,Nat.add_zero]
   congr 1
   omega
theorem Yq {a b:Int} {c n:Nat} (h0:0≤a) (hab:a≤b) (hb:b<n):jm (fun x=>if a≤x∧x≤b then c else 0) n=(b - a+1).toNat*c:=by
 rw [Vu h0 hab]
 congr 1
 omega
end Can
end Go.Proofs.YtnconfggojpkcaaGreat
namespace Go.Proofs.YtnconfggojpkcaaGreat
open Go.RowKit AM
def jf (n:Int) (s:List Int×Bool) (x:Int):List Int×Bool:=if s.2=false∧n<x then (s.1 ++ [n,x],true) else (s.1 ++ [x],s.2)
def QK (n:Int) (xs:List Int):List Int×Bool:=xs.foldl (jf n) ([],false)
def Za (xs:List Int) (n:Int):List Int:=if n∈xs then xs else if (QK n xs).2 then (QK n xs).1 else (QK n xs).1 ++ [n]
theorem Jr (n:Int):∀ (xs b:List Int),xs.foldl (jf n) (b,true)=(b++xs,true)
 | [],b=>by simp
 | x::xs,b=>by
  have:jf n (b,true) x=(b ++ [x],true):=by simp [jf]
  rw [List.foldl_cons,this,Jr n xs]
  simp
theorem Jq {n:Int}:∀ (xs a:List Int),(a++xs).Pairwise (· < ·)→(∀ x∈a,x<n)→n∉xs →
  (((xs.foldl (jf n) (a,false)).1++if (xs.foldl (jf n) (a,false)).2 then [] else [n]).Pairwise (· < ·)∧∀ z,z∈((xs.foldl (jf n) (a,false)).1++if (xs.foldl (jf n) (a,false)).2 then [] else [n])↔z∈a∨z∈xs∨z=n)
 | [],a,h1,h2,_=>by
  simp only [List.foldl_nil,Bool.false_eq_true,if_false]
  rw [List.append_nil] at h1
  refine ⟨?_,fun z=>by simp⟩
  rw [List.pairwise_append]
  exact ⟨h1,by simp,fun x hx q hq=>by simp at hq; subst hq; exact h2 x hx⟩
 | x::xs,a,h1,h2,h3=>by
  rw [List.foldl_cons]
  by_cases h:n<x
  ·have:jf n (a,false) x=(a ++ [n,x],true):=by simp [jf,h]
   rw [this,Jr]
   simp only [if_true,List.append_nil,List.append_assoc]
   refine ⟨?_,fun z=>by simp; grind⟩
   rw [List.pairwise_append] at h1 ⊢
   obtain ⟨q1,q2,q3⟩:=h1
   refine ⟨q1,?_,fun y hy z hz => ?_⟩
   ·simp only [List.cons_append,List.nil_append]
    rw [List.pairwise_cons]
    refine ⟨fun z hz => ?_,q2⟩
    rcases List.mem_cons.1 hz with rfl | hz
    ·omega
    ·have:=(List.pairwise_cons.1 q2).1 z hz
     omega
   ·simp only [List.cons_append,List.nil_append] at hz
    rcases List.mem_cons.1 hz with rfl | hz
    ·exact h2 y hy
    ·exact q3 y hy z hz
  ·have hne:n≠x:=fun e=>h3 (by simp [e])
   have:jf n (a,false) x=(a ++ [x],false):=by simp [jf,h]
   rw [this]
   obtain ⟨k1,k2⟩:=Jq xs (a ++ [x]) (by simpa using h1) (fun y hy=>by
    rcases List.mem_append.1 hy with hy | hy
    ·exact h2 y hy
    ·simp at hy
     subst hy
     omega) (fun hm=>h3 (by simp [hm]))
   exact ⟨k1,fun z=>by rw [k2]; simp; grind⟩
theorem QJ {n:Int} {xs:List Int} (h:xs.Pairwise (· < ·)):(Za xs n).Pairwise (· < ·)∧∀ z,z∈Za xs n↔z∈xs∨z=n:=by
 unfold Za
 split
 ·rename_i hm
  exact ⟨h,fun z=>⟨.inl,fun hz=>hz.elim id fun e=>e▸hm⟩⟩
 ·rename_i hm
  obtain ⟨h1,h2⟩:=Jq xs [] (by simpa using h) (by simp) hm
  unfold QK
  cases hb:(xs.foldl (jf n) ([],false)).2 with
  | true=>rw [hb] at h1 h2; simp at h1 h2 ⊢; exact ⟨h1,h2⟩
  | false=>rw [hb] at h1 h2; simp at h1 h2 ⊢; exact ⟨h1,h2⟩
end Go.Proofs.YtnconfggojpkcaaGreat
namespace Go.Proofs.YtnconfggojpkcaaGreat
open Go.RowKit AM
attribute [local simp] zQ qU jL zT zq zR zS zo jM zu qV Z8 Qm jC Ql yc ZE vZ slF qG Qo zK yx zA shares jh yt ze Qz QI qY ZF qZ qM vX zH yu Qe qL zD zG vU slV jE jG yE zU ZJ jB jF aMM aUn Qp vW jD zC jA qJ vV Qu vY vS Zw y9 qK Qs ZK zJ zI jH jR ZH eval zZ AM.valOf qm vO yR del SV.refers zY vQ jU shift ldV V.exact V.jg V.ofValue V.vP V.vL V.cells V.one Value.oneCell' ZI QY jV Q5 ZM ZC Qa Zy jl jI Qi ZL y8 yX Qr calm Qt Zn Qk feeds shrinks Qx looks isT Qf vK Qd putAt jT jc Zm sliceB isEq Qg zk qH zO zn qR zl zm qQ zP zi qP ZW Qw yB Zl QZ inO y7 Zi Mix.vT Mix.Qc QB QX qz qj qW zh qO ZV Qq yg yh ZG Zb yw yO Q8 jW V.fixed V.vC
namespace Pt
end Pt
namespace Ce
end Ce
namespace Re
end Re
theorem yS (n:Int):PFn Tryz.prog 78 [.sc (.int .i64 n)] (.sc (.bool (inside n))):=by
 refine vwc (fn:=Tryz.f78) rfl (vwb ?_)
 simp only [Tryz.f78,ql]
 simp
 simp [gd,inside]
 grind
theorem yC (p:Re):PFn Tryz.prog 28 [p.v] (.sc (.bool (qd p))):=by
 unfold Re.v Re.cs
 refine vwc (fn:=Tryz.f28) rfl (vwb ?_)
 simp only [Tryz.f28,ql]
 have e:∀ b,qd p=b→(inside p.x0=true→inside p.x1=true→inside p.y0=true→inside p.y1=true→(decide (p.x0≤p.x1)&&decide (p.y0≤p.y1))=b):=fun b h h1 h2 h3 h4=>by
  rw [← h]; simp [qd,h1,h2,h3,h4]
 simp
 refine qc.pure (yS _) rfl rfl ?_
 cases h1:inside p.x0
 ·simp [qd,h1]
 simp
 refine qc.pure (yS _) rfl rfl ?_
 cases h2:inside p.x1
 ·simp [qd,h2]
 simp
 refine qc.pure (yS _) rfl rfl ?_
 cases h3:inside p.y0
 ·simp [qd,h3]
 simp
 refine qc.pure (yS _) rfl rfl ?_
 cases h4:inside p.y1
 ·simp [qd,h4]
 simp
 simp [gd,qd,h1,h2,h3,h4]
 grind
theorem qbc (r:Re) (p:Pt):PFn Tryz.prog 37 [r.v,p.v] (.sc (.bool (yV r p))):=by
 have hR:=yC r
 unfold Re.v Re.cs at hR ⊢
 unfold Pt.v Pt.cs
 refine vwc (fn:=Tryz.f37) rfl (vwb ?_)
 simp only [Tryz.f37,ql]
 simp
 refine qc.pure hR rfl rfl ?_
 cases h1:qd r
 ·simp [yV,h1]
 simp
 simp [gd,yV,h1]
 grind
end Go.Proofs.YtnconfggojpkcaaGreat
namespace Go.Proofs.YtnconfggojpkcaaGreat
open Go.RowKit AM
attribute [local simp] zQ qU jL zT zq zR zS zo jM zu qV Z8 Qm jC Ql yc ZE vZ slF qG Qo zK yx zA shares jh yt ze Qz QI qY ZF qZ qM vX zH yu Qe qL zD zG vU slV jE jG yE zU ZJ jB jF aMM aUn Qp vW jD zC jA qJ vV Qu vY vS Zw y9 qK Qs ZK zJ zI jH jR ZH eval zZ AM.valOf qm vO yR del SV.refers zY vQ jU shift ldV V.exact V.jg V.ofValue V.vP V.vL V.cells V.one Value.oneCell' ZI QY jV Q5 ZM ZC Qa Zy jl jI Qi ZL y8 yX Qr calm Qt Zn Qk feeds shrinks Qx looks isT Qf vK Qd putAt jT jc Zm sliceB isEq Qg zk qH zO zn qR zl zm qQ zP zi qP ZW Qw yB Zl QZ inO y7 Zi Mix.vT Mix.Qc QB QX qz qj qW zh qO ZV Qq yg yh ZG Zb yw yO Q8 jW V.fixed V.vC
theorem qcF (z:Int):qeA Tryz.prog 3 108 (.int .i64 z)=some (.int .u64 (IntKind.u64.wrap z)):=qaz Ty.u3 Ty.qmY
def zX (r:Re):Nat:=if qd r then ((r.x1 - r.x0+1)*(r.y1 - r.y0+1)).toNat else 0
theorem WZ (r:Re):zX r≤4294967296:=by
 unfold zX
 split
 ·rename_i h
  have h:=qF.1 h
  have h1:(r.x1 - r.x0+1)*(r.y1 - r.y0+1)≤65536*65536:=Int.mul_le_mul (by omega) (by omega) (by omega) (by omega)
  omega
 ·omega
theorem XV {r:Re} (h:qd r=true):IntKind.u64.wrap (IntKind.u64.wrap (r.x1 - r.x0+1)*IntKind.u64.wrap (r.y1 - r.y0+1))=(zX r:Nat)∧IntKind.i64.wrap (r.x1 - r.x0)=r.x1 - r.x0∧IntKind.i64.wrap (r.y1 - r.y0)=r.y1 - r.y0∧IntKind.i64.wrap (r.x1 - r.x0+1)=r.x1 - r.x0+1∧IntKind.i64.wrap (r.y1 - r.y0+1)=r.y1 - r.y0+1:=by
 have h':=qF.1 h
 have h1:(r.x1 - r.x0+1)*(r.y1 - r.y0+1)≤65536*65536:=Int.mul_le_mul (by omega) (by omega) (by omega) (by omega)
 have h2:0≤(r.x1 - r.x0+1)*(r.y1 - r.y0+1):=Int.mul_nonneg (by omega) (by omega)
 refine ⟨?_,by rw [wrap_i64] <;> omega,by rw [wrap_i64] <;> omega,by rw [wrap_i64] <;> omega,by rw [wrap_i64] <;> omega⟩
 rw [wrap_u64 (n:=r.x1 - r.x0+1) (by omega) (by omega),wrap_u64 (n:=r.y1 - r.y0+1) (by omega) (by omega),wrap_u64 h2 (by omega)]
 unfold zX
 rw [if_pos h]
 omega
theorem qa4 (r:Re):PFn Tryz.prog 124 [r.v] (.sc (.int .u64 (zX r))):=by
 have h1:=Jc r
 unfold Re.v Re.cs at h1 ⊢
 refine vwc (fn:=Tryz.f124) rfl (vwb ?_)
 simp only [Tryz.f124,ql]
 simp
 refine qc.pure h1 rfl rfl ?_
 cases e:qd r with
 | false=>simp [zX,e]
 | true =>
  obtain ⟨w1,w2,w3,w4,w5⟩:=XV e
  simp [qcF,w2,w3,w4,w5,w1]
def yH (a b:Re):Re:=⟨max a.x0 b.x0,max a.y0 b.y0,min a.x1 b.x1,min a.y1 b.y1⟩
def reZ:Re:=⟨0,0,0,0⟩
def Xh (a b:Re):Re:=if qE a b then yH a b else reZ
theorem Vm {a b:Re} (ha:qd a=true) (hb:qd b=true):qd (yH a b)=qE a b:=by
 have h1:=qF.1 ha
 have h2:=qF.1 hb
 rw [Bool.eq_iff_iff,qF]
 simp only [qE,ha,hb,yH,Bool.true_and,decide_eq_true_iff]
 omega
def Y6 (a b:Re):V := .tup [(Xh a b).v,.sc (.bool (qE a b))]
theorem qex (a b:Re):PFn Tryz.prog 125 [a.v,b.v] (Y6 a b):=by
 have h:=qbZ a b
 unfold Y6 Xh
 unfold Re.v Re.cs at h ⊢
 cases e:qE a b with
 | false =>
  rw [e] at h
  refine vwc (fn:=Tryz.f125) rfl (vwb ?_)
  simp only [Tryz.f125,ql]
  simp
  refine qc.pure h rfl rfl ?_
  simp [setCells,qo,reZ]
 | true =>
  rw [e] at h
  have m1:=fun x y:Int=>Int.max_comm x y
  have m2:=fun x y:Int=>Int.min_comm x y
  refine vwc (fn:=Tryz.f125) rfl (vwb ?_)
  simp only [Tryz.f125,ql]
  simp
  refine qc.pure h rfl rfl ?_
  simp [setCells,qo,yH]
  exact ⟨by split <;> omega,by split <;> omega,by split <;> omega,by split <;> omega⟩
theorem qbK (a b:Re):PFn Tryz.prog 26 [a.v,b.v] (.sc (.bool (inB a b))):=by
 have h1:=yC a
 have h2:=yC b
 unfold inB
 unfold Re.v Re.cs at h1 h2 ⊢
 refine vwc (fn:=Tryz.f26) rfl (vwb ?_)
 simp only [Tryz.f26,ql]
 simp
 refine qc.pure h1 rfl rfl ?_
 cases e:qd a with
 | false=>simp
 | true =>
  simp
  refine qc.pure h2 rfl rfl ?_
  cases e2:qd b with
  | false=>simp
  | true =>
   simp
   simp [gd]
   grind
end Go.Proofs.YtnconfggojpkcaaGreat
namespace Go.Proofs.YtnconfggojpkcaaGreat
open Go.RowKit AM
theorem XM {r:Re} (h:qd r=true):∀ n,cellOf r.lo (X7 r n:Nat)=cellOf r.hi (X7 r n:Nat)
 | 0=>by
  obtain ⟨h1,h2⟩:=JH h
  exact (Xl h1).trans (Xl h2).symm
 | n+1=>by
  unfold X7
  split
  ·assumption
  ·exact XM h n
theorem qcr {r:Re} {c:Ce} (h:qd r=true) (hc0:0≤c.l) (hu:QH c (qet r)=true):(jy c).x0≤r.x0∧(jy c).y0≤r.y0∧r.x1≤(jy c).x1∧r.y1≤(jy c).y1:=by
 obtain ⟨h1,h2⟩:=JM.1 hu
 have hn:=qcV r 16
 have h1':c.l≤(X7 r 16:Nat):=h1
 have e1:c=cellOf r.lo c.l:=by
  rw [← Zf (p:=r.lo) h1' (by omega)]
  exact h2.symm
 have e2:c=cellOf r.hi c.l:=by
  rw [← Zf (p:=r.hi) h1' (by omega),← XM h]
  exact h2.symm
 have hp:=VP c.l
 generalize hs:side c.l=t at *
 have x1:c.x=r.x0/t:=by rw [e1]; simp only [cellOf,hs,Re.lo]
 have y1:c.y=r.y0/t:=by rw [e1]; simp only [cellOf,hs,Re.lo]
 have x2:c.x=r.x1/t:=by rw [e2]; simp only [cellOf,hs,Re.hi]
 have y2:c.y=r.y1/t:=by rw [e2]; simp only [cellOf,hs,Re.hi]
 have m1:=Int.mul_ediv_add_emod r.x0 t
 have m2:=Int.mul_ediv_add_emod r.y0 t
 have m3:=Int.mul_ediv_add_emod r.x1 t
 have m4:=Int.mul_ediv_add_emod r.y1 t
 have n1:=Int.emod_nonneg r.x0 (b:=t) (by omega)
 have n2:=Int.emod_nonneg r.y0 (b:=t) (by omega)
 have n3:=Int.emod_lt_of_pos r.x1 hp
 have n4:=Int.emod_lt_of_pos r.y1 hp
 rw [← x1] at m1
 rw [← y1] at m2
 rw [← x2] at m3
 rw [← y2] at m4
 simp only [jy,hs]
 omega
end Go.Proofs.YtnconfggojpkcaaGreat
namespace Go.Proofs.YtnconfggojpkcaaGreat
open Go.RowKit AM
namespace Sh
end Sh
section
variable {I J:Nat→Prop} {H H1 H2:List Bk}
end
theorem Nd.perm {H:List Bk}:∀ {d:Nat} {c:Ce} {S S':List Sh} {b:Nat} {I:Nat→Prop},Nd H d c S b I→S.Perm S'→Nd H d c S' b I
 | 0,_,_,_,_,_,h,_=>h
 | d+1,c,S,S',b,I,h,hp=>by
  obtain ⟨m,es,k,J,h1,h2,h3,h4,h5,h6⟩:=h
  refine ⟨m,es,k,J,by rw [← hp.length_eq]; exact h1,h2,h3.trans (hp.filter _),h4,h5,fun i hi => ?_⟩
  have hq:(sub' (qD c (i:Nat)) S).Perm (sub' (qD c (i:Nat)) S'):=hp.filter _
  rcases h6 i hi with ⟨h7,h8⟩ | ⟨h7,b',h8,h9⟩
  ·refine .inl ⟨?_,h8⟩
   rw [h7] at hq
   exact hq.nil_eq.symm
  ·refine .inr ⟨fun e=>h7 ?_,b',h8,Nd.perm h9 hq⟩
   rw [e] at hq
   exact hq.eq_nil
section
variable {I J:Nat→Prop} {H H1 H2:List Bk}
end
end Go.Proofs.YtnconfggojpkcaaGreat
namespace Go.Proofs.YtnconfggojpkcaaGreat
open Go.Shelf Go.RowKit Go.Lib Go.Sort
noncomputable def shT:TypeInfo:=(Tryz.prog.info? 70).get (by kernel_rfl)
noncomputable def shE:TypeInfo:=(Tryz.prog.info? 57).get (by kernel_rfl)
theorem shK (n:Nat):Lib.swapperK n shE 25=if n=0 then 1 else if n=1 then 2 else 9:=by
 have a:shE.hasPointers=false:=by kernel_rfl
 have b:shE.bytes=48:=by kernel_rfl
 by_cases h0:n=0
 ·subst h0; simp [Lib.swapperK]
 by_cases h1:n=1
 ·subst h1; simp [Lib.swapperK]
 have c:(n==0)=false:=by simpa using h0
 have d:(n==1)=false:=by simpa using h1
 simp [Lib.swapperK,a,b,c,d,h0,h1]
theorem qfv (blk off c Bs size:Nat) (W:World) (G:Nat→Int) (hs:W.cell? ⟨Bs,0,none⟩=some (.slice (some ⟨blk,off,none⟩) size c))
  (hc:∀ t,t<size→W.cell? ⟨blk,off+t*6,none⟩=some (.int .i64 (G t))) (i j:Nat) (hi:i<size) (hj:j<size) (_hsz:size<4611686018427387904) :
  Calls Tryz.prog 169 #[.int .i64 i,.int .i64 j,.pointer (some ⟨Bs,0,none⟩)] W fun e w'=>e = .returned (.bool (decide (G i<G j)))∧∃ q,w'=W.drewN q:=by
 have ci:=hc i hi
 have cj:=hc j hj
 go_enter Tryz.func169,Tryz.ntmps169
 go_wp2
 go_quiet (fail)
 go_wp2
 go_ret
 exact ⟨rfl,nq,rfl⟩
namespace AM
end AM
def encS (s:Sh):List Value := [.int .i64 s.id,.int .i64 s.box.x0,.int .i64 s.box.y0,.int .i64 s.box.x1,.int .i64 s.box.y1,.int .i64 s.lab]
def ltS (a b:Sh):Bool:=decide (a.id<b.id)
theorem swoS:SWO ltS where
 irrefl x:=by simp [ltS]
 trans x y z h1 h2:=by simp [ltS] at *; omega
 ntrans x y z h1 h2:=by simp [ltS] at *; omega
def qi6 (zs ys:List Sh):Prop:=ys.Perm zs∧ys.Pairwise fun p q=>p.id≤q.id
theorem qm8:∀ {zs:List Sh},zs.length≤1→zs.Pairwise fun p q=>p.id≤q.id
 | [],_=>List.Pairwise.nil
 | [a],_=>List.pairwise_singleton _ _
 | _::_::_,h=>by simp at h
theorem qdU:AM.SortsIn Tryz.prog 149 70 169 57 6 encS qi6:=by
 refine ⟨?_,fun Bs w => ?_⟩
 rotate_left
 ·have hS:=Any.sort_Slice_tiny { sl6 with } 70 57 shT shE (by kernel_rfl) (by kernel_rfl) (by kernel_rfl) (by kernel_rfl) 25 (fun _=>by kernel_rfl) .none 0 0 (by decide) 203 (by rw [shK]; kernel_rfl) (.func 169) #[] #[.pointer (some ⟨Bs,0,.none⟩)] w
  refine Calls.mono (show Calls Tryz.prog 149 _ _ _ from hS) fun e w' he => ?_
  obtain ⟨rfl,os,rfl⟩:=he
  exact ⟨rfl,⟨List.Perm.refl _,List.Pairwise.nil⟩,AM.below_grow⟩
 ·intro Bs blk cap zs w hsz hc hne hrow
  rcases hrow.2 with ⟨h,_⟩ | ⟨g',cap',cur,hv,_,hb,h1,h2,h3,h4⟩
  ·cases h
  cases hv
  have hk:∀ x:Sh,(encS x).length=6:=fun _=>rfl
  have hfl:∀ ys:List Sh,(flatK encS 6 ys.toArray).toList=ys.flatMap encS:=fun ys=>AM.qev hk (by decide) ys
  have hfs:∀ ys:List Sh,(flatK encS 6 ys.toArray)=(ys.flatMap encS).toArray:=fun ys=>by rw [← hfl]
  have hfn:∀ ys:List Sh,(ys.flatMap encS).length=ys.length*6:=fun ys=>by rw [← hfl]; simp
  have hblk:blk<w.heap.size:=(Array.getElem?_eq_some_iff.1 hb).1
  by_cases h0:zs.length≤1
  ·have hS:=Any.sort_Slice_tiny { sl6 with } 70 57 shT shE (by kernel_rfl) (by kernel_rfl) (by kernel_rfl) (by kernel_rfl) 25 (fun _=>by kernel_rfl) (some ⟨blk,0,.none⟩) zs.length cap h0 (if zs.length=0 then 203 else 204)
    (by
     rw [shK]
     rcases (show zs.length=0∨zs.length=1 by omega) with h | h <;> rw [h] <;> kernel_rfl) (.func 169) #[] #[.pointer (some ⟨Bs,0,.none⟩)] w
   refine Calls.mono (show Calls Tryz.prog 149 _ _ _ from hS) fun e w' he => ?_
   obtain ⟨rfl,os,rfl⟩:=he
   refine ⟨rfl,zs,⟨List.Perm.refl _,?_⟩,rfl,?_⟩
   ·exact qm8 h0
   ·exact ⟨rfl,rfl,rfl,by simp,fun k hne hk=>heap_grow_old _ _ hk,by rw [hfn],.inr ⟨blk,cap,cur,rfl,Nat.zero_le _,(heap_grow_old _ _ hblk).trans hb,h1,h2,h3,h4⟩⟩
  ·have hBs:Bs<w.heap.size:=World.block_lt_of_cell? w ⟨Bs,0,.none⟩ hc
   have hH:HoldsK encS 6 w blk 0 zs.toArray:=by
    unfold HoldsK
    rw [hfs]
    exact AM.WO (enc:=id) (ss:=zs.flatMap encS) hb (by rw [hfn,h4]; simp)
   have hless:LessReadsK Tryz.prog 169 #[.pointer (some ⟨Bs,0,.none⟩)] encS 6 ltS blk 0 zs.toArray.size w:=by
    intro m os dk hs i j hi hj
    have e:sortWorldK encS 6 w blk 0 m dk os=putRowK encS 6 (grow (Sort.ahead w m) os) blk 0 dk:=by
     unfold sortWorldK; rw [putRowK_grow _ _ (Sort.ahead w m) _ blk 0 _ hblk]
    have hHg:HoldsK encS 6 (grow (Sort.ahead w m) os) blk 0 zs.toArray:=holdsK_grow _ _ _ _ blk 0 _ hblk (holdsK_ahead _ _ _ _ _ _ _ hH)
    refine qfv blk 0 cap Bs zs.toArray.size _ (fun t=>dk[t]!.id) ?_ (fun t ht => ?_) i j hi hj (by simpa using hsz)
    ·rw [e,cell?_putRowK_other _ _ _ blk 0 dk _ (by exact hne),cell?_grow _ _ _ (by exact hBs)]
     simpa using hc
    ·rw [e]
     have:=((holdsK_putRowK _ _ _ blk 0 zs.toArray dk hHg hs).cell (i:=t) (c:=0) (by omega) (by omega)).1
     simpa [encS] using this
   have hS:=Any.sort_Slice_cells_sorted sl6 70 57 shT shE (by kernel_rfl) (by kernel_rfl) (by kernel_rfl) (by kernel_rfl) 25 (fun _=>by kernel_rfl) encS 6 hk (by kernel_rfl) (fun _=>by kernel_rfl)
    (fun x v hv=>by simp [encS] at hv; rcases hv with rfl | rfl | rfl | rfl | rfl | rfl <;> rfl) ltS swoS 169 _
    (enters_of Tryz.func169 (by kernel_rfl) rfl) blk 0 cap zs.toArray (by simp; omega) (by simpa using hsz) 211 (by
     rw [shK,if_neg (by rw [List.size_toArray]; omega),if_neg (by rw [List.size_toArray]; omega)]; kernel_rfl) false
    (fun args W=>run_callFunc_extern Tryz.func211 (by kernel_rfl) (by kernel_rfl) (by kernel_rfl) (e:=Extern.ReflectliteSwapper.swap false) (by kernel_rfl) args W) w hless hH hblk
   refine Calls.mono (show Calls Tryz.prog 149 _ _ _ from hS) fun e w' he => ?_
   obtain ⟨rfl,d',n,os,hp,hso,rfl⟩:=he
   obtain ⟨hp1,_,hp3⟩:=hp
   have e1:d'.extract 0 zs.toArray.size=d':=by rw [← hp1]; simp
   have e2:zs.toArray.extract 0 zs.toArray.size=zs.toArray:=by simp
   rw [e1,e2] at hp3
   have hperm:d'.toList.Perm zs:=hp3
   have hl:d'.toList.length=zs.length:=hperm.length_eq
   refine ⟨rfl,d'.toList,⟨hperm,?_⟩,hl,?_⟩
   ·rw [List.pairwise_iff_getElem]
    intro i j hi hj hij
    have hj':j<d'.size:=by simpa using hj
    have hi':i<d'.size:=by omega
    have hjz:j<zs.toArray.size:=by rw [← hp1]; exact hj'
    have:=hso i j (Nat.zero_le _) hij hjz
    rw [getElem!_pos d' i hi',getElem!_pos d' j hj'] at this
    simp only [ltS,decide_eq_false_iff_not,Int.not_lt] at this
    simpa using this
   ·unfold putRowK
    have e3:flatK encS 6 d'=(d'.toList.flatMap encS).toArray:=hfs d'.toList
    rw [e3]
    have hh:=AM.heap_put (enc:=id) (n:=n) (os:=os) (d'.toList.flatMap encS).toArray hb
    have ht:=AM.qfI (enc:=id) cur (d'.toList.flatMap encS) (by rw [hfn,hl,h3]; exact Nat.mul_le_mul_right 6 h1)
    rw [hfn] at ht
    refine ⟨rfl,rfl,rfl,by simp,fun k hne hk => ?_,by rw [hfn,hl],.inr ⟨blk,cap,_,rfl,Nat.zero_le _,hh,h1,h2,by simp [putCells,h3],by rw [← hl,ht]; simp⟩⟩
    rw [heap_grow_old _ _ (by simpa using hk)]
    simp [putRow,mapBlock,Sort.ahead,Array.getElem?_modify,Ne.symm hne]
end Go.Proofs.YtnconfggojpkcaaGreat
namespace Go.Proofs.YtnconfggojpkcaaGreat
open Go.RowKit AM
attribute [local simp] zQ qU jL zT zq zR zS zo jM zu qV Z8 Qm jC Ql yc ZE vZ slF qG Qo zK yx zA shares jh yt ze Qz QI qY ZF qZ qM vX zH yu Qe qL zD zG vU slV jE jG yE zU ZJ jB jF aMM aUn Qp vW jD zC jA qJ vV Qu vY vS Zw y9 qK Qs ZK zJ zI jH jR ZH eval zZ AM.valOf qm vO yR del SV.refers zY vQ jU shift ldV V.exact V.jg V.ofValue V.vP V.vL V.cells V.one Value.oneCell' ZI QY jV Q5 ZM ZC Qa Zy jl jI Qi ZL y8 yX Qr calm Qt Zn Qk feeds shrinks Qx looks isT Qf vK Qd putAt jT jc Zm sliceB isEq Qg zk qH zO zn qR zl zm qQ zP zi qP ZW Qw yB Zl QZ inO y7 Zi Mix.vT Mix.Qc QB QX qz qj qW zh qO ZV Qq yg yh ZG Zb yw yO Q8 jW V.fixed V.vC
attribute [local simp] vE je yL vH jQ vF vG jP yM vk jN V5 Ja yF QT Jb z0 JL VK Vo VU
def qbw:Pr:=⟨0,⟨0,0⟩,0⟩
def Xp (S:List Pr) (k:Int):V:=match VY S k with
 | some s => .tup [s.v,.sc (.bool true)]
 | none => .tup [qbw.v,.sc (.bool false)]
theorem wFind {H:List Bk} {r b nb mb cap:Nat} {s:Ar} {es:List Pr} (hT:TrA H r b nb mb cap s es) (h0:0<s.A.length) (k:Int):AFn Tryz.prog 36 [.ptr r 0,.sc (.int .i64 k)] H fun y H'=>y=Xp es k∧KpA (fun _=>False) H H':=by
 have hM:=fun L=>qnZ (hT.app (L:=L))
 have hr0:=hT.cr
 unfold trC at hr0
 have hr:=fun L=>hget (L:=L) hr0
 have hm:=fun L=>hget (L:=L) hT.cm
 have hfs:=qin (es:=es) k 0
 unfold Xp
 rw [← hfs]
 refine vwc (fn:=Tryz.f36) rfl ?_
 simp only [Tryz.f36,ql]
 refine AW.seq (vwb ?_)
 simp
 refine AW.seq (vwb ?_)
 simp
 refine qc.of (hM _) ?_
 rintro y H1 ⟨rfl,rfl⟩
 simp [h0]
 refine AW.seq (vwb ?_)
 cases hs:qe4 k es 0 with
 | none =>
  simp [hr,hm,qdr,hs,zvPr,setCells,qo]
  refine vwb ?_
  simp [setCells,qo,Pr.v,Pr.cs,qbw]
  exact KpA.refl.app
 | some p =>
  unfold Pr.v Pr.cs
  simp [hr,hm,qdr,hs,zvPr,setCells,qo,Pr.v,Pr.cs]
  refine vwb ?_
  simp [setCells,qo,Pr.v,Pr.cs,qbw]
  exact KpA.refl.app
def qmi (s:Sh) (p:Pt) (l:Int):Int:=Zu (zW s.box l).1 p
end Go.Proofs.YtnconfggojpkcaaGreat
namespace Go.Proofs.YtnconfggojpkcaaGreat
open Go.RowKit AM
theorem TrP.perm {H:List Bk} {r b:Nat} {S S':List Pr} {T:Nat→Prop} (h:TrP H r b S T) (hp:S.Perm S'):TrP H r b S' T:=by
 obtain ⟨nb,mb,cap,s,es,I,h,hT⟩:=h
 exact ⟨nb,mb,cap,s,es,I,⟨h.tr,h.rep.congr (fun _ _=>rfl) hp,h.fit,h.ok.sub (fun r hr=>hp.mem_iff.2 hr) (by rw [hp.length_eq]; exact Nat.le_refl _),(hp.map Pr.id).nodup_iff.1 h.ids,h.es.trans hp⟩,hT⟩
section
variable {H:List Bk} {r b:Nat} {S:List Pr} {T:Nat→Prop}
theorem pFind (ht:TrP H r b S T) (k:Int):AFn Tryz.prog 36 [.ptr r 0,.sc (.int .i64 k)] H fun y H'=>y=Xp S k∧Kp NoB H H':=by
 obtain ⟨nb,mb,cap,s,es,I,h,hT⟩:=ht
 refine AFn.conv (wFind h.tr h.pos k) ?_
 rintro y H' ⟨rfl,k1⟩
 refine ⟨_,⟨?_,qoO k1⟩,fun _ _ _ h=>h⟩
 unfold Xp
 rw [qjN h.ids h.es]
end
end Go.Proofs.YtnconfggojpkcaaGreat
namespace Go.Proofs.YtnconfggojpkcaaGreat
open Go.RowKit AM
attribute [local simp] zQ qU jL zT zq zR zS zo jM zu qV Z8 Qm jC Ql yc ZE vZ slF qG Qo zK yx zA shares jh yt ze Qz QI qY ZF qZ qM vX zH yu Qe qL zD zG vU slV jE jG yE zU ZJ jB jF aMM aUn Qp vW jD zC jA qJ vV Qu vY vS Zw y9 qK Qs ZK zJ zI jH jR ZH eval zZ AM.valOf qm vO yR del SV.refers zY vQ jU shift ldV V.exact V.jg V.ofValue V.vP V.vL V.cells V.one Value.oneCell' ZI QY jV Q5 ZM ZC Qa Zy jl jI Qi ZL y8 yX Qr calm Qt Zn Qk feeds shrinks Qx looks isT Qf vK Qd putAt jT jc Zm sliceB isEq Qg zk qH zO zn qR zl zm qQ zP zi qP ZW Qw yB Zl QZ inO y7 Zi Mix.vT Mix.Qc QB QX qz qj qW zh qO ZV Qq yg yh ZG Zb yw yO Q8 jW V.fixed V.vC
attribute [local simp] vE je yL vH jQ vF vG jP yM vk jN V5 Ja yF QT Jb z0 JL VK Vo VU
def WG (s:Pr) (a:List Pr×Bool) (x:Pr):List Pr×Bool:=if (!a.2&&decide (s.id<x.id))=true then (a.1 ++ [s] ++ [x],true) else (a.1 ++ [x],a.2)
def yY (s:Pr) (zs:List Pr):List Pr×Bool:=zs.foldl (WG s) ([],false)
def Vk (xs:List Pr) (s:Pr):List Pr:=if (yY s xs).2=true then (yY s xs).1 else (yY s xs).1 ++ [s]
theorem JR {s:Pr} {zs:List Pr} {k:Nat} (h:k<zs.length):yY s (zs.take (k+1))=WG s (yY s (zs.take k)) zs[k]:=by
 unfold yY
 rw [Q0 h,List.foldl_append]
 rfl
def QV (S:List Pr):Prop:=S.Pairwise fun p q=>p.id<q.id
theorem QV.nodup {S:List Pr} (h:QV S):(S.map Pr.id).Nodup:=List.pairwise_map.2 (h.imp fun h=>by omega)
theorem XL {zs:List Pr} (hz:QV zs) {n:Nat} (hlt:n<zs.length):∀ t∈zs.take n,t.id<zs[n].id:=fun t ht=>by
 obtain ⟨i,hi,e⟩:=List.getElem_of_mem ht
 rw [List.length_take] at hi
 rw [List.getElem_take] at e
 rw [← e]
 exact List.pairwise_iff_getElem.1 hz i n (by omega) hlt (by omega)
theorem YO {s:Pr} {zs:List Pr} (hz:QV zs) (hn:∀ t∈zs,t.id≠s.id):∀ n,n≤zs.length→((yY s (zs.take n)).2=true→(yY s (zs.take n)).1.Perm (s::zs.take n)∧QV (yY s (zs.take n)).1∧∃ t∈zs.take n,s.id<t.id)∧((yY s (zs.take n)).2=false→(yY s (zs.take n)).1=zs.take n∧∀ t∈zs.take n,t.id<s.id):=by
 intro n
 induction n with
 | zero=>intro _; simp [yY]
 | succ n ih =>
  intro hle
  have hlt:n<zs.length:=by omega
  have ih:=ih (by omega)
  have hs:=JR (s:=s) hlt
  have hpre:=XL hz hlt
  have hinc:QV (zs.take n):=List.Pairwise.sublist (List.take_sublist n zs) hz
  have hne:zs[n].id≠s.id:=hn _ (List.getElem_mem hlt)
  rw [hs,Q0 hlt]
  generalize hx:zs[n]=x at *
  generalize hp:zs.take n=pre at *
  generalize yY s pre=a at *
  obtain ⟨l,b⟩:=a
  unfold WG
  simp only at ih ⊢
  cases b with
  | true =>
   obtain ⟨h1,h2,t,h3,h4⟩:=ih.1 rfl
   simp only [Bool.not_true,Bool.false_and,Bool.false_eq_true,if_false]
   refine ⟨fun _=>⟨h1.append_right [x],List.pairwise_append.2 ⟨h2,List.pairwise_singleton _ _,fun y hy z hz' => ?_⟩,t,by simp [h3],h4⟩,fun e=>by cases e⟩
   rw [List.mem_singleton] at hz'
   subst hz'
   rcases List.mem_cons.1 (h1.mem_iff.1 hy) with rfl | hy
   ·have:=hpre t h3
    omega
   ·exact hpre y hy
  | false =>
   obtain ⟨h1,h2⟩:=ih.2 rfl
   subst h1
   by_cases he:s.id<x.id
   ·simp only [he,decide_true,Bool.not_false,Bool.and_self,if_true]
    refine ⟨fun _=>⟨?_,?_,x,by simp,he⟩,fun e=>by cases e⟩
    ·rw [List.append_assoc]
     exact List.perm_middle
    ·refine List.pairwise_append.2 ⟨List.pairwise_append.2 ⟨hinc,List.pairwise_singleton _ _,fun y hy z hz' => ?_⟩,List.pairwise_singleton _ _,fun y hy z hz' => ?_⟩
     ·rw [List.mem_singleton] at hz'
      subst hz'
      exact h2 y hy
     ·rw [List.mem_singleton] at hz'
      subst hz'
      rcases List.mem_append.1 hy with hy | hy
      ·exact hpre y hy
      ·rw [List.mem_singleton] at hy
       subst hy
       exact he
   ·simp only [he,decide_false,Bool.and_false,Bool.false_eq_true,if_false]
    refine ⟨fun e=>(by cases e),fun _=>⟨trivial,fun t ht => ?_⟩⟩
    rcases List.mem_append.1 ht with ht | ht
    ·exact h2 t ht
    ·rw [List.mem_singleton] at ht
     subst ht
     omega
theorem Js {xs:List Pr} {s:Pr} (hx:QV xs) (hn:∀ t∈xs,t.id≠s.id):(Vk xs s).Perm (s::xs)∧QV (Vk xs s):=by
 have h:=YO (s:=s) hx hn _ (Nat.le_refl _)
 rw [List.take_length] at h
 unfold Vk
 cases hb:(yY s xs).2 with
 | true =>
  obtain ⟨h1,h2,_⟩:=h.1 hb
  simp only [if_true]
  exact ⟨h1,h2⟩
 | false =>
  obtain ⟨h1,h2⟩:=h.2 hb
  simp only [Bool.false_eq_true,if_false,h1]
  refine ⟨List.perm_append_comm,List.pairwise_append.2 ⟨hx,List.pairwise_singleton _ _,fun y hy z hz' => ?_⟩⟩
  rw [List.mem_singleton] at hz'
  subst hz'
  exact h2 y hy
def ZA (a:List Pr) (s:Pr):List Pr:=if qa2 a s=0 then Vk a s else a
def jK (l:List Pr):List Pr:=l.foldl ZA []
theorem Jg {l:List Pr} {k:Nat} (h:k<l.length):jK (l.take (k+1))=ZA (jK (l.take k)) l[k]:=by
 unfold jK
 rw [Q0 h,List.foldl_append]
 rfl
theorem YV {a:List Pr} {s:Pr} (h:QV a):QV (ZA a s):=by
 unfold ZA
 split
 ·rename_i e
  exact (Js h (VH e).2).2
 ·exact h
theorem Jw {a:List Pr} {s:Pr} (h:QV a):(ZA a s).Perm (YA a s):=by
 unfold ZA YA
 split
 ·rename_i e
  exact (Js h (VH e).2).1
 ·exact List.Perm.refl _
theorem YU {a:List Pr} {s:Pr} (h:QV a):(ZA a s).length≤a.length+1:=by
 rw [(Jw h).length_eq]
 exact qbV
theorem Z7 (l:List Pr):QV (jK l)∧(jK l).length≤l.length:=by
 have go:∀ n,n≤l.length→QV (jK (l.take n))∧(jK (l.take n)).length≤n:=by
  intro n
  induction n with
  | zero=>intro _; simp [jK,QV]
  | succ n ih =>
   intro hn
   obtain ⟨h1,h2⟩:=ih (by omega)
   rw [Jg (by omega)]
   have:=YU (s:=l[n]) h1
   exact ⟨YV h1,by omega⟩
 have:=go l.length (Nat.le_refl _)
 rwa [List.take_length] at this
end Go.Proofs.YtnconfggojpkcaaGreat
namespace Go.Proofs.YtnconfggojpkcaaGreat
open Go.RowKit AM Can
attribute [local simp] zQ qU jL zT zq zR zS zo jM zu qV Z8 Qm jC Ql yc ZE vZ slF qG Qo zK yx zA shares jh yt ze Qz QI qY ZF qZ qM vX zH yu Qe qL zD zG vU slV jE jG yE zU ZJ jB jF aMM aUn Qp vW jD zC jA qJ vV Qu vY vS Zw y9 qK Qs ZK zJ zI jH jR ZH eval zZ AM.valOf qm vO yR del SV.refers zY vQ jU shift ldV V.exact V.jg V.ofValue V.vP V.vL V.cells V.one Value.oneCell' ZI QY jV Q5 ZM ZC Qa Zy jl jI Qi ZL y8 yX Qr calm Qt Zn Qk feeds shrinks Qx looks isT Qf vK Qd putAt jT jc Zm sliceB isEq Qg zk qH zO zn qR zl zm qQ zP zi qP ZW Qw yB Zl QZ inO y7 Zi Mix.vT Mix.Qc QB QX qz qj qW zh qO ZV Qq yg yh ZG Zb yw yO Q8 jW V.fixed V.vC
def QW (down:Bool) (o:List Int) (r:Re):List Int:=if down then Za (Za o r.y0) (r.y1+1) else Za (Za o r.x0) (r.x1+1)
def qN (l:List Re) (down:Bool):List Int:=l.foldl (QW down) [0,65536]
theorem Yf {down:Bool} {o:List Int} {r:Re} (h:o.Pairwise (· < ·)):(QW down o r).Pairwise (· < ·)∧∀ z,z∈QW down o r↔z∈o∨z=lo down r∨z=hi down r+1:=by
 unfold QW lo hi
 split
 ·obtain ⟨h1,h2⟩:=QJ (n:=r.y0) h
  obtain ⟨h3,h4⟩:=QJ (n:=r.y1+1) h1
  exact ⟨h3,fun z=>by rw [h4,h2,or_assoc]⟩
 ·obtain ⟨h1,h2⟩:=QJ (n:=r.x0) h
  obtain ⟨h3,h4⟩:=QJ (n:=r.x1+1) h1
  exact ⟨h3,fun z=>by rw [h4,h2,or_assoc]⟩
theorem yP (l:List Re) (down:Bool):(qN l down).Pairwise (· < ·)∧∀ z,z∈qN l down↔z=0∨z=65536∨∃ r∈l,z=lo down r∨z=hi down r+1:=by
 have go:∀ (l:List Re) (o:List Int),o.Pairwise (· < ·)→(l.foldl (QW down) o).Pairwise (· < ·)∧∀ z,z∈l.foldl (QW down) o↔z∈o∨∃ r∈l,z=lo down r∨z=hi down r+1:=by
  intro l
  induction l with
  | nil=>intro o h; exact ⟨h,fun z=>by simp⟩
  | cons r l ih =>
   intro o h
   obtain ⟨h1,h2⟩:=Yf (down:=down) (r:=r) h
   obtain ⟨h3,h4⟩:=ih _ h1
   refine ⟨h3,fun z => ?_⟩
   rw [List.foldl_cons,h4,h2]
   simp only [List.mem_cons,exists_eq_or_imp,or_assoc]
 obtain ⟨h1,h2⟩:=go l [0,65536] (by simp)
 exact ⟨h1,fun z=>by rw [qN,h2]; simp [or_assoc]⟩
end Go.Proofs.YtnconfggojpkcaaGreat
namespace Go.Proofs.YtnconfggojpkcaaGreat
open Go.RowKit AM Can
attribute [local simp] zQ qU jL zT zq zR zS zo jM zu qV Z8 Qm jC Ql yc ZE vZ slF qG Qo zK yx zA shares jh yt ze Qz QI qY ZF qZ qM vX zH yu Qe qL zD zG vU slV jE jG yE zU ZJ jB jF aMM aUn Qp vW jD zC jA qJ vV Qu vY vS Zw y9 qK Qs ZK zJ zI jH jR ZH eval zZ AM.valOf qm vO yR del SV.refers zY vQ jU shift ldV V.exact V.jg V.ofValue V.vP V.vL V.cells V.one Value.oneCell' ZI QY jV Q5 ZM ZC Qa Zy jl jI Qi ZL y8 yX Qr calm Qt Zn Qk feeds shrinks Qx looks isT Qf vK Qd putAt jT jc Zm sliceB isEq Qg zk qH zO zn qR zl zm qQ zP zi qP ZW Qw yB Zl QZ inO y7 Zi Mix.vT Mix.Qc QB QX qz qj qW zh qO ZV Qq yg yh ZG Zb yw yO Q8 jW V.fixed V.vC
attribute [local simp] vE je yL vH jQ vF vG jP yM vk jN V5 Ja yF QT Jb z0 JL VK Vo VU
def jS (l:List Ru) (t m:Nat) (H0 H:List Bk):Prop:=(∃ es,Tab H t m l es∧VO l es)∧vI m H0 H
theorem jS.w {l:List Ru} {t m:Nat} {H0 H:List Bk} (h:jS l t m H0 H):Kept l t m H0 H:=⟨h.1,h.2.w⟩
theorem jS.trans {l:List Ru} {t m:Nat} {H0 H1 H2:List Bk} (h:vI m H0 H1) (k:jS l t m H1 H2):jS l t m H0 H2:=⟨k.1,h.trans k.2⟩
theorem jS.app {l:List Ru} {t m:Nat} {H0 H1 L:List Bk} (k:jS l t m H0 H1):jS l t m H0 (H1++L):=by
 obtain ⟨⟨es,h1,h2⟩,h3⟩:=k
 exact ⟨⟨es,h1.stays .app,h2⟩,h3.append⟩
def ofS (r:Re) (s:Int×Int) (q:Rc Int):Int×Int:=if qE (jo q) r then (IntKind.u64.wrap (s.1 - zX (yH (jo q) r)),if q.z<s.2 then q.z else s.2) else s
def ofP (qs:List (Rc Int)) (r:Re):Int:=if 0<(qs.foldl (ofS r) ((zX r:Nat),16)).1 then 0 else (qs.foldl (ofS r) ((zX r:Nat),16)).2
def OfI (l:List Ru) (qs:List (Rc Int)) (r:Re) (b:Nat) (t m:Nat) (H0:List Bk) (k:Nat) (F:Fr) (H:List Bk):Prop:=(jS l t m H0 H∧H[b]? = some (reB r)) ∧
 F = [(9,.v (.ptr b 0)),(11,.v (.sc (.int .u64 ((qs.take k).foldl (ofS r) ((zX r:Nat),16)).1))),(12,.v (.sc (.int .i64 ((qs.take k).foldl (ofS r) ((zX r:Nat),16)).2))),(38,.v (slP qs)),(39,.v (.sc (.int .i64 qs.length))),(40,.v (.sc (.int .i64 k)))]
theorem qaN {H:List Bk} {b:Bk} {xs:List SV} {ys:List V} (h:xs.length=ys.length):setCells (H ++ [b,.cells xs]) (H.length+1) 0 ys=H ++ [b,.cells (ys.map .v)]:=by
 have:=JZ (H:=H ++ [b]) h
 simpa using this
theorem gOf (l:List Ru) (ro ti la:Int) (r:Re) (hl:l.length≤1000000) (hn:(qg l).length≤1048576) (t m:Nat) (es:List (Value×V)) (H:List Bk) (hT:Tab H t m l es) (hM:VO l es) :
  AFn Tryz.prog 71 [.ptr t 0,.sc (.int .i64 ro),.sc (.int .i64 ti),.sc (.int .i64 la),r.v] H fun y H'=>y = .sc (.int .i64 (if QU ro ti la&&qd r then ofP (Vq l ro ti la) r else 0))∧jS l t m H H':=by
 have hTm:=(List.getElem?_eq_some_iff.1 hT.m).1
 have hT1:=hT.stays (.app (L := [reB r]))
 have hb1:=qab (H:=H) (b:=reB r)
 have h1:=qhj t m l es _ hT1
 have h2:=qcs ro ti la
 have h3:=qa3 l ro ti la hl hn t m es _ hT1 hM
 have hR:=Jc r
 have hA:=qa4 r
 have hq:=WH l ro ti la
 unfold reB at h1 h3
 unfold Re.v Re.cs at hR hA ⊢
 refine vwc (fn:=Tryz.f71) rfl (vwb ?_)
 simp only [Tryz.f71,ql]
 simp
 refine qc.of h1 ?_
 rintro y H1 ⟨rfl,rfl⟩
 simp
 refine qc.pure h2 rfl rfl ?_
 cases e:QU ro ti la with
 | false =>
  simp
  exact ⟨⟨es,hT1,hM⟩,.app⟩
 | true =>
  simp
  refine qc.pure hR rfl rfl ?_
  cases e2:qd r with
  | false =>
   simp
   exact ⟨⟨es,hT1,hM⟩,.app⟩
  | true =>
   simp
   refine qc.pure hA rfl rfl ?_
   simp
   refine qc.of h3 ?_
   rintro y H2 ⟨rfl,es',hT',hM',hs⟩
   have hb2:=hs.cells (by omega) hb1
   generalize Vq l ro ti la=qs at *
   simp [slP]
   refine AW.count qs.length (OfI l qs r H.length t m H) ⟨_,?_,⟨⟨⟨es',hT',hM'⟩,vI.trans .app hs⟩,hb2⟩,rfl⟩ ?_
   ·simp [qz,qj,qm,slP]
   rintro k F H3 hk ⟨⟨hK,hb3⟩,rfl⟩
   refine vwb ?_
   by_cases hlt:k<qs.length
   ·have w1:IntKind.i64.wrap ((k:Int)+1)=(k:Int)+1:=by rw [wrap_i64] <;> omega
    have hrow:=qg9 hlt
    have hst:=yD (f:=ofS r) (b:=(((zX r:Nat):Int),(16:Int))) (xs:=qs) (k:=k) hlt
    have hH:=qex (jo qs[k]) r
    have hB:=qa4 (yH (jo qs[k]) r)
    have hb3':=fun L=>qce (L:=L) hb3
    have hbq:=qab (H:=H3) (b := .cells [.v (.sc (.int .i64 qs[k].x0)),.v (.sc (.int .i64 qs[k].y0)),.v (.sc (.int .i64 qs[k].x1)),.v (.sc (.int .i64 qs[k].y1)),.v (.sc (.int .i64 qs[k].z))])
    generalize hgs:(qs.take k).foldl (ofS r) (((zX r:Nat):Int),(16:Int))=s at *
    unfold Y6 Xh Re.v Re.cs at hH
    unfold Re.v Re.cs at hB
    unfold reB at hb3'
    cases e3:qE (jo qs[k]) r with
    | true =>
     have e1:ofS r s qs[k]=(IntKind.u64.wrap (s.1 - zX (yH (jo qs[k]) r)),if qs[k].z<s.2 then qs[k].z else s.2):=by simp [ofS,e3]
     rw [e1] at hst
     rw [e3,if_pos rfl] at hH
     have hbx:=qab (H:=H3 ++ [.cells [.v (.sc (.int .i64 qs[k].x0)),.v (.sc (.int .i64 qs[k].y0)),.v (.sc (.int .i64 qs[k].x1)),.v (.sc (.int .i64 qs[k].y1)),.v (.sc (.int .i64 qs[k].z))]]) (b:=reB (yH (jo qs[k]) r))
     have hbq2:=fun L=>qce (L:=L) hbq
     unfold reB at hbx
     simp [slP,hlt,hrow,JZ,hb3',hbq]
     refine qc.pure hH rfl rfl ?_
     simp [JZ,qaN]
     refine qc.pure hB rfl rfl ?_
     simp [w1]
     refine ⟨_,?_,⟨hK.app,hb3' _⟩,rfl⟩
     rw [hst]
     simp [qz,qj,qm,slP]
    | false =>
     have e1:ofS r s qs[k]=s:=by simp [ofS,e3]
     rw [e1] at hst
     rw [e3,if_neg (by decide)] at hH
     simp [slP,hlt,hrow,JZ,hb3',hbq]
     refine qc.pure hH rfl rfl ?_
     simp [JZ,qaN,w1]
     refine ⟨_,?_,⟨hK.app,hb3' _⟩,rfl⟩
     rw [hst]
     simp [qz,qj,qm,slP]
   ·have hk':k=qs.length:=by omega
    subst hk'
    simp [slP]
    unfold ofP
    generalize qs.foldl (ofS r) ((zX r:Nat),16)=s at *
    by_cases h0:0<s.1
    ·simp [gd,h0]
     exact hK
    ·simp [gd,h0]
     exact hK
def Yc (l:List Ru) (ro ti la:Int) (r:Re) (z:Int) (p:Pt):Int:=if yV r p&&decide (vN l ro ti la p<z) then vN l ro ti la p else z
def Qb (l:List Ru) (ro ti la:Int) (r:Re) (ys:List Int) (z x:Int):Int:=ys.foldl (fun z y=>Yc l ro ti la r z ⟨x,y⟩) z
def Vi (l:List Ru) (ro ti la:Int) (r:Re):Int:=(qN (qg l ++ [r]) false).foldl (Qb l ro ti la r (qN (qg l ++ [r]) true)) 16
end Go.Proofs.YtnconfggojpkcaaGreat
namespace Go.Proofs.YtnconfggojpkcaaGreat
open Go.RowKit AM Can
section
variable {l:List Ru} {b:Ru→Bool} {G:Int→Int→Option Int} (hG:∀ x y,G x y=qbT (V7 (fun r=>b r&&hasB r.boxes ⟨x,y⟩) l))
include hG
end
theorem qb9 {l:List Ru} (ha:l.all qI=true) (ro ti la x y:Int):F2 l ro ti la x y=qbT (V7 (fun r=>XO r ro ti la&&hasB r.boxes ⟨x,y⟩) l):=by
 unfold F2
 rw [qbg ha]
 rfl
def cnt (P:Int→Int→Bool):Nat:=jm (fun y=>jm (fun x=>if P x y then 1 else 0) 65536) 65536
theorem Y0 {P Q:Int→Int→Bool} (h:∀ x y,P x y=Q x y):cnt P=cnt Q:=by
 have:P=Q:=funext fun x=>funext fun y=>h x y
 rw [this]
theorem WX {P Q R:Int→Int→Bool} (h:∀ x y,((if P x y then 1 else 0):Nat)=(if Q x y then 1 else 0)+(if R x y then 1 else 0)):cnt P=cnt Q+cnt R:=by
 unfold cnt
 rw [← Jj]
 refine jO fun k _ => ?_
 rw [← Jj]
 exact jO fun j _=>h _ _
theorem Wy {n:Nat} {P Q:Int→Int→Nat} (h:∀ x y,P x y≤Q x y):jm (fun y=>jm (fun x=>P x y) n) n≤jm (fun y=>jm (fun x=>Q x y) n) n:=Jd fun y _=>Jd fun x _=>h x y
theorem qb6 {P Q:Int→Int→Bool} (h:∀ x y,((if P x y then 1 else 0):Nat)≤if Q x y then 1 else 0):cnt P≤cnt Q:=Wy h
theorem Vt {g:Int→Nat} {n:Nat}:jm g n=0↔∀ k:Nat,k<n→g k=0:=by
 constructor
 ·intro h k hk
  exact (Ji (g:=fun _=>0) (h:=g) (n:=n) (fun _ _=>Nat.zero_le _) (by rw [h]; exact Nat.zero_le _) k hk).symm
 ·intro h
  rw [jO (h:=fun _=>0) h,Zo]
theorem Vd {P:Int→Int→Bool}:cnt P=0↔∀ y:Nat,y<65536→∀ x:Nat,x<65536→P x y=false:=by
 unfold cnt
 rw [Vt]
 refine forall_congr' fun y=>forall_congr' fun _ => ?_
 rw [Vt]
 refine forall_congr' fun x=>forall_congr' fun _ => ?_
 cases P x y <;> simp
def inR (r:Re) (x y:Int):Bool:=decide ((r.x0≤x∧x≤r.x1)∧r.y0≤y∧y≤r.y1)
theorem zf {r:Re} {x y:Int}:inR r x y=true↔(r.x0≤x∧x≤r.x1)∧r.y0≤y∧y≤r.y1:=by simp [inR]
theorem Ve {r:Re} (hr:qd r=true):cnt (inR r)=zX r:=by
 have h:=qF.1 hr
 unfold cnt zX
 rw [if_pos hr]
 have e:∀ y:Nat,y<65536→jm (fun x=>if inR r x y then 1 else 0) 65536=if r.y0≤(y:Int)∧(y:Int)≤r.y1 then (r.x1 - r.x0+1).toNat else 0:=fun y _=>by
  by_cases hy:r.y0≤(y:Int)∧(y:Int)≤r.y1
  ·rw [if_pos hy]
   have:=Yq (a:=r.x0) (b:=r.x1) (c:=1) (n:=65536) (by omega) (by omega) (by omega)
   rw [Nat.mul_one] at this
   rw [← this]
   refine jO fun x _ => ?_
   simp [inR,hy]
  ·rw [if_neg hy]
   rw [jO (h:=fun _=>0) fun x _ => ?_,Zo]
   simp only [inR]
   simp
   intro _ _ h3
   omega
 rw [jO (h:=fun y=>if r.y0≤y∧y≤r.y1 then (r.x1 - r.x0+1).toNat else 0) e,Yq (by omega) (by omega) (by omega),← Int.toNat_mul (by omega) (by omega),Int.mul_comm]
theorem WM {a b:Re} {x y:Int}:inR (yH a b) x y=(inR a x y&&inR b x y):=by
 rw [Bool.eq_iff_iff,Bool.and_eq_true,zf,zf,zf]
 simp only [yH]
 omega
theorem Jv {a b:Re} (ha:qd a=true) (hb:qd b=true) {x y:Int} (h1:inR a x y=true) (h2:inR b x y=true):qE a b=true:=by
 have h1:=zf.1 h1
 have h2:=zf.1 h2
 simp only [qE,ha,hb,Bool.true_and,decide_eq_true_iff]
 omega
theorem XJ {a b:Re} (h:qE a b=true):∃ x y,inR a x y=true∧inR b x y=true:=by
 have h1:=h
 simp only [qE,Bool.and_eq_true,decide_eq_true_iff] at h1
 obtain ⟨⟨ha,hb⟩,h2⟩:=h1
 have ha:=qF.1 ha
 have hb:=qF.1 hb
 refine ⟨max a.x0 b.x0,max a.y0 b.y0,zf.2 ?_,zf.2 ?_⟩ <;> omega
def unc (r:Re) (qs:List (Rc Int)) (x y:Int):Bool:=inR r x y && !(qs.any fun q=>inR (jo q) x y)
theorem Xv {r:Re} (hr:qd r=true) {qs:List (Rc Int)} {q:Rc Int} (hq:qd (jo q)=true) (hap:∀ p∈qs,p.x1<q.x0∨p.y1<q.y0) :
  cnt (unc r qs)=cnt (unc r (qs ++ [q]))+(if qE (jo q) r then zX (yH (jo q) r) else 0):=by
 have h1:cnt (unc r qs)=cnt (unc r (qs ++ [q]))+cnt (fun x y=>inR (jo q) x y&&inR r x y):=WX fun x y=>by
  unfold unc
  cases e1:inR r x y with
  | false=>simp
  | true =>
   cases e2:inR (jo q) x y with
   | false=>simp [e2]
   | true =>
    have hno:(qs.any fun q=>inR (jo q) x y)=false:=by
     rw [Bool.eq_false_iff]
     intro e
     obtain ⟨p,hp,hpi⟩:=List.any_eq_true.1 e
     have h3:=zf.1 hpi
     have h4:=zf.1 e2
     have:=hap p hp
     simp only [jo] at h3 h4
     omega
    simp [e2,hno]
 have h2:cnt (fun x y=>inR (jo q) x y&&inR r x y)=if qE (jo q) r then zX (yH (jo q) r) else 0:=by
  cases hm:qE (jo q) r with
  | true =>
   rw [if_pos rfl,← Ve ((Vm hq hr).trans hm)]
   exact Y0 fun x y=>WM.symm
  | false =>
   rw [if_neg (by decide),Vd]
   intro y _ x _
   rw [Bool.eq_false_iff]
   intro e
   rw [Bool.and_eq_true] at e
   rw [Jv hq hr e.1 e.2] at hm
   cases hm
 rw [h1,h2]
theorem Xw (r:Re) (hr:qd r=true) (qs:List (Rc Int)):cnt (unc r qs)≤4294967296:=by
 have h1:cnt (unc r qs)≤cnt (inR r):=qb6 fun x y=>by
  unfold unc
  cases inR r x y <;> cases (qs.any fun q=>inR (jo q) x y) <;> simp
 rw [Ve hr] at h1
 have:=WZ r
 omega
theorem Yy {r:Re} (hr:qd r=true):∀ (qs done:List (Rc Int)) (z:Int),(∀ q∈qs,qd (jo q)=true)→(done++qs).Pairwise (fun p q=>p.x1<q.x0∨p.y1<q.y0) →
  (qs.foldl (ofS r) ((cnt (unc r done):Nat),z)).1=(cnt (unc r (done++qs)):Nat)
 | [],done,z,_,_=>by simp
 | q::qs,done,z,hq,hp=>by
  have hst:=Xv hr (qs:=done) (hq q (by simp)) (fun p hpm=>(List.pairwise_append.1 hp).2.2 p hpm q (by simp))
  have e:done++q::qs=(done ++ [q])++qs:=by simp
  have ih:=fun z=>Yy hr qs (done ++ [q]) z (fun p hpm=>hq p (by simp [hpm])) (by rw [← e]; exact hp)
  have hle:=Xw r hr (done ++ [q])
  have hle2:=Xw r hr done
  rw [List.foldl_cons,e]
  unfold ofS
  cases hm:qE (jo q) r with
  | true =>
   rw [hm,if_pos rfl] at hst
   rw [if_pos rfl]
   simp only
   have w:IntKind.u64.wrap (((cnt (unc r done):Nat):Int) - (zX (yH (jo q) r):Nat))=((cnt (unc r (done ++ [q])):Nat):Int):=by
    rw [hst]
    have:(((cnt (unc r (done ++ [q]))+zX (yH (jo q) r):Nat):Int) - (zX (yH (jo q) r):Nat))=((cnt (unc r (done ++ [q])):Nat):Int):=by omega
    rw [this]
    rw [wrap_u64] <;> omega
   rw [w]
   exact ih _
  | false =>
   rw [hm,if_neg (by decide),Nat.add_zero] at hst
   rw [if_neg (by decide),hst]
   exact ih _
theorem Vy {r:Re}:∀ (qs:List (Rc Int)) (s:Int×Int),((qs.foldl (ofS r) s).2≤s.2∧∀ q∈qs,qE (jo q) r=true→(qs.foldl (ofS r) s).2≤q.z)∧((qs.foldl (ofS r) s).2=s.2∨∃ q∈qs,qE (jo q) r=true∧(qs.foldl (ofS r) s).2=q.z)
 | [],s=>by simp
 | q::qs,s=>by
  obtain ⟨⟨h1,h2⟩,h3⟩:=Vy qs (ofS r s q)
  rw [List.foldl_cons]
  cases hm:qE (jo q) r with
  | false =>
   have e:ofS r s q=s:=by simp [ofS,hm]
   rw [e] at h1 h2 h3 ⊢
   refine ⟨⟨h1,fun p hp hpm => ?_⟩,?_⟩
   ·rcases List.mem_cons.1 hp with rfl | hp
    ·rw [hm] at hpm; cases hpm
    ·exact h2 p hp hpm
   ·rcases h3 with h3 | ⟨p,hp,h4⟩
    ·exact .inl h3
    ·exact .inr ⟨p,by simp [hp],h4⟩
  | true =>
   have e:(ofS r s q).2=if q.z<s.2 then q.z else s.2:=by simp [ofS,hm]
   rw [e] at h1 h3
   generalize (qs.foldl (ofS r) (ofS r s q)).2=m at *
   refine ⟨⟨by split at h1 <;> omega,fun p hp hpm => ?_⟩,?_⟩
   ·rcases List.mem_cons.1 hp with rfl | hp
    ·split at h1 <;> omega
    ·exact h2 p hp hpm
   ·rcases h3 with h3 | ⟨p,hp,h4⟩
    ·split at h3
     ·exact .inr ⟨q,by simp,hm,h3⟩
     ·exact .inl h3
    ·exact .inr ⟨p,by simp [hp],h4⟩
def XY (l:List Ru) (ro ti la:Int) (r:Re) (z:Int):Prop:=(∀ x y,inR r x y=true→z≤vN l ro ti la ⟨x,y⟩)∧∃ x y,inR r x y=true∧vN l ro ti la ⟨x,y⟩=z
theorem XY.uniq {l:List Ru} {ro ti la:Int} {r:Re} {z z':Int} (h:XY l ro ti la r z) (k:XY l ro ti la r z'):z=z':=by
 obtain ⟨h1,x,y,h2,h3⟩:=h
 obtain ⟨k1,x',y',k2,k3⟩:=k
 have:=h1 x' y' k2
 have:=k1 x y h2
 omega
theorem qbS {l:List Ru} {ro ti la:Int} {o:List (Rc Int)} (h:Can.Form (F2 l ro ti la) o) {r:Re} (hr:qd r=true):XY l ro ti la r (ofP o r):=by
 have hri:=qF.1 hr
 have hpr:=K4 h
 have hL:=Yy hr o [] 16 (fun q hq=>(hpr q hq).1) h.apart
 have e0:unc r []=inR r:=funext fun x=>funext fun y=>by simp [unc]
 rw [e0,Ve hr,List.nil_append] at hL
 obtain ⟨⟨hM1,hM2⟩,hM3⟩:=Vy (r:=r) o ((zX r:Nat),16)
 unfold ofP
 rw [hL]
 simp only at hM1 hM3
 generalize (o.foldl (ofS r) ((zX r:Nat),16)).2=m at *
 have hcov:∀ x y q,q∈o→inR (jo q) x y=true→vN l ro ti la ⟨x,y⟩=q.z:=fun x y q hq hi=>by
  have hi:=zf.1 hi
  simp only [jo] at hi
  exact (Vf.1 ((h.iff x y q.z).2 ⟨q,hq,⟨hi.1.1,hi.1.2,hi.2.1,hi.2.2⟩,rfl⟩)).1
 split
 ·rename_i hp
  have hne:cnt (unc r o)≠0:=by omega
  refine ⟨fun x y _=>(QN l ro ti la ⟨x,y⟩).1,?_⟩
  apply Classical.byContradiction
  intro hno
  apply hne
  rw [Vd]
  intro y hy x hx
  rw [Bool.eq_false_iff]
  intro e
  unfold unc at e
  rw [Bool.and_eq_true] at e
  apply hno
  refine ⟨x,y,e.1,?_⟩
  refine VZ.1 ?_
  cases hz:F2 l ro ti la x y with
  | none=>rfl
  | some z =>
   obtain ⟨q,hq,ha,_⟩:=(h.iff _ _ z).1 hz
   have:(o.any fun q=>inR (jo q) x y)=true:=List.any_eq_true.2 ⟨q,hq,zf.2 ⟨⟨ha.1,ha.2.1⟩,ha.2.2.1,ha.2.2.2⟩⟩
   rw [this] at e
   simp at e
 ·rename_i hp
  have hc0:cnt (unc r o)=0:=by omega
  have hall:∀ x y,inR r x y=true→∃ q∈o,inR (jo q) x y=true:=fun x y hi=>by
   have hi':=zf.1 hi
   have:=Vd.1 hc0 y.toNat (by omega) x.toNat (by omega)
   rw [Int.toNat_of_nonneg (by omega),Int.toNat_of_nonneg (by omega)] at this
   unfold unc at this
   rw [hi] at this
   simp at this
   exact this
  refine ⟨fun x y hi => ?_,?_⟩
  ·obtain ⟨q,hq,hqi⟩:=hall x y hi
   rw [hcov x y q hq hqi]
   exact hM2 q hq (Jv (hpr q hq).1 hr hqi hi)
  ·rcases hM3 with hM3 | ⟨q,hq,hqm,hM3⟩
   ·have hi:inR r r.x0 r.y0=true:=zf.2 (by omega)
    obtain ⟨q,hq,hqi⟩:=hall _ _ hi
    refine ⟨_,_,hi,?_⟩
    rw [hcov _ _ q hq hqi]
    have h1:=hM2 q hq (Jv (hpr q hq).1 hr hqi hi)
    have h2:=(hpr q hq).2
    omega
   ·obtain ⟨x,y,h1,h2⟩:=XJ hqm
    exact ⟨x,y,h2,by rw [hcov x y q hq h1,hM3]⟩
theorem JU {l:List Ru} {ro ti la:Int} {r:Re} {x:Int}:∀ (ys:List Int) (z:Int),(Qb l ro ti la r ys z x≤z∧∀ y∈ys,yV r ⟨x,y⟩=true→Qb l ro ti la r ys z x≤vN l ro ti la ⟨x,y⟩)∧(Qb l ro ti la r ys z x=z∨∃ y∈ys,yV r ⟨x,y⟩=true∧Qb l ro ti la r ys z x=vN l ro ti la ⟨x,y⟩)
 | [],z=>by simp [Qb]
 | y::ys,z=>by
  obtain ⟨⟨h1,h2⟩,h3⟩:=JU (x:=x) ys (Yc l ro ti la r z ⟨x,y⟩)
  have e:Qb l ro ti la r (y::ys) z x=Qb l ro ti la r ys (Yc l ro ti la r z ⟨x,y⟩) x:=rfl
  rw [e]
  generalize Qb l ro ti la r ys (Yc l ro ti la r z ⟨x,y⟩) x=m at *
  unfold Yc at h1 h3
  cases hr:yV r ⟨x,y⟩ with
  | false =>
   rw [hr] at h1 h3
   simp only [Bool.false_and,Bool.false_eq_true,if_false] at h1 h3
   refine ⟨⟨h1,fun y' hy hh => ?_⟩,?_⟩
   ·rcases List.mem_cons.1 hy with rfl | hy
    ·rw [hr] at hh; cases hh
    ·exact h2 y' hy hh
   ·rcases h3 with h3 | ⟨y',hy,h4⟩
    ·exact .inl h3
    ·exact .inr ⟨y',by simp [hy],h4⟩
  | true =>
   rw [hr] at h1 h3
   simp only [Bool.true_and,decide_eq_true_iff] at h1 h3
   refine ⟨⟨by split at h1 <;> omega,fun y' hy hh => ?_⟩,?_⟩
   ·rcases List.mem_cons.1 hy with rfl | hy
    ·split at h1 <;> omega
    ·exact h2 y' hy hh
   ·rcases h3 with h3 | ⟨y',hy,h4⟩
    ·split at h3
     ·exact .inr ⟨y,by simp,hr,h3⟩
     ·exact .inl h3
    ·exact .inr ⟨y',by simp [hy],h4⟩
theorem Jt {l:List Ru} {ro ti la:Int} {r:Re} {ys:List Int}:∀ (xs:List Int) (z:Int),(xs.foldl (Qb l ro ti la r ys) z≤z∧∀ x∈xs,∀ y∈ys,yV r ⟨x,y⟩=true→xs.foldl (Qb l ro ti la r ys) z≤vN l ro ti la ⟨x,y⟩) ∧
  (xs.foldl (Qb l ro ti la r ys) z=z∨∃ x∈xs,∃ y∈ys,yV r ⟨x,y⟩=true∧xs.foldl (Qb l ro ti la r ys) z=vN l ro ti la ⟨x,y⟩)
 | [],z=>by simp
 | x::xs,z=>by
  obtain ⟨⟨h1,h2⟩,h3⟩:=Jt (ys:=ys) xs (Qb l ro ti la r ys z x)
  obtain ⟨⟨k1,k2⟩,k3⟩:=JU (l:=l) (ro:=ro) (ti:=ti) (la:=la) (r:=r) (x:=x) ys z
  rw [List.foldl_cons]
  generalize xs.foldl (Qb l ro ti la r ys) (Qb l ro ti la r ys z x)=m at *
  generalize Qb l ro ti la r ys z x=n at *
  refine ⟨⟨by omega,fun x' hx y hy hh => ?_⟩,?_⟩
  ·rcases List.mem_cons.1 hx with rfl | hx
   ·have:=k2 y hy hh
    omega
   ·exact h2 x' hx y hy hh
  ·rcases h3 with h3 | ⟨x',hx,y,hy,hh,h4⟩
   ·rcases k3 with k3 | ⟨y,hy,hh,k4⟩
    ·exact .inl (by omega)
    ·exact .inr ⟨x,by simp,y,hy,hh,by omega⟩
   ·exact .inr ⟨x',by simp [hx],y,hy,hh,h4⟩
theorem Jy:∀ {xs:List Int} {x:Int},(∃ c∈xs,c≤x)→∃ g∈xs,g≤x∧∀ c∈xs,c≤x↔c≤g
 | [],x,h=>by
  obtain ⟨c,hc,_⟩:=h
  cases hc
 | c::xs,x,h=>by
  by_cases hr:∃ d∈xs,d≤x
  ·obtain ⟨g,hg,h1,h2⟩:=Jy hr
   by_cases hc:c≤x∧g<c
   ·refine ⟨c,by simp,hc.1,fun d hd => ?_⟩
    rcases List.mem_cons.1 hd with rfl | hd
    ·omega
    ·have:=h2 d hd
     omega
   ·refine ⟨g,by simp [hg],h1,fun d hd => ?_⟩
    rcases List.mem_cons.1 hd with rfl | hd
    ·omega
    ·exact h2 d hd
  ·obtain ⟨d,hd,hdx⟩:=h
   have hdc:d=c:=by
    rcases List.mem_cons.1 hd with e | hd
    ·exact e
    ·exact absurd ⟨d,hd,hdx⟩ hr
   subst hdc
   refine ⟨d,by simp,hdx,fun e he => ?_⟩
   rcases List.mem_cons.1 he with rfl | he
   ·omega
   ·constructor
    ·intro h; exact absurd ⟨e,he,h⟩ hr
    ·intro h; omega
theorem V6 {l:List Ru} {ro ti la x y x' y':Int} (h:F2 l ro ti la x y=F2 l ro ti la x' y'):vN l ro ti la ⟨x,y⟩=vN l ro ti la ⟨x',y'⟩:=by
 cases e:F2 l ro ti la x y with
 | none =>
  rw [VZ.1 e,VZ.1 (h.symm.trans e)]
 | some z =>
  rw [(Vf.1 e).1,(Vf.1 (h.symm.trans e)).1]
theorem Vz {l:List Ru} (ha:l.all qI=true) {ro ti la:Int} {r:Re} (hr:qd r=true):XY l ro ti la r (Vi l ro ti la r):=by
 have hri:=qF.1 hr
 have hG:=qb9 ha ro ti la
 have mx:∀ d,∀ c∈qg l ++ [r],lo d c∈qN (qg l ++ [r]) d∧hi d c+1∈qN (qg l ++ [r]) d:=fun d c hc=>⟨((yP _ d).2 _).2 (.inr (.inr ⟨c,hc,.inl rfl⟩)),((yP _ d).2 _).2 (.inr (.inr ⟨c,hc,.inr rfl⟩))⟩
 have mb:∀ d,∀ u∈l,∀ c∈u.boxes,lo d c∈qN (qg l ++ [r]) d∧hi d c+1∈qN (qg l ++ [r]) d:=fun d u hu c hc=>mx d c (by simp [K7 hu hc])
 have hx:=fun y=>qiQ hG (yP (qg l ++ [r]) false).1 (mb false) y
 have hy:=qiP hG (yP (qg l ++ [r]) true).1 (mb true)
 have rx:r.x0∈qN (qg l ++ [r]) false:=(mx false r (by simp)).1
 have ry:r.y0∈qN (qg l ++ [r]) true:=(mx true r (by simp)).1
 unfold Vi
 generalize qN (qg l ++ [r]) false=xs at *
 generalize qN (qg l ++ [r]) true=ys at *
 obtain ⟨⟨h1,h2⟩,h3⟩:=Jt (l:=l) (ro:=ro) (ti:=ti) (la:=la) (r:=r) (ys:=ys) xs 16
 generalize xs.foldl (Qb l ro ti la r ys) 16=m at *
 have hh:∀ x y,yV r ⟨x,y⟩=true↔inR r x y=true:=fun x y=>by
  rw [ZR,zf]
  simp [hr]
 refine ⟨fun x y hi => ?_,?_⟩
 ·have hi:=zf.1 hi
  obtain ⟨gx,m1,m2,m3⟩:=Jy (xs:=xs) (x:=x) ⟨_,rx,hi.1.1⟩
  obtain ⟨gy,n1,n2,n3⟩:=Jy (xs:=ys) (x:=y) ⟨_,ry,hi.2.1⟩
  have q1:=(m3 _ rx).1 hi.1.1
  have q2:=(n3 _ ry).1 hi.2.1
  have e1:F2 l ro ti la x y=F2 l ro ti la gx y:=(hx y).same x gx m3
  have e2:F2 l ro ti la gx y=F2 l ro ti la gx gy:=hy.same gx y gy n3
  rw [V6 (e1.trans e2)]
  exact h2 gx m1 gy n1 ((hh _ _).2 (zf.2 (by omega)))
 ·rcases h3 with h3 | ⟨x,hx,y,hy,hxy,h4⟩
  ·have hc:inR r r.x0 r.y0=true:=zf.2 (by omega)
   have h5:=h2 _ rx _ ry ((hh _ _).2 hc)
   have h6:=QN l ro ti la ⟨r.x0,r.y0⟩
   exact ⟨_,_,hc,by omega⟩
  ·exact ⟨x,y,(hh _ _).1 hxy,h4.symm⟩
theorem qbR {l:List Ru} (ha:l.all qI=true) {ro ti la:Int} {r:Re} (hr:qd r=true):ofP (Vq l ro ti la) r=Vi l ro ti la r:=(qbS (X4 ha ro ti la) hr).uniq (Vz ha hr)
end Go.Proofs.YtnconfggojpkcaaGreat
namespace Go.Proofs.YtnconfggojpkcaaGreat
open Go.RowKit Go.ChangeShapes Go.WideShapes Go.ChangeAt AM
section
variable {H:Type}
theorem XT (d:DataW H):1≤Rows.uptoBulk d:=by
 cases d with
 | lit l=>cases l <;> simp [Rows.uptoBulk]
 | _=>simp [Rows.uptoBulk]
theorem JV {d:DataW H} {l:List (DataW H)} (h:d∈l):Rows.uptoBulk d≤Rows.uptoBulkAll l:=by
 induction l with
 | nil=>cases h
 | cons x r ih =>
  simp only [Rows.uptoBulkAll]
  rcases List.mem_cons.1 h with e | e
  ·subst e; omega
  ·have:=ih e; omega
theorem JA (l:List (DataW H)):l.length≤Rows.uptoBulkAll l:=by
 induction l with
 | nil=>simp [Rows.uptoBulkAll]
 | cons x r ih =>
  have:=XT x
  simp only [Rows.uptoBulkAll,List.length_cons]
  omega
theorem YK {x:Ru} {e:DataW H} (h:RuD x e):x.boxes.length≤Rows.uptoBulk e:=by
 obtain ⟨parts,e5,rfl,hp,hs⟩:=h
 have h1:=JV (List.mem_of_getElem? hp)
 rcases hs with h0 | ⟨es,sp,rfl,hl,_⟩
 ·rw [h0]; simp
 ·have h2:=JA es
  simp only [Rows.uptoBulk] at h1 ⊢
  omega
theorem V9 {xs:List Ru} {d:DataW H} (h:JB (fun (x:Ru) (e:DataW H)=>x.boxes.length≤maxLen∧RuD x e) xs d):(qg xs).length≤Rows.uptoBulk d:=by
 rcases h with rfl | ⟨es,sp,rfl,hl,hx⟩
 ·simp [qg]
 ·have go:∀ (xs:List Ru) (es:List (DataW H)),es.length=xs.length→(∀ (i:Nat) (x:Ru) (e:DataW H),xs[i]? = some x→es[i]? = some e→x.boxes.length≤maxLen∧RuD x e)→(qg xs).length≤Rows.uptoBulkAll es:=by
   intro xs
   induction xs with
   | nil=>intro es _ _; simp [qg]
   | cons x xs ih =>
    intro es hl hx
    cases es with
    | nil=>simp at hl
    | cons e es =>
     have h1:=ih es (by simpa using hl) fun i x e h1 h2=>hx (i+1) x e (by simpa using h1) (by simpa using h2)
     have h2:=YK (hx 0 x e rfl rfl).2
     have e1:qg (x::xs)=x.boxes++qg xs:=by simp [qg]
     rw [e1,List.length_append]
     simp only [Rows.uptoBulkAll]
     omega
  have h1:=go xs es hl hx
  simp only [Rows.uptoBulk]
  omega
theorem YJ {xs:List Ru} {d:DataW H} (h:JB (fun (x:Ru) (e:DataW H)=>x.boxes.length≤maxLen∧RuD x e) xs d):xs.length≤Rows.uptoBulk d:=by
 rcases h with rfl | ⟨es,sp,rfl,hl,hx⟩
 ·simp
 ·have:=JA es
  simp only [Rows.uptoBulk]
  omega
theorem Yh {ds:List (DataW H)} (hk:Rows.uptoSmall H ds=true):Rows.uptoBulkAll ds≤1048576:=of_decide_eq_true hk
end
theorem XK {f:FuncId} {fn:Func} {s:ChangeSpec} (hfn:Tryz.prog.funcs[f]? = some fn) (noInit:Tryz.prog.inits.idxOf? f=none) (hvars:s.vars = []) (hres:fn.resultTypes = #[4])
  (hts:∀ t∈fn.params.toList,Tryz.prog.readableRec t=true∧t<Tryz.prog.types.size) (hs:∀ (H:Type) (ds:List (DataW H)),ds.length=fn.params.toList.length→s.fn H ds = { results := [.lit (.bool true)],args:=ds })
  (os:Os) (started:os.Started) (H:Type) (enc:TypeId×Value→H) (F:Stop.Interp)
  (witness:∃ (w:World) (tape:Tape) (i:Input),w.os=os∧(w.forCall tape i).Shaped Tryz.prog∧i.vars = []∧Input.okWide Tryz.prog (w.forCall tape i) .any w.heap.size f i ∧
   (Rows.OpenSpec.upto s).pre6 enc Tryz.prog fn [] false (w.forCall tape i).memory i.args∧({}:Assume).holds Tryz.prog (lone (Frame.enter Tryz.prog f i.args .normal) [] (w.forCall tape i)))
  (walk:∀ (W:World) (base:Nat) (args:Array Value) (ds:List (DataW H)) (p:List MemPlace),(∀ (j:Nat) t v,fn.params[j]? = some t→args[j]? = some v→Value.okWide Tryz.prog W .any base t v) →
   DataW.TrodAll enc Tryz.prog W 0 (fun _=>true) true fn.params.toList args.toList ds p→Rows.uptoSmall H ds=true→Calls Tryz.prog f args W (Yes W)) :
  ReturnsInHanded {} Tryz.checked os f .any ((Rows.OpenSpec.upto s).pre6 enc Tryz.prog fn [] false) (((Rows.OpenSpec.upto s).at F).post enc Tryz.prog fn false true false false):=by
 refine returnsInHanded_of_cond (C:=Tryz.checked) (s:=Rows.OpenSpec.upto s) (k:=Rows.uptoSmall) rfl own started noInit hfn witness ?_
 intro W base args ds gs before hval hW _ hk _
 have hW:DataW.Whole enc Tryz.prog fn.params.toList s.vars false W args.toList ds gs before:=hW
 have hW':=hW
 obtain ⟨p,q,hA,hV,rfl,hfz,hnd⟩:=hW
 have hA':DataW.TrodAll enc Tryz.prog W 0 (fun _=>true) true fn.params.toList args.toList ds p:=hA
 obtain ⟨rfl,rfl⟩:gs = []∧q = []:=by
  rw [hvars] at hV
  exact trodVars_none hV
 rw [List.append_nil] at hk
 refine (walk W base args ds p hval hA' hk).mono fun e W' ⟨he,hb⟩ => ?_
 subst he
 have hlen:ds.length=fn.params.toList.length:=Wx hA'
 have hfn':s.fn H (ds ++ []) = { results := [.lit (.bool true)],args:=ds }:=by rw [List.append_nil]; exact hs H ds hlen
 have hlt:∀ x∈p,x.block<W.heap.size:=fun x hx=>hW'.lt x (by simpa using hx)
 have hp:s.post enc Tryz.prog fn false true false false W args (.bool true) W':=by
  refine V3 (pa:=p) (pv := []) hW' (fun b sp hd => ?_) (fun sp hsp => ?_) (fun sp _ => ?_) (by simp) hb ?_
  ·rw [hfn',hres]
   exact trodAll_cons_mk (shut_bool Tryz.underlying4 _) trodAll_mk0
  ·rw [hfn']
   exact X5 laidOut hb hts hA' hlt (fun x hx=>hsp x (by simpa using hx))
  ·rw [hvars,hfn']
   rfl
  ·exact ok_one hres rfl (okWide_bool_mk Tryz.underlying4 _)
 exact ⟨_,rfl,hp⟩
end Go.Proofs.YtnconfggojpkcaaGreat
namespace Go.Proofs.YtnconfggojpkcaaGreat
open Go.RowKit AM
attribute [local simp] zQ qU jL zT zq zR zS zo jM zu qV Z8 Qm jC Ql yc ZE vZ slF qG Qo zK yx zA shares jh yt ze Qz QI qY ZF qZ qM vX zH yu Qe qL zD zG vU slV jE jG yE zU ZJ jB jF aMM aUn Qp vW jD zC jA qJ vV Qu vY vS Zw y9 qK Qs ZK zJ zI jH jR ZH eval zZ AM.valOf qm vO yR del SV.refers zY vQ jU shift ldV V.exact V.jg V.ofValue V.vP V.vL V.cells V.one Value.oneCell' ZI QY jV Q5 ZM ZC Qa Zy jl jI Qi ZL y8 yX Qr calm Qt Zn Qk feeds shrinks Qx looks isT Qf vK Qd putAt jT jc Zm sliceB isEq Qg zk qH zO zn qR zl zm qQ zP zi qP ZW Qw yB Zl QZ inO y7 Zi Mix.vT Mix.Qc QB QX qz qj qW zh qO ZV Qq yg yh ZG Zb yw yO Q8 jW V.fixed V.vC
attribute [local simp] vE je yL vH jQ vF vG jP yM vk jN V5 Ja yF QT Jb z0 JL VK Vo VU
theorem jS.YI {l:List Ru} {t m i:Nat} {es:List (Value×V)} {H H1:List Bk} {K:Bk} (hT:Tab H t m l es) (h:jS l t m H H1) (hi:H.length≤i):jS l t m H (H1.set i K):=by
 obtain ⟨⟨es',h1,h2⟩,h3⟩:=h
 have ht:=(List.getElem?_eq_some_iff.1 hT.t).1
 have hm:=(List.getElem?_eq_some_iff.1 hT.m).1
 exact ⟨⟨es',⟨by rw [List.getElem?_set_ne (by omega)]; exact h1.t,by rw [List.getElem?_set_ne (by omega)]; exact h1.m⟩,h2⟩,fun j b hj hb hn=>by
  have hl:=(List.getElem?_eq_some_iff.1 hb).1
  rw [List.getElem?_set_ne (by omega)]
  exact h3 j b hj hb hn⟩
def jJ (s:Sh):Bk := .cells [.v (.sc (.int .i64 s.id)),.v (.sc (.int .i64 s.box.x0)),.v (.sc (.int .i64 s.box.y0)),.v (.sc (.int .i64 s.box.x1)),.v (.sc (.int .i64 s.box.y1)),.v (.sc (.int .i64 s.lab))]
def zmC (l:List Ru) (v:Vw) (x:Sh):Int:=Vi l v.ro v.ti x.lab x.box
def vJ (Z:Sh→Int) (v:Vw) (x:Sh):Option Se:=if yG v&&qd x.box then QE v x.id (lvl v (Z x)) (zW x.box (lvl v (Z x))).1 else none
theorem Ko {l:List Ru} (ha:l.all qI=true) {ro ti la:Int} {r:Re} (hr:qd r=true):(if (QU ro ti la&&qd r)=true then ofP (Vq l ro ti la) r else 0)=Vi l ro ti la r:=by
 cases e:QU ro ti la with
 | true =>
  rw [hr,if_pos (by rfl)]
  exact qbR ha hr
 | false =>
  rw [if_neg (by simp)]
  obtain ⟨_,x,y,_,h⟩:=Vz ha (ro:=ro) (ti:=ti) (la:=la) hr
  rw [← h,qaJ e]
theorem X9 {l:List Ru} (hl:Yk l) (v:Vw) (x:Sh) {t m:Nat} (r c:Nat) (es:List (Value×V)) (H:List Bk) (hT:Tab H t m l es) (hM:VO l es) :
  AFn Tryz.prog 22 [wdC r c t,.agg v.cs,x.v] H fun y H'=>y=seW (vJ (zmC l v) v x)∧jS l t m H H':=by
 have hRt:=qaF v
 have hF:=Jc x.box
 have hZ:=fun H' es' hT' hM'=>gOf l v.ro v.ti x.lab x.box hl.len hl.n t m es' H' hT' hM'
 have hLv:=fun z=>qbk v z
 have hSh:=fun lv b=>qcl v x.id lv b
 unfold vJ zmC
 unfold Vw.cs at hRt hLv hSh ⊢
 unfold Re.v Re.cs at hF hZ hSh
 unfold wdC
 unfold Sh.v Sh.cs
 have hzz:qd x.box=true→(if (QU v.ro v.ti x.lab&&qd x.box)=true then ofP (Vq l v.ro v.ti x.lab) x.box else 0)=Vi l v.ro v.ti x.lab x.box:=Ko hl.all
 generalize (if (QU v.ro v.ti x.lab&&qd x.box)=true then ofP (Vq l v.ro v.ti x.lab) x.box else 0)=zz at *
 refine vwc (fn:=Tryz.f22) rfl ?_
 simp only [Tryz.f22,ql]
 refine AW.seq (vwa [(3,12,[4,3,5])] ?_)
 simp
 have hk1:vI m H (H ++ [wdB r c t,vwB v,jJ x,seB qw]) := .app
 have g0:(H ++ [wdB r c t,vwB v,jJ x,seB qw])[H.length]? = some (wdB r c t):=by simp
 have g1:(H ++ [wdB r c t,vwB v,jJ x,seB qw])[H.length+1]? = some (vwB v):=by simp
 have g2:(H ++ [wdB r c t,vwB v,jJ x,seB qw])[H.length+2]? = some (jJ x):=by simp
 have g3:(H ++ [wdB r c t,vwB v,jJ x,seB qw])[H.length+3]? = some (seB qw):=by simp
 have hT1:Tab (H ++ [wdB r c t,vwB v,jJ x,seB qw]) t m l es:=hT.stays .app
 have hml:=(List.getElem?_eq_some_iff.1 hT.m).1
 change AW _ _ _ _ ⟨_,H ++ [wdB r c t,vwB v,jJ x,seB qw]⟩
 generalize H ++ [wdB r c t,vwB v,jJ x,seB qw]=H1 at *
 have d0:H.length≠m:=by omega
 have d1:H.length+1≠m:=by omega
 have d2:H.length+2≠m:=by omega
 have d3:H.length+3≠m:=by omega
 have hil:H.length≤H.length+3:=by omega
 generalize H.length+1=i1 at *
 generalize H.length+2=i2 at *
 generalize H.length+3=i3 at *
 generalize hi0:H.length=i0 at *
 have hi3:i3<H1.length:=(List.getElem?_eq_some_iff.1 g3).1
 have hst:∀ {H2},H2[i3]? = some (seB qw)→∀ a b c d e f,setCells H2 i3 0 [a,b,c,d,e,f]=H2.set i3 (.cells [.v a,.v b,.v c,.v d,.v e,.v f]):=fun h a b c d e f=>by
  unfold seB at h
  rw [setCells_eq h (by simp)]
  rfl
 have g1':=g1
 have g2':=g2
 unfold vwB at g1'
 unfold jJ at g2'
 have hend:∀ K,jS l t m H (H1.set i3 K):=fun K=>jS.YI hT ⟨⟨es,hT1,hM⟩,hk1⟩ (by omega)
 have hgs:∀ K,(H1.set i3 K)[i3]? = some K:=fun K=>List.getElem?_set_self hi3
 refine AW.seq (vwa [(3,12,[4,3,5])] ?_)
 simp [g1',g2']
 refine qc.pure hRt rfl rfl ?_
 cases hr:yG v with
 | false =>
  have g3':=g3
  unfold seB at g3'
  simp [g1',g2',g3',hst g3,hgs]
  exact ⟨by simp [seW,Se.cs,qw],hend _⟩
 | true =>
  simp [g1',g2']
  refine qc.pure hF rfl rfl ?_
  cases hf:qd x.box with
  | false =>
   have g3':=g3
   unfold seB at g3'
   simp [g1',g2',g3',hst g3,hgs]
   exact ⟨by simp [seW,Se.cs,qw],hend _⟩
  | true =>
   rw [hzz hf] at hZ
   clear hzz
   generalize Vi l v.ro v.ti x.lab x.box=zz at *
   have g0':=g0
   unfold wdB at g0'
   simp [g1',g2']
   refine AW.seq (vwa [(3,12,[4,3,5])] ?_)
   simp [g0',g1',g2']
   refine qc.of (hZ _ _ hT1 hM) ?_
   rintro y H2 ⟨rfl,hK2⟩
   have kp2:=eq_true (hK2.w.Va hT1)
   simp [g0',g1',g2',kp2]
   refine qc.pure (hLv zz) rfl rfl ?_
   simp [g0',g1',g2',kp2]
   generalize lvl v zz=lv at *
   have c1:=hK2.2.cells d1 g1
   have c2:=hK2.2.cells d2 g2
   have c3:=hK2.2.cells d3 g3
   have hK2:=jS.trans hk1 hK2
   have hB:=qdE x.box lv
   generalize zW x.box lv=bx at *
   obtain ⟨bx,bok⟩:=bx
   simp only at hB ⊢
   have hSh:=hSh lv bx
   generalize QE v x.id lv bx=sv at *
   unfold Re.v Re.cs at hB
   rw [Jf] at hSh ⊢
   clear hT1 hM hZ hend hgs hi3 g0 g1 g2 g3 g0' g1' g2' kp2
   have c1':=c1
   have c2':=c2
   unfold vwB at c1'
   unfold jJ at c2'
   refine AW.seq (vwa [(3,12,[4,3,5])] ?_)
   simp [c2']
   refine qc.pure hB rfl rfl ?_
   simp
   rw [qp rfl]
   have hpr:Bk.cells ([V.sc (.int .i64 bx.x0),V.sc (.int .i64 bx.y0),V.sc (.int .i64 bx.x1),V.sc (.int .i64 bx.y1)].map SV.v)=reB bx:=rfl
   rw [hpr]
   have f1:=hget (L := [reB bx]) c1
   have f2:=hget (L := [reB bx]) c2
   have f3:=hget (L := [reB bx]) c3
   have f4:(H2 ++ [reB bx])[H2.length]? = some (reB bx):=by simp
   have hK4:=hK2.app (L := [reB bx])
   clear c1 c2 c3 hK2
   generalize H2 ++ [reB bx]=H4 at *
   generalize H2.length=i5 at *
   have hi3':i3<H4.length:=(List.getElem?_eq_some_iff.1 f3).1
   have hgs':∀ K,(H4.set i3 K)[i3]? = some K:=fun K=>List.getElem?_set_self hi3'
   have f3':=f3
   try unfold vwB at f1
   try unfold jJ at f2
   try unfold seB at f3'
   try unfold reB at f4
   refine AW.seq (vwa [(3,12,[4,3,5])] ?_)
   simp [f1,f2,f4]
   refine qc.pure hSh rfl rfl ?_
   simp [f3',hst f3]
   refine vwa [(3,12,[4,3,5])] ?_
   simp [hgs']
   exact jS.YI hT hK4 (by omega)
theorem YZ (l:List Ru) (v:Vw) (xs:List Pr):(Je l v xs).length≤xs.length:=List.length_filterMap_le _ _
end Go.Proofs.YtnconfggojpkcaaGreat
namespace Go.Proofs.YtnconfggojpkcaaGreat
open Go.RowKit AM
attribute [local simp] zQ qU jL zT zq zR zS zo jM zu qV Z8 Qm jC Ql yc ZE vZ slF qG Qo zK yx zA shares jh yt ze Qz QI qY ZF qZ qM vX zH yu Qe qL zD zG vU slV jE jG yE zU ZJ jB jF aMM aUn Qp vW jD zC jA qJ vV Qu vY vS Zw y9 qK Qs ZK zJ zI jH jR ZH eval zZ AM.valOf qm vO yR del SV.refers zY vQ jU shift ldV V.exact V.jg V.ofValue V.vP V.vL V.cells V.one Value.oneCell' ZI QY jV Q5 ZM ZC Qa Zy jl jI Qi ZL y8 yX Qr calm Qt Zn Qk feeds shrinks Qx looks isT Qf vK Qd putAt jT jc Zm sliceB isEq Qg zk qH zO zn qR zl zm qQ zP zi qP ZW Qw yB Zl QZ inO y7 Zi Mix.vT Mix.Qc QB QX qz qj qW zh qO ZV Qq yg yh ZG Zb yw yO Q8 jW V.fixed V.vC
def Q7 (zs:List Sh):SV := .own true 57 zs.length 6 (zs.flatMap Sh.cs)
theorem Y9 (zs:List Sh):V.closed (slS zs)=true:=by simp [slS,V.closed,zV (enc:=Sh.cs) (fun _=>rfl)]
theorem qgz (zs:List Sh) (s:Sh):Q7 (zs ++ [s]) = .own true 57 (zs.length+1) 6 (zs.flatMap Sh.cs++s.cs):=by simp [Q7]
theorem ntell (s:Sh) (zs:List Sh) (o:Nat) (H:List Bk) (hH:H[o]? = some (.cells [Q7 zs])) (hl:zs.length<1000000) :
  AFn Tryz.prog 168 [s.v,.ptr o 0] H fun y H'=>H'=(H ++ [shB s]).set o (.cells [Q7 (zs ++ [s])]):=by
 unfold Sh.v Sh.cs
 have ho:o<H.length:=(List.getElem?_eq_some_iff.1 hH).1
 refine vwc (fn:=Tryz.f168) rfl ?_
 simp only [Tryz.f168,ql]
 refine AW.seq (vwb ?_)
 simp
 have h1:=hget (L := [shB s]) hH
 have h2:(H ++ [shB s])[H.length]? = some (shB s):=by simp
 unfold shB at h1 h2 ⊢
 generalize H ++ [Bk.cells [.v (.sc (.int .i64 s.id)),.v (.sc (.int .i64 s.box.x0)),.v (.sc (.int .i64 s.box.y0)),.v (.sc (.int .i64 s.box.x1)),.v (.sc (.int .i64 s.box.y1)),.v (.sc (.int .i64 s.lab))]]=H0 at *
 generalize H.length=n at *
 have ho2:o<H0.length:=(List.getElem?_eq_some_iff.1 h1).1
 have g2:∀ k:Bk,(H0.set o k)[n]? = H0[n]? := fun k=>List.getElem?_set_ne (by omega)
 have g1:∀ k:Bk,(H0.set o k)[o]? = some k:=fun k=>List.getElem?_set_self ho2
 unfold Q7 at h1
 have hS:=fun (x:SV)=>zF (j:=0) (x:=x) h1
 have hS2:=fun (x y:SV)=>zF (j:=0) (x:=y) (g1 (.cells [x]))
 refine vwb ?_
 simp [h1,h2,hS,g1,g2,hS2,List.set_set]
 refine ⟨by omega,?_⟩
 rw [qgz]
 rfl
theorem Vh {c:Ce}:∀ {S:List Sh},(∀ s∈S,QH c (hm s)=true)→(at' c S++(List.range 4).flatMap fun i:Nat=>sub' (qD c (i:Nat)) S).Perm S
 | [],_ => .nil
 | s::S,h=>by
  have ih:=Vh (S:=S) fun t ht=>h t (by simp [ht])
  have hu:=h s (by simp)
  rw [List.perm_iff_count] at ih ⊢
  intro x
  have ih:=ih x
  simp only [show List.range 4 = [0,1,2,3] from rfl,List.flatMap_cons,List.flatMap_nil,List.append_nil,List.count_append] at ih ⊢
  by_cases hs:hm s=c
  ·simp only [qaH,if_pos hs,Xz,Qh (i:=0) (by decide) hs,Qh (i:=1) (by decide) hs,Qh (i:=2) (by decide) hs,Qh (i:=3) (by decide) hs,Bool.false_eq_true,if_false,List.count_cons]
   omega
  ·obtain ⟨i,hi,hw⟩:=qeH c (hm s)
   have hc:∀ j:Nat,j<4→(QH (qD c (j:Nat)) (hm s)=true↔i=j):=fun j hj=>by
    rw [JK hj hu (Ne.symm hs),hw]
    omega
   have e:∀ j:Nat,j<4→List.count x (sub' (qD c (j:Nat)) (s::S))=List.count x (sub' (qD c (j:Nat)) S)+if i=j then (if s==x then 1 else 0) else 0:=fun j hj=>by
    rw [Xz]
    by_cases hij:i=j
    ·rw [if_pos ((hc j hj).2 hij),if_pos hij,List.count_cons]
    ·rw [if_neg (fun h=>hij ((hc j hj).1 h)),if_neg hij,Nat.add_zero]
   rw [qaH,if_neg hs,e 0 (by decide),e 1 (by decide),e 2 (by decide),e 3 (by decide),List.count_cons]
   generalize List.count x (sub' (qD c ((0:Nat):Int)) S)=c0 at ih ⊢
   generalize List.count x (sub' (qD c ((1:Nat):Int)) S)=c1 at ih ⊢
   generalize List.count x (sub' (qD c ((2:Nat):Int)) S)=c2 at ih ⊢
   generalize List.count x (sub' (qD c ((3:Nat):Int)) S)=c3 at ih ⊢
   generalize (if s==x then 1 else 0)=q at ih ⊢
   clear hc e
   rcases (show i=0∨i=1∨i=2∨i=3 by omega) with rfl | rfl | rfl | rfl <;> simp <;> omega
theorem KA {c:Ce} {S:List Sh} (h:∀ s∈S,QH c (hm s)=true):(at' c S).length+((List.range 4).flatMap fun i:Nat=>sub' (qD c (i:Nat)) S).length=S.length:=by
 rw [← (Vh h).length_eq,List.length_append]
def qdB (g:FuncId) (first cap:List V) (ir:Nat) (fb:Option Bk) (h:Re→Bool):Prop:=∀ (H:List Bk) (b:Re),(∀ q,fb=some q→H[ir]? = some q)→AFn Tryz.prog g (first++b.v::cap) H fun y H'=>y = .sc (.bool (h b))∧∃ L,H'=H++L
def Kr (o:Nat):V := .fn (.func 168) [] [.ptr o 0]
theorem qfs (r:Re) (fv tv:V) (H:List Bk):AFn Tryz.prog 167 [.sc (.pointer none),r.v,fv,tv] H fun y H'=>H'=H ++ [reB r]:=by
 unfold Re.v Re.cs
 refine vwc (fn:=Tryz.f167) rfl ?_
 simp only [Tryz.f167,ql]
 refine AW.seq (vwb ?_)
 simp
 refine AW.seq (vwb ?_)
 simp [qj3,reB]
def SeM (H0:List Bk) (b m o it rb:Nat) (r:Re) (es:List Sh) (h:Re→Bool) (zs:List Sh) (fv:V) (n:Nat) (F:Fr) (H1:List Bk):Prop :=
 ∃ (left L:List Sh) (cu:Option (Value×V)),n=left.length∧H1[it]? = some (.iter m (left.map J5) cu)∧H1[o]? = some (.cells [Q7 (zs++L)])∧Kp (fun x=>x=o) H0 H1∧H0.length≤it∧H1[rb]? = some (reB r)∧H0.length≤rb ∧
  (L++hf h left).Perm (hf h es)∧L.length+left.length≤es.length∧F = [(0,.v (.ptr b 0)),(2,.v fv),(3,.v (Kr o)),(5,.v (.ptr rb 0)),(39,.v (.ptr it 0))]
theorem qf7 {h:Re→Bool} {s:Sh} {S:List Sh}:hf h (s::S)=if h s.box=true then s::hf h S else hf h S:=by
 unfold hf
 rw [List.filter_cons]
theorem qew {l:List Sh}:∀ {i:Nat} {s:Sh},l[i]? = some s→(s::l.eraseIdx i).Perm l:=by
 induction l with
 | nil=>intro i s h; simp at h
 | cons a l ih =>
  intro i s h
  cases i with
  | zero =>
   simp at h
   subst h
   simp
  | succ i =>
   rw [List.getElem?_cons_succ] at h
   rw [List.eraseIdx_cons_succ]
   exact (List.Perm.swap a s _).trans ((ih h).cons a)
theorem qbl {h:Re→Bool} {S S':List Sh} (hp:S.Perm S'):(hf h S).Perm (hf h S'):=hp.filter _
def KiM (H0:List Bk) (c:Ce) (S:List Sh) (k:Nat→Option Nat) (o rb:Nat) (r:Re) (h:Re→Bool) (zs:List Sh) (fv:V) (j:Nat) (F:Fr) (H1:List Bk):Prop :=
 ∃ L:List Sh,H1[o]? = some (.cells [Q7 (zs++L)])∧Kp (fun x=>x=o) H0 H1∧H1[rb]? = some (reB r) ∧
  L.Perm (hf h (at' c S++(List.range j).flatMap fun i:Nat=>sub' (qD c (i:Nat)) S))∧F = [(2,.v fv),(3,.v (Kr o)),(5,.v (.ptr rb 0)),(54,.v (.agg [JC (k 0),JC (k 1),JC (k 2),JC (k 3)])),(55,.v (.sc (.int .i64 j)))]
theorem qkV {g:FuncId} {first cap:List V} {ir:Nat} {fb:Option Bk} {h:Re→Bool} (hH:qdB g first cap ir fb h) (o:Nat) (r:Re) (hr:qd r=true) (hio:∀ q,fb=some q→ir≠o∧∀ n l cu,q ≠ .iter n l cu) (hmt:∀ b,qd b=true→h b=true→qE b r=true) :
  ∀ (d:Nat) (c:Ce) (H:List Bk) (S:List Sh) (b:Nat) (I:Nat→Prop) (zs:List Sh),Nd H d c S b I→yj c=true→(d:Int)+c.l=17→(∀ s∈S,QH c (hm s)=true∧qd s.box=true)→¬ I o→H[o]? = some (.cells [Q7 zs])→(∀ q,fb=some q→H[ir]? = some q)→zs.length+S.length<1000000 →
  AFn Tryz.prog 167 [.ptr b 0,r.v,.fn (.func g) first cap,Kr o] H fun y H'=>∃ L,L.Perm (hf h S)∧H'[o]? = some (.cells [Q7 (zs++L)])∧Kp (fun x=>x=o) H H':=by
 intro d
 induction d with
 | zero=>intro c H S b I zs hN; exact hN.elim
 | succ d ih =>
  intro c H S b I zs hN hc hd hS hIo hHo hir hlen
  obtain ⟨m,es,k,J,h1,h2,h3,h4,h5,h6⟩:=id hN
  unfold Zc at h1
  have hbl:=(List.getElem?_eq_some_iff.1 h1).1
  have hml:=(List.getElem?_eq_some_iff.1 h2).1
  have hol:=(List.getElem?_eq_some_iff.1 hHo).1
  have hbm:b≠m:=by rintro rfl; rw [h1] at h2; cases h2
  have h1':=fun L=>hget (L:=L) h1
  have h2':=fun L=>hget (L:=L) h2
  have hob:o≠b:=fun e=>hIo (e▸(h4 b).2 (.inl rfl))
  have hom:o≠m:=fun e=>hIo (e▸(h4 m).2 (.inr (.inl rfl)))
  have hB:=qiV c
  have hbx:JD c=(jy c,true):=by simp [JD,hc]
  rw [hbx] at hB
  have hM:=qbZ (jy c) r
  have hcr:=yI.1 hc
  unfold Re.v Re.cs at hM hB ⊢
  unfold Ce.v Ce.cs at hB
  refine vwc (fn:=Tryz.f167) rfl ?_
  simp only [Tryz.f167,ql]
  refine AW.seq (vwb ?_)
  simp
  refine AW.seq (vwb ?_)
  by_cases hz:S = []
  ·subst hz
   simp [h1']
   exact ⟨[],by simp [hf],by simpa using hget hHo,Kp.refl.app⟩
  ·have hz2:((S.length:Int)==0)=false:=by simpa using hz
   simp [h1',hz2]
   refine AW.seq (AW.seq (vwb ?_))
   simp [h1']
   refine qc.pure hB rfl rfl ?_
   simp [h1',setCells,qo]
   refine vwb ?_
   simp
   refine qc.pure hM rfl rfl ?_
   cases hme:qE (jy c) r with
   | false =>
    simp
    refine ⟨[],?_,by simpa using hget hHo,Kp.refl.app⟩
    have:hf h S = []:=List.filter_eq_nil_iff.2 fun s hs e=>by
     have h7:=qF.1 (hS s hs).2
     have h8:=hmt s.box (hS s hs).2 e
     have h9:=qcr (hS s hs).2 hcr.1.1 (hS s hs).1
     have h10:=Qj hc
     simp only [qE,hr,h10,(hS s hs).2,Bool.true_and,decide_eq_true_iff,decide_eq_false_iff_not] at h8 hme
     omega
    rw [this]
   | true =>
    simp
    refine AW.seq (AW.seq (vwb ?_))
    simp [h1',h2']
    refine AW.block (AW.qaZ (SeM H b m o (H.length+2) H.length r es h zs (.fn (.func g) first cap)) ⟨es.length,_,?_,es,[],none,rfl,by simp,by simpa using hget hHo,Kp.refl.app,by omega,by simp [reB],Nat.le_refl _,by simp,by simp,rfl⟩ ?_)
    ·simp [qz,qj,qm]
    rintro n F H1 ⟨left,L,cu,rfl,q1,q2,q3,q4,q5,q6,q7,q8,rfl⟩
    refine AW.seq (vwb ?_)
    simp [q1]
    refine ⟨fun e => ?_,fun i kk v s e1 e2 => ?_⟩
    rotate_left
    ·obtain ⟨rfl,rfl⟩:Value.int .i64 s.id=kk∧s.v=v:=by simpa [J5] using e2
     have hil:i<left.length:=(List.getElem?_eq_some_iff.1 e1).1
     have hitl:H.length+2<H1.length:=(List.getElem?_eq_some_iff.1 q1).1
     obtain ⟨H2,eH,p1,p2,p3,p4,p5⟩:∃ H2,H2=H1.set (H.length+2) (Bk.iter m ((List.map J5 left).eraseIdx i) (some (Value.int IntKind.i64 s.id,s.v)))∧H2[H.length+2]? = some (.iter m ((left.eraseIdx i).map J5) (some (.int .i64 s.id,s.v)))∧H2[o]? = some (.cells [Q7 (zs++L)])∧H2[H.length]? = some (reB r)∧Kp (fun x=>x=o) H H2∧H2.length=H1.length:=by
      refine ⟨_,rfl,?_,?_,?_,?_,by simp⟩
      ·rw [List.getElem?_set_self hitl]
       have em:∀ (l:List Sh) (j:Nat),(l.eraseIdx j).map J5=(l.map J5).eraseIdx j:=by
        intro l
        induction l with
        | nil=>simp
        | cons a l ih=>intro j; cases j <;> simp [ih]
       rw [em]
      ·rw [List.getElem?_set_ne (by omega)]
       exact q2
      ·rw [List.getElem?_set_ne (by omega)]
       exact q5
      ·exact Kp.new ((q3.weak fun x hx => .inl hx).set (.inr (by omega)))
     rw [← eH]
     clear eH q1 q2 q3 q5
     unfold Sh.v Sh.cs at p1 ⊢
     refine AW.seq (vwb ?_)
     simp
     refine AW.block (AW.seq (vwb ?_))
     simp [p1,setCells,qo]
     have hA:=hH (H2 ++ [shB s]) s.box fun q hq=>by
      have:=hio q hq
      exact hget (p4 _ _ this.1 (hir q hq) this.2)
     unfold Re.v Re.cs shB at hA
     refine AW.seq (vwb ?_)
     simp
     refine qc.of hA ?_
     rintro y H3 ⟨rfl,L3,rfl⟩
     have hep:=qew e1
     have hll:(left.eraseIdx i).length=left.length - 1:=List.length_eraseIdx_of_lt hil
     cases hb:h s.box with
     | false =>
      simp
      refine vwb ?_
      simp
      refine ⟨(left.eraseIdx i).length,by omega,_,?_,left.eraseIdx i,L,_,rfl,hget p1,hget p2,p4.app,by omega,hget p3,Nat.le_refl _,?_,by omega,rfl⟩
      ·simp [qz,qj,qm]
      ·have:=qbl (h:=h) hep
       rw [qf7,hb] at this
       exact (List.Perm.append_left L this).trans q7
     | true =>
      simp
      have hT:=ntell s (zs++L) o (H2++shB s::L3) (hget p2) (by
       have:=h3.length_eq
       have h9:=KA fun s hs=>(hS s hs).1
       rw [List.length_append]
       omega)
      unfold shB Sh.v Sh.cs at hT
      refine vwb ?_
      simp [Kr]
      refine qc.of hT ?_
      rintro y H4 rfl
      simp
      have hb2:H.length+2<(H2++shB s::L3 ++ [shB s]).length:=by simp; omega
      refine ⟨(left.eraseIdx i).length,by omega,_,?_,left.eraseIdx i,L ++ [s],some (.int .i64 s.id,s.v),rfl,?_,?_,?_,by omega,?_,Nat.le_refl _,?_,?_,rfl⟩
      rotate_left
      ·rw [List.getElem?_set_ne (by omega)]
       exact hget p1
      ·rw [List.getElem?_set_self (by simp; omega)]
      ·exact (p4.app).set rfl
      ·rw [List.getElem?_set_ne (by omega)]
       exact hget p3
      ·have:=qbl (h:=h) hep
       rw [qf7,hb,if_pos rfl] at this
       rw [List.append_assoc]
       exact (List.Perm.append_left L this).trans q7
      ·rw [List.length_append,List.length_singleton]; omega
      ·simp [qz,qj,qm,Kr]
    ·subst e
     refine vwb ?_
     simp
     have hb1:=q3.cells (Ne.symm hob) h1
     refine AW.seq (vwb ?_)
     simp [hb1]
     have hp9:=Vh fun s hs=>(hS s hs).1
     have hl9:=KA fun s hs=>(hS s hs).1
     refine AW.block (AW.count 4 (KiM H c S k o H.length r h zs (.fn (.func g) first cap)) ⟨_,?_,L,q2,q3,q5,?_,rfl⟩ ?_)
     ·simp [qz,qj,qm]
     ·rw [hf,List.filter_nil,List.append_nil] at q7
      simp only [List.range_zero,List.flatMap_nil,List.append_nil]
      exact q7.trans (qbl h3)
     clear hb1 q1 q2 q3 q5 q7 q8
     rintro j F H3 hj ⟨L2,r1,r2,r3,r4,rfl⟩
     refine AW.seq (vwb ?_)
     by_cases hlt:j<4
     ·have hlt':(j:Int)<4:=by omega
      have w1:IntKind.i64.wrap ((j:Int)+1)=(j:Int)+1:=by rw [wrap_i64] <;> omega
      have hget' : [JC (k 0),JC (k 1),JC (k 2),JC (k 3)][j]? = some (JC (k j)):=by
       rcases (show j=0∨j=1∨j=2∨j=3 by omega) with rfl | rfl | rfl | rfl <;> rfl
      have hK:AFn Tryz.prog 167 [JC (k j),r.v,.fn (.func g) first cap,Kr o] H3 fun y H'=>∃ L',L'.Perm (hf h (sub' (qD c (j:Nat)) S))∧H'[o]? = some (.cells [Q7 (zs++L2++L')])∧Kp (fun x=>x=o) H3 H':=by
       rcases h6 j hlt with ⟨e,hkj,_⟩ | ⟨_,b',hkj,hN'⟩
       ·rw [hkj,e]
        exact (qfs r _ _ H3).mono' fun y H' hy=>⟨[],.nil,by rw [hy,List.append_nil]; exact hget r1,by rw [hy]; exact Kp.refl.app⟩
       ·rw [hkj]
        have hJo:∀ x,J j x→¬ x=o:=fun x hx e=>hIo (e▸(h4 x).2 (.inr (.inr ⟨j,hlt,hx⟩)))
        refine ih (qD c (j:Nat)) H3 _ b' (J j) (zs++L2) (Nd.keep r2 hN' hJo) (Y7 hc ?_ (by omega)) ?_ (fun s hs=>⟨(List.mem_filter.1 hs).2,(hS s (List.mem_filter.1 hs).1).2⟩) (fun e=>hJo o e rfl) r1 (fun q hq=>r2 _ _ (hio q hq).1 (hir q hq) (hio q hq).2) ?_
        ·have hd1:0<d:=by
          cases d with
          | zero=>exact hN'.elim
          | succ d=>omega
         omega
        ·show (d:Int)+(c.l+1)=17
         omega
        ·have e1:=r4.length_eq
         have e2:(hf h (at' c S++(List.range j).flatMap fun i:Nat=>sub' (qD c (i:Nat)) S)).length≤_:=List.length_filter_le _ _
         have e3:=hp9.length_eq
         rw [List.length_append] at e2 e3 ⊢
         have e4:((List.range j).flatMap fun i:Nat=>sub' (qD c (i:Nat)) S).length+(sub' (qD c (j:Nat)) S).length≤((List.range 4).flatMap fun i:Nat=>sub' (qD c (i:Nat)) S).length:=by
          rcases (show j=0∨j=1∨j=2∨j=3 by omega) with rfl | rfl | rfl | rfl <;> simp [show List.range 4 = [0,1,2,3] from rfl,show List.range 3 = [0,1,2] from rfl,show List.range 2 = [0,1] from rfl,show List.range 1 = [0] from rfl] <;> omega
         omega
      simp [hlt']
      unfold reB at r3
      unfold Re.v Re.cs Kr at hK
      refine AW.seq (vwb ?_)
      simp
      refine AW.seq (AW.block (vwb ?_))
      simp [hlt',hget',r3,Kr]
      refine qc.of hK ?_
      rintro y H4 ⟨L3,s1,s2,s3⟩
      simp
      refine vwb ?_
      simp [w1]
      refine ⟨hlt,_,?_,L2++L3,by rw [← List.append_assoc]; exact s2,r2.trans s3,s3.cells (by omega) r3,?_,rfl⟩
      ·simp [qz,qj,qm,Kr]
      ·rw [List.range_succ,List.flatMap_append,← List.append_assoc]
       unfold hf at r4 s1 ⊢
       rw [List.filter_append]
       simpa using r4.append s1
     ·have hlt':¬ (j:Int)<4:=by omega
      have hj4:j=4:=by omega
      simp [hlt']
      refine vwb ?_
      simp
      rw [hj4] at r4
      exact ⟨L2,r4.trans (qbl hp9),r1,r2⟩
theorem TrS.perm {H:List Bk} {r:Nat} {S S':List Sh} {T:Nat→Prop} (h:TrS H r S T) (hp:S.Perm S'):TrS H r S' T:=by
 obtain ⟨b,m,I,es,h,hT⟩:=h
 exact ⟨b,m,I,es,⟨h.cr,h.cm,h.es.trans hp,h.nd.perm hp,h.rm,h.ir,h.im,((hp.map Sh.id).nodup_iff).1 h.ids,fun s hs=>h.right s (hp.mem_iff.2 hs),by rw [← hp.length_eq]; exact h.len⟩,hT⟩
def qdX (S:List Sh):List Sh:=S.mergeSort fun p q=>decide (p.id≤q.id)
theorem JN (S:List Sh):(qdX S).Perm S:=List.mergeSort_perm _ _
theorem qdW (S:List Sh):(qdX S).Pairwise fun p q=>p.id≤q.id:=by
 have:=List.pairwise_mergeSort (le:=fun p q:Sh=>decide (p.id≤q.id)) (fun a b c h1 h2=>by simp at *; omega) (fun a b=>by simp; omega) S
 simpa [qdX] using this
theorem qdh {S L:List Sh} (hn:(S.map Sh.id).Nodup) (hp:L.Perm S) (hr:L.Pairwise fun p q=>p.id≤q.id):L=qdX S :=
 List.Perm.eq_of_pairwise (le:=fun p q:Sh=>p.id≤q.id) (fun x y hx hy h1 h2=>qcA hn (hp.mem_iff.1 hx) ((JN S).mem_iff.1 hy) (Int.le_antisymm h1 h2)) hr (qdW S) (hp.trans (JN S).symm)
theorem qfj (zs:List Sh):scs encS zs=zs.flatMap Sh.cs:=rfl
def QG (h:Re→Bool) (rc:Re) (S:List Sh):List Sh:=if qd rc then qdX (hf h S) else []
theorem qm1 {H:List Bk} {r:Nat} {S:List Sh} {T:Nat→Prop} (ht:TrS H r S T) {g:FuncId} {first cap:List V} {ir:Nat} {fb:Option Bk} {h:Re→Bool} (hH:qdB g first cap ir fb h) (rc:Re) (hfb:∀ q,fb=some q→H[ir]? = some q∧∀ n l cu,q ≠ .iter n l cu) (hmt:qd rc=true→∀ b,qd b=true→h b=true→qE b rc=true) :
  AFn Tryz.prog 128 [.ptr r 0,rc.v,.fn (.func g) first cap] H fun y H'=>y=slS (QG h rc S)∧Kp NoB H H':=by
 have hMade:=fun L=>qg5 (ht.app (L:=L))
 obtain ⟨b,m,I,es,hb,hT⟩:=id ht
 have hr:=hb.cr
 have hr':=fun L=>hget (L:=L) hr
 have hR:=Jc rc
 have hcs:rc.v = .agg rc.cs:=rfl
 refine AFn.conv (Q:=fun y H'=>(y=slS (QG h rc S)∨(y = .nil∧QG h rc S = []))∧Kp NoB H H') ?_ fun y H' hy=>⟨slS (QG h rc S),⟨rfl,hy.2⟩,fun I φ v hv => ?_⟩
 rotate_left
 ·rcases hy.1 with rfl | ⟨rfl,e⟩
  ·exact hv
  ·rw [e]
   exact qaO hv
 unfold Re.v Re.cs at hR ⊢
 refine vwc (fn:=Tryz.f128) rfl ?_
 simp only [Tryz.f128,ql]
 refine AW.seq (vwb ?_)
 simp
 refine AW.seq (vwb ?_)
 simp
 refine qc.of (hMade _) ?_
 rintro y H1 ⟨rfl,rfl⟩
 simp
 refine qc.pure hR rfl rfl ?_
 cases hrr:qd rc with
 | false =>
  simp
  exact ⟨by simp [QG,hrr],Kp.refl.app⟩
 | true =>
  simp
  refine AW.seq (vwb ?_)
  simp
  refine AW.qaL (Q7 []) (id:=H.length+1) (off:=0) (by simp; rfl) rfl ⟨rfl,rfl,by decide⟩ rfl ?_
  have hset:∀ (x:Bk) (y z:SV),qo (H ++ [x,.cells [y]]) (H.length+1) 0 z=H ++ [x,.cells [z]]:=fun x y z=>by simp [qo]
  rw [hset]
  have hro:∀ q,fb=some q→ir≠H.length+1∧∀ n l cu,q ≠ .iter n l cu:=fun q hq=>⟨by
   have:=(List.getElem?_eq_some_iff.1 (hfb q hq).1).1
   omega,(hfb q hq).2⟩
  obtain ⟨H2,eH,p1,p2,p3,p4,p5⟩:∃ H2,H2=H ++ [reB rc,.cells [Q7 []]]∧H2[r]? = some (.cells [.v (.ptr b 0),.v (.map m)])∧H2[H.length]? = some (reB rc)∧H2[H.length+1]? = some (.cells [Q7 []])∧Kp NoB H H2∧∀ q,fb=some q→H2[ir]? = some q :=
   ⟨_,rfl,hr' _,by simp,by simp,Kp.refl.app,fun q hq=>hget (hfb q hq).1⟩
  unfold reB at eH p2
  rw [← eH]
  have hlr:=(List.getElem?_eq_some_iff.1 hr).1
  have hIo:¬ I (H.length+1):=fun e=>by
   have:=(hb.nd.lt _ e).1
   omega
  have hSr:=qkV hH (H.length+1) rc hrr hro (hmt hrr) 17 VQ H2 S b I [] (Nd.keep p4 hb.nd fun _ _=>id) YD (by decide) (fun s hs=>⟨KR (hb.right s hs),hb.right s hs⟩) hIo p3 p5 (by have:=hb.len; simp; omega)
  unfold Re.v Re.cs Kr at hSr
  refine AW.seq (vwb ?_)
  simp [p1,p2]
  refine qc.of hSr ?_
  rintro y H3 ⟨L,s1,s2,s3⟩
  simp
  rw [List.nil_append] at s2
  have hLl:L.length≤500000:=by
   have h1:=s1.length_eq
   have h2:(hf h S).length≤S.length:=List.length_filter_le _ _
   have:=hb.len
   omega
  refine AW.seq (AW.qh0 (i:=H.length+1) (ks := [Q7 L]) (zs:=L) (n:=L.length) qdU ⟨_,Tryz.func149,rfl,by kernel_rfl⟩ (fun x v hv=>by simp [encS] at hv; rcases hv with rfl | rfl | rfl | rfl | rfl | rfl <;> rfl) rfl rfl rfl rfl rfl rfl rfl rfl rfl rfl rfl rfl rfl (by decide) (by decide) (by decide) (by decide) (by decide) (by decide) (by decide) (by decide) (by decide) (by simp) (by simp) ⟨_,Tryz.underlying70⟩ (by rfl) s2 rfl rfl (by omega) ?_)
  rintro ys ⟨y1,y2⟩ hl
  have hys:ys=QG h rc S:=by
   rw [QG,if_pos hrr]
   exact qdh (qcO hb.ids) (y1.trans s1) y2
  rw [hl.symm,qfj,zF s2]
  simp only [List.set_cons_zero]
  have hol:=(List.getElem?_eq_some_iff.1 s2).1
  obtain ⟨H4,eH4,u1,u2⟩:∃ H4,H4=H3.set (H.length+1) (Bk.cells [SV.own true 57 ys.length 6 (List.flatMap Sh.cs ys)])∧H4[H.length+1]? = some (.cells [.own true 57 ys.length 6 (List.flatMap Sh.cs ys)])∧Kp (fun x=>H.length≤x) H H4 :=
   ⟨_,rfl,List.getElem?_set_self hol,((p4.weak fun _ h=>h.elim).trans (s3.weak fun x (hx:x=H.length+1)=>by omega)).set (by omega)⟩
  rw [← eH4]
  refine vwb ?_
  simp [u1]
  rw [zF u1,← hys]
  refine ⟨rfl,?_⟩
  exact Kp.new ((u2.weak fun x hx => .inr hx).set (.inr (by omega)))
theorem qfz (r:Re) (q:Nat):qdB 129 [] [.ptr q 0] q (some (reB r)) (fun b=>qE b r):=by
 intro H b hq
 have hq:=hq _ rfl
 have hM:=qbZ b r
 have hq':=fun L=>hget (L:=L) hq
 unfold reB at hq'
 unfold Re.v Re.cs at hM ⊢
 simp only [List.nil_append]
 refine vwc (fn:=Tryz.f129) rfl (vwb ?_)
 simp only [Tryz.f129,ql]
 simp [hq']
 refine qc.pure hM rfl rfl ?_
 simp
section
variable {H:List Bk} {r:Nat} {S:List Sh} {T:Nat→Prop}
theorem qm0 (ht:TrS H r S T) (rc:Re):AFn Tryz.prog 77 [.ptr r 0,rc.v] H fun y H'=>y=slS (QG (fun b=>qE b rc) rc S)∧Kp NoB H H':=by
 have hF:=qm1 (ht.app (L := [reB rc])) (qfz rc H.length) rc (fun q hq=>by
  cases hq
  exact ⟨by simp,fun _ _ _ e=>by cases e⟩) (fun _ b _ h=>h)
 unfold reB Re.v Re.cs at hF
 unfold Re.v Re.cs
 refine vwc (fn:=Tryz.f77) rfl (vwb ?_)
 simp only [Tryz.f77,ql]
 simp
 refine qc.of hF ?_
 rintro y H1 ⟨rfl,h1⟩
 simp
 exact Kp.trans Kp.refl.app h1
def fndV (S:List Sh) (k:Int):V:=match fnd S k with
 | some s => .tup [s.v,.sc (.bool true)]
 | none => .tup [Sh.zero.v,.sc (.bool false)]
theorem tfind (ht:TrS H r S T) (k:Int):AFn Tryz.prog 38 [.ptr r 0,.sc (.int .i64 k)] H fun y H'=>y=fndV S k∧Kp NoB H H':=by
 have hM:=fun L=>qg5 (ht.app (L:=L))
 obtain ⟨b,m,I,es,hb,hT⟩:=ht
 have hr:=fun L=>hget (L:=L) hb.cr
 have hm:=fun L=>hget (L:=L) hb.cm
 have hfs:=qcY hb.ids hb.es k
 unfold fndV
 rw [← hfs]
 refine vwc (fn:=Tryz.f38) rfl ?_
 simp only [Tryz.f38,ql]
 refine AW.seq (vwb ?_)
 simp
 refine AW.seq (vwb ?_)
 simp
 refine qc.of (hM _) ?_
 rintro y H1 ⟨rfl,rfl⟩
 simp
 refine AW.seq (vwb ?_)
 cases hs:XB k es 0 with
 | none =>
  simp [hr,hm,KL,hs,qmO,setCells,qo]
  refine vwb ?_
  simp [setCells,qo,Sh.v,Sh.cs,Sh.zero]
  exact Kp.refl.app
 | some p =>
  unfold Sh.v Sh.cs
  simp [hr,hm,KL,hs,qmO,setCells,qo,Sh.v,Sh.cs]
  refine vwb ?_
  simp [setCells,qo,Sh.v,Sh.cs,Sh.zero]
  exact Kp.refl.app
end
theorem JO {α:Type} {xs:List α} {k:Nat} (h:k<xs.length):xs.take (k+1)=xs.take k ++ [xs[k]]:=List.take_succ_eq_append_getElem h
theorem XH {s:Sh} {zs:List Sh} {k:Nat} (h:k<zs.length):piD s (zs.take (k+1))=piS s (piD s (zs.take k)) zs[k]:=by
 unfold piD
 rw [JO h,List.foldl_append]
 rfl
end Go.Proofs.YtnconfggojpkcaaGreat
namespace Go.Proofs.YtnconfggojpkcaaGreat
open Go.RowKit Go.ChangeShapes Go.WideShapes AM
section
variable {H:Type} {enc:TypeId×Value→H} {w:World} {base:Nat} {held:Bool} {r:Reach} {b0:Nat} {v:Value} {d:DataW H} {p:List MemPlace}
namespace Sh
end Sh
theorem XA:VT Tryz.prog 6 57=some [.int .i64,.int .i64,.int .i64,.int .i64,.int .i64,.int .i64]:=by kernel_rfl
theorem J7 {cs:List Value} (h:Leaf.all [.int .i64,.int .i64,.int .i64,.int .i64,.int .i64,.int .i64] cs):∃ x:Sh,x.vals=cs:=by
 obtain ⟨a,_,rfl,_,h⟩:=Leaf.vB h
 obtain ⟨b,_,rfl,_,h⟩:=Leaf.vB h
 obtain ⟨c,_,rfl,_,h⟩:=Leaf.vB h
 obtain ⟨e,_,rfl,_,h⟩:=Leaf.vB h
 obtain ⟨f,_,rfl,_,h⟩:=Leaf.vB h
 obtain ⟨g,_,rfl,_,h⟩:=Leaf.vB h
 obtain rfl:=Leaf.all_nil h
 exact ⟨⟨a,⟨b,c,e,f⟩,g⟩,rfl⟩
end
end Go.Proofs.YtnconfggojpkcaaGreat
namespace Go.Proofs.YtnconfggojpkcaaGreat
open Go.RowKit AM
attribute [local simp] zQ qU jL zT zq zR zS zo jM zu qV Z8 Qm jC Ql yc ZE vZ slF qG Qo zK yx zA shares jh yt ze Qz QI qY ZF qZ qM vX zH yu Qe qL zD zG vU slV jE jG yE zU ZJ jB jF aMM aUn Qp vW jD zC jA qJ vV Qu vY vS Zw y9 qK Qs ZK zJ zI jH jR ZH eval zZ AM.valOf qm vO yR del SV.refers zY vQ jU shift ldV V.exact V.jg V.ofValue V.vP V.vL V.cells V.one Value.oneCell' ZI QY jV Q5 ZM ZC Qa Zy jl jI Qi ZL y8 yX Qr calm Qt Zn Qk feeds shrinks Qx looks isT Qf vK Qd putAt jT jc Zm sliceB isEq Qg zk qH zO zn qR zl zm qQ zP zi qP ZW Qw yB Zl QZ inO y7 Zi Mix.vT Mix.Qc QB QX qz qj qW zh qO ZV Qq yg yh ZG Zb yw yO Q8 jW V.fixed V.vC
attribute [local simp] vE je yL vH jQ vF vG jP yM vk jN V5 Ja yF QT Jb z0 JL VK Vo VU
def ZB (l:List Ru) (r:List Pr) (s:Nat):Bool:=decide (l.length≤7∧(qg l).length≤10)&&decide (r.length≤30)&&decide (s≤12)
def FwI (l:List Ru) (r:List Pr) (n:Nat) (cs:List V) (k:Nat) (F:Fr) (H:List Bk):Prop:=(k≤7∧∀ j,j<k→(qg (l.take j)).length≤10)∧H = []∧F = [(0,.v (slU l)),(1,.v (lV r)),(2,.v (.sl n 6 cs)),(7,.v (.sc (.int .i64 (qg (l.take k)).length))),(8,.v (.sc (.int .i64 k)))]
theorem qgj (l:List Ru) (hb:∀ r∈l,r.boxes.length≤4398046511104) (r:List Pr) (n:Nat) (cs:List V):PFn Tryz.prog 12 [slU l,lV r,.sl n 6 cs] (.sc (.bool (ZB l r n))):=by
 refine vwc (fn:=Tryz.f12) rfl ?_
 simp only [Tryz.f12,ql]
 refine AW.seq (vwb ?_)
 simp [slU,lV]
 refine AW.seq (vwb ?_)
 simp
 refine AW.seq (AW.seq (vwb ?_))
 simp
 refine AW.block (AW.count l.length (FwI l r n cs) ⟨_,?_,⟨by omega,by omega⟩,rfl,rfl⟩ ?_)
 ·simp [qz,qj,qm,slU,lV,qg]
 rintro k F H hk ⟨⟨hk7,hpre⟩,rfl,rfl⟩
 have hle:=ZU l k
 refine vwb ?_
 by_cases hlt:k<l.length
 ·by_cases h6:6<k
  ·have h6':(6:Int)<k:=by omega
   have e:ZB l r n=false:=by
    unfold ZB
    rw [decide_eq_false (by omega)]
    rfl
   simp [slU,lV,hlt,h6',h6,e]
  ·have h6':¬ (6:Int)<k:=by omega
   by_cases h10:10<(qg (l.take k)).length
   ·have h10':(10:Int)<(qg (l.take k)).length:=by omega
    have e:ZB l r n=false:=by
     unfold ZB
     rw [decide_eq_false (by omega)]
     rfl
    generalize (qg (l.take k)).length=nn at *
    simp [slU,lV,hlt,h6',h6,h10,h10',e]
   ·have h10':¬ (10:Int)<(qg (l.take k)).length:=by omega
    have hrow:=qan hlt
    have hst:(qg (l.take (k+1))).length=(qg (l.take k)).length+l[k].boxes.length:=by rw [VD hlt,List.length_append]
    have hbl:=hb _ (List.getElem_mem hlt)
    have w1:IntKind.i64.wrap ((k:Int)+1)=(k:Int)+1:=by rw [wrap_i64] <;> omega
    have w2:IntKind.i64.wrap (((qg (l.take k)).length:Int)+l[k].boxes.length)=((qg (l.take (k+1))).length:Int):=by rw [hst,wrap_i64] <;> omega
    have hp:∀ j,j<k+1→(qg (l.take j)).length≤10:=fun j hj=>by
     by_cases e:j=k
     ·subst e; omega
     ·exact hpre j (by omega)
    unfold slR at hrow
    generalize hn1:(qg (l.take k)).length=nn at *
    generalize hn2:(qg (l.take (k+1))).length=n2 at *
    simp [slU,lV,hlt,h6',h6,h10,h10',hrow,w1,w2]
    refine ⟨_,?_,⟨by omega,hp⟩,rfl,rfl⟩
    simp [qz,qj,qm,slU,lV,hn2]
 ·have hk':k=l.length:=by omega
  subst hk'
  rw [List.take_length]
  have e:ZB l r n=(decide ((qg l).length≤10)&&decide (r.length≤30)&&decide (n≤12)):=by
   unfold ZB
   congr 2
   rw [decide_eq_decide]
   omega
  simp [slU,lV,e]
  by_cases c1:(qg l).length≤10
  rotate_left
  ·have c1':¬ ((qg l).length:Int)≤10:=by omega
   refine vwb ?_
   simp [c1,c1']
  have c1':((qg l).length:Int)≤10:=by omega
  by_cases c2:r.length≤30
  rotate_left
  ·have c2':¬ (r.length:Int)≤30:=by omega
   refine vwb ?_
   simp [c1,c1',c2,c2']
  have c2':(r.length:Int)≤30:=by omega
  by_cases c3:n≤12
  ·have c3':(n:Int)≤12:=by omega
   refine vwb ?_
   simp [c1,c1',c2,c2',c3,c3']
  ·have c3':¬ (n:Int)≤12:=by omega
   refine vwb ?_
   simp [c1,c1',c2,c2',c3,c3']
theorem Z9.Vb {H H':List Bk} {l:List Ru} {S:List Pr} {C:List Sh} {r c t m:Nat} {Tp Tc:Nat→Prop} (h:Z9 H l S C r c t m Tp Tc) (k:Kp NoB H H'):Z9 H' l S C r c t m Tp Tc:=by
 obtain ⟨⟨es,h1,h2⟩,h3,h4,h5,h6⟩:=h
 exact ⟨⟨es,⟨k.cells id h1.t,k.map id h1.m⟩,h2⟩,h3.Vb k,h4.Vb k,h5,h6⟩
section
variable {H0 H H':List Bk} {l:List Ru} {S S':List Pr} {C C':List Sh} {r c t m:Nat} {Tp Tp' Tc Tc':Nat→Prop}
end
theorem qhF {x y:Operand} {u v:Bool}:XU Tryz.prog .eql 4 x y (.bool u) (.bool v)=some (.bool (u==v)):=by cases u <;> cases v <;> kernel_rfl
theorem WS {l:List Ru} {r:List Pr} {n:Nat} (h:tbR l=true) (hf:ZB l r n=true):Yk l∧l.length≤7∧(qg l).length≤10∧r.length≤30∧n≤12:=by
 unfold tbR at h
 unfold ZB at hf
 simp only [Bool.and_eq_true,decide_eq_true_eq] at h hf
 exact ⟨⟨by omega,by omega,h.2⟩,by omega,by omega,hf.1.2,hf.2⟩
section
variable {H:List Bk} {l:List Ru} {S:List Pr} {C:List Sh} {r c t m:Nat} {Tp Tc:Nat→Prop}
theorem qjr (h:Z9 H l S C r c t m Tp Tc) (hl:Yk l) (v:Vw) (x:Pr):AFn Tryz.prog 20 [wdC r c t,.agg v.cs,x.v] H fun y H'=>y=seW (Zq (zmP l v) v x)∧Kept l t m H H':=by
 obtain ⟨es,h1,h2⟩:=h.tb
 exact qjL hl v x r c es H h1 h2
theorem qgh (h:Z9 H l S C r c t m Tp Tc) (hl:Yk l) (v:Vw) (x:Sh):AFn Tryz.prog 22 [wdC r c t,.agg v.cs,x.v] H fun y H'=>y=seW (vJ (zmC l v) v x)∧Kept l t m H H':=by
 obtain ⟨es,h1,h2⟩:=h.tb
 exact (X9 hl v x r c es H h1 h2).mono' fun y H' h=>⟨h.1,h.2.w⟩
end
def Inc (S:List Sh):Prop:=S.Pairwise fun p q=>p.id<q.id
theorem Inc.filter {S:List Sh} (h:Inc S) (p:Sh→Bool):Inc (S.filter p):=List.Pairwise.sublist List.filter_sublist h
theorem Inc.less {S:List Sh} (h:Inc S) (k:Int):Inc (less S k):=h.filter _
theorem qdu {zs:List Sh} (hz:Inc zs) {n:Nat} (hlt:n<zs.length):∀ t∈zs.take n,t.id<zs[n].id:=fun t ht=>by
 obtain ⟨i,hi,e⟩:=List.getElem_of_mem ht
 rw [List.length_take] at hi
 rw [List.getElem_take] at e
 rw [← e]
 exact List.pairwise_iff_getElem.1 hz i n (by omega) hlt (by omega)
theorem qbP {s:Sh} {zs:List Sh} (hz:Inc zs) (hn:∀ t∈zs,t.id≠s.id):∀ n,n≤zs.length→((piD s (zs.take n)).2=true→(piD s (zs.take n)).1.Perm (s::zs.take n)∧Inc (piD s (zs.take n)).1∧∃ t∈zs.take n,s.id<t.id)∧((piD s (zs.take n)).2=false→(piD s (zs.take n)).1=zs.take n∧∀ t∈zs.take n,t.id<s.id):=by
 intro n
 induction n with
 | zero=>intro _; simp [piD]
 | succ n ih =>
  intro hle
  have hlt:n<zs.length:=by omega
  have ih:=ih (by omega)
  have hs:=XH (s:=s) hlt
  have hpre:=qdu hz hlt
  have hinc:Inc (zs.take n):=List.Pairwise.sublist (List.take_sublist n zs) hz
  have hne:zs[n].id≠s.id:=hn _ (List.getElem_mem hlt)
  rw [hs,JO hlt]
  generalize hx:zs[n]=x at *
  generalize hp:zs.take n=pre at *
  generalize piD s pre=a at *
  obtain ⟨l,b⟩:=a
  unfold piS
  simp only at ih ⊢
  cases b with
  | true =>
   obtain ⟨h1,h2,t,h3,h4⟩:=ih.1 rfl
   simp only [Bool.not_true,Bool.false_and,Bool.false_eq_true,if_false]
   refine ⟨fun _=>⟨h1.append_right [x],List.pairwise_append.2 ⟨h2,List.pairwise_singleton _ _,fun y hy z hz' => ?_⟩,t,by simp [h3],h4⟩,fun e=>by cases e⟩
   rw [List.mem_singleton] at hz'
   subst hz'
   rcases List.mem_cons.1 (h1.mem_iff.1 hy) with rfl | hy
   ·have:=hpre t h3
    omega
   ·exact hpre y hy
  | false =>
   obtain ⟨h1,h2⟩:=ih.2 rfl
   subst h1
   by_cases he:s.id<x.id
   ·simp only [he,decide_true,Bool.not_false,Bool.and_self,if_true]
    refine ⟨fun _=>⟨?_,?_,x,by simp,he⟩,fun e=>by cases e⟩
    ·rw [List.append_assoc]
     exact List.perm_middle
    ·refine List.pairwise_append.2 ⟨List.pairwise_append.2 ⟨hinc,List.pairwise_singleton _ _,fun y hy z hz' => ?_⟩,List.pairwise_singleton _ _,fun y hy z hz' => ?_⟩
     ·rw [List.mem_singleton] at hz'
      subst hz'
      exact h2 y hy
     ·rw [List.mem_singleton] at hz'
      subst hz'
      rcases List.mem_append.1 hy with hy | hy
      ·exact hpre y hy
      ·rw [List.mem_singleton] at hy
       subst hy
       exact he
   ·simp only [he,decide_false,Bool.and_false,Bool.false_eq_true,if_false]
    refine ⟨fun e=>(by cases e),fun _=>⟨trivial,fun t ht => ?_⟩⟩
    rcases List.mem_append.1 ht with ht | ht
    ·exact h2 t ht
    ·rw [List.mem_singleton] at ht
     subst ht
     omega
theorem Vs {xs:List Sh} {s:Sh} (hx:Inc xs):(y7 xs s).Perm (s::less xs s.id)∧Inc (y7 xs s):=by
 have h:=qbP (s:=s) (hx.less s.id) (fun t ht=>by simpa using (List.mem_filter.1 ht).2) _ (Nat.le_refl _)
 rw [List.take_length] at h
 unfold y7
 cases hb:(piD s (less xs s.id)).2 with
 | true =>
  obtain ⟨h1,h2,_⟩:=h.1 hb
  simp only [if_true]
  exact ⟨h1,h2⟩
 | false =>
  obtain ⟨h1,h2⟩:=h.2 hb
  simp only [Bool.false_eq_true,if_false,h1]
  refine ⟨List.perm_append_comm,List.pairwise_append.2 ⟨hx.less s.id,List.pairwise_singleton _ _,fun y hy z hz' => ?_⟩⟩
  rw [List.mem_singleton] at hz'
  subst hz'
  exact h2 y hy
def Xm (a:List Sh) (s:Sh):List Sh:=if qd s.box then y7 a s else a
def hav (l:List Sh):List Sh:=l.foldl Xm []
theorem YT {l:List Sh} {k:Nat} (h:k<l.length):hav (l.take (k+1))=Xm (hav (l.take k)) l[k]:=by
 unfold hav
 rw [JO h,List.foldl_append]
 rfl
theorem qbX {a:List Sh} {s:Sh} (h:Inc a):Inc (Xm a s):=by
 unfold Xm
 split
 ·exact (Vs h).2
 ·exact h
theorem qau {a:List Sh} {s:Sh} (h:Inc a):(Xm a s).Perm (Kz a s):=by
 unfold Xm Kz
 split
 ·exact (Vs h).1
 ·exact List.Perm.refl _
theorem qbW {a:List Sh} {s:Sh} (h:Inc a):(Xm a s).length≤a.length+1:=by
 unfold Xm
 split
 ·rw [(Vs h).1.length_eq,List.length_cons]
  have:(less a s.id).length≤a.length:=List.length_filter_le _ _
  omega
 ·omega
theorem YS (l:List Sh):Inc (hav l)∧(hav l).length≤l.length:=by
 have go:∀ n,n≤l.length→Inc (hav (l.take n))∧(hav (l.take n)).length≤n:=by
  intro n
  induction n with
  | zero=>intro _; simp [hav,Inc]
  | succ n ih =>
   intro hn
   obtain ⟨h1,h2⟩:=ih (by omega)
   rw [YT (by omega)]
   have:=qbW (s:=l[n]) h1
   exact ⟨qbX h1,by omega⟩
 have:=go l.length (Nat.le_refl _)
 rwa [List.take_length] at this
def s1:Sh:=⟨1,⟨0,0,1,1⟩,0⟩
def s2:Sh:=⟨2,⟨1,1,2,2⟩,0⟩
theorem qbB (s:Sh):s.v = .agg [.sc (.int .i64 s.id),.sc (.int .i64 s.box.x0),.sc (.int .i64 s.box.y0),.sc (.int .i64 s.box.x1),.sc (.int .i64 s.box.y1),.sc (.int .i64 s.lab)]:=rfl
def skM (p:Pt) (l:Int):List (Option V) := [none,some (.sc (.int .i64 p.x)),some (.sc (.int .i64 p.y)),some (.sc (.int .i64 l))]
def WT (b:Re) (p:Pt) (l:Int):Int:=Zu (zW b l).1 p
theorem qg6 (b:Re) (p:Pt) (l:Int):qfF Tryz.prog 170 (skM p l) [b.v] (.sc (.int .u64 (WT b p l))):=by
 intro us hus
 obtain ⟨u1,u2,u3,u4,rfl⟩:∃ u1 u2 u3 u4,us = [u1,u2,u3,u4]:=by
  match us,hus with
  | [a,b,c,d],_=>exact ⟨a,b,c,d,rfl⟩
 have hS:=qdE b l
 have hD:=qhf (zW b l).1 p
 unfold WT
 generalize zW b l=sn at *
 obtain ⟨bb,ok⟩:=sn
 simp only at hS hD ⊢
 generalize Zu bb p=dd at *
 unfold Re.v Re.cs at hS hD
 unfold Pt.v Pt.cs at hD
 unfold Re.v Re.cs
 simp only [skM,qc8]
 refine vwc (fn:=Tryz.f170) rfl ?_
 simp only [Tryz.f170,ql]
 refine AW.seq (AW.off [] [(1,9,11,[3,0])] mixed (by kernel_rfl) ?_)
 simp [jq,zx,jX,jw,zN,jr,jv,zM,jY,flK,yK,zL,zw,QC]
 have k1:=fun x y:Bk=>Z4 (H := [x]) (L := [y])
 simp only [List.cons_append,List.nil_append] at k1
 refine AW.seq (AW.off [] [(1,9,11,[3,0])] mixed (by kernel_rfl) ?_)
 simp [jq,zx,jX,jw,zN,jr,jv,zM,jY,flK,yK,zL,zw,QC,k1]
 refine ⟨qc.pure hS rfl rfl ?_,qc.pure hS rfl rfl ?_⟩
 ·simp [jq,zx,jX,jw,zN,jr,jv,zM,jY,flK,yK,zL,zw,QC,k1,setCells,qo]
  refine vwb ?_
  simp
  refine qc.pure hD rfl rfl ?_
  simp
 ·simp [jq,zx,jX,jw,zN,jr,jv,zM,jY,flK,yK,zL,zw,QC,k1,setCells,qo]
  refine vwb ?_
  simp
  refine qc.pure hD rfl rfl ?_
  simp
def skB (r:Nat) (p:Pt) (l:Int) (kv:V) (ws:List Nat) (q:Nat):Bk := .cells [.v (.ptr r 0),.v (.sc (.int .i64 p.x)),.v (.sc (.int .i64 p.y)),.v (.sc (.int .i64 l)),.v kv,.own true 138 ws.length 1 (ws.map fun b => .ptr b 0),.v (.ptr q 0)]
theorem qd0 {H:List Bk} {k r:Nat} {p:Pt} {l:Int} {kv:V} {ws:List Nat} {q:Nat} (h:H[k]? = some (skB r p l kv ws q)):qfu H k (skM p l):=by
 refine ⟨_,h,by simp [skM],fun j z hz => ?_⟩
 match j,hz with
 | 0,hz=>cases hz
 | 1,hz=>cases hz; exact ⟨rfl,rfl⟩
 | 2,hz=>cases hz; exact ⟨rfl,rfl⟩
 | 3,hz=>cases hz; exact ⟨rfl,rfl⟩
 | j+4,hz=>simp [skM] at hz
def Y5 (c:Ce) (p:Pt) (l:Int) (i:Nat):Ent:=⟨WT (jy c) p l,0,i⟩
theorem qcG {H:List Bk} (k:Nat):AFn Tryz.prog 134 [.ptr k 0,.sc (.pointer none)] H fun y H'=>y = .tup []∧H'=H:=by
 refine vwc (fn:=Tryz.f134) rfl (vwa [(3,14,[0,4])] ?_)
 simp only [Tryz.f134,ql]
 simp [qj3]
def qhr (H:List Bk) (k r:Nat) (p:Pt) (l:Int) (kv:V) (q:Nat) (ws:List Nat) (hs:List Ent) (H':List Bk):Prop :=
 Kp (fun x=>x=k∨x=q) H H'∧H'[k]? = some (skB r p l kv ws q)∧QQ H' q hs
theorem qdZ {H:List Bk} {k r q b:Nat} {p:Pt} {l:Int} {kv:V} {ws:List Nat} {hs:List Ent} {c:Ce} {ks:Nat→Option Nat} {n m:Nat} (hk:H[k]? = some (skB r p l kv ws q)) (hq:QQ H q hs) (hb:H[b]? = some (.cells (Zc c ks n m))) (hc:yj c=true)
  (hw:ws.length≤100000) (hh:hs.length≤1000000) :
  AFn Tryz.prog 134 [.ptr k 0,.ptr b 0] H fun y H'=>y = .tup []∧(if n=0 then qhr H k r p l kv q ws hs H' else qhr H k r p l kv q (ws ++ [b]) (put hs (Y5 c p l ws.length)) H'):=by
 have hkq:k≠q:=by
  rintro rfl
  obtain ⟨es,h1,_⟩:=hq
  rw [hk] at h1
  cases h1
 by_cases hn:n=0
 ·subst hn
  unfold Zc at hb
  refine vwc (fn:=Tryz.f134) rfl (vwa [(3,14,[0,4])] ?_)
  simp only [Tryz.f134,ql]
  simp [hb]
  exact ⟨Kp.refl,hk,hq⟩
 ·simp only [if_neg hn]
  have hB:=qiV c
  have hbx:JD c=(jy c,true):=by simp [JD,hc]
  rw [hbx] at hB
  simp only at hB
  unfold Zc at hb
  have hn':((n:Int)==0)=false:=by rw [beq_eq_false_iff_ne]; omega
  unfold Y5
  generalize jy c=bx at *
  unfold Ce.v Ce.cs Re.v Re.cs at hB
  refine vwc (fn:=Tryz.f134) rfl ?_
  simp only [Tryz.f134,ql]
  refine AW.seq (AW.seq (vwa [(3,14,[0,4])] ?_))
  simp [hb,hn']
  refine vwa [(3,14,[0,4])] ?_
  simp
  refine AW.seq (vwa [(3,14,[0,4])] ?_)
  simp [hb]
  refine qc.pure hB rfl rfl ?_
  simp [setCells,qo]
  have hk1:=hget (L := [reB bx]) hk
  have hq1:QQ (H ++ [reB bx]) q hs:=hq.keep (Kp.refl.app (I:=NoB)) (fun h=>h)
  have kp1:Kp (fun x=>x=k∨x=q) H (H ++ [reB bx]):=Kp.refl.app
  have hr1:(H ++ [reB bx])[H.length]? = some (reB bx):=by simp
  have hkl:k<H.length:=(List.getElem?_eq_some_iff.1 hk).1
  unfold reB at hk1 hq1 kp1 hr1
  generalize H ++ [Bk.cells [.v (.sc (.int .i64 bx.x0)),.v (.sc (.int .i64 bx.y0)),.v (.sc (.int .i64 bx.x1)),.v (.sc (.int .i64 bx.y1))]]=H1 at *
  generalize hz:H.length=z at *
  unfold skB at hk1
  have hkl1:=(List.getElem?_eq_some_iff.1 hk1).1
  have f3:∀ K,(H1.set k K)[k]? = some K:=fun K=>List.getElem?_set_self hkl1
  have f1:∀ x,qo H1 k 5 x=H1.set k (.cells [.v (.ptr r 0),.v (.sc (.int .i64 p.x)),.v (.sc (.int .i64 p.y)),.v (.sc (.int .i64 l)),.v kv,x,.v (.ptr q 0)]):=fun x=>zF hk1
  have f2:∀ x y,qo (H1.set k (.cells [.v (.ptr r 0),.v (.sc (.int .i64 p.x)),.v (.sc (.int .i64 p.y)),.v (.sc (.int .i64 l)),.v kv,x,.v (.ptr q 0)])) k 5 y=H1.set k (.cells [.v (.ptr r 0),.v (.sc (.int .i64 p.x)),.v (.sc (.int .i64 p.y)),.v (.sc (.int .i64 l)),.v kv,y,.v (.ptr q 0)]):=fun x y=>by
   rw [zF (f3 _),List.set_set]
   rfl
  refine AW.seq (vwa [(3,14,[0,4])] ?_)
  simp [hk1,f1,f2,f3]
  refine ⟨by omega,?_⟩
  have hq2:=fun X=>hq1.keep (Kp.set (k:=X) (m:=k) (I:=fun x=>x=k) (H:=H1) Kp.refl rfl) (fun e=>hkq e.symm)
  have kp2:∀ X,Kp (fun x=>x=k∨x=q) H (H1.set k X):=fun X=>kp1.set (.inl rfl)
  have hr2:∀ X,(H1.set k X)[z]? = some (reB bx):=fun X=>by
   rw [List.getElem?_set_ne (by omega)]
   exact hr1
  have hk2:(H1.set k (.cells [.v (.ptr r 0),.v (.sc (.int .i64 p.x)),.v (.sc (.int .i64 p.y)),.v (.sc (.int .i64 l)),.v kv,.own true 138 (ws.length+1) 1 (List.map (fun b=>V.ptr b 0) ws ++ [.ptr b 0]),.v (.ptr q 0)]))[k]? = some (skB r p l kv (ws ++ [b]) q):=by
   rw [f3]
   simp [skB]
  have hq2:=hq2 (.cells [.v (.ptr r 0),.v (.sc (.int .i64 p.x)),.v (.sc (.int .i64 p.y)),.v (.sc (.int .i64 l)),.v kv,.own true 138 (ws.length+1) 1 (List.map (fun b=>V.ptr b 0) ws ++ [.ptr b 0]),.v (.ptr q 0)])
  have kp2:=kp2 (.cells [.v (.ptr r 0),.v (.sc (.int .i64 p.x)),.v (.sc (.int .i64 p.y)),.v (.sc (.int .i64 l)),.v kv,.own true 138 (ws.length+1) 1 (List.map (fun b=>V.ptr b 0) ws ++ [.ptr b 0]),.v (.ptr q 0)])
  have hr2:=hr2 (.cells [.v (.ptr r 0),.v (.sc (.int .i64 p.x)),.v (.sc (.int .i64 p.y)),.v (.sc (.int .i64 l)),.v kv,.own true 138 (ws.length+1) 1 (List.map (fun b=>V.ptr b 0) ws ++ [.ptr b 0]),.v (.ptr q 0)])
  generalize H1.set k (.cells [.v (.ptr r 0),.v (.sc (.int .i64 p.x)),.v (.sc (.int .i64 p.y)),.v (.sc (.int .i64 l)),.v kv,.own true 138 (ws.length+1) 1 (List.map (fun b=>V.ptr b 0) ws ++ [.ptr b 0]),.v (.ptr q 0)])=H2 at *
  clear f1 f2 f3 hk1 hq1 kp1 hr1
  have hM:=qd0 hk2
  have hk3:=hk2
  unfold reB at hr2
  unfold skB at hk3
  simp only [List.length_append,List.length_cons,List.length_nil,Nat.zero_add] at hk3
  have wl:IntKind.i64.wrap (ws.length:Int)=ws.length:=by rw [wrap_i64] <;> omega
  have hP:=qfG hq2 hh ⟨WT bx p l,0,ws.length⟩
  have hF:=qg6 bx p l
  unfold Re.v Re.cs at hF
  rw [JX] at hP
  refine AW.ofz [(3,14,[0,4])] mixed (by kernel_rfl) ?_
  simp [hk3,hr2]
  refine Zj.look hF rfl rfl hM ?_
  simp [hk3,hr2,wl]
  refine qc.of hP ?_
  rintro y H3 ⟨rfl,k3,hq3⟩
  simp
  exact ⟨kp2.trans (k3.V8.weak fun x hx => .inr hx),k3.cells hkq hk2,hq3⟩
end Go.Proofs.YtnconfggojpkcaaGreat
namespace Go.Proofs.YtnconfggojpkcaaGreat
open Go.RowKit AM
theorem Jk {r:Re} {l:Int} (hr:qd r=true) (hl:vR l=true):(zW r l).1=⟨(jy (cellOf r.lo l)).x0,(jy (cellOf r.lo l)).y0,(jy (cellOf r.hi l)).x1,(jy (cellOf r.hi l)).y1⟩:=by
 have hl':=zy.1 hl
 have hs:=Jl hl'.1 hl'.2
 have e1:jy (cellOf r.lo l)=⟨side l*(r.x0/side l),side l*(r.y0/side l),side l*(r.x0/side l)+side l - 1,side l*(r.y0/side l)+side l - 1⟩:=rfl
 have e2:jy (cellOf r.hi l)=⟨side l*(r.x1/side l),side l*(r.y1/side l),side l*(r.x1/side l)+side l - 1,side l*(r.y1/side l)+side l - 1⟩:=rfl
 rw [e1,e2]
 simp [zW,hl,hr,qaD hs.1]
theorem Ze {r:Re} {l:Int} (hr:qd r=true) (hl:vR l=true):qd (zW r l).1=true:=by
 have hl':=zy.1 hl
 have hs:=Jl hl'.1 hl'.2
 have rr:=qF.1 hr
 have hf:=JH hr
 have b1:=Z0 (Qj (yU hf.1 hl'.1 hl'.2))
 have b2:=Z0 (Qj (yU hf.2 hl'.1 hl'.2))
 have e1:jy (cellOf r.lo l)=⟨side l*(r.x0/side l),side l*(r.y0/side l),side l*(r.x0/side l)+side l - 1,side l*(r.y0/side l)+side l - 1⟩:=rfl
 have e2:jy (cellOf r.hi l)=⟨side l*(r.x1/side l),side l*(r.y1/side l),side l*(r.x1/side l)+side l - 1,side l*(r.y1/side l)+side l - 1⟩:=rfl
 rw [Jk hr hl]
 rw [e1] at b1 ⊢
 rw [e2] at b2 ⊢
 simp only at b1 b2
 have m1:side l*(r.x0/side l)≤side l*(r.x1/side l):=Int.mul_le_mul_of_nonneg_left (Int.ediv_le_ediv hs.1 rr.1.2.1) (by omega)
 have m2:side l*(r.y0/side l)≤side l*(r.y1/side l):=Int.mul_le_mul_of_nonneg_left (Int.ediv_le_ediv hs.1 rr.2.2.1) (by omega)
 refine qF.2 ?_
 simp only
 omega
theorem qkB {r:Re} {k l:Int} (hr:qd r=true) (h0:0≤k) (hk:k≤l) (hl:l≤16):inB (zW r l).1 (zW r k).1=true:=by
 have rk:vR k=true:=zy.2 ⟨h0,by omega⟩
 have rl:vR l=true:=zy.2 ⟨by omega,hl⟩
 have hf:=JH hr
 have a:=qcu hf.1 h0 hk hl
 have b:=qcu hf.2 h0 hk hl
 unfold inB
 rw [Ze hr rl,Ze hr rk,Jk hr rl,Jk hr rk]
 simp only [Bool.and_self,Bool.true_and,decide_eq_true_eq]
 omega
theorem Xa {v:Vw} {id z:Int} {b:Re} {s:Se} (h:QE v id z b=some s):z≠0∧s=⟨id,z,b⟩:=by
 unfold QE at h
 split at h
 ·cases h
 ·rename_i h0
  simp only [not_or] at h0
  cases h
  exact ⟨h0.1,rfl⟩
theorem Yo {l:List Ru} (ha:l.all qI=true) (v:Vw) (x:Sh) (hr:qd x.box=true):0≤zmC l v x∧zmC l v x≤16:=by
 obtain ⟨_,a,b,_,h⟩:=Vz ha (ro:=v.ro) (ti:=v.ti) (la:=x.lab) hr
 unfold zmC
 rw [← h]
 exact QN _ _ _ _ _
def Zp (p:Pt) (l:Int) (s:Sh):Ent:=⟨qmi s p l,1,s.id⟩
inductive It where
 | sh (s:Sh)
 | nd (i:Nat) (d:Nat) (c:Ce) (S:List Sh)
def It.ent (p:Pt) (l:Int):It→Ent
 | .sh s=>Zp p l s
 | .nd i _ c _=>Y5 c p l i
def It.shs (kp:Sh→Bool):It→List Sh
 | .sh s => [s]
 | .nd _ _ _ S=>S.filter kp
def It.wt:It→Nat
 | .sh _=>1
 | .nd _ d _ S=>S.length*(d+1)
def It.ok (H:List Bk) (T:Nat→Prop) (ws:List Nat):It→Prop
 | .sh _=>True
 | .nd i d c S=>S ≠ []∧yj c=true∧(d:Int)+c.l=17∧(∀ s∈S,QH c (hm s)=true∧qd s.box=true)∧∃ b I,ws[i]? = some b∧Nd H d c S b I∧∀ x,I x→T x
def wts (its:List It):Nat:=(its.map It.wt).sum
theorem It.WI {H H':List Bk} {T U:Nat→Prop} {ws L:List Nat} (hk:Kp U H H') (hU:∀ x,T x→¬ U x):∀ {it:It},it.ok H T ws→it.ok H' T (ws++L)
 | .sh _,_=>trivial
 | .nd i d c S,⟨h1,h2,h3,h4,b,I,h5,h6,h7⟩=>⟨h1,h2,h3,h4,b,I,by
   rw [List.getElem?_append_left (List.getElem?_eq_some_iff.1 h5).1]
   exact h5,Nd.keep hk h6 fun x hx=>hU x (h7 x hx),h7⟩
theorem It.qfb {H:List Bk} {T:Nat→Prop} {ws:List Nat}:∀ {it:It},it.ok H T ws→1≤it.wt
 | .sh _,_=>Nat.le_refl _
 | .nd i d c S,⟨h1,_⟩=>by
  have:0<S.length:=List.length_pos_iff.2 h1
  exact Nat.mul_pos this (Nat.succ_pos d)
theorem Wv {H:List Bk} {T:Nat→Prop} {ws:List Nat}:∀ {its:List It},(∀ it∈its,it.ok H T ws)→its.length≤wts its
 | [],_=>Nat.le_refl _
 | it::its,h=>by
  have h1:=It.qfb (h it (List.mem_cons_self ..))
  have h2:=Wv (its:=its) fun x hx=>h x (List.mem_cons_of_mem _ hx)
  simp only [wts,List.map_cons,List.sum_cons,List.length_cons] at h2 ⊢
  omega
theorem qbx (a b:List It):wts (a++b)=wts a+wts b:=by simp [wts]
theorem qdP {a b:List It} (h:a.Perm b):wts a=wts b:=(h.map It.wt).sum_nat
theorem qhL (S:List Sh):wts (S.map It.sh)=S.length:=by
 induction S with
 | nil=>rfl
 | cons s S ih =>
  simp only [wts,List.map_cons,List.sum_cons,List.length_cons] at ih ⊢
  rw [ih]
  simp only [It.wt]
  omega
theorem qh2 (kp:Sh→Bool) (S:List Sh):(S.map It.sh).flatMap (It.shs kp)=S:=by
 induction S with
 | nil=>rfl
 | cons s S ih =>
  rw [List.map_cons,List.flatMap_cons,ih]
  rfl
def subs (c:Ce) (S:List Sh) (j:Nat):List Sh:=(List.range j).flatMap fun i:Nat=>sub' (qD c (i:Nat)) S
theorem JQ {c:Ce} {S:List Sh} {j:Nat}:subs c S (j+1)=subs c S j++sub' (qD c (j:Nat)) S:=by
 unfold subs
 rw [List.range_succ,List.flatMap_append]
 simp
theorem qfJ {c:Ce} {S:List Sh} (h:∀ s∈S,QH c (hm s)=true):∀ {j:Nat},j≤4→(at' c S).length+(subs c S j).length≤S.length:=by
 have h4:=KA h
 have:∀ {j k:Nat},j≤k→(subs c S j).length≤(subs c S k).length:=by
  intro j k hjk
  induction hjk with
  | refl=>exact Nat.le_refl _
  | step _ ih =>
   rw [JQ,List.length_append]
   omega
 intro j hj
 have:=this hj
 unfold subs at this ⊢
 omega
end Go.Proofs.YtnconfggojpkcaaGreat
namespace Go.Proofs.YtnconfggojpkcaaGreat
open Go.RowKit Go.ChangeShapes Go.WideShapes AM
section
variable {H:Type} {enc:TypeId×Value→H} {w:World} {base:Nat} {held:Bool} {r:Reach} {b0:Nat} {v:Value} {d:DataW H} {p:List MemPlace}
theorem Yu {cs:List Value} {x:Pr} (h:x.vals=cs):vM (said w) [] x.cs cs∧∀ u∈cs,u.oneCell'=true:=by
 subst h
 refine ⟨Yr (vs:=x.vals),fun u hu => ?_⟩
 simp only [Pr.vals,List.mem_cons,List.not_mem_nil,or_false] at hu
 rcases hu with rfl | rfl | rfl | rfl <;> rfl
theorem qbC {cs:List Value} {x:Sh} (h:x.vals=cs):vM (said w) [] x.cs cs∧∀ u∈cs,u.oneCell'=true:=by
 subst h
 refine ⟨Yr (vs:=x.vals),fun u hu => ?_⟩
 simp only [Sh.vals,List.mem_cons,List.not_mem_nil,or_false] at hu
 rcases hu with rfl | rfl | rfl | rfl | rfl | rfl <;> rfl
theorem Yj {l:List (DataW H×List MemPlace)} {y:DataW H×List MemPlace} (h:y=(.agg (l.map (·.1)),l.flatMap (·.2))) (hl:l.length=3):4≤Rows.uptoBulk y.1:=by
 subst h
 have:=JA (l.map (·.1))
 rw [List.length_map] at this
 simp only [Rows.uptoBulk]
 omega
theorem Xf (hv:Value.okWide Tryz.prog w r b0 33 v) (h:DataW.Trod enc Tryz.prog w base (fun _=>true) held 33 v d p):∃ xs:List Pr,Rel (said w) [] (lV xs) v∧JB (fun (_:Pr) (e:DataW H)=>4≤Rows.uptoBulk e) xs d :=
 YM (fun (_:Pr) (e:DataW H)=>4≤Rows.uptoBulk e) (encV:=Pr.cs) (sz:=4) Tryz.underlying33 (by kernel_rfl) (by decide) (fun _=>rfl) (fun n cs y hy hl=>by
  obtain ⟨x,hx⟩:=Yx (Zz 6 _ _ _ _ _ qaT hy)
  obtain ⟨xs,m,_,hyd,_,hlen,_⟩:=DataW.trod_struct Tryz.underlying55 hy
  exact ⟨x,(Yu (w:=w) hx).1,(Yu (w:=w) hx).2,Yj hyd hlen⟩) (okWide_slice Tryz.underlying33 hv) h
theorem KP (hv:Value.okWide Tryz.prog w r b0 70 v) (h:DataW.Trod enc Tryz.prog w base (fun _=>true) held 70 v d p):∃ xs:List Sh,Rel (said w) [] (slS xs) v∧JB (fun (_:Sh) (e:DataW H)=>4≤Rows.uptoBulk e) xs d :=
 YM (fun (_:Sh) (e:DataW H)=>4≤Rows.uptoBulk e) (encV:=Sh.cs) (sz:=6) Tryz.underlying70 (by kernel_rfl) (by decide) (fun _=>rfl) (fun n cs y hy hl=>by
  obtain ⟨x,hx⟩:=J7 (Zz 6 _ _ _ _ _ XA hy)
  obtain ⟨xs,m,_,hyd,_,hlen,_⟩:=DataW.trod_struct Tryz.underlying57 hy
  exact ⟨x,(qbC (w:=w) hx).1,(qbC (w:=w) hx).2,Yj hyd hlen⟩) (okWide_slice Tryz.underlying70 hv) h
theorem YX {l:List (DataW H)} (h:∀ e∈l,4≤Rows.uptoBulk e):4*l.length≤Rows.uptoBulkAll l:=by
 induction l with
 | nil=>simp
 | cons x l ih =>
  have h1:=h x (by simp)
  have h2:=ih fun e he=>h e (by simp [he])
  simp only [Rows.uptoBulkAll,List.length_cons]
  omega
theorem Vg {α:Type} {xs:List α} {d:DataW H} (h:JB (fun (_:α) (e:DataW H)=>4≤Rows.uptoBulk e) xs d):4*xs.length≤Rows.uptoBulk d:=by
 rcases h with rfl | ⟨es,sp,rfl,hl,hx⟩
 ·simp
 ·have:=YX (l:=es) fun e he=>by
   obtain ⟨i,hi⟩:=List.getElem?_of_mem he
   have hil:i<xs.length:=by rw [← hl]; exact (List.getElem?_eq_some_iff.1 hi).1
   exact hx i _ e (List.getElem?_eq_getElem hil) hi
  simp only [Rows.uptoBulk]
  omega
end
section
variable {H:Type}
theorem YG {q:Qv} {d:DataW H} (h:QvD q d):(qg q.l).length≤Rows.uptoBulk d∧q.l.length≤Rows.uptoBulk d:=by
 obtain ⟨parts,e,rfl,hp,hs⟩:=h
 have h1:=JV (List.mem_of_getElem? hp)
 have h2:=V9 hs
 have h3:=YJ hs
 simp only [Rows.uptoBulk]
 omega
end
end Go.Proofs.YtnconfggojpkcaaGreat
namespace Go.Proofs.YtnconfggojpkcaaGreat
open Go.RowKit AM
attribute [local simp] zQ qU jL zT zq zR zS zo jM zu qV Z8 Qm jC Ql yc ZE vZ slF qG Qo zK yx zA shares jh yt ze Qz QI qY ZF qZ qM vX zH yu Qe qL zD zG vU slV jE jG yE zU ZJ jB jF aMM aUn Qp vW jD zC jA qJ vV Qu vY vS Zw y9 qK Qs ZK zJ zI jH jR ZH eval zZ AM.valOf qm vO yR del SV.refers zY vQ jU shift ldV V.exact V.jg V.ofValue V.vP V.vL V.cells V.one Value.oneCell' ZI QY jV Q5 ZM ZC Qa Zy jl jI Qi ZL y8 yX Qr calm Qt Zn Qk feeds shrinks Qx looks isT Qf vK Qd putAt jT jc Zm sliceB isEq Qg zk qH zO zn qR zl zm qQ zP zi qP ZW Qw yB Zl QZ inO y7 Zi Mix.vT Mix.Qc QB QX qz qj qW zh qO ZV Qq yg yh ZG Zb yw yO Q8 jW V.fixed V.vC
attribute [local simp] vE je yL vH jQ vF vG jP yM vk jN V5 Ja yF QT Jb z0 JL VK Vo VU
theorem YR {a b:List Pr} (h:a.Perm b) (hn:(b.map Pr.id).Nodup) (s:Pr):(YA a s).Perm (YA b s):=by
 unfold YA
 rw [qas hn h]
 split
 ·exact h.cons s
 ·exact h
theorem Ya (R:List Pr):(Zr R).Perm (jK R):=by
 have go:∀ n,n≤R.length→(Zr (R.take n)).Perm (jK (R.take n)):=by
  intro n
  induction n with
  | zero=>intro _; simp [Zr,jK]
  | succ n ih =>
   intro hn
   have ih:=ih (by omega)
   have hi:=(Z7 (R.take n)).1
   have e:Zr (R.take (n+1))=YA (Zr (R.take n)) (R[n]'(by omega)):=by
    unfold Zr
    rw [List.take_succ_eq_append_getElem (by omega),List.foldl_append]
    rfl
   rw [e,Jg (by omega)]
   exact (YR ih hi.nodup _).trans (Jw hi).symm
 have:=go R.length (Nat.le_refl _)
 rwa [List.take_length] at this
section
variable {H H':List Bk} {l l':List Ru} {S:List Pr} {C:List Sh} {r c t m r' c' t' m':Nat} {Tp Tc Tp' Tc':Nat→Prop}
theorem Z9.recs {R:List Pr} (h:Z9 H l (Zr R) C r c t m Tp Tc):Z9 H l (jK R) C r c t m Tp Tc:=⟨h.tb,h.tp.perm (Ya R),h.tc,h.pm,h.cm⟩
end
theorem qaG (l:List Ru) (v:Vw) (rc:Re) (S:List Pr):qdM l v rc S=(Je l v S).filter fun s=>qE s.box rc:=rfl
theorem qbi {l:List Ru}:∀ r∈l,r.boxes.length≤(qg l).length:=by
 induction l with
 | nil=>intro r hr; cases hr
 | cons x l ih =>
  intro r hr
  have e:qg (x::l)=x.boxes++qg l:=by simp [qg]
  rw [e,List.length_append]
  rcases List.mem_cons.1 hr with rfl | hr
  ·omega
  ·have:=ih r hr
   omega
theorem VG (xs:List Pr):V.closed (lV xs)=true:=by simp [lV,V.closed,zV (enc:=Pr.cs) (fun _=>rfl)]
def Vj (e:Int) (R:List Se):List Se:=if e=0 then R else []
theorem KI (e:Int) (R:List Se):(Vj e R).length≤R.length:=by
 unfold Vj
 split <;> simp
theorem Y3 (e:Int) (R:List Se):Wu e R = .tup [QA (Vj e R),.sc (.int .i64 e)]:=rfl
theorem X3 (D:List Se) (p:Pt) (m:Nat):(Ju D p m).length≤D.length:=by
 unfold Ju
 refine Nat.le_trans (List.length_filterMap_le _ _) ?_
 rw [List.length_take,(ZY _).length_eq,List.length_map]
 omega
theorem TrS.right {H:List Bk} {r:Nat} {S:List Sh} {T:Nat→Prop} (h:TrS H r S T):∀ s∈S,qd s.box=true:=by
 obtain ⟨b,m,I,es,h,_⟩:=h
 exact h.right
theorem TrS.ids {H:List Bk} {r:Nat} {S:List Sh} {T:Nat→Prop} (h:TrS H r S T):(S.map Sh.id).Nodup:=by
 obtain ⟨b,m,I,es,h,_⟩:=h
 exact h.ids
theorem KX {h:Re→Bool} {rc:Re} {S:List Sh} {x:Sh} (hx:x∈QG h rc S):x∈S:=by
 unfold QG at hx
 split at hx
 ·exact (List.mem_filter.1 ((JN _).mem_iff.1 hx)).1
 ·cases hx
structure WJC (l:List Ru) (v:Vw) (S:List Sh) (Tt:Nat→Prop) (t m r c f q mf:Nat) (X:List (Int×Se)) (H:List Bk):Prop where
 tab:∃ es,Tab H t m l es∧VO l es
 tr:TrS H c S Tt
 fd:Fnd H f q mf X
section
variable {l:List Ru} {v:Vw} {S:List Sh} {Tt:Nat→Prop} {t m r c f q mf:Nat} {X:List (Int×Se)} {H H':List Bk}
theorem WJC.kept (hd:WD Tt m q mf) (h:WJC l v S Tt t m r c f q mf X H) (k:Kept l t m H H'):WJC l v S Tt t m r c f q mf X H':=by
 obtain ⟨⟨es,h1,h2⟩,h3,h4⟩:=h
 obtain ⟨hs,hq,_⟩:=h4.q
 obtain ⟨es',hq1,_⟩:=hq
 have k2:Kp (fun x=>x=m) H H':=fun i b hi hb hn=>k.2 i b hi hb hn
 exact ⟨k.1,h3.keep k2 hd.tm,h4.keep k2 (qh h4.f h1.m) (qh hq1 h1.m) hd.mm.symm⟩
theorem WJC.app {L:List Bk} (h:WJC l v S Tt t m r c f q mf X H):WJC l v S Tt t m r c f q mf X (H++L):=by
 obtain ⟨⟨es,h1,h2⟩,h3,h4⟩:=h
 exact ⟨⟨es,h1.stays .app,h2⟩,h3.app,h4.app⟩
theorem WJC.Vb (h:WJC l v S Tt t m r c f q mf X H) (k:Kp NoB H H'):WJC l v S Tt t m r c f q mf X H':=by
 obtain ⟨⟨es,h1,h2⟩,h3,h4⟩:=h
 exact ⟨⟨es,⟨k.cells id h1.t,k.map id h1.m⟩,h2⟩,h3.Vb k,h4.keep k id id id⟩
theorem WJC.put {Y:List (Int×Se)} (hd:WD Tt m q mf) (h:WJC l v S Tt t m r c f q mf X H) (k:Kp (fun x=>x=q∨x=mf) H H') (hY:Fnd H' f q mf Y):WJC l v S Tt t m r c f q mf Y H':=by
 obtain ⟨⟨es,h1,h2⟩,h3,h4⟩:=h
 obtain ⟨hs,hq,_⟩:=h4.q
 have n1:t≠q:=by
  rintro rfl
  obtain ⟨es',hq,_⟩:=hq
  have:=h1.t.symm.trans hq
  cases this
 obtain ⟨es',hq1,_⟩:=hq
 exact ⟨⟨es,⟨k.cells (fun e=>e.elim n1 (fun e=>qh h1.t h4.m e)) h1.t,k.map (fun e=>e.elim (fun e=>qh hq1 h1.m e.symm) hd.mm) h1.m⟩,h2⟩,h3.keep k fun x hx e=>e.elim (hd.tq x hx) (hd.tf x hx),hY⟩
end
def WcC (l:List Ru) (v:Vw) (S:List Sh) (Tt:Nat→Prop) (t m r c f q mf c2 c3 c4 c5:Nat) (rc:Re) (X:List (Int×Se)) (z:Int) (L:List Sh) (H0:List Bk) (k:Nat) (F:Fr) (H:List Bk):Prop :=
 WJC l v S Tt t m r c f q mf (X++QS (vJ (zmC l v) v) (zmC l v) z (L.take k)) H∧H[c2]? = some (reB rc)∧H[c3]? = some (wdB r c t)∧H[c4]? = some (vwB v)∧H[c5]? = some (.cells [.v (.ptr f 0)])∧Kp (fun x=>x=q∨x=mf∨x=m) H0 H ∧
  F = [(0,.v (.sc (.int .i64 z))),(2,.v (.ptr c2 0)),(3,.v (.ptr c3 0)),(4,.v (.ptr c4 0)),(5,.v (.ptr c5 0)),(23,.v (slS L)),(24,.v (.sc (.int .i64 L.length))),(25,.v (.sc (.int .i64 k)))]
theorem qni {l:List Ru} (hl:Yk l) (v:Vw) {S:List Sh} {Tt:Nat→Prop} {t m r c f q mf c2 c3 c4 c5:Nat} {rc:Re} {X:List (Int×Se)} {H:List Bk} (hd:WD Tt m q mf) (h:WJC l v S Tt t m r c f q mf X H)
  (h2:H[c2]? = some (reB rc)) (h3:H[c3]? = some (wdB r c t)) (h4:H[c4]? = some (vwB v)) (h5:H[c5]? = some (.cells [.v (.ptr f 0)])) (z lv:Int)
  (hnd:((X++QS (vJ (zmC l v) v) (zmC l v) z (QG (fun b=>qE b (zW rc lv).1) (zW rc lv).1 S)).map fun x=>x.2.id).Nodup) (hlen:X.length+(QG (fun b=>qE b (zW rc lv).1) (zW rc lv).1 S).length≤100000) :
  AFn Tryz.prog 76 [.sc (.int .i64 z),.sc (.int .i64 lv),.ptr c2 0,.ptr c3 0,.ptr c4 0,.ptr c5 0] H fun y H'=>y = .tup []∧WJC l v S Tt t m r c f q mf (X++QS (vJ (zmC l v) v) (zmC l v) z (QG (fun b=>qE b (zW rc lv).1) (zW rc lv).1 S)) H'∧Kp (fun x=>x=q∨x=mf∨x=m) H H':=by
 have hS:=qdE rc lv
 have h2':=h2
 unfold reB at h2'
 unfold Re.v Re.cs at hS
 generalize zW rc lv=wd at *
 obtain ⟨w,wok⟩:=wd
 simp only at hS hnd hlen ⊢
 refine vwc (fn:=Tryz.f76) rfl ?_
 simp only [Tryz.f76,ql]
 refine AW.seq (vwb ?_)
 simp [h2']
 refine qc.pure hS rfl rfl ?_
 simp
 rw [qp rfl]
 have hpr:Bk.cells ([V.sc (.int .i64 w.x0),V.sc (.int .i64 w.y0),V.sc (.int .i64 w.x1),V.sc (.int .i64 w.y1)].map SV.v)=reB w:=rfl
 rw [hpr]
 have e2:=hget (L := [reB w]) h2
 have e3:=hget (L := [reB w]) h3
 have e4:=hget (L := [reB w]) h4
 have e5:=hget (L := [reB w]) h5
 have e6:(H ++ [reB w])[H.length]? = some (reB w):=by simp
 have hJ:=h.app (L := [reB w])
 have kp:Kp (fun x=>x=q∨x=mf∨x=m) H (H ++ [reB w]):=Kp.refl.app
 generalize H ++ [reB w]=H1 at *
 generalize H.length=i0 at *
 have hW:=qm0 hJ.tr w
 have hRt:∀ s∈QG (fun b=>qE b w) w S,qd s.box=true:=fun s hs=>hJ.tr.right s (KX hs)
 unfold Re.v Re.cs at hW
 generalize QG (fun b=>qE b w) w S=L at *
 have e3':=e3
 unfold wdB at e3'
 unfold reB at e6
 refine AW.seq (vwb ?_)
 simp [e3',e6]
 refine qc.of hW ?_
 rintro y H2 ⟨rfl,k2⟩
 have f2:=k2.cells id e2
 have f3:=k2.cells id e3
 have f4:=k2.cells id e4
 have f5:=k2.cells id e5
 have hJ2:=hJ.Vb k2
 have kp2:=kp.trans (k2.weak (J:=fun x=>x=q∨x=mf∨x=m) fun x hx=>hx.elim)
 unfold slS
 simp
 refine AW.block (AW.count L.length (WcC l v S Tt t m r c f q mf c2 c3 c4 c5 rc X z L H) ⟨_,?_,by simpa [QS] using hJ2,f2,f3,f4,f5,kp2,rfl⟩ ?_)
 ·simp [qz,qj,qm,slS]
 clear hJ hJ2 e2 e3 e3' e4 e5 e6 f2 f3 f4 f5 kp kp2 k2 hW hS h2 h3 h4 h5 h2' hpr
 rintro k F H3 hk ⟨hJ3,g2,g3,g4,g5,kp3,rfl⟩
 unfold slS
 refine AW.seq (vwb ?_)
 by_cases hlt:k<L.length
 ·have ew:IntKind.i64.wrap ((k:Int)+1)=k+1:=wrap_i64 (by omega) (by omega)
  have htk:L.take (k+1)=L.take k ++ [L[k]]:=List.take_succ_eq_append_getElem hlt
  simp [hlt]
  refine vwb ?_
  simp [Xo hlt,hlt]
  rw [qp rfl]
  have hpr:Bk.cells ([V.sc (.int .i64 L[k].id),V.sc (.int .i64 L[k].box.x0),V.sc (.int .i64 L[k].box.y0),V.sc (.int .i64 L[k].box.x1),V.sc (.int .i64 L[k].box.y1),V.sc (.int .i64 L[k].lab)].map SV.v)=jJ L[k]:=rfl
  rw [hpr]
  have e2:=hget (L := [jJ L[k]]) g2
  have e3:=hget (L := [jJ L[k]]) g3
  have e4:=hget (L := [jJ L[k]]) g4
  have e5:=hget (L := [jJ L[k]]) g5
  have e6:(H3 ++ [jJ L[k]])[H3.length]? = some (jJ L[k]):=by simp
  have hJ:=hJ3.app (L := [jJ L[k]])
  have kp:=kp3.app (L := [jJ L[k]])
  clear hJ3 g2 g3 g4 g5 kp3
  generalize H3 ++ [jJ L[k]]=H1 at *
  generalize H3.length=i0 at *
  have e3':=e3
  have e4':=e4
  have e6':=e6
  unfold wdB at e3'
  unfold vwB at e4'
  unfold jJ at e6'
  simp [e3',e4',e6']
  obtain ⟨es,t1,m1⟩:=hJ.tab
  have hz1:=gOf l v.ro v.ti L[k].lab L[k].box hl.len hl.n t m es H1 t1 m1
  rw [Ko hl.all (hRt _ (List.getElem_mem hlt))] at hz1
  have hzz:Vi l v.ro v.ti L[k].lab L[k].box=zmC l v L[k]:=rfl
  rw [hzz] at hz1
  unfold Re.v Re.cs at hz1
  refine qc.of hz1 ?_
  rintro y H4 ⟨rfl,kK⟩
  have kK:=kK.w
  have f2:=kK.2.cells (qh e2 t1.m) e2
  have f3:=kK.2.cells (qh e3 t1.m) e3
  have f4:=kK.2.cells (qh e4 t1.m) e4
  have f5:=kK.2.cells (qh e5 t1.m) e5
  have f6:=kK.2.cells (qh e6 t1.m) e6
  have hJ4:=hJ.kept hd kK
  have kp4:Kp (fun x=>x=q∨x=mf∨x=m) H H4:=kp.trans (fun i b hi hb hn=>kK.2 i b (fun e=>hi (.inr (.inr e))) hb hn)
  clear hJ e2 e3 e4 e5 e6 kp e3' e4' e6' kK hz1 t1 m1
  have hsn:=qdT (vJ (zmC l v) v) (zmC l v) z (L.take k) L[k]
  rw [← htk] at hsn
  by_cases hz:zmC l v L[k]=z
  rotate_left
  ·have hz':(zmC l v L[k] != z)=true:=by simpa using hz
   have hz2:(zmC l v L[k]==z)=false:=by simpa using hz
   rw [if_neg hz,List.append_nil] at hsn
   simp [hz,hz',hz2,ew]
   refine ⟨_,?_,by rw [hsn]; exact hJ4,f2,f3,f4,f5,kp4,rfl⟩
   simp [qz,qj,qm,slS]
  have hz':(zmC l v L[k] != z)=false:=by simpa using hz
  have hz2:(zmC l v L[k]==z)=true:=by simpa using hz
  rw [if_pos hz] at hsn
  have f3':=f3
  have f4':=f4
  have f6':=f6
  unfold wdB at f3'
  unfold vwB at f4'
  unfold jJ at f6'
  simp [hz,hz',hz2,ew,f3',f4',f6']
  obtain ⟨es,t1,m1⟩:=hJ4.tab
  have hSe:=X9 hl v L[k] r c es H4 t1 m1
  have hlast:∀ s,vJ (zmC l v) v L[k]=some s→∀ x∈X++QS (vJ (zmC l v) v) (zmC l v) z (L.take k),x.2.id≠s.id:=fun s hs=>by
   rw [hs] at hsn
   simp only at hsn
   refine KT (x:=(0,s)) ?_
   rw [List.append_assoc,← hsn]
   have e:QS (vJ (zmC l v) v) (zmC l v) z L=QS (vJ (zmC l v) v) (zmC l v) z (L.take (k+1))++QS (vJ (zmC l v) v) (zmC l v) z (L.drop (k+1)):=by rw [← qfe,List.take_append_drop]
   rw [e,← List.append_assoc,List.map_append] at hnd
   exact (List.nodup_append.1 hnd).1
  have hlen1:(X++QS (vJ (zmC l v) v) (zmC l v) z (L.take k)).length≤100000:=by
   have:=qai (vJ (zmC l v) v) (zmC l v) z (L.take k)
   rw [List.length_take] at this
   rw [List.length_append]
   omega
  generalize vJ (zmC l v) v L[k]=o at *
  unfold wdC Vw.cs Sh.v Sh.cs at hSe
  rw [Jf] at hSe
  refine qc.of hSe ?_
  rintro y H5 ⟨rfl,kK⟩
  have kK:=kK.w
  have e2:=kK.2.cells (qh f2 t1.m) f2
  have e3:=kK.2.cells (qh f3 t1.m) f3
  have e4:=kK.2.cells (qh f4 t1.m) f4
  have e5:=kK.2.cells (qh f5 t1.m) f5
  have hJ5:=hJ4.kept hd kK
  have kp5:Kp (fun x=>x=q∨x=mf∨x=m) H H5:=kp4.trans (fun i b hi hb hn=>kK.2 i b (fun e=>hi (.inr (.inr e))) hb hn)
  clear f2 f3 f4 f5 f6 f3' f4' f6' hJ4 kp4 kK hSe
  simp
  rw [qp rfl]
  have hpx:Bk.cells ([V.sc (.int .i64 (o.getD qw).id),V.sc (.int .i64 (o.getD qw).lv),V.sc (.int .i64 (o.getD qw).box.x0),V.sc (.int .i64 (o.getD qw).box.y0),V.sc (.int .i64 (o.getD qw).box.x1),V.sc (.int .i64 (o.getD qw).box.y1)].map SV.v)=seB (o.getD qw):=rfl
  rw [hpx]
  have f2:=hget (L := [seB (o.getD qw)]) e2
  have f3:=hget (L := [seB (o.getD qw)]) e3
  have f4:=hget (L := [seB (o.getD qw)]) e4
  have f5:=hget (L := [seB (o.getD qw)]) e5
  have f6:(H5 ++ [seB (o.getD qw)])[H5.length]? = some (seB (o.getD qw)):=by simp
  have hJ6:=hJ5.app (L := [seB (o.getD qw)])
  have kp6:=kp5.app (L := [seB (o.getD qw)])
  clear e2 e3 e4 e5 hJ5 kp5
  generalize H5 ++ [seB (o.getD qw)]=H6 at *
  generalize H5.length=i1 at *
  cases o with
  | none =>
   simp [ew]
   simp only [List.append_nil] at hsn
   refine ⟨_,?_,by rw [hsn]; exact hJ6,f2,f3,f4,f5,kp6,rfl⟩
   simp [qz,qj,qm,slS]
  | some s =>
   have f6':=f6
   unfold seB at f6'
   simp [ew,f5,f6']
   have hP:=qiJ hJ6.fd 0 s (hlast s rfl) hlen1
   unfold Se.cs at hP
   refine qc.of hP ?_
   rintro y H7 ⟨rfl,hY,k7⟩
   have hJ7:=hJ6.put hd k7 hY
   have n2:∀ {i:Nat} {a:V} {cs:List SV},H6[i]? = some (.cells (.v a::cs))→¬ (i=q∨i=mf):=fun hi e=>by
    obtain ⟨hs,hq,_⟩:=hJ6.fd.q
    exact e.elim (Ky hi hq) (qh hi hJ6.fd.m)
   simp only at hsn
   simp [ew]
   refine ⟨_,?_,by rw [hsn,← List.append_assoc]; exact hJ7,k7.cells (n2 f2) f2,k7.cells (n2 f3) f3,k7.cells (n2 f4) f4,k7.cells (n2 f5) f5,kp6.trans (k7.weak fun x hx=>hx.elim .inl fun e => .inr (.inl e)),rfl⟩
   simp [qz,qj,qm,slS]
 ·simp [hlt]
  have hkT:k=L.length:=by omega
  refine AW.seq (vwb ?_)
  simp
  rw [hkT,List.take_length] at hJ3
  exact ⟨hJ3,kp3⟩
def qm2 (Z:Sh→Int) (v:Vw) (rc:Re) (S:List Sh) (z:Int):List Sh:=(QG (fun b=>qE b (zW rc (lvl v z)).1) (zW rc (lvl v z)).1 S).filter fun x=>decide (Z x=z)
def VR (l:List Ru) (v:Vw) (rc:Re) (S:List Sh) (D:List Int):List (Int×Se):=J9 (vJ (zmC l v) v) (fun _=>0) (qm2 (zmC l v) v rc S) D
theorem qbM (l:List Ru) (v:Vw) (rc:Re) (S:List Sh) (D:List Int) (z:Int):VR l v rc S (D ++ [z])=VR l v rc S D++QS (vJ (zmC l v) v) (zmC l v) z (QG (fun b=>qE b (zW rc (lvl v z)).1) (zW rc (lvl v z)).1 S):=by
 simp [VR,J9,QS,qm2]
theorem WR {h:Re→Bool} {rc:Re} {S:List Sh} (hS:(S.map Sh.id).Nodup):((QG h rc S).map Sh.id).Nodup:=by
 unfold QG
 split
 ·exact (((JN _).map Sh.id).nodup_iff).2 (hS.sublist (List.filter_sublist.map _))
 ·simp
theorem qb0 (h:Re→Bool) (rc:Re) (S:List Sh):(QG h rc S).length≤S.length:=by
 unfold QG
 split
 ·rw [(JN _).length_eq]; exact List.length_filter_le _ _
 ·simp
theorem VX {Z:Sh→Int} {v:Vw} {t:Sh} {s:Se} (h:vJ Z v t=some s):s.id=t.id:=by
 unfold vJ QE at h
 split at h
 ·split at h
  ·cases h
  ·cases h; rfl
 ·cases h
theorem qaS {l:List Ru} {v:Vw} {rc:Re} {S:List Sh} {D:List Int} (hS:(S.map Sh.id).Nodup) (hD:D.Nodup):((VR l v rc S D).map fun x=>x.2.id).Nodup :=
 Yv hS (fun t s h=>VX h) (fun z _=>⟨(WR hS).sublist (List.filter_sublist.map _),fun t ht=>by
  obtain ⟨h1,h2⟩:=List.mem_filter.1 ht
  exact ⟨KX h1,by simpa using h2⟩⟩) hD
theorem qap (l:List Ru) (v:Vw) (rc:Re) (S:List Sh):∀ D:List Int,(VR l v rc S D).length≤D.length*S.length
 | []=>by simp [VR,J9]
 | z::D=>by
  have h1:=qap l v rc S D
  have h2:=qai (vJ (zmC l v) v) (zmC l v) z (QG (fun b=>qE b (zW rc (lvl v z)).1) (zW rc (lvl v z)).1 S)
  have h3:=qb0 (fun b=>qE b (zW rc (lvl v z)).1) (zW rc (lvl v z)).1 S
  have e:VR l v rc S (z::D)=QS (vJ (zmC l v) v) (zmC l v) z (QG (fun b=>qE b (zW rc (lvl v z)).1) (zW rc (lvl v z)).1 S)++VR l v rc S D:=by simp [VR,J9,QS,qm2]
  rw [e,List.length_append,List.length_cons,Nat.add_mul]
  omega
theorem qil {l:List Ru} (hl:Yk l) (v:Vw) {S:List Sh} {Tt:Nat→Prop} {t m r c:Nat} {es:List (Value×V)} {H:List Bk} (hT:Tab H t m l es) (hM:VO l es) (ht:TrS H c S Tt) (htm:∀ x,Tt x→x≠m) (hS:S.length≤50) (hz:(jZ l v).length≤1000) (rc:Re) (mm:Int) :
  AFn Tryz.prog 27 [wdC r c t,.agg v.cs,rc.v,.sc (.int .i64 mm)] H fun y H'=>Kept l t m H H'∧(yN v mm (qd rc)≠0→y = .tup [.nil,.sc (.int .i64 1)]) ∧
   (yN v mm (qd rc)=0→∃ R,y = .tup [QA R,.sc (.int .i64 0)]∧∀ Y:List (Int×Se),Y.Perm (VR l v rc S (lvls v (jZ l v)))→Y.Pairwise (fun a b=>(Yd b).lt (Yd a)=false)→R=(Y.take mm.toNat).map (·.2)):=by
 have hA:=fun H=>qim v mm (qd rc) r c t H
 have hR:=Jc rc
 have hml:=(List.getElem?_eq_some_iff.1 hT.m).1
 have htl:=(List.getElem?_eq_some_iff.1 hT.t).1
 have hrl:=ht.lt
 unfold wdC Vw.cs at hA ⊢
 unfold Re.v Re.cs at hR ⊢
 refine vwc (fn:=Tryz.f27) rfl ?_
 simp only [Tryz.f27,ql]
 refine AW.seq (vwa [(1,5,[4,5,3,6])] ?_)
 simp
 have k1:Kp NoB H (H ++ [wdB r c t,vwB v,reB rc]):=Kp.refl.app
 have e0:(H ++ [wdB r c t,vwB v,reB rc])[H.length]? = some (wdB r c t):=by simp
 have e1:(H ++ [wdB r c t,vwB v,reB rc])[H.length+1]? = some (vwB v):=by simp
 have e2:(H ++ [wdB r c t,vwB v,reB rc])[H.length+2]? = some (reB rc):=by simp
 change AW _ _ _ _ ⟨_,H ++ [wdB r c t,vwB v,reB rc]⟩
 generalize H ++ [wdB r c t,vwB v,reB rc]=H1 at *
 have n0:H.length≤H.length:=Nat.le_refl _
 have n1:H.length≤H.length+1:=by omega
 have n2:H.length≤H.length+2:=by omega
 generalize H.length+1=i1 at *
 generalize H.length+2=i2 at *
 have e0':=e0
 have e1':=e1
 have e2':=e2
 unfold wdB at e0'
 unfold vwB at e1'
 unfold reB at e2'
 refine AW.seq (AW.seq (vwa [(1,5,[4,5,3,6])] ?_))
 simp [e0',e1',e2']
 refine qc.pure hR rfl rfl ?_
 simp [e0',e1',e2']
 refine qc.of (hA H1) ?_
 rintro y H2 ⟨rfl,k2⟩
 have kp2:=k2.YF (fun x h=>h)
 have f0:=k2.cells id e0
 have f1:=k2.cells id e1
 have f2:=k2.cells id e2
 have f0':=f0
 have f1':=f1
 have f2':=f2
 unfold wdB at f0'
 unfold vwB at f1'
 unfold reB at f2'
 have k3:=k1.trans k2
 have hKT:Kept l t m H H2:=⟨⟨es,⟨k3.cells id hT.t,k3.map id hT.m⟩,hM⟩,fun i b _ hb hn=>k3 i b id hb hn⟩
 simp [e0',e1',e2',f0',f1',f2',kp2]
 refine vwa [(1,5,[4,5,3,6])] ?_
 by_cases ha:yN v mm (qd rc)=0
 rotate_left
 ·have ha1:yN v mm (qd rc)=1:=by unfold yN at ha ⊢; split at ha <;> first | exact absurd rfl ha | simp_all
  have ha':(yN v mm (qd rc) != 0)=true:=by simpa using ha
  simp [ha,ha',ha1]
  exact hKT
 have ha':(yN v mm (qd rc) != 0)=false:=by simpa using ha
 simp [ha,ha']
 refine AW.seq (vwa [(1,5,[4,5,3,6])] ?_)
 simp
 refine qc.of (qdy H2) ?_
 rintro y H3 ⟨f,q,mf,rfl,hF,l1,l2,l3,k4⟩
 simp
 rw [qp rfl]
 have g0:=hget (L := [Bk.cells ([V.ptr f 0].map SV.v)]) (k4.cells id f0)
 have g1:=hget (L := [Bk.cells ([V.ptr f 0].map SV.v)]) (k4.cells id f1)
 have g2:=hget (L := [Bk.cells ([V.ptr f 0].map SV.v)]) (k4.cells id f2)
 have g3:(H3 ++ [Bk.cells ([V.ptr f 0].map SV.v)])[H3.length]? = some (.cells [.v (.ptr f 0)]):=by simp
 have hF4:=hF.app (L := [Bk.cells ([V.ptr f 0].map SV.v)])
 have k5:Kp NoB H (H3 ++ [Bk.cells ([V.ptr f 0].map SV.v)]):=(k3.trans k4).app
 have hlen2:H.length<H2.length:=(List.getElem?_eq_some_iff.1 f0).1
 generalize H3 ++ [_]=H4 at *
 generalize H3.length=i3 at *
 clear e0 e1 e2 e0' e1' e2' f0 f1 f2 f0' f1' f2' kp2 k2 k4 k3 hF k1 hKT
 have hTb4:Tab H4 t m l es:=⟨k5.cells id hT.t,k5.map id hT.m⟩
 have ht4:=ht.Vb k5
 have hd:WD Tt m q mf:=⟨htm,fun x hx=>by have:=hrl x hx; omega,fun x hx=>by have:=hrl x hx; omega,by omega⟩
 have hJ4:WJC l v S Tt t m r c f q mf (VR l v rc S []) H4:=⟨⟨es,hTb4,hM⟩,ht4,hF4⟩
 have hTe:qmK l v t m 76 [.ptr i2 0,.ptr H.length 0,.ptr i1 0,.ptr i3 0] (jZ l v) (fun D Hx=>WJC l v S Tt t m r c f q mf (VR l v rc S D) Hx∧Hx[i2]? = some (reB rc)∧Hx[H.length]? = some (wdB r c t)∧Hx[i1]? = some (vwB v)∧Hx[i3]? = some (.cells [.v (.ptr f 0)])) (fun x=>x=q∨x=mf∨x=m):=by
  refine ⟨fun D Hx hx=>hx.1.tab,fun D Hx Hy ⟨h,a1,a2,a3,a4⟩ k => ?_,rfl,fun k hk Hx h0 ⟨h,a1,a2,a3,a4⟩ => ?_⟩
  ·obtain ⟨es',t1,_⟩:=h.tab
   exact ⟨h.kept hd k,k.2.cells (qh a1 t1.m) a1,k.2.cells (qh a2 t1.m) a2,k.2.cells (qh a3 t1.m) a3,k.2.cells (qh a4 t1.m) a4⟩
  ·have hlk:lvls v ((jZ l v).take (k+1))=lvls v ((jZ l v).take k) ++ [(jZ l v)[k]]:=by rw [List.take_succ_eq_append_getElem hk,K9,if_neg h0]
   have hnd:=qaS (l:=l) (v:=v) (rc:=rc) ht.ids (VN (Zd l v) (k+1) (v:=v))
   rw [hlk,qbM] at hnd
   have hln:(VR l v rc S (lvls v ((jZ l v).take k))).length+(QG (fun b=>qE b (zW rc (lvl v (jZ l v)[k])).1) (zW rc (lvl v (jZ l v)[k])).1 S).length≤100000:=by
    have b1:=qap l v rc S (lvls v ((jZ l v).take k))
    have b2:=qb0 (fun b=>qE b (zW rc (lvl v (jZ l v)[k])).1) (zW rc (lvl v (jZ l v)[k])).1 S
    have b3:=Yz v ((jZ l v).take k)
    rw [List.length_take] at b3
    have b4:(lvls v ((jZ l v).take k)).length*S.length≤1000*50:=Nat.mul_le_mul (by omega) hS
    omega
   refine AFn.conv (qni hl v hd h a1 a2 a3 a4 _ _ hnd hln) ?_
   rintro y Hy ⟨rfl,h',k'⟩
   obtain ⟨hs,hq,_⟩:=h.fd.q
   obtain ⟨es',t1,_⟩:=h.tab
   have nn:∀ {i:Nat} {a:V} {cs:List SV},Hx[i]? = some (.cells (.v a::cs))→¬ (i=q∨i=mf∨i=m):=fun hi e=>by
    rcases e with e | e | e
    ·exact Ky hi hq e
    ·exact qh hi h.fd.m e
    ·exact qh hi t1.m e
   refine ⟨_,⟨rfl,⟨by rw [qbM]; exact h',k'.cells (nn a1) a1,k'.cells (nn a2) a2,k'.cells (nn a3) a3,k'.cells (nn a4) a4⟩,k'⟩,fun _ _ _ h=>h⟩
 have hll:∀ x,x=q∨x=mf∨x=m→x<H4.length:=fun x hx=>by
  obtain ⟨hs,⟨_,hq,_⟩,_⟩:=hF4.q
  rcases hx with rfl | rfl | rfl
  ·exact (List.getElem?_eq_some_iff.1 hq).1
  ·exact (List.getElem?_eq_some_iff.1 hF4.m).1
  ·exact (List.getElem?_eq_some_iff.1 hTb4.m).1
 have hLv:=qbO hl v r c (jZ l v) rfl (by omega) hTe hll (.inr (.inr rfl)) ⟨hJ4,g2,g0,g1,g3⟩
 unfold wdC Vw.cs at hLv
 have g0':=g0
 have g1':=g1
 unfold wdB at g0'
 unfold vwB at g1'
 refine AW.seq (vwa [(1,5,[4,5,3,6])] ?_)
 simp [g0',g1']
 refine qc.of hLv ?_
 rintro y H5 ⟨rfl,⟨hJ5,a1,a2,a3,a4⟩,k6⟩
 obtain ⟨hs,hq,hp⟩:=hJ5.fd.q
 have hnd:=qaS (l:=l) (v:=v) (rc:=rc) ht.ids ((Zd l v).sublist (List.filter_sublist (p:=fun z => !decide (lvl v z=0))))
 have hln:(VR l v rc S (lvls v (jZ l v))).length≤100000:=by
  have b1:=qap l v rc S (lvls v (jZ l v))
  have b3:=Yz v (jZ l v)
  have b4:(lvls v (jZ l v)).length*S.length≤1000*50:=Nat.mul_le_mul (by omega) hS
  omega
 have hFi:=qdx hJ5.fd.f hJ5.fd.m hq hp hnd hln mm
 simp [a4]
 refine AW.seq (vwa [(1,5,[4,5,3,6])] ?_)
 simp [a4]
 refine qc.of hFi ?_
 rintro y H6 ⟨rfl,k7⟩
 unfold QA
 simp
 have hsr:Srt hs:=by
  obtain ⟨_,_,_,_,h⟩:=hq
  exact h
 have hqt:∀ {i:Nat} {a:V} {cs:List SV},H5[i]? = some (.cells (.v a::cs))→¬ i=q:=fun hi e=>Ky hi hq e
 have hqm:∀ {i:Nat} {es:List (Value×V)},H5[i]? = some (.map es)→¬ i=q:=fun hi e=>by
  obtain ⟨_,hq1,_⟩:=hq
  exact qh hq1 hi e.symm
 refine vwa [(1,5,[4,5,3,6])] ?_
 simp
 refine ⟨?_,List.take mm.toNat (List.map (fun e=>Wh (VR l v rc S (lvls v (jZ l v))) e.i) hs),by simp,fun Y hY hp2 => ?_⟩
 ·obtain ⟨es',t1,m1⟩:=hJ5.tab
  refine ⟨⟨es',⟨k7.cells (hqt t1.t) t1.t,k7.V8.map (hqm t1.m) t1.m⟩,m1⟩,fun i b hi hb hn => ?_⟩
  have hib:=(List.getElem?_eq_some_iff.1 hb).1
  refine k7.V8 i b (by omega) (k6 i b (fun e => ?_) (k5 i b id hb hn) hn) hn
  rcases e with e | e | e
  ·omega
  ·omega
  ·exact hi e
 ·have hnd':((VR l v rc S (lvls v (jZ l v))).map fun x=>x.2.id).Nodup:=hnd
  have:=qb3 hnd' hY hsr hp hp2 mm.toNat
  simpa using this
def Vp (l:List Ru) (v:Vw) (S:List Sh):List Se:=S.filterMap (vJ (zmC l v) v)
theorem WU (l:List Ru) (v:Vw) (xs:List Sh):(Vp l v xs).length≤xs.length:=List.length_filterMap_le _ _
theorem KW {a b:List Sh} (h:a.Perm b) (k:Int):(less a k).Perm (less b k):=h.filter _
theorem qaq {a b:List Sh} (h:a.Perm b) (s:Sh):(Kz a s).Perm (Kz b s):=by
 unfold Kz
 split
 ·exact (KW h _).cons s
 ·exact h
theorem qak (R:List Sh):(Xr R).Perm (hav R):=by
 have go:∀ n,n≤R.length→(Xr (R.take n)).Perm (hav (R.take n)):=by
  intro n
  induction n with
  | zero=>intro _; simp [Xr,hav]
  | succ n ih =>
   intro hn
   have ih:=ih (by omega)
   have hi:=(YS (R.take n)).1
   have e:Xr (R.take (n+1))=Kz (Xr (R.take n)) (R[n]'(by omega)):=by
    unfold Xr
    rw [List.take_succ_eq_append_getElem (by omega),List.foldl_append]
    rfl
   rw [e,YT (by omega)]
   exact (qaq ih _).trans (qau hi).symm
 have:=go R.length (Nat.le_refl _)
 rwa [List.take_length] at this
section
variable {H:List Bk} {l:List Ru} {S:List Pr} {C:List Sh} {r c t m:Nat} {Tp Tc:Nat→Prop}
theorem Z9.qm7 {R:List Sh} (h:Z9 H l S (Xr R) r c t m Tp Tc):Z9 H l S (hav R) r c t m Tp Tc:=⟨h.tb,h.tp,h.tc.perm (qak R),h.pm,h.cm⟩
theorem V4 {Z:Sh→Int} {v:Vw} {t:Sh} {s:Se} (h:vJ Z v t=some s):yG v=true∧qd t.box=true∧s=⟨t.id,lvl v (Z t),(zW t.box (lvl v (Z t))).1⟩∧lvl v (Z t)≠0:=by
 unfold vJ at h
 split at h
 ·rename_i hc
  simp only [Bool.and_eq_true] at hc
  obtain ⟨h5,rfl⟩:=Xa h
  exact ⟨hc.1,hc.2,rfl,h5⟩
 ·cases h
theorem qdf {l:List Ru} (ha:l.all qI=true) {v:Vw} {x:Sh} (hr:qd x.box=true) (h:zmC l v x≠0):zmC l v x∈jZ l v:=by
 obtain ⟨_,a,b,_,e⟩:=Vz ha (ro:=v.ro) (ti:=v.ti) (la:=x.lab) hr
 have e2:zmC l v x=zmP l v ⟨0,⟨a,b⟩,x.lab⟩:=e.symm
 rw [e2] at h ⊢
 exact qhI ha h
theorem qch {l:List Ru} (ha:l.all qI=true) {v:Vw} {x:Sh} {s:Se} (h:vJ (zmC l v) v x=some s):zmC l v x∈lvls v (jZ l v):=by
 obtain ⟨h1,h2,_,h5⟩:=V4 h
 have hz:=Yo ha v x h2
 unfold lvls
 exact List.mem_filter.2 ⟨qdf ha h2 (qcR h1 h5 hz.1),by simpa using h5⟩
theorem qdY {a r:Re} {l:Int} (ha:qd a=true) (hr:qd r=true) (hl:vR l=true):qE a (zW r l).1=qE (zW a l).1 r:=by
 have hl':=zy.1 hl
 have hs:=Jl hl'.1 hl'.2
 have h1:=Ze ha hl
 have h2:=Ze hr hl
 have e1:=Jk ha hl
 have e2:=Jk hr hl
 have b:∀ q:Pt,jy (cellOf q l)=⟨side l*(q.x/side l),side l*(q.y/side l),side l*(q.x/side l)+side l - 1,side l*(q.y/side l)+side l - 1⟩:=fun _=>rfl
 simp only [b,Re.lo,Re.hi] at e1 e2
 unfold qE
 rw [ha,hr,h1,h2,e1,e2]
 simp only [Bool.and_self,Bool.true_and]
 have key:∀ x y:Int,x≤side l*(y/side l)+side l - 1↔side l*(x/side l)≤y:=by
  intro x y
  have h0:=hs.1
  have qy:=Int.emod_add_mul_ediv y (side l)
  have ny:=Int.emod_nonneg y (Int.ne_of_gt h0)
  have ly:=Int.emod_lt_of_pos y h0
  have qx:=Int.emod_add_mul_ediv x (side l)
  have nx:=Int.emod_nonneg x (Int.ne_of_gt h0)
  have lx:=Int.emod_lt_of_pos x h0
  have c2:x/side l≤y/side l↔side l*(x/side l)≤y:=by
   rw [Int.le_ediv_iff_mul_le h0,Int.mul_comm]
  have c3:x/side l≤y/side l↔x≤side l*(y/side l)+side l - 1:=by
   constructor
   ·intro h
    have:=Int.mul_le_mul_of_nonneg_left h (show 0≤side l by omega)
    omega
   ·intro h
    have:x/side l<y/side l+1:=by
     rw [Int.ediv_lt_iff_lt_mul h0,Int.add_mul,Int.one_mul,Int.mul_comm]
     omega
    omega
  rw [← c3,c2]
 rw [Bool.eq_iff_iff]
 simp only [decide_eq_true_eq]
 have k1:=key a.x0 r.x1
 have k2:=key r.x0 a.x1
 have k3:=key a.y0 r.y1
 have k4:=key r.y0 a.y1
 constructor
 ·rintro ⟨g1,g2,g3,g4⟩
  have:=k1.1 g1
  have:=k2.2 g2
  have:=k3.1 g3
  have:=k4.2 g4
  omega
 ·rintro ⟨g1,g2,g3,g4⟩
  have:=k1.2 g1
  have:=k2.1 g2
  have:=k3.2 g3
  have:=k4.1 g4
  omega
theorem qhQ (h:Z9 H l S C r c t m Tp Tc) (hl:Yk l) (hC:C.Pairwise fun a b=>a.id<b.id) (hCl:C.length≤50) (v:Vw) (rc:Re) (mm:Int) :
  AFn Tryz.prog 27 [wdC r c t,.agg v.cs,rc.v,.sc (.int .i64 mm)] H fun y H'=>y=Wu (yN v mm (qd rc)) (((Vp l v C).filter fun s=>qE s.box rc).take mm.toNat)∧Kept l t m H H':=by
 have hrt:=h.tc.right
 obtain ⟨⟨es,h1,h2⟩,h3,h4,h5,h6⟩:=h
 refine AFn.conv (qil hl v h1 h2 h4 h6 hCl (qe9 hl.all v) rc mm) ?_
 rintro y H' ⟨k,a1,a2⟩
 rcases qfE v mm (qd rc) with e | e
 ·obtain ⟨R,rfl,hR⟩:=a2 e
  have hr:=(qnL e).2.1
  have hw:R=((C.filterMap (vJ (zmC l v) v)).filter fun s=>qE s.box rc).take mm.toNat:=by
   refine qkv (i:=Sh.id) (Z:=zmC l v) (win:=fun z=>QG (fun b=>qE b (zW rc (lvl v z)).1) (zW rc (lvl v z)).1 C) (g:=fun s=>qE s.box rc) (D:=lvls v (jZ l v)) (fun t s h=>VX h) hC (fun z t ht=>KX ht) (fun z=>WR (J8 hC)) (fun t ht s hs => ?_) (fun t _ s hs=>qch hl.all hs) ((Zd l v).sublist List.filter_sublist) hR
   obtain ⟨g1,g2,g3,g5⟩:=V4 hs
   have hz:=zy.2 (KM g1 (Yo hl.all v t g2))
   have hm:=qdY g2 hr hz
   rw [g3]
   simp only
   rw [← hm]
   unfold QG
   rw [if_pos (Ze hr hz)]
   constructor
   ·intro hx
    exact (List.mem_filter.1 ((JN _).mem_iff.1 hx)).2
   ·intro hx
    exact (JN _).mem_iff.2 (List.mem_filter.2 ⟨ht,hx⟩)
  refine ⟨_,⟨rfl,k⟩,fun I φ w hw' => ?_⟩
  unfold Wu Vp
  rw [if_pos e,← hw,e]
  exact hw'
 ·have:=a1 (by rw [e]; decide)
  subst this
  refine ⟨_,⟨rfl,k⟩,fun I φ w hw' => ?_⟩
  unfold Wu
  rw [if_neg (by rw [e]; decide),e]
  exact XF hw'
end
structure qeE (kv:V) (kp:Sh→Bool) (Jp:List Bk→Prop) (D:Nat→Prop) (mm:Nat):Prop where
 stab:∀ H H',Jp H→Kp (fun x=>¬ D x) H H'→Jp H'
 how:∃ g cap,kv = .fn (.func g) [] cap∧V.jg cap=none∧∀ (H:List Bk) (s:Sh),Jp H→AFn Tryz.prog g (s.v::cap) H fun y H'=>y = .sc (.bool (kp s))∧Jp H'∧vI mm H H'
def SoJ (Jp:List Bk→Prop) (mm:Nat) (H0:List Bk) (k r q b m it:Nat) (p:Pt) (l:Int) (kv:V) (kp:Sh→Bool) (ws:List Nat) (hs:List Ent) (es:List Sh) (n:Nat) (F:Fr) (H1:List Bk):Prop :=
 ∃ (left done:List Sh) (cu:Option (Value×V)) (hs1:List Ent),n=left.length∧H1[it]? = some (.iter m (left.map J5) cu)∧H1[k]? = some (skB r p l kv ws q)∧QQ H1 q hs1∧Kp (fun x=>x=k∨x=q∨x=mm) H0 H1∧H0.length≤it ∧
  hs1.Perm (done.map (Zp p l)++hs)∧(done++left.filter kp).Perm (es.filter kp)∧done.length+left.length≤es.length∧Jp H1∧F = [(0,.v (.ptr k 0)),(1,.v (.ptr b 0)),(12,.v (.ptr it 0))]
def SoL (Jp:List Bk→Prop) (mm:Nat) (H:List Bk) (k r q b m z:Nat) (p:Pt) (l:Int) (kv:V) (kp:Sh→Bool) (ws:List Nat) (hs1:List Ent) (lf:List Sh) (s:Sh) (F:Fr) (H5:List Bk):Prop :=
 ∃ b0:Bool,b0=kp s∧H5[H.length]? = some (.iter m (lf.map J5) (some (.int .i64 s.id,s.v)))∧H5[k]? = some (skB r p l kv ws q)∧QQ H5 q hs1∧Kp (fun x=>x=k∨x=q∨x=mm) H H5∧H5[z]? = some (shB s)∧Jp H5 ∧
  F = [(0,.v (.ptr k 0)),(1,.v (.ptr b 0)),(12,.v (.ptr H.length 0)),(5,.v (.ptr z 0)),(29,.v (.sc (.bool b0)))]
def KoJ (Jp:List Bk→Prop) (mm:Nat) (H0:List Bk) (k r q:Nat) (p:Pt) (l:Int) (kv:V) (kp:Sh→Bool) (ws:List Nat) (hs:List Ent) (c:Ce) (S:List Sh) (d:Nat) (T:Nat→Prop) (ks:Nat→Option Nat) (j:Nat) (F:Fr) (H1:List Bk):Prop :=
 ∃ (new:List It) (L:List Nat) (hs1:List Ent),H1[k]? = some (skB r p l kv (ws++L) q)∧QQ H1 q hs1∧Kp (fun x=>x=k∨x=q∨x=mm) H0 H1∧hs1.Perm (new.map (It.ent p l)++hs)∧(∀ it∈new,it.ok H1 T (ws++L)) ∧
  (new.flatMap (It.shs kp)).Perm ((at' c S++subs c S j).filter kp)∧L.length≤(subs c S j).length∧wts new≤(at' c S).length+(subs c S j).length*(d+1)∧Jp H1 ∧
  F = [(0,.v (.ptr k 0)),(45,.v (.agg [JC (ks 0),JC (ks 1),JC (ks 2),JC (ks 3)])),(46,.v (.sc (.int .i64 j)))]
theorem qfK {H:List Bk} {k r q b d mm:Nat} {p:Pt} {l:Int} {kv:V} {ws:List Nat} {hs:List Ent} {c:Ce} {S:List Sh} {I T:Nat→Prop} {kp:Sh→Bool} {Jp:List Bk→Prop} {D:Nat→Prop}
  (hk:H[k]? = some (skB r p l kv ws q)) (hq:QQ H q hs) (hN:Nd H d c S b I) (hc:yj c=true) (hd:(d:Int)+c.l=17) (hS:∀ s∈S,QH c (hm s)=true∧qd s.box=true)
  (hT:∀ x,I x→T x) (hTk:¬ T k) (hTq:¬ T q) (hkp:qeE kv kp Jp D mm) (hJp:Jp H) (hDl:∀ x,D x→x<H.length) (hDk:¬ D k) (hDq:¬ D q) (hmk:mm≠k) (hmq:mm≠q) (hmT:¬ T mm) (hmml:mm<H.length) (hw:ws.length+S.length≤100000) (hh:hs.length+S.length*20≤1000000) :
  AFn Tryz.prog 135 [.ptr k 0,.ptr b 0] H fun y H'=>Kp (fun x=>x=k∨x=q∨x=mm) H H'∧Jp H'∧∃ (new:List It) (L:List Nat) (hs':List Ent),H'[k]? = some (skB r p l kv (ws++L) q)∧QQ H' q hs'∧hs'.Perm (new.map (It.ent p l)++hs) ∧
   (∀ it∈new,it.ok H' T (ws++L))∧(new.flatMap (It.shs kp)).Perm (S.filter kp)∧L.length≤S.length∧wts new≤S.length*d:=by
 cases d with
 | zero=>exact hN.elim
 | succ d =>
 obtain ⟨m,es,ks,J,h1,h2,h3,h4,h5,h6⟩:=id hN
 have hkq:k≠q:=by
  rintro rfl
  obtain ⟨es,h1,_⟩:=hq
  rw [hk] at h1
  cases h1
 have hbT:=hT b ((h4 b).2 (.inl rfl))
 have hmTm:=hT m ((h4 m).2 (.inr (.inl rfl)))
 have hbk:b≠k:=fun e=>hTk (e▸hbT)
 have hbq:b≠q:=fun e=>hTq (e▸hbT)
 have hmm:m≠mm:=fun e=>hmT (e▸hmTm)
 unfold Zc at h1
 refine vwc (fn:=Tryz.f135) rfl ?_
 simp only [Tryz.f135,ql]
 refine AW.seq (AW.seq (vwa [(4,11,[0,5])] ?_))
 simp [h1,h2]
 refine AW.block (AW.qaZ (SoJ Jp mm H k r q b m H.length p l kv kp ws hs es) ⟨es.length,_,?_,es,[],none,hs,rfl,by simp,hget hk,hq.keep (Kp.refl.app (I:=NoB)) (fun h=>h),Kp.refl.app,Nat.le_refl _,by simp,by simp,by simp,hkp.stab _ _ hJp Kp.refl.app,rfl⟩ ?_)
 ·simp [qz,qj,qm]
 rintro n F H1 ⟨left,done,cu,hs1,rfl,q1,q2,q3,q4,q5,q6,q7,q8,q9,rfl⟩
 refine AW.seq (vwa [(4,11,[0,5])] ?_)
 simp [q1]
 refine ⟨fun e => ?_,fun i kk v s e1 e2 => ?_⟩
 rotate_left
 ·obtain ⟨rfl,rfl⟩:Value.int .i64 s.id=kk∧s.v=v:=by simpa [J5] using e2
  have hil:i<left.length:=(List.getElem?_eq_some_iff.1 e1).1
  have hitl:H.length<H1.length:=(List.getElem?_eq_some_iff.1 q1).1
  have hkl:k<H.length:=(List.getElem?_eq_some_iff.1 hk).1
  have hql:q<H.length:=by
   obtain ⟨es0,hq0,_⟩:=hq
   exact (List.getElem?_eq_some_iff.1 hq0).1
  obtain ⟨H2,eH,p1,p2,p3,p4,p6⟩:∃ H2,H2=H1.set H.length (Bk.iter m ((List.map J5 left).eraseIdx i) (some (Value.int IntKind.i64 s.id,s.v)))∧H2[H.length]? = some (.iter m ((left.eraseIdx i).map J5) (some (.int .i64 s.id,s.v)))∧H2[k]? = some (skB r p l kv ws q)∧QQ H2 q hs1∧Kp (fun x=>x=k∨x=q∨x=mm) H H2∧Jp H2:=by
   refine ⟨_,rfl,?_,?_,?_,?_,hkp.stab _ _ q9 ((Kp.refl.set rfl:Kp (fun x=>x=H.length) _ _).weak fun x hx hd=>by have:=hDl x hd; omega)⟩
   ·rw [List.getElem?_set_self hitl]
    have em:∀ (l:List Sh) (j:Nat),(l.eraseIdx j).map J5=(l.map J5).eraseIdx j:=by
     intro l
     induction l with
     | nil=>simp
     | cons a l ih=>intro j; cases j <;> simp [ih]
    rw [em]
   ·rw [List.getElem?_set_ne (by omega)]
    exact q2
   ·obtain ⟨es0,hq0,hq1⟩:=q3
    exact ⟨es0,by rw [List.getElem?_set_ne (by omega)]; exact hq0,hq1⟩
   ·exact Kp.new ((q4.weak fun x hx => .inl hx).set (.inr (Nat.le_refl _)))
  rw [← eH]
  clear eH q1 q2 q3 q4 q9
  rw [qbB] at p1 ⊢
  refine AW.seq (vwa [(4,11,[0,5])] ?_)
  simp
  refine AW.block (AW.seq (vwa [(4,11,[0,5])] ?_))
  simp [p1,setCells,qo]
  have p1':=hget (L := [shB s]) p1
  have p2':=hget (L := [shB s]) p2
  have p3':=p3.keep (Kp.refl.app (L := [shB s]) (I:=NoB)) (fun h=>h)
  have p4':=p4.app (L := [shB s])
  have p5':(H2 ++ [shB s])[H2.length]? = some (shB s):=by simp
  have p6':Jp (H2 ++ [shB s]):=hkp.stab _ _ p6 Kp.refl.app
  have hl2:H.length<H2.length:=(List.getElem?_eq_some_iff.1 p1).1
  unfold shB at p1' p2' p3' p4' p5' p6'
  generalize H2 ++ [Bk.cells [.v (.sc (.int .i64 s.id)),.v (.sc (.int .i64 s.box.x0)),.v (.sc (.int .i64 s.box.y0)),.v (.sc (.int .i64 s.box.x1)),.v (.sc (.int .i64 s.box.y1)),.v (.sc (.int .i64 s.lab))]]=H3 at *
  generalize hz:H2.length=z at *
  clear p1 p2 p3 p4 p6
  have hep:=qew e1
  have hll:(left.eraseIdx i).length=left.length - 1:=List.length_eraseIdx_of_lt hil
  have hsk:=p2'
  unfold skB at hsk
  refine AW.mid (SoL Jp mm H k r q b m z p l kv kp ws hs1 (left.eraseIdx i) s) (vwa [(4,11,[0,5])] ?_) ?_
  ·obtain ⟨g,cap,rfl,hkx,hkf⟩:=hkp.how
   have hA:=hkf H3 s p6'
   rw [qbB] at hA
   simp [hsk,p5',hkx]
   refine qc.of hA ?_
   rintro y H4 ⟨rfl,hJ4,hA4⟩
   have hA5:Kp (fun x=>x=mm) H3 H4:=fun i b hi hb hn=>hA4 i b hi hb (hn mm)
   simp
   refine ⟨_,?_,kp s,rfl,hA4 _ _ (by omega) p1' (fun l cu e=>by cases e; exact hmm rfl),hA4.cells (Ne.symm hmk) p2',p3'.keep hA5 (Ne.symm hmq),p4'.trans (hA5.weak fun x hx => .inr (.inr hx)),hA4.cells (by omega) p5',hJ4,rfl⟩
   simp [qz,qj,qm]
  ·clear p1' p2' p3' p4' p5' p6' hsk
   rintro F H5 ⟨b0,hb0,p1,p2,p3,p4,p5,p6,rfl⟩
   have hsk:=p2
   unfold skB at hsk
   cases b0 with
   | false =>
    refine vwa [(4,11,[0,5])] ?_
    simp
    refine ⟨(left.eraseIdx i).length,by omega,_,?_,left.eraseIdx i,done,_,hs1,rfl,p1,p2,p3,p4,Nat.le_refl _,q6,?_,by omega,p6,rfl⟩
    ·simp [qz,qj,qm]
    ·have:=hep.filter kp
     rw [List.filter_cons,← hb0] at this
     exact (List.Perm.append_left done this).trans q7
   | true =>
    have hM:=qd0 p2
    have hlen1:=q6.length_eq
    rw [List.length_append,List.length_map] at hlen1
    have hesS:es.length≤S.length:=by
     have e1:=h3.length_eq
     have e2:(at' c S).length≤S.length:=List.length_filter_le _ _
     omega
    have hF:=qg6 s.box p l
    unfold Re.v Re.cs at hF
    have hP:=qfG p3 (by omega) ⟨WT s.box p l,1,s.id⟩
    rw [JX] at hP
    have hsh:(⟨WT s.box p l,1,s.id⟩:Ent)=Zp p l s:=rfl
    unfold shB at p5
    refine AW.ofz [(4,11,[0,5])] mixed (by kernel_rfl) ?_
    simp [hsk,p5]
    refine Zj.look hF rfl rfl hM ?_
    simp [hsk,p5]
    refine qc.of hP ?_
    rintro y H6 ⟨rfl,k6,hq6⟩
    simp
    have hzq:z≠q:=by
     rintro rfl
     obtain ⟨es0,hq0,_⟩:=p3
     rw [p5] at hq0
     cases hq0
    refine ⟨(left.eraseIdx i).length,by omega,_,?_,left.eraseIdx i,done ++ [s],_,_,rfl,k6 _ _ (by omega) p1,k6.cells hkq p2,hq6,p4.trans (k6.V8.weak fun x hx => .inr (.inl hx)),Nat.le_refl _,?_,?_,?_,hkp.stab _ _ p6 (k6.V8.weak fun x (hx:x=q)=>by rw [hx]; exact hDq),rfl⟩
    ·simp [qz,qj,qm]
    ·rw [hsh,List.map_append,List.append_assoc]
     refine (Xg _ _).trans ((q6.cons _).trans ?_)
     exact List.perm_middle.symm
    ·have:=hep.filter kp
     rw [List.filter_cons,← hb0,if_pos rfl] at this
     rw [List.append_assoc]
     exact (List.Perm.append_left done this).trans q7
    ·rw [List.length_append,List.length_singleton]
     omega
 ·subst e
  refine vwa [(4,11,[0,5])] ?_
  simp
  have hU:∀ x,T x→¬ (x=k∨x=q):=fun x hx e=>e.elim (fun e=>hTk (e▸hx)) (fun e=>hTq (e▸hx))
  have hU2:∀ x,T x→¬ (x=k∨x=q∨x=mm):=fun x hx e=>e.elim (fun e=>hTk (e▸hx)) (fun e=>e.elim (fun e=>hTq (e▸hx)) (fun e=>hmT (e▸hx)))
  have hb1:=q4.cells (hU2 b hbT) h1
  have hSl:=fun (j:Nat) (hj:j≤4)=>qfJ (c:=c) (S:=S) (j:=j) (fun s hs=>(hS s hs).1) hj
  have hatl:(at' c S).length≤S.length:=List.length_filter_le _ _
  have hel:=h3.length_eq
  rw [List.filter_nil,List.append_nil] at q7
  have hdn:done.length≤(at' c S).length:=by
   have:=q7.length_eq
   have e2:(es.filter kp).length≤es.length:=List.length_filter_le _ _
   omega
  refine AW.seq (vwa [(4,11,[0,5])] ?_)
  simp [hb1]
  refine AW.block (AW.count 4 (KoJ Jp mm H k r q p l kv kp ws hs c S d T ks) ⟨_,?_,done.map It.sh,[],hs1,by rw [List.append_nil]; exact q2,q3,q4,?_,?_,?_,Nat.zero_le _,?_,q9,rfl⟩ ?_)
  ·simp [qz,qj,qm]
  ·rw [List.map_map]
   exact q6
  ·intro it hit
   obtain ⟨s,_,rfl⟩:=List.mem_map.1 hit
   trivial
  ·rw [qh2]
   have:=q7.trans (h3.filter kp)
   simpa [subs] using this
  ·rw [qhL]
   omega
  clear q1 q2 q3 q4 q5 q6 q7 q8 q9 hb1
  rintro j F H3 hj ⟨new,L,hs2,r1,r2,r3,r4,r5,r6,r7,r8,r9,rfl⟩
  refine AW.seq (vwa [(4,11,[0,5])] ?_)
  by_cases hlt:j<4
  ·have hlt':(j:Int)<4:=by omega
   have w1:IntKind.i64.wrap ((j:Int)+1)=(j:Int)+1:=by rw [wrap_i64] <;> omega
   have hget' : [JC (ks 0),JC (ks 1),JC (ks 2),JC (ks 3)][j]? = some (JC (ks j)):=by
    rcases (show j=0∨j=1∨j=2∨j=3 by omega) with rfl | rfl | rfl | rfl <;> rfl
   have hsj:=hSl j (by omega)
   have hsj1:=hSl (j+1) (by omega)
   have hnl:=Wv r5
   have hhl:=r4.length_eq
   rw [List.length_append,List.length_map] at hhl
   have hd17:d+1≤17:=by
    have:=(yI.1 hc).1
    omega
   have hmul:(subs c S j).length*(d+1)≤S.length*17:=Nat.mul_le_mul (by omega) hd17
   have hK:AFn Tryz.prog 134 [.ptr k 0,JC (ks j)] H3 fun y H'=>y = .tup []∧∃ (new':List It) (L':List Nat) (hs3:List Ent),H'[k]? = some (skB r p l kv (ws++L') q)∧QQ H' q hs3∧Kp (fun x=>x=k∨x=q∨x=mm) H H'∧hs3.Perm (new'.map (It.ent p l)++hs)∧(∀ it∈new',it.ok H' T (ws++L')) ∧
     (new'.flatMap (It.shs kp)).Perm ((at' c S++subs c S (j+1)).filter kp)∧L'.length≤(subs c S (j+1)).length∧wts new'≤(at' c S).length+(subs c S (j+1)).length*(d+1)∧Jp H':=by
    rcases h6 j hlt with ⟨e,hkj,_⟩ | ⟨hne,b',hkj,hN'⟩
    ·rw [hkj]
     refine (qcG k).mono' fun y H' hy=>⟨hy.1,new,L,hs2,?_⟩
     rw [hy.2,JQ,e,List.append_nil]
     exact ⟨r1,r2,r3,r4,r5,r6,r7,r8,r9⟩
    ·rw [hkj]
     have hJT:∀ x,J j x→T x:=fun x hx=>hT x ((h4 x).2 (.inr (.inr ⟨j,hlt,hx⟩)))
     have hN3:=Nd.keep r3 hN' fun x hx=>hU2 x (hJT x hx)
     have hd0:0<d:=by
      cases d with
      | zero=>exact hN'.elim
      | succ d=>omega
     have hcr:yj (qD c (j:Nat))=true:=Y7 hc (by omega) (by omega)
     obtain ⟨m',ks',hb'⟩:∃ m' ks',H3[b']? = some (.cells (Zc (qD c (j:Nat)) ks' (sub' (qD c (j:Nat)) S).length m')):=by
      cases d with
      | zero=>omega
      | succ d =>
       obtain ⟨m',_,ks',_,g1,_⟩:=hN3
       exact ⟨m',ks',g1⟩
     have hNo:=qdZ r1 r2 hb' hcr (by rw [List.length_append]; omega) (by omega)
     have hn0:(sub' (qD c (j:Nat)) S).length≠0:=fun e=>hne (List.length_eq_zero_iff.1 e)
     simp only [if_neg hn0] at hNo
     refine hNo.mono' fun y H' hy=>⟨hy.1,.nd (ws++L).length d (qD c (j:Nat)) (sub' (qD c (j:Nat)) S)::new,L ++ [b'],put hs2 (Y5 (qD c (j:Nat)) p l (ws++L).length),?_⟩
     obtain ⟨k5,g1,g2⟩:=hy.2
     refine ⟨by rw [← List.append_assoc]; exact g1,g2,r3.trans (k5.weak fun x hx=>hx.elim .inl fun e => .inr (.inl e)),?_,?_,?_,?_,?_,hkp.stab _ _ r9 (k5.weak fun x hx=>hx.elim (fun e=>by rw [e]; exact hDk) (fun e=>by rw [e]; exact hDq))⟩
     ·exact (Xg _ _).trans (r4.cons _)
     ·intro it hit
      rcases List.mem_cons.1 hit with rfl | hit
      ·refine ⟨hne,hcr,?_,fun s hs=>⟨(List.mem_filter.1 hs).2,(hS s (List.mem_filter.1 hs).1).2⟩,b',J j,by rw [← List.append_assoc,List.getElem?_append_right (Nat.le_refl _)]; simp,?_,hJT⟩
       ·show (d:Int)+(c.l+1)=17
        omega
       ·exact Nd.keep k5 hN3 fun x hx=>hU x (hJT x hx)
      ·rw [← List.append_assoc]
       exact It.WI k5 hU (r5 it hit)
     ·rw [JQ,List.flatMap_cons,← List.append_assoc,List.filter_append]
      exact (List.Perm.append_left _ r6).trans List.perm_append_comm
     ·rw [JQ,List.length_append,List.length_append,List.length_singleton]
      omega
     ·have e1:(subs c S (j+1)).length=(subs c S j).length+(sub' (qD c (j:Nat)) S).length:=by rw [JQ,List.length_append]
      have e2:wts (It.nd (ws++L).length d (qD c (j:Nat)) (sub' (qD c (j:Nat)) S)::new)=(sub' (qD c (j:Nat)) S).length*(d+1)+wts new:=by
       simp only [wts,List.map_cons,List.sum_cons,It.wt]
      rw [e1,e2,Nat.add_mul]
      omega
   simp [hlt']
   refine AW.seq (vwa [(4,11,[0,5])] ?_)
   simp
   refine AW.seq (AW.block (vwa [(4,11,[0,5])] ?_))
   simp [hlt',hget']
   refine qc.of hK ?_
   rintro y H4 ⟨rfl,new',L',hs3,g1,g2,g3,g4,g5,g6,g7,g8,g9⟩
   simp
   refine vwa [(4,11,[0,5])] ?_
   simp [w1]
   refine ⟨hlt,_,?_,new',L',hs3,g1,g2,g3,g4,g5,g6,g7,g8,g9,rfl⟩
   simp [qz,qj,qm]
  ·have hlt':¬ (j:Int)<4:=by omega
   have hj4:j=4:=by omega
   subst hj4
   simp [hlt']
   refine vwa [(4,11,[0,5])] ?_
   simp
   have hpp:=Vh fun s hs=>(hS s hs).1
   have h44:=hSl 4 (Nat.le_refl _)
   refine ⟨r3,r9,new,L,r1,hs2,r2,r4,r5,r6.trans (hpp.filter kp),by omega,?_⟩
   have e1:(at' c S).length≤(at' c S).length*(d+1):=Nat.le_mul_of_pos_right _ (Nat.succ_pos d)
   have e2:(at' c S).length*(d+1)+(subs c S 4).length*(d+1)≤S.length*(d+1):=by
    rw [← Nat.add_mul]
    exact Nat.mul_le_mul_right _ h44
   omega
theorem Wz {r:Re} {l:Int} (hl:vR l=true) (h:qd r=true):(zW r l).1=⟨side l*(r.x0/side l),side l*(r.y0/side l),side l*(r.x1/side l)+side l - 1,side l*(r.y1/side l)+side l - 1⟩:=by
 have hs:=Jl (zy.1 hl).1 (zy.1 hl).2
 simp [zW,hl,h,qaD hs.1]
theorem qey {a b:Re} {l:Int} (p:Pt) (hl:vR l=true) (ha:qd a=true) (hb:qd b=true) (h:b.x0≤a.x0∧b.y0≤a.y0∧a.x1≤b.x1∧a.y1≤b.y1):WT b p l≤WT a p l:=by
 have hl':=zy.1 hl
 have hs:=Jl hl'.1 hl'.2
 refine qeV p (Ze ha hl) (Ze hb hl) ?_
 rw [Wz hl ha,Wz hl hb]
 have m1:side l*(b.x0/side l)≤side l*(a.x0/side l):=Int.mul_le_mul_of_nonneg_left (Int.ediv_le_ediv hs.1 h.1) (by omega)
 have m2:side l*(b.y0/side l)≤side l*(a.y0/side l):=Int.mul_le_mul_of_nonneg_left (Int.ediv_le_ediv hs.1 h.2.1) (by omega)
 have m3:side l*(a.x1/side l)≤side l*(b.x1/side l):=Int.mul_le_mul_of_nonneg_left (Int.ediv_le_ediv hs.1 h.2.2.1) (by omega)
 have m4:side l*(a.y1/side l)≤side l*(b.y1/side l):=Int.mul_le_mul_of_nonneg_left (Int.ediv_le_ediv hs.1 h.2.2.2) (by omega)
 simp only
 omega
theorem qfW {c:Ce} {s:Sh} {l:Int} (p:Pt) (hl:vR l=true) (hc:yj c=true) (hs:QH c (hm s)=true∧qd s.box=true):WT (jy c) p l≤qmi s p l :=
 qey p hl hs.2 (Qj hc) (qcr hs.2 (yI.1 hc).1.1 hs.1)
theorem qb7 {H:List Bk} {T:Nat→Prop} {ws:List Nat} {p:Pt} {l:Int} {kp:Sh→Bool} {s:Sh} {its:List It} (hl:vR l=true) (hok:∀ it∈its,it.ok H T ws) (hmin:∀ it∈its,(it.ent p l).lt (Zp p l s)=false) :
  ∀ y∈(its.flatMap (It.shs kp)).map (Zp p l),y.lt (Zp p l s)=false:=by
 intro y hy
 obtain ⟨t,ht,rfl⟩:=List.mem_map.1 hy
 obtain ⟨it,hit,hti⟩:=List.mem_flatMap.1 ht
 have hm:=hmin it hit
 cases it with
 | sh t' =>
  simp only [It.shs,List.mem_singleton] at hti
  subst hti
  exact hm
 | nd i d c S =>
  obtain ⟨h1,h2,h3,h4,_⟩:=hok _ hit
  simp only [It.shs] at hti
  have htS:=(List.mem_filter.1 hti).1
  have hle:=qfW p hl h2 (h4 t htS)
  rw [Ent.WL] at hm ⊢
  simp only [It.ent,Y5,Zp] at hm ⊢
  omega
def qeD (S:List Sh) (kp:Sh→Bool) (p:Pt) (l n:Int) (R:List Sh):Prop:=R.map (Zp p l)=(sort ((S.filter kp).map (Zp p l))).take n.toNat∧∀ s∈R,s∈S.filter kp
def NsM (H0:List Bk) (k r q:Nat) (p:Pt) (l:Int) (kv:V) (n:Int) (F:Fr) (H1:List Bk):Prop :=
 H1[k]? = some (.cells [.v (.ptr r 0),.v (.sc (.int .i64 p.x)),.v (.sc (.int .i64 p.y)),.v (.sc (.int .i64 l)),.v kv,.v .nil,.v (.ptr q 0)])∧H1[q]? = some (qB [])∧Kp NoB H0 H1 ∧
  F = [(0,.v (.ptr r 0)),(2,.v (.sc (.int .i64 n))),(11,.v (.ptr k 0))]
def NsI (Jp:List Bk→Prop) (mm:Nat) (H0:List Bk) (k r q:Nat) (p:Pt) (l:Int) (kv:V) (n:Int) (S:List Sh) (T:Nat→Prop) (kp:Sh→Bool) (z:Nat) (F:Fr) (H1:List Bk):Prop :=
 ∃ (out:List Sh) (its:List It) (ws:List Nat) (hs:List Ent),z=wts its∧H1[k]? = some (skB r p l kv ws q)∧QQ H1 q hs∧Kp (fun x=>x=mm) H0 H1∧TrS H1 r S T∧hs.Perm (its.map (It.ent p l))∧(∀ it∈its,it.ok H1 T ws) ∧
  (out++its.flatMap (It.shs kp)).Perm (S.filter kp)∧out.map (Zp p l)++sort ((its.flatMap (It.shs kp)).map (Zp p l))=sort ((S.filter kp).map (Zp p l))∧ws.length+wts its≤S.length*18+1∧(out.length:Int)≤max n 0∧Jp H1 ∧
  F = [(0,.v (.ptr r 0)),(2,.v (.sc (.int .i64 n))),(11,.v (.ptr k 0)),(12,Q7 out)]
theorem qit {H:List Bk} {r:Nat} {S:List Sh} {T:Nat→Prop} (ht:TrS H r S T) (hS:S.length≤1000) (p:Pt) (n l:Int) (kv:V) (kp:Sh→Bool) {Jp:List Bk→Prop} {D:Nat→Prop} {mm:Nat} (hkp:qeE kv kp Jp D mm) (hJp:Jp H) (hDl:∀ x,D x→x<H.length) (hmml:mm<H.length) (hmT:¬ T mm) (hf:fits p=true) (hl:vR l=true) :
  AFn Tryz.prog 83 [.ptr r 0,p.v,.sc (.int .i64 n),.sc (.int .i64 l),kv] H fun y H'=>∃ R,y=slS R∧qeD S kp p l n R∧Jp H'∧Kp (fun x=>x=mm) H H':=by
 have hM:=fun L=>qg5 (ht.app (L:=L))
 have hF:=KG p
 rw [hf] at hF
 have hl':=zy.1 hl
 have h0:¬ l<0:=by omega
 have h16:¬ 16<l:=by omega
 have hTl:=ht.lt
 unfold Pt.v Pt.cs at hF ⊢
 refine vwc (fn:=Tryz.f83) rfl ?_
 simp only [Tryz.f83,ql]
 refine AW.seq (vwa [(3,5,[0,6,3,4])] ?_)
 simp
 refine AW.seq (AW.seq (vwa [(3,5,[0,6,3,4])] ?_))
 simp
 refine qc.of (hM _) ?_
 rintro y H1 ⟨rfl,rfl⟩
 simp
 refine qc.pure hF rfl rfl ?_
 simp [h0,h16]
 refine vwa [(3,5,[0,6,3,4])] ?_
 simp
 have ht1:=ht.app (L := [.cells [.v (.sc (.int .i64 p.x)),.v (.sc (.int .i64 p.y))]])
 have kp1:Kp NoB H (H ++ [.cells [.v (.sc (.int .i64 p.x)),.v (.sc (.int .i64 p.y))]]):=Kp.refl.app
 have hp1:(H ++ [Bk.cells [.v (.sc (.int .i64 p.x)),.v (.sc (.int .i64 p.y))]])[H.length]? = some (.cells [.v (.sc (.int .i64 p.x)),.v (.sc (.int .i64 p.y))]):=by simp
 have hll:H.length<(H ++ [Bk.cells [.v (.sc (.int .i64 p.x)),.v (.sc (.int .i64 p.y))]]).length:=by simp
 generalize H ++ [Bk.cells [.v (.sc (.int .i64 p.x)),.v (.sc (.int .i64 p.y))]]=H1 at *
 generalize hhl:H.length=hl0 at *
 have hkS:=fun (x:Bk)=>Z4 (H:=H1) (L := [x])
 have hkS2:=fun (x y:Bk)=>Z4 (H:=H1) (L := [x,y])
 refine AW.mid (NsM H (H1.length+1) r H1.length p l kv n) (vwa [(3,5,[0,6,3,4])] ?_) ?_
 ·obtain ⟨g,cap,rfl,_⟩:=hkp.how
  simp [hp1]
  refine qc.of (znew H1) ?_
  rintro y H2 ⟨rfl,rfl⟩
  simp [hkS,hkS2]
  refine ⟨_,?_,by simp,by simp,kp1.app,rfl⟩
  simp [qz,qj,qm]
 rintro F H2 ⟨hk2,hq2,kp2,rfl⟩
 have hkq:H1.length+1≠H1.length:=by omega
 have hkH:hl0≤H1.length+1:=by omega
 have hqH:hl0≤H1.length:=by omega
 generalize H1.length+1=k at *
 generalize H1.length=q at *
 clear hkS hkS2 hp1 ht1 kp1 hM
 refine AW.qaL (.own true 138 0 1 []) (id:=k) (off:=5) hk2 rfl ⟨rfl,rfl,by decide⟩ rfl ?_
 rw [zF hk2]
 have hk3:(H2.set k (Bk.cells (List.set [.v (.ptr r 0),.v (.sc (.int .i64 p.x)),.v (.sc (.int .i64 p.y)),.v (.sc (.int .i64 l)),.v kv,.v .nil,.v (.ptr q 0)] 5 (.own true 138 0 1 []))))[k]? = some (skB r p l kv [] q):=List.getElem?_set_self (List.getElem?_eq_some_iff.1 hk2).1
 have hq3:QQ (H2.set k (Bk.cells (List.set [.v (.ptr r 0),.v (.sc (.int .i64 p.x)),.v (.sc (.int .i64 p.y)),.v (.sc (.int .i64 l)),.v kv,.v .nil,.v (.ptr q 0)] 5 (.own true 138 0 1 [])))) q []:=⟨[],by rw [List.getElem?_set_ne hkq]; exact hq2,Held.nil⟩
 have kp3:Kp NoB H (H2.set k (Bk.cells (List.set [.v (.ptr r 0),.v (.sc (.int .i64 p.x)),.v (.sc (.int .i64 p.y)),.v (.sc (.int .i64 l)),.v kv,.v .nil,.v (.ptr q 0)] 5 (.own true 138 0 1 [])))):=Kp.new ((kp2.weak fun _ h=>h.elim).set (.inr (by rw [hhl]; exact hkH)))
 generalize H2.set k (Bk.cells (List.set [.v (.ptr r 0),.v (.sc (.int .i64 p.x)),.v (.sc (.int .i64 p.y)),.v (.sc (.int .i64 l)),.v kv,.v .nil,.v (.ptr q 0)] 5 (.own true 138 0 1 [])))=H3 at *
 have hJ3:Jp _:=hkp.stab _ _ hJp (kp3.weak fun x h=>h.elim)
 clear hk2 hq2 kp2
 have ht3:=ht.Vb kp3
 obtain ⟨b,m,I,es,hb,hT⟩:=id ht3
 have hTk:∀ x,T x→¬ (x=k∨x=q):=fun x hx e=>by
  have:=hTl x hx
  omega
 obtain ⟨m',ks',hb'⟩:∃ m' ks',H3[b]? = some (.cells (Zc VQ ks' S.length m')):=by
  obtain ⟨m',_,ks',_,g1,_⟩:=hb.nd
  exact ⟨m',ks',g1⟩
 have hNo:=qdZ hk3 hq3 hb' YD (by simp) (by simp)
 have hr3:=hb.cr
 refine AW.seq (vwa [(3,5,[0,6,3,4])] ?_)
 simp [hr3]
 refine qc.of hNo ?_
 rintro y H4 ⟨rfl,hnq⟩
 simp
 have hst:∃ (its:List It) (ws:List Nat) (hs:List Ent),H4[k]? = some (skB r p l kv ws q)∧QQ H4 q hs∧Kp NoB H H4∧hs.Perm (its.map (It.ent p l))∧(∀ it∈its,it.ok H4 T ws)∧(its.flatMap (It.shs kp))=S.filter kp∧ws.length+wts its≤S.length*18+1:=by
  by_cases hz:S.length=0
  ·rw [if_pos hz] at hnq
   obtain ⟨g1,g2,g3⟩:=hnq
   have:S = []:=List.length_eq_zero_iff.1 hz
   exact ⟨[],[],[],g2,g3,Kp.new ((kp3.weak fun _ h=>h.elim).trans (g1.weak fun x hx => .inr (by omega))),.nil,fun _ h=>(by cases h),by simp [this],by simp [wts]⟩
  ·rw [if_neg hz] at hnq
   obtain ⟨g1,g2,g3⟩:=hnq
   refine ⟨[.nd 0 17 VQ S],[b],_,g2,g3,Kp.new ((kp3.weak fun _ h=>h.elim).trans (g1.weak fun x hx => .inr (by omega))),.refl _,fun it hit => ?_,by simp [It.shs],by simp [wts,It.wt]; omega⟩
   rw [List.mem_singleton] at hit
   subst hit
   refine ⟨fun e=>hz (by rw [e]; rfl),YD,by decide,fun s hs=>⟨KR (hb.right s hs),hb.right s hs⟩,b,I,rfl,Nd.keep g1 hb.nd fun x hx=>hTk x ((hT x).2 (.inr (.inr hx))),fun x hx=>(hT x).2 (.inr (.inr hx))⟩
 obtain ⟨its,ws,hs,s1,s2,s3,s4,s5,s6,s7⟩:=hst
 have hJ4:Jp H4:=hkp.stab _ _ hJp (s3.weak fun x h=>h.elim)
 clear hnq hk3 hq3 kp3 ht3 hNo hr3 hb' hb hT hJ3
 refine vwa [(3,5,[0,6,3,4])] ?_
 simp
 refine (AW.qaZ (NsI Jp mm H k r q p l kv n S T kp) ⟨wts its,_,?_,[],its,ws,hs,rfl,s1,s2,s3.weak fun x h=>h.elim,ht.Vb s3,s4,s5,by rw [s6]; exact .refl _,by rw [s6]; rfl,s7,by simp; omega,hJ4,rfl⟩ ?_)
 ·simp [qz,qj,qm,qW,Q7]
 clear s1 s2 s3 s4 s5 s6 s7 hJ4 its ws hs
 have hDk:¬ D k:=fun e=>by have:=hDl _ e; omega
 have hDq:¬ D q:=fun e=>by have:=hDl _ e; omega
 rintro zz F H5 ⟨out,its,ws,hs,rfl,s1,s2,s3,s4,s5,s6,s7,s8,s9,s10,s11,rfl⟩
 have hTkk:¬ T k:=fun e=>hTk k e (.inl rfl)
 have hTqq:¬ T q:=fun e=>hTk q e (.inr rfl)
 have hnl:=Wv s6
 have hhl2:=s5.length_eq
 rw [List.length_map] at hhl2
 unfold Q7
 have hout:∀ s∈out,s∈S.filter kp:=fun s hs=>s7.mem_iff.1 (List.mem_append_left _ hs)
 refine AW.seq (AW.seq (vwa [(3,5,[0,6,3,4])] ?_))
 simp
 by_cases hlt:(out.length:Int)<n
 ·refine vwa [(3,5,[0,6,3,4])] ?_
  simp [hlt]
  have hP:=zpop s2 (by omega)
  have hsk:=s1
  unfold skB at hsk
  have hfin:its = []→qeD S kp p l n out:=fun e=>by
   subst e
   refine ⟨?_,hout⟩
   rw [List.flatMap_nil,List.map_nil] at s8
   have e1:sort ([]:List Ent) = []:=rfl
   rw [e1,List.append_nil] at s8
   rw [← s8,List.take_of_length_le]
   rw [List.length_map]
   omega
  refine AW.block (AW.seq (vwa [(3,5,[0,6,3,4])] ?_))
  simp [hsk]
  refine qc.of hP ?_
  rintro y H6 ⟨rfl,k6,hq6⟩
  cases hs with
  | nil =>
   have hits:its = []:=by
    have:=s5.length_eq
    simp at this
    exact List.length_eq_zero_iff.1 this.symm
   simp [qgw,setCells,qo]
   have kfin:Kp (fun x=>x=mm) H (H6 ++ [Bk.cells [.v (.sc (.int .u64 0)),.v (.sc (.int .u64 0)),.v (.sc (.int .i64 0))]]):=(Kp.new ((s3.weak fun _ h => .inl h).trans (k6.V8.weak fun x hx => .inr (by omega)))).app
   have hJ6:Jp (H6 ++ [Bk.cells [.v (.sc (.int .u64 0)),.v (.sc (.int .u64 0)),.v (.sc (.int .i64 0))]]):=hkp.stab _ _ (hkp.stab _ _ s11 (k6.V8.weak fun x (hx:x=q)=>by rw [hx]; exact hDq)) Kp.refl.app
   refine AW.seq (AW.seq (vwa [(3,5,[0,6,3,4])] ?_))
   simp
   refine vwa [(3,5,[0,6,3,4])] ?_
   simp
   exact ⟨out,rfl,hfin hits,hJ6,kfin⟩
  | cons x tl =>
   obtain ⟨it,its',hx,hpi,htl⟩:=qeP s5
   have hsr:Srt (x::tl):=by
    obtain ⟨_,_,hh⟩:=s2
    exact hh.2.2
   have hlx:∀ y∈tl,y.lt x=false:=(List.pairwise_cons.1 hsr).1
   have hqk:¬ k=q:=hkq
   have g1:=hget (L := [.cells [.v (.sc (.int .u64 x.k)),.v (.sc (.int .u64 x.t)),.v (.sc (.int .i64 x.i))]]) (k6.cells hqk s1)
   have g2:=hq6.keep (Kp.refl.app (L := [.cells [.v (.sc (.int .u64 x.k)),.v (.sc (.int .u64 x.t)),.v (.sc (.int .i64 x.i))]]) (I:=NoB)) (fun h=>h)
   have k7:Kp (fun x=>x=q) H5 (H6 ++ [.cells [.v (.sc (.int .u64 x.k)),.v (.sc (.int .u64 x.t)),.v (.sc (.int .i64 x.i))]]):=k6.V8.app
   have g3:Kp (fun x=>x=mm) H (H6 ++ [.cells [.v (.sc (.int .u64 x.k)),.v (.sc (.int .u64 x.t)),.v (.sc (.int .i64 x.i))]]):=Kp.new ((s3.weak fun _ h => .inl h).trans (k7.weak fun x hx => .inr (by omega)))
   have g4:=ht.keep g3 (fun x hx e=>hmT (e▸hx))
   have g8:=hkp.stab _ _ s11 (k7.weak fun x (hx:x=q)=>by rw [hx]; exact hDq)
   have g6:∀ it∈its,it.ok (H6 ++ [.cells [.v (.sc (.int .u64 x.k)),.v (.sc (.int .u64 x.t)),.v (.sc (.int .i64 x.i))]]) T ws:=fun it hit=>by
    have:=It.WI (L := []) k7 (fun x hx e=>hTqq (e▸hx)) (s6 it hit)
    rwa [List.append_nil] at this
   have g7:(H6 ++ [Bk.cells [.v (.sc (.int .u64 x.k)),.v (.sc (.int .u64 x.t)),.v (.sc (.int .i64 x.i))]])[H6.length]? = some (.cells [.v (.sc (.int .u64 x.k)),.v (.sc (.int .u64 x.t)),.v (.sc (.int .i64 x.i))]):=by simp
   have hkz:k<H6.length:=(List.getElem?_eq_some_iff.1 (k6.cells hqk s1)).1
   simp [qgw,JX,setCells,qo]
   simp only [List.tail_cons] at g2 hq6
   generalize H6 ++ [Bk.cells [.v (.sc (.int .u64 x.k)),.v (.sc (.int .u64 x.t)),.v (.sc (.int .i64 x.i))]]=H7 at *
   generalize H6.length=z at *
   clear s1 s2 s3 s4 s6 s11 k6 k7 hq6 hP hsk
   have hsk:=g1
   unfold skB at hsk
   have hwt:wts its=it.wt+wts its':=by rw [qdP hpi]; simp [wts]
   have hfm:(its.flatMap (It.shs kp)).Perm (it.shs kp++its'.flatMap (It.shs kp)):=by
    have:=hpi.flatMap_right (It.shs kp)
    simpa using this
   refine AW.seq (AW.seq (vwa [(3,5,[0,6,3,4])] ?_))
   simp
   refine vwa [(3,5,[0,6,3,4])] ?_
   simp
   cases it with
   | sh s =>
    obtain rfl:Zp p l s=x:=hx
    have e_t:(Zp p l s).t=1:=rfl
    have e_i:(Zp p l s).i=s.id:=rfl
    rw [e_t,e_i] at g7
    have hsk':s∈S.filter kp:=s7.mem_iff.1 (List.mem_append_right _ (hfm.mem_iff.2 (List.mem_append_left _ (List.mem_singleton.2 rfl))))
    have hsS:=(List.mem_filter.1 hsk').1
    obtain ⟨b,m,I,es,hb,hT⟩:=id g4
    have hr7:=hb.cr
    have hm7:=hb.cm
    have hfn:=qcY hb.ids hb.es s.id
    have hfs:fnd S s.id=some s:=by
     unfold fnd
     cases hc:S.find? fun t=>decide (t.id=s.id) with
     | none =>
      have:=List.find?_eq_none.1 hc s hsS
      simp at this
     | some t =>
      have h1:=List.mem_of_find?_eq_some hc
      have h2:t.id=s.id:=by simpa using List.find?_some hc
      rw [qcA hb.ids h1 hsS h2]
    rw [hfs] at hfn
    obtain ⟨j,hsf⟩:∃ j,XB s.id es 0=some (j,s):=by
     cases hc:XB s.id es 0 with
     | none=>rw [hc] at hfn; cases hfn
     | some pp =>
      obtain ⟨j,t⟩:=pp
      rw [hc] at hfn
      cases hfn
      exact ⟨j,rfl⟩
    refine AW.seq (AW.seq (vwa [(3,5,[0,6,3,4])] ?_))
    simp [g7]
    refine vwa [(3,5,[0,6,3,4])] ?_
    simp
    refine vwa [(3,5,[0,6,3,4])] ?_
    simp [g7,hr7,hm7,KL,hsf,qmO,qbB]
    have hmn:∀ it∈its',(it.ent p l).lt (Zp p l s)=false:=fun it hit=>hlx _ (htl.mem_iff.2 (List.mem_map_of_mem hit))
    have hok':∀ it∈its',it.ok H7 T ws:=fun it hit=>g6 it (hpi.mem_iff.2 (List.mem_cons_of_mem _ hit))
    have holen:out.length≤S.length:=by
     have e1:=s7.length_eq
     rw [List.length_append] at e1
     have e2:(S.filter kp).length≤S.length:=List.length_filter_le _ _
     omega
    have hw1:(It.sh s).wt=1:=rfl
    refine ⟨by omega,wts its',by omega,_,?_,out ++ [s],its',ws,tl,rfl,g1,g2,g3,g4,htl,hok',?_,?_,by omega,?_,g8,rfl⟩
    ·simp [qz,qj,qm,Q7,Sh.cs]
    ·rw [List.append_assoc]
     exact (List.Perm.append_left out hfm.symm).trans s7
    ·have e1:sort ((its.flatMap (It.shs kp)).map (Zp p l))=Zp p l s::sort ((its'.flatMap (It.shs kp)).map (Zp p l)):=by
      rw [VW (hfm.map _)]
      exact qdV (qb7 hl hok' hmn)
     rw [e1] at s8
     rw [← s8,List.map_append,List.append_assoc]
     rfl
    ·rw [List.length_append,List.length_singleton]
     omega
   | nd i d c Sn =>
    obtain rfl:Y5 c p l i=x:=hx
    have e_t:(Y5 c p l i).t=0:=rfl
    have e_i:(Y5 c p l i).i=i:=rfl
    rw [e_t,e_i] at g7
    obtain ⟨o1,o2,o3,o4,b,I,o5,o6,o7⟩:=g6 _ (hpi.mem_iff.2 (List.mem_cons_self ..))
    have hiw:i<ws.length:=(List.getElem?_eq_some_iff.1 o5).1
    refine AW.seq (AW.seq (vwa [(3,5,[0,6,3,4])] ?_))
    simp [g7]
    refine vwa [(3,5,[0,6,3,4])] ?_
    simp [g7,hsk,hiw]
    have hwb:ws[i]=b:=by
     rw [List.getElem?_eq_getElem hiw] at o5
     exact Option.some.inj o5
    rw [hwb]
    have hSn:0<Sn.length:=List.length_pos_iff.2 o1
    have hw1:(It.nd i d c Sn).wt=Sn.length*(d+1):=rfl
    have hw2:Sn.length*(d+1)=Sn.length*d+Sn.length:=Nat.mul_succ _ _
    have htll:tl.length≤its.length:=by
     have:=s5.length_eq
     simp at this
     omega
    have hz7:=(List.getElem?_eq_some_iff.1 g7).1
    have hl7:H.length≤H7.length:=by omega
    have hOp:=qfK g1 g2 o6 o2 o3 o4 o7 hTkk hTqq hkp g8 (fun x hx=>by have:=hDl x hx; omega) hDk hDq (by omega) (by omega) hmT (by omega) (by omega) (by omega)
    refine qc.of hOp ?_
    rintro y H8 ⟨kp8,hJ8,new,L,hs',w1,w2,w3,w4,w5,w6,w7⟩
    have kp8':Kp (fun x=>x=mm) H H8:=Kp.new ((g3.weak fun _ h => .inl h).trans (kp8.weak fun x hx=>hx.elim (fun e => .inr (by omega)) (fun e=>e.elim (fun e => .inr (by omega)) .inl)))
    have hTk3:∀ x,T x→¬ (x=k∨x=q∨x=mm):=fun x hx e=>e.elim (fun e=>hTkk (e▸hx)) (fun e=>e.elim (fun e=>hTqq (e▸hx)) (fun e=>hmT (e▸hx)))
    simp
    have hwa:=qbx new its'
    refine ⟨wts (new++its'),by omega,_,?_,out,new++its',ws++L,hs',rfl,w1,w2,kp8',ht.keep kp8' (fun x hx e=>hmT (e▸hx)),?_,?_,?_,?_,?_,s10,hJ8,rfl⟩
    ·simp [qz,qj,qm,Q7]
    ·rw [List.map_append]
     exact w3.trans (List.Perm.append_left _ htl)
    ·intro it hit
     rcases List.mem_append.1 hit with hit | hit
     ·exact w4 it hit
     ·exact It.WI kp8 hTk3 (g6 it (hpi.mem_iff.2 (List.mem_cons_of_mem _ hit)))
    ·rw [List.flatMap_append]
     exact (List.Perm.append_left out ((w5.append_right _).trans hfm.symm)).trans s7
    ·rw [← s8]
     congr 1
     refine VW (List.Perm.map _ ?_)
     rw [List.flatMap_append]
     exact (w5.append_right _).trans hfm.symm
    ·rw [List.length_append]
     omega
 ·refine vwa [(3,5,[0,6,3,4])] ?_
  simp [hlt]
  refine ⟨out,rfl,⟨?_,hout⟩,s11,s3⟩
  have hol:n.toNat=(out.map (Zp p l)).length:=by
   rw [List.length_map]
   omega
  rw [← s8,hol,List.take_left]
end Go.Proofs.YtnconfggojpkcaaGreat
