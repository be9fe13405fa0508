/- Texts that a law rests on, part c1: plain lemmas and what functions of the program do. No condition. -/
import Derived.BigQuiet
import Derived.Deep.QuietTactic
import Derived.Deep.Slices
import Derived.Ground.GgsProg
import Derived.JoinedCond
import Derived.Laws.MakeOwn
import Derived.Lib.AppendZeros
import Derived.Lib.SlicesCompact
import Derived.Maps.AppendAt
import Derived.OpenShut
import Derived.ProofKit
import Derived.Scope
import Derived.Shelf.GgSortFunc.Tiny
import Derived.Shelf.SlSortFuncK.WholeK
import Derived.Shelf.Slices.CompactI
import Derived.Shelf.Slices.In.SortNone
import Derived.Shelf.Sort.Plain
import Derived.SizedLaws
import Derived.Sort.OwnSorted
import Derived.Sort.OwnSortedInts
import Derived.Test.YtnconfggojpkcaaGreatRows
import Derived.WalkKit
import Derived.WalkLawsBesides
import Derived.WalkSpells
import Derived.WideKeyRuns
import Derived.Test.YtnconfggojpkcaaGreatSz7
set_option linter.all false
set_option maxHeartbeats 16000000
set_option maxRecDepth 100000
namespace Go.Proofs.YtnconfggojpkcaaGreat
open Go.RowKit
section
variable {w w':World} {g:Nat} {t:TypeId} {cs:Array Value}
end
section
variable {S S':Nat→Prop} {w w' w'':World}
end
section
variable {α:Type} {w w':World} {B B' sz:Nat} {enc:α→List Value} {v:Value} {xs:List α}
end
section
variable {α:Type} {w w':World} {base B sz:Nat} {e:TypeId} {enc:α→List Value} {v:Value} {xs:List α}
end
def Stop (p:Prop):Prop:=p
end Go.Proofs.YtnconfggojpkcaaGreat
namespace Go.Proofs.YtnconfggojpkcaaGreat
open Go.RowKit
namespace AM
section
variable {I:Nat→Nat→Option Value} {φ:List Nat}
end
theorem Zj.of {P:Program} {N:Nat} {dst:Option Tmp} {k:FuncId} {xs:List V} {F:Fr} {H:List Bk} {K:St→Prop} {r:V} (h:PFn P k xs r) (hx:V.qA xs=true) (hr:r.closed=true) (hk:jR N dst (.v r) ⟨F,H⟩ K):Zj P N dst k xs F H K := .inl ⟨r,h,hx,hr,hk⟩
section
variable {P:Program} {N:Nat} {ops rest:List Oper} {Fs F0:Fr} {H0 H:List Bk} {F:Fr} {o:Oper} {K:St→Prop} {K':Fr→St→Prop}
end
section
variable {P:Program} {c c0:Cx} {N:Nat} {s:St} {a a0:Act} {w w0:World} {Fs F0:Fr} {H0:List Bk}
end
section
variable {P:Program} {N:Nat} {bad:List (Nat×Nat×List Nat)} {F:Fr} {H:List Bk} {Q:Exit→St→Prop} {c c':Code} {x:Operand} {id:Nat} {draw:Bool} {arr:Array Oper}
end
end AM
end Go.Proofs.YtnconfggojpkcaaGreat
namespace Go.Proofs.YtnconfggojpkcaaGreat
open Go.RowKit AM
attribute [local simp] zQ qU jL zT zq zR zS zo jM zu qV Z8 Qm jC Ql yc ZE vZ slF qG Qo zK yx zA shares jh yt ze Qz QI qY ZF qZ qM vX zH yu Qe qL zD zG vU slV jE jG yE zU ZJ jB jF aMM aUn Qp vW jD zC jA qJ vV Qu vY vS Zw y9 qK Qs ZK zJ zI jH jR ZH eval zZ AM.valOf qm vO yR del SV.refers zY vQ jU shift ldV V.exact V.jg V.ofValue V.vP V.vL V.cells V.one Value.oneCell' ZI QY jV Q5 ZM ZC Qa Zy jl jI Qi ZL y8 yX Qr calm Qt Zn Qk feeds shrinks Qx looks isT Qf vK Qd putAt jT jc Zm sliceB isEq Qg zk qH zO zn qR zl zm qQ zP zi qP ZW Qw yB Zl QZ inO y7 Zi Mix.vT Mix.Qc QB QX qz qj qW zh qO ZV Qq yg yh ZG Zb yw yO Q8 jW V.fixed V.vC
namespace Pt
end Pt
namespace Ce
end Ce
namespace Re
end Re
theorem yS (n:Int):PFn Tryz.prog 78 [.sc (.int .i64 n)] (.sc (.bool (inside n))):=by
 refine vwc (fn:=Tryz.f78) rfl (vwb ?_)
 simp only [Tryz.f78,ql]
 simp
 simp [gd,inside]
 grind
theorem VF (p:Pt):PFn Tryz.prog 33 [p.v] (.sc (.bool (fits p))):=by
 unfold Pt.v Pt.cs
 refine vwc (fn:=Tryz.f33) rfl (vwb ?_)
 simp only [Tryz.f33,ql]
 simp
 refine qc.pure (yS _) rfl rfl ?_
 simp
 refine gd.intro (fun e => ?_) (fun e => ?_)
 ·refine qc.pure (yS _) rfl rfl ?_
  simp [fits,e]
 ·simp [fits]
  simp at e
  simp [e]
theorem yC (p:Re):PFn Tryz.prog 28 [p.v] (.sc (.bool (qd p))):=by
 unfold Re.v Re.cs
 refine vwc (fn:=Tryz.f28) rfl (vwb ?_)
 simp only [Tryz.f28,ql]
 have e:∀ b,qd p=b→(inside p.x0=true→inside p.x1=true→inside p.y0=true→inside p.y1=true→(decide (p.x0≤p.x1)&&decide (p.y0≤p.y1))=b):=fun b h h1 h2 h3 h4=>by
  rw [← h]; simp [qd,h1,h2,h3,h4]
 simp
 refine qc.pure (yS _) rfl rfl ?_
 cases h1:inside p.x0
 ·simp [qd,h1]
 simp
 refine qc.pure (yS _) rfl rfl ?_
 cases h2:inside p.x1
 ·simp [qd,h2]
 simp
 refine qc.pure (yS _) rfl rfl ?_
 cases h3:inside p.y0
 ·simp [qd,h3]
 simp
 refine qc.pure (yS _) rfl rfl ?_
 cases h4:inside p.y1
 ·simp [qd,h4]
 simp
 simp [gd,qd,h1,h2,h3,h4]
 grind
theorem qbc (r:Re) (p:Pt):PFn Tryz.prog 37 [r.v,p.v] (.sc (.bool (yV r p))):=by
 have hR:=yC r
 unfold Re.v Re.cs at hR ⊢
 unfold Pt.v Pt.cs
 refine vwc (fn:=Tryz.f37) rfl (vwb ?_)
 simp only [Tryz.f37,ql]
 simp
 refine qc.pure hR rfl rfl ?_
 cases h1:qd r
 ·simp [yV,h1]
 simp
 simp [gd,yV,h1]
 grind
theorem Yt (n:Int):PFn Tryz.prog 121 [.sc (.int .i64 n)] (.sc (.bool (vR n))):=by
 refine vwc (fn:=Tryz.f121) rfl (vwb ?_)
 simp only [Tryz.f121,ql]
 simp
 simp [gd,vR]
 grind
def qi5 (n:Int) (k:Nat) (F:Fr) (H:List Bk):Prop:=H = []∧F = [(0,.v (.sc (.int .i64 n))),(3,.v (.sc (.int .i64 (2 ^ k)))),(4,.v (.sc (.int .i64 k)))]
theorem KS (n:Int) (h:n≤16):PFn Tryz.prog 165 [.sc (.int .i64 n)] (.sc (.int .i64 (two n))):=by
 refine vwc (fn:=Tryz.f165) rfl (vwb ?_)
 simp only [Tryz.f165,ql]
 simp
 refine AW.count n.toNat (qi5 n) ⟨_,?_,rfl,rfl⟩ ?_
 ·simp [qz,qj,qm]
 rintro k F H hk ⟨rfl,rfl⟩
 refine AW.of mixed (by kernel_rfl) ?_
 by_cases hlt:(k:Int)<n
 ·have hk15:k≤15:=by omega
  have e1:=qii (k:=k) (n:=15) hk15
  have e2:=qee k
  have w1:IntKind.i64.wrap ((k:Int)+1)=(k:Int)+1:=by rw [wrap_i64] <;> omega
  have w2:IntKind.i64.wrap (2*2 ^ k)=2 ^ (k+1):=by
   rw [Int.pow_succ,Int.mul_comm]
   rw [wrap_i64]
   ·generalize (2:Int) ^ k=z at *; omega
   ·have:(2:Int) ^ 15=32768:=by decide
    generalize (2:Int) ^ k=z at *; omega
  simp [hlt,w1,w2,qi5]
 ·have:n.toNat=k:=by omega
  simp [hlt,two,this]
theorem Ym (l:Int) (h:0≤l) (h':l≤16):PFn Tryz.prog 122 [.sc (.int .i64 l)] (.sc (.int .i64 (side l))):=by
 refine vwc (fn:=Tryz.f122) rfl (vwb ?_)
 simp only [Tryz.f122,ql]
 have w1:IntKind.i64.wrap (16 - l)=16 - l:=by rw [wrap_i64] <;> omega
 simp [w1]
 refine qc.pure (KS _ (by omega)) rfl rfl ?_
 simp [side]
end Go.Proofs.YtnconfggojpkcaaGreat
namespace Go.Proofs.YtnconfggojpkcaaGreat
open Go.RowKit AM
attribute [local simp] zQ qU jL zT zq zR zS zo jM zu qV Z8 Qm jC Ql yc ZE vZ slF qG Qo zK yx zA shares jh yt ze Qz QI qY ZF qZ qM vX zH yu Qe qL zD zG vU slV jE jG yE zU ZJ jB jF aMM aUn Qp vW jD zC jA qJ vV Qu vY vS Zw y9 qK Qs ZK zJ zI jH jR ZH eval zZ AM.valOf qm vO yR del SV.refers zY vQ jU shift ldV V.exact V.jg V.ofValue V.vP V.vL V.cells V.one Value.oneCell' ZI QY jV Q5 ZM ZC Qa Zy jl jI Qi ZL y8 yX Qr calm Qt Zn Qk feeds shrinks Qx looks isT Qf vK Qd putAt jT jc Zm sliceB isEq Qg zk qH zO zn qR zl zm qQ zP zi qP ZW Qw yB Zl QZ inO y7 Zi Mix.vT Mix.Qc QB QX qz qj qW zh qO ZV Qq yg yh ZG Zb yw yO Q8 jW V.fixed V.vC
theorem qao (c:Ce):PFn Tryz.prog 123 [c.v] (.sc (.bool (yj c))):=by
 unfold Ce.v Ce.cs
 refine vwc (fn:=Tryz.f123) rfl (vwa [(1,27,[1])] ?_)
 simp only [Tryz.f123,ql]
 simp
 refine qc.pure (Yt _) rfl rfl ?_
 cases h1:vR c.l
 ·simp [yj,h1]
 have h:=zy.1 h1
 simp
 refine gd.intro (fun e => ?_) (fun e => ?_)
 rotate_left
 ·simp at e
  simp [yj,h1]
  omega
 try simp
 refine gd.intro (fun e2 => ?_) (fun e2 => ?_)
 rotate_left
 ·simp at e2
  simp [yj,h1]
  omega
 try simp
 refine qc.pure (KS _ h.2) rfl rfl ?_
 try simp
 refine gd.intro (fun e3 => ?_) (fun e3 => ?_)
 rotate_left
 ·simp at e3
  simp [yj,h1]
  omega
 try simp
 refine qc.pure (KS _ h.2) rfl rfl ?_
 simp at e e2 e3
 simp [yj,h1,e,e2,e3]
theorem WW {a b:Int} (h:0≤a) (hb:0<b):0≤a/b∧a/b≤a:=⟨Int.ediv_nonneg h (by omega),by
 have:=Int.ediv_le_self b h
 exact this⟩
theorem qid (p:Pt) (l:Int):PFn Tryz.prog 68 [p.v,.sc (.int .i64 l)] (.tup [(ofR p l).1.v,.sc (.bool (ofR p l).2)]):=by
 have hF:=VF p
 unfold Pt.v Pt.cs at hF ⊢
 refine vwc (fn:=Tryz.f68) rfl (vwa [(3,11,[1,2])] ?_)
 simp only [Tryz.f68,ql]
 simp
 refine qc.pure (Yt _) rfl rfl ?_
 cases h1:vR l
 ·simp [setCells,qo,ofR,h1,Ce.v,Ce.cs,Ce.zero]
 simp
 refine qc.pure hF rfl rfl ?_
 cases h2:fits p
 ·simp [setCells,qo,ofR,h1,h2,Ce.v,Ce.cs,Ce.zero]
 have h:=zy.1 h1
 have h3:=qc7.1 h2
 have hp:=VP l
 have hne:side l≠0:=by omega
 simp
 refine qc.pure (Ym l h.1 h.2) rfl rfl ?_
 simp [Yi,hne]
 refine qc.pure (Ym l h.1 h.2) rfl rfl ?_
 have q1:=WW h3.1.1 hp
 have q2:=WW h3.2.1 hp
 have w1:IntKind.i64.wrap (p.x.tdiv (side l))=p.x/side l:=by rw [Int.tdiv_eq_ediv_of_nonneg h3.1.1,wrap_i64] <;> omega
 have w2:IntKind.i64.wrap (p.y.tdiv (side l))=p.y/side l:=by rw [Int.tdiv_eq_ediv_of_nonneg h3.2.1,wrap_i64] <;> omega
 simp [Yi,hne,w1,w2,setCells,qo,ofR,h1,h2,Ce.v,Ce.cs,cellOf]
theorem qfo (c:Ce):PFn Tryz.prog 69 [c.v] (.tup [(JD c).1.v,.sc (.bool (JD c).2)]):=by
 have hF:=qao c
 unfold Ce.v Ce.cs at hF ⊢
 refine vwc (fn:=Tryz.f69) rfl (vwb ?_)
 simp only [Tryz.f69,ql]
 simp
 refine qc.pure hF rfl rfl ?_
 cases h1:yj c
 ·simp [setCells,qo,JD,h1,Re.v,Re.cs,Re.zero]
 have h:=yI.1 h1
 have hb:=qgT h1
 have hp:=VP c.l
 simp
 refine qc.pure (Ym c.l h.1.1 h.1.2) rfl rfl ?_
 have w1:IntKind.i64.wrap (side c.l*c.x)=side c.l*c.x:=by rw [wrap_i64] <;> omega
 have w2:IntKind.i64.wrap (side c.l*c.y)=side c.l*c.y:=by rw [wrap_i64] <;> omega
 have w3:IntKind.i64.wrap (side c.l*c.x+side c.l)=side c.l*c.x+side c.l:=by rw [wrap_i64] <;> omega
 have w4:IntKind.i64.wrap (side c.l*c.y+side c.l)=side c.l*c.y+side c.l:=by rw [wrap_i64] <;> omega
 have w5:IntKind.i64.wrap (side c.l*c.x+side c.l - 1)=side c.l*c.x+side c.l - 1:=by rw [wrap_i64] <;> omega
 have w6:IntKind.i64.wrap (side c.l*c.y+side c.l - 1)=side c.l*c.y+side c.l - 1:=by rw [wrap_i64] <;> omega
 simp [w1,w2,w3,w4,w5,w6,setCells,qo,JD,h1,Re.v,Re.cs,jy]
theorem qbK (a b:Re):PFn Tryz.prog 26 [a.v,b.v] (.sc (.bool (inB a b))):=by
 have h1:=yC a
 have h2:=yC b
 unfold inB
 unfold Re.v Re.cs at h1 h2 ⊢
 refine vwc (fn:=Tryz.f26) rfl (vwb ?_)
 simp only [Tryz.f26,ql]
 simp
 refine qc.pure h1 rfl rfl ?_
 cases e:qd a with
 | false=>simp
 | true =>
  simp
  refine qc.pure h2 rfl rfl ?_
  cases e2:qd b with
  | false=>simp
  | true =>
   simp
   simp [gd]
   grind
end Go.Proofs.YtnconfggojpkcaaGreat
namespace Go.Proofs.YtnconfggojpkcaaGreat
open Go.RowKit AM
attribute [local simp] zQ qU jL zT zq zR zS zo jM zu qV Z8 Qm jC Ql yc ZE vZ slF qG Qo zK yx zA shares jh yt ze Qz QI qY ZF qZ qM vX zH yu Qe qL zD zG vU slV jE jG yE zU ZJ jB jF aMM aUn Qp vW jD zC jA qJ vV Qu vY vS Zw y9 qK Qs ZK zJ zI jH jR ZH eval zZ AM.valOf qm vO yR del SV.refers zY vQ jU shift ldV V.exact V.jg V.ofValue V.vP V.vL V.cells V.one Value.oneCell' ZI QY jV Q5 ZM ZC Qa Zy jl jI Qi ZL y8 yX Qr calm Qt Zn Qk feeds shrinks Qx looks isT Qf vK Qd putAt jT jc Zm sliceB isEq Qg zk qH zO zn qR zl zm qQ zP zi qP ZW Qw yB Zl QZ inO y7 Zi Mix.vT Mix.Qc QB QX qz qj qW zh qO ZV Qq yg yh ZG Zb yw yO Q8 jW V.fixed V.vC
attribute [local simp] vE je yL vH jQ vF vG jP yM vk jN V5 Ja yF QT Jb z0 JL VK Vo VU
def qbw:Pr:=⟨0,⟨0,0⟩,0⟩
def Xp (S:List Pr) (k:Int):V:=match VY S k with
 | some s => .tup [s.v,.sc (.bool true)]
 | none => .tup [qbw.v,.sc (.bool false)]
theorem XG (n:Int):PFn Tryz.prog 189 [.sc (.int .i64 n)] (.sc (.bool (yA n 255))):=by
 unfold yA
 refine vwc (fn:=Tryz.f189) rfl (vwb ?_)
 simp only [Tryz.f189,ql]
 by_cases h1:0≤n
 ·by_cases h2:n≤255
  ·simp [h1,h2]
  ·simp [h1,h2]
 ·simp [h1]
theorem Jo (n:Int):PFn Tryz.prog 190 [.sc (.int .i64 n)] (.sc (.bool (yA n 7))):=by
 unfold yA
 refine vwc (fn:=Tryz.f190) rfl (vwb ?_)
 simp only [Tryz.f190,ql]
 by_cases h1:0≤n
 ·by_cases h2:n≤7
  ·simp [h1,h2]
  ·simp [h1,h2]
 ·simp [h1]
def TwI (n:Nat) (k:Nat) (F:Fr) (H:List Bk):Prop:=F = [(0,.v (.sc (.int .i64 n))),(3,.v (.sc (.int .i64 (pw k:Nat)))),(4,.v (.sc (.int .i64 k)))]
theorem qbJ (n:Nat) (h:n≤7):PFn Tryz.prog 221 [.sc (.int .i64 n)] (.sc (.int .i64 (pw n:Nat))):=by
 refine vwc (fn:=Tryz.f221) rfl (vwb ?_)
 simp only [Tryz.f221,ql]
 simp
 refine AW.count n (TwI n) ⟨_,?_,rfl⟩ ?_
 ·simp [qz,qj,qm,pw]
 rintro k F H hk rfl
 refine vwb ?_
 by_cases hlt:k<n
 ·have w1:IntKind.i64.wrap ((k:Int)+1)=(k:Int)+1:=by rw [wrap_i64] <;> omega
  have hp:pw k≤2 ^ 7:=Nat.pow_le_pow_right (by decide) (by omega)
  have e2:pw (k+1)=2*pw k:=by unfold pw; rw [Nat.pow_succ]; omega
  have w2:IntKind.i64.wrap (2*((pw k:Nat):Int))=((pw (k+1):Nat):Int):=by
   rw [e2]
   rw [wrap_i64] <;> omega
  have hlt':(k:Int)<n:=by omega
  simp [hlt,hlt',w1,w2]
  refine ⟨_,?_,rfl⟩
  simp [qz,qj,qm]
 ·have hk':k=n:=by omega
  subst hk'
  simp
theorem WC (sum n:Int) (h1:0≤sum∧sum≤255) (h2:0≤n∧n≤7):PFn Tryz.prog 191 [.sc (.int .i64 sum),.sc (.int .i64 n)] (.sc (.bool (inS sum n))):=by
 obtain ⟨s,rfl⟩:∃ s:Nat,sum=s:=⟨sum.toNat,by omega⟩
 obtain ⟨m,rfl⟩:∃ m:Nat,n=m:=⟨n.toNat,by omega⟩
 have hT:=qbJ m (by omega)
 have hpos:0<pw m:=Nat.pow_pos (by decide)
 have e3:inS (s:Int) (m:Int)=((((s/pw m)%2:Nat):Int)==1):=by
  unfold inS pw
  rw [Bool.eq_iff_iff]
  simp
 rw [e3]
 generalize pw m=p at *
 have hle:s/p≤s:=Nat.div_le_self _ _
 have e0:(s:Int)/(p:Int)=((s/p:Nat):Int):=rfl
 have h0:¬ p=0:=by omega
 generalize s/p=q at *
 have e1:IntKind.i64.wrap (q:Int)=(q:Int):=by rw [wrap_i64] <;> omega
 have e2:(q:Int).tmod 2=(q:Int)%2:=Int.tmod_eq_emod_of_nonneg (by omega)
 refine vwc (fn:=Tryz.f191) rfl (vwb ?_)
 simp only [Tryz.f191,ql]
 simp
 refine qc.pure hT rfl rfl ?_
 simp [Yi,KH,e0,e1,e2,h0]
def ruB (r:Ru):Bk := .cells [.v (.sc (.int .i64 r.kind)),.v (.sc (.int .i64 r.roles)),.v (.sc (.int .i64 r.lo)),.v (.sc (.int .i64 r.hi)),.v (.sc (.int .i64 r.labels)),.v (slR r.boxes),.v (.sc (.int .i64 r.zoom))]
def RrI (r:Ru) (k:Nat) (F:Fr) (H:List Bk):Prop:=(∀ b∈r.boxes.take k,qd b=true)∧H = [ruB r]∧F = [(1,.v (.ptr 0 0)),(3,.v (.sc (.int .i64 k)))]
theorem XE {r:Ru} {k:Nat} (hk:k<r.boxes.length) (h:qd r.boxes[k]=false):qI r=false:=by
 have h1:=qaI hk h
 unfold qI
 rw [h1]
 split
 ·have:r.boxes ≠ []:=fun e=>by rw [e] at hk; simp at hk
  simp [this]
 ·simp
theorem WB (r:Ru) (hl:r.boxes.length≤9223372036854775807):PFn Tryz.prog 163 [r.v] (.sc (.bool (qI r))):=by
 have hR:=yC
 unfold Re.v Re.cs at hR
 have s1:=XG r.roles
 have s2:=XG r.labels
 unfold Ru.v Ru.cs
 refine vwc (fn:=Tryz.f163) rfl (vwb ?_)
 simp only [Tryz.f163,ql]
 simp [slR]
 refine AW.count r.boxes.length (RrI r) ⟨_,?_,by simp,rfl,rfl⟩ ?_
 ·simp [qz,qj,qm]
 rintro k F H hk ⟨ht,rfl,rfl⟩
 unfold ruB
 refine vwb ?_
 by_cases hlt:k<r.boxes.length
 ·have w1:IntKind.i64.wrap ((k:Int)+1)=(k:Int)+1:=by rw [wrap_i64] <;> omega
  have hRk:=hR r.boxes[k]
  have hrow:=qcH hlt
  simp [slR,hlt,hrow]
  refine qc.pure hRk rfl rfl ?_
  cases e:qd r.boxes[k] with
  | false=>simp [XE hlt e]
  | true =>
   simp [w1,slR,hlt]
   refine ⟨_,?_,Kt ht hlt e,rfl,rfl⟩
   simp [qz,qj,qm,slR]
 ·have hk':k=r.boxes.length:=by omega
  subst hk'
  rw [List.take_length] at ht
  have hall:=KJ ht
  by_cases h6:r.kind=6
  ·have er:qI r=(yA r.roles 255&&decide (r.lo=0)&&decide (r.hi=0)&&decide (r.labels=0)&&decide (r.boxes = [])&&decide (r.zoom=0)):=by
    unfold qI
    rw [if_pos h6]
   rw [er]
   generalize yA r.roles 255=b1 at *
   have hz:∀ n:Int,(n=0∧(n==0)=true)∨(n≠0∧(n==0)=false):=fun n=>by
    by_cases h:n=0
    ·exact .inl ⟨h,by simpa using h⟩
    ·exact .inr ⟨h,by simpa using h⟩
   have hy:(r.boxes = []∧((r.boxes.length:Int)==0)=true)∨(r.boxes ≠ []∧((r.boxes.length:Int)==0)=false):=by
    by_cases h:r.boxes = []
    ·exact .inl ⟨h,by simp [h]⟩
    ·exact .inr ⟨h,by simp [h]⟩
   simp [slR,h6]
   refine qc.pure s1 rfl rfl ?_
   cases b1 with
   | false=>simp
   | true =>
    simp [slR]
    rcases hz r.lo with ⟨a1,x1⟩ | ⟨a1,x1⟩ <;> rcases hz r.hi with ⟨a2,x2⟩ | ⟨a2,x2⟩ <;> rcases hz r.labels with ⟨a3,x3⟩ | ⟨a3,x3⟩ <;> rcases hy with ⟨a4,x4⟩ | ⟨a4,x4⟩ <;> rcases hz r.zoom with ⟨a5,x5⟩ | ⟨a5,x5⟩ <;> simp [a1,a2,a3,a4,a5,x1,x2,x3,x4,x5]
  ·have er:qI r=(decide (r.kind=4∨r.kind=5)&&yA r.roles 255&&decide (0≤r.lo)&&decide (r.lo≤r.hi)&&decide (r.hi≤7)&&yA r.labels 255&&true&&decide (0≤r.zoom∧r.zoom≤16)):=by
    unfold qI
    rw [if_neg h6,hall]
    rfl
   rw [er]
   generalize yA r.roles 255=b1 at *
   generalize yA r.labels 255=b2 at *
   have n6:(r.kind==6)=false:=by simpa using h6
   by_cases h45:r.kind=4∨r.kind=5
   ·rcases h45 with h4 | h4
    all_goals
     simp [slR,n6,h4]
     refine qc.pure s1 rfl rfl ?_
     cases b1 with
     | false=>simp
     | true =>
      simp [slR]
      refine qc.pure s2 rfl rfl ?_
      cases b2 with
      | false=>simp
      | true =>
       by_cases a1:0≤r.lo
       ·by_cases a2:r.lo≤r.hi
        ·by_cases a3:r.hi≤7
         ·by_cases a4:0≤r.zoom
          ·by_cases a5:r.zoom≤16
           ·simp [slR,a1,a2,a3,a4,a5]
           ·simp [slR,a1,a2,a3,a4,a5]
          ·simp [slR,a1,a2,a3,a4]
         ·simp [slR,a1,a2,a3]
        ·simp [slR,a1,a2]
       ·simp [slR,a1]
   ·have n4:(r.kind==4)=false:=by simp; omega
    have n5:(r.kind==5)=false:=by simp; omega
    simp [slR,n6,n4,n5,h45]
def RaI (l:List Ru) (k:Nat) (F:Fr) (H:List Bk):Prop:=(∀ r∈l.take k,qI r=true)∧F = [(0,.v (slU l)),(3,.v (.sc (.int .i64 k)))]
theorem qfp (l:List Ru) (hl:l.length≤9223372036854775807) (hb:∀ r∈l,r.boxes.length≤9223372036854775807):PFn Tryz.prog 119 [slU l] (.sc (.bool (l.all qI))):=by
 have hR:=fun r h=>WB r (hb r h)
 unfold Ru.v Ru.cs at hR
 refine vwc (fn:=Tryz.f119) rfl (vwb ?_)
 simp only [Tryz.f119,ql]
 simp [slU]
 refine AW.count l.length (RaI l) ⟨_,?_,by simp,rfl⟩ ?_
 ·simp [qz,qj,qm,slU]
 rintro k F H hk ⟨ht,rfl⟩
 refine vwb ?_
 by_cases hlt:k<l.length
 ·have w1:IntKind.i64.wrap ((k:Int)+1)=(k:Int)+1:=by rw [wrap_i64] <;> omega
  have hRk:=hR l[k] (List.getElem_mem hlt)
  have hrow:=qan hlt
  unfold slR at hrow hRk
  simp [slU,hlt,hrow]
  refine qc.pure hRk (by simp [V.qA,V.closed,zV (enc:=Re.cs) (fun _=>rfl)]) rfl ?_
  cases e:qI l[k] with
  | false=>simp [qaI hlt e]
  | true =>
   simp [w1,slU,hlt]
   refine ⟨_,?_,Kt ht hlt e,rfl⟩
   simp [qz,qj,qm,slU]
 ·have hk':k=l.length:=by omega
  subst hk'
  rw [List.take_length] at ht
  simp [slU,KJ ht]
theorem qdt {r:Ru} (h:qI r=true):(r.kind<6)↔¬ r.kind=6:=by
 unfold qI at h
 split at h
 ·omega
 ·simp at h
  omega
theorem qfn (r:Ru) (ro ti la:Int) (hl:r.boxes.length≤9223372036854775807):PFn Tryz.prog 164 [r.v,.sc (.int .i64 ro),.sc (.int .i64 ti),.sc (.int .i64 la)] (.sc (.bool (XO r ro ti la))):=by
 have h1:=WB r hl
 have n1:=Jo ro
 have n2:=Jo ti
 have n3:=Jo la
 have cv:V.qA [r.v]=true:=by simp [V.qA,V.closed,Ru.v,YL]
 unfold XO QU
 unfold Ru.v Ru.cs at h1 cv ⊢
 cases e1:qI r with
 | false =>
  rw [e1] at h1
  refine vwc (fn:=Tryz.f164) rfl (vwb ?_)
  simp only [Tryz.f164,ql]
  simp [slR]
  refine qc.pure h1 cv rfl ?_
  simp
 | true =>
  rw [e1] at h1
  have hk:=qdt e1
  by_cases h6:r.kind=6
  ·have n6:¬ r.kind<6:=by omega
   refine vwc (fn:=Tryz.f164) rfl (vwb ?_)
   simp only [Tryz.f164,ql]
   simp [slR]
   refine qc.pure h1 cv rfl ?_
   simp [n6,h6]
  ·have n6:r.kind<6:=hk.2 h6
   cases e2:yA ro 7 with
   | false =>
    rw [e2] at n1
    refine vwc (fn:=Tryz.f164) rfl (vwb ?_)
    simp only [Tryz.f164,ql]
    simp [slR]
    refine qc.pure h1 cv rfl ?_
    simp [n6,h6]
    refine qc.pure n1 rfl rfl ?_
    simp
   | true =>
    rw [e2] at n1
    cases e3:yA ti 7 with
    | false =>
     rw [e3] at n2
     refine vwc (fn:=Tryz.f164) rfl (vwb ?_)
     simp only [Tryz.f164,ql]
     simp [slR]
     refine qc.pure h1 cv rfl ?_
     simp [n6,h6]
     refine qc.pure n1 rfl rfl ?_
     simp
     refine qc.pure n2 rfl rfl ?_
     simp
    | true =>
     rw [e3] at n2
     cases e4:yA la 7 with
     | false =>
      rw [e4] at n3
      refine vwc (fn:=Tryz.f164) rfl (vwb ?_)
      simp only [Tryz.f164,ql]
      simp [slR]
      refine qc.pure h1 cv rfl ?_
      simp [n6,h6]
      refine qc.pure n1 rfl rfl ?_
      simp
      refine qc.pure n2 rfl rfl ?_
      simp
      refine qc.pure n3 rfl rfl ?_
      simp
     | true =>
      rw [e4] at n3
      have hn:(0≤ro∧ro≤7)∧(0≤la∧la≤7):=by
       unfold yA at e2 e4
       simp at e2 e4
       omega
      have h3:=WC r.roles ro (Kv e1) hn.1
      have h4:=WC r.labels la (XD e1) hn.2
      generalize inS r.roles ro=b3 at *
      generalize inS r.labels la=b4 at *
      refine vwc (fn:=Tryz.f164) rfl (vwb ?_)
      simp only [Tryz.f164,ql]
      simp [slR]
      refine qc.pure h1 cv rfl ?_
      simp [n6,h6]
      refine qc.pure n1 rfl rfl ?_
      simp
      refine qc.pure n2 rfl rfl ?_
      simp
      refine qc.pure n3 rfl rfl ?_
      simp
      refine qc.pure h3 rfl rfl ?_
      cases b3 with
      | false=>simp
      | true =>
       by_cases a1:r.lo≤ti
       ·by_cases a2:ti≤r.hi
        ·simp [a1,a2]
         refine qc.pure h4 rfl rfl ?_
         simp
        ·simp [a1,a2]
       ·simp [a1]
def F2I (r:Ru) (p:Pt) (k:Nat) (F:Fr) (H:List Bk):Prop:=(∀ b∈r.boxes.take k,yV b p=false)∧H = [ruB r,YN p]∧F = [(5,.v (.ptr 0 0)),(9,.v (.ptr 1 0)),(11,.v (.sc (.int .i64 k)))]
theorem qdn (r:Ru) (ro ti la:Int) (p:Pt) (hl:r.boxes.length≤9223372036854775807):PFn Tryz.prog 120 [r.v,.sc (.int .i64 ro),.sc (.int .i64 ti),.sc (.int .i64 la),p.v] (.sc (.bool (yQ ro ti la p r))):=by
 have h1:=qfn r ro ti la hl
 have h2:=VF p
 have hR:=fun b=>qbc b p
 have cv:V.qA [r.v,.sc (.int .i64 ro),.sc (.int .i64 ti),.sc (.int .i64 la)]=true:=by simp [V.qA,V.closed,Ru.v,YL]
 unfold yQ
 unfold Ru.v Ru.cs at h1 cv ⊢
 unfold Re.v Re.cs Pt.v Pt.cs at hR
 unfold Pt.v Pt.cs at h2 ⊢
 cases e1:XO r ro ti la with
 | false =>
  rw [e1] at h1
  refine vwc (fn:=Tryz.f120) rfl (vwb ?_)
  simp only [Tryz.f120,ql]
  simp [slR]
  refine qc.pure h1 cv rfl ?_
  simp
 | true =>
  rw [e1] at h1
  cases e2:fits p with
  | false =>
   rw [e2] at h2
   have hf:hasB r.boxes p=false:=by
    rw [Bool.eq_false_iff]
    intro h
    rw [qcX h] at e2
    cases e2
   refine vwc (fn:=Tryz.f120) rfl (vwb ?_)
   simp only [Tryz.f120,ql]
   simp [slR]
   refine qc.pure h1 cv rfl ?_
   simp
   refine qc.pure h2 rfl rfl ?_
   simp [hf]
  | true =>
   rw [e2] at h2
   refine vwc (fn:=Tryz.f120) rfl (vwb ?_)
   simp only [Tryz.f120,ql]
   simp [slR]
   refine qc.pure h1 cv rfl ?_
   simp
   refine qc.pure h2 rfl rfl ?_
   simp
   refine AW.count r.boxes.length (F2I r p) ⟨_,?_,by simp,rfl,rfl⟩ ?_
   ·simp [qz,qj,qm]
   rintro k F H hk ⟨ht,rfl,rfl⟩
   unfold ruB YN
   refine vwb ?_
   by_cases hlt:k<r.boxes.length
   ·have w1:IntKind.i64.wrap ((k:Int)+1)=(k:Int)+1:=by rw [wrap_i64] <;> omega
    have hRk:=hR r.boxes[k]
    have hrow:=qcH hlt
    simp [slR,hlt,hrow]
    refine qc.pure hRk rfl rfl ?_
    cases e:yV r.boxes[k] p with
    | true =>
     have:hasB r.boxes p=true:=List.any_eq_true.2 ⟨_,List.getElem_mem hlt,e⟩
     simp [this]
    | false =>
     simp [w1,slR,hlt]
     refine ⟨_,?_,qeK ht hlt e,rfl,rfl⟩
     simp [qz,qj,qm,slR]
   ·have hk':k=r.boxes.length:=by omega
    subst hk'
    rw [List.take_length] at ht
    have hall:hasB r.boxes p=false:=qi1 ht
    simp [slR,hall]
def ZaI (l:List Ru) (ro ti la:Int) (p:Pt) (k:Nat) (F:Fr) (H:List Bk):Prop:=H = [YN p]∧F = [(0,.v (slU l)),(1,.v (.sc (.int .i64 ro))),(2,.v (.sc (.int .i64 ti))),(3,.v (.sc (.int .i64 la))),(9,.v (.ptr 0 0)),(11,.v (.sc (.int .i64 ((l.take k).foldl (QD (yQ ro ti la p)) 0)))),(12,.v (.sc (.int .i64 k)))]
def ZcI (l:List Ru) (ro ti la:Int) (p:Pt) (a:Int) (k:Nat) (F:Fr) (H:List Bk):Prop:=H = [YN p]∧F = [(0,.v (slU l)),(1,.v (.sc (.int .i64 ro))),(2,.v (.sc (.int .i64 ti))),(3,.v (.sc (.int .i64 la))),(9,.v (.ptr 0 0)),(11,.v (.sc (.int .i64 ((l.take k).foldl (VB (yQ ro ti la p)) a)))),(13,.v (.sc (.int .i64 k)))]
theorem qaE (l:List Ru) (ro ti la:Int) (p:Pt) (hl:l.length≤9223372036854775807) (hb:∀ r∈l,r.boxes.length≤9223372036854775807):PFn Tryz.prog 67 [slU l,.sc (.int .i64 ro),.sc (.int .i64 ti),.sc (.int .i64 la),p.v] (.sc (.int .i64 (vN l ro ti la p))):=by
 have h1:=qfp l hl hb
 have h2:=fun r h=>qdn r ro ti la p (hb r h)
 have c1:=yT l
 unfold Ru.v Ru.cs Pt.v Pt.cs at h2
 unfold vN
 unfold Pt.v Pt.cs
 cases e1:l.all qI with
 | false =>
  rw [e1] at h1
  refine vwc (fn:=Tryz.f67) rfl (vwb ?_)
  simp only [Tryz.f67,ql]
  simp
  refine qc.pure h1 (by simp [V.qA,c1]) rfl ?_
  simp
 | true =>
  rw [e1] at h1
  refine vwc (fn:=Tryz.f67) rfl (vwb ?_)
  simp only [Tryz.f67,ql]
  simp
  refine qc.pure h1 (by simp [V.qA,c1]) rfl ?_
  simp
  refine AW.count l.length (ZaI l ro ti la p) ⟨_,?_,rfl,rfl⟩ ?_
  ·simp [qz,qj,qm]
  rintro k F H hk ⟨rfl,rfl⟩
  unfold YN
  refine vwb ?_
  by_cases hlt:k<l.length
  ·have w1:IntKind.i64.wrap ((k:Int)+1)=(k:Int)+1:=by rw [wrap_i64] <;> omega
   have hFk:=h2 l[k] (List.getElem_mem hlt)
   have hrow:=qan hlt
   have hst:=yD (f:=QD (yQ ro ti la p)) (b:=0) hlt
   unfold slR at hrow hFk
   generalize (l.take k).foldl (QD (yQ ro ti la p)) 0=z at *
   by_cases h4:l[k].kind=4
   ·by_cases hz:z<l[k].zoom
    ·simp [slU,hlt,hrow,h4,hz]
     rw [h4] at hFk
     refine qc.pure hFk (by simp [V.qA,V.closed,zV (enc:=Re.cs) (fun _=>rfl)]) rfl ?_
     cases e5:yQ ro ti la p l[k] with
     | true =>
      have e:QD (yQ ro ti la p) z l[k]=l[k].zoom:=by unfold QD; rw [if_pos ⟨h4,hz,e5⟩]
      rw [e] at hst
      simp [slU,hlt,hrow,w1]
      refine ⟨_,?_,rfl,rfl⟩
      rw [hst]
      simp [qz,qj,qm,slU]
     | false =>
      have e:QD (yQ ro ti la p) z l[k]=z:=by unfold QD; rw [if_neg (fun h=>by rw [e5] at h; exact absurd h.2.2 (by decide))]
      rw [e] at hst
      simp [slU,hlt,hrow,w1]
      refine ⟨_,?_,rfl,rfl⟩
      rw [hst]
      simp [qz,qj,qm,slU]
    ·have e:QD (yQ ro ti la p) z l[k]=z:=by unfold QD; rw [if_neg (fun h=>hz h.2.1)]
     rw [e] at hst
     simp [slU,hlt,hrow,h4,hz,w1]
     refine ⟨_,?_,rfl,rfl⟩
     rw [hst]
     simp [qz,qj,qm,slU]
   ·have e:QD (yQ ro ti la p) z l[k]=z:=by unfold QD; rw [if_neg (fun h=>h4 h.1)]
    rw [e] at hst
    have n4:(l[k].kind==4)=false:=by simpa using h4
    simp [slU,hlt,hrow,n4,w1]
    refine ⟨_,?_,rfl,rfl⟩
    rw [hst]
    simp [qz,qj,qm,slU]
  ·have hk':k=l.length:=by omega
   subst hk'
   rw [List.take_length]
   unfold qe3
   generalize l.foldl (QD (yQ ro ti la p)) 0=a at *
   simp [slU]
   refine AW.count l.length (ZcI l ro ti la p a) ⟨_,?_,rfl,rfl⟩ ?_
   ·simp [qz,qj,qm,slU]
   rintro k F H hk ⟨rfl,rfl⟩
   unfold YN
   refine vwb ?_
   by_cases hlt:k<l.length
   ·have w1:IntKind.i64.wrap ((k:Int)+1)=(k:Int)+1:=by rw [wrap_i64] <;> omega
    have hFk:=h2 l[k] (List.getElem_mem hlt)
    have hrow:=qan hlt
    have hst:=yD (f:=VB (yQ ro ti la p)) (b:=a) hlt
    unfold slR at hrow hFk
    generalize (l.take k).foldl (VB (yQ ro ti la p)) a=z at *
    by_cases h4:l[k].kind=5
    ·by_cases hz:l[k].zoom<z
     ·simp [slU,hlt,hrow,h4,hz]
      rw [h4] at hFk
      refine qc.pure hFk (by simp [V.qA,V.closed,zV (enc:=Re.cs) (fun _=>rfl)]) rfl ?_
      cases e5:yQ ro ti la p l[k] with
      | true =>
       have e:VB (yQ ro ti la p) z l[k]=l[k].zoom:=by unfold VB; rw [if_pos ⟨h4,hz,e5⟩]
       rw [e] at hst
       simp [slU,hlt,hrow,w1]
       refine ⟨_,?_,rfl,rfl⟩
       rw [hst]
       simp [qz,qj,qm,slU]
      | false =>
       have e:VB (yQ ro ti la p) z l[k]=z:=by unfold VB; rw [if_neg (fun h=>by rw [e5] at h; exact absurd h.2.2 (by decide))]
       rw [e] at hst
       simp [slU,hlt,hrow,w1]
       refine ⟨_,?_,rfl,rfl⟩
       rw [hst]
       simp [qz,qj,qm,slU]
     ·have e:VB (yQ ro ti la p) z l[k]=z:=by unfold VB; rw [if_neg (fun h=>hz h.2.1)]
      rw [e] at hst
      simp [slU,hlt,hrow,h4,hz,w1]
      refine ⟨_,?_,rfl,rfl⟩
      rw [hst]
      simp [qz,qj,qm,slU]
    ·have e:VB (yQ ro ti la p) z l[k]=z:=by unfold VB; rw [if_neg (fun h=>h4 h.1)]
     rw [e] at hst
     have n4:(l[k].kind==5)=false:=by simpa using h4
     simp [slU,hlt,hrow,n4,w1]
     refine ⟨_,?_,rfl,rfl⟩
     rw [hst]
     simp [qz,qj,qm,slU]
   ·have hk':k=l.length:=by omega
    subst hk'
    rw [List.take_length]
    simp [slU]
end Go.Proofs.YtnconfggojpkcaaGreat
namespace Go.Proofs.YtnconfggojpkcaaGreat
open Go.RowKit AM
theorem TrP.perm {H:List Bk} {r b:Nat} {S S':List Pr} {T:Nat→Prop} (h:TrP H r b S T) (hp:S.Perm S'):TrP H r b S' T:=by
 obtain ⟨nb,mb,cap,s,es,I,h,hT⟩:=h
 exact ⟨nb,mb,cap,s,es,I,⟨h.tr,h.rep.congr (fun _ _=>rfl) hp,h.fit,h.ok.sub (fun r hr=>hp.mem_iff.2 hr) (by rw [hp.length_eq]; exact Nat.le_refl _),(hp.map Pr.id).nodup_iff.1 h.ids,h.es.trans hp⟩,hT⟩
section
variable {H:List Bk} {r b:Nat} {S:List Pr} {T:Nat→Prop}
end
end Go.Proofs.YtnconfggojpkcaaGreat
namespace Go.Proofs.YtnconfggojpkcaaGreat
open Go.RowKit Go.ChangeShapes Go.WideShapes Go.ChangeAt AM
section
variable {H:Type}
theorem XT (d:DataW H):1≤Rows.uptoBulk d:=by
 cases d with
 | lit l=>cases l <;> simp [Rows.uptoBulk]
 | _=>simp [Rows.uptoBulk]
theorem JV {d:DataW H} {l:List (DataW H)} (h:d∈l):Rows.uptoBulk d≤Rows.uptoBulkAll l:=by
 induction l with
 | nil=>cases h
 | cons x r ih =>
  simp only [Rows.uptoBulkAll]
  rcases List.mem_cons.1 h with e | e
  ·subst e; omega
  ·have:=ih e; omega
theorem JA (l:List (DataW H)):l.length≤Rows.uptoBulkAll l:=by
 induction l with
 | nil=>simp [Rows.uptoBulkAll]
 | cons x r ih =>
  have:=XT x
  simp only [Rows.uptoBulkAll,List.length_cons]
  omega
theorem YK {x:Ru} {e:DataW H} (h:RuD x e):x.boxes.length≤Rows.uptoBulk e:=by
 obtain ⟨parts,e5,rfl,hp,hs⟩:=h
 have h1:=JV (List.mem_of_getElem? hp)
 rcases hs with h0 | ⟨es,sp,rfl,hl,_⟩
 ·rw [h0]; simp
 ·have h2:=JA es
  simp only [Rows.uptoBulk] at h1 ⊢
  omega
theorem V9 {xs:List Ru} {d:DataW H} (h:JB (fun (x:Ru) (e:DataW H)=>x.boxes.length≤maxLen∧RuD x e) xs d):(qg xs).length≤Rows.uptoBulk d:=by
 rcases h with rfl | ⟨es,sp,rfl,hl,hx⟩
 ·simp [qg]
 ·have go:∀ (xs:List Ru) (es:List (DataW H)),es.length=xs.length→(∀ (i:Nat) (x:Ru) (e:DataW H),xs[i]? = some x→es[i]? = some e→x.boxes.length≤maxLen∧RuD x e)→(qg xs).length≤Rows.uptoBulkAll es:=by
   intro xs
   induction xs with
   | nil=>intro es _ _; simp [qg]
   | cons x xs ih =>
    intro es hl hx
    cases es with
    | nil=>simp at hl
    | cons e es =>
     have h1:=ih es (by simpa using hl) fun i x e h1 h2=>hx (i+1) x e (by simpa using h1) (by simpa using h2)
     have h2:=YK (hx 0 x e rfl rfl).2
     have e1:qg (x::xs)=x.boxes++qg xs:=by simp [qg]
     rw [e1,List.length_append]
     simp only [Rows.uptoBulkAll]
     omega
  have h1:=go xs es hl hx
  simp only [Rows.uptoBulk]
  omega
theorem YJ {xs:List Ru} {d:DataW H} (h:JB (fun (x:Ru) (e:DataW H)=>x.boxes.length≤maxLen∧RuD x e) xs d):xs.length≤Rows.uptoBulk d:=by
 rcases h with rfl | ⟨es,sp,rfl,hl,hx⟩
 ·simp
 ·have:=JA es
  simp only [Rows.uptoBulk]
  omega
theorem Yh {ds:List (DataW H)} (hk:Rows.uptoSmall H ds=true):Rows.uptoBulkAll ds≤1048576:=of_decide_eq_true hk
end
theorem XK {f:FuncId} {fn:Func} {s:ChangeSpec} (hfn:Tryz.prog.funcs[f]? = some fn) (noInit:Tryz.prog.inits.idxOf? f=none) (hvars:s.vars = []) (hres:fn.resultTypes = #[4])
  (hts:∀ t∈fn.params.toList,Tryz.prog.readableRec t=true∧t<Tryz.prog.types.size) (hs:∀ (H:Type) (ds:List (DataW H)),ds.length=fn.params.toList.length→s.fn H ds = { results := [.lit (.bool true)],args:=ds })
  (os:Os) (started:os.Started) (H:Type) (enc:TypeId×Value→H) (F:Stop.Interp)
  (witness:∃ (w:World) (tape:Tape) (i:Input),w.os=os∧(w.forCall tape i).Shaped Tryz.prog∧i.vars = []∧Input.okWide Tryz.prog (w.forCall tape i) .any w.heap.size f i ∧
   (Rows.OpenSpec.upto s).pre6 enc Tryz.prog fn [] false (w.forCall tape i).memory i.args∧({}:Assume).holds Tryz.prog (lone (Frame.enter Tryz.prog f i.args .normal) [] (w.forCall tape i)))
  (walk:∀ (W:World) (base:Nat) (args:Array Value) (ds:List (DataW H)) (p:List MemPlace),(∀ (j:Nat) t v,fn.params[j]? = some t→args[j]? = some v→Value.okWide Tryz.prog W .any base t v) →
   DataW.TrodAll enc Tryz.prog W 0 (fun _=>true) true fn.params.toList args.toList ds p→Rows.uptoSmall H ds=true→Calls Tryz.prog f args W (Yes W)) :
  ReturnsInHanded {} Tryz.checked os f .any ((Rows.OpenSpec.upto s).pre6 enc Tryz.prog fn [] false) (((Rows.OpenSpec.upto s).at F).post enc Tryz.prog fn false true false false):=by
 refine returnsInHanded_of_cond (C:=Tryz.checked) (s:=Rows.OpenSpec.upto s) (k:=Rows.uptoSmall) rfl own started noInit hfn witness ?_
 intro W base args ds gs before hval hW _ hk _
 have hW:DataW.Whole enc Tryz.prog fn.params.toList s.vars false W args.toList ds gs before:=hW
 have hW':=hW
 obtain ⟨p,q,hA,hV,rfl,hfz,hnd⟩:=hW
 have hA':DataW.TrodAll enc Tryz.prog W 0 (fun _=>true) true fn.params.toList args.toList ds p:=hA
 obtain ⟨rfl,rfl⟩:gs = []∧q = []:=by
  rw [hvars] at hV
  exact trodVars_none hV
 rw [List.append_nil] at hk
 refine (walk W base args ds p hval hA' hk).mono fun e W' ⟨he,hb⟩ => ?_
 subst he
 have hlen:ds.length=fn.params.toList.length:=Wx hA'
 have hfn':s.fn H (ds ++ []) = { results := [.lit (.bool true)],args:=ds }:=by rw [List.append_nil]; exact hs H ds hlen
 have hlt:∀ x∈p,x.block<W.heap.size:=fun x hx=>hW'.lt x (by simpa using hx)
 have hp:s.post enc Tryz.prog fn false true false false W args (.bool true) W':=by
  refine V3 (pa:=p) (pv := []) hW' (fun b sp hd => ?_) (fun sp hsp => ?_) (fun sp _ => ?_) (by simp) hb ?_
  ·rw [hfn',hres]
   exact trodAll_cons_mk (shut_bool Tryz.underlying4 _) trodAll_mk0
  ·rw [hfn']
   exact X5 laidOut hb hts hA' hlt (fun x hx=>hsp x (by simpa using hx))
  ·rw [hvars,hfn']
   rfl
  ·exact ok_one hres rfl (okWide_bool_mk Tryz.underlying4 _)
 exact ⟨_,rfl,hp⟩
end Go.Proofs.YtnconfggojpkcaaGreat
namespace Go.Proofs.YtnconfggojpkcaaGreat
open Go.RowKit AM
attribute [local simp] zQ qU jL zT zq zR zS zo jM zu qV Z8 Qm jC Ql yc ZE vZ slF qG Qo zK yx zA shares jh yt ze Qz QI qY ZF qZ qM vX zH yu Qe qL zD zG vU slV jE jG yE zU ZJ jB jF aMM aUn Qp vW jD zC jA qJ vV Qu vY vS Zw y9 qK Qs ZK zJ zI jH jR ZH eval zZ AM.valOf qm vO yR del SV.refers zY vQ jU shift ldV V.exact V.jg V.ofValue V.vP V.vL V.cells V.one Value.oneCell' ZI QY jV Q5 ZM ZC Qa Zy jl jI Qi ZL y8 yX Qr calm Qt Zn Qk feeds shrinks Qx looks isT Qf vK Qd putAt jT jc Zm sliceB isEq Qg zk qH zO zn qR zl zm qQ zP zi qP ZW Qw yB Zl QZ inO y7 Zi Mix.vT Mix.Qc QB QX qz qj qW zh qO ZV Qq yg yh ZG Zb yw yO Q8 jW V.fixed V.vC
attribute [local simp] vE je yL vH jQ vF vG jP yM vk jN V5 Ja yF QT Jb z0 JL VK Vo VU
def FdP (xs:List Pr) (i:Int) (k:Nat) (F:Fr) (H:List Bk):Prop:=VY (xs.take k) i=none∧H = [.cells [.v (.sc (.int .i64 0)),.v (.sc (.int .i64 0)),.v (.sc (.int .i64 0)),.v (.sc (.int .i64 0))]] ∧
 F = [(0,.v (lV xs)),(1,.v (.sc (.int .i64 i))),(4,.v (.ptr 0 0)),(6,.v (.sc (.int .i64 k)))]
theorem qcJ {xs:List Pr} {i:Int} {k:Nat} (hk:k<xs.length) (h:VY (xs.take k) i=none):VY (xs.take (k+1)) i=if xs[k].id=i then some xs[k] else none:=by
 unfold VY at *
 rw [Q0 hk,List.find?_append,h]
 by_cases e:xs[k].id=i <;> simp [e]
theorem qcI {xs:List Pr} {i:Int} {k:Nat} {s:Pr} (h:VY (xs.take k) i=some s):VY xs i=some s:=by
 unfold VY at *
 rw [← List.take_append_drop k xs,List.find?_append,h]
 rfl
theorem qd8 (xs:List Pr) (i:Int) (hx:xs.length≤1000000000):PFn Tryz.prog 45 [lV xs,.sc (.int .i64 i)] (Xp xs i):=by
 refine vwc (fn:=Tryz.f45) rfl (vwb ?_)
 simp only [Tryz.f45,ql]
 simp [lV]
 refine AW.count xs.length (FdP xs i) ⟨_,?_,by simp [VY],rfl,rfl⟩ ?_
 ·simp [qz,qj,qm,lV]
 rintro k F H hk ⟨ht,rfl,rfl⟩
 refine vwb ?_
 by_cases hlt:k<xs.length
 ·have w1:IntKind.i64.wrap ((k:Int)+1)=(k:Int)+1:=by rw [wrap_i64] <;> omega
  have hs:=qcJ hlt ht
  by_cases he:xs[k].id=i
  ·rw [if_pos he] at hs
   have hf:=qcI hs
   simp [lV,hlt,J4,he,setCells,qo,Xp,hf,Pr.v,Pr.cs]
  ·rw [if_neg he] at hs
   have he':(xs[k].id==i)=false:=by simpa using he
   simp [lV,hlt,J4,he',w1]
   refine ⟨_,?_,hs,rfl,rfl⟩
   simp [qz,qj,qm,lV]
 ·have hk':k=xs.length:=by omega
  rw [hk',List.take_length] at ht
  simp [lV,hlt,setCells,qo,Xp,ht,Pr.v,Pr.cs,qbw]
def WG (s:Pr) (a:List Pr×Bool) (x:Pr):List Pr×Bool:=if (!a.2&&decide (s.id<x.id))=true then (a.1 ++ [s] ++ [x],true) else (a.1 ++ [x],a.2)
def yY (s:Pr) (zs:List Pr):List Pr×Bool:=zs.foldl (WG s) ([],false)
def Vk (xs:List Pr) (s:Pr):List Pr:=if (yY s xs).2=true then (yY s xs).1 else (yY s xs).1 ++ [s]
theorem JR {s:Pr} {zs:List Pr} {k:Nat} (h:k<zs.length):yY s (zs.take (k+1))=WG s (yY s (zs.take k)) zs[k]:=by
 unfold yY
 rw [Q0 h,List.foldl_append]
 rfl
theorem qeg {s:Pr}:∀ zs:List Pr,(yY s zs).1.length≤zs.length+1∧((yY s zs).2=false→(yY s zs).1.length=zs.length):=by
 intro zs
 have go:∀ (n:Nat),n≤zs.length→(yY s (zs.take n)).1.length≤n+1∧((yY s (zs.take n)).2=false→(yY s (zs.take n)).1.length=n):=by
  intro n
  induction n with
  | zero=>intro _; simp [yY]
  | succ n ih =>
   intro hn
   have ih:=ih (by omega)
   rw [JR (by omega)]
   unfold WG
   cases hb:(yY s (zs.take n)).2 with
   | false =>
    have:=ih.2 hb
    split <;> simp <;> omega
   | true=>simp; omega
 have:=go zs.length (Nat.le_refl _)
 rwa [List.take_length] at this
def PdIP (zs:List Pr) (s:Pr) (k:Nat) (F:Fr) (H:List Bk):Prop:=∃ L,H=prB s::L∧F = [(0,.v (lV zs)),(3,.v (.ptr 0 0)),(5,Vx (yY s (zs.take k)).1),(6,.v (.sc (.bool (yY s (zs.take k)).2))),(7,.v (.sc (.int .i64 k)))]
theorem qfN (xs:List Pr) (s:Pr) (hx:xs.length≤1000000):PFn Tryz.prog 46 [lV xs,s.v] (lV (Vk xs s)):=by
 unfold Vk
 generalize xs=zs at *
 unfold Pr.v Pr.cs
 refine vwc (fn:=Tryz.f46) rfl ?_
 simp only [Tryz.f46,ql]
 refine AW.seq (vwb ?_)
 simp
 refine AW.seq (vwb ?_)
 simp
 refine AW.seq (vwb ?_)
 simp
 simp only [lV]
 refine AW.seq (AW.seq (vwb ?_))
 simp
 refine AW.block ?_
 refine AW.count zs.length (PdIP zs s) ⟨_,?_,[],by simp [prB],rfl⟩ ?_
 ·simp [qz,qj,qm,lV,Vx,qW,yY]
 rintro k F H hk ⟨L,rfl,rfl⟩
 have hpl:=qeg (s:=s) (zs.take k)
 rw [List.length_take,Nat.min_eq_left hk] at hpl
 unfold prB
 refine vwb ?_
 by_cases hlt:k<zs.length
 ·have w1:IntKind.i64.wrap ((k:Int)+1)=(k:Int)+1:=by rw [wrap_i64] <;> omega
  have hs:=JR (s:=s) hlt
  generalize yY s (zs.take k)=a at *
  obtain ⟨l,b⟩:=a
  unfold WG at hs
  simp only at hs hpl
  cases b with
  | true =>
   simp at hs
   simp [lV,Vx,hlt,J4,w1]
   refine ⟨by omega,_,?_,_,rfl,rfl⟩
   rw [hs]
   simp [qz,qj,qm,lV,Vx,Pr.cs]
  | false =>
   by_cases he:s.id<zs[k].id
   ·simp [he] at hs
    simp [lV,Vx,hlt,J4,w1,he]
    refine ⟨by omega,by omega,_,?_,_,rfl,rfl⟩
    rw [hs]
    simp [qz,qj,qm,lV,Vx,Pr.cs]
   ·simp [he] at hs
    simp [lV,Vx,hlt,J4,w1,he]
    refine ⟨by omega,_,?_,_,rfl,rfl⟩
    rw [hs]
    simp [qz,qj,qm,lV,Vx,Pr.cs]
 ·have hk':k=zs.length:=by omega
  subst hk'
  rw [List.take_length]
  rw [List.take_length] at hpl
  generalize yY s zs=a at *
  obtain ⟨l,b⟩:=a
  simp [lV,Vx]
  cases b with
  | true =>
   refine vwb ?_
   simp [lV,Vx]
  | false =>
   refine vwb ?_
   simp [lV,Vx]
   simp at hpl
   exact ⟨by omega,rfl⟩
def QV (S:List Pr):Prop:=S.Pairwise fun p q=>p.id<q.id
theorem QV.nodup {S:List Pr} (h:QV S):(S.map Pr.id).Nodup:=List.pairwise_map.2 (h.imp fun h=>by omega)
theorem XL {zs:List Pr} (hz:QV zs) {n:Nat} (hlt:n<zs.length):∀ t∈zs.take n,t.id<zs[n].id:=fun t ht=>by
 obtain ⟨i,hi,e⟩:=List.getElem_of_mem ht
 rw [List.length_take] at hi
 rw [List.getElem_take] at e
 rw [← e]
 exact List.pairwise_iff_getElem.1 hz i n (by omega) hlt (by omega)
theorem YO {s:Pr} {zs:List Pr} (hz:QV zs) (hn:∀ t∈zs,t.id≠s.id):∀ n,n≤zs.length→((yY s (zs.take n)).2=true→(yY s (zs.take n)).1.Perm (s::zs.take n)∧QV (yY s (zs.take n)).1∧∃ t∈zs.take n,s.id<t.id)∧((yY s (zs.take n)).2=false→(yY s (zs.take n)).1=zs.take n∧∀ t∈zs.take n,t.id<s.id):=by
 intro n
 induction n with
 | zero=>intro _; simp [yY]
 | succ n ih =>
  intro hle
  have hlt:n<zs.length:=by omega
  have ih:=ih (by omega)
  have hs:=JR (s:=s) hlt
  have hpre:=XL hz hlt
  have hinc:QV (zs.take n):=List.Pairwise.sublist (List.take_sublist n zs) hz
  have hne:zs[n].id≠s.id:=hn _ (List.getElem_mem hlt)
  rw [hs,Q0 hlt]
  generalize hx:zs[n]=x at *
  generalize hp:zs.take n=pre at *
  generalize yY s pre=a at *
  obtain ⟨l,b⟩:=a
  unfold WG
  simp only at ih ⊢
  cases b with
  | true =>
   obtain ⟨h1,h2,t,h3,h4⟩:=ih.1 rfl
   simp only [Bool.not_true,Bool.false_and,Bool.false_eq_true,if_false]
   refine ⟨fun _=>⟨h1.append_right [x],List.pairwise_append.2 ⟨h2,List.pairwise_singleton _ _,fun y hy z hz' => ?_⟩,t,by simp [h3],h4⟩,fun e=>by cases e⟩
   rw [List.mem_singleton] at hz'
   subst hz'
   rcases List.mem_cons.1 (h1.mem_iff.1 hy) with rfl | hy
   ·have:=hpre t h3
    omega
   ·exact hpre y hy
  | false =>
   obtain ⟨h1,h2⟩:=ih.2 rfl
   subst h1
   by_cases he:s.id<x.id
   ·simp only [he,decide_true,Bool.not_false,Bool.and_self,if_true]
    refine ⟨fun _=>⟨?_,?_,x,by simp,he⟩,fun e=>by cases e⟩
    ·rw [List.append_assoc]
     exact List.perm_middle
    ·refine List.pairwise_append.2 ⟨List.pairwise_append.2 ⟨hinc,List.pairwise_singleton _ _,fun y hy z hz' => ?_⟩,List.pairwise_singleton _ _,fun y hy z hz' => ?_⟩
     ·rw [List.mem_singleton] at hz'
      subst hz'
      exact h2 y hy
     ·rw [List.mem_singleton] at hz'
      subst hz'
      rcases List.mem_append.1 hy with hy | hy
      ·exact hpre y hy
      ·rw [List.mem_singleton] at hy
       subst hy
       exact he
   ·simp only [he,decide_false,Bool.and_false,Bool.false_eq_true,if_false]
    refine ⟨fun e=>(by cases e),fun _=>⟨trivial,fun t ht => ?_⟩⟩
    rcases List.mem_append.1 ht with ht | ht
    ·exact h2 t ht
    ·rw [List.mem_singleton] at ht
     subst ht
     omega
theorem Js {xs:List Pr} {s:Pr} (hx:QV xs) (hn:∀ t∈xs,t.id≠s.id):(Vk xs s).Perm (s::xs)∧QV (Vk xs s):=by
 have h:=YO (s:=s) hx hn _ (Nat.le_refl _)
 rw [List.take_length] at h
 unfold Vk
 cases hb:(yY s xs).2 with
 | true =>
  obtain ⟨h1,h2,_⟩:=h.1 hb
  simp only [if_true]
  exact ⟨h1,h2⟩
 | false =>
  obtain ⟨h1,h2⟩:=h.2 hb
  simp only [Bool.false_eq_true,if_false,h1]
  refine ⟨List.perm_append_comm,List.pairwise_append.2 ⟨hx,List.pairwise_singleton _ _,fun y hy z hz' => ?_⟩⟩
  rw [List.mem_singleton] at hz'
  subst hz'
  exact h2 y hy
def ZA (a:List Pr) (s:Pr):List Pr:=if qa2 a s=0 then Vk a s else a
def jK (l:List Pr):List Pr:=l.foldl ZA []
theorem Jg {l:List Pr} {k:Nat} (h:k<l.length):jK (l.take (k+1))=ZA (jK (l.take k)) l[k]:=by
 unfold jK
 rw [Q0 h,List.foldl_append]
 rfl
theorem YV {a:List Pr} {s:Pr} (h:QV a):QV (ZA a s):=by
 unfold ZA
 split
 ·rename_i e
  exact (Js h (VH e).2).2
 ·exact h
theorem Jw {a:List Pr} {s:Pr} (h:QV a):(ZA a s).Perm (YA a s):=by
 unfold ZA YA
 split
 ·rename_i e
  exact (Js h (VH e).2).1
 ·exact List.Perm.refl _
theorem YU {a:List Pr} {s:Pr} (h:QV a):(ZA a s).length≤a.length+1:=by
 rw [(Jw h).length_eq]
 exact qbV
theorem Z7 (l:List Pr):QV (jK l)∧(jK l).length≤l.length:=by
 have go:∀ n,n≤l.length→QV (jK (l.take n))∧(jK (l.take n)).length≤n:=by
  intro n
  induction n with
  | zero=>intro _; simp [jK,QV]
  | succ n ih =>
   intro hn
   obtain ⟨h1,h2⟩:=ih (by omega)
   rw [Jg (by omega)]
   have:=YU (s:=l[n]) h1
   exact ⟨YV h1,by omega⟩
 have:=go l.length (Nat.le_refl _)
 rwa [List.take_length] at this
theorem qih (s:Pr):s.v = .agg [.sc (.int .i64 s.id),.sc (.int .i64 s.at_.x),.sc (.int .i64 s.at_.y),.sc (.int .i64 s.lab)]:=rfl
def qcZ (S:List Pr) (k:Int):Pr:=(VY S k).getD qbw
def qf8 (S:List Pr) (k:Int):Bool:=(VY S k).isSome
theorem qeh (S:List Pr) (k:Int):Xp S k = .tup [.agg [.sc (.int .i64 (qcZ S k).id),.sc (.int .i64 (qcZ S k).at_.x),.sc (.int .i64 (qcZ S k).at_.y),.sc (.int .i64 (qcZ S k).lab)],.sc (.bool (qf8 S k))]:=by
 unfold Xp qcZ qf8
 cases VY S k <;> rfl
theorem qf5 (S:List Pr) (rc:Pr):qa2 S rc=if fits rc.at_ then (if qf8 S rc.id then 20 else 0) else 1:=rfl
theorem qe7 (a b:Int):PFn Tryz.prog 66 [.sc (.int .i64 a),.sc (.int .i64 b)] (.sc (.int .i64 (if a<b then a else b))):=by
 refine vwc (fn:=Tryz.f66) rfl (vwb ?_)
 simp only [Tryz.f66,ql]
 by_cases h:a<b
 ·simp [h]
 ·simp [h]
theorem qax (g:Gr):PFn Tryz.prog 75 [.agg g.cs] (.sc (.bool (KN g))):=by
 have hR:=yC g.box
 have hbe:=qeC g
 unfold Re.v Re.cs at hR
 unfold Gr.cs KN
 refine vwc (fn:=Tryz.f75) rfl ?_
 simp only [Tryz.f75,ql]
 refine AW.seq (vwb ?_)
 simp
 by_cases c0:0≤g.ops
 rotate_left
 ·have d0:g.ops<0:=by omega
  refine vwb ?_
  simp [c0,d0]
 have d0:¬ (g.ops<0):=by omega
 by_cases c1:g.ops≤31
 rotate_left
 ·have d1:31<g.ops:=by omega
  refine vwb ?_
  simp [c0,d0,c1,d1]
 have d1:¬ (31<g.ops):=by omega
 by_cases c2:0≤g.zoom
 rotate_left
 ·have d2:g.zoom<0:=by omega
  refine vwb ?_
  simp [c0,d0,c1,d1,c2,d2]
 have d2:¬ (g.zoom<0):=by omega
 by_cases c3:g.zoom≤16
 rotate_left
 ·have d3:16<g.zoom:=by omega
  refine vwb ?_
  simp [c0,d0,c1,d1,c2,d2,c3,d3]
 have d3:¬ (16<g.zoom):=by omega
 by_cases c4:0≤g.til
 rotate_left
 ·have d4:g.til<0:=by omega
  refine vwb ?_
  simp [c0,d0,c1,d1,c2,d2,c3,d3,c4,d4]
 have d4:¬ (g.til<0):=by omega
 by_cases c5:g.til≤4294967295
 rotate_left
 ·have d5:4294967295<g.til:=by omega
  refine vwb ?_
  simp [c0,d0,c1,d1,c2,d2,c3,d3,c4,d4,c5,d5]
 have d5:¬ (4294967295<g.til):=by omega
 refine AW.seq (vwb ?_)
 simp [c0,d0,c1,d1,c2,d2,c3,d3,c4,d4,c5,d5]
 cases hv:g.void with
 | true =>
  refine vwb ?_
  simp [hv,qk4,hbe]
 | false =>
  refine vwb ?_
  simp [hv,qk4]
  refine qc.pure hR rfl rfl ?_
  simp
theorem qay (v:Vw):PFn Tryz.prog 25 [.agg v.cs] (.sc (.bool (yG v))):=by
 have hR:=qax v.g
 unfold Gr.cs at hR
 unfold Vw.cs yG
 refine vwc (fn:=Tryz.f25) rfl ?_
 simp only [Tryz.f25,ql]
 refine AW.seq (vwb ?_)
 simp
 by_cases c0:0≤v.ro
 rotate_left
 ·have d0:v.ro<0:=by omega
  refine vwb ?_
  simp [c0,d0]
 have d0:¬ (v.ro<0):=by omega
 by_cases c1:v.ro≤7
 rotate_left
 ·have d1:7<v.ro:=by omega
  refine vwb ?_
  simp [c0,d0,c1,d1]
 have d1:¬ (7<v.ro):=by omega
 by_cases c2:0≤v.ti
 rotate_left
 ·have d2:v.ti<0:=by omega
  refine vwb ?_
  simp [c0,d0,c1,d1,c2,d2]
 have d2:¬ (v.ti<0):=by omega
 by_cases c3:v.ti≤7
 rotate_left
 ·have d3:7<v.ti:=by omega
  refine vwb ?_
  simp [c0,d0,c1,d1,c2,d2,c3,d3]
 have d3:¬ (7<v.ti):=by omega
 refine vwb ?_
 simp [c0,d0,c1,d1,c2,d2,c3,d3]
 refine qc.pure hR rfl rfl ?_
 simp
theorem qcB (v:Vw) (id lv:Int) (b:Re):PFn Tryz.prog 70 [.agg v.cs,.sc (.int .i64 id),.sc (.int .i64 lv),b.v] (seW (QE v id lv b)):=by
 have hI:=qbK b v.g.box
 unfold QE
 unfold Vw.cs
 unfold Re.v Re.cs at hI ⊢
 refine vwc (fn:=Tryz.f70) rfl ?_
 simp only [Tryz.f70,ql]
 refine AW.seq (vwb ?_)
 simp
 by_cases h0:lv=0
 ·refine AW.seq (vwb ?_)
  simp [h0,setCells,qo,seW,qw,Se.cs]
 ·have h0':(lv==0)=false:=by simpa using h0
  cases hv:v.g.void with
  | true =>
   refine AW.seq (vwb ?_)
   simp [h0,h0',hv,setCells,qo,seW,qw,Se.cs]
  | false =>
   refine AW.seq (vwb ?_)
   simp [h0,h0',hv]
   refine qc.pure hI rfl rfl ?_
   cases hb:inB b v.g.box with
   | false =>
    simp [h0,h0',setCells,qo,seW,qw,Se.cs]
   | true =>
    simp [h0,h0']
    refine vwb ?_
    simp [setCells,qo,seW,Se.cs]
theorem Q9 (zs:List Se):(QA zs).closed=true:=zV (enc:=Se.cs) (fun _=>rfl) zs
theorem KE (v:Vw) (z:Int):(if z<v.g.zoom then z else v.g.zoom)=lvl v z:=by
 unfold lvl
 split <;> split <;> omega
theorem qnI {l:List Ru} (hl:l.length≤9223372036854775807) (hb:∀ r∈l,r.boxes.length≤9223372036854775807) (v:Vw) (x:Pr):PFn Tryz.prog 21 [slU l,.agg v.cs,x.v] (seW (Zq (zmP l v) v x)):=by
 have hRt:=qay v
 have hF:=VF x.at_
 have hZ:=qaE l v.ro v.ti x.lab x.at_ hl hb
 have hLe:=fun z=>qe7 z v.g.zoom
 simp only [KE] at hLe
 have hSh:=fun lv b=>qcB v x.id lv b
 have hcl:=yT l
 unfold Zq zmP
 unfold slU at hZ hcl ⊢
 unfold Vw.cs at hRt hSh ⊢
 unfold Pt.v Pt.cs at hF hZ
 unfold Re.v Re.cs at hSh
 unfold Pr.v Pr.cs
 generalize vN l v.ro v.ti x.lab x.at_=zz at *
 have hLe:=hLe zz
 refine vwc (fn:=Tryz.f21) rfl ?_
 simp only [Tryz.f21,ql]
 refine AW.seq (vwa [(3,13,[0,4,5])] ?_)
 simp
 refine AW.seq (vwa [(3,13,[0,4,5])] ?_)
 simp
 refine qc.pure hRt rfl rfl ?_
 cases hr:yG v with
 | false =>
  simp [setCells,qo]
  simp [seW,Se.cs,qw]
 | true =>
  simp
  refine qc.pure hF rfl rfl ?_
  cases hf:fits x.at_ with
  | false =>
   simp [setCells,qo]
   simp [seW,Se.cs,qw]
  | true =>
   simp
   generalize hlv:lvl v zz=lv at *
   have hO:=qid x.at_ lv
   have hB:=fun c=>qfo c
   generalize ofR x.at_ lv=oc at *
   obtain ⟨oc,ok⟩:=oc
   simp only at hO ⊢
   have hB:=hB oc
   generalize JD oc=bx at *
   obtain ⟨bx,bok⟩:=bx
   simp only at hB ⊢
   have hSh:=hSh lv bx
   generalize QE v x.id lv bx=sv at *
   unfold Pt.v Pt.cs Ce.v Ce.cs at hO
   unfold Ce.v Ce.cs Re.v Re.cs at hB
   rw [Jf] at hSh ⊢
   refine AW.seq (vwa [(3,13,[0,4,5])] ?_)
   simp
   refine qc.pure hZ (by simpa [V.qA,V.closed] using hcl) rfl ?_
   simp
   refine qc.pure hLe rfl rfl ?_
   simp
   refine AW.seq (vwa [(3,13,[0,4,5])] ?_)
   simp
   refine qc.pure hO rfl rfl ?_
   simp [setCells,qo]
   refine AW.seq (vwa [(3,13,[0,4,5])] ?_)
   simp
   refine qc.pure hB rfl rfl ?_
   simp [setCells,qo]
   refine AW.seq (vwa [(3,13,[0,4,5])] ?_)
   simp
   refine qc.pure hSh rfl rfl ?_
   simp [setCells,qo]
   refine vwa [(3,13,[0,4,5])] ?_
   simp
def RcI (l:List Ru) (v:Vw) (xs:List Pr) (k:Nat) (F:Fr) (H:List Bk):Prop:=∃ L,H=vwB v::L∧F = [(0,.v (slU l)),(2,.v (lV xs)),(4,.v (.ptr 0 0)),(7,Qy (Je l v (xs.take k))),(8,.v (.sc (.int .i64 k)))]
def RcM (l:List Ru) (v:Vw) (xs:List Pr) (k:Nat) (o:Option Se) (F:Fr) (H:List Bk):Prop:=∃ L z,H=vwB v::L∧H[z]? = some (seB (o.getD qw))∧F = [(0,.v (slU l)),(2,.v (lV xs)),(4,.v (.ptr 0 0)),(7,Qy (Je l v (xs.take k))),(8,.v (.sc (.int .i64 k))),(9,.v (.ptr z 0)),(10,.v (.sc (.bool o.isSome)))]
theorem YZ (l:List Ru) (v:Vw) (xs:List Pr):(Je l v xs).length≤xs.length:=List.length_filterMap_le _ _
theorem qdb (l:List Ru) (v:Vw) (xs:List Pr) (x:Pr):Je l v (xs ++ [x])=Je l v xs++(match Zq (zmP l v) v x with | some s => [s] | none => []):=by
 unfold Je
 rw [List.filterMap_append]
 cases h:Zq (zmP l v) v x <;> simp [h]
theorem qdc {l:List Ru} (hl:l.length≤9223372036854775807) (hb:∀ r∈l,r.boxes.length≤9223372036854775807) (v:Vw) (xs:List Pr) (hx:xs.length≤1000000):PFn Tryz.prog 16 [slU l,.agg v.cs,lV xs] (QA (Je l v xs)):=by
 have hS:=fun x=>qnI hl hb v x
 have hcl:=yT l
 unfold Vw.cs at hS ⊢
 refine vwc (fn:=Tryz.f16) rfl ?_
 simp only [Tryz.f16,ql]
 refine AW.seq (vwb ?_)
 simp [lV,slU]
 refine AW.seq (vwb ?_)
 simp
 refine AW.seq (AW.seq (vwb ?_))
 simp
 refine AW.block (AW.count xs.length (RcI l v xs) ⟨_,?_,[],by simp [vwB],rfl⟩ ?_)
 ·simp [qz,qj,qm,lV,slU,Qy,qW,Je]
 rintro k F H hk ⟨L,rfl,rfl⟩
 refine AW.seq (vwb ?_)
 by_cases hlt:k<xs.length
 ·have w1:IntKind.i64.wrap ((k:Int)+1)=(k:Int)+1:=by rw [wrap_i64] <;> omega
  have htk:xs.take (k+1)=xs.take k ++ [xs[k]]:=List.take_succ_eq_append_getElem hlt
  have hd:=qdb l v (xs.take k) xs[k]
  rw [← htk] at hd
  have hSk:=hS xs[k]
  have hdl:=YZ l v (xs.take k)
  rw [List.length_take] at hdl
  generalize Zq (zmP l v) v xs[k]=o at *
  rw [Jf] at hSk
  unfold Pr.v Pr.cs at hSk
  unfold slU at hSk hcl
  simp [lV,slU,Qy,hlt]
  refine AW.seq (AW.block ?_)
  refine AW.mid (RcM l v xs k o) (AW.off [] [(5,10,12,[0,4,2,8])] mixed (by kernel_rfl) ?_) ?_
  ·unfold vwB
   have hp:∀ x y:Bk,(x::(L ++ [y]))[L.length+1]? = some y:=fun x y=>by simp
   have k3:∀ x y:Bk,Xi (x::L) (x::(L ++ [y]))=True:=fun x y=>by
    have:=Z4 (H:=x::L) (L := [y])
    simpa using this
   have k4:∀ (x:Bk) (z0 z1 z2 z3 z4 z5:SV) (a b c d e f:V),setCells (x::(L ++ [.cells [z0,z1,z2,z3,z4,z5]])) (L.length+1) 0 [a,b,c,d,e,f]=x::(L ++ [.cells [.v a,.v b,.v c,.v d,.v e,.v f]]):=fun x z0 z1 z2 z3 z4 z5 a b c d e f=>by
    simp [setCells,qo]
   simp [jq,zx,jX,jw,zN,jr,jv,zM,jY,flK,yK,zL,zw,QC,lV,slU,hlt,J4,k3]
   refine ⟨qc.pure hSk (by simpa [V.qA,V.closed] using hcl) rfl ?_,qc.pure hSk (by simpa [V.qA,V.closed] using hcl) rfl ?_⟩
   all_goals
    simp [jq,zx,jX,jw,zN,jr,jv,zM,jY,flK,yK,zL,zw,QC,lV,slU,hlt,J4,hp,k3,k4]
    refine ⟨_,?_,_,L.length+1,rfl,by simp [seB],rfl⟩
    simp [qz,qj,qm,lV,slU,Qy]
  ·rintro F1 H1 ⟨L1,z,rfl,hz,rfl⟩
   refine vwb ?_
   unfold lV slU Qy
   generalize Je l v (xs.take k)=zs at *
   unfold seB at hz
   cases o with
   | none =>
    simp only [List.append_nil] at hd
    simp
    refine vwb ?_
    simp [w1]
    refine ⟨_,?_,L1,rfl,rfl⟩
    rw [hd]
    simp [qz,qj,qm,lV,slU,Qy]
   | some s =>
    simp only at hd
    have hz':=hz
    simp only [Option.getD_some] at hz'
    simp [hz']
    refine ⟨by omega,?_⟩
    refine vwb ?_
    simp [w1]
    refine ⟨_,?_,L1,rfl,rfl⟩
    rw [hd]
    simp [qz,qj,qm,lV,slU,Qy,Se.cs]
 ·have hk':k=xs.length:=by omega
  subst hk'
  simp [lV,slU,Qy]
  refine vwb ?_
  simp
  rfl
def ZB (l:List Ru) (r:List Pr) (s:Nat):Bool:=decide (l.length≤7∧(qg l).length≤10)&&decide (r.length≤30)&&decide (s≤12)
def FwI (l:List Ru) (r:List Pr) (n:Nat) (cs:List V) (k:Nat) (F:Fr) (H:List Bk):Prop:=(k≤7∧∀ j,j<k→(qg (l.take j)).length≤10)∧H = []∧F = [(0,.v (slU l)),(1,.v (lV r)),(2,.v (.sl n 6 cs)),(7,.v (.sc (.int .i64 (qg (l.take k)).length))),(8,.v (.sc (.int .i64 k)))]
theorem qgj (l:List Ru) (hb:∀ r∈l,r.boxes.length≤4398046511104) (r:List Pr) (n:Nat) (cs:List V):PFn Tryz.prog 12 [slU l,lV r,.sl n 6 cs] (.sc (.bool (ZB l r n))):=by
 refine vwc (fn:=Tryz.f12) rfl ?_
 simp only [Tryz.f12,ql]
 refine AW.seq (vwb ?_)
 simp [slU,lV]
 refine AW.seq (vwb ?_)
 simp
 refine AW.seq (AW.seq (vwb ?_))
 simp
 refine AW.block (AW.count l.length (FwI l r n cs) ⟨_,?_,⟨by omega,by omega⟩,rfl,rfl⟩ ?_)
 ·simp [qz,qj,qm,slU,lV,qg]
 rintro k F H hk ⟨⟨hk7,hpre⟩,rfl,rfl⟩
 have hle:=ZU l k
 refine vwb ?_
 by_cases hlt:k<l.length
 ·by_cases h6:6<k
  ·have h6':(6:Int)<k:=by omega
   have e:ZB l r n=false:=by
    unfold ZB
    rw [decide_eq_false (by omega)]
    rfl
   simp [slU,lV,hlt,h6',h6,e]
  ·have h6':¬ (6:Int)<k:=by omega
   by_cases h10:10<(qg (l.take k)).length
   ·have h10':(10:Int)<(qg (l.take k)).length:=by omega
    have e:ZB l r n=false:=by
     unfold ZB
     rw [decide_eq_false (by omega)]
     rfl
    generalize (qg (l.take k)).length=nn at *
    simp [slU,lV,hlt,h6',h6,h10,h10',e]
   ·have h10':¬ (10:Int)<(qg (l.take k)).length:=by omega
    have hrow:=qan hlt
    have hst:(qg (l.take (k+1))).length=(qg (l.take k)).length+l[k].boxes.length:=by rw [VD hlt,List.length_append]
    have hbl:=hb _ (List.getElem_mem hlt)
    have w1:IntKind.i64.wrap ((k:Int)+1)=(k:Int)+1:=by rw [wrap_i64] <;> omega
    have w2:IntKind.i64.wrap (((qg (l.take k)).length:Int)+l[k].boxes.length)=((qg (l.take (k+1))).length:Int):=by rw [hst,wrap_i64] <;> omega
    have hp:∀ j,j<k+1→(qg (l.take j)).length≤10:=fun j hj=>by
     by_cases e:j=k
     ·subst e; omega
     ·exact hpre j (by omega)
    unfold slR at hrow
    generalize hn1:(qg (l.take k)).length=nn at *
    generalize hn2:(qg (l.take (k+1))).length=n2 at *
    simp [slU,lV,hlt,h6',h6,h10,h10',hrow,w1,w2]
    refine ⟨_,?_,⟨by omega,hp⟩,rfl,rfl⟩
    simp [qz,qj,qm,slU,lV,hn2]
 ·have hk':k=l.length:=by omega
  subst hk'
  rw [List.take_length]
  have e:ZB l r n=(decide ((qg l).length≤10)&&decide (r.length≤30)&&decide (n≤12)):=by
   unfold ZB
   congr 2
   rw [decide_eq_decide]
   omega
  simp [slU,lV,e]
  by_cases c1:(qg l).length≤10
  rotate_left
  ·have c1':¬ ((qg l).length:Int)≤10:=by omega
   refine vwb ?_
   simp [c1,c1']
  have c1':((qg l).length:Int)≤10:=by omega
  by_cases c2:r.length≤30
  rotate_left
  ·have c2':¬ (r.length:Int)≤30:=by omega
   refine vwb ?_
   simp [c1,c1',c2,c2']
  have c2':(r.length:Int)≤30:=by omega
  by_cases c3:n≤12
  ·have c3':(n:Int)≤12:=by omega
   refine vwb ?_
   simp [c1,c1',c2,c2',c3,c3']
  ·have c3':¬ (n:Int)≤12:=by omega
   refine vwb ?_
   simp [c1,c1',c2,c2',c3,c3']
theorem Z9.Vb {H H':List Bk} {l:List Ru} {S:List Pr} {C:List Sh} {r c t m:Nat} {Tp Tc:Nat→Prop} (h:Z9 H l S C r c t m Tp Tc) (k:Kp NoB H H'):Z9 H' l S C r c t m Tp Tc:=by
 obtain ⟨⟨es,h1,h2⟩,h3,h4,h5,h6⟩:=h
 exact ⟨⟨es,⟨k.cells id h1.t,k.map id h1.m⟩,h2⟩,h3.Vb k,h4.Vb k,h5,h6⟩
section
variable {H0 H H':List Bk} {l:List Ru} {S S':List Pr} {C C':List Sh} {r c t m:Nat} {Tp Tp' Tc Tc':Nat→Prop}
end
theorem WS {l:List Ru} {r:List Pr} {n:Nat} (h:tbR l=true) (hf:ZB l r n=true):Yk l∧l.length≤7∧(qg l).length≤10∧r.length≤30∧n≤12:=by
 unfold tbR at h
 unfold ZB at hf
 simp only [Bool.and_eq_true,decide_eq_true_eq] at h hf
 exact ⟨⟨by omega,by omega,h.2⟩,by omega,by omega,hf.1.2,hf.2⟩
section
variable {H:List Bk} {l:List Ru} {S:List Pr} {C:List Sh} {r c t m:Nat} {Tp Tc:Nat→Prop}
end
end Go.Proofs.YtnconfggojpkcaaGreat
namespace Go.Proofs.YtnconfggojpkcaaGreat
open Go.RowKit Go.ChangeShapes Go.WideShapes AM
section
variable {H:Type} {enc:TypeId×Value→H} {w:World} {base:Nat} {held:Bool} {r:Reach} {b0:Nat} {v:Value} {d:DataW H} {p:List MemPlace}
theorem Yu {cs:List Value} {x:Pr} (h:x.vals=cs):vM (said w) [] x.cs cs∧∀ u∈cs,u.oneCell'=true:=by
 subst h
 refine ⟨Yr (vs:=x.vals),fun u hu => ?_⟩
 simp only [Pr.vals,List.mem_cons,List.not_mem_nil,or_false] at hu
 rcases hu with rfl | rfl | rfl | rfl <;> rfl
theorem Yj {l:List (DataW H×List MemPlace)} {y:DataW H×List MemPlace} (h:y=(.agg (l.map (·.1)),l.flatMap (·.2))) (hl:l.length=3):4≤Rows.uptoBulk y.1:=by
 subst h
 have:=JA (l.map (·.1))
 rw [List.length_map] at this
 simp only [Rows.uptoBulk]
 omega
theorem Xf (hv:Value.okWide Tryz.prog w r b0 33 v) (h:DataW.Trod enc Tryz.prog w base (fun _=>true) held 33 v d p):∃ xs:List Pr,Rel (said w) [] (lV xs) v∧JB (fun (_:Pr) (e:DataW H)=>4≤Rows.uptoBulk e) xs d :=
 YM (fun (_:Pr) (e:DataW H)=>4≤Rows.uptoBulk e) (encV:=Pr.cs) (sz:=4) Tryz.underlying33 (by kernel_rfl) (by decide) (fun _=>rfl) (fun n cs y hy hl=>by
  obtain ⟨x,hx⟩:=Yx (Zz 6 _ _ _ _ _ qaT hy)
  obtain ⟨xs,m,_,hyd,_,hlen,_⟩:=DataW.trod_struct Tryz.underlying55 hy
  exact ⟨x,(Yu (w:=w) hx).1,(Yu (w:=w) hx).2,Yj hyd hlen⟩) (okWide_slice Tryz.underlying33 hv) h
theorem YX {l:List (DataW H)} (h:∀ e∈l,4≤Rows.uptoBulk e):4*l.length≤Rows.uptoBulkAll l:=by
 induction l with
 | nil=>simp
 | cons x l ih =>
  have h1:=h x (by simp)
  have h2:=ih fun e he=>h e (by simp [he])
  simp only [Rows.uptoBulkAll,List.length_cons]
  omega
theorem Vg {α:Type} {xs:List α} {d:DataW H} (h:JB (fun (_:α) (e:DataW H)=>4≤Rows.uptoBulk e) xs d):4*xs.length≤Rows.uptoBulk d:=by
 rcases h with rfl | ⟨es,sp,rfl,hl,hx⟩
 ·simp
 ·have:=YX (l:=es) fun e he=>by
   obtain ⟨i,hi⟩:=List.getElem?_of_mem he
   have hil:i<xs.length:=by rw [← hl]; exact (List.getElem?_eq_some_iff.1 hi).1
   exact hx i _ e (List.getElem?_eq_getElem hil) hi
  simp only [Rows.uptoBulk]
  omega
end
section
variable {H:Type}
theorem YG {q:Qv} {d:DataW H} (h:QvD q d):(qg q.l).length≤Rows.uptoBulk d∧q.l.length≤Rows.uptoBulk d:=by
 obtain ⟨parts,e,rfl,hp,hs⟩:=h
 have h1:=JV (List.mem_of_getElem? hp)
 have h2:=V9 hs
 have h3:=YJ hs
 simp only [Rows.uptoBulk]
 omega
end
end Go.Proofs.YtnconfggojpkcaaGreat
namespace Go.Proofs.YtnconfggojpkcaaGreat
open Go.RowKit AM
theorem qnK {p:Pt} {k l:Int} (hp:fits p=true) (h0:0≤k) (hk:k≤l) (hl:l≤16):inB (jy (cellOf p l)) (jy (cellOf p k))=true:=by
 have a:=qcu hp h0 hk hl
 unfold inB
 rw [Qj (yU hp (by omega) hl),Qj (yU hp h0 (by omega))]
 simp only [Bool.and_self,Bool.true_and,decide_eq_true_eq]
 omega
theorem qk0 {r:Re} (h:qd r=true):inB r grB=true:=by
 have:=qF.1 h
 unfold inB
 rw [h]
 have e:qd grB=true:=by decide
 rw [e]
 have g0:grB.x0=0:=rfl
 have g1:grB.y0=0:=rfl
 have g2:grB.x1=65535:=rfl
 have g3:grB.y1=65535:=rfl
 rw [g0,g1,g2,g3]
 simp only [Bool.and_self,Bool.true_and,decide_eq_true_eq]
 omega
theorem qeN {v:Vw} {g:Gr} (h:yG (Vw.mk v.ro v.ti g)=true):yG (Vw.mk v.ro v.ti Zx)=true:=by
 unfold yG at h ⊢
 simp only [Bool.and_eq_true] at h ⊢
 exact ⟨h.1,by decide⟩
theorem qf0 (v:Vw) {z:Int} (h:z≤16):lvl (Vw.mk v.ro v.ti Zx) z=z:=by
 unfold lvl
 rw [if_neg]
 simp [Zx]
 omega
theorem qiv (v:Vw) (z:Int):lvl v z≤z:=by
 unfold lvl
 split <;> omega
theorem qeL {v:Vw} {id z:Int} {b:Re} (hz:z≠0) (hb:qd b=true):QE (Vw.mk v.ro v.ti Zx) id z b=some ⟨id,z,b⟩:=by
 unfold QE
 have e:(Vw.mk v.ro v.ti Zx).g.void=false∧(Vw.mk v.ro v.ti Zx).g.box=grB:=⟨rfl,rfl⟩
 rw [if_neg]
 rw [e.1,e.2,qk0 hb]
 simp [hz]
theorem qft {Z:Pr→Int} {v:Vw} {g:Gr} {t:Pr} {s:Se} (hZ:0≤Z t∧Z t≤16) (h:Zq Z (Vw.mk v.ro v.ti g) t=some s):∃ s',Zq Z (Vw.mk v.ro v.ti Zx) t=some s'∧s.lv≤s'.lv∧s.id=s'.id∧inB s'.box s.box=true:=by
 obtain ⟨h1,h2,h3,h4,h5,h6,h7⟩:=qam hZ h
 have hl:=qiv (Vw.mk v.ro v.ti g) (Z t)
 have hr:=KM h1 hZ
 have e:ofR t.at_ (Z t)=(cellOf t.at_ (Z t),true):=by simp [ofR,zy.2 hZ,h2]
 have e2:JD (cellOf t.at_ (Z t))=(jy (cellOf t.at_ (Z t)),true):=by simp [JD,yU h2 hZ.1 hZ.2]
 refine ⟨⟨t.id,Z t,jy (cellOf t.at_ (Z t))⟩,?_,by rw [h4]; exact hl,h3,?_⟩
 ·unfold Zq
  rw [qeN h1,h2,qf0 v hZ.2,e]
  simp only [e2,Bool.and_self,if_true]
  exact qeL (by omega) (Qj (yU h2 hZ.1 hZ.2))
 ·rw [h6]
  exact qnK h2 hr.1 hl hZ.2
end Go.Proofs.YtnconfggojpkcaaGreat
namespace Go.Proofs.YtnconfggojpkcaaGreat
open Go.RowKit AM
attribute [local simp] zQ qU jL zT zq zR zS zo jM zu qV Z8 Qm jC Ql yc ZE vZ slF qG Qo zK yx zA shares jh yt ze Qz QI qY ZF qZ qM vX zH yu Qe qL zD zG vU slV jE jG yE zU ZJ jB jF aMM aUn Qp vW jD zC jA qJ vV Qu vY vS Zw y9 qK Qs ZK zJ zI jH jR ZH eval zZ AM.valOf qm vO yR del SV.refers zY vQ jU shift ldV V.exact V.jg V.ofValue V.vP V.vL V.cells V.one Value.oneCell' ZI QY jV Q5 ZM ZC Qa Zy jl jI Qi ZL y8 yX Qr calm Qt Zn Qk feeds shrinks Qx looks isT Qf vK Qd putAt jT jc Zm sliceB isEq Qg zk qH zO zn qR zl zm qQ zP zi qP ZW Qw yB Zl QZ inO y7 Zi Mix.vT Mix.Qc QB QX qz qj qW zh qO ZV Qq yg yh ZG Zb yw yO Q8 jW V.fixed V.vC
attribute [local simp] vE je yL vH jQ vF vG jP yM vk jN V5 Ja yF QT Jb z0 JL VK Vo VU
def RsI (l:List Pr) (k:Nat) (F:Fr) (H:List Bk):Prop:=F = [(0,.v (lV l)),(3,.v (lV (jK (l.take k)))),(4,.v (.sc (.int .i64 k)))]
theorem qkj (l:List Pr) (hl:l.length≤1000000):PFn Tryz.prog 17 [lV l] (lV (jK l)):=by
 unfold lV
 refine vwc (fn:=Tryz.f17) rfl ?_
 simp only [Tryz.f17,ql]
 refine AW.seq (vwb ?_)
 simp
 refine AW.seq (vwb ?_)
 simp
 refine AW.seq (AW.seq (vwb ?_))
 simp
 refine AW.block (AW.count l.length (RsI l) ⟨_,?_,rfl⟩ ?_)
 ·simp [qz,qj,qm,lV,qW,jK]
 rintro k F H2 hk rfl
 have hsp:=Z7 (l.take k)
 rw [List.length_take,Nat.min_eq_left hk] at hsp
 unfold lV
 refine AW.seq (vwb ?_)
 by_cases hlt:k<l.length
 ·have w1:IntKind.i64.wrap ((k:Int)+1)=(k:Int)+1:=by rw [wrap_i64] <;> omega
  have hsn:=Jg hlt
  have hFd:=qd8 (jK (l.take k)) l[k].id (by omega)
  have hR:=VF l[k].at_
  have hP:=qfN (jK (l.take k)) l[k] (by omega)
  have hdef:ZA (jK (l.take k)) l[k]=if qa2 (jK (l.take k)) l[k]=0 then Vk (jK (l.take k)) l[k] else jK (l.take k):=rfl
  unfold lV at hP hFd
  unfold Pt.v Pt.cs at hR
  simp [hlt]
  refine AW.seq (AW.block (AW.seq (vwb ?_)))
  simp [hlt,J4]
  rw [qeh] at hFd
  refine qc.pure hFd (by simp [V.qA,V.closed,zV (enc:=Pr.cs) (fun _=>rfl)]) rfl ?_
  generalize qcZ (jK (l.take k)) l[k].id=pq at *
  simp
  rw [qp rfl]
  rw [qih] at hP
  generalize H2 ++ [_]=H3 at *
  rw [qf5] at hdef
  cases hh:qf8 (jK (l.take k)) l[k].id with
  | true =>
   have hd2:ZA (jK (l.take k)) l[k]=jK (l.take k):=by
    rw [hdef,hh]
    cases fits l[k].at_ <;> simp
   refine AW.seq (vwb ?_)
   simp
   refine vwb ?_
   simp
   refine vwb ?_
   simp [w1]
   refine ⟨_,?_,rfl⟩
   rw [hsn,hd2]
   simp [qz,qj,qm,lV]
  | false =>
   cases hf:fits l[k].at_ with
   | false =>
    rw [hf] at hR
    simp [hf,hh] at hdef
    refine AW.seq (vwb ?_)
    simp [hlt,J4]
    refine qc.pure hR rfl rfl ?_
    simp
    refine vwb ?_
    simp
    refine vwb ?_
    simp [w1]
    refine ⟨_,?_,rfl⟩
    rw [hsn,hdef]
    simp [qz,qj,qm,lV]
   | true =>
    rw [hf] at hR
    simp [hf,hh] at hdef
    refine AW.seq (vwb ?_)
    simp [hlt,J4]
    refine qc.pure hR rfl rfl ?_
    simp [hlt,J4]
    refine vwb ?_
    simp [hlt,J4]
    refine qc.pure hP (by simp [V.qA,V.closed,zV (enc:=Pr.cs) (fun _=>rfl)]) (by simp [V.closed,zV (enc:=Pr.cs) (fun _=>rfl)]) ?_
    simp
    refine vwb ?_
    simp [w1]
    refine ⟨_,?_,rfl⟩
    rw [hsn,hdef]
    simp [qz,qj,qm,lV]
 ·have hk':k=l.length:=by omega
  subst hk'
  rw [List.take_length]
  simp
  refine vwb ?_
  simp
theorem YR {a b:List Pr} (h:a.Perm b) (hn:(b.map Pr.id).Nodup) (s:Pr):(YA a s).Perm (YA b s):=by
 unfold YA
 rw [qas hn h]
 split
 ·exact h.cons s
 ·exact h
theorem Ya (R:List Pr):(Zr R).Perm (jK R):=by
 have go:∀ n,n≤R.length→(Zr (R.take n)).Perm (jK (R.take n)):=by
  intro n
  induction n with
  | zero=>intro _; simp [Zr,jK]
  | succ n ih =>
   intro hn
   have ih:=ih (by omega)
   have hi:=(Z7 (R.take n)).1
   have e:Zr (R.take (n+1))=YA (Zr (R.take n)) (R[n]'(by omega)):=by
    unfold Zr
    rw [List.take_succ_eq_append_getElem (by omega),List.foldl_append]
    rfl
   rw [e,Jg (by omega)]
   exact (YR ih hi.nodup _).trans (Jw hi).symm
 have:=go R.length (Nat.le_refl _)
 rwa [List.take_length] at this
section
variable {H H':List Bk} {l l':List Ru} {S:List Pr} {C:List Sh} {r c t m r' c' t' m':Nat} {Tp Tc Tp' Tc':Nat→Prop}
theorem Z9.recs {R:List Pr} (h:Z9 H l (Zr R) C r c t m Tp Tc):Z9 H l (jK R) C r c t m Tp Tc:=⟨h.tb,h.tp.perm (Ya R),h.tc,h.pm,h.cm⟩
theorem Z9.qow (h:Z9 H l S C r c t m Tp Tc) (k:Kept l' t' m' H H') (h1:∀ x,Tp x→x≠m') (h2:∀ x,Tc x→x≠m') (h3:t≠m') (h4:m≠m'):Z9 H' l S C r c t m Tp Tc:=by
 have k2:Kp (fun x=>x=m') H H':=fun i b hi hb hn=>k.2 i b hi hb hn
 obtain ⟨⟨es,a1,a2⟩,a3,a4,a5,a6⟩:=h
 exact ⟨⟨es,⟨k2.cells h3 a1.t,k2.map h4 a1.m⟩,a2⟩,a3.keep k2 h1,a4.keep k2 h2,a5,a6⟩
end
theorem cell_lo {p:Pt} {k l:Int} (hp:fits p=true) (h0:0≤k) (hk:k≤l) (hl:l≤16):cellOf (jy (cellOf p l)).lo k=cellOf p k:=by
 have cl:=yU hp (show 0≤l by omega) hl
 have rl:=qF.1 (Qj cl)
 have hq:yV (jy (cellOf p l)) (jy (cellOf p l)).lo=true:=ZR.2 ⟨Qj cl,by simp only [Re.lo]; omega⟩
 have hu:=(Un.box cl).1 hq
 have h1:=(JM.1 hu.2).2
 have e1:(cellOf p l).l=l:=rfl
 rw [e1,Zf hl (Int.le_refl _)] at h1
 rw [← Zf hk hl,h1,Zf hk hl]
def narS (v:Vw) (s:Se):Option Se:=if yG v then QE v s.id (lvl v s.lv) (jy (cellOf s.box.lo (lvl v s.lv))) else none
theorem see_nar {Z:Pr→Int} (v:Vw) (t:Pr) (hZ:0≤Z t∧Z t≤16):Zq Z v t=(Zq Z (Vw.mk v.ro v.ti Zx) t).bind (narS v):=by
 have ev:Vw.mk v.ro v.ti v.g=v:=rfl
 cases h:Zq Z (Vw.mk v.ro v.ti Zx) t with
 | none =>
  cases h2:Zq Z v t with
  | none=>rfl
  | some s =>
   obtain ⟨s',h3,_⟩:=qft (v:=v) (g:=v.g) hZ h2
   rw [h3] at h
   cases h
 | some s =>
  obtain ⟨h1,h2,h3,h4,h5,h6,h7⟩:=qam hZ h
  rw [qf0 v hZ.2] at h4 h5 h6
  rw [Option.bind_some]
  unfold Zq narS
  rw [h2,Bool.and_true]
  cases hv:yG v with
  | false=>rfl
  | true =>
   have hr:=KM hv hZ
   have e:ofR t.at_ (lvl v (Z t))=(cellOf t.at_ (lvl v (Z t)),true):=by simp [ofR,zy.2 hr,h2]
   have e2:JD (cellOf t.at_ (lvl v (Z t)))=(jy (cellOf t.at_ (lvl v (Z t))),true):=by simp [JD,yU h2 hr.1 hr.2]
   rw [if_pos rfl,if_pos rfl,h3,h4,h6,cell_lo h2 hr.1 (qiv v _) hZ.2,e]
   simp only [e2]
theorem qmp (l:List Ru) (v:Vw) (S:List Pr):Je l v S=(Je l (Vw.mk v.ro v.ti Zx) S).filterMap (narS v):=by
 have z1:zmP l (Vw.mk v.ro v.ti Zx)=zmP l v:=rfl
 unfold Je
 rw [List.filterMap_filterMap,z1]
 refine congrArg (fun f=>S.filterMap f) (funext fun t => ?_)
 exact see_nar v t (qbu l v t)
theorem qaG (l:List Ru) (v:Vw) (rc:Re) (S:List Pr):qdM l v rc S=(Je l v S).filter fun s=>qE s.box rc:=rfl
theorem qbi {l:List Ru}:∀ r∈l,r.boxes.length≤(qg l).length:=by
 induction l with
 | nil=>intro r hr; cases hr
 | cons x l ih =>
  intro r hr
  have e:qg (x::l)=x.boxes++qg l:=by simp [qg]
  rw [e,List.length_append]
  rcases List.mem_cons.1 hr with rfl | hr
  ·omega
  ·have:=ih r hr
   omega
theorem VG (xs:List Pr):V.closed (lV xs)=true:=by simp [lV,V.closed,zV (enc:=Pr.cs) (fun _=>rfl)]
theorem qn2 (l:List Ru) (hl:l.length≤9223372036854775807) (hb:∀ r∈l,r.boxes.length≤4398046511104) (R:List Pr) (hR:R.length≤300000) (H:List Bk) :
  AFn Tryz.prog 11 [slU l,lV R,.nil] H fun y H'=>Kp NoB H H'∧(tbR l=false→y = .tup [.agg [.sc (.pointer none),.sc (.pointer none),.sc (.pointer none)],.sc (.bool false)]) ∧
   (tbR l=true→∃ r c t m Tp Tc,y = .tup [wdC r c t,.sc (.bool true)]∧WoJ H H' l (Zr R) [] r c t m Tp Tc) :=
 (qdg l hl hb R hR [] (by decide) H).weak (JW.cons (JW.cons (JW.qgA (sz:=6) (JW.refl _))))
theorem wFewR (l:List Ru) (hb:∀ r∈l,r.boxes.length≤4398046511104) (R:List Pr):PFn Tryz.prog 12 [slU l,lV R,.nil] (.sc (.bool (ZB l R 0))) :=
 AFn.weak (qgj l hb R 0 []) (JW.cons (JW.cons (JW.qgA (sz:=6) (JW.refl _))))
theorem XP {x y:Operand} {u v:Int}:XU Tryz.prog .eql 49 x y (.int .i64 u) (.int .i64 v)=some (.bool (u==v)):=rfl
def Vj (e:Int) (R:List Se):List Se:=if e=0 then R else []
theorem KI (e:Int) (R:List Se):(Vj e R).length≤R.length:=by
 unfold Vj
 split <;> simp
theorem Y3 (e:Int) (R:List Se):Wu e R = .tup [QA (Vj e R),.sc (.int .i64 e)]:=rfl
theorem X3 (D:List Se) (p:Pt) (m:Nat):(Ju D p m).length≤D.length:=by
 unfold Ju
 refine Nat.le_trans (List.length_filterMap_le _ _) ?_
 rw [List.length_take,(ZY _).length_eq,List.length_map]
 omega
theorem blindLaw (q:Qv) (r t:List Pr) (hl:q.l.length≤1048576) (hn:(qg q.l).length≤1048576) (hr:r.length≤300000) (ht:t.length≤300000):AFn Tryz.prog 3 [q.w,lV r,lV t] [] fun y _=>y = .sc (.bool true):=by
 have hb:∀ x∈q.l,x.boxes.length≤4398046511104:=fun x hx=>by have:=qbi x hx; omega
 have hK:=fun H=>qdS H
 have hWa:=fun H=>qn2 q.l (by omega) hb r hr H
 have hWb:=fun H=>qn2 q.l (by omega) hb t ht H
 have hFa:=wFewR q.l hb r
 have hFb:=wFewR q.l hb t
 have hA:=wAll'
 have c1:=yT q.l
 have c2:=VG r
 have c3:=VG t
 unfold Gr.cs at hA
 unfold Qv.w Qv.cs
 refine vwc (fn:=Tryz.f3) rfl ?_
 simp only [Tryz.f3,ql]
 refine AW.seq (vwa [(7,11,[3,11,1,2])] ?_)
 simp [slU]
 have e0 : [qvB q][0]? = some (qvB q):=rfl
 change AW _ _ _ _ ⟨_,[qvB q]⟩
 have hH0 : [qvB q].length=1:=rfl
 generalize [qvB q]=H0 at *
 have e0':=e0
 unfold qvB at e0'
 refine AW.seq (vwa [(7,11,[3,11,1,2])] ?_)
 simp [e0']
 refine qc.of (hWa H0) ?_
 rintro y H1 ⟨k1,w0,w1⟩
 have f0:=k1.cells id e0
 have kp1:=eq_true (k1.YF (fun x h=>h))
 cases htb:tbR q.l with
 | false =>
  have:=w0 htb
  subst this
  simp [kp1]
  rw [qp rfl]
  generalize hwz:Bk.cells (List.map SV.v [V.sc (.pointer none),V.sc (.pointer none),V.sc (.pointer none)])=wz
  have g0:=hget (L := [wz]) f0
  generalize H1 ++ [wz]=H2 at *
  have g0':=g0
  try unfold qvB at g0'
  refine AW.seq (vwa [(7,11,[3,11,1,2])] ?_)
  simp [g0']
  refine qc.of (hWb H2) ?_
  rintro y H3 ⟨k3,w3,w4⟩
  have:=w3 htb
  subst this
  have kp3:=eq_true (k3.YF (fun x h=>h))
  simp [kp3]
  refine AW.seq (vwa [(7,11,[3,11,1,2])] ?_)
  simp
  refine qc.of (hK _) ?_
  rintro y H4 ⟨rfl,k2⟩
  simp
 | true =>
  obtain ⟨ra,ca,ta,ma,Ta,Ua,rfl,hJa⟩:=w1 htb
  have hWoa:=hJa.ok.recs
  clear w0 w1 hWa k1 hJa e0 e0'
  unfold wdC
  simp [kp1]
  rw [qp rfl]
  change AW _ _ _ _ ⟨_,H1 ++ [wdB ra ca ta]⟩
  have g0:=hget (L := [wdB ra ca ta]) f0
  have g1:(H1 ++ [wdB ra ca ta])[H1.length]? = some (wdB ra ca ta):=by simp
  have hW1:=hWoa.app (L := [wdB ra ca ta])
  obtain ⟨es0,t0,m0⟩:=hW1.tb
  have mlt:=(List.getElem?_eq_some_iff.1 t0.m).1
  have tlt:=(List.getElem?_eq_some_iff.1 t0.t).1
  have plt:=hW1.tp.lt
  have clt:=hW1.tc.lt
  clear f0 hWoa kp1 t0 m0
  generalize H1 ++ [wdB ra ca ta]=H2 at *
  generalize H1.length=i1 at *
  have g0':=g0
  try unfold qvB at g0'
  refine AW.seq (vwa [(7,11,[3,11,1,2])] ?_)
  simp [g0']
  refine qc.of (hWb H2) ?_
  rintro y H3 ⟨k3,w3,w4⟩
  obtain ⟨rb,cb,tb,mb,Tb,Ub,rfl,hJb⟩:=w4 htb
  have hWob:=hJb.ok.recs
  have bpn:=hJb.pn
  have bcn:=hJb.cn
  have btn:=hJb.tn
  have bmn:=hJb.mn
  have f0:=k3.cells id g0
  have f1:=k3.cells id g1
  have hW3:=hW1.Vb k3
  have kp3:=eq_true (k3.YF (fun x h=>h))
  have nab1:∀ x,Ta x→x≠mb:=fun x hx=>by have:=plt x hx; omega
  have nab2:∀ x,Ua x→x≠mb:=fun x hx=>by have:=clt x hx; omega
  have nab3:ta≠mb:=by omega
  have nab4:ma≠mb:=by omega
  have nba1:∀ x,Tb x→x≠ma:=fun x hx=>by have:=bpn x hx; omega
  have nba2:∀ x,Ub x→x≠ma:=fun x hx=>by have:=bcn x hx; omega
  have nba3:tb≠ma:=by omega
  have nba4:mb≠ma:=by omega
  clear w3 w4 hWb k3 hJb g0 g0' g1 hW1 plt clt bpn bcn btn bmn
  unfold wdC
  simp [kp3]
  rw [qp rfl]
  change AW _ _ _ _ ⟨_,H3 ++ [wdB rb cb tb]⟩
  have g0:=hget (L := [wdB rb cb tb]) f0
  have g1:=hget (L := [wdB rb cb tb]) f1
  have g2:(H3 ++ [wdB rb cb tb])[H3.length]? = some (wdB rb cb tb):=by simp
  have hWa:=hW3.app (L := [wdB rb cb tb])
  have hWb:=hWob.app (L := [wdB rb cb tb])
  clear f0 f1 hW3 hWob kp3
  generalize H3 ++ [wdB rb cb tb]=H4 at *
  have hWa0:=hWa
  have hWb0:=hWb
  generalize H3.length=i2 at *
  have g0':=g0
  try unfold qvB at g0'
  refine AW.seq (vwa [(7,11,[3,11,1,2])] ?_)
  simp [g0']
  refine qc.pure hFa (by simp [V.qA,V.closed,c1,c2]) rfl ?_
  cases hfa:ZB q.l r 0 with
  | false =>
   simp
   refine qc.of (hK _) ?_
   rintro y H5 ⟨rfl,k2⟩
   simp
  | true =>
  simp [g0']
  refine qc.pure hFb (by simp [V.qA,V.closed,c1,c3]) rfl ?_
  cases hfb:ZB q.l t 0 with
  | false =>
   simp
   refine qc.of (hK _) ?_
   rintro y H5 ⟨rfl,k2⟩
   simp
  | true =>
  simp
  obtain ⟨hTb,hl7,hb10,hr30,-⟩:=WS htb hfa
  obtain ⟨-,-,-,ht30,-⟩:=WS htb hfb
  clear g0'
  refine AW.seq (vwa [(7,11,[3,11,1,2])] ?_)
  simp [g0]
  rw [qp rfl]
  change AW _ _ _ _ ⟨_,H4 ++ [vwB q.v]⟩
  have a0:=hget (L := [vwB q.v]) g0
  have a1:=hget (L := [vwB q.v]) g1
  have a2:=hget (L := [vwB q.v]) g2
  have a3:(H4 ++ [vwB q.v])[H4.length]? = some (vwB q.v):=by simp
  have hWa:=hWa.app (L := [vwB q.v])
  have hWb:=hWb.app (L := [vwB q.v])
  have hi3:i2<H4.length:=(List.getElem?_eq_some_iff.1 g2).1
  have hi1:i1<H4.length:=(List.getElem?_eq_some_iff.1 g1).1
  have hi0:0<H4.length:=(List.getElem?_eq_some_iff.1 g0).1
  obtain ⟨esa,ta0,_⟩:=hWa0.tb
  obtain ⟨esb,tb0,_⟩:=hWb0.tb
  have mla:=(List.getElem?_eq_some_iff.1 ta0.m).1
  have tla:=(List.getElem?_eq_some_iff.1 ta0.t).1
  have mlb:=(List.getElem?_eq_some_iff.1 tb0.m).1
  have tlb:=(List.getElem?_eq_some_iff.1 tb0.t).1
  have pla:=hWa0.tp.lt
  have cla:=hWa0.tc.lt
  have plb:=hWb0.tp.lt
  have clb:=hWb0.tc.lt
  clear g0 g1 g2 ta0 tb0 hWa0 hWb0
  generalize H4 ++ [vwB q.v]=H5 at *
  generalize H4.length=i3 at *
  have a3':=a3
  unfold vwB at a3'
  have est:∀ a b c d e f x y,setCells H5 i3 2 [a,b,c,d,e,f,x,y]=H5.set i3 (.cells [.v (.sc (.int .i64 q.v.ro)),.v (.sc (.int .i64 q.v.ti)),.v a,.v b,.v c,.v d,.v e,.v f,.v x,.v y]):=fun a b c d e f x y=>by
   rw [setCells_eq a3' (by simp)]
   rfl
  refine AW.seq (vwa [(7,11,[3,11,1,2])] ?_)
  simp
  refine qc.pure hA rfl rfl ?_
  simp [a3',est]
  change AW _ _ _ _ ⟨_,H5.set i3 (vwB (Vw.mk q.v.ro q.v.ti Zx))⟩
  have hkp:Kp (fun x=>x=i3) H5 (H5.set i3 (vwB (Vw.mk q.v.ro q.v.ti Zx))):=Kp.refl.set rfl
  have b0:=hkp.cells (by omega) a0
  have b1:=hkp.cells (by omega) a1
  have b2:=hkp.cells (by omega) a2
  have b3:(H5.set i3 (vwB (Vw.mk q.v.ro q.v.ti Zx)))[i3]? = some (vwB (Vw.mk q.v.ro q.v.ti Zx)):=List.getElem?_set_self (List.getElem?_eq_some_iff.1 a3).1
  have hWa:=hWa.set (K:=vwB (Vw.mk q.v.ro q.v.ti Zx)) (i:=i3) (fun x hx=>by have:=pla x hx; omega) (fun x hx=>by have:=cla x hx; omega) (by omega) (by omega)
  have hWb:=hWb.set (K:=vwB (Vw.mk q.v.ro q.v.ti Zx)) (i:=i3) (fun x hx=>by have:=plb x hx; omega) (fun x hx=>by have:=clb x hx; omega) (by omega) (by omega)
  clear a0 a1 a2 a3 a3' est hkp pla cla plb clb
  generalize H5.set i3 (vwB (Vw.mk q.v.ro q.v.ti Zx))=H6 at *
  have hsr:=Z7 r
  have hst:=Z7 t
  have hRa:=qkj r (by omega)
  have hRb:=qkj t (by omega)
  have hDa:=qdc (l:=q.l) (by omega) (fun x hx=>by have:=hb x hx; omega) (Vw.mk q.v.ro q.v.ti Zx) (jK r) (by omega)
  have hDb:=qdc (l:=q.l) (by omega) (fun x hx=>by have:=hb x hx; omega) (Vw.mk q.v.ro q.v.ti Zx) (jK t) (by omega)
  have hdla:=YZ q.l (Vw.mk q.v.ro q.v.ti Zx) (jK r)
  have hSm:=qez (Je q.l (Vw.mk q.v.ro q.v.ti Zx) (jK r)) (Je q.l (Vw.mk q.v.ro q.v.ti Zx) (jK t)) (by omega)
  have c4:=VG (jK r)
  have c5:=VG (jK t)
  have c6:=Q9 (Je q.l (Vw.mk q.v.ro q.v.ti Zx) (jK r))
  have c7:=Q9 (Je q.l (Vw.mk q.v.ro q.v.ti Zx) (jK t))
  unfold Vw.cs at hDa hDb
  have b0':=b0
  have b3':=b3
  try unfold vwB at b3'
  refine AW.seq (AW.ofz [(7,11,[3,11,1,2])] mixed (by kernel_rfl) ?_)
  simp [b0',b3']
  refine Zj.of hRa (by simp [V.qA,V.closed,c2]) c4 ?_
  simp [b0',b3']
  refine Zj.of hDa (by simp [V.qA,V.closed,c1,c4]) c6 ?_
  simp [b0',b3']
  refine Zj.of hRb (by simp [V.qA,V.closed,c3]) c5 ?_
  simp [b0',b3']
  refine qc.pure hDb (by simp [V.qA,V.closed,c1,c5]) c7 ?_
  simp
  refine qc.pure hSm (by simp [V.qA,c6,c7]) rfl ?_
  by_cases hEq:Je q.l (Vw.mk q.v.ro q.v.ti Zx) (jK r)=Je q.l (Vw.mk q.v.ro q.v.ti Zx) (jK t)
  rotate_left
  ·simp [hEq]
   refine qc.of (hK _) ?_
   rintro y H7 ⟨rfl,k2⟩
   simp
  simp [hEq]
  have hda:=qmp q.l q.v (jK r)
  have hdb:=qmp q.l q.v (jK t)
  rw [hEq,← hdb] at hda
  have hdl:=YZ q.l q.v (jK t)
  have hwa:=fun HH h=>qaK (H:=HH) (S:=jK r) (C := []) (r:=ra) (c:=ca) (t:=ta) (m:=ma) (Tp:=Ta) (Tc:=Ua) h hTb hsr.1 (by omega) q.v q.r q.m
  have hwb:=fun HH h=>qaK (H:=HH) (S:=jK t) (C := []) (r:=rb) (c:=cb) (t:=tb) (m:=mb) (Tp:=Tb) (Tc:=Ub) h hTb hst.1 (by omega) q.v q.r q.m
  have hna:=fun HH h=>qhP (H:=HH) (S:=jK r) (C := []) (r:=ra) (c:=ca) (t:=ta) (m:=ma) (Tp:=Ta) (Tc:=Ua) h hTb hsr.1 (by omega) q.v q.p q.m
  have hnb:=fun HH h=>qhP (H:=HH) (S:=jK t) (C := []) (r:=rb) (c:=cb) (t:=tb) (m:=mb) (Tp:=Tb) (Tc:=Ub) h hTb hst.1 (by omega) q.v q.p q.m
  simp only [qaG,hda] at hwa hwb hna hnb
  have hS1:=qez (Vj (yN q.v q.m (qd q.r)) (((Je q.l q.v (jK t)).filter fun s=>qE s.box q.r).take q.m.toNat)) (Vj (yN q.v q.m (qd q.r)) (((Je q.l q.v (jK t)).filter fun s=>qE s.box q.r).take q.m.toNat)) (by
   have h1:=KI (yN q.v q.m (qd q.r)) (((Je q.l q.v (jK t)).filter fun s=>qE s.box q.r).take q.m.toNat)
   have h2:=List.length_filter_le (fun s:Se=>qE s.box q.r) (Je q.l q.v (jK t))
   rw [List.length_take] at h1
   omega)
  have hS2:=qez (Vj (yN q.v q.m (fits q.p)) (Ju (Je q.l q.v (jK t)) q.p q.m.toNat)) (Vj (yN q.v q.m (fits q.p)) (Ju (Je q.l q.v (jK t)) q.p q.m.toNat)) (by
   have h1:=KI (yN q.v q.m (fits q.p)) (Ju (Je q.l q.v (jK t)) q.p q.m.toNat)
   have h2:=X3 (Je q.l q.v (jK t)) q.p q.m.toNat
   omega)
  rw [decide_eq_true rfl] at hS1 hS2
  simp only [Y3] at hwa hwb hna hnb
  generalize Vj (yN q.v q.m (qd q.r)) _=X1 at *
  generalize Vj (yN q.v q.m (fits q.p)) _=X2 at *
  have cx1:=Q9 X1
  have cx2:=Q9 X2
  generalize yN q.v q.m (qd q.r)=e1 at *
  generalize yN q.v q.m (fits q.p)=e2 at *
  unfold wdC Vw.cs Re.v Re.cs at hwa hwb
  unfold wdC Vw.cs Pt.v Pt.cs at hna hnb
  clear hRa hRb hDa hDb hSm c4 c5 c6 c7 b3' hdla
  try unfold wdB at b1
  try unfold wdB at b2
  refine AW.sub [(3,.v (.ptr 0 0)),(7,.v (.ptr i1 0)),(9,.v (.ptr i2 0)),(6,.v (.sc (.bool false)))] (by simp [qbh,qm]) ?_
  refine AW.seq (vwa [(7,11,[3,11,1,2])] ?_)
  simp [b0,b1,b2]
  refine qc.of (hwa _ hWa) ?_
  rintro y H7 ⟨rfl,kK⟩
  obtain ⟨es,t1,m1⟩:=hWa.tb
  have b0:=kK.2.cells (qh b0 t1.m) b0
  have b1:=kK.2.cells (qh b1 t1.m) b1
  have b2:=kK.2.cells (qh b2 t1.m) b2
  have kp:=eq_true (kK.Va t1)
  have hWb:=hWb.qow kK nba1 nba2 nba3 nba4
  have hWa:=hWa.kept kK
  clear kK t1 m1
  simp [kp]
  refine AW.seq (vwa [(7,11,[3,11,1,2])] ?_)
  simp [b0,b1,b2]
  refine qc.of (hwb _ hWb) ?_
  rintro y H8 ⟨rfl,kK⟩
  obtain ⟨es,t1,m1⟩:=hWb.tb
  have b0:=kK.2.cells (qh b0 t1.m) b0
  have b1:=kK.2.cells (qh b1 t1.m) b1
  have b2:=kK.2.cells (qh b2 t1.m) b2
  have kp:=eq_true (kK.Va t1)
  have hWa:=hWa.qow kK nab1 nab2 nab3 nab4
  have hWb:=hWb.kept kK
  clear kK t1 m1
  simp [kp]
  refine AW.seq (vwa [(7,11,[3,11,1,2])] ?_)
  simp [b0,b1,b2]
  refine qc.of (hna _ hWa) ?_
  rintro y H9 ⟨rfl,kK⟩
  obtain ⟨es,t1,m1⟩:=hWa.tb
  have b0:=kK.2.cells (qh b0 t1.m) b0
  have b1:=kK.2.cells (qh b1 t1.m) b1
  have b2:=kK.2.cells (qh b2 t1.m) b2
  have kp:=eq_true (kK.Va t1)
  have hWb:=hWb.qow kK nba1 nba2 nba3 nba4
  have hWa:=hWa.kept kK
  clear kK t1 m1
  simp [kp]
  refine AW.seq (vwa [(7,11,[3,11,1,2])] ?_)
  simp [b0,b1,b2]
  refine qc.of (hnb _ hWb) ?_
  rintro y H10 ⟨rfl,kK⟩
  obtain ⟨es,t1,m1⟩:=hWb.tb
  have b0:=kK.2.cells (qh b0 t1.m) b0
  have b1:=kK.2.cells (qh b1 t1.m) b1
  have b2:=kK.2.cells (qh b2 t1.m) b2
  have kp:=eq_true (kK.Va t1)
  have hWa:=hWa.qow kK nab1 nab2 nab3 nab4
  have hWb:=hWb.kept kK
  clear kK t1 m1
  simp [kp]
  refine vwa [(7,11,[3,11,1,2])] ?_
  simp [XP]
  refine qc.pure hS1 (by simp [V.qA,cx1]) rfl ?_
  simp [XP]
  refine qc.pure hS2 (by simp [V.qA,cx2]) rfl ?_
  simp
  refine qc.of (hK _) ?_
  rintro y HH ⟨rfl,k2⟩
  simp
end Go.Proofs.YtnconfggojpkcaaGreat
