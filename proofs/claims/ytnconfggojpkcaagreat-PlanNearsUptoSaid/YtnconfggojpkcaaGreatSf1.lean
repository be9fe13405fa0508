/- Texts that a law rests on, part f1: plain lemmas and what functions of the program do. No condition. -/
import Derived.BigQuiet
import Derived.Deep.QuietTactic
import Derived.Deep.Slices
import Derived.Ground.GgsProg
import Derived.JoinedCond
import Derived.Laws.MakeOwn
import Derived.Lib.AppendZeros
import Derived.Lib.SlicesCompact
import Derived.Maps.AppendAt
import Derived.OpenShut
import Derived.ProofKit
import Derived.Scope
import Derived.Shelf.GgSortFunc.Tiny
import Derived.Shelf.SlSortFuncK.WholeK
import Derived.Shelf.Slices.CompactI
import Derived.Shelf.Slices.In.SortNone
import Derived.Shelf.Sort.Plain
import Derived.SizedLaws
import Derived.Sort.OwnSorted
import Derived.Sort.OwnSortedInts
import Derived.Test.YtnconfggojpkcaaGreatRows
import Derived.WalkKit
import Derived.WalkLawsBesides
import Derived.WalkSpells
import Derived.WideKeyRuns
import Derived.Test.YtnconfggojpkcaaGreatSz7
set_option linter.all false
set_option maxHeartbeats 16000000
set_option maxRecDepth 100000
namespace Go.Proofs.YtnconfggojpkcaaGreat
open Go.RowKit
section
variable {w w':World} {g:Nat} {t:TypeId} {cs:Array Value}
end
section
variable {S S':Nat→Prop} {w w' w'':World}
end
section
variable {α:Type} {w w':World} {B B' sz:Nat} {enc:α→List Value} {v:Value} {xs:List α}
end
section
variable {α:Type} {w w':World} {base B sz:Nat} {e:TypeId} {enc:α→List Value} {v:Value} {xs:List α}
end
def Stop (p:Prop):Prop:=p
end Go.Proofs.YtnconfggojpkcaaGreat
namespace Go.Proofs.YtnconfggojpkcaaGreat
open Go.RowKit
namespace AM
section
variable {I:Nat→Nat→Option Value} {φ:List Nat}
end
theorem Zj.of {P:Program} {N:Nat} {dst:Option Tmp} {k:FuncId} {xs:List V} {F:Fr} {H:List Bk} {K:St→Prop} {r:V} (h:PFn P k xs r) (hx:V.qA xs=true) (hr:r.closed=true) (hk:jR N dst (.v r) ⟨F,H⟩ K):Zj P N dst k xs F H K := .inl ⟨r,h,hx,hr,hk⟩
section
variable {P:Program} {N:Nat} {ops rest:List Oper} {Fs F0:Fr} {H0 H:List Bk} {F:Fr} {o:Oper} {K:St→Prop} {K':Fr→St→Prop}
end
section
variable {P:Program} {c c0:Cx} {N:Nat} {s:St} {a a0:Act} {w w0:World} {Fs F0:Fr} {H0:List Bk}
end
section
variable {P:Program} {N:Nat} {bad:List (Nat×Nat×List Nat)} {F:Fr} {H:List Bk} {Q:Exit→St→Prop} {c c':Code} {x:Operand} {id:Nat} {draw:Bool} {arr:Array Oper}
end
section
variable {m:Nat} {H H' H1 L:List Bk}
theorem vI.trans (h:vI m H H1) (h1:vI m H1 H'):vI m H H':=fun i b hi hb hn=>h1 i b hi (h i b hi hb hn) hn
theorem vI.append (h:vI m H H1):vI m H (H1++L):=h.trans .app
end
theorem AW.qhy {P:Program} {N:Nat} {F:Fr} {H:List Bk} {x:Code} {Q:Exit→St→Prop} (t:Nat) {pr:Bool} {e n sz:Nat} {cs:List V} (ht:qm t F=some (.own pr e n sz cs)) (h:AW P N x Q ⟨yR t (.v (.sl n sz cs)) F,H⟩):AW P N x Q ⟨F,H⟩:=fun c a w hs=>by
 obtain ⟨c',h1,h2⟩:=hs.qhy ht
 refine wp_mono (h c' a w h1) fun e a' w' he=>Post.step h2 he
end AM
end Go.Proofs.YtnconfggojpkcaaGreat
namespace Go.Proofs.YtnconfggojpkcaaGreat
namespace Can
variable {L:Type} [DecidableEq L]
theorem Form.apart {F:Int→Int→Option L} {o:List (Rc L)} (h:Form F o):o.Pairwise fun p q=>p.x1<q.x0∨p.y1<q.y0:=by
 obtain ⟨R,B,h1,h2,rfl⟩:=h
 unfold emit
 rw [List.flatMap_def,List.pairwise_flatten]
 refine ⟨fun l hl => ?_,?_⟩
 ·obtain ⟨b,hb,rfl⟩:=List.mem_map.1 hl
  unfold qhx
  rw [List.pairwise_map]
  obtain ⟨e,_⟩:=qa7 h2 hb (y:=b.a) (Int.le_refl _) (h2.le b hb)
  rw [← e]
  exact (h1 b.a).pw.imp fun h => .inl h.1
 ·rw [List.pairwise_map]
  refine h2.pw.imp fun {b c} hbc p hp q hq => ?_
  obtain ⟨r,_,rfl⟩:=List.mem_map.1 hp
  obtain ⟨s,_,rfl⟩:=List.mem_map.1 hq
  exact .inr hbc.1
def jm (g:Int→Nat):Nat→Nat
 | 0=>0
 | n+1=>jm g n+g n
theorem jO {g h:Int→Nat}:∀ {n:Nat},(∀ k:Nat,k<n→g k=h k)→jm g n=jm h n
 | 0,_=>rfl
 | n+1,e=>by rw [jm,jm,jO (fun k hk=>e k (by omega)),e n (by omega)]
theorem Jj {g h:Int→Nat}:∀ {n:Nat},jm (fun x=>g x+h x) n=jm g n+jm h n
 | 0=>rfl
 | n+1=>by rw [jm,jm,jm,Jj]; omega
theorem Zo:∀ {n:Nat},jm (fun _=>0) n=0
 | 0=>rfl
 | n+1=>by rw [jm,Zo]
theorem Jd {g h:Int→Nat}:∀ {n:Nat},(∀ k:Nat,k<n→g k≤h k)→jm g n≤jm h n
 | 0,_=>Nat.le_refl _
 | n+1,e=>by
  rw [jm,jm]
  have:=Jd (n:=n) (fun k hk=>e k (by omega))
  have:=e n (by omega)
  omega
theorem Ji {g h:Int→Nat}:∀ {n:Nat},(∀ k:Nat,k<n→g k≤h k)→jm h n≤jm g n→∀ k:Nat,k<n→g k=h k
 | 0,_,_,k,hk=>by omega
 | n+1,e,hs,k,hk=>by
  rw [jm,jm] at hs
  have h1:=Jd (n:=n) (fun k hk=>e k (by omega))
  have h2:=e n (by omega)
  by_cases hkn:k=n
  ·subst hkn; omega
  ·exact Ji (n:=n) (fun k hk=>e k (by omega)) (by omega) k (by omega)
theorem Vu {a b:Int} {c:Nat} (h0:0≤a) (hab:a≤b):∀ {n:Nat},jm (fun x=>if a≤x∧x≤b then c else 0) n=(min (n:Int) (b+1) - min (n:Int) a).toNat*c
 | 0=>by
  have:(min ((0:Nat):Int) (b+1) - min ((0:Nat):Int) a).toNat=0:=by omega
  rw [jm,this,Nat.zero_mul]
 | n+1=>by
  rw [jm,Vu h0 hab (n:=n)]
  by_cases h:a≤(n:Int)∧(n:Int)≤b
  ·rw [if_pos h,← Nat.succ_mul]
   congr 1
   omega
  ·rw [if_neg h,Nat.add_zero]
   congr 1
   omega
theorem Yq {a b:Int} {c n:Nat} (h0:0≤a) (hab:a≤b) (hb:b<n):jm (fun x=>if a≤x∧x≤b then c else 0) n=(b - a+1).toNat*c:=by
 rw [Vu h0 hab]
 congr 1
 omega
end Can
end Go.Proofs.YtnconfggojpkcaaGreat
namespace Go.Proofs.YtnconfggojpkcaaGreat
open Go.RowKit AM
def jf (n:Int) (s:List Int×Bool) (x:Int):List Int×Bool:=if s.2=false∧n<x then (s.1 ++ [n,x],true) else (s.1 ++ [x],s.2)
def QK (n:Int) (xs:List Int):List Int×Bool:=xs.foldl (jf n) ([],false)
def Za (xs:List Int) (n:Int):List Int:=if n∈xs then xs else if (QK n xs).2 then (QK n xs).1 else (QK n xs).1 ++ [n]
theorem qbN {n:Int} {xs:List Int} {k:Nat} (h:k<xs.length):QK n (xs.take (k+1))=jf n (QK n (xs.take k)) xs[k]:=by
 unfold QK
 rw [List.take_succ_eq_append_getElem h,List.foldl_append]
 rfl
theorem K3 (n:Int):∀ (xs:List Int) (s:List Int×Bool),(xs.foldl (jf n) s).1.length≤s.1.length+xs.length+1∧(s.2=true→(xs.foldl (jf n) s).1.length=s.1.length+xs.length∧(xs.foldl (jf n) s).2=true)∧((xs.foldl (jf n) s).2=false→(xs.foldl (jf n) s).1.length=s.1.length+xs.length)
 | [],s=>by simp
 | x::xs,s=>by
  obtain ⟨h1,h2,h3⟩:=K3 n xs (jf n s x)
  rw [List.foldl_cons]
  simp only [List.length_cons]
  by_cases h:s.2=false∧n<x
  ·have e:jf n s x=(s.1 ++ [n,x],true):=by unfold jf; rw [if_pos h]
   rw [e] at h1 h2 h3 ⊢
   have h2:=h2 rfl
   generalize xs.foldl (jf n) (s.1 ++ [n,x],true)=r at *
   simp only [List.length_append,List.length_cons,List.length_nil] at h1 h2 h3
   refine ⟨by omega,fun e=>(by rw [h.1] at e; cases e),fun e=>(by rw [h2.2] at e; cases e)⟩
  ·have e:jf n s x=(s.1 ++ [x],s.2):=by unfold jf; rw [if_neg h]
   rw [e] at h1 h2 h3 ⊢
   generalize xs.foldl (jf n) (s.1 ++ [x],s.2)=r at *
   simp only [List.length_append,List.length_cons,List.length_nil] at h1 h2 h3
   refine ⟨by omega,fun e => ?_,fun e=>(by have:=h3 e; omega)⟩
   have:=h2 e
   exact ⟨by omega,this.2⟩
theorem KZ (n:Int) (xs:List Int):(QK n xs).1.length≤xs.length+1∧((QK n xs).2=false→(QK n xs).1.length=xs.length):=by
 obtain ⟨h1,_,h3⟩:=K3 n xs ([],false)
 simp only [List.length_nil] at h1 h3
 exact ⟨by unfold QK; omega,fun e=>by have:=h3 e; unfold QK; omega⟩
theorem Vv (n:Int) (xs:List Int):(Za xs n).length≤xs.length+1:=by
 obtain ⟨h1,h2⟩:=KZ n xs
 unfold Za
 split
 ·omega
 ·split
  ·exact h1
  ·rename_i h
   have:=h2 (by simpa using h)
   simp [this]
theorem Jr (n:Int):∀ (xs b:List Int),xs.foldl (jf n) (b,true)=(b++xs,true)
 | [],b=>by simp
 | x::xs,b=>by
  have:jf n (b,true) x=(b ++ [x],true):=by simp [jf]
  rw [List.foldl_cons,this,Jr n xs]
  simp
theorem Jq {n:Int}:∀ (xs a:List Int),(a++xs).Pairwise (· < ·)→(∀ x∈a,x<n)→n∉xs →
  (((xs.foldl (jf n) (a,false)).1++if (xs.foldl (jf n) (a,false)).2 then [] else [n]).Pairwise (· < ·)∧∀ z,z∈((xs.foldl (jf n) (a,false)).1++if (xs.foldl (jf n) (a,false)).2 then [] else [n])↔z∈a∨z∈xs∨z=n)
 | [],a,h1,h2,_=>by
  simp only [List.foldl_nil,Bool.false_eq_true,if_false]
  rw [List.append_nil] at h1
  refine ⟨?_,fun z=>by simp⟩
  rw [List.pairwise_append]
  exact ⟨h1,by simp,fun x hx q hq=>by simp at hq; subst hq; exact h2 x hx⟩
 | x::xs,a,h1,h2,h3=>by
  rw [List.foldl_cons]
  by_cases h:n<x
  ·have:jf n (a,false) x=(a ++ [n,x],true):=by simp [jf,h]
   rw [this,Jr]
   simp only [if_true,List.append_nil,List.append_assoc]
   refine ⟨?_,fun z=>by simp; grind⟩
   rw [List.pairwise_append] at h1 ⊢
   obtain ⟨q1,q2,q3⟩:=h1
   refine ⟨q1,?_,fun y hy z hz => ?_⟩
   ·simp only [List.cons_append,List.nil_append]
    rw [List.pairwise_cons]
    refine ⟨fun z hz => ?_,q2⟩
    rcases List.mem_cons.1 hz with rfl | hz
    ·omega
    ·have:=(List.pairwise_cons.1 q2).1 z hz
     omega
   ·simp only [List.cons_append,List.nil_append] at hz
    rcases List.mem_cons.1 hz with rfl | hz
    ·exact h2 y hy
    ·exact q3 y hy z hz
  ·have hne:n≠x:=fun e=>h3 (by simp [e])
   have:jf n (a,false) x=(a ++ [x],false):=by simp [jf,h]
   rw [this]
   obtain ⟨k1,k2⟩:=Jq xs (a ++ [x]) (by simpa using h1) (fun y hy=>by
    rcases List.mem_append.1 hy with hy | hy
    ·exact h2 y hy
    ·simp at hy
     subst hy
     omega) (fun hm=>h3 (by simp [hm]))
   exact ⟨k1,fun z=>by rw [k2]; simp; grind⟩
theorem QJ {n:Int} {xs:List Int} (h:xs.Pairwise (· < ·)):(Za xs n).Pairwise (· < ·)∧∀ z,z∈Za xs n↔z∈xs∨z=n:=by
 unfold Za
 split
 ·rename_i hm
  exact ⟨h,fun z=>⟨.inl,fun hz=>hz.elim id fun e=>e▸hm⟩⟩
 ·rename_i hm
  obtain ⟨h1,h2⟩:=Jq xs [] (by simpa using h) (by simp) hm
  unfold QK
  cases hb:(xs.foldl (jf n) ([],false)).2 with
  | true=>rw [hb] at h1 h2; simp at h1 h2 ⊢; exact ⟨h1,h2⟩
  | false=>rw [hb] at h1 h2; simp at h1 h2 ⊢; exact ⟨h1,h2⟩
end Go.Proofs.YtnconfggojpkcaaGreat
namespace Go.Proofs.YtnconfggojpkcaaGreat
open Go.RowKit AM
attribute [local simp] zQ qU jL zT zq zR zS zo jM zu qV Z8 Qm jC Ql yc ZE vZ slF qG Qo zK yx zA shares jh yt ze Qz QI qY ZF qZ qM vX zH yu Qe qL zD zG vU slV jE jG yE zU ZJ jB jF aMM aUn Qp vW jD zC jA qJ vV Qu vY vS Zw y9 qK Qs ZK zJ zI jH jR ZH eval zZ AM.valOf qm vO yR del SV.refers zY vQ jU shift ldV V.exact V.jg V.ofValue V.vP V.vL V.cells V.one Value.oneCell' ZI QY jV Q5 ZM ZC Qa Zy jl jI Qi ZL y8 yX Qr calm Qt Zn Qk feeds shrinks Qx looks isT Qf vK Qd putAt jT jc Zm sliceB isEq Qg zk qH zO zn qR zl zm qQ zP zi qP ZW Qw yB Zl QZ inO y7 Zi Mix.vT Mix.Qc QB QX qz qj qW zh qO ZV Qq yg yh ZG Zb yw yO Q8 jW V.fixed V.vC
namespace Pt
end Pt
namespace Ce
end Ce
namespace Re
end Re
theorem yS (n:Int):PFn Tryz.prog 78 [.sc (.int .i64 n)] (.sc (.bool (inside n))):=by
 refine vwc (fn:=Tryz.f78) rfl (vwb ?_)
 simp only [Tryz.f78,ql]
 simp
 simp [gd,inside]
 grind
theorem VF (p:Pt):PFn Tryz.prog 33 [p.v] (.sc (.bool (fits p))):=by
 unfold Pt.v Pt.cs
 refine vwc (fn:=Tryz.f33) rfl (vwb ?_)
 simp only [Tryz.f33,ql]
 simp
 refine qc.pure (yS _) rfl rfl ?_
 simp
 refine gd.intro (fun e => ?_) (fun e => ?_)
 ·refine qc.pure (yS _) rfl rfl ?_
  simp [fits,e]
 ·simp [fits]
  simp at e
  simp [e]
theorem yC (p:Re):PFn Tryz.prog 28 [p.v] (.sc (.bool (qd p))):=by
 unfold Re.v Re.cs
 refine vwc (fn:=Tryz.f28) rfl (vwb ?_)
 simp only [Tryz.f28,ql]
 have e:∀ b,qd p=b→(inside p.x0=true→inside p.x1=true→inside p.y0=true→inside p.y1=true→(decide (p.x0≤p.x1)&&decide (p.y0≤p.y1))=b):=fun b h h1 h2 h3 h4=>by
  rw [← h]; simp [qd,h1,h2,h3,h4]
 simp
 refine qc.pure (yS _) rfl rfl ?_
 cases h1:inside p.x0
 ·simp [qd,h1]
 simp
 refine qc.pure (yS _) rfl rfl ?_
 cases h2:inside p.x1
 ·simp [qd,h2]
 simp
 refine qc.pure (yS _) rfl rfl ?_
 cases h3:inside p.y0
 ·simp [qd,h3]
 simp
 refine qc.pure (yS _) rfl rfl ?_
 cases h4:inside p.y1
 ·simp [qd,h4]
 simp
 simp [gd,qd,h1,h2,h3,h4]
 grind
theorem qbc (r:Re) (p:Pt):PFn Tryz.prog 37 [r.v,p.v] (.sc (.bool (yV r p))):=by
 have hR:=yC r
 unfold Re.v Re.cs at hR ⊢
 unfold Pt.v Pt.cs
 refine vwc (fn:=Tryz.f37) rfl (vwb ?_)
 simp only [Tryz.f37,ql]
 simp
 refine qc.pure hR rfl rfl ?_
 cases h1:qd r
 ·simp [yV,h1]
 simp
 simp [gd,yV,h1]
 grind
theorem Yt (n:Int):PFn Tryz.prog 121 [.sc (.int .i64 n)] (.sc (.bool (vR n))):=by
 refine vwc (fn:=Tryz.f121) rfl (vwb ?_)
 simp only [Tryz.f121,ql]
 simp
 simp [gd,vR]
 grind
def qi5 (n:Int) (k:Nat) (F:Fr) (H:List Bk):Prop:=H = []∧F = [(0,.v (.sc (.int .i64 n))),(3,.v (.sc (.int .i64 (2 ^ k)))),(4,.v (.sc (.int .i64 k)))]
theorem KS (n:Int) (h:n≤16):PFn Tryz.prog 165 [.sc (.int .i64 n)] (.sc (.int .i64 (two n))):=by
 refine vwc (fn:=Tryz.f165) rfl (vwb ?_)
 simp only [Tryz.f165,ql]
 simp
 refine AW.count n.toNat (qi5 n) ⟨_,?_,rfl,rfl⟩ ?_
 ·simp [qz,qj,qm]
 rintro k F H hk ⟨rfl,rfl⟩
 refine AW.of mixed (by kernel_rfl) ?_
 by_cases hlt:(k:Int)<n
 ·have hk15:k≤15:=by omega
  have e1:=qii (k:=k) (n:=15) hk15
  have e2:=qee k
  have w1:IntKind.i64.wrap ((k:Int)+1)=(k:Int)+1:=by rw [wrap_i64] <;> omega
  have w2:IntKind.i64.wrap (2*2 ^ k)=2 ^ (k+1):=by
   rw [Int.pow_succ,Int.mul_comm]
   rw [wrap_i64]
   ·generalize (2:Int) ^ k=z at *; omega
   ·have:(2:Int) ^ 15=32768:=by decide
    generalize (2:Int) ^ k=z at *; omega
  simp [hlt,w1,w2,qi5]
 ·have:n.toNat=k:=by omega
  simp [hlt,two,this]
theorem Ym (l:Int) (h:0≤l) (h':l≤16):PFn Tryz.prog 122 [.sc (.int .i64 l)] (.sc (.int .i64 (side l))):=by
 refine vwc (fn:=Tryz.f122) rfl (vwb ?_)
 simp only [Tryz.f122,ql]
 have w1:IntKind.i64.wrap (16 - l)=16 - l:=by rw [wrap_i64] <;> omega
 simp [w1]
 refine qc.pure (KS _ (by omega)) rfl rfl ?_
 simp [side]
end Go.Proofs.YtnconfggojpkcaaGreat
namespace Go.Proofs.YtnconfggojpkcaaGreat
open Go.RowKit AM
attribute [local simp] zQ qU jL zT zq zR zS zo jM zu qV Z8 Qm jC Ql yc ZE vZ slF qG Qo zK yx zA shares jh yt ze Qz QI qY ZF qZ qM vX zH yu Qe qL zD zG vU slV jE jG yE zU ZJ jB jF aMM aUn Qp vW jD zC jA qJ vV Qu vY vS Zw y9 qK Qs ZK zJ zI jH jR ZH eval zZ AM.valOf qm vO yR del SV.refers zY vQ jU shift ldV V.exact V.jg V.ofValue V.vP V.vL V.cells V.one Value.oneCell' ZI QY jV Q5 ZM ZC Qa Zy jl jI Qi ZL y8 yX Qr calm Qt Zn Qk feeds shrinks Qx looks isT Qf vK Qd putAt jT jc Zm sliceB isEq Qg zk qH zO zn qR zl zm qQ zP zi qP ZW Qw yB Zl QZ inO y7 Zi Mix.vT Mix.Qc QB QX qz qj qW zh qO ZV Qq yg yh ZG Zb yw yO Q8 jW V.fixed V.vC
theorem qao (c:Ce):PFn Tryz.prog 123 [c.v] (.sc (.bool (yj c))):=by
 unfold Ce.v Ce.cs
 refine vwc (fn:=Tryz.f123) rfl (vwa [(1,27,[1])] ?_)
 simp only [Tryz.f123,ql]
 simp
 refine qc.pure (Yt _) rfl rfl ?_
 cases h1:vR c.l
 ·simp [yj,h1]
 have h:=zy.1 h1
 simp
 refine gd.intro (fun e => ?_) (fun e => ?_)
 rotate_left
 ·simp at e
  simp [yj,h1]
  omega
 try simp
 refine gd.intro (fun e2 => ?_) (fun e2 => ?_)
 rotate_left
 ·simp at e2
  simp [yj,h1]
  omega
 try simp
 refine qc.pure (KS _ h.2) rfl rfl ?_
 try simp
 refine gd.intro (fun e3 => ?_) (fun e3 => ?_)
 rotate_left
 ·simp at e3
  simp [yj,h1]
  omega
 try simp
 refine qc.pure (KS _ h.2) rfl rfl ?_
 simp at e e2 e3
 simp [yj,h1,e,e2,e3]
theorem WW {a b:Int} (h:0≤a) (hb:0<b):0≤a/b∧a/b≤a:=⟨Int.ediv_nonneg h (by omega),by
 have:=Int.ediv_le_self b h
 exact this⟩
theorem qid (p:Pt) (l:Int):PFn Tryz.prog 68 [p.v,.sc (.int .i64 l)] (.tup [(ofR p l).1.v,.sc (.bool (ofR p l).2)]):=by
 have hF:=VF p
 unfold Pt.v Pt.cs at hF ⊢
 refine vwc (fn:=Tryz.f68) rfl (vwa [(3,11,[1,2])] ?_)
 simp only [Tryz.f68,ql]
 simp
 refine qc.pure (Yt _) rfl rfl ?_
 cases h1:vR l
 ·simp [setCells,qo,ofR,h1,Ce.v,Ce.cs,Ce.zero]
 simp
 refine qc.pure hF rfl rfl ?_
 cases h2:fits p
 ·simp [setCells,qo,ofR,h1,h2,Ce.v,Ce.cs,Ce.zero]
 have h:=zy.1 h1
 have h3:=qc7.1 h2
 have hp:=VP l
 have hne:side l≠0:=by omega
 simp
 refine qc.pure (Ym l h.1 h.2) rfl rfl ?_
 simp [Yi,hne]
 refine qc.pure (Ym l h.1 h.2) rfl rfl ?_
 have q1:=WW h3.1.1 hp
 have q2:=WW h3.2.1 hp
 have w1:IntKind.i64.wrap (p.x.tdiv (side l))=p.x/side l:=by rw [Int.tdiv_eq_ediv_of_nonneg h3.1.1,wrap_i64] <;> omega
 have w2:IntKind.i64.wrap (p.y.tdiv (side l))=p.y/side l:=by rw [Int.tdiv_eq_ediv_of_nonneg h3.2.1,wrap_i64] <;> omega
 simp [Yi,hne,w1,w2,setCells,qo,ofR,h1,h2,Ce.v,Ce.cs,cellOf]
theorem qfo (c:Ce):PFn Tryz.prog 69 [c.v] (.tup [(JD c).1.v,.sc (.bool (JD c).2)]):=by
 have hF:=qao c
 unfold Ce.v Ce.cs at hF ⊢
 refine vwc (fn:=Tryz.f69) rfl (vwb ?_)
 simp only [Tryz.f69,ql]
 simp
 refine qc.pure hF rfl rfl ?_
 cases h1:yj c
 ·simp [setCells,qo,JD,h1,Re.v,Re.cs,Re.zero]
 have h:=yI.1 h1
 have hb:=qgT h1
 have hp:=VP c.l
 simp
 refine qc.pure (Ym c.l h.1.1 h.1.2) rfl rfl ?_
 have w1:IntKind.i64.wrap (side c.l*c.x)=side c.l*c.x:=by rw [wrap_i64] <;> omega
 have w2:IntKind.i64.wrap (side c.l*c.y)=side c.l*c.y:=by rw [wrap_i64] <;> omega
 have w3:IntKind.i64.wrap (side c.l*c.x+side c.l)=side c.l*c.x+side c.l:=by rw [wrap_i64] <;> omega
 have w4:IntKind.i64.wrap (side c.l*c.y+side c.l)=side c.l*c.y+side c.l:=by rw [wrap_i64] <;> omega
 have w5:IntKind.i64.wrap (side c.l*c.x+side c.l - 1)=side c.l*c.x+side c.l - 1:=by rw [wrap_i64] <;> omega
 have w6:IntKind.i64.wrap (side c.l*c.y+side c.l - 1)=side c.l*c.y+side c.l - 1:=by rw [wrap_i64] <;> omega
 simp [w1,w2,w3,w4,w5,w6,setCells,qo,JD,h1,Re.v,Re.cs,jy]
theorem qcF (z:Int):qeA Tryz.prog 3 108 (.int .i64 z)=some (.int .u64 (IntKind.u64.wrap z)):=qaz Ty.u3 Ty.qmY
def zX (r:Re):Nat:=if qd r then ((r.x1 - r.x0+1)*(r.y1 - r.y0+1)).toNat else 0
theorem WZ (r:Re):zX r≤4294967296:=by
 unfold zX
 split
 ·rename_i h
  have h:=qF.1 h
  have h1:(r.x1 - r.x0+1)*(r.y1 - r.y0+1)≤65536*65536:=Int.mul_le_mul (by omega) (by omega) (by omega) (by omega)
  omega
 ·omega
theorem XV {r:Re} (h:qd r=true):IntKind.u64.wrap (IntKind.u64.wrap (r.x1 - r.x0+1)*IntKind.u64.wrap (r.y1 - r.y0+1))=(zX r:Nat)∧IntKind.i64.wrap (r.x1 - r.x0)=r.x1 - r.x0∧IntKind.i64.wrap (r.y1 - r.y0)=r.y1 - r.y0∧IntKind.i64.wrap (r.x1 - r.x0+1)=r.x1 - r.x0+1∧IntKind.i64.wrap (r.y1 - r.y0+1)=r.y1 - r.y0+1:=by
 have h':=qF.1 h
 have h1:(r.x1 - r.x0+1)*(r.y1 - r.y0+1)≤65536*65536:=Int.mul_le_mul (by omega) (by omega) (by omega) (by omega)
 have h2:0≤(r.x1 - r.x0+1)*(r.y1 - r.y0+1):=Int.mul_nonneg (by omega) (by omega)
 refine ⟨?_,by rw [wrap_i64] <;> omega,by rw [wrap_i64] <;> omega,by rw [wrap_i64] <;> omega,by rw [wrap_i64] <;> omega⟩
 rw [wrap_u64 (n:=r.x1 - r.x0+1) (by omega) (by omega),wrap_u64 (n:=r.y1 - r.y0+1) (by omega) (by omega),wrap_u64 h2 (by omega)]
 unfold zX
 rw [if_pos h]
 omega
theorem qa4 (r:Re):PFn Tryz.prog 124 [r.v] (.sc (.int .u64 (zX r))):=by
 have h1:=Jc r
 unfold Re.v Re.cs at h1 ⊢
 refine vwc (fn:=Tryz.f124) rfl (vwb ?_)
 simp only [Tryz.f124,ql]
 simp
 refine qc.pure h1 rfl rfl ?_
 cases e:qd r with
 | false=>simp [zX,e]
 | true =>
  obtain ⟨w1,w2,w3,w4,w5⟩:=XV e
  simp [qcF,w2,w3,w4,w5,w1]
def KC (xs:List Re):SV := .own true 24 xs.length 4 (xs.flatMap Re.cs)
def yH (a b:Re):Re:=⟨max a.x0 b.x0,max a.y0 b.y0,min a.x1 b.x1,min a.y1 b.y1⟩
def reZ:Re:=⟨0,0,0,0⟩
def Xh (a b:Re):Re:=if qE a b then yH a b else reZ
theorem Vm {a b:Re} (ha:qd a=true) (hb:qd b=true):qd (yH a b)=qE a b:=by
 have h1:=qF.1 ha
 have h2:=qF.1 hb
 rw [Bool.eq_iff_iff,qF]
 simp only [qE,ha,hb,yH,Bool.true_and,decide_eq_true_iff]
 omega
def Y6 (a b:Re):V := .tup [(Xh a b).v,.sc (.bool (qE a b))]
theorem qex (a b:Re):PFn Tryz.prog 125 [a.v,b.v] (Y6 a b):=by
 have h:=qbZ a b
 unfold Y6 Xh
 unfold Re.v Re.cs at h ⊢
 cases e:qE a b with
 | false =>
  rw [e] at h
  refine vwc (fn:=Tryz.f125) rfl (vwb ?_)
  simp only [Tryz.f125,ql]
  simp
  refine qc.pure h rfl rfl ?_
  simp [setCells,qo,reZ]
 | true =>
  rw [e] at h
  have m1:=fun x y:Int=>Int.max_comm x y
  have m2:=fun x y:Int=>Int.min_comm x y
  refine vwc (fn:=Tryz.f125) rfl (vwb ?_)
  simp only [Tryz.f125,ql]
  simp
  refine qc.pure h rfl rfl ?_
  simp [setCells,qo,yH]
  exact ⟨by split <;> omega,by split <;> omega,by split <;> omega,by split <;> omega⟩
theorem qbK (a b:Re):PFn Tryz.prog 26 [a.v,b.v] (.sc (.bool (inB a b))):=by
 have h1:=yC a
 have h2:=yC b
 unfold inB
 unfold Re.v Re.cs at h1 h2 ⊢
 refine vwc (fn:=Tryz.f26) rfl (vwb ?_)
 simp only [Tryz.f26,ql]
 simp
 refine qc.pure h1 rfl rfl ?_
 cases e:qd a with
 | false=>simp
 | true =>
  simp
  refine qc.pure h2 rfl rfl ?_
  cases e2:qd b with
  | false=>simp
  | true =>
   simp
   simp [gd]
   grind
theorem YQ (xs:List Int) (z:Int):ints xs ++ [.sc (.int .i64 z)]=ints (xs ++ [z]):=by simp [ints]
def PiI (xs:List Int) (n:Int) (k:Nat) (F:Fr) (H:List Bk):Prop:=n∉xs.take k∧F = [(0,.v (slI xs)),(1,.v (.sc (.int .i64 n))),(5,JE (QK n (xs.take k)).1),(6,.v (.sc (.bool (QK n (xs.take k)).2))),(7,.v (.sc (.int .i64 k)))]
theorem qck (xs:List Int) (n:Int) (hx:xs.length≤1000000000):PFn Tryz.prog 166 [slI xs,.sc (.int .i64 n)] (slI (Za xs n)):=by
 refine vwc (fn:=Tryz.f166) rfl (vwb ?_)
 simp only [Tryz.f166,ql]
 simp [slI]
 refine AW.count xs.length (PiI xs n) ⟨_,?_,by simp,rfl⟩ ?_
 ·simp [qz,qj,qm,slI,QK,JE,qW,ints]
 rintro k F H hk ⟨hno,rfl⟩
 refine vwb ?_
 obtain ⟨l1,l2⟩:=KZ n (xs.take k)
 by_cases hlt:k<xs.length
 ·have w1:IntKind.i64.wrap ((k:Int)+1)=(k:Int)+1:=by rw [wrap_i64] <;> omega
  have hn:=qbN (n:=n) hlt
  rw [List.length_take,Nat.min_eq_left hk] at l1 l2
  by_cases he:xs[k]=n
  ·have hp:Za xs n=xs:=by
    unfold Za
    rw [if_pos (he▸List.getElem_mem hlt)]
   have he':(xs[k]==n)=true:=by simpa using he
   simp [slI,hlt,Kw,he',hp,JE]
  have he':(xs[k]==n)=false:=by simpa using he
  have hno':n∉xs.take (k+1):=by
   rw [List.take_succ_eq_append_getElem hlt,List.mem_append]
   rintro (h | h)
   ·exact hno h
   ·simp at h
    exact he h.symm
  generalize QK n (xs.take k)=s at *
  obtain ⟨o,b⟩:=s
  simp only at l1 l2
  cases b with
  | true =>
   have e:jf n (o,true) xs[k]=(o ++ [xs[k]],true):=by simp [jf]
   rw [e] at hn
   simp [slI,hlt,Kw,JE,he']
   refine ⟨by omega,?_⟩
   try simp [slI,JE,w1]
   refine ⟨_,?_,hno',rfl⟩
   rw [hn]
   simp [qz,qj,qm,slI,JE,YQ]
  | false =>
   have l2:=l2 rfl
   by_cases hc:n<xs[k]
   ·have e:jf n (o,false) xs[k]=(o ++ [n,xs[k]],true):=by simp [jf,hc]
    rw [e] at hn
    simp [slI,hlt,Kw,JE,he',hc]
    refine ⟨by omega,?_⟩
    try simp [slI,hlt,Kw,JE,w1]
    refine ⟨by omega,?_⟩
    try simp [slI,hlt,Kw,JE,w1]
    refine ⟨_,?_,hno',rfl⟩
    rw [hn]
    simp [qz,qj,qm,slI,JE,ints]
   ·have e:jf n (o,false) xs[k]=(o ++ [xs[k]],false):=by simp [jf,hc]
    rw [e] at hn
    simp [slI,hlt,Kw,JE,he',hc]
    refine ⟨by omega,?_⟩
    try simp [slI,hlt,Kw,JE,w1]
    refine ⟨_,?_,hno',rfl⟩
    rw [hn]
    simp [qz,qj,qm,slI,JE,YQ]
 ·have hk':k=xs.length:=by omega
  subst hk'
  rw [List.take_length] at l1 l2 hno ⊢
  unfold Za
  rw [if_neg hno]
  generalize QK n xs=s at *
  obtain ⟨o,b⟩:=s
  simp only at l1 l2
  cases b with
  | true=>simp [slI,JE]
  | false =>
   have l2:=l2 rfl
   simp [slI,JE]
   refine ⟨by omega,?_⟩
   try simp [slI,JE,YQ]
end Go.Proofs.YtnconfggojpkcaaGreat
namespace Go.Proofs.YtnconfggojpkcaaGreat
open Go.RowKit AM
theorem XM {r:Re} (h:qd r=true):∀ n,cellOf r.lo (X7 r n:Nat)=cellOf r.hi (X7 r n:Nat)
 | 0=>by
  obtain ⟨h1,h2⟩:=JH h
  exact (Xl h1).trans (Xl h2).symm
 | n+1=>by
  unfold X7
  split
  ·assumption
  ·exact XM h n
theorem qcr {r:Re} {c:Ce} (h:qd r=true) (hc0:0≤c.l) (hu:QH c (qet r)=true):(jy c).x0≤r.x0∧(jy c).y0≤r.y0∧r.x1≤(jy c).x1∧r.y1≤(jy c).y1:=by
 obtain ⟨h1,h2⟩:=JM.1 hu
 have hn:=qcV r 16
 have h1':c.l≤(X7 r 16:Nat):=h1
 have e1:c=cellOf r.lo c.l:=by
  rw [← Zf (p:=r.lo) h1' (by omega)]
  exact h2.symm
 have e2:c=cellOf r.hi c.l:=by
  rw [← Zf (p:=r.hi) h1' (by omega),← XM h]
  exact h2.symm
 have hp:=VP c.l
 generalize hs:side c.l=t at *
 have x1:c.x=r.x0/t:=by rw [e1]; simp only [cellOf,hs,Re.lo]
 have y1:c.y=r.y0/t:=by rw [e1]; simp only [cellOf,hs,Re.lo]
 have x2:c.x=r.x1/t:=by rw [e2]; simp only [cellOf,hs,Re.hi]
 have y2:c.y=r.y1/t:=by rw [e2]; simp only [cellOf,hs,Re.hi]
 have m1:=Int.mul_ediv_add_emod r.x0 t
 have m2:=Int.mul_ediv_add_emod r.y0 t
 have m3:=Int.mul_ediv_add_emod r.x1 t
 have m4:=Int.mul_ediv_add_emod r.y1 t
 have n1:=Int.emod_nonneg r.x0 (b:=t) (by omega)
 have n2:=Int.emod_nonneg r.y0 (b:=t) (by omega)
 have n3:=Int.emod_lt_of_pos r.x1 hp
 have n4:=Int.emod_lt_of_pos r.y1 hp
 rw [← x1] at m1
 rw [← y1] at m2
 rw [← x2] at m3
 rw [← y2] at m4
 simp only [jy,hs]
 omega
end Go.Proofs.YtnconfggojpkcaaGreat
namespace Go.Proofs.YtnconfggojpkcaaGreat
open Go.RowKit AM
namespace Sh
end Sh
section
variable {I J:Nat→Prop} {H H1 H2:List Bk}
end
theorem Nd.perm {H:List Bk}:∀ {d:Nat} {c:Ce} {S S':List Sh} {b:Nat} {I:Nat→Prop},Nd H d c S b I→S.Perm S'→Nd H d c S' b I
 | 0,_,_,_,_,_,h,_=>h
 | d+1,c,S,S',b,I,h,hp=>by
  obtain ⟨m,es,k,J,h1,h2,h3,h4,h5,h6⟩:=h
  refine ⟨m,es,k,J,by rw [← hp.length_eq]; exact h1,h2,h3.trans (hp.filter _),h4,h5,fun i hi => ?_⟩
  have hq:(sub' (qD c (i:Nat)) S).Perm (sub' (qD c (i:Nat)) S'):=hp.filter _
  rcases h6 i hi with ⟨h7,h8⟩ | ⟨h7,b',h8,h9⟩
  ·refine .inl ⟨?_,h8⟩
   rw [h7] at hq
   exact hq.nil_eq.symm
  ·refine .inr ⟨fun e=>h7 ?_,b',h8,Nd.perm h9 hq⟩
   rw [e] at hq
   exact hq.eq_nil
section
variable {I J:Nat→Prop} {H H1 H2:List Bk}
end
end Go.Proofs.YtnconfggojpkcaaGreat
namespace Go.Proofs.YtnconfggojpkcaaGreat
open Go.RowKit AM
attribute [local simp] zQ qU jL zT zq zR zS zo jM zu qV Z8 Qm jC Ql yc ZE vZ slF qG Qo zK yx zA shares jh yt ze Qz QI qY ZF qZ qM vX zH yu Qe qL zD zG vU slV jE jG yE zU ZJ jB jF aMM aUn Qp vW jD zC jA qJ vV Qu vY vS Zw y9 qK Qs ZK zJ zI jH jR ZH eval zZ AM.valOf qm vO yR del SV.refers zY vQ jU shift ldV V.exact V.jg V.ofValue V.vP V.vL V.cells V.one Value.oneCell' ZI QY jV Q5 ZM ZC Qa Zy jl jI Qi ZL y8 yX Qr calm Qt Zn Qk feeds shrinks Qx looks isT Qf vK Qd putAt jT jc Zm sliceB isEq Qg zk qH zO zn qR zl zm qQ zP zi qP ZW Qw yB Zl QZ inO y7 Zi Mix.vT Mix.Qc QB QX qz qj qW zh qO ZV Qq yg yh ZG Zb yw yO Q8 jW V.fixed V.vC
attribute [local simp] vE je yL vH jQ vF vG jP yM vk jN V5 Ja yF QT Jb z0 JL VK Vo VU
def qbw:Pr:=⟨0,⟨0,0⟩,0⟩
def Xp (S:List Pr) (k:Int):V:=match VY S k with
 | some s => .tup [s.v,.sc (.bool true)]
 | none => .tup [qbw.v,.sc (.bool false)]
theorem refGap (n a b:Int) (h1:0≤n∧n≤65535) (h2:0≤a∧a≤65535) (h3:0≤b∧b≤65535):PFn Tryz.prog 136 [.sc (.int .i64 n),.sc (.int .i64 a),.sc (.int .i64 b)] (.sc (.int .u64 (qbY n a b))):=by
 have w1:IntKind.i64.wrap (a - n)=a - n:=by rw [wrap_i64] <;> omega
 have w2:IntKind.i64.wrap (n - b)=n - b:=by rw [wrap_i64] <;> omega
 unfold qbY
 refine vwc (fn:=Tryz.f136) rfl (vwb ?_)
 simp only [Tryz.f136,ql]
 by_cases c1:n<a
 ·have w3:IntKind.u64.wrap (a - n)=a - n:=by rw [wrap_u64] <;> omega
  simp [qcF,c1,w1,w3]
 ·by_cases c2:b<n
  ·have w3:IntKind.u64.wrap (n - b)=n - b:=by rw [wrap_u64] <;> omega
   simp [qcF,c1,c2,w2,w3]
  ·simp [c1,c2]
theorem qof (r:Re) (p:Pt):PFn Tryz.prog 84 [r.v,p.v] (.sc (.int .u64 (Zu r p))):=by
 have hR:=yC r
 have hF:=VF p
 unfold Re.v Re.cs at hR ⊢
 unfold Pt.v Pt.cs at hF ⊢
 refine vwc (fn:=Tryz.f84) rfl ?_
 simp only [Tryz.f84,ql]
 refine AW.seq (vwb ?_)
 simp
 refine AW.seq (vwb ?_)
 simp
 refine qc.pure hR rfl rfl ?_
 cases h1:qd r with
 | false =>
  simp [Zu,h1]
 | true =>
  simp
  refine qc.pure hF rfl rfl ?_
  cases h2:fits p with
  | false=>simp [Zu,h1,h2]
  | true =>
   have r1:=Z0 h1
   have r2:=qc0 h2
   have g1:=qdv r2.1 r1.1 r1.2.2.1
   have g2:=qdv r2.2 r1.2.1 r1.2.2.2.1
   have G1:=refGap p.x r.x0 r.x1 r2.1 r1.1 r1.2.2.1
   have G2:=refGap p.y r.y0 r.y1 r2.2 r1.2.1 r1.2.2.2.1
   have hd:Zu r p=qbY p.x r.x0 r.x1*qbY p.x r.x0 r.x1+qbY p.y r.y0 r.y1*qbY p.y r.y0 r.y1:=by simp [Zu,h1,h2]
   generalize qbY p.x r.x0 r.x1=a at *
   generalize qbY p.y r.y0 r.y1=b at *
   have s1:=qlC (d:=a) (by omega)
   have s2:=qlC (d:=b) (by omega)
   have w1:IntKind.u64.wrap (a*a)=a*a:=by rw [wrap_u64] <;> omega
   have w2:IntKind.u64.wrap (b*b)=b*b:=by rw [wrap_u64] <;> omega
   have w3:IntKind.u64.wrap (a*a+b*b)=a*a+b*b:=by rw [wrap_u64] <;> omega
   rw [hd]
   simp
   refine AW.seq (vwb ?_)
   simp
   refine qc.pure G1 rfl rfl ?_
   simp
   refine AW.seq (vwb ?_)
   simp
   refine qc.pure G2 rfl rfl ?_
   simp
   refine vwb ?_
   simp [w1,w2,w3]
theorem qfM (r:Re) (l:Int):PFn Tryz.prog 73 [r.v,.sc (.int .i64 l)] (.tup [(zW r l).1.v,.sc (.bool (zW r l).2)]):=by
 have hR:=yC r
 unfold Re.v Re.cs at hR ⊢
 refine vwc (fn:=Tryz.f73) rfl ?_
 simp only [Tryz.f73,ql]
 refine AW.seq (vwb ?_)
 simp
 refine AW.seq (vwb ?_)
 simp
 refine qc.pure (Yt _) rfl rfl ?_
 cases h1:vR l with
 | false=>simp [zW,h1,Re.zero,setCells,qo]
 | true =>
  simp
  refine qc.pure hR rfl rfl ?_
  cases h2:qd r with
  | false=>simp [zW,h1,h2,Re.zero,setCells,qo]
  | true =>
   have hl:=zy.1 h1
   have rr:=Z0 h2
   have hs:=Jl hl.1 hl.2
   have hS:=Ym l hl.1 hl.2
   have hsn:zW r l=(⟨r.x0 - r.x0%side l,r.y0 - r.y0%side l,r.x1 - r.x1%side l+side l - 1,r.y1 - r.y1%side l+side l - 1⟩,true):=by
    simp [zW,h1,h2]
   rw [hsn]
   generalize side l=s at *
   have md:∀ x,0≤x→x≤65535→0≤x%s∧x%s≤x∧x%s<s:=fun x h0 h1=>⟨Int.emod_nonneg _ (by omega),by
    have e:=Int.emod_add_mul_ediv x s
    have q:=Int.ediv_nonneg h0 (show 0≤s by omega)
    have m:=Int.mul_nonneg (show 0≤s by omega) q
    omega,Int.emod_lt_of_pos _ hs.1⟩
   have w:∀ x,0≤x→x≤65535→Int.tmod x s=x%s∧IntKind.i64.wrap (x - x%s)=x - x%s∧IntKind.i64.wrap (x - x%s+s)=x - x%s+s∧IntKind.i64.wrap (x - x%s+s - 1)=x - x%s+s - 1:=fun x h0 h1=>by
    have:=md x h0 h1
    rw [Int.tmod_eq_emod_of_nonneg h0]
    refine ⟨rfl,?_,?_,?_⟩ <;> rw [wrap_i64] <;> omega
   have wa:=w r.x0 rr.1.1 rr.1.2
   have wb:=w r.y0 rr.2.1.1 rr.2.1.2
   have wc:=w r.x1 rr.2.2.1.1 rr.2.2.1.2
   have wd:=w r.y1 rr.2.2.2.1.1 rr.2.2.2.1.2
   have hs0:¬ s=0:=by omega
   simp
   refine AW.seq (vwb ?_)
   simp
   refine qc.pure hS rfl rfl ?_
   simp
   refine vwb ?_
   simp [KH,hs0,wa,wb,wc,wd,setCells,qo]
def qmi (s:Sh) (p:Pt) (l:Int):Int:=Zu (zW s.box l).1 p
theorem XG (n:Int):PFn Tryz.prog 189 [.sc (.int .i64 n)] (.sc (.bool (yA n 255))):=by
 unfold yA
 refine vwc (fn:=Tryz.f189) rfl (vwb ?_)
 simp only [Tryz.f189,ql]
 by_cases h1:0≤n
 ·by_cases h2:n≤255
  ·simp [h1,h2]
  ·simp [h1,h2]
 ·simp [h1]
theorem Jo (n:Int):PFn Tryz.prog 190 [.sc (.int .i64 n)] (.sc (.bool (yA n 7))):=by
 unfold yA
 refine vwc (fn:=Tryz.f190) rfl (vwb ?_)
 simp only [Tryz.f190,ql]
 by_cases h1:0≤n
 ·by_cases h2:n≤7
  ·simp [h1,h2]
  ·simp [h1,h2]
 ·simp [h1]
def TwI (n:Nat) (k:Nat) (F:Fr) (H:List Bk):Prop:=F = [(0,.v (.sc (.int .i64 n))),(3,.v (.sc (.int .i64 (pw k:Nat)))),(4,.v (.sc (.int .i64 k)))]
theorem qbJ (n:Nat) (h:n≤7):PFn Tryz.prog 221 [.sc (.int .i64 n)] (.sc (.int .i64 (pw n:Nat))):=by
 refine vwc (fn:=Tryz.f221) rfl (vwb ?_)
 simp only [Tryz.f221,ql]
 simp
 refine AW.count n (TwI n) ⟨_,?_,rfl⟩ ?_
 ·simp [qz,qj,qm,pw]
 rintro k F H hk rfl
 refine vwb ?_
 by_cases hlt:k<n
 ·have w1:IntKind.i64.wrap ((k:Int)+1)=(k:Int)+1:=by rw [wrap_i64] <;> omega
  have hp:pw k≤2 ^ 7:=Nat.pow_le_pow_right (by decide) (by omega)
  have e2:pw (k+1)=2*pw k:=by unfold pw; rw [Nat.pow_succ]; omega
  have w2:IntKind.i64.wrap (2*((pw k:Nat):Int))=((pw (k+1):Nat):Int):=by
   rw [e2]
   rw [wrap_i64] <;> omega
  have hlt':(k:Int)<n:=by omega
  simp [hlt,hlt',w1,w2]
  refine ⟨_,?_,rfl⟩
  simp [qz,qj,qm]
 ·have hk':k=n:=by omega
  subst hk'
  simp
theorem WC (sum n:Int) (h1:0≤sum∧sum≤255) (h2:0≤n∧n≤7):PFn Tryz.prog 191 [.sc (.int .i64 sum),.sc (.int .i64 n)] (.sc (.bool (inS sum n))):=by
 obtain ⟨s,rfl⟩:∃ s:Nat,sum=s:=⟨sum.toNat,by omega⟩
 obtain ⟨m,rfl⟩:∃ m:Nat,n=m:=⟨n.toNat,by omega⟩
 have hT:=qbJ m (by omega)
 have hpos:0<pw m:=Nat.pow_pos (by decide)
 have e3:inS (s:Int) (m:Int)=((((s/pw m)%2:Nat):Int)==1):=by
  unfold inS pw
  rw [Bool.eq_iff_iff]
  simp
 rw [e3]
 generalize pw m=p at *
 have hle:s/p≤s:=Nat.div_le_self _ _
 have e0:(s:Int)/(p:Int)=((s/p:Nat):Int):=rfl
 have h0:¬ p=0:=by omega
 generalize s/p=q at *
 have e1:IntKind.i64.wrap (q:Int)=(q:Int):=by rw [wrap_i64] <;> omega
 have e2:(q:Int).tmod 2=(q:Int)%2:=Int.tmod_eq_emod_of_nonneg (by omega)
 refine vwc (fn:=Tryz.f191) rfl (vwb ?_)
 simp only [Tryz.f191,ql]
 simp
 refine qc.pure hT rfl rfl ?_
 simp [Yi,KH,e0,e1,e2,h0]
def ruB (r:Ru):Bk := .cells [.v (.sc (.int .i64 r.kind)),.v (.sc (.int .i64 r.roles)),.v (.sc (.int .i64 r.lo)),.v (.sc (.int .i64 r.hi)),.v (.sc (.int .i64 r.labels)),.v (slR r.boxes),.v (.sc (.int .i64 r.zoom))]
def RrI (r:Ru) (k:Nat) (F:Fr) (H:List Bk):Prop:=(∀ b∈r.boxes.take k,qd b=true)∧H = [ruB r]∧F = [(1,.v (.ptr 0 0)),(3,.v (.sc (.int .i64 k)))]
theorem XE {r:Ru} {k:Nat} (hk:k<r.boxes.length) (h:qd r.boxes[k]=false):qI r=false:=by
 have h1:=qaI hk h
 unfold qI
 rw [h1]
 split
 ·have:r.boxes ≠ []:=fun e=>by rw [e] at hk; simp at hk
  simp [this]
 ·simp
theorem WB (r:Ru) (hl:r.boxes.length≤9223372036854775807):PFn Tryz.prog 163 [r.v] (.sc (.bool (qI r))):=by
 have hR:=yC
 unfold Re.v Re.cs at hR
 have s1:=XG r.roles
 have s2:=XG r.labels
 unfold Ru.v Ru.cs
 refine vwc (fn:=Tryz.f163) rfl (vwb ?_)
 simp only [Tryz.f163,ql]
 simp [slR]
 refine AW.count r.boxes.length (RrI r) ⟨_,?_,by simp,rfl,rfl⟩ ?_
 ·simp [qz,qj,qm]
 rintro k F H hk ⟨ht,rfl,rfl⟩
 unfold ruB
 refine vwb ?_
 by_cases hlt:k<r.boxes.length
 ·have w1:IntKind.i64.wrap ((k:Int)+1)=(k:Int)+1:=by rw [wrap_i64] <;> omega
  have hRk:=hR r.boxes[k]
  have hrow:=qcH hlt
  simp [slR,hlt,hrow]
  refine qc.pure hRk rfl rfl ?_
  cases e:qd r.boxes[k] with
  | false=>simp [XE hlt e]
  | true =>
   simp [w1,slR,hlt]
   refine ⟨_,?_,Kt ht hlt e,rfl,rfl⟩
   simp [qz,qj,qm,slR]
 ·have hk':k=r.boxes.length:=by omega
  subst hk'
  rw [List.take_length] at ht
  have hall:=KJ ht
  by_cases h6:r.kind=6
  ·have er:qI r=(yA r.roles 255&&decide (r.lo=0)&&decide (r.hi=0)&&decide (r.labels=0)&&decide (r.boxes = [])&&decide (r.zoom=0)):=by
    unfold qI
    rw [if_pos h6]
   rw [er]
   generalize yA r.roles 255=b1 at *
   have hz:∀ n:Int,(n=0∧(n==0)=true)∨(n≠0∧(n==0)=false):=fun n=>by
    by_cases h:n=0
    ·exact .inl ⟨h,by simpa using h⟩
    ·exact .inr ⟨h,by simpa using h⟩
   have hy:(r.boxes = []∧((r.boxes.length:Int)==0)=true)∨(r.boxes ≠ []∧((r.boxes.length:Int)==0)=false):=by
    by_cases h:r.boxes = []
    ·exact .inl ⟨h,by simp [h]⟩
    ·exact .inr ⟨h,by simp [h]⟩
   simp [slR,h6]
   refine qc.pure s1 rfl rfl ?_
   cases b1 with
   | false=>simp
   | true =>
    simp [slR]
    rcases hz r.lo with ⟨a1,x1⟩ | ⟨a1,x1⟩ <;> rcases hz r.hi with ⟨a2,x2⟩ | ⟨a2,x2⟩ <;> rcases hz r.labels with ⟨a3,x3⟩ | ⟨a3,x3⟩ <;> rcases hy with ⟨a4,x4⟩ | ⟨a4,x4⟩ <;> rcases hz r.zoom with ⟨a5,x5⟩ | ⟨a5,x5⟩ <;> simp [a1,a2,a3,a4,a5,x1,x2,x3,x4,x5]
  ·have er:qI r=(decide (r.kind=4∨r.kind=5)&&yA r.roles 255&&decide (0≤r.lo)&&decide (r.lo≤r.hi)&&decide (r.hi≤7)&&yA r.labels 255&&true&&decide (0≤r.zoom∧r.zoom≤16)):=by
    unfold qI
    rw [if_neg h6,hall]
    rfl
   rw [er]
   generalize yA r.roles 255=b1 at *
   generalize yA r.labels 255=b2 at *
   have n6:(r.kind==6)=false:=by simpa using h6
   by_cases h45:r.kind=4∨r.kind=5
   ·rcases h45 with h4 | h4
    all_goals
     simp [slR,n6,h4]
     refine qc.pure s1 rfl rfl ?_
     cases b1 with
     | false=>simp
     | true =>
      simp [slR]
      refine qc.pure s2 rfl rfl ?_
      cases b2 with
      | false=>simp
      | true =>
       by_cases a1:0≤r.lo
       ·by_cases a2:r.lo≤r.hi
        ·by_cases a3:r.hi≤7
         ·by_cases a4:0≤r.zoom
          ·by_cases a5:r.zoom≤16
           ·simp [slR,a1,a2,a3,a4,a5]
           ·simp [slR,a1,a2,a3,a4,a5]
          ·simp [slR,a1,a2,a3,a4]
         ·simp [slR,a1,a2,a3]
        ·simp [slR,a1,a2]
       ·simp [slR,a1]
   ·have n4:(r.kind==4)=false:=by simp; omega
    have n5:(r.kind==5)=false:=by simp; omega
    simp [slR,n6,n4,n5,h45]
def RaI (l:List Ru) (k:Nat) (F:Fr) (H:List Bk):Prop:=(∀ r∈l.take k,qI r=true)∧F = [(0,.v (slU l)),(3,.v (.sc (.int .i64 k)))]
theorem qfp (l:List Ru) (hl:l.length≤9223372036854775807) (hb:∀ r∈l,r.boxes.length≤9223372036854775807):PFn Tryz.prog 119 [slU l] (.sc (.bool (l.all qI))):=by
 have hR:=fun r h=>WB r (hb r h)
 unfold Ru.v Ru.cs at hR
 refine vwc (fn:=Tryz.f119) rfl (vwb ?_)
 simp only [Tryz.f119,ql]
 simp [slU]
 refine AW.count l.length (RaI l) ⟨_,?_,by simp,rfl⟩ ?_
 ·simp [qz,qj,qm,slU]
 rintro k F H hk ⟨ht,rfl⟩
 refine vwb ?_
 by_cases hlt:k<l.length
 ·have w1:IntKind.i64.wrap ((k:Int)+1)=(k:Int)+1:=by rw [wrap_i64] <;> omega
  have hRk:=hR l[k] (List.getElem_mem hlt)
  have hrow:=qan hlt
  unfold slR at hrow hRk
  simp [slU,hlt,hrow]
  refine qc.pure hRk (by simp [V.qA,V.closed,zV (enc:=Re.cs) (fun _=>rfl)]) rfl ?_
  cases e:qI l[k] with
  | false=>simp [qaI hlt e]
  | true =>
   simp [w1,slU,hlt]
   refine ⟨_,?_,Kt ht hlt e,rfl⟩
   simp [qz,qj,qm,slU]
 ·have hk':k=l.length:=by omega
  subst hk'
  rw [List.take_length] at ht
  simp [slU,KJ ht]
theorem qdt {r:Ru} (h:qI r=true):(r.kind<6)↔¬ r.kind=6:=by
 unfold qI at h
 split at h
 ·omega
 ·simp at h
  omega
theorem qfn (r:Ru) (ro ti la:Int) (hl:r.boxes.length≤9223372036854775807):PFn Tryz.prog 164 [r.v,.sc (.int .i64 ro),.sc (.int .i64 ti),.sc (.int .i64 la)] (.sc (.bool (XO r ro ti la))):=by
 have h1:=WB r hl
 have n1:=Jo ro
 have n2:=Jo ti
 have n3:=Jo la
 have cv:V.qA [r.v]=true:=by simp [V.qA,V.closed,Ru.v,YL]
 unfold XO QU
 unfold Ru.v Ru.cs at h1 cv ⊢
 cases e1:qI r with
 | false =>
  rw [e1] at h1
  refine vwc (fn:=Tryz.f164) rfl (vwb ?_)
  simp only [Tryz.f164,ql]
  simp [slR]
  refine qc.pure h1 cv rfl ?_
  simp
 | true =>
  rw [e1] at h1
  have hk:=qdt e1
  by_cases h6:r.kind=6
  ·have n6:¬ r.kind<6:=by omega
   refine vwc (fn:=Tryz.f164) rfl (vwb ?_)
   simp only [Tryz.f164,ql]
   simp [slR]
   refine qc.pure h1 cv rfl ?_
   simp [n6,h6]
  ·have n6:r.kind<6:=hk.2 h6
   cases e2:yA ro 7 with
   | false =>
    rw [e2] at n1
    refine vwc (fn:=Tryz.f164) rfl (vwb ?_)
    simp only [Tryz.f164,ql]
    simp [slR]
    refine qc.pure h1 cv rfl ?_
    simp [n6,h6]
    refine qc.pure n1 rfl rfl ?_
    simp
   | true =>
    rw [e2] at n1
    cases e3:yA ti 7 with
    | false =>
     rw [e3] at n2
     refine vwc (fn:=Tryz.f164) rfl (vwb ?_)
     simp only [Tryz.f164,ql]
     simp [slR]
     refine qc.pure h1 cv rfl ?_
     simp [n6,h6]
     refine qc.pure n1 rfl rfl ?_
     simp
     refine qc.pure n2 rfl rfl ?_
     simp
    | true =>
     rw [e3] at n2
     cases e4:yA la 7 with
     | false =>
      rw [e4] at n3
      refine vwc (fn:=Tryz.f164) rfl (vwb ?_)
      simp only [Tryz.f164,ql]
      simp [slR]
      refine qc.pure h1 cv rfl ?_
      simp [n6,h6]
      refine qc.pure n1 rfl rfl ?_
      simp
      refine qc.pure n2 rfl rfl ?_
      simp
      refine qc.pure n3 rfl rfl ?_
      simp
     | true =>
      rw [e4] at n3
      have hn:(0≤ro∧ro≤7)∧(0≤la∧la≤7):=by
       unfold yA at e2 e4
       simp at e2 e4
       omega
      have h3:=WC r.roles ro (Kv e1) hn.1
      have h4:=WC r.labels la (XD e1) hn.2
      generalize inS r.roles ro=b3 at *
      generalize inS r.labels la=b4 at *
      refine vwc (fn:=Tryz.f164) rfl (vwb ?_)
      simp only [Tryz.f164,ql]
      simp [slR]
      refine qc.pure h1 cv rfl ?_
      simp [n6,h6]
      refine qc.pure n1 rfl rfl ?_
      simp
      refine qc.pure n2 rfl rfl ?_
      simp
      refine qc.pure n3 rfl rfl ?_
      simp
      refine qc.pure h3 rfl rfl ?_
      cases b3 with
      | false=>simp
      | true =>
       by_cases a1:r.lo≤ti
       ·by_cases a2:ti≤r.hi
        ·simp [a1,a2]
         refine qc.pure h4 rfl rfl ?_
         simp
        ·simp [a1,a2]
       ·simp [a1]
def F2I (r:Ru) (p:Pt) (k:Nat) (F:Fr) (H:List Bk):Prop:=(∀ b∈r.boxes.take k,yV b p=false)∧H = [ruB r,YN p]∧F = [(5,.v (.ptr 0 0)),(9,.v (.ptr 1 0)),(11,.v (.sc (.int .i64 k)))]
theorem qdn (r:Ru) (ro ti la:Int) (p:Pt) (hl:r.boxes.length≤9223372036854775807):PFn Tryz.prog 120 [r.v,.sc (.int .i64 ro),.sc (.int .i64 ti),.sc (.int .i64 la),p.v] (.sc (.bool (yQ ro ti la p r))):=by
 have h1:=qfn r ro ti la hl
 have h2:=VF p
 have hR:=fun b=>qbc b p
 have cv:V.qA [r.v,.sc (.int .i64 ro),.sc (.int .i64 ti),.sc (.int .i64 la)]=true:=by simp [V.qA,V.closed,Ru.v,YL]
 unfold yQ
 unfold Ru.v Ru.cs at h1 cv ⊢
 unfold Re.v Re.cs Pt.v Pt.cs at hR
 unfold Pt.v Pt.cs at h2 ⊢
 cases e1:XO r ro ti la with
 | false =>
  rw [e1] at h1
  refine vwc (fn:=Tryz.f120) rfl (vwb ?_)
  simp only [Tryz.f120,ql]
  simp [slR]
  refine qc.pure h1 cv rfl ?_
  simp
 | true =>
  rw [e1] at h1
  cases e2:fits p with
  | false =>
   rw [e2] at h2
   have hf:hasB r.boxes p=false:=by
    rw [Bool.eq_false_iff]
    intro h
    rw [qcX h] at e2
    cases e2
   refine vwc (fn:=Tryz.f120) rfl (vwb ?_)
   simp only [Tryz.f120,ql]
   simp [slR]
   refine qc.pure h1 cv rfl ?_
   simp
   refine qc.pure h2 rfl rfl ?_
   simp [hf]
  | true =>
   rw [e2] at h2
   refine vwc (fn:=Tryz.f120) rfl (vwb ?_)
   simp only [Tryz.f120,ql]
   simp [slR]
   refine qc.pure h1 cv rfl ?_
   simp
   refine qc.pure h2 rfl rfl ?_
   simp
   refine AW.count r.boxes.length (F2I r p) ⟨_,?_,by simp,rfl,rfl⟩ ?_
   ·simp [qz,qj,qm]
   rintro k F H hk ⟨ht,rfl,rfl⟩
   unfold ruB YN
   refine vwb ?_
   by_cases hlt:k<r.boxes.length
   ·have w1:IntKind.i64.wrap ((k:Int)+1)=(k:Int)+1:=by rw [wrap_i64] <;> omega
    have hRk:=hR r.boxes[k]
    have hrow:=qcH hlt
    simp [slR,hlt,hrow]
    refine qc.pure hRk rfl rfl ?_
    cases e:yV r.boxes[k] p with
    | true =>
     have:hasB r.boxes p=true:=List.any_eq_true.2 ⟨_,List.getElem_mem hlt,e⟩
     simp [this]
    | false =>
     simp [w1,slR,hlt]
     refine ⟨_,?_,qeK ht hlt e,rfl,rfl⟩
     simp [qz,qj,qm,slR]
   ·have hk':k=r.boxes.length:=by omega
    subst hk'
    rw [List.take_length] at ht
    have hall:hasB r.boxes p=false:=qi1 ht
    simp [slR,hall]
def ZaI (l:List Ru) (ro ti la:Int) (p:Pt) (k:Nat) (F:Fr) (H:List Bk):Prop:=H = [YN p]∧F = [(0,.v (slU l)),(1,.v (.sc (.int .i64 ro))),(2,.v (.sc (.int .i64 ti))),(3,.v (.sc (.int .i64 la))),(9,.v (.ptr 0 0)),(11,.v (.sc (.int .i64 ((l.take k).foldl (QD (yQ ro ti la p)) 0)))),(12,.v (.sc (.int .i64 k)))]
def ZcI (l:List Ru) (ro ti la:Int) (p:Pt) (a:Int) (k:Nat) (F:Fr) (H:List Bk):Prop:=H = [YN p]∧F = [(0,.v (slU l)),(1,.v (.sc (.int .i64 ro))),(2,.v (.sc (.int .i64 ti))),(3,.v (.sc (.int .i64 la))),(9,.v (.ptr 0 0)),(11,.v (.sc (.int .i64 ((l.take k).foldl (VB (yQ ro ti la p)) a)))),(13,.v (.sc (.int .i64 k)))]
theorem qaE (l:List Ru) (ro ti la:Int) (p:Pt) (hl:l.length≤9223372036854775807) (hb:∀ r∈l,r.boxes.length≤9223372036854775807):PFn Tryz.prog 67 [slU l,.sc (.int .i64 ro),.sc (.int .i64 ti),.sc (.int .i64 la),p.v] (.sc (.int .i64 (vN l ro ti la p))):=by
 have h1:=qfp l hl hb
 have h2:=fun r h=>qdn r ro ti la p (hb r h)
 have c1:=yT l
 unfold Ru.v Ru.cs Pt.v Pt.cs at h2
 unfold vN
 unfold Pt.v Pt.cs
 cases e1:l.all qI with
 | false =>
  rw [e1] at h1
  refine vwc (fn:=Tryz.f67) rfl (vwb ?_)
  simp only [Tryz.f67,ql]
  simp
  refine qc.pure h1 (by simp [V.qA,c1]) rfl ?_
  simp
 | true =>
  rw [e1] at h1
  refine vwc (fn:=Tryz.f67) rfl (vwb ?_)
  simp only [Tryz.f67,ql]
  simp
  refine qc.pure h1 (by simp [V.qA,c1]) rfl ?_
  simp
  refine AW.count l.length (ZaI l ro ti la p) ⟨_,?_,rfl,rfl⟩ ?_
  ·simp [qz,qj,qm]
  rintro k F H hk ⟨rfl,rfl⟩
  unfold YN
  refine vwb ?_
  by_cases hlt:k<l.length
  ·have w1:IntKind.i64.wrap ((k:Int)+1)=(k:Int)+1:=by rw [wrap_i64] <;> omega
   have hFk:=h2 l[k] (List.getElem_mem hlt)
   have hrow:=qan hlt
   have hst:=yD (f:=QD (yQ ro ti la p)) (b:=0) hlt
   unfold slR at hrow hFk
   generalize (l.take k).foldl (QD (yQ ro ti la p)) 0=z at *
   by_cases h4:l[k].kind=4
   ·by_cases hz:z<l[k].zoom
    ·simp [slU,hlt,hrow,h4,hz]
     rw [h4] at hFk
     refine qc.pure hFk (by simp [V.qA,V.closed,zV (enc:=Re.cs) (fun _=>rfl)]) rfl ?_
     cases e5:yQ ro ti la p l[k] with
     | true =>
      have e:QD (yQ ro ti la p) z l[k]=l[k].zoom:=by unfold QD; rw [if_pos ⟨h4,hz,e5⟩]
      rw [e] at hst
      simp [slU,hlt,hrow,w1]
      refine ⟨_,?_,rfl,rfl⟩
      rw [hst]
      simp [qz,qj,qm,slU]
     | false =>
      have e:QD (yQ ro ti la p) z l[k]=z:=by unfold QD; rw [if_neg (fun h=>by rw [e5] at h; exact absurd h.2.2 (by decide))]
      rw [e] at hst
      simp [slU,hlt,hrow,w1]
      refine ⟨_,?_,rfl,rfl⟩
      rw [hst]
      simp [qz,qj,qm,slU]
    ·have e:QD (yQ ro ti la p) z l[k]=z:=by unfold QD; rw [if_neg (fun h=>hz h.2.1)]
     rw [e] at hst
     simp [slU,hlt,hrow,h4,hz,w1]
     refine ⟨_,?_,rfl,rfl⟩
     rw [hst]
     simp [qz,qj,qm,slU]
   ·have e:QD (yQ ro ti la p) z l[k]=z:=by unfold QD; rw [if_neg (fun h=>h4 h.1)]
    rw [e] at hst
    have n4:(l[k].kind==4)=false:=by simpa using h4
    simp [slU,hlt,hrow,n4,w1]
    refine ⟨_,?_,rfl,rfl⟩
    rw [hst]
    simp [qz,qj,qm,slU]
  ·have hk':k=l.length:=by omega
   subst hk'
   rw [List.take_length]
   unfold qe3
   generalize l.foldl (QD (yQ ro ti la p)) 0=a at *
   simp [slU]
   refine AW.count l.length (ZcI l ro ti la p a) ⟨_,?_,rfl,rfl⟩ ?_
   ·simp [qz,qj,qm,slU]
   rintro k F H hk ⟨rfl,rfl⟩
   unfold YN
   refine vwb ?_
   by_cases hlt:k<l.length
   ·have w1:IntKind.i64.wrap ((k:Int)+1)=(k:Int)+1:=by rw [wrap_i64] <;> omega
    have hFk:=h2 l[k] (List.getElem_mem hlt)
    have hrow:=qan hlt
    have hst:=yD (f:=VB (yQ ro ti la p)) (b:=a) hlt
    unfold slR at hrow hFk
    generalize (l.take k).foldl (VB (yQ ro ti la p)) a=z at *
    by_cases h4:l[k].kind=5
    ·by_cases hz:l[k].zoom<z
     ·simp [slU,hlt,hrow,h4,hz]
      rw [h4] at hFk
      refine qc.pure hFk (by simp [V.qA,V.closed,zV (enc:=Re.cs) (fun _=>rfl)]) rfl ?_
      cases e5:yQ ro ti la p l[k] with
      | true =>
       have e:VB (yQ ro ti la p) z l[k]=l[k].zoom:=by unfold VB; rw [if_pos ⟨h4,hz,e5⟩]
       rw [e] at hst
       simp [slU,hlt,hrow,w1]
       refine ⟨_,?_,rfl,rfl⟩
       rw [hst]
       simp [qz,qj,qm,slU]
      | false =>
       have e:VB (yQ ro ti la p) z l[k]=z:=by unfold VB; rw [if_neg (fun h=>by rw [e5] at h; exact absurd h.2.2 (by decide))]
       rw [e] at hst
       simp [slU,hlt,hrow,w1]
       refine ⟨_,?_,rfl,rfl⟩
       rw [hst]
       simp [qz,qj,qm,slU]
     ·have e:VB (yQ ro ti la p) z l[k]=z:=by unfold VB; rw [if_neg (fun h=>hz h.2.1)]
      rw [e] at hst
      simp [slU,hlt,hrow,h4,hz,w1]
      refine ⟨_,?_,rfl,rfl⟩
      rw [hst]
      simp [qz,qj,qm,slU]
    ·have e:VB (yQ ro ti la p) z l[k]=z:=by unfold VB; rw [if_neg (fun h=>h4 h.1)]
     rw [e] at hst
     have n4:(l[k].kind==5)=false:=by simpa using h4
     simp [slU,hlt,hrow,n4,w1]
     refine ⟨_,?_,rfl,rfl⟩
     rw [hst]
     simp [qz,qj,qm,slU]
   ·have hk':k=l.length:=by omega
    subst hk'
    rw [List.take_length]
    simp [slU]
end Go.Proofs.YtnconfggojpkcaaGreat
namespace Go.Proofs.YtnconfggojpkcaaGreat
open Go.RowKit AM
theorem TrP.perm {H:List Bk} {r b:Nat} {S S':List Pr} {T:Nat→Prop} (h:TrP H r b S T) (hp:S.Perm S'):TrP H r b S' T:=by
 obtain ⟨nb,mb,cap,s,es,I,h,hT⟩:=h
 exact ⟨nb,mb,cap,s,es,I,⟨h.tr,h.rep.congr (fun _ _=>rfl) hp,h.fit,h.ok.sub (fun r hr=>hp.mem_iff.2 hr) (by rw [hp.length_eq]; exact Nat.le_refl _),(hp.map Pr.id).nodup_iff.1 h.ids,h.es.trans hp⟩,hT⟩
section
variable {H:List Bk} {r b:Nat} {S:List Pr} {T:Nat→Prop}
end
end Go.Proofs.YtnconfggojpkcaaGreat
namespace Go.Proofs.YtnconfggojpkcaaGreat
open Go.RowKit AM
attribute [local simp] zQ qU jL zT zq zR zS zo jM zu qV Z8 Qm jC Ql yc ZE vZ slF qG Qo zK yx zA shares jh yt ze Qz QI qY ZF qZ qM vX zH yu Qe qL zD zG vU slV jE jG yE zU ZJ jB jF aMM aUn Qp vW jD zC jA qJ vV Qu vY vS Zw y9 qK Qs ZK zJ zI jH jR ZH eval zZ AM.valOf qm vO yR del SV.refers zY vQ jU shift ldV V.exact V.jg V.ofValue V.vP V.vL V.cells V.one Value.oneCell' ZI QY jV Q5 ZM ZC Qa Zy jl jI Qi ZL y8 yX Qr calm Qt Zn Qk feeds shrinks Qx looks isT Qf vK Qd putAt jT jc Zm sliceB isEq Qg zk qH zO zn qR zl zm qQ zP zi qP ZW Qw yB Zl QZ inO y7 Zi Mix.vT Mix.Qc QB QX qz qj qW zh qO ZV Qq yg yh ZG Zb yw yO Q8 jW V.fixed V.vC
attribute [local simp] vE je yL vH jQ vF vG jP yM vk jN V5 Ja yF QT Jb z0 JL VK Vo VU
def FdP (xs:List Pr) (i:Int) (k:Nat) (F:Fr) (H:List Bk):Prop:=VY (xs.take k) i=none∧H = [.cells [.v (.sc (.int .i64 0)),.v (.sc (.int .i64 0)),.v (.sc (.int .i64 0)),.v (.sc (.int .i64 0))]] ∧
 F = [(0,.v (lV xs)),(1,.v (.sc (.int .i64 i))),(4,.v (.ptr 0 0)),(6,.v (.sc (.int .i64 k)))]
theorem qcJ {xs:List Pr} {i:Int} {k:Nat} (hk:k<xs.length) (h:VY (xs.take k) i=none):VY (xs.take (k+1)) i=if xs[k].id=i then some xs[k] else none:=by
 unfold VY at *
 rw [Q0 hk,List.find?_append,h]
 by_cases e:xs[k].id=i <;> simp [e]
theorem qcI {xs:List Pr} {i:Int} {k:Nat} {s:Pr} (h:VY (xs.take k) i=some s):VY xs i=some s:=by
 unfold VY at *
 rw [← List.take_append_drop k xs,List.find?_append,h]
 rfl
theorem qd8 (xs:List Pr) (i:Int) (hx:xs.length≤1000000000):PFn Tryz.prog 45 [lV xs,.sc (.int .i64 i)] (Xp xs i):=by
 refine vwc (fn:=Tryz.f45) rfl (vwb ?_)
 simp only [Tryz.f45,ql]
 simp [lV]
 refine AW.count xs.length (FdP xs i) ⟨_,?_,by simp [VY],rfl,rfl⟩ ?_
 ·simp [qz,qj,qm,lV]
 rintro k F H hk ⟨ht,rfl,rfl⟩
 refine vwb ?_
 by_cases hlt:k<xs.length
 ·have w1:IntKind.i64.wrap ((k:Int)+1)=(k:Int)+1:=by rw [wrap_i64] <;> omega
  have hs:=qcJ hlt ht
  by_cases he:xs[k].id=i
  ·rw [if_pos he] at hs
   have hf:=qcI hs
   simp [lV,hlt,J4,he,setCells,qo,Xp,hf,Pr.v,Pr.cs]
  ·rw [if_neg he] at hs
   have he':(xs[k].id==i)=false:=by simpa using he
   simp [lV,hlt,J4,he',w1]
   refine ⟨_,?_,hs,rfl,rfl⟩
   simp [qz,qj,qm,lV]
 ·have hk':k=xs.length:=by omega
  rw [hk',List.take_length] at ht
  simp [lV,hlt,setCells,qo,Xp,ht,Pr.v,Pr.cs,qbw]
def WG (s:Pr) (a:List Pr×Bool) (x:Pr):List Pr×Bool:=if (!a.2&&decide (s.id<x.id))=true then (a.1 ++ [s] ++ [x],true) else (a.1 ++ [x],a.2)
def yY (s:Pr) (zs:List Pr):List Pr×Bool:=zs.foldl (WG s) ([],false)
def Vk (xs:List Pr) (s:Pr):List Pr:=if (yY s xs).2=true then (yY s xs).1 else (yY s xs).1 ++ [s]
theorem JR {s:Pr} {zs:List Pr} {k:Nat} (h:k<zs.length):yY s (zs.take (k+1))=WG s (yY s (zs.take k)) zs[k]:=by
 unfold yY
 rw [Q0 h,List.foldl_append]
 rfl
theorem qeg {s:Pr}:∀ zs:List Pr,(yY s zs).1.length≤zs.length+1∧((yY s zs).2=false→(yY s zs).1.length=zs.length):=by
 intro zs
 have go:∀ (n:Nat),n≤zs.length→(yY s (zs.take n)).1.length≤n+1∧((yY s (zs.take n)).2=false→(yY s (zs.take n)).1.length=n):=by
  intro n
  induction n with
  | zero=>intro _; simp [yY]
  | succ n ih =>
   intro hn
   have ih:=ih (by omega)
   rw [JR (by omega)]
   unfold WG
   cases hb:(yY s (zs.take n)).2 with
   | false =>
    have:=ih.2 hb
    split <;> simp <;> omega
   | true=>simp; omega
 have:=go zs.length (Nat.le_refl _)
 rwa [List.take_length] at this
def PdIP (zs:List Pr) (s:Pr) (k:Nat) (F:Fr) (H:List Bk):Prop:=∃ L,H=prB s::L∧F = [(0,.v (lV zs)),(3,.v (.ptr 0 0)),(5,Vx (yY s (zs.take k)).1),(6,.v (.sc (.bool (yY s (zs.take k)).2))),(7,.v (.sc (.int .i64 k)))]
theorem qfN (xs:List Pr) (s:Pr) (hx:xs.length≤1000000):PFn Tryz.prog 46 [lV xs,s.v] (lV (Vk xs s)):=by
 unfold Vk
 generalize xs=zs at *
 unfold Pr.v Pr.cs
 refine vwc (fn:=Tryz.f46) rfl ?_
 simp only [Tryz.f46,ql]
 refine AW.seq (vwb ?_)
 simp
 refine AW.seq (vwb ?_)
 simp
 refine AW.seq (vwb ?_)
 simp
 simp only [lV]
 refine AW.seq (AW.seq (vwb ?_))
 simp
 refine AW.block ?_
 refine AW.count zs.length (PdIP zs s) ⟨_,?_,[],by simp [prB],rfl⟩ ?_
 ·simp [qz,qj,qm,lV,Vx,qW,yY]
 rintro k F H hk ⟨L,rfl,rfl⟩
 have hpl:=qeg (s:=s) (zs.take k)
 rw [List.length_take,Nat.min_eq_left hk] at hpl
 unfold prB
 refine vwb ?_
 by_cases hlt:k<zs.length
 ·have w1:IntKind.i64.wrap ((k:Int)+1)=(k:Int)+1:=by rw [wrap_i64] <;> omega
  have hs:=JR (s:=s) hlt
  generalize yY s (zs.take k)=a at *
  obtain ⟨l,b⟩:=a
  unfold WG at hs
  simp only at hs hpl
  cases b with
  | true =>
   simp at hs
   simp [lV,Vx,hlt,J4,w1]
   refine ⟨by omega,_,?_,_,rfl,rfl⟩
   rw [hs]
   simp [qz,qj,qm,lV,Vx,Pr.cs]
  | false =>
   by_cases he:s.id<zs[k].id
   ·simp [he] at hs
    simp [lV,Vx,hlt,J4,w1,he]
    refine ⟨by omega,by omega,_,?_,_,rfl,rfl⟩
    rw [hs]
    simp [qz,qj,qm,lV,Vx,Pr.cs]
   ·simp [he] at hs
    simp [lV,Vx,hlt,J4,w1,he]
    refine ⟨by omega,_,?_,_,rfl,rfl⟩
    rw [hs]
    simp [qz,qj,qm,lV,Vx,Pr.cs]
 ·have hk':k=zs.length:=by omega
  subst hk'
  rw [List.take_length]
  rw [List.take_length] at hpl
  generalize yY s zs=a at *
  obtain ⟨l,b⟩:=a
  simp [lV,Vx]
  cases b with
  | true =>
   refine vwb ?_
   simp [lV,Vx]
  | false =>
   refine vwb ?_
   simp [lV,Vx]
   simp at hpl
   exact ⟨by omega,rfl⟩
def QV (S:List Pr):Prop:=S.Pairwise fun p q=>p.id<q.id
theorem QV.nodup {S:List Pr} (h:QV S):(S.map Pr.id).Nodup:=List.pairwise_map.2 (h.imp fun h=>by omega)
theorem XL {zs:List Pr} (hz:QV zs) {n:Nat} (hlt:n<zs.length):∀ t∈zs.take n,t.id<zs[n].id:=fun t ht=>by
 obtain ⟨i,hi,e⟩:=List.getElem_of_mem ht
 rw [List.length_take] at hi
 rw [List.getElem_take] at e
 rw [← e]
 exact List.pairwise_iff_getElem.1 hz i n (by omega) hlt (by omega)
theorem YO {s:Pr} {zs:List Pr} (hz:QV zs) (hn:∀ t∈zs,t.id≠s.id):∀ n,n≤zs.length→((yY s (zs.take n)).2=true→(yY s (zs.take n)).1.Perm (s::zs.take n)∧QV (yY s (zs.take n)).1∧∃ t∈zs.take n,s.id<t.id)∧((yY s (zs.take n)).2=false→(yY s (zs.take n)).1=zs.take n∧∀ t∈zs.take n,t.id<s.id):=by
 intro n
 induction n with
 | zero=>intro _; simp [yY]
 | succ n ih =>
  intro hle
  have hlt:n<zs.length:=by omega
  have ih:=ih (by omega)
  have hs:=JR (s:=s) hlt
  have hpre:=XL hz hlt
  have hinc:QV (zs.take n):=List.Pairwise.sublist (List.take_sublist n zs) hz
  have hne:zs[n].id≠s.id:=hn _ (List.getElem_mem hlt)
  rw [hs,Q0 hlt]
  generalize hx:zs[n]=x at *
  generalize hp:zs.take n=pre at *
  generalize yY s pre=a at *
  obtain ⟨l,b⟩:=a
  unfold WG
  simp only at ih ⊢
  cases b with
  | true =>
   obtain ⟨h1,h2,t,h3,h4⟩:=ih.1 rfl
   simp only [Bool.not_true,Bool.false_and,Bool.false_eq_true,if_false]
   refine ⟨fun _=>⟨h1.append_right [x],List.pairwise_append.2 ⟨h2,List.pairwise_singleton _ _,fun y hy z hz' => ?_⟩,t,by simp [h3],h4⟩,fun e=>by cases e⟩
   rw [List.mem_singleton] at hz'
   subst hz'
   rcases List.mem_cons.1 (h1.mem_iff.1 hy) with rfl | hy
   ·have:=hpre t h3
    omega
   ·exact hpre y hy
  | false =>
   obtain ⟨h1,h2⟩:=ih.2 rfl
   subst h1
   by_cases he:s.id<x.id
   ·simp only [he,decide_true,Bool.not_false,Bool.and_self,if_true]
    refine ⟨fun _=>⟨?_,?_,x,by simp,he⟩,fun e=>by cases e⟩
    ·rw [List.append_assoc]
     exact List.perm_middle
    ·refine List.pairwise_append.2 ⟨List.pairwise_append.2 ⟨hinc,List.pairwise_singleton _ _,fun y hy z hz' => ?_⟩,List.pairwise_singleton _ _,fun y hy z hz' => ?_⟩
     ·rw [List.mem_singleton] at hz'
      subst hz'
      exact h2 y hy
     ·rw [List.mem_singleton] at hz'
      subst hz'
      rcases List.mem_append.1 hy with hy | hy
      ·exact hpre y hy
      ·rw [List.mem_singleton] at hy
       subst hy
       exact he
   ·simp only [he,decide_false,Bool.and_false,Bool.false_eq_true,if_false]
    refine ⟨fun e=>(by cases e),fun _=>⟨trivial,fun t ht => ?_⟩⟩
    rcases List.mem_append.1 ht with ht | ht
    ·exact h2 t ht
    ·rw [List.mem_singleton] at ht
     subst ht
     omega
theorem Js {xs:List Pr} {s:Pr} (hx:QV xs) (hn:∀ t∈xs,t.id≠s.id):(Vk xs s).Perm (s::xs)∧QV (Vk xs s):=by
 have h:=YO (s:=s) hx hn _ (Nat.le_refl _)
 rw [List.take_length] at h
 unfold Vk
 cases hb:(yY s xs).2 with
 | true =>
  obtain ⟨h1,h2,_⟩:=h.1 hb
  simp only [if_true]
  exact ⟨h1,h2⟩
 | false =>
  obtain ⟨h1,h2⟩:=h.2 hb
  simp only [Bool.false_eq_true,if_false,h1]
  refine ⟨List.perm_append_comm,List.pairwise_append.2 ⟨hx,List.pairwise_singleton _ _,fun y hy z hz' => ?_⟩⟩
  rw [List.mem_singleton] at hz'
  subst hz'
  exact h2 y hy
def ZA (a:List Pr) (s:Pr):List Pr:=if qa2 a s=0 then Vk a s else a
def jK (l:List Pr):List Pr:=l.foldl ZA []
theorem Jg {l:List Pr} {k:Nat} (h:k<l.length):jK (l.take (k+1))=ZA (jK (l.take k)) l[k]:=by
 unfold jK
 rw [Q0 h,List.foldl_append]
 rfl
theorem YV {a:List Pr} {s:Pr} (h:QV a):QV (ZA a s):=by
 unfold ZA
 split
 ·rename_i e
  exact (Js h (VH e).2).2
 ·exact h
theorem Jw {a:List Pr} {s:Pr} (h:QV a):(ZA a s).Perm (YA a s):=by
 unfold ZA YA
 split
 ·rename_i e
  exact (Js h (VH e).2).1
 ·exact List.Perm.refl _
theorem YU {a:List Pr} {s:Pr} (h:QV a):(ZA a s).length≤a.length+1:=by
 rw [(Jw h).length_eq]
 exact qbV
theorem Z7 (l:List Pr):QV (jK l)∧(jK l).length≤l.length:=by
 have go:∀ n,n≤l.length→QV (jK (l.take n))∧(jK (l.take n)).length≤n:=by
  intro n
  induction n with
  | zero=>intro _; simp [jK,QV]
  | succ n ih =>
   intro hn
   obtain ⟨h1,h2⟩:=ih (by omega)
   rw [Jg (by omega)]
   have:=YU (s:=l[n]) h1
   exact ⟨YV h1,by omega⟩
 have:=go l.length (Nat.le_refl _)
 rwa [List.take_length] at this
theorem qih (s:Pr):s.v = .agg [.sc (.int .i64 s.id),.sc (.int .i64 s.at_.x),.sc (.int .i64 s.at_.y),.sc (.int .i64 s.lab)]:=rfl
def qcZ (S:List Pr) (k:Int):Pr:=(VY S k).getD qbw
def qf8 (S:List Pr) (k:Int):Bool:=(VY S k).isSome
theorem qeh (S:List Pr) (k:Int):Xp S k = .tup [.agg [.sc (.int .i64 (qcZ S k).id),.sc (.int .i64 (qcZ S k).at_.x),.sc (.int .i64 (qcZ S k).at_.y),.sc (.int .i64 (qcZ S k).lab)],.sc (.bool (qf8 S k))]:=by
 unfold Xp qcZ qf8
 cases VY S k <;> rfl
theorem qf5 (S:List Pr) (rc:Pr):qa2 S rc=if fits rc.at_ then (if qf8 S rc.id then 20 else 0) else 1:=rfl
end Go.Proofs.YtnconfggojpkcaaGreat
namespace Go.Proofs.YtnconfggojpkcaaGreat
open Go.RowKit AM Can
attribute [local simp] zQ qU jL zT zq zR zS zo jM zu qV Z8 Qm jC Ql yc ZE vZ slF qG Qo zK yx zA shares jh yt ze Qz QI qY ZF qZ qM vX zH yu Qe qL zD zG vU slV jE jG yE zU ZJ jB jF aMM aUn Qp vW jD zC jA qJ vV Qu vY vS Zw y9 qK Qs ZK zJ zI jH jR ZH eval zZ AM.valOf qm vO yR del SV.refers zY vQ jU shift ldV V.exact V.jg V.ofValue V.vP V.vL V.cells V.one Value.oneCell' ZI QY jV Q5 ZM ZC Qa Zy jl jI Qi ZL y8 yX Qr calm Qt Zn Qk feeds shrinks Qx looks isT Qf vK Qd putAt jT jc Zm sliceB isEq Qg zk qH zO zn qR zl zm qQ zP zi qP ZW Qw yB Zl QZ inO y7 Zi Mix.vT Mix.Qc QB QX qz qj qW zh qO ZV Qq yg yh ZG Zb yw yO Q8 jW V.fixed V.vC
def QW (down:Bool) (o:List Int) (r:Re):List Int:=if down then Za (Za o r.y0) (r.y1+1) else Za (Za o r.x0) (r.x1+1)
def qN (l:List Re) (down:Bool):List Int:=l.foldl (QW down) [0,65536]
theorem qa5 {l:List Re} {down:Bool} {k:Nat} (h:k<l.length):qN (l.take (k+1)) down=QW down (qN (l.take k) down) l[k]:=by
 unfold qN
 rw [List.take_succ_eq_append_getElem h,List.foldl_append]
 rfl
theorem qc9 (down:Bool) (o:List Int) (r:Re):(QW down o r).length≤o.length+2:=by
 unfold QW
 split
 ·have h1:=Vv r.y0 o
  have h2:=Vv (r.y1+1) (Za o r.y0)
  omega
 ·have h1:=Vv r.x0 o
  have h2:=Vv (r.x1+1) (Za o r.x0)
  omega
theorem Ye (down:Bool) (l:List Re):(qN l down).length≤2+2*l.length:=by
 have go:∀ (l:List Re) (o:List Int),(l.foldl (QW down) o).length≤o.length+2*l.length:=by
  intro l
  induction l with
  | nil=>intro o; simp
  | cons r l ih =>
   intro o
   have h1:=ih (QW down o r)
   have h2:=qc9 down o r
   rw [List.foldl_cons]
   simp only [List.length_cons]
   omega
 simpa [qN] using go l [0,65536]
theorem Yf {down:Bool} {o:List Int} {r:Re} (h:o.Pairwise (· < ·)):(QW down o r).Pairwise (· < ·)∧∀ z,z∈QW down o r↔z∈o∨z=lo down r∨z=hi down r+1:=by
 unfold QW lo hi
 split
 ·obtain ⟨h1,h2⟩:=QJ (n:=r.y0) h
  obtain ⟨h3,h4⟩:=QJ (n:=r.y1+1) h1
  exact ⟨h3,fun z=>by rw [h4,h2,or_assoc]⟩
 ·obtain ⟨h1,h2⟩:=QJ (n:=r.x0) h
  obtain ⟨h3,h4⟩:=QJ (n:=r.x1+1) h1
  exact ⟨h3,fun z=>by rw [h4,h2,or_assoc]⟩
theorem yP (l:List Re) (down:Bool):(qN l down).Pairwise (· < ·)∧∀ z,z∈qN l down↔z=0∨z=65536∨∃ r∈l,z=lo down r∨z=hi down r+1:=by
 have go:∀ (l:List Re) (o:List Int),o.Pairwise (· < ·)→(l.foldl (QW down) o).Pairwise (· < ·)∧∀ z,z∈l.foldl (QW down) o↔z∈o∨∃ r∈l,z=lo down r∨z=hi down r+1:=by
  intro l
  induction l with
  | nil=>intro o h; exact ⟨h,fun z=>by simp⟩
  | cons r l ih =>
   intro o h
   obtain ⟨h1,h2⟩:=Yf (down:=down) (r:=r) h
   obtain ⟨h3,h4⟩:=ih _ h1
   refine ⟨h3,fun z => ?_⟩
   rw [List.foldl_cons,h4,h2]
   simp only [List.mem_cons,exists_eq_or_imp,or_assoc]
 obtain ⟨h1,h2⟩:=go l [0,65536] (by simp)
 exact ⟨h1,fun z=>by rw [qN,h2]; simp [or_assoc]⟩
def EdI (a b:List Re) (down:Bool) (k:Nat) (F:Fr) (H:List Bk):Prop:=F = [(0,.v (slR a)),(1,.v (slR b)),(2,.v (.sc (.bool down))),(7,.v (slI (qN ((a++b).take k) down))),(8,.v (.sc (.int .i64 k)))]
theorem qd9 (a b:List Re) (down:Bool) (ha:a.length≤1000000) (hb:b.length≤1000000) (hra:∀ r∈a,qd r=true) (hrb:∀ r∈b,qd r=true):PFn Tryz.prog 127 [slR a,slR b,.sc (.bool down)] (slI (qN (a++b) down)):=by
 refine vwc (fn:=Tryz.f127) rfl (vwa [(10,7,[7,9]),(11,7,[7,9])] ?_)
 simp only [Tryz.f127,ql]
 simp [slR]
 refine AW.qhy 7 rfl ?_
 simp only [yR,Nat.reduceBEq,cond_true,cond_false]
 refine AW.count (a++b).length (EdI a b down) ⟨_,?_,rfl⟩ ?_
 ·simp [qz,qj,qm,slR,slI,qN,ints]
 rintro k F H hk rfl
 have wl:IntKind.i64.wrap ((a.length:Int)+b.length)=(a.length:Int)+b.length:=by rw [wrap_i64] <;> omega
 have hlen:=Ye down ((a++b).take k)
 rw [List.length_take] at hlen
 rw [List.length_append] at hk
 refine vwa [(10,7,[7,9]),(11,7,[7,9])] ?_
 by_cases hlt:k<(a++b).length
 ·have w1:IntKind.i64.wrap ((k:Int)+1)=(k:Int)+1:=by rw [wrap_i64] <;> omega
  have hn:=qa5 (down:=down) hlt
  have hlt':(k:Int)<(a.length:Int)+b.length:=by rw [List.length_append] at hlt; omega
  have hr:qd (a++b)[k]=true:=by
   have:=List.getElem_mem hlt
   rcases List.mem_append.1 this with h | h
   ·exact hra _ h
   ·exact hrb _ h
  have hr':=qF.1 hr
  have hfin:∀ es,qN ((a++b).take (k+1)) down=es→∀ H,EdI a b down (k+1) [(0,.v (slR a)),(1,.v (slR b)),(2,.v (.sc (.bool down))),(7,.v (slI es)),(8,.v (.sc (.int .i64 (k+1:Nat))))] H:=fun es e H=>by
   rw [EdI,e]
  have hp1:=qck (qN ((a++b).take k) down) (lo down (a++b)[k]) (by omega)
  have hpl:=Vv (lo down (a++b)[k]) (qN ((a++b).take k) down)
  have hp2:=qck (Za (qN ((a++b).take k) down) (lo down (a++b)[k])) (hi down (a++b)[k]+1) (by omega)
  have c0:=J6 (qN ((a++b).take k) down)
  have c1:=J6 (Za (qN ((a++b).take k) down) (lo down (a++b)[k]))
  have c2:=J6 (Za (Za (qN ((a++b).take k) down) (lo down (a++b)[k])) (hi down (a++b)[k]+1))
  have hsub:∀ es,qN ((a++b).take (k+1)) down=es→k<a.length+b.length→True:=fun _ _ _=>trivial
  have wx:IntKind.i64.wrap ((a++b)[k].x1+1)=(a++b)[k].x1+1:=by rw [wrap_i64] <;> omega
  have wy:IntKind.i64.wrap ((a++b)[k].y1+1)=(a++b)[k].y1+1:=by rw [wrap_i64] <;> omega
  have e0:QW down (qN ((a++b).take k) down) (a++b)[k]=Za (Za (qN ((a++b).take k) down) (lo down (a++b)[k])) (hi down (a++b)[k]+1):=by
   unfold QW lo hi
   cases down <;> rfl
  rw [e0] at hn
  replace hfin:=hfin _ hn
  by_cases hka:k<a.length
  ·have hka':(k:Int)<a.length:=by omega
   have eg:(a++b)[k]=a[k]:=List.getElem_append_left hka
   rw [eg] at hp1 hp2 c1 c2 hpl wx wy hfin
   generalize qN ((a++b).take k) down=es at *
   have hrow:=qcH hka
   generalize a[k]=r at *
   cases down with
   | true =>
    simp only [lo,hi,if_true] at hp1 hp2 c1 c2 hpl hfin
    simp [slR,wl,hlt',hka,hrow,JZ]
    refine qc.pure hp1 (by simp [V.qA,V.closed,c0]) c1 ?_
    simp [wy]
    refine qc.pure hp2 (by simp [V.qA,V.closed,c1]) c2 ?_
    simp [w1]
    refine ⟨by omega,_,?_,hfin _⟩
    simp [qz,qj,qm,slR]
   | false =>
    simp only [lo,hi,Bool.false_eq_true,if_false] at hp1 hp2 c1 c2 hpl hfin
    simp [slR,wl,hlt',hka,hrow,JZ]
    refine qc.pure hp1 (by simp [V.qA,V.closed,c0]) c1 ?_
    simp [wx]
    refine qc.pure hp2 (by simp [V.qA,V.closed,c1]) c2 ?_
    simp [w1]
    refine ⟨by omega,_,?_,hfin _⟩
    simp [qz,qj,qm,slR]
  ·have hka':¬ (k:Int)<a.length:=by omega
   have hkb:k - a.length<b.length:=by rw [List.length_append] at hlt; omega
   have eg:(a++b)[k]=b[k - a.length]:=List.getElem_append_right (by omega)
   have ws:IntKind.i64.wrap ((k:Int) - a.length)=((k - a.length:Nat):Int):=by rw [wrap_i64] <;> omega
   rw [eg] at hp1 hp2 c1 c2 hpl wx wy hfin
   generalize qN ((a++b).take k) down=es at *
   have hrow:=qcH hkb
   generalize b[k - a.length]=r at *
   cases down with
   | true =>
    simp only [lo,hi,if_true] at hp1 hp2 c1 c2 hpl hfin
    simp [slR,wl,hlt',hka,hka',hrow,JZ,ws,hkb]
    refine qc.pure hp1 (by simp [V.qA,V.closed,c0]) c1 ?_
    simp [wy]
    refine qc.pure hp2 (by simp [V.qA,V.closed,c1]) c2 ?_
    simp [w1]
    refine ⟨by omega,_,?_,hfin _⟩
    simp [qz,qj,qm,slR]
   | false =>
    simp only [lo,hi,Bool.false_eq_true,if_false] at hp1 hp2 c1 c2 hpl hfin
    simp [slR,wl,hlt',hka,hka',hrow,JZ,ws,hkb]
    refine qc.pure hp1 (by simp [V.qA,V.closed,c0]) c1 ?_
    simp [wx]
    refine qc.pure hp2 (by simp [V.qA,V.closed,c1]) c2 ?_
    simp [w1]
    refine ⟨by omega,_,?_,hfin _⟩
    simp [qz,qj,qm,slR]
 ·have hk':k=(a++b).length:=by rw [List.length_append] at hlt ⊢; omega
  subst hk'
  rw [List.take_length]
  simp [slR,slI,wl]
end Go.Proofs.YtnconfggojpkcaaGreat
namespace Go.Proofs.YtnconfggojpkcaaGreat
open Go.RowKit AM Can
attribute [local simp] zQ qU jL zT zq zR zS zo jM zu qV Z8 Qm jC Ql yc ZE vZ slF qG Qo zK yx zA shares jh yt ze Qz QI qY ZF qZ qM vX zH yu Qe qL zD zG vU slV jE jG yE zU ZJ jB jF aMM aUn Qp vW jD zC jA qJ vV Qu vY vS Zw y9 qK Qs ZK zJ zI jH jR ZH eval zZ AM.valOf qm vO yR del SV.refers zY vQ jU shift ldV V.exact V.jg V.ofValue V.vP V.vL V.cells V.one Value.oneCell' ZI QY jV Q5 ZM ZC Qa Zy jl jI Qi ZL y8 yX Qr calm Qt Zn Qk feeds shrinks Qx looks isT Qf vK Qd putAt jT jc Zm sliceB isEq Qg zk qH zO zn qR zl zm qQ zP zi qP ZW Qw yB Zl QZ inO y7 Zi Mix.vT Mix.Qc QB QX qz qj qW zh qO ZV Qq yg yh ZG Zb yw yO Q8 jW V.fixed V.vC
attribute [local simp] vE je yL vH jQ vF vG jP yM vk jN V5 Ja yF QT Jb z0 JL VK Vo VU
def jS (l:List Ru) (t m:Nat) (H0 H:List Bk):Prop:=(∃ es,Tab H t m l es∧VO l es)∧vI m H0 H
theorem jS.w {l:List Ru} {t m:Nat} {H0 H:List Bk} (h:jS l t m H0 H):Kept l t m H0 H:=⟨h.1,h.2.w⟩
theorem jS.trans {l:List Ru} {t m:Nat} {H0 H1 H2:List Bk} (h:vI m H0 H1) (k:jS l t m H1 H2):jS l t m H0 H2:=⟨k.1,h.trans k.2⟩
theorem jS.app {l:List Ru} {t m:Nat} {H0 H1 L:List Bk} (k:jS l t m H0 H1):jS l t m H0 (H1++L):=by
 obtain ⟨⟨es,h1,h2⟩,h3⟩:=k
 exact ⟨⟨es,h1.stays .app,h2⟩,h3.append⟩
def ofS (r:Re) (s:Int×Int) (q:Rc Int):Int×Int:=if qE (jo q) r then (IntKind.u64.wrap (s.1 - zX (yH (jo q) r)),if q.z<s.2 then q.z else s.2) else s
def ofP (qs:List (Rc Int)) (r:Re):Int:=if 0<(qs.foldl (ofS r) ((zX r:Nat),16)).1 then 0 else (qs.foldl (ofS r) ((zX r:Nat),16)).2
def OfI (l:List Ru) (qs:List (Rc Int)) (r:Re) (b:Nat) (t m:Nat) (H0:List Bk) (k:Nat) (F:Fr) (H:List Bk):Prop:=(jS l t m H0 H∧H[b]? = some (reB r)) ∧
 F = [(9,.v (.ptr b 0)),(11,.v (.sc (.int .u64 ((qs.take k).foldl (ofS r) ((zX r:Nat),16)).1))),(12,.v (.sc (.int .i64 ((qs.take k).foldl (ofS r) ((zX r:Nat),16)).2))),(38,.v (slP qs)),(39,.v (.sc (.int .i64 qs.length))),(40,.v (.sc (.int .i64 k)))]
theorem qaN {H:List Bk} {b:Bk} {xs:List SV} {ys:List V} (h:xs.length=ys.length):setCells (H ++ [b,.cells xs]) (H.length+1) 0 ys=H ++ [b,.cells (ys.map .v)]:=by
 have:=JZ (H:=H ++ [b]) h
 simpa using this
theorem gOf (l:List Ru) (ro ti la:Int) (r:Re) (hl:l.length≤1000000) (hn:(qg l).length≤1048576) (t m:Nat) (es:List (Value×V)) (H:List Bk) (hT:Tab H t m l es) (hM:VO l es) :
  AFn Tryz.prog 71 [.ptr t 0,.sc (.int .i64 ro),.sc (.int .i64 ti),.sc (.int .i64 la),r.v] H fun y H'=>y = .sc (.int .i64 (if QU ro ti la&&qd r then ofP (Vq l ro ti la) r else 0))∧jS l t m H H':=by
 have hTm:=(List.getElem?_eq_some_iff.1 hT.m).1
 have hT1:=hT.stays (.app (L := [reB r]))
 have hb1:=qab (H:=H) (b:=reB r)
 have h1:=qhj t m l es _ hT1
 have h2:=qcs ro ti la
 have h3:=qa3 l ro ti la hl hn t m es _ hT1 hM
 have hR:=Jc r
 have hA:=qa4 r
 have hq:=WH l ro ti la
 unfold reB at h1 h3
 unfold Re.v Re.cs at hR hA ⊢
 refine vwc (fn:=Tryz.f71) rfl (vwb ?_)
 simp only [Tryz.f71,ql]
 simp
 refine qc.of h1 ?_
 rintro y H1 ⟨rfl,rfl⟩
 simp
 refine qc.pure h2 rfl rfl ?_
 cases e:QU ro ti la with
 | false =>
  simp
  exact ⟨⟨es,hT1,hM⟩,.app⟩
 | true =>
  simp
  refine qc.pure hR rfl rfl ?_
  cases e2:qd r with
  | false =>
   simp
   exact ⟨⟨es,hT1,hM⟩,.app⟩
  | true =>
   simp
   refine qc.pure hA rfl rfl ?_
   simp
   refine qc.of h3 ?_
   rintro y H2 ⟨rfl,es',hT',hM',hs⟩
   have hb2:=hs.cells (by omega) hb1
   generalize Vq l ro ti la=qs at *
   simp [slP]
   refine AW.count qs.length (OfI l qs r H.length t m H) ⟨_,?_,⟨⟨⟨es',hT',hM'⟩,vI.trans .app hs⟩,hb2⟩,rfl⟩ ?_
   ·simp [qz,qj,qm,slP]
   rintro k F H3 hk ⟨⟨hK,hb3⟩,rfl⟩
   refine vwb ?_
   by_cases hlt:k<qs.length
   ·have w1:IntKind.i64.wrap ((k:Int)+1)=(k:Int)+1:=by rw [wrap_i64] <;> omega
    have hrow:=qg9 hlt
    have hst:=yD (f:=ofS r) (b:=(((zX r:Nat):Int),(16:Int))) (xs:=qs) (k:=k) hlt
    have hH:=qex (jo qs[k]) r
    have hB:=qa4 (yH (jo qs[k]) r)
    have hb3':=fun L=>qce (L:=L) hb3
    have hbq:=qab (H:=H3) (b := .cells [.v (.sc (.int .i64 qs[k].x0)),.v (.sc (.int .i64 qs[k].y0)),.v (.sc (.int .i64 qs[k].x1)),.v (.sc (.int .i64 qs[k].y1)),.v (.sc (.int .i64 qs[k].z))])
    generalize hgs:(qs.take k).foldl (ofS r) (((zX r:Nat):Int),(16:Int))=s at *
    unfold Y6 Xh Re.v Re.cs at hH
    unfold Re.v Re.cs at hB
    unfold reB at hb3'
    cases e3:qE (jo qs[k]) r with
    | true =>
     have e1:ofS r s qs[k]=(IntKind.u64.wrap (s.1 - zX (yH (jo qs[k]) r)),if qs[k].z<s.2 then qs[k].z else s.2):=by simp [ofS,e3]
     rw [e1] at hst
     rw [e3,if_pos rfl] at hH
     have hbx:=qab (H:=H3 ++ [.cells [.v (.sc (.int .i64 qs[k].x0)),.v (.sc (.int .i64 qs[k].y0)),.v (.sc (.int .i64 qs[k].x1)),.v (.sc (.int .i64 qs[k].y1)),.v (.sc (.int .i64 qs[k].z))]]) (b:=reB (yH (jo qs[k]) r))
     have hbq2:=fun L=>qce (L:=L) hbq
     unfold reB at hbx
     simp [slP,hlt,hrow,JZ,hb3',hbq]
     refine qc.pure hH rfl rfl ?_
     simp [JZ,qaN]
     refine qc.pure hB rfl rfl ?_
     simp [w1]
     refine ⟨_,?_,⟨hK.app,hb3' _⟩,rfl⟩
     rw [hst]
     simp [qz,qj,qm,slP]
    | false =>
     have e1:ofS r s qs[k]=s:=by simp [ofS,e3]
     rw [e1] at hst
     rw [e3,if_neg (by decide)] at hH
     simp [slP,hlt,hrow,JZ,hb3',hbq]
     refine qc.pure hH rfl rfl ?_
     simp [JZ,qaN,w1]
     refine ⟨_,?_,⟨hK.app,hb3' _⟩,rfl⟩
     rw [hst]
     simp [qz,qj,qm,slP]
   ·have hk':k=qs.length:=by omega
    subst hk'
    simp [slP]
    unfold ofP
    generalize qs.foldl (ofS r) ((zX r:Nat),16)=s at *
    by_cases h0:0<s.1
    ·simp [gd,h0]
     exact hK
    ·simp [gd,h0]
     exact hK
def BoA (l:List Ru) (k:Nat) (F:Fr) (H:List Bk):Prop:=F = [(0,.v (slU l)),(3,KC (qg (l.take k))),(4,.v (.sc (.int .i64 k)))]
def BoB (l:List Ru) (k:Nat) (c:List Re) (j:Nat) (F:Fr) (H:List Bk):Prop:=F = [(0,.v (slU l)),(3,KC (qg (l.take k)++c.take j)),(4,.v (.sc (.int .i64 k))),(5,.v (.sc (.int .i64 j)))]
theorem qea (l:List Ru) (hl:l.length≤1000000) (hn:(qg l).length≤1048576):PFn Tryz.prog 126 [slU l] (slR (qg l)):=by
 refine vwc (fn:=Tryz.f126) rfl (vwb ?_)
 simp only [Tryz.f126,ql]
 simp [slU]
 refine AW.count l.length (BoA l) ⟨_,?_,rfl⟩ ?_
 ·simp [qz,qj,qm,slU,KC,qW,qg]
 rintro k F H hk rfl
 refine vwb ?_
 have w1:IntKind.i64.wrap ((k:Int)+1)=(k:Int)+1:=by rw [wrap_i64] <;> omega
 by_cases hlt:k<l.length
 ·have hrow:=qan hlt
  have hst:=VD hlt
  have hpre:=ZU l (k+1)
  rw [hst,List.length_append] at hpre
  generalize hc:l[k].boxes=c at *
  simp [slU,KC,hlt,hrow]
  refine AW.count c.length (BoB l k c) ⟨_,?_,rfl⟩ ?_
  ·simp [qz,qj,qm,slU,KC]
  rintro j F H2 hj rfl
  refine vwb ?_
  unfold slR at hrow
  by_cases hjl:j<c.length
  ·have w2:IntKind.i64.wrap ((j:Int)+1)=(j:Int)+1:=by rw [wrap_i64] <;> omega
   have hrj:=qcH hjl
   have hlo:(qg (l.take k)++c.take j).length≤1048576:=by
    rw [List.length_append,List.length_take]
    omega
   have hsj:qg (l.take k)++c.take (j+1)=qg (l.take k)++c.take j ++ [c[j]]:=by rw [List.take_succ_eq_append_getElem hjl,List.append_assoc]
   generalize hgo:qg (l.take k)++c.take j=o at *
   simp [slU,slR,KC,hlt,hrow,hjl,hrj,w2]
   refine ⟨by omega,_,?_,rfl⟩
   rw [hsj]
   simp [qz,qj,qm,slU,KC,Re.cs]
  ·have hjj:j=c.length:=by omega
   subst hjj
   rw [List.take_length,← hst]
   simp [slU,slR,KC,hlt,hrow,w1]
   refine ⟨_,?_,rfl⟩
   simp [qz,qj,qm,slU,KC]
 ·have hk2:k=l.length:=by omega
  subst hk2
  rw [List.take_length]
  simp [slU,slR,KC]
def Yc (l:List Ru) (ro ti la:Int) (r:Re) (z:Int) (p:Pt):Int:=if yV r p&&decide (vN l ro ti la p<z) then vN l ro ti la p else z
def Qb (l:List Ru) (ro ti la:Int) (r:Re) (ys:List Int) (z x:Int):Int:=ys.foldl (fun z y=>Yc l ro ti la r z ⟨x,y⟩) z
def Vi (l:List Ru) (ro ti la:Int) (r:Re):Int:=(qN (qg l ++ [r]) false).foldl (Qb l ro ti la r (qN (qg l ++ [r]) true)) 16
def OrA (l:List Ru) (ro ti la:Int) (r:Re) (xs ys:List Int) (i:Nat) (F:Fr) (H:List Bk):Prop:=VI [reB r] H∧F = [(0,.v (slU l)),(1,.v (.sc (.int .i64 ro))),(2,.v (.sc (.int .i64 ti))),(3,.v (.sc (.int .i64 la))),(9,.v (.ptr 0 0)),(11,.v (.sc (.int .i64 ((xs.take i).foldl (Qb l ro ti la r ys) 16)))),(13,.v (slI xs)),(14,.v (slI ys)),(15,.v (.sc (.int .i64 i)))]
def OrB (l:List Ru) (ro ti la:Int) (r:Re) (xs ys:List Int) (i:Nat) (x z0:Int) (k:Nat) (F:Fr) (H:List Bk):Prop:=VI [reB r] H∧F = [(0,.v (slU l)),(1,.v (.sc (.int .i64 ro))),(2,.v (.sc (.int .i64 ti))),(3,.v (.sc (.int .i64 la))),(9,.v (.ptr 0 0)),(11,.v (.sc (.int .i64 ((ys.take k).foldl (fun z y=>Yc l ro ti la r z ⟨x,y⟩) z0)))),(13,.v (slI xs)),(14,.v (slI ys)),(15,.v (.sc (.int .i64 i))),(16,.v (.sc (.int .i64 k)))]
theorem qic (l:List Ru) (ro ti la:Int) (r:Re) (hl:l.length≤1000) (hn:(qg l).length≤1000) (hr:∀ b∈qg l,qd b=true) (hrr:qd r=true) :
  PFn Tryz.prog 72 [slU l,.sc (.int .i64 ro),.sc (.int .i64 ti),.sc (.int .i64 la),r.v] (.sc (.int .i64 (Vi l ro ti la r))):=by
 have hbl:∀ r∈l,r.boxes.length≤9223372036854775807:=fun r hr=>by
  have h1:r.boxes.length≤(qg l).length:=by
   obtain ⟨s,t,rfl⟩:=List.append_of_mem hr
   simp [qg]
   omega
  omega
 have hB:=qea l (by omega) (by omega)
 have hE:=fun d=>qd9 (qg l) [r] d (by omega) (by simp) hr (by simpa using hrr)
 have hZ:=fun p=>qaE l ro ti la p (by omega) hbl
 have hH:=fun p=>qbc r p
 have cb:=qbA (qg l)
 have c1:=yT l
 have c3:=fun d=>J6 (qN (qg l ++ [r]) d)
 have hlx:=Ye false (qg l ++ [r])
 have hly:=Ye true (qg l ++ [r])
 rw [List.length_append,List.length_singleton] at hlx hly
 have hE':∀ d,PFn Tryz.prog 127 [slR (qg l),.sl 1 4 [.sc (.int .i64 r.x0),.sc (.int .i64 r.y0),.sc (.int .i64 r.x1),.sc (.int .i64 r.y1)],.sc (.bool d)] (slI (qN (qg l ++ [r]) d)):=hE
 unfold Vi
 unfold Re.v Re.cs Pt.v Pt.cs at hH
 unfold Pt.v Pt.cs at hZ
 unfold Re.v Re.cs
 refine vwc (fn:=Tryz.f72) rfl (vwa [(11,10,[13,15,14,16])] ?_)
 simp only [Tryz.f72,ql]
 simp
 refine qc.pure hB (by simp [V.qA,V.closed,c1]) cb ?_
 simp
 refine qc.pure (hE' false) (by simp [V.qA,V.closed,cb]) (c3 false) ?_
 simp
 refine qc.pure (hE' true) (by simp [V.qA,V.closed,cb]) (c3 true) ?_
 clear hE hE' c3
 generalize qN (qg l ++ [r]) false=xs at *
 generalize qN (qg l ++ [r]) true=ys at *
 simp
 refine AW.count xs.length (OrA l ro ti la r xs ys) ⟨_,?_,.refl,rfl⟩ ?_
 ·simp [qz,qj,qm,slI]
 rintro i F H hi ⟨hs,rfl⟩
 refine vwa [(11,10,[13,15,14,16])] ?_
 by_cases hlt:i<xs.length
 ·have w1:IntKind.i64.wrap ((i:Int)+1)=(i:Int)+1:=by rw [wrap_i64] <;> omega
  have hri:=Kw hlt
  have hst:=yD (f:=Qb l ro ti la r ys) (b:=(16:Int)) (xs:=xs) (k:=i) hlt
  generalize (xs.take i).foldl (Qb l ro ti la r ys) 16=z0 at *
  simp [slI,hlt]
  refine AW.count ys.length (OrB l ro ti la r xs ys i xs[i] z0) ⟨_,?_,hs,rfl⟩ ?_
  ·simp [qz,qj,qm,slI]
  rintro k F H2 hk ⟨hs2,rfl⟩
  refine vwa [(11,10,[13,15,14,16])] ?_
  by_cases hkl:k<ys.length
  ·have w2:IntKind.i64.wrap ((k:Int)+1)=(k:Int)+1:=by rw [wrap_i64] <;> omega
   have hrk:=Kw hkl
   have hsk:=yD (f:=fun z y=>Yc l ro ti la r z ⟨xs[i],y⟩) (b:=z0) (xs:=ys) (k:=k) hkl
   have hHp:=hH ⟨xs[i],ys[k]⟩
   have hZp:=hZ ⟨xs[i],ys[k]⟩
   generalize (ys.take k).foldl (fun z y=>Yc l ro ti la r z ⟨xs[i],y⟩) z0=z at *
   have e0:Yc l ro ti la r z ⟨xs[i],ys[k]⟩=if yV r ⟨xs[i],ys[k]⟩&&decide (vN l ro ti la ⟨xs[i],ys[k]⟩<z) then vN l ro ti la ⟨xs[i],ys[k]⟩ else z:=rfl
   rw [e0] at hsk
   have hb:=hs2.cells (i:=0) rfl
   have hb':=fun L=>qce (L:=L) hb
   have hb0:=fun L h=>(List.getElem_eq_iff (i:=0) h).2 (hb' L)
   have hbp:=qab (H:=H2) (b:=YN ⟨xs[i],ys[k]⟩)
   unfold YN at hbp
   simp [slI,hlt,hkl,hri,hrk,JZ,hb',hb0,hbp]
   refine qc.pure hHp rfl rfl ?_
   cases e:yV r ⟨xs[i],ys[k]⟩ with
   | false =>
    rw [e] at hsk
    simp [w2]
    refine ⟨_,?_,hs2.append,rfl⟩
    rw [hsk]
    simp [qz,qj,qm,slI]
   | true =>
    rw [e] at hsk
    simp [slI,hbp]
    refine qc.pure hZp (by simp [V.qA,V.closed,c1]) rfl ?_
    by_cases e2:vN l ro ti la ⟨xs[i],ys[k]⟩<z
    ·simp [e2,hbp]
     refine qc.pure hZp (by simp [V.qA,V.closed,c1]) rfl ?_
     simp [w2]
     refine ⟨_,?_,hs2.append,rfl⟩
     rw [hsk]
     simp [qz,qj,qm,slI,e2]
    ·simp [e2,w2]
     refine ⟨_,?_,hs2.append,rfl⟩
     rw [hsk]
     simp [qz,qj,qm,slI,e2]
  ·have hkk:k=ys.length:=by omega
   subst hkk
   simp [slI,w1,List.take_length]
   refine ⟨_,?_,hs2,rfl⟩
   rw [hst]
   simp [qz,qj,qm,slI,Qb]
 ·have hii:i=xs.length:=by omega
  subst hii
  simp [slI]
end Go.Proofs.YtnconfggojpkcaaGreat
namespace Go.Proofs.YtnconfggojpkcaaGreat
open Go.RowKit AM Can
section
variable {l:List Ru} {b:Ru→Bool} {G:Int→Int→Option Int} (hG:∀ x y,G x y=qbT (V7 (fun r=>b r&&hasB r.boxes ⟨x,y⟩) l))
include hG
end
theorem qb9 {l:List Ru} (ha:l.all qI=true) (ro ti la x y:Int):F2 l ro ti la x y=qbT (V7 (fun r=>XO r ro ti la&&hasB r.boxes ⟨x,y⟩) l):=by
 unfold F2
 rw [qbg ha]
 rfl
def cnt (P:Int→Int→Bool):Nat:=jm (fun y=>jm (fun x=>if P x y then 1 else 0) 65536) 65536
theorem Y0 {P Q:Int→Int→Bool} (h:∀ x y,P x y=Q x y):cnt P=cnt Q:=by
 have:P=Q:=funext fun x=>funext fun y=>h x y
 rw [this]
theorem WX {P Q R:Int→Int→Bool} (h:∀ x y,((if P x y then 1 else 0):Nat)=(if Q x y then 1 else 0)+(if R x y then 1 else 0)):cnt P=cnt Q+cnt R:=by
 unfold cnt
 rw [← Jj]
 refine jO fun k _ => ?_
 rw [← Jj]
 exact jO fun j _=>h _ _
theorem Wy {n:Nat} {P Q:Int→Int→Nat} (h:∀ x y,P x y≤Q x y):jm (fun y=>jm (fun x=>P x y) n) n≤jm (fun y=>jm (fun x=>Q x y) n) n:=Jd fun y _=>Jd fun x _=>h x y
theorem qb6 {P Q:Int→Int→Bool} (h:∀ x y,((if P x y then 1 else 0):Nat)≤if Q x y then 1 else 0):cnt P≤cnt Q:=Wy h
theorem Vt {g:Int→Nat} {n:Nat}:jm g n=0↔∀ k:Nat,k<n→g k=0:=by
 constructor
 ·intro h k hk
  exact (Ji (g:=fun _=>0) (h:=g) (n:=n) (fun _ _=>Nat.zero_le _) (by rw [h]; exact Nat.zero_le _) k hk).symm
 ·intro h
  rw [jO (h:=fun _=>0) h,Zo]
theorem Vd {P:Int→Int→Bool}:cnt P=0↔∀ y:Nat,y<65536→∀ x:Nat,x<65536→P x y=false:=by
 unfold cnt
 rw [Vt]
 refine forall_congr' fun y=>forall_congr' fun _ => ?_
 rw [Vt]
 refine forall_congr' fun x=>forall_congr' fun _ => ?_
 cases P x y <;> simp
def inR (r:Re) (x y:Int):Bool:=decide ((r.x0≤x∧x≤r.x1)∧r.y0≤y∧y≤r.y1)
theorem zf {r:Re} {x y:Int}:inR r x y=true↔(r.x0≤x∧x≤r.x1)∧r.y0≤y∧y≤r.y1:=by simp [inR]
theorem Ve {r:Re} (hr:qd r=true):cnt (inR r)=zX r:=by
 have h:=qF.1 hr
 unfold cnt zX
 rw [if_pos hr]
 have e:∀ y:Nat,y<65536→jm (fun x=>if inR r x y then 1 else 0) 65536=if r.y0≤(y:Int)∧(y:Int)≤r.y1 then (r.x1 - r.x0+1).toNat else 0:=fun y _=>by
  by_cases hy:r.y0≤(y:Int)∧(y:Int)≤r.y1
  ·rw [if_pos hy]
   have:=Yq (a:=r.x0) (b:=r.x1) (c:=1) (n:=65536) (by omega) (by omega) (by omega)
   rw [Nat.mul_one] at this
   rw [← this]
   refine jO fun x _ => ?_
   simp [inR,hy]
  ·rw [if_neg hy]
   rw [jO (h:=fun _=>0) fun x _ => ?_,Zo]
   simp only [inR]
   simp
   intro _ _ h3
   omega
 rw [jO (h:=fun y=>if r.y0≤y∧y≤r.y1 then (r.x1 - r.x0+1).toNat else 0) e,Yq (by omega) (by omega) (by omega),← Int.toNat_mul (by omega) (by omega),Int.mul_comm]
theorem WM {a b:Re} {x y:Int}:inR (yH a b) x y=(inR a x y&&inR b x y):=by
 rw [Bool.eq_iff_iff,Bool.and_eq_true,zf,zf,zf]
 simp only [yH]
 omega
theorem Jv {a b:Re} (ha:qd a=true) (hb:qd b=true) {x y:Int} (h1:inR a x y=true) (h2:inR b x y=true):qE a b=true:=by
 have h1:=zf.1 h1
 have h2:=zf.1 h2
 simp only [qE,ha,hb,Bool.true_and,decide_eq_true_iff]
 omega
theorem XJ {a b:Re} (h:qE a b=true):∃ x y,inR a x y=true∧inR b x y=true:=by
 have h1:=h
 simp only [qE,Bool.and_eq_true,decide_eq_true_iff] at h1
 obtain ⟨⟨ha,hb⟩,h2⟩:=h1
 have ha:=qF.1 ha
 have hb:=qF.1 hb
 refine ⟨max a.x0 b.x0,max a.y0 b.y0,zf.2 ?_,zf.2 ?_⟩ <;> omega
def unc (r:Re) (qs:List (Rc Int)) (x y:Int):Bool:=inR r x y && !(qs.any fun q=>inR (jo q) x y)
theorem Xv {r:Re} (hr:qd r=true) {qs:List (Rc Int)} {q:Rc Int} (hq:qd (jo q)=true) (hap:∀ p∈qs,p.x1<q.x0∨p.y1<q.y0) :
  cnt (unc r qs)=cnt (unc r (qs ++ [q]))+(if qE (jo q) r then zX (yH (jo q) r) else 0):=by
 have h1:cnt (unc r qs)=cnt (unc r (qs ++ [q]))+cnt (fun x y=>inR (jo q) x y&&inR r x y):=WX fun x y=>by
  unfold unc
  cases e1:inR r x y with
  | false=>simp
  | true =>
   cases e2:inR (jo q) x y with
   | false=>simp [e2]
   | true =>
    have hno:(qs.any fun q=>inR (jo q) x y)=false:=by
     rw [Bool.eq_false_iff]
     intro e
     obtain ⟨p,hp,hpi⟩:=List.any_eq_true.1 e
     have h3:=zf.1 hpi
     have h4:=zf.1 e2
     have:=hap p hp
     simp only [jo] at h3 h4
     omega
    simp [e2,hno]
 have h2:cnt (fun x y=>inR (jo q) x y&&inR r x y)=if qE (jo q) r then zX (yH (jo q) r) else 0:=by
  cases hm:qE (jo q) r with
  | true =>
   rw [if_pos rfl,← Ve ((Vm hq hr).trans hm)]
   exact Y0 fun x y=>WM.symm
  | false =>
   rw [if_neg (by decide),Vd]
   intro y _ x _
   rw [Bool.eq_false_iff]
   intro e
   rw [Bool.and_eq_true] at e
   rw [Jv hq hr e.1 e.2] at hm
   cases hm
 rw [h1,h2]
theorem Xw (r:Re) (hr:qd r=true) (qs:List (Rc Int)):cnt (unc r qs)≤4294967296:=by
 have h1:cnt (unc r qs)≤cnt (inR r):=qb6 fun x y=>by
  unfold unc
  cases inR r x y <;> cases (qs.any fun q=>inR (jo q) x y) <;> simp
 rw [Ve hr] at h1
 have:=WZ r
 omega
theorem Yy {r:Re} (hr:qd r=true):∀ (qs done:List (Rc Int)) (z:Int),(∀ q∈qs,qd (jo q)=true)→(done++qs).Pairwise (fun p q=>p.x1<q.x0∨p.y1<q.y0) →
  (qs.foldl (ofS r) ((cnt (unc r done):Nat),z)).1=(cnt (unc r (done++qs)):Nat)
 | [],done,z,_,_=>by simp
 | q::qs,done,z,hq,hp=>by
  have hst:=Xv hr (qs:=done) (hq q (by simp)) (fun p hpm=>(List.pairwise_append.1 hp).2.2 p hpm q (by simp))
  have e:done++q::qs=(done ++ [q])++qs:=by simp
  have ih:=fun z=>Yy hr qs (done ++ [q]) z (fun p hpm=>hq p (by simp [hpm])) (by rw [← e]; exact hp)
  have hle:=Xw r hr (done ++ [q])
  have hle2:=Xw r hr done
  rw [List.foldl_cons,e]
  unfold ofS
  cases hm:qE (jo q) r with
  | true =>
   rw [hm,if_pos rfl] at hst
   rw [if_pos rfl]
   simp only
   have w:IntKind.u64.wrap (((cnt (unc r done):Nat):Int) - (zX (yH (jo q) r):Nat))=((cnt (unc r (done ++ [q])):Nat):Int):=by
    rw [hst]
    have:(((cnt (unc r (done ++ [q]))+zX (yH (jo q) r):Nat):Int) - (zX (yH (jo q) r):Nat))=((cnt (unc r (done ++ [q])):Nat):Int):=by omega
    rw [this]
    rw [wrap_u64] <;> omega
   rw [w]
   exact ih _
  | false =>
   rw [hm,if_neg (by decide),Nat.add_zero] at hst
   rw [if_neg (by decide),hst]
   exact ih _
theorem Vy {r:Re}:∀ (qs:List (Rc Int)) (s:Int×Int),((qs.foldl (ofS r) s).2≤s.2∧∀ q∈qs,qE (jo q) r=true→(qs.foldl (ofS r) s).2≤q.z)∧((qs.foldl (ofS r) s).2=s.2∨∃ q∈qs,qE (jo q) r=true∧(qs.foldl (ofS r) s).2=q.z)
 | [],s=>by simp
 | q::qs,s=>by
  obtain ⟨⟨h1,h2⟩,h3⟩:=Vy qs (ofS r s q)
  rw [List.foldl_cons]
  cases hm:qE (jo q) r with
  | false =>
   have e:ofS r s q=s:=by simp [ofS,hm]
   rw [e] at h1 h2 h3 ⊢
   refine ⟨⟨h1,fun p hp hpm => ?_⟩,?_⟩
   ·rcases List.mem_cons.1 hp with rfl | hp
    ·rw [hm] at hpm; cases hpm
    ·exact h2 p hp hpm
   ·rcases h3 with h3 | ⟨p,hp,h4⟩
    ·exact .inl h3
    ·exact .inr ⟨p,by simp [hp],h4⟩
  | true =>
   have e:(ofS r s q).2=if q.z<s.2 then q.z else s.2:=by simp [ofS,hm]
   rw [e] at h1 h3
   generalize (qs.foldl (ofS r) (ofS r s q)).2=m at *
   refine ⟨⟨by split at h1 <;> omega,fun p hp hpm => ?_⟩,?_⟩
   ·rcases List.mem_cons.1 hp with rfl | hp
    ·split at h1 <;> omega
    ·exact h2 p hp hpm
   ·rcases h3 with h3 | ⟨p,hp,h4⟩
    ·split at h3
     ·exact .inr ⟨q,by simp,hm,h3⟩
     ·exact .inl h3
    ·exact .inr ⟨p,by simp [hp],h4⟩
def XY (l:List Ru) (ro ti la:Int) (r:Re) (z:Int):Prop:=(∀ x y,inR r x y=true→z≤vN l ro ti la ⟨x,y⟩)∧∃ x y,inR r x y=true∧vN l ro ti la ⟨x,y⟩=z
theorem XY.uniq {l:List Ru} {ro ti la:Int} {r:Re} {z z':Int} (h:XY l ro ti la r z) (k:XY l ro ti la r z'):z=z':=by
 obtain ⟨h1,x,y,h2,h3⟩:=h
 obtain ⟨k1,x',y',k2,k3⟩:=k
 have:=h1 x' y' k2
 have:=k1 x y h2
 omega
theorem qbS {l:List Ru} {ro ti la:Int} {o:List (Rc Int)} (h:Can.Form (F2 l ro ti la) o) {r:Re} (hr:qd r=true):XY l ro ti la r (ofP o r):=by
 have hri:=qF.1 hr
 have hpr:=K4 h
 have hL:=Yy hr o [] 16 (fun q hq=>(hpr q hq).1) h.apart
 have e0:unc r []=inR r:=funext fun x=>funext fun y=>by simp [unc]
 rw [e0,Ve hr,List.nil_append] at hL
 obtain ⟨⟨hM1,hM2⟩,hM3⟩:=Vy (r:=r) o ((zX r:Nat),16)
 unfold ofP
 rw [hL]
 simp only at hM1 hM3
 generalize (o.foldl (ofS r) ((zX r:Nat),16)).2=m at *
 have hcov:∀ x y q,q∈o→inR (jo q) x y=true→vN l ro ti la ⟨x,y⟩=q.z:=fun x y q hq hi=>by
  have hi:=zf.1 hi
  simp only [jo] at hi
  exact (Vf.1 ((h.iff x y q.z).2 ⟨q,hq,⟨hi.1.1,hi.1.2,hi.2.1,hi.2.2⟩,rfl⟩)).1
 split
 ·rename_i hp
  have hne:cnt (unc r o)≠0:=by omega
  refine ⟨fun x y _=>(QN l ro ti la ⟨x,y⟩).1,?_⟩
  apply Classical.byContradiction
  intro hno
  apply hne
  rw [Vd]
  intro y hy x hx
  rw [Bool.eq_false_iff]
  intro e
  unfold unc at e
  rw [Bool.and_eq_true] at e
  apply hno
  refine ⟨x,y,e.1,?_⟩
  refine VZ.1 ?_
  cases hz:F2 l ro ti la x y with
  | none=>rfl
  | some z =>
   obtain ⟨q,hq,ha,_⟩:=(h.iff _ _ z).1 hz
   have:(o.any fun q=>inR (jo q) x y)=true:=List.any_eq_true.2 ⟨q,hq,zf.2 ⟨⟨ha.1,ha.2.1⟩,ha.2.2.1,ha.2.2.2⟩⟩
   rw [this] at e
   simp at e
 ·rename_i hp
  have hc0:cnt (unc r o)=0:=by omega
  have hall:∀ x y,inR r x y=true→∃ q∈o,inR (jo q) x y=true:=fun x y hi=>by
   have hi':=zf.1 hi
   have:=Vd.1 hc0 y.toNat (by omega) x.toNat (by omega)
   rw [Int.toNat_of_nonneg (by omega),Int.toNat_of_nonneg (by omega)] at this
   unfold unc at this
   rw [hi] at this
   simp at this
   exact this
  refine ⟨fun x y hi => ?_,?_⟩
  ·obtain ⟨q,hq,hqi⟩:=hall x y hi
   rw [hcov x y q hq hqi]
   exact hM2 q hq (Jv (hpr q hq).1 hr hqi hi)
  ·rcases hM3 with hM3 | ⟨q,hq,hqm,hM3⟩
   ·have hi:inR r r.x0 r.y0=true:=zf.2 (by omega)
    obtain ⟨q,hq,hqi⟩:=hall _ _ hi
    refine ⟨_,_,hi,?_⟩
    rw [hcov _ _ q hq hqi]
    have h1:=hM2 q hq (Jv (hpr q hq).1 hr hqi hi)
    have h2:=(hpr q hq).2
    omega
   ·obtain ⟨x,y,h1,h2⟩:=XJ hqm
    exact ⟨x,y,h2,by rw [hcov x y q hq h1,hM3]⟩
theorem JU {l:List Ru} {ro ti la:Int} {r:Re} {x:Int}:∀ (ys:List Int) (z:Int),(Qb l ro ti la r ys z x≤z∧∀ y∈ys,yV r ⟨x,y⟩=true→Qb l ro ti la r ys z x≤vN l ro ti la ⟨x,y⟩)∧(Qb l ro ti la r ys z x=z∨∃ y∈ys,yV r ⟨x,y⟩=true∧Qb l ro ti la r ys z x=vN l ro ti la ⟨x,y⟩)
 | [],z=>by simp [Qb]
 | y::ys,z=>by
  obtain ⟨⟨h1,h2⟩,h3⟩:=JU (x:=x) ys (Yc l ro ti la r z ⟨x,y⟩)
  have e:Qb l ro ti la r (y::ys) z x=Qb l ro ti la r ys (Yc l ro ti la r z ⟨x,y⟩) x:=rfl
  rw [e]
  generalize Qb l ro ti la r ys (Yc l ro ti la r z ⟨x,y⟩) x=m at *
  unfold Yc at h1 h3
  cases hr:yV r ⟨x,y⟩ with
  | false =>
   rw [hr] at h1 h3
   simp only [Bool.false_and,Bool.false_eq_true,if_false] at h1 h3
   refine ⟨⟨h1,fun y' hy hh => ?_⟩,?_⟩
   ·rcases List.mem_cons.1 hy with rfl | hy
    ·rw [hr] at hh; cases hh
    ·exact h2 y' hy hh
   ·rcases h3 with h3 | ⟨y',hy,h4⟩
    ·exact .inl h3
    ·exact .inr ⟨y',by simp [hy],h4⟩
  | true =>
   rw [hr] at h1 h3
   simp only [Bool.true_and,decide_eq_true_iff] at h1 h3
   refine ⟨⟨by split at h1 <;> omega,fun y' hy hh => ?_⟩,?_⟩
   ·rcases List.mem_cons.1 hy with rfl | hy
    ·split at h1 <;> omega
    ·exact h2 y' hy hh
   ·rcases h3 with h3 | ⟨y',hy,h4⟩
    ·split at h3
     ·exact .inr ⟨y,by simp,hr,h3⟩
     ·exact .inl h3
    ·exact .inr ⟨y',by simp [hy],h4⟩
theorem Jt {l:List Ru} {ro ti la:Int} {r:Re} {ys:List Int}:∀ (xs:List Int) (z:Int),(xs.foldl (Qb l ro ti la r ys) z≤z∧∀ x∈xs,∀ y∈ys,yV r ⟨x,y⟩=true→xs.foldl (Qb l ro ti la r ys) z≤vN l ro ti la ⟨x,y⟩) ∧
  (xs.foldl (Qb l ro ti la r ys) z=z∨∃ x∈xs,∃ y∈ys,yV r ⟨x,y⟩=true∧xs.foldl (Qb l ro ti la r ys) z=vN l ro ti la ⟨x,y⟩)
 | [],z=>by simp
 | x::xs,z=>by
  obtain ⟨⟨h1,h2⟩,h3⟩:=Jt (ys:=ys) xs (Qb l ro ti la r ys z x)
  obtain ⟨⟨k1,k2⟩,k3⟩:=JU (l:=l) (ro:=ro) (ti:=ti) (la:=la) (r:=r) (x:=x) ys z
  rw [List.foldl_cons]
  generalize xs.foldl (Qb l ro ti la r ys) (Qb l ro ti la r ys z x)=m at *
  generalize Qb l ro ti la r ys z x=n at *
  refine ⟨⟨by omega,fun x' hx y hy hh => ?_⟩,?_⟩
  ·rcases List.mem_cons.1 hx with rfl | hx
   ·have:=k2 y hy hh
    omega
   ·exact h2 x' hx y hy hh
  ·rcases h3 with h3 | ⟨x',hx,y,hy,hh,h4⟩
   ·rcases k3 with k3 | ⟨y,hy,hh,k4⟩
    ·exact .inl (by omega)
    ·exact .inr ⟨x,by simp,y,hy,hh,by omega⟩
   ·exact .inr ⟨x',by simp [hx],y,hy,hh,h4⟩
theorem Jy:∀ {xs:List Int} {x:Int},(∃ c∈xs,c≤x)→∃ g∈xs,g≤x∧∀ c∈xs,c≤x↔c≤g
 | [],x,h=>by
  obtain ⟨c,hc,_⟩:=h
  cases hc
 | c::xs,x,h=>by
  by_cases hr:∃ d∈xs,d≤x
  ·obtain ⟨g,hg,h1,h2⟩:=Jy hr
   by_cases hc:c≤x∧g<c
   ·refine ⟨c,by simp,hc.1,fun d hd => ?_⟩
    rcases List.mem_cons.1 hd with rfl | hd
    ·omega
    ·have:=h2 d hd
     omega
   ·refine ⟨g,by simp [hg],h1,fun d hd => ?_⟩
    rcases List.mem_cons.1 hd with rfl | hd
    ·omega
    ·exact h2 d hd
  ·obtain ⟨d,hd,hdx⟩:=h
   have hdc:d=c:=by
    rcases List.mem_cons.1 hd with e | hd
    ·exact e
    ·exact absurd ⟨d,hd,hdx⟩ hr
   subst hdc
   refine ⟨d,by simp,hdx,fun e he => ?_⟩
   rcases List.mem_cons.1 he with rfl | he
   ·omega
   ·constructor
    ·intro h; exact absurd ⟨e,he,h⟩ hr
    ·intro h; omega
theorem V6 {l:List Ru} {ro ti la x y x' y':Int} (h:F2 l ro ti la x y=F2 l ro ti la x' y'):vN l ro ti la ⟨x,y⟩=vN l ro ti la ⟨x',y'⟩:=by
 cases e:F2 l ro ti la x y with
 | none =>
  rw [VZ.1 e,VZ.1 (h.symm.trans e)]
 | some z =>
  rw [(Vf.1 e).1,(Vf.1 (h.symm.trans e)).1]
theorem Vz {l:List Ru} (ha:l.all qI=true) {ro ti la:Int} {r:Re} (hr:qd r=true):XY l ro ti la r (Vi l ro ti la r):=by
 have hri:=qF.1 hr
 have hG:=qb9 ha ro ti la
 have mx:∀ d,∀ c∈qg l ++ [r],lo d c∈qN (qg l ++ [r]) d∧hi d c+1∈qN (qg l ++ [r]) d:=fun d c hc=>⟨((yP _ d).2 _).2 (.inr (.inr ⟨c,hc,.inl rfl⟩)),((yP _ d).2 _).2 (.inr (.inr ⟨c,hc,.inr rfl⟩))⟩
 have mb:∀ d,∀ u∈l,∀ c∈u.boxes,lo d c∈qN (qg l ++ [r]) d∧hi d c+1∈qN (qg l ++ [r]) d:=fun d u hu c hc=>mx d c (by simp [K7 hu hc])
 have hx:=fun y=>qiQ hG (yP (qg l ++ [r]) false).1 (mb false) y
 have hy:=qiP hG (yP (qg l ++ [r]) true).1 (mb true)
 have rx:r.x0∈qN (qg l ++ [r]) false:=(mx false r (by simp)).1
 have ry:r.y0∈qN (qg l ++ [r]) true:=(mx true r (by simp)).1
 unfold Vi
 generalize qN (qg l ++ [r]) false=xs at *
 generalize qN (qg l ++ [r]) true=ys at *
 obtain ⟨⟨h1,h2⟩,h3⟩:=Jt (l:=l) (ro:=ro) (ti:=ti) (la:=la) (r:=r) (ys:=ys) xs 16
 generalize xs.foldl (Qb l ro ti la r ys) 16=m at *
 have hh:∀ x y,yV r ⟨x,y⟩=true↔inR r x y=true:=fun x y=>by
  rw [ZR,zf]
  simp [hr]
 refine ⟨fun x y hi => ?_,?_⟩
 ·have hi:=zf.1 hi
  obtain ⟨gx,m1,m2,m3⟩:=Jy (xs:=xs) (x:=x) ⟨_,rx,hi.1.1⟩
  obtain ⟨gy,n1,n2,n3⟩:=Jy (xs:=ys) (x:=y) ⟨_,ry,hi.2.1⟩
  have q1:=(m3 _ rx).1 hi.1.1
  have q2:=(n3 _ ry).1 hi.2.1
  have e1:F2 l ro ti la x y=F2 l ro ti la gx y:=(hx y).same x gx m3
  have e2:F2 l ro ti la gx y=F2 l ro ti la gx gy:=hy.same gx y gy n3
  rw [V6 (e1.trans e2)]
  exact h2 gx m1 gy n1 ((hh _ _).2 (zf.2 (by omega)))
 ·rcases h3 with h3 | ⟨x,hx,y,hy,hxy,h4⟩
  ·have hc:inR r r.x0 r.y0=true:=zf.2 (by omega)
   have h5:=h2 _ rx _ ry ((hh _ _).2 hc)
   have h6:=QN l ro ti la ⟨r.x0,r.y0⟩
   exact ⟨_,_,hc,by omega⟩
  ·exact ⟨x,y,(hh _ _).1 hxy,h4.symm⟩
theorem qbR {l:List Ru} (ha:l.all qI=true) {ro ti la:Int} {r:Re} (hr:qd r=true):ofP (Vq l ro ti la) r=Vi l ro ti la r:=(qbS (X4 ha ro ti la) hr).uniq (Vz ha hr)
end Go.Proofs.YtnconfggojpkcaaGreat
namespace Go.Proofs.YtnconfggojpkcaaGreat
open Go.RowKit Go.ChangeShapes Go.WideShapes Go.ChangeAt AM
section
variable {H:Type}
theorem XT (d:DataW H):1≤Rows.uptoBulk d:=by
 cases d with
 | lit l=>cases l <;> simp [Rows.uptoBulk]
 | _=>simp [Rows.uptoBulk]
theorem JV {d:DataW H} {l:List (DataW H)} (h:d∈l):Rows.uptoBulk d≤Rows.uptoBulkAll l:=by
 induction l with
 | nil=>cases h
 | cons x r ih =>
  simp only [Rows.uptoBulkAll]
  rcases List.mem_cons.1 h with e | e
  ·subst e; omega
  ·have:=ih e; omega
theorem JA (l:List (DataW H)):l.length≤Rows.uptoBulkAll l:=by
 induction l with
 | nil=>simp [Rows.uptoBulkAll]
 | cons x r ih =>
  have:=XT x
  simp only [Rows.uptoBulkAll,List.length_cons]
  omega
theorem YK {x:Ru} {e:DataW H} (h:RuD x e):x.boxes.length≤Rows.uptoBulk e:=by
 obtain ⟨parts,e5,rfl,hp,hs⟩:=h
 have h1:=JV (List.mem_of_getElem? hp)
 rcases hs with h0 | ⟨es,sp,rfl,hl,_⟩
 ·rw [h0]; simp
 ·have h2:=JA es
  simp only [Rows.uptoBulk] at h1 ⊢
  omega
theorem V9 {xs:List Ru} {d:DataW H} (h:JB (fun (x:Ru) (e:DataW H)=>x.boxes.length≤maxLen∧RuD x e) xs d):(qg xs).length≤Rows.uptoBulk d:=by
 rcases h with rfl | ⟨es,sp,rfl,hl,hx⟩
 ·simp [qg]
 ·have go:∀ (xs:List Ru) (es:List (DataW H)),es.length=xs.length→(∀ (i:Nat) (x:Ru) (e:DataW H),xs[i]? = some x→es[i]? = some e→x.boxes.length≤maxLen∧RuD x e)→(qg xs).length≤Rows.uptoBulkAll es:=by
   intro xs
   induction xs with
   | nil=>intro es _ _; simp [qg]
   | cons x xs ih =>
    intro es hl hx
    cases es with
    | nil=>simp at hl
    | cons e es =>
     have h1:=ih es (by simpa using hl) fun i x e h1 h2=>hx (i+1) x e (by simpa using h1) (by simpa using h2)
     have h2:=YK (hx 0 x e rfl rfl).2
     have e1:qg (x::xs)=x.boxes++qg xs:=by simp [qg]
     rw [e1,List.length_append]
     simp only [Rows.uptoBulkAll]
     omega
  have h1:=go xs es hl hx
  simp only [Rows.uptoBulk]
  omega
theorem YJ {xs:List Ru} {d:DataW H} (h:JB (fun (x:Ru) (e:DataW H)=>x.boxes.length≤maxLen∧RuD x e) xs d):xs.length≤Rows.uptoBulk d:=by
 rcases h with rfl | ⟨es,sp,rfl,hl,hx⟩
 ·simp
 ·have:=JA es
  simp only [Rows.uptoBulk]
  omega
theorem Yh {ds:List (DataW H)} (hk:Rows.uptoSmall H ds=true):Rows.uptoBulkAll ds≤1048576:=of_decide_eq_true hk
end
theorem XK {f:FuncId} {fn:Func} {s:ChangeSpec} (hfn:Tryz.prog.funcs[f]? = some fn) (noInit:Tryz.prog.inits.idxOf? f=none) (hvars:s.vars = []) (hres:fn.resultTypes = #[4])
  (hts:∀ t∈fn.params.toList,Tryz.prog.readableRec t=true∧t<Tryz.prog.types.size) (hs:∀ (H:Type) (ds:List (DataW H)),ds.length=fn.params.toList.length→s.fn H ds = { results := [.lit (.bool true)],args:=ds })
  (os:Os) (started:os.Started) (H:Type) (enc:TypeId×Value→H) (F:Stop.Interp)
  (witness:∃ (w:World) (tape:Tape) (i:Input),w.os=os∧(w.forCall tape i).Shaped Tryz.prog∧i.vars = []∧Input.okWide Tryz.prog (w.forCall tape i) .any w.heap.size f i ∧
   (Rows.OpenSpec.upto s).pre6 enc Tryz.prog fn [] false (w.forCall tape i).memory i.args∧({}:Assume).holds Tryz.prog (lone (Frame.enter Tryz.prog f i.args .normal) [] (w.forCall tape i)))
  (walk:∀ (W:World) (base:Nat) (args:Array Value) (ds:List (DataW H)) (p:List MemPlace),(∀ (j:Nat) t v,fn.params[j]? = some t→args[j]? = some v→Value.okWide Tryz.prog W .any base t v) →
   DataW.TrodAll enc Tryz.prog W 0 (fun _=>true) true fn.params.toList args.toList ds p→Rows.uptoSmall H ds=true→Calls Tryz.prog f args W (Yes W)) :
  ReturnsInHanded {} Tryz.checked os f .any ((Rows.OpenSpec.upto s).pre6 enc Tryz.prog fn [] false) (((Rows.OpenSpec.upto s).at F).post enc Tryz.prog fn false true false false):=by
 refine returnsInHanded_of_cond (C:=Tryz.checked) (s:=Rows.OpenSpec.upto s) (k:=Rows.uptoSmall) rfl own started noInit hfn witness ?_
 intro W base args ds gs before hval hW _ hk _
 have hW:DataW.Whole enc Tryz.prog fn.params.toList s.vars false W args.toList ds gs before:=hW
 have hW':=hW
 obtain ⟨p,q,hA,hV,rfl,hfz,hnd⟩:=hW
 have hA':DataW.TrodAll enc Tryz.prog W 0 (fun _=>true) true fn.params.toList args.toList ds p:=hA
 obtain ⟨rfl,rfl⟩:gs = []∧q = []:=by
  rw [hvars] at hV
  exact trodVars_none hV
 rw [List.append_nil] at hk
 refine (walk W base args ds p hval hA' hk).mono fun e W' ⟨he,hb⟩ => ?_
 subst he
 have hlen:ds.length=fn.params.toList.length:=Wx hA'
 have hfn':s.fn H (ds ++ []) = { results := [.lit (.bool true)],args:=ds }:=by rw [List.append_nil]; exact hs H ds hlen
 have hlt:∀ x∈p,x.block<W.heap.size:=fun x hx=>hW'.lt x (by simpa using hx)
 have hp:s.post enc Tryz.prog fn false true false false W args (.bool true) W':=by
  refine V3 (pa:=p) (pv := []) hW' (fun b sp hd => ?_) (fun sp hsp => ?_) (fun sp _ => ?_) (by simp) hb ?_
  ·rw [hfn',hres]
   exact trodAll_cons_mk (shut_bool Tryz.underlying4 _) trodAll_mk0
  ·rw [hfn']
   exact X5 laidOut hb hts hA' hlt (fun x hx=>hsp x (by simpa using hx))
  ·rw [hvars,hfn']
   rfl
  ·exact ok_one hres rfl (okWide_bool_mk Tryz.underlying4 _)
 exact ⟨_,rfl,hp⟩
end Go.Proofs.YtnconfggojpkcaaGreat
namespace Go.Proofs.YtnconfggojpkcaaGreat
open Go.RowKit AM
attribute [local simp] zQ qU jL zT zq zR zS zo jM zu qV Z8 Qm jC Ql yc ZE vZ slF qG Qo zK yx zA shares jh yt ze Qz QI qY ZF qZ qM vX zH yu Qe qL zD zG vU slV jE jG yE zU ZJ jB jF aMM aUn Qp vW jD zC jA qJ vV Qu vY vS Zw y9 qK Qs ZK zJ zI jH jR ZH eval zZ AM.valOf qm vO yR del SV.refers zY vQ jU shift ldV V.exact V.jg V.ofValue V.vP V.vL V.cells V.one Value.oneCell' ZI QY jV Q5 ZM ZC Qa Zy jl jI Qi ZL y8 yX Qr calm Qt Zn Qk feeds shrinks Qx looks isT Qf vK Qd putAt jT jc Zm sliceB isEq Qg zk qH zO zn qR zl zm qQ zP zi qP ZW Qw yB Zl QZ inO y7 Zi Mix.vT Mix.Qc QB QX qz qj qW zh qO ZV Qq yg yh ZG Zb yw yO Q8 jW V.fixed V.vC
attribute [local simp] vE je yL vH jQ vF vG jP yM vk jN V5 Ja yF QT Jb z0 JL VK Vo VU
theorem qe7 (a b:Int):PFn Tryz.prog 66 [.sc (.int .i64 a),.sc (.int .i64 b)] (.sc (.int .i64 (if a<b then a else b))):=by
 refine vwc (fn:=Tryz.f66) rfl (vwb ?_)
 simp only [Tryz.f66,ql]
 by_cases h:a<b
 ·simp [h]
 ·simp [h]
theorem qax (g:Gr):PFn Tryz.prog 75 [.agg g.cs] (.sc (.bool (KN g))):=by
 have hR:=yC g.box
 have hbe:=qeC g
 unfold Re.v Re.cs at hR
 unfold Gr.cs KN
 refine vwc (fn:=Tryz.f75) rfl ?_
 simp only [Tryz.f75,ql]
 refine AW.seq (vwb ?_)
 simp
 by_cases c0:0≤g.ops
 rotate_left
 ·have d0:g.ops<0:=by omega
  refine vwb ?_
  simp [c0,d0]
 have d0:¬ (g.ops<0):=by omega
 by_cases c1:g.ops≤31
 rotate_left
 ·have d1:31<g.ops:=by omega
  refine vwb ?_
  simp [c0,d0,c1,d1]
 have d1:¬ (31<g.ops):=by omega
 by_cases c2:0≤g.zoom
 rotate_left
 ·have d2:g.zoom<0:=by omega
  refine vwb ?_
  simp [c0,d0,c1,d1,c2,d2]
 have d2:¬ (g.zoom<0):=by omega
 by_cases c3:g.zoom≤16
 rotate_left
 ·have d3:16<g.zoom:=by omega
  refine vwb ?_
  simp [c0,d0,c1,d1,c2,d2,c3,d3]
 have d3:¬ (16<g.zoom):=by omega
 by_cases c4:0≤g.til
 rotate_left
 ·have d4:g.til<0:=by omega
  refine vwb ?_
  simp [c0,d0,c1,d1,c2,d2,c3,d3,c4,d4]
 have d4:¬ (g.til<0):=by omega
 by_cases c5:g.til≤4294967295
 rotate_left
 ·have d5:4294967295<g.til:=by omega
  refine vwb ?_
  simp [c0,d0,c1,d1,c2,d2,c3,d3,c4,d4,c5,d5]
 have d5:¬ (4294967295<g.til):=by omega
 refine AW.seq (vwb ?_)
 simp [c0,d0,c1,d1,c2,d2,c3,d3,c4,d4,c5,d5]
 cases hv:g.void with
 | true =>
  refine vwb ?_
  simp [hv,qk4,hbe]
 | false =>
  refine vwb ?_
  simp [hv,qk4]
  refine qc.pure hR rfl rfl ?_
  simp
theorem qay (v:Vw):PFn Tryz.prog 25 [.agg v.cs] (.sc (.bool (yG v))):=by
 have hR:=qax v.g
 unfold Gr.cs at hR
 unfold Vw.cs yG
 refine vwc (fn:=Tryz.f25) rfl ?_
 simp only [Tryz.f25,ql]
 refine AW.seq (vwb ?_)
 simp
 by_cases c0:0≤v.ro
 rotate_left
 ·have d0:v.ro<0:=by omega
  refine vwb ?_
  simp [c0,d0]
 have d0:¬ (v.ro<0):=by omega
 by_cases c1:v.ro≤7
 rotate_left
 ·have d1:7<v.ro:=by omega
  refine vwb ?_
  simp [c0,d0,c1,d1]
 have d1:¬ (7<v.ro):=by omega
 by_cases c2:0≤v.ti
 rotate_left
 ·have d2:v.ti<0:=by omega
  refine vwb ?_
  simp [c0,d0,c1,d1,c2,d2]
 have d2:¬ (v.ti<0):=by omega
 by_cases c3:v.ti≤7
 rotate_left
 ·have d3:7<v.ti:=by omega
  refine vwb ?_
  simp [c0,d0,c1,d1,c2,d2,c3,d3]
 have d3:¬ (7<v.ti):=by omega
 refine vwb ?_
 simp [c0,d0,c1,d1,c2,d2,c3,d3]
 refine qc.pure hR rfl rfl ?_
 simp
theorem qcB (v:Vw) (id lv:Int) (b:Re):PFn Tryz.prog 70 [.agg v.cs,.sc (.int .i64 id),.sc (.int .i64 lv),b.v] (seW (QE v id lv b)):=by
 have hI:=qbK b v.g.box
 unfold QE
 unfold Vw.cs
 unfold Re.v Re.cs at hI ⊢
 refine vwc (fn:=Tryz.f70) rfl ?_
 simp only [Tryz.f70,ql]
 refine AW.seq (vwb ?_)
 simp
 by_cases h0:lv=0
 ·refine AW.seq (vwb ?_)
  simp [h0,setCells,qo,seW,qw,Se.cs]
 ·have h0':(lv==0)=false:=by simpa using h0
  cases hv:v.g.void with
  | true =>
   refine AW.seq (vwb ?_)
   simp [h0,h0',hv,setCells,qo,seW,qw,Se.cs]
  | false =>
   refine AW.seq (vwb ?_)
   simp [h0,h0',hv]
   refine qc.pure hI rfl rfl ?_
   cases hb:inB b v.g.box with
   | false =>
    simp [h0,h0',setCells,qo,seW,qw,Se.cs]
   | true =>
    simp [h0,h0']
    refine vwb ?_
    simp [setCells,qo,seW,Se.cs]
theorem jS.YI {l:List Ru} {t m i:Nat} {es:List (Value×V)} {H H1:List Bk} {K:Bk} (hT:Tab H t m l es) (h:jS l t m H H1) (hi:H.length≤i):jS l t m H (H1.set i K):=by
 obtain ⟨⟨es',h1,h2⟩,h3⟩:=h
 have ht:=(List.getElem?_eq_some_iff.1 hT.t).1
 have hm:=(List.getElem?_eq_some_iff.1 hT.m).1
 exact ⟨⟨es',⟨by rw [List.getElem?_set_ne (by omega)]; exact h1.t,by rw [List.getElem?_set_ne (by omega)]; exact h1.m⟩,h2⟩,fun j b hj hb hn=>by
  have hl:=(List.getElem?_eq_some_iff.1 hb).1
  rw [List.getElem?_set_ne (by omega)]
  exact h3 j b hj hb hn⟩
def jJ (s:Sh):Bk := .cells [.v (.sc (.int .i64 s.id)),.v (.sc (.int .i64 s.box.x0)),.v (.sc (.int .i64 s.box.y0)),.v (.sc (.int .i64 s.box.x1)),.v (.sc (.int .i64 s.box.y1)),.v (.sc (.int .i64 s.lab))]
def zmC (l:List Ru) (v:Vw) (x:Sh):Int:=Vi l v.ro v.ti x.lab x.box
def vJ (Z:Sh→Int) (v:Vw) (x:Sh):Option Se:=if yG v&&qd x.box then QE v x.id (lvl v (Z x)) (zW x.box (lvl v (Z x))).1 else none
theorem Ko {l:List Ru} (ha:l.all qI=true) {ro ti la:Int} {r:Re} (hr:qd r=true):(if (QU ro ti la&&qd r)=true then ofP (Vq l ro ti la) r else 0)=Vi l ro ti la r:=by
 cases e:QU ro ti la with
 | true =>
  rw [hr,if_pos (by rfl)]
  exact qbR ha hr
 | false =>
  rw [if_neg (by simp)]
  obtain ⟨_,x,y,_,h⟩:=Vz ha (ro:=ro) (ti:=ti) (la:=la) hr
  rw [← h,qaJ e]
theorem X9 {l:List Ru} (hl:Yk l) (v:Vw) (x:Sh) {t m:Nat} (r c:Nat) (es:List (Value×V)) (H:List Bk) (hT:Tab H t m l es) (hM:VO l es) :
  AFn Tryz.prog 22 [wdC r c t,.agg v.cs,x.v] H fun y H'=>y=seW (vJ (zmC l v) v x)∧jS l t m H H':=by
 have hRt:=qaF v
 have hF:=Jc x.box
 have hZ:=fun H' es' hT' hM'=>gOf l v.ro v.ti x.lab x.box hl.len hl.n t m es' H' hT' hM'
 have hLv:=fun z=>qbk v z
 have hSh:=fun lv b=>qcl v x.id lv b
 unfold vJ zmC
 unfold Vw.cs at hRt hLv hSh ⊢
 unfold Re.v Re.cs at hF hZ hSh
 unfold wdC
 unfold Sh.v Sh.cs
 have hzz:qd x.box=true→(if (QU v.ro v.ti x.lab&&qd x.box)=true then ofP (Vq l v.ro v.ti x.lab) x.box else 0)=Vi l v.ro v.ti x.lab x.box:=Ko hl.all
 generalize (if (QU v.ro v.ti x.lab&&qd x.box)=true then ofP (Vq l v.ro v.ti x.lab) x.box else 0)=zz at *
 refine vwc (fn:=Tryz.f22) rfl ?_
 simp only [Tryz.f22,ql]
 refine AW.seq (vwa [(3,12,[4,3,5])] ?_)
 simp
 have hk1:vI m H (H ++ [wdB r c t,vwB v,jJ x,seB qw]) := .app
 have g0:(H ++ [wdB r c t,vwB v,jJ x,seB qw])[H.length]? = some (wdB r c t):=by simp
 have g1:(H ++ [wdB r c t,vwB v,jJ x,seB qw])[H.length+1]? = some (vwB v):=by simp
 have g2:(H ++ [wdB r c t,vwB v,jJ x,seB qw])[H.length+2]? = some (jJ x):=by simp
 have g3:(H ++ [wdB r c t,vwB v,jJ x,seB qw])[H.length+3]? = some (seB qw):=by simp
 have hT1:Tab (H ++ [wdB r c t,vwB v,jJ x,seB qw]) t m l es:=hT.stays .app
 have hml:=(List.getElem?_eq_some_iff.1 hT.m).1
 change AW _ _ _ _ ⟨_,H ++ [wdB r c t,vwB v,jJ x,seB qw]⟩
 generalize H ++ [wdB r c t,vwB v,jJ x,seB qw]=H1 at *
 have d0:H.length≠m:=by omega
 have d1:H.length+1≠m:=by omega
 have d2:H.length+2≠m:=by omega
 have d3:H.length+3≠m:=by omega
 have hil:H.length≤H.length+3:=by omega
 generalize H.length+1=i1 at *
 generalize H.length+2=i2 at *
 generalize H.length+3=i3 at *
 generalize hi0:H.length=i0 at *
 have hi3:i3<H1.length:=(List.getElem?_eq_some_iff.1 g3).1
 have hst:∀ {H2},H2[i3]? = some (seB qw)→∀ a b c d e f,setCells H2 i3 0 [a,b,c,d,e,f]=H2.set i3 (.cells [.v a,.v b,.v c,.v d,.v e,.v f]):=fun h a b c d e f=>by
  unfold seB at h
  rw [setCells_eq h (by simp)]
  rfl
 have g1':=g1
 have g2':=g2
 unfold vwB at g1'
 unfold jJ at g2'
 have hend:∀ K,jS l t m H (H1.set i3 K):=fun K=>jS.YI hT ⟨⟨es,hT1,hM⟩,hk1⟩ (by omega)
 have hgs:∀ K,(H1.set i3 K)[i3]? = some K:=fun K=>List.getElem?_set_self hi3
 refine AW.seq (vwa [(3,12,[4,3,5])] ?_)
 simp [g1',g2']
 refine qc.pure hRt rfl rfl ?_
 cases hr:yG v with
 | false =>
  have g3':=g3
  unfold seB at g3'
  simp [g1',g2',g3',hst g3,hgs]
  exact ⟨by simp [seW,Se.cs,qw],hend _⟩
 | true =>
  simp [g1',g2']
  refine qc.pure hF rfl rfl ?_
  cases hf:qd x.box with
  | false =>
   have g3':=g3
   unfold seB at g3'
   simp [g1',g2',g3',hst g3,hgs]
   exact ⟨by simp [seW,Se.cs,qw],hend _⟩
  | true =>
   rw [hzz hf] at hZ
   clear hzz
   generalize Vi l v.ro v.ti x.lab x.box=zz at *
   have g0':=g0
   unfold wdB at g0'
   simp [g1',g2']
   refine AW.seq (vwa [(3,12,[4,3,5])] ?_)
   simp [g0',g1',g2']
   refine qc.of (hZ _ _ hT1 hM) ?_
   rintro y H2 ⟨rfl,hK2⟩
   have kp2:=eq_true (hK2.w.Va hT1)
   simp [g0',g1',g2',kp2]
   refine qc.pure (hLv zz) rfl rfl ?_
   simp [g0',g1',g2',kp2]
   generalize lvl v zz=lv at *
   have c1:=hK2.2.cells d1 g1
   have c2:=hK2.2.cells d2 g2
   have c3:=hK2.2.cells d3 g3
   have hK2:=jS.trans hk1 hK2
   have hB:=qdE x.box lv
   generalize zW x.box lv=bx at *
   obtain ⟨bx,bok⟩:=bx
   simp only at hB ⊢
   have hSh:=hSh lv bx
   generalize QE v x.id lv bx=sv at *
   unfold Re.v Re.cs at hB
   rw [Jf] at hSh ⊢
   clear hT1 hM hZ hend hgs hi3 g0 g1 g2 g3 g0' g1' g2' kp2
   have c1':=c1
   have c2':=c2
   unfold vwB at c1'
   unfold jJ at c2'
   refine AW.seq (vwa [(3,12,[4,3,5])] ?_)
   simp [c2']
   refine qc.pure hB rfl rfl ?_
   simp
   rw [qp rfl]
   have hpr:Bk.cells ([V.sc (.int .i64 bx.x0),V.sc (.int .i64 bx.y0),V.sc (.int .i64 bx.x1),V.sc (.int .i64 bx.y1)].map SV.v)=reB bx:=rfl
   rw [hpr]
   have f1:=hget (L := [reB bx]) c1
   have f2:=hget (L := [reB bx]) c2
   have f3:=hget (L := [reB bx]) c3
   have f4:(H2 ++ [reB bx])[H2.length]? = some (reB bx):=by simp
   have hK4:=hK2.app (L := [reB bx])
   clear c1 c2 c3 hK2
   generalize H2 ++ [reB bx]=H4 at *
   generalize H2.length=i5 at *
   have hi3':i3<H4.length:=(List.getElem?_eq_some_iff.1 f3).1
   have hgs':∀ K,(H4.set i3 K)[i3]? = some K:=fun K=>List.getElem?_set_self hi3'
   have f3':=f3
   try unfold vwB at f1
   try unfold jJ at f2
   try unfold seB at f3'
   try unfold reB at f4
   refine AW.seq (vwa [(3,12,[4,3,5])] ?_)
   simp [f1,f2,f4]
   refine qc.pure hSh rfl rfl ?_
   simp [f3',hst f3]
   refine vwa [(3,12,[4,3,5])] ?_
   simp [hgs']
   exact jS.YI hT hK4 (by omega)
theorem Q9 (zs:List Se):(QA zs).closed=true:=zV (enc:=Se.cs) (fun _=>rfl) zs
theorem KE (v:Vw) (z:Int):(if z<v.g.zoom then z else v.g.zoom)=lvl v z:=by
 unfold lvl
 split <;> split <;> omega
theorem qnI {l:List Ru} (hl:l.length≤9223372036854775807) (hb:∀ r∈l,r.boxes.length≤9223372036854775807) (v:Vw) (x:Pr):PFn Tryz.prog 21 [slU l,.agg v.cs,x.v] (seW (Zq (zmP l v) v x)):=by
 have hRt:=qay v
 have hF:=VF x.at_
 have hZ:=qaE l v.ro v.ti x.lab x.at_ hl hb
 have hLe:=fun z=>qe7 z v.g.zoom
 simp only [KE] at hLe
 have hSh:=fun lv b=>qcB v x.id lv b
 have hcl:=yT l
 unfold Zq zmP
 unfold slU at hZ hcl ⊢
 unfold Vw.cs at hRt hSh ⊢
 unfold Pt.v Pt.cs at hF hZ
 unfold Re.v Re.cs at hSh
 unfold Pr.v Pr.cs
 generalize vN l v.ro v.ti x.lab x.at_=zz at *
 have hLe:=hLe zz
 refine vwc (fn:=Tryz.f21) rfl ?_
 simp only [Tryz.f21,ql]
 refine AW.seq (vwa [(3,13,[0,4,5])] ?_)
 simp
 refine AW.seq (vwa [(3,13,[0,4,5])] ?_)
 simp
 refine qc.pure hRt rfl rfl ?_
 cases hr:yG v with
 | false =>
  simp [setCells,qo]
  simp [seW,Se.cs,qw]
 | true =>
  simp
  refine qc.pure hF rfl rfl ?_
  cases hf:fits x.at_ with
  | false =>
   simp [setCells,qo]
   simp [seW,Se.cs,qw]
  | true =>
   simp
   generalize hlv:lvl v zz=lv at *
   have hO:=qid x.at_ lv
   have hB:=fun c=>qfo c
   generalize ofR x.at_ lv=oc at *
   obtain ⟨oc,ok⟩:=oc
   simp only at hO ⊢
   have hB:=hB oc
   generalize JD oc=bx at *
   obtain ⟨bx,bok⟩:=bx
   simp only at hB ⊢
   have hSh:=hSh lv bx
   generalize QE v x.id lv bx=sv at *
   unfold Pt.v Pt.cs Ce.v Ce.cs at hO
   unfold Ce.v Ce.cs Re.v Re.cs at hB
   rw [Jf] at hSh ⊢
   refine AW.seq (vwa [(3,13,[0,4,5])] ?_)
   simp
   refine qc.pure hZ (by simpa [V.qA,V.closed] using hcl) rfl ?_
   simp
   refine qc.pure hLe rfl rfl ?_
   simp
   refine AW.seq (vwa [(3,13,[0,4,5])] ?_)
   simp
   refine qc.pure hO rfl rfl ?_
   simp [setCells,qo]
   refine AW.seq (vwa [(3,13,[0,4,5])] ?_)
   simp
   refine qc.pure hB rfl rfl ?_
   simp [setCells,qo]
   refine AW.seq (vwa [(3,13,[0,4,5])] ?_)
   simp
   refine qc.pure hSh rfl rfl ?_
   simp [setCells,qo]
   refine vwa [(3,13,[0,4,5])] ?_
   simp
theorem qmq {l:List Ru} (hl:l.length≤1000) (hn:(qg l).length≤1000) (hbr:∀ b∈qg l,qd b=true) (v:Vw) (x:Sh):PFn Tryz.prog 23 [slU l,.agg v.cs,x.v] (seW (vJ (zmC l v) v x)):=by
 have hRt:=qay v
 have hF:=yC x.box
 have hZ:=qic l v.ro v.ti x.lab x.box hl hn hbr
 have hLe:=fun z=>qe7 z v.g.zoom
 simp only [KE] at hLe
 have hSh:=fun lv b=>qcB v x.id lv b
 have hcl:=yT l
 unfold vJ zmC
 unfold slU at hZ hcl ⊢
 unfold Vw.cs at hRt hSh ⊢
 unfold Re.v Re.cs at hF hZ hSh
 unfold Sh.v Sh.cs
 generalize Vi l v.ro v.ti x.lab x.box=zz at *
 have hLe:=hLe zz
 refine vwc (fn:=Tryz.f23) rfl ?_
 simp only [Tryz.f23,ql]
 refine AW.seq (vwa [(3,13,[0,4,5])] ?_)
 simp
 refine AW.seq (vwa [(3,13,[0,4,5])] ?_)
 simp
 refine qc.pure hRt rfl rfl ?_
 cases hr:yG v with
 | false =>
  simp [setCells,qo]
  simp [seW,Se.cs,qw]
 | true =>
  simp
  refine qc.pure hF rfl rfl ?_
  cases hf:qd x.box with
  | false =>
   simp [setCells,qo]
   simp [seW,Se.cs,qw]
  | true =>
   have hZ:=hZ hf
   simp
   generalize hlv:lvl v zz=lv at *
   have hB:=qfM x.box lv
   generalize zW x.box lv=bx at *
   obtain ⟨bx,bok⟩:=bx
   simp only at hB ⊢
   have hSh:=hSh lv bx
   generalize QE v x.id lv bx=sv at *
   unfold Re.v Re.cs at hB
   rw [Jf] at hSh ⊢
   refine AW.seq (vwa [(3,13,[0,4,5])] ?_)
   simp
   refine qc.pure hZ (by simpa [V.qA,V.closed] using hcl) rfl ?_
   simp
   refine qc.pure hLe rfl rfl ?_
   simp
   refine AW.seq (vwa [(3,13,[0,4,5])] ?_)
   simp
   refine qc.pure hB rfl rfl ?_
   simp [setCells,qo]
   refine AW.seq (vwa [(3,13,[0,4,5])] ?_)
   simp
   refine qc.pure hSh rfl rfl ?_
   simp [setCells,qo]
   refine vwa [(3,13,[0,4,5])] ?_
   simp
def RcI (l:List Ru) (v:Vw) (xs:List Pr) (k:Nat) (F:Fr) (H:List Bk):Prop:=∃ L,H=vwB v::L∧F = [(0,.v (slU l)),(2,.v (lV xs)),(4,.v (.ptr 0 0)),(7,Qy (Je l v (xs.take k))),(8,.v (.sc (.int .i64 k)))]
def RcM (l:List Ru) (v:Vw) (xs:List Pr) (k:Nat) (o:Option Se) (F:Fr) (H:List Bk):Prop:=∃ L z,H=vwB v::L∧H[z]? = some (seB (o.getD qw))∧F = [(0,.v (slU l)),(2,.v (lV xs)),(4,.v (.ptr 0 0)),(7,Qy (Je l v (xs.take k))),(8,.v (.sc (.int .i64 k))),(9,.v (.ptr z 0)),(10,.v (.sc (.bool o.isSome)))]
theorem YZ (l:List Ru) (v:Vw) (xs:List Pr):(Je l v xs).length≤xs.length:=List.length_filterMap_le _ _
theorem qdb (l:List Ru) (v:Vw) (xs:List Pr) (x:Pr):Je l v (xs ++ [x])=Je l v xs++(match Zq (zmP l v) v x with | some s => [s] | none => []):=by
 unfold Je
 rw [List.filterMap_append]
 cases h:Zq (zmP l v) v x <;> simp [h]
theorem qdc {l:List Ru} (hl:l.length≤9223372036854775807) (hb:∀ r∈l,r.boxes.length≤9223372036854775807) (v:Vw) (xs:List Pr) (hx:xs.length≤1000000):PFn Tryz.prog 16 [slU l,.agg v.cs,lV xs] (QA (Je l v xs)):=by
 have hS:=fun x=>qnI hl hb v x
 have hcl:=yT l
 unfold Vw.cs at hS ⊢
 refine vwc (fn:=Tryz.f16) rfl ?_
 simp only [Tryz.f16,ql]
 refine AW.seq (vwb ?_)
 simp [lV,slU]
 refine AW.seq (vwb ?_)
 simp
 refine AW.seq (AW.seq (vwb ?_))
 simp
 refine AW.block (AW.count xs.length (RcI l v xs) ⟨_,?_,[],by simp [vwB],rfl⟩ ?_)
 ·simp [qz,qj,qm,lV,slU,Qy,qW,Je]
 rintro k F H hk ⟨L,rfl,rfl⟩
 refine AW.seq (vwb ?_)
 by_cases hlt:k<xs.length
 ·have w1:IntKind.i64.wrap ((k:Int)+1)=(k:Int)+1:=by rw [wrap_i64] <;> omega
  have htk:xs.take (k+1)=xs.take k ++ [xs[k]]:=List.take_succ_eq_append_getElem hlt
  have hd:=qdb l v (xs.take k) xs[k]
  rw [← htk] at hd
  have hSk:=hS xs[k]
  have hdl:=YZ l v (xs.take k)
  rw [List.length_take] at hdl
  generalize Zq (zmP l v) v xs[k]=o at *
  rw [Jf] at hSk
  unfold Pr.v Pr.cs at hSk
  unfold slU at hSk hcl
  simp [lV,slU,Qy,hlt]
  refine AW.seq (AW.block ?_)
  refine AW.mid (RcM l v xs k o) (AW.off [] [(5,10,12,[0,4,2,8])] mixed (by kernel_rfl) ?_) ?_
  ·unfold vwB
   have hp:∀ x y:Bk,(x::(L ++ [y]))[L.length+1]? = some y:=fun x y=>by simp
   have k3:∀ x y:Bk,Xi (x::L) (x::(L ++ [y]))=True:=fun x y=>by
    have:=Z4 (H:=x::L) (L := [y])
    simpa using this
   have k4:∀ (x:Bk) (z0 z1 z2 z3 z4 z5:SV) (a b c d e f:V),setCells (x::(L ++ [.cells [z0,z1,z2,z3,z4,z5]])) (L.length+1) 0 [a,b,c,d,e,f]=x::(L ++ [.cells [.v a,.v b,.v c,.v d,.v e,.v f]]):=fun x z0 z1 z2 z3 z4 z5 a b c d e f=>by
    simp [setCells,qo]
   simp [jq,zx,jX,jw,zN,jr,jv,zM,jY,flK,yK,zL,zw,QC,lV,slU,hlt,J4,k3]
   refine ⟨qc.pure hSk (by simpa [V.qA,V.closed] using hcl) rfl ?_,qc.pure hSk (by simpa [V.qA,V.closed] using hcl) rfl ?_⟩
   all_goals
    simp [jq,zx,jX,jw,zN,jr,jv,zM,jY,flK,yK,zL,zw,QC,lV,slU,hlt,J4,hp,k3,k4]
    refine ⟨_,?_,_,L.length+1,rfl,by simp [seB],rfl⟩
    simp [qz,qj,qm,lV,slU,Qy]
  ·rintro F1 H1 ⟨L1,z,rfl,hz,rfl⟩
   refine vwb ?_
   unfold lV slU Qy
   generalize Je l v (xs.take k)=zs at *
   unfold seB at hz
   cases o with
   | none =>
    simp only [List.append_nil] at hd
    simp
    refine vwb ?_
    simp [w1]
    refine ⟨_,?_,L1,rfl,rfl⟩
    rw [hd]
    simp [qz,qj,qm,lV,slU,Qy]
   | some s =>
    simp only at hd
    have hz':=hz
    simp only [Option.getD_some] at hz'
    simp [hz']
    refine ⟨by omega,?_⟩
    refine vwb ?_
    simp [w1]
    refine ⟨_,?_,L1,rfl,rfl⟩
    rw [hd]
    simp [qz,qj,qm,lV,slU,Qy,Se.cs]
 ·have hk':k=xs.length:=by omega
  subst hk'
  simp [lV,slU,Qy]
  refine vwb ?_
  simp
  rfl
theorem qnD {xs:List Se} {a k:Nat} (hk:k<xs.length):(xs.take (k+1)).eraseIdx a=if k=a then (xs.take k).eraseIdx a else (xs.take k).eraseIdx a ++ [xs[k]]:=by
 have hl:(xs.take k).length=k:=by rw [List.length_take]; omega
 rw [qff hk]
 generalize xs.take k=t at *
 generalize xs[k]=x at *
 by_cases h:k=a
 ·rw [if_pos h,List.eraseIdx_append_of_length_le (by omega),hl,← h,Nat.sub_self,List.eraseIdx_of_length_le (l:=t) (by omega)]
  simp
 ·rw [if_neg h]
  by_cases h2:a<k
  ·rw [List.eraseIdx_append_of_lt_length (by omega)]
  ·rw [List.eraseIdx_of_length_le (l:=t ++ [x]) (by simp; omega),List.eraseIdx_of_length_le (l:=t) (by omega)]
theorem qiM:∀ {xs:List Se} {a:Nat} (h:a<xs.length),xs.Perm (xs[a]::xs.eraseIdx a)
 | x::xs,0,_ => .refl _
 | x::xs,a+1,h=>by
  have ih:=qiM (xs:=xs) (a:=a) (by simpa using h)
  exact (ih.cons x).trans (List.Perm.swap _ _ _)
def DnO (q:Nat) (p:Pt) (n:Int) (K:List Se) (H0:List Bk) (z:Nat) (F:Fr) (H:List Bk):Prop :=
 ∃ (out left:List Se),z=left.length∧H=H0∧left.Pairwise (fun a b=>a.id<b.id)∧(out++left).Perm K∧out.map (Jz p)++sort (left.map (Jz p))=sort (K.map (Jz p))∧(out.length:Int)≤max n 0 ∧
  F = [(2,.v (.sc (.int .i64 n))),(4,.v (.ptr q 0)),(7,Qy out),(8,.v (QA left))]
def DnN (q:Nat) (p:Pt) (n:Int) (out left:List Se) (H0:List Bk) (i:Nat) (F:Fr) (H:List Bk):Prop :=
 ∃ (at':Nat) (h:at'<left.length),H=H0∧at'<i+1∧(∀ j (hj:j<left.length),j<i+1→(Jz p left[j]).lt (Jz p left[at'])=false) ∧
  F = [(2,.v (.sc (.int .i64 n))),(4,.v (.ptr q 0)),(7,Qy out),(8,.v (QA left)),(9,.v (.sc (.int .i64 at'))),(10,.v (.sc (.int .i64 (i+1:Nat))))]
def DnR (q:Nat) (n:Int) (out left:List Se) (a:Nat) (H0:List Bk) (k:Nat) (F:Fr) (H:List Bk):Prop :=
 H=H0∧F = [(2,.v (.sc (.int .i64 n))),(4,.v (.ptr q 0)),(7,Qy out),(8,.v (QA left)),(9,.v (.sc (.int .i64 a))),(11,Qy ((left.take k).eraseIdx a)),(12,.v (.sc (.int .i64 k)))]
theorem dNear (K:List Se) (hK:K.length≤1000) (hid:K.Pairwise fun a b=>a.id<b.id) (p:Pt) (n:Int) (H:List Bk):AFn Tryz.prog 34 [QA K,p.v,.sc (.int .i64 n)] H fun y H'=>∃ R,y=QA R∧qkr K p n.toNat R∧H'=H ++ [ptB p]:=by
 unfold Pt.v Pt.cs
 unfold QA
 refine vwc (fn:=Tryz.f34) rfl ?_
 simp only [Tryz.f34,ql]
 refine AW.seq (vwa [(8,13,[8,10,4,9])] ?_)
 simp
 refine AW.seq (vwa [(8,13,[8,10,4,9])] ?_)
 simp
 refine AW.seq (vwa [(8,13,[8,10,4,9])] ?_)
 simp
 have hq:(H ++ [ptB p])[H.length]? = some (ptB p):=by simp
 unfold ptB at hq ⊢
 generalize H ++ [Bk.cells [.v (.sc (.int .i64 p.x)),.v (.sc (.int .i64 p.y))]]=H0 at *
 generalize H.length=q at *
 refine AW.seq (AW.block (AW.qaZ (DnO q p n K H0) ⟨K.length,_,?_,[],K,rfl,rfl,hid,.refl _,rfl,by simp; omega,rfl⟩ ?_))
 ·simp [qz,qj,qm,qW,Qy,QA]
 rintro z F H1 ⟨out,left,rfl,rfl,s0,s1,s2,s3,rfl⟩
 have hlen:=s1.length_eq
 rw [List.length_append] at hlen
 have hout:∀ s∈out,s∈K:=fun s hs=>s1.mem_iff.1 (List.mem_append_left _ hs)
 unfold Qy QA
 by_cases h0:left.length=0
 ·have hl0:left = []:=List.length_eq_zero_iff.1 h0
  subst hl0
  refine AW.seq (AW.seq (vwa [(8,13,[8,10,4,9])] ?_))
  simp
  refine vwa [(8,13,[8,10,4,9])] ?_
  simp
  refine vwa [(8,13,[8,10,4,9])] ?_
  simp
  refine ⟨out,⟨rfl,rfl⟩,?_,hout⟩
  have e1:sort ([]:List Ent) = []:=rfl
  rw [List.map_nil,e1,List.append_nil] at s2
  rw [← s2,List.take_of_length_le]
  rw [List.length_map]
  omega
 ·have hpos:0<left.length:=by omega
  by_cases hlt:(out.length:Int)<n
  rotate_left
  ·refine AW.seq (AW.seq (vwa [(8,13,[8,10,4,9])] ?_))
   simp [hpos,hlt]
   refine vwa [(8,13,[8,10,4,9])] ?_
   simp
   refine vwa [(8,13,[8,10,4,9])] ?_
   simp
   refine ⟨out,⟨rfl,rfl⟩,?_,hout⟩
   have hol:n.toNat=(out.map (Jz p)).length:=by
    rw [List.length_map]
    omega
   rw [← s2,hol,List.take_left]
  refine AW.seq (AW.seq (vwa [(8,13,[8,10,4,9])] ?_))
  simp [hpos,hlt]
  refine vwa [(8,13,[8,10,4,9])] ?_
  simp
  refine AW.block (AW.seq (vwa [(8,13,[8,10,4,9])] ?_))
  simp
  refine AW.mid (DnN q p n out left H1 (left.length - 1)) (AW.seq (vwa [(8,13,[8,10,4,9])] ?_)) ?_
  ·simp
   refine AW.block (AW.count (left.length - 1) (DnN q p n out left H1) ⟨_,?_,0,hpos,rfl,by omega,fun j hj h => ?_,rfl⟩ ?_)
   ·simp [qz,qj,qm,Qy,QA]
   ·obtain rfl:j=0:=by omega
    exact Ent.lt_irrefl _
   rintro i F H2 hi ⟨a,ha,rfl,hai,hmin,rfl⟩
   unfold Qy QA
   by_cases hil:i<left.length - 1
   ·have hi1:i+1<left.length:=by omega
    have w1:IntKind.i64.wrap (((i+1:Nat):Int)+1)=((i+1+1:Nat):Int):=by rw [wrap_i64] <;> omega
    have r1:=qbI hi1
    have r2:=qbI ha
    have fa:=qof left[i+1].box p
    have fb:=qof left[a].box p
    unfold Re.v Re.cs Pt.v Pt.cs at fa fb
    have hids:left[a].id<left[i+1].id:=List.pairwise_iff_getElem.1 s0 a (i+1) ha hi1 (by omega)
    generalize hz:i+1=i1 at *
    refine AW.seq (AW.seq (vwa [(8,13,[8,10,4,9])] ?_))
    simp [hi1]
    have hnew:∀ a',(h':a'<left.length)→(∀ j (hj:j<left.length),j<i1→(Jz p left[j]).lt (Jz p left[a'])=false)→(Jz p left[i1]).lt (Jz p left[a'])=false→∀ j (hj:j<left.length),j<i1+1→(Jz p left[j]).lt (Jz p left[a'])=false:=by
     intro a' h' k1 k2 j hj hlt
     by_cases e:j=i1
     ·subst e
      exact k2
     ·exact k1 j hj (by omega)
    refine vwa [(8,13,[8,10,4,9])] ?_
    simp
    refine AW.seq (AW.block (AW.seq (vwa [(8,13,[8,10,4,9])] ?_)))
    simp [hi1,ha,r1,r2,hq]
    refine qc.pure fa rfl rfl ?_
    simp [hi1,ha,r1,r2,hq]
    refine qc.pure fb rfl rfl ?_
    simp [hi1,ha,r1,r2,hq]
    by_cases c1:Zu left[i1].box p<Zu left[a].box p
    ·have hlt:(Jz p left[i1]).lt (Jz p left[a])=true:=by
      rw [Ent.lt_iff]
      exact .inl c1
     simp [c1]
     refine vwa [(8,13,[8,10,4,9])] ?_
     simp
     refine vwa [(8,13,[8,10,4,9])] ?_
     simp [w1]
     refine ⟨hil,_,?_,i1,hi1,rfl,by omega,hnew i1 hi1 (fun j hj hji => ?_) (Ent.lt_irrefl _),rfl⟩
     ·simp [qz,qj,qm,Qy,QA]
     ·exact Ent.le_trans (Ent.lt_asymm hlt) (hmin j hj hji)
    ·have hlt:(Jz p left[i1]).lt (Jz p left[a])=false:=by
      rw [Ent.WL]
      simp only [Jz]
      omega
     simp [c1]
     refine vwa [(8,13,[8,10,4,9])] ?_
     simp
     refine vwa [(8,13,[8,10,4,9])] ?_
     simp [w1]
     refine ⟨hil,_,?_,a,ha,rfl,by omega,hnew a ha hmin hlt,rfl⟩
     simp [qz,qj,qm,Qy,QA]
   ·have hie:i=left.length - 1:=by omega
    subst hie
    have hi1:¬ ((left.length - 1:Nat):Int)+1<left.length:=by omega
    refine AW.seq (AW.seq (vwa [(8,13,[8,10,4,9])] ?_))
    simp [hi1]
    refine vwa [(8,13,[8,10,4,9])] ?_
    simp
    refine ⟨_,?_,a,ha,rfl,hai,hmin,rfl⟩
    simp [qz,qj,qm,Qy,QA]
  ·rintro F H2 ⟨a,ha,rfl,hai,hmin,rfl⟩
   have r2:=qbI ha
   have hlp:=qiM ha
   have hll:=hlp.length_eq
   rw [List.length_cons] at hll
   have hall:∀ y∈(left.eraseIdx a).map (Jz p),y.lt (Jz p left[a])=false:=by
    intro y hy
    obtain ⟨t,ht,rfl⟩:=List.mem_map.1 hy
    have htl:t∈left:=(List.eraseIdx_sublist left a).subset ht
    obtain ⟨j,hj,rfl⟩:=List.getElem_of_mem htl
    exact hmin j hj (by omega)
   unfold Qy QA
   refine AW.seq (vwa [(8,13,[8,10,4,9])] ?_)
   simp [ha,r2]
   refine ⟨by omega,?_⟩
   refine AW.seq (vwa [(8,13,[8,10,4,9])] ?_)
   simp
   refine AW.mid (DnR q n (out ++ [left[a]]) left a H2 left.length) (AW.seq (vwa [(8,13,[8,10,4,9])] ?_)) ?_
   ·simp
    refine AW.block (AW.count left.length (DnR q n (out ++ [left[a]]) left a H2) ⟨_,?_,rfl,rfl⟩ ?_)
    ·simp [qz,qj,qm,Qy,QA,Se.cs,qW]
    rintro k F H3 hk ⟨rfl,rfl⟩
    unfold Qy QA
    have hel:((left.take k).eraseIdx a).length≤k:=by
     have:=(List.eraseIdx_sublist (left.take k) a).length_le
     rw [List.length_take] at this
     omega
    by_cases hkl:k<left.length
    ·have w1:IntKind.i64.wrap ((k:Int)+1)=(k:Int)+1:=by rw [wrap_i64] <;> omega
     have het:=qnD (a:=a) hkl
     refine AW.seq (AW.seq (vwa [(8,13,[8,10,4,9])] ?_))
     simp [hkl]
     refine vwa [(8,13,[8,10,4,9])] ?_
     simp
     refine AW.seq (AW.block (AW.seq (vwa [(8,13,[8,10,4,9])] ?_)))
     by_cases hka:k=a
     ·have hka':((k:Int)==a)=true:=by simp; omega
      have hka2:((k:Int) != a)=false:=by simp; omega
      rw [if_pos hka] at het
      simp [hka',hka2]
      refine vwa [(8,13,[8,10,4,9])] ?_
      simp
      refine vwa [(8,13,[8,10,4,9])] ?_
      simp [w1]
      refine ⟨_,?_,rfl,rfl⟩
      rw [het]
      simp [qz,qj,qm,Qy,QA]
     ·have hka':((k:Int)==a)=false:=by simp; omega
      have hka2:((k:Int) != a)=true:=by simp; omega
      rw [if_neg hka] at het
      simp [hka',hka2]
      refine vwa [(8,13,[8,10,4,9])] ?_
      simp [hkl,qbI hkl]
      refine ⟨⟨by omega,by omega⟩,?_⟩
      refine vwa [(8,13,[8,10,4,9])] ?_
      simp [w1]
      refine ⟨_,?_,rfl,rfl⟩
      rw [het]
      simp [qz,qj,qm,Qy,QA,Se.cs]
    ·have hkT:k=left.length:=by omega
     refine AW.seq (AW.seq (vwa [(8,13,[8,10,4,9])] ?_))
     simp [hkl]
     refine vwa [(8,13,[8,10,4,9])] ?_
     simp
     subst hkT
     refine ⟨_,?_,rfl,rfl⟩
     simp [qz,qj,qm,Qy,QA]
   ·rintro F H3 ⟨rfl,rfl⟩
    rw [List.take_length]
    unfold Qy QA
    refine vwa [(8,13,[8,10,4,9])] ?_
    simp
    refine ⟨(left.eraseIdx a).length,by omega,_,?_,out ++ [left[a]],left.eraseIdx a,rfl,rfl,s0.sublist (List.eraseIdx_sublist _ _),?_,?_,?_,rfl⟩
    ·simp [qz,qj,qm,Qy,QA]
    ·rw [List.append_assoc]
     exact (List.Perm.append_left out hlp.symm).trans s1
    ·have e1:sort (left.map (Jz p))=Jz p left[a]::sort ((left.eraseIdx a).map (Jz p)):=by
      rw [VW (hlp.map _)]
      exact qdV hall
     rw [e1] at s2
     rw [← s2,List.map_append,List.append_assoc]
     rfl
    ·rw [List.length_append,List.length_singleton]
     omega
end Go.Proofs.YtnconfggojpkcaaGreat
namespace Go.Proofs.YtnconfggojpkcaaGreat
open Go.RowKit AM
attribute [local simp] zQ qU jL zT zq zR zS zo jM zu qV Z8 Qm jC Ql yc ZE vZ slF qG Qo zK yx zA shares jh yt ze Qz QI qY ZF qZ qM vX zH yu Qe qL zD zG vU slV jE jG yE zU ZJ jB jF aMM aUn Qp vW jD zC jA qJ vV Qu vY vS Zw y9 qK Qs ZK zJ zI jH jR ZH eval zZ AM.valOf qm vO yR del SV.refers zY vQ jU shift ldV V.exact V.jg V.ofValue V.vP V.vL V.cells V.one Value.oneCell' ZI QY jV Q5 ZM ZC Qa Zy jl jI Qi ZL y8 yX Qr calm Qt Zn Qk feeds shrinks Qx looks isT Qf vK Qd putAt jT jc Zm sliceB isEq Qg zk qH zO zn qR zl zm qQ zP zi qP ZW Qw yB Zl QZ inO y7 Zi Mix.vT Mix.Qc QB QX qz qj qW zh qO ZV Qq yg yh ZG Zb yw yO Q8 jW V.fixed V.vC
def Q7 (zs:List Sh):SV := .own true 57 zs.length 6 (zs.flatMap Sh.cs)
theorem Y9 (zs:List Sh):V.closed (slS zs)=true:=by simp [slS,V.closed,zV (enc:=Sh.cs) (fun _=>rfl)]
theorem Vh {c:Ce}:∀ {S:List Sh},(∀ s∈S,QH c (hm s)=true)→(at' c S++(List.range 4).flatMap fun i:Nat=>sub' (qD c (i:Nat)) S).Perm S
 | [],_ => .nil
 | s::S,h=>by
  have ih:=Vh (S:=S) fun t ht=>h t (by simp [ht])
  have hu:=h s (by simp)
  rw [List.perm_iff_count] at ih ⊢
  intro x
  have ih:=ih x
  simp only [show List.range 4 = [0,1,2,3] from rfl,List.flatMap_cons,List.flatMap_nil,List.append_nil,List.count_append] at ih ⊢
  by_cases hs:hm s=c
  ·simp only [qaH,if_pos hs,Xz,Qh (i:=0) (by decide) hs,Qh (i:=1) (by decide) hs,Qh (i:=2) (by decide) hs,Qh (i:=3) (by decide) hs,Bool.false_eq_true,if_false,List.count_cons]
   omega
  ·obtain ⟨i,hi,hw⟩:=qeH c (hm s)
   have hc:∀ j:Nat,j<4→(QH (qD c (j:Nat)) (hm s)=true↔i=j):=fun j hj=>by
    rw [JK hj hu (Ne.symm hs),hw]
    omega
   have e:∀ j:Nat,j<4→List.count x (sub' (qD c (j:Nat)) (s::S))=List.count x (sub' (qD c (j:Nat)) S)+if i=j then (if s==x then 1 else 0) else 0:=fun j hj=>by
    rw [Xz]
    by_cases hij:i=j
    ·rw [if_pos ((hc j hj).2 hij),if_pos hij,List.count_cons]
    ·rw [if_neg (fun h=>hij ((hc j hj).1 h)),if_neg hij,Nat.add_zero]
   rw [qaH,if_neg hs,e 0 (by decide),e 1 (by decide),e 2 (by decide),e 3 (by decide),List.count_cons]
   generalize List.count x (sub' (qD c ((0:Nat):Int)) S)=c0 at ih ⊢
   generalize List.count x (sub' (qD c ((1:Nat):Int)) S)=c1 at ih ⊢
   generalize List.count x (sub' (qD c ((2:Nat):Int)) S)=c2 at ih ⊢
   generalize List.count x (sub' (qD c ((3:Nat):Int)) S)=c3 at ih ⊢
   generalize (if s==x then 1 else 0)=q at ih ⊢
   clear hc e
   rcases (show i=0∨i=1∨i=2∨i=3 by omega) with rfl | rfl | rfl | rfl <;> simp <;> omega
theorem KA {c:Ce} {S:List Sh} (h:∀ s∈S,QH c (hm s)=true):(at' c S).length+((List.range 4).flatMap fun i:Nat=>sub' (qD c (i:Nat)) S).length=S.length:=by
 rw [← (Vh h).length_eq,List.length_append]
theorem qew {l:List Sh}:∀ {i:Nat} {s:Sh},l[i]? = some s→(s::l.eraseIdx i).Perm l:=by
 induction l with
 | nil=>intro i s h; simp at h
 | cons a l ih =>
  intro i s h
  cases i with
  | zero =>
   simp at h
   subst h
   simp
  | succ i =>
   rw [List.getElem?_cons_succ] at h
   rw [List.eraseIdx_cons_succ]
   exact (List.Perm.swap a s _).trans ((ih h).cons a)
theorem TrS.perm {H:List Bk} {r:Nat} {S S':List Sh} {T:Nat→Prop} (h:TrS H r S T) (hp:S.Perm S'):TrS H r S' T:=by
 obtain ⟨b,m,I,es,h,hT⟩:=h
 exact ⟨b,m,I,es,⟨h.cr,h.cm,h.es.trans hp,h.nd.perm hp,h.rm,h.ir,h.im,((hp.map Sh.id).nodup_iff).1 h.ids,fun s hs=>h.right s (hp.mem_iff.2 hs),by rw [← hp.length_eq]; exact h.len⟩,hT⟩
theorem JO {α:Type} {xs:List α} {k:Nat} (h:k<xs.length):xs.take (k+1)=xs.take k ++ [xs[k]]:=List.take_succ_eq_append_getElem h
def FlI (xs:List Sh) (p:Sh→Bool) (G:Fr) (a b:Nat) (H0:List Bk) (k:Nat) (F:Fr) (H:List Bk):Prop:=(∃ L,H=H0++L)∧F=(0,.v (slS xs))::(a,Q7 ((xs.take k).filter p))::(b,.v (.sc (.int .i64 k)))::G
theorem qis {xs:List Sh} {p:Sh→Bool} {k:Nat} (h:k<xs.length):Q7 ((xs.take (k+1)).filter p)=if p xs[k]=true then .own true 57 (((xs.take k).filter p).length+1) 6 (((xs.take k).filter p).flatMap Sh.cs++xs[k].cs) else Q7 ((xs.take k).filter p):=by
 rw [JO h,List.filter_append]
 by_cases hp:p xs[k]=true
 ·rw [if_pos hp]
  simp [hp,Q7]
 ·rw [if_neg hp]
  simp [hp]
theorem qnx {xs:List Sh} {p:Sh→Bool} {k:Nat}:((xs.take k).filter p).length≤xs.length:=by
 have h1:=List.length_filter_le p (xs.take k)
 rw [List.length_take] at h1
 omega
theorem qfm (xs:List Sh) (i:Int) (hx:xs.length≤1000000):PFn Tryz.prog 133 [slS xs,.sc (.int .i64 i)] (slS (less xs i)):=by
 refine vwc (fn:=Tryz.f133) rfl (vwb ?_)
 simp only [Tryz.f133,ql]
 simp [slS]
 refine AW.count xs.length (FlI xs (fun t => !decide (t.id=i)) [(1,.v (.sc (.int .i64 i)))] 5 6 []) ⟨_,?_,⟨[],rfl⟩,rfl⟩ ?_
 ·simp [qz,qj,qm,slS,Q7,qW]
 rintro k F H hk ⟨⟨L,rfl⟩,rfl⟩
 have hle:=qnx (xs:=xs) (p:=fun t => !decide (t.id=i)) (k:=k)
 refine vwb ?_
 by_cases hlt:k<xs.length
 ·have w1:IntKind.i64.wrap ((k:Int)+1)=(k:Int)+1:=by rw [wrap_i64] <;> omega
  have ho:=qis (p:=fun t => !decide (t.id=i)) hlt
  generalize ((xs.take k).filter fun t => !decide (t.id=i))=zs at *
  by_cases he:xs[k].id=i
  ·have he2:(xs[k].id != i)=false:=by simpa using he
   rw [if_neg (by simp [he])] at ho
   simp [slS,Q7,hlt,Xo,he2,w1]
   refine ⟨_,?_,⟨_,rfl⟩,rfl⟩
   rw [ho]
   simp [qz,qj,qm,slS,Q7]
  ·have he2:(xs[k].id != i)=true:=by simpa using he
   rw [if_pos (by simp [he])] at ho
   simp [slS,Q7,hlt,Xo,he2,w1]
   refine ⟨by omega,_,?_,⟨_,rfl⟩,rfl⟩
   rw [ho]
   simp [qz,qj,qm,slS,Q7,Sh.cs]
 ·have hk':k=xs.length:=by omega
  subst hk'
  simp [slS,Q7,less]
theorem XH {s:Sh} {zs:List Sh} {k:Nat} (h:k<zs.length):piD s (zs.take (k+1))=piS s (piD s (zs.take k)) zs[k]:=by
 unfold piD
 rw [JO h,List.foldl_append]
 rfl
theorem qkT {s:Sh}:∀ zs:List Sh,(piD s zs).1.length≤zs.length+1∧((piD s zs).2=false→(piD s zs).1.length=zs.length):=by
 intro zs
 have go:∀ (n:Nat),n≤zs.length→(piD s (zs.take n)).1.length≤n+1∧((piD s (zs.take n)).2=false→(piD s (zs.take n)).1.length=n):=by
  intro n
  induction n with
  | zero=>intro _; simp [piD]
  | succ n ih =>
   intro hn
   have ih:=ih (by omega)
   rw [XH (by omega)]
   unfold piS
   cases hb:(piD s (zs.take n)).2 with
   | false =>
    have:=ih.2 hb
    split <;> simp <;> omega
   | true=>simp; omega
 have:=go zs.length (Nat.le_refl _)
 rwa [List.take_length] at this
def PdI (zs:List Sh) (s:Sh) (k:Nat) (F:Fr) (H:List Bk):Prop:=∃ L,H=shB s::L∧F = [(0,.v (slS zs)),(3,.v (.ptr 0 0)),(5,Q7 (piD s (zs.take k)).1),(6,.v (.sc (.bool (piD s (zs.take k)).2))),(7,.v (.sc (.int .i64 k)))]
theorem qne (xs:List Sh) (s:Sh) (hx:xs.length≤1000000):PFn Tryz.prog 80 [slS xs,s.v] (slS (y7 xs s)):=by
 have hW:=qfm xs s.id hx
 have hl:(less xs s.id).length≤1000000:=Nat.le_trans (List.length_filter_le _ _) hx
 unfold y7
 generalize less xs s.id=zs at *
 unfold Sh.v Sh.cs
 unfold slS at hW
 refine vwc (fn:=Tryz.f80) rfl ?_
 simp only [Tryz.f80,ql]
 refine AW.seq (vwb ?_)
 simp
 refine AW.seq (vwb ?_)
 simp
 refine AW.seq (vwb ?_)
 simp
 refine AW.seq (vwb ?_)
 simp [slS]
 refine qc.pure hW (by simp [V.qA,V.closed,zV (enc:=Sh.cs) (fun _=>rfl)]) (by simp [V.closed,zV (enc:=Sh.cs) (fun _=>rfl)]) ?_
 simp
 refine AW.seq (AW.seq (vwb ?_))
 simp
 refine AW.block ?_
 refine AW.count zs.length (PdI zs s) ⟨_,?_,[],by simp [shB],rfl⟩ ?_
 ·simp [qz,qj,qm,slS,Q7,qW,piD]
 rintro k F H hk ⟨L,rfl,rfl⟩
 have hpl:=qkT (s:=s) (zs.take k)
 rw [List.length_take,Nat.min_eq_left hk] at hpl
 unfold shB
 refine vwb ?_
 by_cases hlt:k<zs.length
 ·have w1:IntKind.i64.wrap ((k:Int)+1)=(k:Int)+1:=by rw [wrap_i64] <;> omega
  have hs:=XH (s:=s) hlt
  generalize piD s (zs.take k)=a at *
  obtain ⟨l,b⟩:=a
  unfold piS at hs
  simp only at hs hpl
  cases b with
  | true =>
   simp at hs
   simp [slS,Q7,hlt,Xo,w1]
   refine ⟨by omega,_,?_,_,rfl,rfl⟩
   rw [hs]
   simp [qz,qj,qm,slS,Q7,Sh.cs]
  | false =>
   by_cases he:s.id<zs[k].id
   ·simp [he] at hs
    simp [slS,Q7,hlt,Xo,w1,he]
    refine ⟨by omega,by omega,_,?_,_,rfl,rfl⟩
    rw [hs]
    simp [qz,qj,qm,slS,Q7,Sh.cs]
   ·simp [he] at hs
    simp [slS,Q7,hlt,Xo,w1,he]
    refine ⟨by omega,_,?_,_,rfl,rfl⟩
    rw [hs]
    simp [qz,qj,qm,slS,Q7,Sh.cs]
 ·have hk':k=zs.length:=by omega
  subst hk'
  rw [List.take_length]
  rw [List.take_length] at hpl
  generalize piD s zs=a at *
  obtain ⟨l,b⟩:=a
  simp [slS,Q7]
  cases b with
  | true =>
   refine vwb ?_
   simp [slS,Q7]
  | false =>
   refine vwb ?_
   simp [slS,Q7]
   simp at hpl
   exact ⟨by omega,rfl⟩
end Go.Proofs.YtnconfggojpkcaaGreat
namespace Go.Proofs.YtnconfggojpkcaaGreat
open Go.RowKit Go.ChangeShapes Go.WideShapes AM
section
variable {H:Type} {enc:TypeId×Value→H} {w:World} {base:Nat} {held:Bool} {r:Reach} {b0:Nat} {v:Value} {d:DataW H} {p:List MemPlace}
namespace Sh
end Sh
theorem XA:VT Tryz.prog 6 57=some [.int .i64,.int .i64,.int .i64,.int .i64,.int .i64,.int .i64]:=by kernel_rfl
theorem J7 {cs:List Value} (h:Leaf.all [.int .i64,.int .i64,.int .i64,.int .i64,.int .i64,.int .i64] cs):∃ x:Sh,x.vals=cs:=by
 obtain ⟨a,_,rfl,_,h⟩:=Leaf.vB h
 obtain ⟨b,_,rfl,_,h⟩:=Leaf.vB h
 obtain ⟨c,_,rfl,_,h⟩:=Leaf.vB h
 obtain ⟨e,_,rfl,_,h⟩:=Leaf.vB h
 obtain ⟨f,_,rfl,_,h⟩:=Leaf.vB h
 obtain ⟨g,_,rfl,_,h⟩:=Leaf.vB h
 obtain rfl:=Leaf.all_nil h
 exact ⟨⟨a,⟨b,c,e,f⟩,g⟩,rfl⟩
end
end Go.Proofs.YtnconfggojpkcaaGreat
namespace Go.Proofs.YtnconfggojpkcaaGreat
open Go.RowKit AM
attribute [local simp] zQ qU jL zT zq zR zS zo jM zu qV Z8 Qm jC Ql yc ZE vZ slF qG Qo zK yx zA shares jh yt ze Qz QI qY ZF qZ qM vX zH yu Qe qL zD zG vU slV jE jG yE zU ZJ jB jF aMM aUn Qp vW jD zC jA qJ vV Qu vY vS Zw y9 qK Qs ZK zJ zI jH jR ZH eval zZ AM.valOf qm vO yR del SV.refers zY vQ jU shift ldV V.exact V.jg V.ofValue V.vP V.vL V.cells V.one Value.oneCell' ZI QY jV Q5 ZM ZC Qa Zy jl jI Qi ZL y8 yX Qr calm Qt Zn Qk feeds shrinks Qx looks isT Qf vK Qd putAt jT jc Zm sliceB isEq Qg zk qH zO zn qR zl zm qQ zP zi qP ZW Qw yB Zl QZ inO y7 Zi Mix.vT Mix.Qc QB QX qz qj qW zh qO ZV Qq yg yh ZG Zb yw yO Q8 jW V.fixed V.vC
attribute [local simp] vE je yL vH jQ vF vG jP yM vk jN V5 Ja yF QT Jb z0 JL VK Vo VU
def ZB (l:List Ru) (r:List Pr) (s:Nat):Bool:=decide (l.length≤7∧(qg l).length≤10)&&decide (r.length≤30)&&decide (s≤12)
def FwI (l:List Ru) (r:List Pr) (n:Nat) (cs:List V) (k:Nat) (F:Fr) (H:List Bk):Prop:=(k≤7∧∀ j,j<k→(qg (l.take j)).length≤10)∧H = []∧F = [(0,.v (slU l)),(1,.v (lV r)),(2,.v (.sl n 6 cs)),(7,.v (.sc (.int .i64 (qg (l.take k)).length))),(8,.v (.sc (.int .i64 k)))]
theorem qgj (l:List Ru) (hb:∀ r∈l,r.boxes.length≤4398046511104) (r:List Pr) (n:Nat) (cs:List V):PFn Tryz.prog 12 [slU l,lV r,.sl n 6 cs] (.sc (.bool (ZB l r n))):=by
 refine vwc (fn:=Tryz.f12) rfl ?_
 simp only [Tryz.f12,ql]
 refine AW.seq (vwb ?_)
 simp [slU,lV]
 refine AW.seq (vwb ?_)
 simp
 refine AW.seq (AW.seq (vwb ?_))
 simp
 refine AW.block (AW.count l.length (FwI l r n cs) ⟨_,?_,⟨by omega,by omega⟩,rfl,rfl⟩ ?_)
 ·simp [qz,qj,qm,slU,lV,qg]
 rintro k F H hk ⟨⟨hk7,hpre⟩,rfl,rfl⟩
 have hle:=ZU l k
 refine vwb ?_
 by_cases hlt:k<l.length
 ·by_cases h6:6<k
  ·have h6':(6:Int)<k:=by omega
   have e:ZB l r n=false:=by
    unfold ZB
    rw [decide_eq_false (by omega)]
    rfl
   simp [slU,lV,hlt,h6',h6,e]
  ·have h6':¬ (6:Int)<k:=by omega
   by_cases h10:10<(qg (l.take k)).length
   ·have h10':(10:Int)<(qg (l.take k)).length:=by omega
    have e:ZB l r n=false:=by
     unfold ZB
     rw [decide_eq_false (by omega)]
     rfl
    generalize (qg (l.take k)).length=nn at *
    simp [slU,lV,hlt,h6',h6,h10,h10',e]
   ·have h10':¬ (10:Int)<(qg (l.take k)).length:=by omega
    have hrow:=qan hlt
    have hst:(qg (l.take (k+1))).length=(qg (l.take k)).length+l[k].boxes.length:=by rw [VD hlt,List.length_append]
    have hbl:=hb _ (List.getElem_mem hlt)
    have w1:IntKind.i64.wrap ((k:Int)+1)=(k:Int)+1:=by rw [wrap_i64] <;> omega
    have w2:IntKind.i64.wrap (((qg (l.take k)).length:Int)+l[k].boxes.length)=((qg (l.take (k+1))).length:Int):=by rw [hst,wrap_i64] <;> omega
    have hp:∀ j,j<k+1→(qg (l.take j)).length≤10:=fun j hj=>by
     by_cases e:j=k
     ·subst e; omega
     ·exact hpre j (by omega)
    unfold slR at hrow
    generalize hn1:(qg (l.take k)).length=nn at *
    generalize hn2:(qg (l.take (k+1))).length=n2 at *
    simp [slU,lV,hlt,h6',h6,h10,h10',hrow,w1,w2]
    refine ⟨_,?_,⟨by omega,hp⟩,rfl,rfl⟩
    simp [qz,qj,qm,slU,lV,hn2]
 ·have hk':k=l.length:=by omega
  subst hk'
  rw [List.take_length]
  have e:ZB l r n=(decide ((qg l).length≤10)&&decide (r.length≤30)&&decide (n≤12)):=by
   unfold ZB
   congr 2
   rw [decide_eq_decide]
   omega
  simp [slU,lV,e]
  by_cases c1:(qg l).length≤10
  rotate_left
  ·have c1':¬ ((qg l).length:Int)≤10:=by omega
   refine vwb ?_
   simp [c1,c1']
  have c1':((qg l).length:Int)≤10:=by omega
  by_cases c2:r.length≤30
  rotate_left
  ·have c2':¬ (r.length:Int)≤30:=by omega
   refine vwb ?_
   simp [c1,c1',c2,c2']
  have c2':(r.length:Int)≤30:=by omega
  by_cases c3:n≤12
  ·have c3':(n:Int)≤12:=by omega
   refine vwb ?_
   simp [c1,c1',c2,c2',c3,c3']
  ·have c3':¬ (n:Int)≤12:=by omega
   refine vwb ?_
   simp [c1,c1',c2,c2',c3,c3']
section
variable {H0 H H':List Bk} {l:List Ru} {S S':List Pr} {C C':List Sh} {r c t m:Nat} {Tp Tp' Tc Tc':Nat→Prop}
end
theorem WS {l:List Ru} {r:List Pr} {n:Nat} (h:tbR l=true) (hf:ZB l r n=true):Yk l∧l.length≤7∧(qg l).length≤10∧r.length≤30∧n≤12:=by
 unfold tbR at h
 unfold ZB at hf
 simp only [Bool.and_eq_true,decide_eq_true_eq] at h hf
 exact ⟨⟨by omega,by omega,h.2⟩,by omega,by omega,hf.1.2,hf.2⟩
section
variable {H:List Bk} {l:List Ru} {S:List Pr} {C:List Sh} {r c t m:Nat} {Tp Tc:Nat→Prop}
end
theorem WY {l:List Ru} (ha:l.all qI=true):∀ b∈qg l,qd b=true:=fun b hb=>by
 obtain ⟨r,hr,hb⟩:=List.mem_flatMap.1 hb
 have h:=List.all_eq_true.1 ha r hr
 unfold qI at h
 split at h
 ·simp at h
  rw [h.1.2] at hb
  cases hb
 ·simp at h
  exact h.1.2 b hb
def Inc (S:List Sh):Prop:=S.Pairwise fun p q=>p.id<q.id
theorem Inc.filter {S:List Sh} (h:Inc S) (p:Sh→Bool):Inc (S.filter p):=List.Pairwise.sublist List.filter_sublist h
theorem Inc.less {S:List Sh} (h:Inc S) (k:Int):Inc (less S k):=h.filter _
theorem qdu {zs:List Sh} (hz:Inc zs) {n:Nat} (hlt:n<zs.length):∀ t∈zs.take n,t.id<zs[n].id:=fun t ht=>by
 obtain ⟨i,hi,e⟩:=List.getElem_of_mem ht
 rw [List.length_take] at hi
 rw [List.getElem_take] at e
 rw [← e]
 exact List.pairwise_iff_getElem.1 hz i n (by omega) hlt (by omega)
theorem qbP {s:Sh} {zs:List Sh} (hz:Inc zs) (hn:∀ t∈zs,t.id≠s.id):∀ n,n≤zs.length→((piD s (zs.take n)).2=true→(piD s (zs.take n)).1.Perm (s::zs.take n)∧Inc (piD s (zs.take n)).1∧∃ t∈zs.take n,s.id<t.id)∧((piD s (zs.take n)).2=false→(piD s (zs.take n)).1=zs.take n∧∀ t∈zs.take n,t.id<s.id):=by
 intro n
 induction n with
 | zero=>intro _; simp [piD]
 | succ n ih =>
  intro hle
  have hlt:n<zs.length:=by omega
  have ih:=ih (by omega)
  have hs:=XH (s:=s) hlt
  have hpre:=qdu hz hlt
  have hinc:Inc (zs.take n):=List.Pairwise.sublist (List.take_sublist n zs) hz
  have hne:zs[n].id≠s.id:=hn _ (List.getElem_mem hlt)
  rw [hs,JO hlt]
  generalize hx:zs[n]=x at *
  generalize hp:zs.take n=pre at *
  generalize piD s pre=a at *
  obtain ⟨l,b⟩:=a
  unfold piS
  simp only at ih ⊢
  cases b with
  | true =>
   obtain ⟨h1,h2,t,h3,h4⟩:=ih.1 rfl
   simp only [Bool.not_true,Bool.false_and,Bool.false_eq_true,if_false]
   refine ⟨fun _=>⟨h1.append_right [x],List.pairwise_append.2 ⟨h2,List.pairwise_singleton _ _,fun y hy z hz' => ?_⟩,t,by simp [h3],h4⟩,fun e=>by cases e⟩
   rw [List.mem_singleton] at hz'
   subst hz'
   rcases List.mem_cons.1 (h1.mem_iff.1 hy) with rfl | hy
   ·have:=hpre t h3
    omega
   ·exact hpre y hy
  | false =>
   obtain ⟨h1,h2⟩:=ih.2 rfl
   subst h1
   by_cases he:s.id<x.id
   ·simp only [he,decide_true,Bool.not_false,Bool.and_self,if_true]
    refine ⟨fun _=>⟨?_,?_,x,by simp,he⟩,fun e=>by cases e⟩
    ·rw [List.append_assoc]
     exact List.perm_middle
    ·refine List.pairwise_append.2 ⟨List.pairwise_append.2 ⟨hinc,List.pairwise_singleton _ _,fun y hy z hz' => ?_⟩,List.pairwise_singleton _ _,fun y hy z hz' => ?_⟩
     ·rw [List.mem_singleton] at hz'
      subst hz'
      exact h2 y hy
     ·rw [List.mem_singleton] at hz'
      subst hz'
      rcases List.mem_append.1 hy with hy | hy
      ·exact hpre y hy
      ·rw [List.mem_singleton] at hy
       subst hy
       exact he
   ·simp only [he,decide_false,Bool.and_false,Bool.false_eq_true,if_false]
    refine ⟨fun e=>(by cases e),fun _=>⟨trivial,fun t ht => ?_⟩⟩
    rcases List.mem_append.1 ht with ht | ht
    ·exact h2 t ht
    ·rw [List.mem_singleton] at ht
     subst ht
     omega
theorem Vs {xs:List Sh} {s:Sh} (hx:Inc xs):(y7 xs s).Perm (s::less xs s.id)∧Inc (y7 xs s):=by
 have h:=qbP (s:=s) (hx.less s.id) (fun t ht=>by simpa using (List.mem_filter.1 ht).2) _ (Nat.le_refl _)
 rw [List.take_length] at h
 unfold y7
 cases hb:(piD s (less xs s.id)).2 with
 | true =>
  obtain ⟨h1,h2,_⟩:=h.1 hb
  simp only [if_true]
  exact ⟨h1,h2⟩
 | false =>
  obtain ⟨h1,h2⟩:=h.2 hb
  simp only [Bool.false_eq_true,if_false,h1]
  refine ⟨List.perm_append_comm,List.pairwise_append.2 ⟨hx.less s.id,List.pairwise_singleton _ _,fun y hy z hz' => ?_⟩⟩
  rw [List.mem_singleton] at hz'
  subst hz'
  exact h2 y hy
def Xm (a:List Sh) (s:Sh):List Sh:=if qd s.box then y7 a s else a
def hav (l:List Sh):List Sh:=l.foldl Xm []
theorem YT {l:List Sh} {k:Nat} (h:k<l.length):hav (l.take (k+1))=Xm (hav (l.take k)) l[k]:=by
 unfold hav
 rw [JO h,List.foldl_append]
 rfl
theorem qbX {a:List Sh} {s:Sh} (h:Inc a):Inc (Xm a s):=by
 unfold Xm
 split
 ·exact (Vs h).2
 ·exact h
theorem qau {a:List Sh} {s:Sh} (h:Inc a):(Xm a s).Perm (Kz a s):=by
 unfold Xm Kz
 split
 ·exact (Vs h).1
 ·exact List.Perm.refl _
theorem qbW {a:List Sh} {s:Sh} (h:Inc a):(Xm a s).length≤a.length+1:=by
 unfold Xm
 split
 ·rw [(Vs h).1.length_eq,List.length_cons]
  have:(less a s.id).length≤a.length:=List.length_filter_le _ _
  omega
 ·omega
theorem YS (l:List Sh):Inc (hav l)∧(hav l).length≤l.length:=by
 have go:∀ n,n≤l.length→Inc (hav (l.take n))∧(hav (l.take n)).length≤n:=by
  intro n
  induction n with
  | zero=>intro _; simp [hav,Inc]
  | succ n ih =>
   intro hn
   obtain ⟨h1,h2⟩:=ih (by omega)
   rw [YT (by omega)]
   have:=qbW (s:=l[n]) h1
   exact ⟨qbX h1,by omega⟩
 have:=go l.length (Nat.le_refl _)
 rwa [List.take_length] at this
def s1:Sh:=⟨1,⟨0,0,1,1⟩,0⟩
def s2:Sh:=⟨2,⟨1,1,2,2⟩,0⟩
theorem qbB (s:Sh):s.v = .agg [.sc (.int .i64 s.id),.sc (.int .i64 s.box.x0),.sc (.int .i64 s.box.y0),.sc (.int .i64 s.box.x1),.sc (.int .i64 s.box.y1),.sc (.int .i64 s.lab)]:=rfl
def skM (p:Pt) (l:Int):List (Option V) := [none,some (.sc (.int .i64 p.x)),some (.sc (.int .i64 p.y)),some (.sc (.int .i64 l))]
def WT (b:Re) (p:Pt) (l:Int):Int:=Zu (zW b l).1 p
theorem qg6 (b:Re) (p:Pt) (l:Int):qfF Tryz.prog 170 (skM p l) [b.v] (.sc (.int .u64 (WT b p l))):=by
 intro us hus
 obtain ⟨u1,u2,u3,u4,rfl⟩:∃ u1 u2 u3 u4,us = [u1,u2,u3,u4]:=by
  match us,hus with
  | [a,b,c,d],_=>exact ⟨a,b,c,d,rfl⟩
 have hS:=qdE b l
 have hD:=qhf (zW b l).1 p
 unfold WT
 generalize zW b l=sn at *
 obtain ⟨bb,ok⟩:=sn
 simp only at hS hD ⊢
 generalize Zu bb p=dd at *
 unfold Re.v Re.cs at hS hD
 unfold Pt.v Pt.cs at hD
 unfold Re.v Re.cs
 simp only [skM,qc8]
 refine vwc (fn:=Tryz.f170) rfl ?_
 simp only [Tryz.f170,ql]
 refine AW.seq (AW.off [] [(1,9,11,[3,0])] mixed (by kernel_rfl) ?_)
 simp [jq,zx,jX,jw,zN,jr,jv,zM,jY,flK,yK,zL,zw,QC]
 have k1:=fun x y:Bk=>Z4 (H := [x]) (L := [y])
 simp only [List.cons_append,List.nil_append] at k1
 refine AW.seq (AW.off [] [(1,9,11,[3,0])] mixed (by kernel_rfl) ?_)
 simp [jq,zx,jX,jw,zN,jr,jv,zM,jY,flK,yK,zL,zw,QC,k1]
 refine ⟨qc.pure hS rfl rfl ?_,qc.pure hS rfl rfl ?_⟩
 ·simp [jq,zx,jX,jw,zN,jr,jv,zM,jY,flK,yK,zL,zw,QC,k1,setCells,qo]
  refine vwb ?_
  simp
  refine qc.pure hD rfl rfl ?_
  simp
 ·simp [jq,zx,jX,jw,zN,jr,jv,zM,jY,flK,yK,zL,zw,QC,k1,setCells,qo]
  refine vwb ?_
  simp
  refine qc.pure hD rfl rfl ?_
  simp
def skB (r:Nat) (p:Pt) (l:Int) (kv:V) (ws:List Nat) (q:Nat):Bk := .cells [.v (.ptr r 0),.v (.sc (.int .i64 p.x)),.v (.sc (.int .i64 p.y)),.v (.sc (.int .i64 l)),.v kv,.own true 138 ws.length 1 (ws.map fun b => .ptr b 0),.v (.ptr q 0)]
theorem qd0 {H:List Bk} {k r:Nat} {p:Pt} {l:Int} {kv:V} {ws:List Nat} {q:Nat} (h:H[k]? = some (skB r p l kv ws q)):qfu H k (skM p l):=by
 refine ⟨_,h,by simp [skM],fun j z hz => ?_⟩
 match j,hz with
 | 0,hz=>cases hz
 | 1,hz=>cases hz; exact ⟨rfl,rfl⟩
 | 2,hz=>cases hz; exact ⟨rfl,rfl⟩
 | 3,hz=>cases hz; exact ⟨rfl,rfl⟩
 | j+4,hz=>simp [skM] at hz
def Y5 (c:Ce) (p:Pt) (l:Int) (i:Nat):Ent:=⟨WT (jy c) p l,0,i⟩
theorem qcG {H:List Bk} (k:Nat):AFn Tryz.prog 134 [.ptr k 0,.sc (.pointer none)] H fun y H'=>y = .tup []∧H'=H:=by
 refine vwc (fn:=Tryz.f134) rfl (vwa [(3,14,[0,4])] ?_)
 simp only [Tryz.f134,ql]
 simp [qj3]
def qhr (H:List Bk) (k r:Nat) (p:Pt) (l:Int) (kv:V) (q:Nat) (ws:List Nat) (hs:List Ent) (H':List Bk):Prop :=
 Kp (fun x=>x=k∨x=q) H H'∧H'[k]? = some (skB r p l kv ws q)∧QQ H' q hs
theorem qdZ {H:List Bk} {k r q b:Nat} {p:Pt} {l:Int} {kv:V} {ws:List Nat} {hs:List Ent} {c:Ce} {ks:Nat→Option Nat} {n m:Nat} (hk:H[k]? = some (skB r p l kv ws q)) (hq:QQ H q hs) (hb:H[b]? = some (.cells (Zc c ks n m))) (hc:yj c=true)
  (hw:ws.length≤100000) (hh:hs.length≤1000000) :
  AFn Tryz.prog 134 [.ptr k 0,.ptr b 0] H fun y H'=>y = .tup []∧(if n=0 then qhr H k r p l kv q ws hs H' else qhr H k r p l kv q (ws ++ [b]) (put hs (Y5 c p l ws.length)) H'):=by
 have hkq:k≠q:=by
  rintro rfl
  obtain ⟨es,h1,_⟩:=hq
  rw [hk] at h1
  cases h1
 by_cases hn:n=0
 ·subst hn
  unfold Zc at hb
  refine vwc (fn:=Tryz.f134) rfl (vwa [(3,14,[0,4])] ?_)
  simp only [Tryz.f134,ql]
  simp [hb]
  exact ⟨Kp.refl,hk,hq⟩
 ·simp only [if_neg hn]
  have hB:=qiV c
  have hbx:JD c=(jy c,true):=by simp [JD,hc]
  rw [hbx] at hB
  simp only at hB
  unfold Zc at hb
  have hn':((n:Int)==0)=false:=by rw [beq_eq_false_iff_ne]; omega
  unfold Y5
  generalize jy c=bx at *
  unfold Ce.v Ce.cs Re.v Re.cs at hB
  refine vwc (fn:=Tryz.f134) rfl ?_
  simp only [Tryz.f134,ql]
  refine AW.seq (AW.seq (vwa [(3,14,[0,4])] ?_))
  simp [hb,hn']
  refine vwa [(3,14,[0,4])] ?_
  simp
  refine AW.seq (vwa [(3,14,[0,4])] ?_)
  simp [hb]
  refine qc.pure hB rfl rfl ?_
  simp [setCells,qo]
  have hk1:=hget (L := [reB bx]) hk
  have hq1:QQ (H ++ [reB bx]) q hs:=hq.keep (Kp.refl.app (I:=NoB)) (fun h=>h)
  have kp1:Kp (fun x=>x=k∨x=q) H (H ++ [reB bx]):=Kp.refl.app
  have hr1:(H ++ [reB bx])[H.length]? = some (reB bx):=by simp
  have hkl:k<H.length:=(List.getElem?_eq_some_iff.1 hk).1
  unfold reB at hk1 hq1 kp1 hr1
  generalize H ++ [Bk.cells [.v (.sc (.int .i64 bx.x0)),.v (.sc (.int .i64 bx.y0)),.v (.sc (.int .i64 bx.x1)),.v (.sc (.int .i64 bx.y1))]]=H1 at *
  generalize hz:H.length=z at *
  unfold skB at hk1
  have hkl1:=(List.getElem?_eq_some_iff.1 hk1).1
  have f3:∀ K,(H1.set k K)[k]? = some K:=fun K=>List.getElem?_set_self hkl1
  have f1:∀ x,qo H1 k 5 x=H1.set k (.cells [.v (.ptr r 0),.v (.sc (.int .i64 p.x)),.v (.sc (.int .i64 p.y)),.v (.sc (.int .i64 l)),.v kv,x,.v (.ptr q 0)]):=fun x=>zF hk1
  have f2:∀ x y,qo (H1.set k (.cells [.v (.ptr r 0),.v (.sc (.int .i64 p.x)),.v (.sc (.int .i64 p.y)),.v (.sc (.int .i64 l)),.v kv,x,.v (.ptr q 0)])) k 5 y=H1.set k (.cells [.v (.ptr r 0),.v (.sc (.int .i64 p.x)),.v (.sc (.int .i64 p.y)),.v (.sc (.int .i64 l)),.v kv,y,.v (.ptr q 0)]):=fun x y=>by
   rw [zF (f3 _),List.set_set]
   rfl
  refine AW.seq (vwa [(3,14,[0,4])] ?_)
  simp [hk1,f1,f2,f3]
  refine ⟨by omega,?_⟩
  have hq2:=fun X=>hq1.keep (Kp.set (k:=X) (m:=k) (I:=fun x=>x=k) (H:=H1) Kp.refl rfl) (fun e=>hkq e.symm)
  have kp2:∀ X,Kp (fun x=>x=k∨x=q) H (H1.set k X):=fun X=>kp1.set (.inl rfl)
  have hr2:∀ X,(H1.set k X)[z]? = some (reB bx):=fun X=>by
   rw [List.getElem?_set_ne (by omega)]
   exact hr1
  have hk2:(H1.set k (.cells [.v (.ptr r 0),.v (.sc (.int .i64 p.x)),.v (.sc (.int .i64 p.y)),.v (.sc (.int .i64 l)),.v kv,.own true 138 (ws.length+1) 1 (List.map (fun b=>V.ptr b 0) ws ++ [.ptr b 0]),.v (.ptr q 0)]))[k]? = some (skB r p l kv (ws ++ [b]) q):=by
   rw [f3]
   simp [skB]
  have hq2:=hq2 (.cells [.v (.ptr r 0),.v (.sc (.int .i64 p.x)),.v (.sc (.int .i64 p.y)),.v (.sc (.int .i64 l)),.v kv,.own true 138 (ws.length+1) 1 (List.map (fun b=>V.ptr b 0) ws ++ [.ptr b 0]),.v (.ptr q 0)])
  have kp2:=kp2 (.cells [.v (.ptr r 0),.v (.sc (.int .i64 p.x)),.v (.sc (.int .i64 p.y)),.v (.sc (.int .i64 l)),.v kv,.own true 138 (ws.length+1) 1 (List.map (fun b=>V.ptr b 0) ws ++ [.ptr b 0]),.v (.ptr q 0)])
  have hr2:=hr2 (.cells [.v (.ptr r 0),.v (.sc (.int .i64 p.x)),.v (.sc (.int .i64 p.y)),.v (.sc (.int .i64 l)),.v kv,.own true 138 (ws.length+1) 1 (List.map (fun b=>V.ptr b 0) ws ++ [.ptr b 0]),.v (.ptr q 0)])
  generalize H1.set k (.cells [.v (.ptr r 0),.v (.sc (.int .i64 p.x)),.v (.sc (.int .i64 p.y)),.v (.sc (.int .i64 l)),.v kv,.own true 138 (ws.length+1) 1 (List.map (fun b=>V.ptr b 0) ws ++ [.ptr b 0]),.v (.ptr q 0)])=H2 at *
  clear f1 f2 f3 hk1 hq1 kp1 hr1
  have hM:=qd0 hk2
  have hk3:=hk2
  unfold reB at hr2
  unfold skB at hk3
  simp only [List.length_append,List.length_cons,List.length_nil,Nat.zero_add] at hk3
  have wl:IntKind.i64.wrap (ws.length:Int)=ws.length:=by rw [wrap_i64] <;> omega
  have hP:=qfG hq2 hh ⟨WT bx p l,0,ws.length⟩
  have hF:=qg6 bx p l
  unfold Re.v Re.cs at hF
  rw [JX] at hP
  refine AW.ofz [(3,14,[0,4])] mixed (by kernel_rfl) ?_
  simp [hk3,hr2]
  refine Zj.look hF rfl rfl hM ?_
  simp [hk3,hr2,wl]
  refine qc.of hP ?_
  rintro y H3 ⟨rfl,k3,hq3⟩
  simp
  exact ⟨kp2.trans (k3.V8.weak fun x hx => .inr hx),k3.cells hkq hk2,hq3⟩
end Go.Proofs.YtnconfggojpkcaaGreat
namespace Go.Proofs.YtnconfggojpkcaaGreat
open Go.RowKit AM
theorem Jk {r:Re} {l:Int} (hr:qd r=true) (hl:vR l=true):(zW r l).1=⟨(jy (cellOf r.lo l)).x0,(jy (cellOf r.lo l)).y0,(jy (cellOf r.hi l)).x1,(jy (cellOf r.hi l)).y1⟩:=by
 have hl':=zy.1 hl
 have hs:=Jl hl'.1 hl'.2
 have e1:jy (cellOf r.lo l)=⟨side l*(r.x0/side l),side l*(r.y0/side l),side l*(r.x0/side l)+side l - 1,side l*(r.y0/side l)+side l - 1⟩:=rfl
 have e2:jy (cellOf r.hi l)=⟨side l*(r.x1/side l),side l*(r.y1/side l),side l*(r.x1/side l)+side l - 1,side l*(r.y1/side l)+side l - 1⟩:=rfl
 rw [e1,e2]
 simp [zW,hl,hr,qaD hs.1]
theorem Ze {r:Re} {l:Int} (hr:qd r=true) (hl:vR l=true):qd (zW r l).1=true:=by
 have hl':=zy.1 hl
 have hs:=Jl hl'.1 hl'.2
 have rr:=qF.1 hr
 have hf:=JH hr
 have b1:=Z0 (Qj (yU hf.1 hl'.1 hl'.2))
 have b2:=Z0 (Qj (yU hf.2 hl'.1 hl'.2))
 have e1:jy (cellOf r.lo l)=⟨side l*(r.x0/side l),side l*(r.y0/side l),side l*(r.x0/side l)+side l - 1,side l*(r.y0/side l)+side l - 1⟩:=rfl
 have e2:jy (cellOf r.hi l)=⟨side l*(r.x1/side l),side l*(r.y1/side l),side l*(r.x1/side l)+side l - 1,side l*(r.y1/side l)+side l - 1⟩:=rfl
 rw [Jk hr hl]
 rw [e1] at b1 ⊢
 rw [e2] at b2 ⊢
 simp only at b1 b2
 have m1:side l*(r.x0/side l)≤side l*(r.x1/side l):=Int.mul_le_mul_of_nonneg_left (Int.ediv_le_ediv hs.1 rr.1.2.1) (by omega)
 have m2:side l*(r.y0/side l)≤side l*(r.y1/side l):=Int.mul_le_mul_of_nonneg_left (Int.ediv_le_ediv hs.1 rr.2.2.1) (by omega)
 refine qF.2 ?_
 simp only
 omega
theorem Xa {v:Vw} {id z:Int} {b:Re} {s:Se} (h:QE v id z b=some s):z≠0∧s=⟨id,z,b⟩:=by
 unfold QE at h
 split at h
 ·cases h
 ·rename_i h0
  simp only [not_or] at h0
  cases h
  exact ⟨h0.1,rfl⟩
theorem Yo {l:List Ru} (ha:l.all qI=true) (v:Vw) (x:Sh) (hr:qd x.box=true):0≤zmC l v x∧zmC l v x≤16:=by
 obtain ⟨_,a,b,_,h⟩:=Vz ha (ro:=v.ro) (ti:=v.ti) (la:=x.lab) hr
 unfold zmC
 rw [← h]
 exact QN _ _ _ _ _
def Zp (p:Pt) (l:Int) (s:Sh):Ent:=⟨qmi s p l,1,s.id⟩
inductive It where
 | sh (s:Sh)
 | nd (i:Nat) (d:Nat) (c:Ce) (S:List Sh)
def It.ent (p:Pt) (l:Int):It→Ent
 | .sh s=>Zp p l s
 | .nd i _ c _=>Y5 c p l i
def It.shs (kp:Sh→Bool):It→List Sh
 | .sh s => [s]
 | .nd _ _ _ S=>S.filter kp
def It.wt:It→Nat
 | .sh _=>1
 | .nd _ d _ S=>S.length*(d+1)
def It.ok (H:List Bk) (T:Nat→Prop) (ws:List Nat):It→Prop
 | .sh _=>True
 | .nd i d c S=>S ≠ []∧yj c=true∧(d:Int)+c.l=17∧(∀ s∈S,QH c (hm s)=true∧qd s.box=true)∧∃ b I,ws[i]? = some b∧Nd H d c S b I∧∀ x,I x→T x
def wts (its:List It):Nat:=(its.map It.wt).sum
theorem It.WI {H H':List Bk} {T U:Nat→Prop} {ws L:List Nat} (hk:Kp U H H') (hU:∀ x,T x→¬ U x):∀ {it:It},it.ok H T ws→it.ok H' T (ws++L)
 | .sh _,_=>trivial
 | .nd i d c S,⟨h1,h2,h3,h4,b,I,h5,h6,h7⟩=>⟨h1,h2,h3,h4,b,I,by
   rw [List.getElem?_append_left (List.getElem?_eq_some_iff.1 h5).1]
   exact h5,Nd.keep hk h6 fun x hx=>hU x (h7 x hx),h7⟩
theorem It.qfb {H:List Bk} {T:Nat→Prop} {ws:List Nat}:∀ {it:It},it.ok H T ws→1≤it.wt
 | .sh _,_=>Nat.le_refl _
 | .nd i d c S,⟨h1,_⟩=>by
  have:0<S.length:=List.length_pos_iff.2 h1
  exact Nat.mul_pos this (Nat.succ_pos d)
theorem Wv {H:List Bk} {T:Nat→Prop} {ws:List Nat}:∀ {its:List It},(∀ it∈its,it.ok H T ws)→its.length≤wts its
 | [],_=>Nat.le_refl _
 | it::its,h=>by
  have h1:=It.qfb (h it (List.mem_cons_self ..))
  have h2:=Wv (its:=its) fun x hx=>h x (List.mem_cons_of_mem _ hx)
  simp only [wts,List.map_cons,List.sum_cons,List.length_cons] at h2 ⊢
  omega
theorem qbx (a b:List It):wts (a++b)=wts a+wts b:=by simp [wts]
theorem qdP {a b:List It} (h:a.Perm b):wts a=wts b:=(h.map It.wt).sum_nat
theorem qhL (S:List Sh):wts (S.map It.sh)=S.length:=by
 induction S with
 | nil=>rfl
 | cons s S ih =>
  simp only [wts,List.map_cons,List.sum_cons,List.length_cons] at ih ⊢
  rw [ih]
  simp only [It.wt]
  omega
theorem qh2 (kp:Sh→Bool) (S:List Sh):(S.map It.sh).flatMap (It.shs kp)=S:=by
 induction S with
 | nil=>rfl
 | cons s S ih =>
  rw [List.map_cons,List.flatMap_cons,ih]
  rfl
def subs (c:Ce) (S:List Sh) (j:Nat):List Sh:=(List.range j).flatMap fun i:Nat=>sub' (qD c (i:Nat)) S
theorem JQ {c:Ce} {S:List Sh} {j:Nat}:subs c S (j+1)=subs c S j++sub' (qD c (j:Nat)) S:=by
 unfold subs
 rw [List.range_succ,List.flatMap_append]
 simp
theorem qfJ {c:Ce} {S:List Sh} (h:∀ s∈S,QH c (hm s)=true):∀ {j:Nat},j≤4→(at' c S).length+(subs c S j).length≤S.length:=by
 have h4:=KA h
 have:∀ {j k:Nat},j≤k→(subs c S j).length≤(subs c S k).length:=by
  intro j k hjk
  induction hjk with
  | refl=>exact Nat.le_refl _
  | step _ ih =>
   rw [JQ,List.length_append]
   omega
 intro j hj
 have:=this hj
 unfold subs at this ⊢
 omega
end Go.Proofs.YtnconfggojpkcaaGreat
namespace Go.Proofs.YtnconfggojpkcaaGreat
open Go.RowKit Go.ChangeShapes Go.WideShapes AM
section
variable {H:Type} {enc:TypeId×Value→H} {w:World} {base:Nat} {held:Bool} {r:Reach} {b0:Nat} {v:Value} {d:DataW H} {p:List MemPlace}
theorem Yu {cs:List Value} {x:Pr} (h:x.vals=cs):vM (said w) [] x.cs cs∧∀ u∈cs,u.oneCell'=true:=by
 subst h
 refine ⟨Yr (vs:=x.vals),fun u hu => ?_⟩
 simp only [Pr.vals,List.mem_cons,List.not_mem_nil,or_false] at hu
 rcases hu with rfl | rfl | rfl | rfl <;> rfl
theorem qbC {cs:List Value} {x:Sh} (h:x.vals=cs):vM (said w) [] x.cs cs∧∀ u∈cs,u.oneCell'=true:=by
 subst h
 refine ⟨Yr (vs:=x.vals),fun u hu => ?_⟩
 simp only [Sh.vals,List.mem_cons,List.not_mem_nil,or_false] at hu
 rcases hu with rfl | rfl | rfl | rfl | rfl | rfl <;> rfl
theorem Yj {l:List (DataW H×List MemPlace)} {y:DataW H×List MemPlace} (h:y=(.agg (l.map (·.1)),l.flatMap (·.2))) (hl:l.length=3):4≤Rows.uptoBulk y.1:=by
 subst h
 have:=JA (l.map (·.1))
 rw [List.length_map] at this
 simp only [Rows.uptoBulk]
 omega
theorem Xf (hv:Value.okWide Tryz.prog w r b0 33 v) (h:DataW.Trod enc Tryz.prog w base (fun _=>true) held 33 v d p):∃ xs:List Pr,Rel (said w) [] (lV xs) v∧JB (fun (_:Pr) (e:DataW H)=>4≤Rows.uptoBulk e) xs d :=
 YM (fun (_:Pr) (e:DataW H)=>4≤Rows.uptoBulk e) (encV:=Pr.cs) (sz:=4) Tryz.underlying33 (by kernel_rfl) (by decide) (fun _=>rfl) (fun n cs y hy hl=>by
  obtain ⟨x,hx⟩:=Yx (Zz 6 _ _ _ _ _ qaT hy)
  obtain ⟨xs,m,_,hyd,_,hlen,_⟩:=DataW.trod_struct Tryz.underlying55 hy
  exact ⟨x,(Yu (w:=w) hx).1,(Yu (w:=w) hx).2,Yj hyd hlen⟩) (okWide_slice Tryz.underlying33 hv) h
theorem KP (hv:Value.okWide Tryz.prog w r b0 70 v) (h:DataW.Trod enc Tryz.prog w base (fun _=>true) held 70 v d p):∃ xs:List Sh,Rel (said w) [] (slS xs) v∧JB (fun (_:Sh) (e:DataW H)=>4≤Rows.uptoBulk e) xs d :=
 YM (fun (_:Sh) (e:DataW H)=>4≤Rows.uptoBulk e) (encV:=Sh.cs) (sz:=6) Tryz.underlying70 (by kernel_rfl) (by decide) (fun _=>rfl) (fun n cs y hy hl=>by
  obtain ⟨x,hx⟩:=J7 (Zz 6 _ _ _ _ _ XA hy)
  obtain ⟨xs,m,_,hyd,_,hlen,_⟩:=DataW.trod_struct Tryz.underlying57 hy
  exact ⟨x,(qbC (w:=w) hx).1,(qbC (w:=w) hx).2,Yj hyd hlen⟩) (okWide_slice Tryz.underlying70 hv) h
theorem YX {l:List (DataW H)} (h:∀ e∈l,4≤Rows.uptoBulk e):4*l.length≤Rows.uptoBulkAll l:=by
 induction l with
 | nil=>simp
 | cons x l ih =>
  have h1:=h x (by simp)
  have h2:=ih fun e he=>h e (by simp [he])
  simp only [Rows.uptoBulkAll,List.length_cons]
  omega
theorem Vg {α:Type} {xs:List α} {d:DataW H} (h:JB (fun (_:α) (e:DataW H)=>4≤Rows.uptoBulk e) xs d):4*xs.length≤Rows.uptoBulk d:=by
 rcases h with rfl | ⟨es,sp,rfl,hl,hx⟩
 ·simp
 ·have:=YX (l:=es) fun e he=>by
   obtain ⟨i,hi⟩:=List.getElem?_of_mem he
   have hil:i<xs.length:=by rw [← hl]; exact (List.getElem?_eq_some_iff.1 hi).1
   exact hx i _ e (List.getElem?_eq_getElem hil) hi
  simp only [Rows.uptoBulk]
  omega
end
section
variable {H:Type}
theorem YG {q:Qv} {d:DataW H} (h:QvD q d):(qg q.l).length≤Rows.uptoBulk d∧q.l.length≤Rows.uptoBulk d:=by
 obtain ⟨parts,e,rfl,hp,hs⟩:=h
 have h1:=JV (List.mem_of_getElem? hp)
 have h2:=V9 hs
 have h3:=YJ hs
 simp only [Rows.uptoBulk]
 omega
end
end Go.Proofs.YtnconfggojpkcaaGreat
namespace Go.Proofs.YtnconfggojpkcaaGreat
open Go.RowKit AM
attribute [local simp] zQ qU jL zT zq zR zS zo jM zu qV Z8 Qm jC Ql yc ZE vZ slF qG Qo zK yx zA shares jh yt ze Qz QI qY ZF qZ qM vX zH yu Qe qL zD zG vU slV jE jG yE zU ZJ jB jF aMM aUn Qp vW jD zC jA qJ vV Qu vY vS Zw y9 qK Qs ZK zJ zI jH jR ZH eval zZ AM.valOf qm vO yR del SV.refers zY vQ jU shift ldV V.exact V.jg V.ofValue V.vP V.vL V.cells V.one Value.oneCell' ZI QY jV Q5 ZM ZC Qa Zy jl jI Qi ZL y8 yX Qr calm Qt Zn Qk feeds shrinks Qx looks isT Qf vK Qd putAt jT jc Zm sliceB isEq Qg zk qH zO zn qR zl zm qQ zP zi qP ZW Qw yB Zl QZ inO y7 Zi Mix.vT Mix.Qc QB QX qz qj qW zh qO ZV Qq yg yh ZG Zb yw yO Q8 jW V.fixed V.vC
attribute [local simp] vE je yL vH jQ vF vG jP yM vk jN V5 Ja yF QT Jb z0 JL VK Vo VU
def RsI (l:List Pr) (k:Nat) (F:Fr) (H:List Bk):Prop:=F = [(0,.v (lV l)),(3,.v (lV (jK (l.take k)))),(4,.v (.sc (.int .i64 k)))]
theorem qkj (l:List Pr) (hl:l.length≤1000000):PFn Tryz.prog 17 [lV l] (lV (jK l)):=by
 unfold lV
 refine vwc (fn:=Tryz.f17) rfl ?_
 simp only [Tryz.f17,ql]
 refine AW.seq (vwb ?_)
 simp
 refine AW.seq (vwb ?_)
 simp
 refine AW.seq (AW.seq (vwb ?_))
 simp
 refine AW.block (AW.count l.length (RsI l) ⟨_,?_,rfl⟩ ?_)
 ·simp [qz,qj,qm,lV,qW,jK]
 rintro k F H2 hk rfl
 have hsp:=Z7 (l.take k)
 rw [List.length_take,Nat.min_eq_left hk] at hsp
 unfold lV
 refine AW.seq (vwb ?_)
 by_cases hlt:k<l.length
 ·have w1:IntKind.i64.wrap ((k:Int)+1)=(k:Int)+1:=by rw [wrap_i64] <;> omega
  have hsn:=Jg hlt
  have hFd:=qd8 (jK (l.take k)) l[k].id (by omega)
  have hR:=VF l[k].at_
  have hP:=qfN (jK (l.take k)) l[k] (by omega)
  have hdef:ZA (jK (l.take k)) l[k]=if qa2 (jK (l.take k)) l[k]=0 then Vk (jK (l.take k)) l[k] else jK (l.take k):=rfl
  unfold lV at hP hFd
  unfold Pt.v Pt.cs at hR
  simp [hlt]
  refine AW.seq (AW.block (AW.seq (vwb ?_)))
  simp [hlt,J4]
  rw [qeh] at hFd
  refine qc.pure hFd (by simp [V.qA,V.closed,zV (enc:=Pr.cs) (fun _=>rfl)]) rfl ?_
  generalize qcZ (jK (l.take k)) l[k].id=pq at *
  simp
  rw [qp rfl]
  rw [qih] at hP
  generalize H2 ++ [_]=H3 at *
  rw [qf5] at hdef
  cases hh:qf8 (jK (l.take k)) l[k].id with
  | true =>
   have hd2:ZA (jK (l.take k)) l[k]=jK (l.take k):=by
    rw [hdef,hh]
    cases fits l[k].at_ <;> simp
   refine AW.seq (vwb ?_)
   simp
   refine vwb ?_
   simp
   refine vwb ?_
   simp [w1]
   refine ⟨_,?_,rfl⟩
   rw [hsn,hd2]
   simp [qz,qj,qm,lV]
  | false =>
   cases hf:fits l[k].at_ with
   | false =>
    rw [hf] at hR
    simp [hf,hh] at hdef
    refine AW.seq (vwb ?_)
    simp [hlt,J4]
    refine qc.pure hR rfl rfl ?_
    simp
    refine vwb ?_
    simp
    refine vwb ?_
    simp [w1]
    refine ⟨_,?_,rfl⟩
    rw [hsn,hdef]
    simp [qz,qj,qm,lV]
   | true =>
    rw [hf] at hR
    simp [hf,hh] at hdef
    refine AW.seq (vwb ?_)
    simp [hlt,J4]
    refine qc.pure hR rfl rfl ?_
    simp [hlt,J4]
    refine vwb ?_
    simp [hlt,J4]
    refine qc.pure hP (by simp [V.qA,V.closed,zV (enc:=Pr.cs) (fun _=>rfl)]) (by simp [V.closed,zV (enc:=Pr.cs) (fun _=>rfl)]) ?_
    simp
    refine vwb ?_
    simp [w1]
    refine ⟨_,?_,rfl⟩
    rw [hsn,hdef]
    simp [qz,qj,qm,lV]
 ·have hk':k=l.length:=by omega
  subst hk'
  rw [List.take_length]
  simp
  refine vwb ?_
  simp
theorem YR {a b:List Pr} (h:a.Perm b) (hn:(b.map Pr.id).Nodup) (s:Pr):(YA a s).Perm (YA b s):=by
 unfold YA
 rw [qas hn h]
 split
 ·exact h.cons s
 ·exact h
theorem Ya (R:List Pr):(Zr R).Perm (jK R):=by
 have go:∀ n,n≤R.length→(Zr (R.take n)).Perm (jK (R.take n)):=by
  intro n
  induction n with
  | zero=>intro _; simp [Zr,jK]
  | succ n ih =>
   intro hn
   have ih:=ih (by omega)
   have hi:=(Z7 (R.take n)).1
   have e:Zr (R.take (n+1))=YA (Zr (R.take n)) (R[n]'(by omega)):=by
    unfold Zr
    rw [List.take_succ_eq_append_getElem (by omega),List.foldl_append]
    rfl
   rw [e,Jg (by omega)]
   exact (YR ih hi.nodup _).trans (Jw hi).symm
 have:=go R.length (Nat.le_refl _)
 rwa [List.take_length] at this
section
variable {H H':List Bk} {l l':List Ru} {S:List Pr} {C:List Sh} {r c t m r' c' t' m':Nat} {Tp Tc Tp' Tc':Nat→Prop}
theorem Z9.recs {R:List Pr} (h:Z9 H l (Zr R) C r c t m Tp Tc):Z9 H l (jK R) C r c t m Tp Tc:=⟨h.tb,h.tp.perm (Ya R),h.tc,h.pm,h.cm⟩
end
theorem qbi {l:List Ru}:∀ r∈l,r.boxes.length≤(qg l).length:=by
 induction l with
 | nil=>intro r hr; cases hr
 | cons x l ih =>
  intro r hr
  have e:qg (x::l)=x.boxes++qg l:=by simp [qg]
  rw [e,List.length_append]
  rcases List.mem_cons.1 hr with rfl | hr
  ·omega
  ·have:=ih r hr
   omega
theorem VG (xs:List Pr):V.closed (lV xs)=true:=by simp [lV,V.closed,zV (enc:=Pr.cs) (fun _=>rfl)]
theorem XP {x y:Operand} {u v:Int}:XU Tryz.prog .eql 49 x y (.int .i64 u) (.int .i64 v)=some (.bool (u==v)):=rfl
def Vj (e:Int) (R:List Se):List Se:=if e=0 then R else []
theorem Y3 (e:Int) (R:List Se):Wu e R = .tup [QA (Vj e R),.sc (.int .i64 e)]:=rfl
theorem X3 (D:List Se) (p:Pt) (m:Nat):(Ju D p m).length≤D.length:=by
 unfold Ju
 refine Nat.le_trans (List.length_filterMap_le _ _) ?_
 rw [List.length_take,(ZY _).length_eq,List.length_map]
 omega
theorem TrS.ids {H:List Bk} {r:Nat} {S:List Sh} {T:Nat→Prop} (h:TrS H r S T):(S.map Sh.id).Nodup:=by
 obtain ⟨b,m,I,es,h,_⟩:=h
 exact h.ids
structure WJC (l:List Ru) (v:Vw) (S:List Sh) (Tt:Nat→Prop) (t m r c f q mf:Nat) (X:List (Int×Se)) (H:List Bk):Prop where
 tab:∃ es,Tab H t m l es∧VO l es
 tr:TrS H c S Tt
 fd:Fnd H f q mf X
section
variable {l:List Ru} {v:Vw} {S:List Sh} {Tt:Nat→Prop} {t m r c f q mf:Nat} {X:List (Int×Se)} {H H':List Bk}
theorem WJC.kept (hd:WD Tt m q mf) (h:WJC l v S Tt t m r c f q mf X H) (k:Kept l t m H H'):WJC l v S Tt t m r c f q mf X H':=by
 obtain ⟨⟨es,h1,h2⟩,h3,h4⟩:=h
 obtain ⟨hs,hq,_⟩:=h4.q
 obtain ⟨es',hq1,_⟩:=hq
 have k2:Kp (fun x=>x=m) H H':=fun i b hi hb hn=>k.2 i b hi hb hn
 exact ⟨k.1,h3.keep k2 hd.tm,h4.keep k2 (qh h4.f h1.m) (qh hq1 h1.m) hd.mm.symm⟩
theorem WJC.app {L:List Bk} (h:WJC l v S Tt t m r c f q mf X H):WJC l v S Tt t m r c f q mf X (H++L):=by
 obtain ⟨⟨es,h1,h2⟩,h3,h4⟩:=h
 exact ⟨⟨es,h1.stays .app,h2⟩,h3.app,h4.app⟩
theorem WJC.put {Y:List (Int×Se)} (hd:WD Tt m q mf) (h:WJC l v S Tt t m r c f q mf X H) (k:Kp (fun x=>x=q∨x=mf) H H') (hY:Fnd H' f q mf Y):WJC l v S Tt t m r c f q mf Y H':=by
 obtain ⟨⟨es,h1,h2⟩,h3,h4⟩:=h
 obtain ⟨hs,hq,_⟩:=h4.q
 have n1:t≠q:=by
  rintro rfl
  obtain ⟨es',hq,_⟩:=hq
  have:=h1.t.symm.trans hq
  cases this
 obtain ⟨es',hq1,_⟩:=hq
 exact ⟨⟨es,⟨k.cells (fun e=>e.elim n1 (fun e=>qh h1.t h4.m e)) h1.t,k.map (fun e=>e.elim (fun e=>qh hq1 h1.m e.symm) hd.mm) h1.m⟩,h2⟩,h3.keep k fun x hx e=>e.elim (hd.tq x hx) (hd.tf x hx),hY⟩
end
theorem VX {Z:Sh→Int} {v:Vw} {t:Sh} {s:Se} (h:vJ Z v t=some s):s.id=t.id:=by
 unfold vJ QE at h
 split at h
 ·split at h
  ·cases h
  ·cases h; rfl
 ·cases h
end Go.Proofs.YtnconfggojpkcaaGreat
