/- Texts that a law rests on, part b1: plain lemmas and what functions of the program do. No condition. -/
import Derived.BigQuiet
import Derived.Deep.QuietTactic
import Derived.Deep.Slices
import Derived.Ground.GgsProg
import Derived.JoinedCond
import Derived.Laws.MakeOwn
import Derived.Lib.AppendZeros
import Derived.Lib.SlicesCompact
import Derived.Maps.AppendAt
import Derived.OpenShut
import Derived.ProofKit
import Derived.Scope
import Derived.Shelf.GgSortFunc.Tiny
import Derived.Shelf.SlSortFuncK.WholeK
import Derived.Shelf.Slices.CompactI
import Derived.Shelf.Slices.In.SortNone
import Derived.Shelf.Sort.Plain
import Derived.SizedLaws
import Derived.Sort.OwnSorted
import Derived.Sort.OwnSortedInts
import Derived.Test.YtnconfggojpkcaaGreatRows
import Derived.WalkKit
import Derived.WalkLawsBesides
import Derived.WalkSpells
import Derived.WideKeyRuns
import Derived.Test.YtnconfggojpkcaaGreatSz7
set_option linter.all false
set_option maxHeartbeats 16000000
set_option maxRecDepth 100000
namespace Go.Proofs.YtnconfggojpkcaaGreat
open Go.RowKit
namespace AM
section
variable {m:Nat} {H H' H1 L:List Bk}
theorem vI.trans (h:vI m H H1) (h1:vI m H1 H'):vI m H H':=fun i b hi hb hn=>h1 i b hi (h i b hi hb hn) hn
theorem vI.append (h:vI m H H1):vI m H (H1++L):=h.trans .app
end
end AM
end Go.Proofs.YtnconfggojpkcaaGreat
namespace Go.Proofs.YtnconfggojpkcaaGreat
namespace Can
variable {L:Type} [DecidableEq L]
theorem Form.apart {F:Int→Int→Option L} {o:List (Rc L)} (h:Form F o):o.Pairwise fun p q=>p.x1<q.x0∨p.y1<q.y0:=by
 obtain ⟨R,B,h1,h2,rfl⟩:=h
 unfold emit
 rw [List.flatMap_def,List.pairwise_flatten]
 refine ⟨fun l hl => ?_,?_⟩
 ·obtain ⟨b,hb,rfl⟩:=List.mem_map.1 hl
  unfold qhx
  rw [List.pairwise_map]
  obtain ⟨e,_⟩:=qa7 h2 hb (y:=b.a) (Int.le_refl _) (h2.le b hb)
  rw [← e]
  exact (h1 b.a).pw.imp fun h => .inl h.1
 ·rw [List.pairwise_map]
  refine h2.pw.imp fun {b c} hbc p hp q hq => ?_
  obtain ⟨r,_,rfl⟩:=List.mem_map.1 hp
  obtain ⟨s,_,rfl⟩:=List.mem_map.1 hq
  exact .inr hbc.1
def jm (g:Int→Nat):Nat→Nat
 | 0=>0
 | n+1=>jm g n+g n
theorem jO {g h:Int→Nat}:∀ {n:Nat},(∀ k:Nat,k<n→g k=h k)→jm g n=jm h n
 | 0,_=>rfl
 | n+1,e=>by rw [jm,jm,jO (fun k hk=>e k (by omega)),e n (by omega)]
theorem Jj {g h:Int→Nat}:∀ {n:Nat},jm (fun x=>g x+h x) n=jm g n+jm h n
 | 0=>rfl
 | n+1=>by rw [jm,jm,jm,Jj]; omega
theorem Zo:∀ {n:Nat},jm (fun _=>0) n=0
 | 0=>rfl
 | n+1=>by rw [jm,Zo]
theorem Jd {g h:Int→Nat}:∀ {n:Nat},(∀ k:Nat,k<n→g k≤h k)→jm g n≤jm h n
 | 0,_=>Nat.le_refl _
 | n+1,e=>by
  rw [jm,jm]
  have:=Jd (n:=n) (fun k hk=>e k (by omega))
  have:=e n (by omega)
  omega
theorem Ji {g h:Int→Nat}:∀ {n:Nat},(∀ k:Nat,k<n→g k≤h k)→jm h n≤jm g n→∀ k:Nat,k<n→g k=h k
 | 0,_,_,k,hk=>by omega
 | n+1,e,hs,k,hk=>by
  rw [jm,jm] at hs
  have h1:=Jd (n:=n) (fun k hk=>e k (by omega))
  have h2:=e n (by omega)
  by_cases hkn:k=n
  ·subst hkn; omega
  ·exact Ji (n:=n) (fun k hk=>e k (by omega)) (by omega) k (by omega)
theorem Vu {a b:Int} {c:Nat} (h0:0≤a) (hab:a≤b):∀ {n:Nat},jm (fun x=>if a≤x∧x≤b then c else 0) n=(min (n:Int) (b+1) - min (n:Int) a).toNat*c
 | 0=>by
  have:(min ((0:Nat):Int) (b+1) - min ((0:Nat):Int) a).toNat=0:=by omega
  rw [jm,this,Nat.zero_mul]
 | n+1=>by
  rw [jm,Vu h0 hab (n:=n)]
  by_cases h:a≤(n:Int)∧(n:Int)≤b
  ·rw [if_pos h,← Nat.succ_mul]
   congr 1
   omega
  ·rw [if_neg h,Nat.add_zero]
   congr 1
   omega
theorem Yq {a b:Int} {c n:Nat} (h0:0≤a) (hab:a≤b) (hb:b<n):jm (fun x=>if a≤x∧x≤b then c else 0) n=(b - a+1).toNat*c:=by
 rw [Vu h0 hab]
 congr 1
 omega
end Can
end Go.Proofs.YtnconfggojpkcaaGreat
namespace Go.Proofs.YtnconfggojpkcaaGreat
open Go.RowKit AM
def jf (n:Int) (s:List Int×Bool) (x:Int):List Int×Bool:=if s.2=false∧n<x then (s.1 ++ [n,x],true) else (s.1 ++ [x],s.2)
def QK (n:Int) (xs:List Int):List Int×Bool:=xs.foldl (jf n) ([],false)
def Za (xs:List Int) (n:Int):List Int:=if n∈xs then xs else if (QK n xs).2 then (QK n xs).1 else (QK n xs).1 ++ [n]
theorem Jr (n:Int):∀ (xs b:List Int),xs.foldl (jf n) (b,true)=(b++xs,true)
 | [],b=>by simp
 | x::xs,b=>by
  have:jf n (b,true) x=(b ++ [x],true):=by simp [jf]
  rw [List.foldl_cons,this,Jr n xs]
  simp
theorem Jq {n:Int}:∀ (xs a:List Int),(a++xs).Pairwise (· < ·)→(∀ x∈a,x<n)→n∉xs →
  (((xs.foldl (jf n) (a,false)).1++if (xs.foldl (jf n) (a,false)).2 then [] else [n]).Pairwise (· < ·)∧∀ z,z∈((xs.foldl (jf n) (a,false)).1++if (xs.foldl (jf n) (a,false)).2 then [] else [n])↔z∈a∨z∈xs∨z=n)
 | [],a,h1,h2,_=>by
  simp only [List.foldl_nil,Bool.false_eq_true,if_false]
  rw [List.append_nil] at h1
  refine ⟨?_,fun z=>by simp⟩
  rw [List.pairwise_append]
  exact ⟨h1,by simp,fun x hx q hq=>by simp at hq; subst hq; exact h2 x hx⟩
 | x::xs,a,h1,h2,h3=>by
  rw [List.foldl_cons]
  by_cases h:n<x
  ·have:jf n (a,false) x=(a ++ [n,x],true):=by simp [jf,h]
   rw [this,Jr]
   simp only [if_true,List.append_nil,List.append_assoc]
   refine ⟨?_,fun z=>by simp; grind⟩
   rw [List.pairwise_append] at h1 ⊢
   obtain ⟨q1,q2,q3⟩:=h1
   refine ⟨q1,?_,fun y hy z hz => ?_⟩
   ·simp only [List.cons_append,List.nil_append]
    rw [List.pairwise_cons]
    refine ⟨fun z hz => ?_,q2⟩
    rcases List.mem_cons.1 hz with rfl | hz
    ·omega
    ·have:=(List.pairwise_cons.1 q2).1 z hz
     omega
   ·simp only [List.cons_append,List.nil_append] at hz
    rcases List.mem_cons.1 hz with rfl | hz
    ·exact h2 y hy
    ·exact q3 y hy z hz
  ·have hne:n≠x:=fun e=>h3 (by simp [e])
   have:jf n (a,false) x=(a ++ [x],false):=by simp [jf,h]
   rw [this]
   obtain ⟨k1,k2⟩:=Jq xs (a ++ [x]) (by simpa using h1) (fun y hy=>by
    rcases List.mem_append.1 hy with hy | hy
    ·exact h2 y hy
    ·simp at hy
     subst hy
     omega) (fun hm=>h3 (by simp [hm]))
   exact ⟨k1,fun z=>by rw [k2]; simp; grind⟩
theorem QJ {n:Int} {xs:List Int} (h:xs.Pairwise (· < ·)):(Za xs n).Pairwise (· < ·)∧∀ z,z∈Za xs n↔z∈xs∨z=n:=by
 unfold Za
 split
 ·rename_i hm
  exact ⟨h,fun z=>⟨.inl,fun hz=>hz.elim id fun e=>e▸hm⟩⟩
 ·rename_i hm
  obtain ⟨h1,h2⟩:=Jq xs [] (by simpa using h) (by simp) hm
  unfold QK
  cases hb:(xs.foldl (jf n) ([],false)).2 with
  | true=>rw [hb] at h1 h2; simp at h1 h2 ⊢; exact ⟨h1,h2⟩
  | false=>rw [hb] at h1 h2; simp at h1 h2 ⊢; exact ⟨h1,h2⟩
end Go.Proofs.YtnconfggojpkcaaGreat
namespace Go.Proofs.YtnconfggojpkcaaGreat
open Go.ChangeShapes Go.WideShapes Go.ChangeAt Go.RowKit
section
variable {H:Type} {enc:TypeId×Value→H} {P:Program}
end
theorem qfw {f:FuncId} {fn:Func} {s:ChangeSpec} (hfn:Tryz.prog.funcs[f]? = some fn) (noInit:Tryz.prog.inits.idxOf? f=none) (hvars:s.vars = []) (hres:fn.resultTypes = #[4])
  (hts:∀ t∈fn.params.toList,Tryz.prog.readableRec t=true∧t<Tryz.prog.types.size) (hs:∀ (H:Type) (ds:List (DataW H)),ds.length=fn.params.toList.length→s.fn H ds = { results := [.lit (.bool true)],args:=ds })
  (os:Os) (started:os.Started) (H:Type) (enc:TypeId×Value→H)
  (witness:∃ (w:World) (tape:Tape) (i:Input),w.os=os∧(w.forCall tape i).Shaped Tryz.prog∧i.vars = []∧Input.okWide Tryz.prog (w.forCall tape i) .any w.heap.size f i ∧
   s.pre6 enc Tryz.prog fn [] false (w.forCall tape i).memory i.args∧({}:Assume).holds Tryz.prog (lone (Frame.enter Tryz.prog f i.args .normal) [] (w.forCall tape i)))
  (walk:∀ (W:World) (base:Nat) (args:Array Value) (ds:List (DataW H)) (p:List MemPlace),(∀ (j:Nat) t v,fn.params[j]? = some t→args[j]? = some v→Value.okWide Tryz.prog W .any base t v) →
   DataW.TrodAll enc Tryz.prog W 0 (fun _=>true) true fn.params.toList args.toList ds p→(DataW.weightsEach Tryz.prog fn.params.toList ds).all (· ≤ reachBytes)=true→Calls Tryz.prog f args W (Yes W)) :
  ReturnsInHanded {} Tryz.checked os f .any (s.pre6 enc Tryz.prog fn [] false) (s.post enc Tryz.prog fn false true false false):=by
 refine returnsInHanded_of_change_sized (C:=Tryz.checked) own started noInit hfn witness ?_
 intro W base args ds gs before hval hW _ hsz _
 have hW':=hW
 obtain ⟨p,q,hA,hV,rfl,hfz,hnd⟩:=hW
 have hA':DataW.TrodAll enc Tryz.prog W 0 (fun _=>true) true fn.params.toList args.toList ds p:=hA
 obtain ⟨rfl,rfl⟩:gs = []∧q = []:=by
  rw [hvars] at hV
  exact trodVars_none hV
 have hsz':(DataW.weightsEach Tryz.prog fn.params.toList ds).all (· ≤ reachBytes)=true:=by
  have e:s.plain.varTypes Tryz.prog = []:=by unfold DataSpec.varTypes; simp [ChangeSpec.plain,hvars]
  have h2:(DataW.weightsEach Tryz.prog (fn.params.toList++s.plain.varTypes Tryz.prog) (ds ++ [])).all (· ≤ reachBytes)=true:=hsz
  rw [e,List.append_nil,List.append_nil] at h2
  exact h2
 refine (walk W base args ds p hval hA' hsz').mono fun e W' ⟨he,hb⟩ => ?_
 subst he
 have hlen:ds.length=fn.params.toList.length:=Wx hA'
 have hfn':s.fn H (ds ++ []) = { results := [.lit (.bool true)],args:=ds }:=by rw [List.append_nil]; exact hs H ds hlen
 have hlt:∀ x∈p,x.block<W.heap.size:=fun x hx=>hW'.lt x (by simpa using hx)
 refine ⟨_,rfl,V3 (pa:=p) (pv := []) hW' (fun b sp hd => ?_) (fun sp hsp => ?_) (fun sp _ => ?_) (by simp) hb ?_⟩
 ·rw [hfn',hres]
  exact trodAll_cons_mk (shut_bool Tryz.underlying4 _) trodAll_mk0
 ·rw [hfn']
  exact X5 laidOut hb hts hA' hlt (fun x hx=>hsp x (by simpa using hx))
 ·rw [hvars,hfn']
  rfl
 ·exact ok_one hres rfl (okWide_bool_mk Tryz.underlying4 _)
end Go.Proofs.YtnconfggojpkcaaGreat
namespace Go.Proofs.YtnconfggojpkcaaGreat
open Go.ChangeShapes Go.WideShapes Go.Deep
namespace Leaf
end Leaf
section
variable {H:Type} {enc:TypeId×Value→H} {P:Program} {w:World} {base:Nat} {spare:Nat→Bool} {held:Bool}
theorem qbq {r:Reach} {b0 k:Nat} {t:TypeId} {fs:Array Field} {ls:List Leaf} {v:Value} {d:DataW H} {p:List MemPlace} (hs:P.underlying t=some (.struct fs)) (hl:VT P k t=some ls)
  (hv:Value.okWide P w r b0 t v) (h:DataW.Trod enc P w base spare held t v d p):∃ cs:List Value,v = .agg cs.toArray∧Leaf.all ls cs:=by
 obtain ⟨cs,rfl,_⟩:=okWide_struct hs hv
 obtain ⟨n,hn⟩:=h
 exact ⟨cs.toList,by simp,Zz k t ls n _ _ hl hn⟩
end
end Go.Proofs.YtnconfggojpkcaaGreat
namespace Go.Proofs.YtnconfggojpkcaaGreat
open Go.RowKit AM
attribute [local simp] zQ qU jL zT zq zR zS zo jM zu qV Z8 Qm jC Ql yc ZE vZ slF qG Qo zK yx zA shares jh yt ze Qz QI qY ZF qZ qM vX zH yu Qe qL zD zG vU slV jE jG yE zU ZJ jB jF aMM aUn Qp vW jD zC jA qJ vV Qu vY vS Zw y9 qK Qs ZK zJ zI jH jR ZH eval zZ AM.valOf qm vO yR del SV.refers zY vQ jU shift ldV V.exact V.jg V.ofValue V.vP V.vL V.cells V.one Value.oneCell' ZI QY jV Q5 ZM ZC Qa Zy jl jI Qi ZL y8 yX Qr calm Qt Zn Qk feeds shrinks Qx looks isT Qf vK Qd putAt jT jc Zm sliceB isEq Qg zk qH zO zn qR zl zm qQ zP zi qP ZW Qw yB Zl QZ inO y7 Zi Mix.vT Mix.Qc QB QX qz qj qW zh qO ZV Qq yg yh ZG Zb yw yO Q8 jW V.fixed V.vC
namespace Pt
end Pt
namespace Ce
end Ce
namespace Re
end Re
theorem yS (n:Int):PFn Tryz.prog 78 [.sc (.int .i64 n)] (.sc (.bool (inside n))):=by
 refine vwc (fn:=Tryz.f78) rfl (vwb ?_)
 simp only [Tryz.f78,ql]
 simp
 simp [gd,inside]
 grind
theorem yC (p:Re):PFn Tryz.prog 28 [p.v] (.sc (.bool (qd p))):=by
 unfold Re.v Re.cs
 refine vwc (fn:=Tryz.f28) rfl (vwb ?_)
 simp only [Tryz.f28,ql]
 have e:∀ b,qd p=b→(inside p.x0=true→inside p.x1=true→inside p.y0=true→inside p.y1=true→(decide (p.x0≤p.x1)&&decide (p.y0≤p.y1))=b):=fun b h h1 h2 h3 h4=>by
  rw [← h]; simp [qd,h1,h2,h3,h4]
 simp
 refine qc.pure (yS _) rfl rfl ?_
 cases h1:inside p.x0
 ·simp [qd,h1]
 simp
 refine qc.pure (yS _) rfl rfl ?_
 cases h2:inside p.x1
 ·simp [qd,h2]
 simp
 refine qc.pure (yS _) rfl rfl ?_
 cases h3:inside p.y0
 ·simp [qd,h3]
 simp
 refine qc.pure (yS _) rfl rfl ?_
 cases h4:inside p.y1
 ·simp [qd,h4]
 simp
 simp [gd,qd,h1,h2,h3,h4]
 grind
end Go.Proofs.YtnconfggojpkcaaGreat
namespace Go.Proofs.YtnconfggojpkcaaGreat
open Go.RowKit AM
attribute [local simp] zQ qU jL zT zq zR zS zo jM zu qV Z8 Qm jC Ql yc ZE vZ slF qG Qo zK yx zA shares jh yt ze Qz QI qY ZF qZ qM vX zH yu Qe qL zD zG vU slV jE jG yE zU ZJ jB jF aMM aUn Qp vW jD zC jA qJ vV Qu vY vS Zw y9 qK Qs ZK zJ zI jH jR ZH eval zZ AM.valOf qm vO yR del SV.refers zY vQ jU shift ldV V.exact V.jg V.ofValue V.vP V.vL V.cells V.one Value.oneCell' ZI QY jV Q5 ZM ZC Qa Zy jl jI Qi ZL y8 yX Qr calm Qt Zn Qk feeds shrinks Qx looks isT Qf vK Qd putAt jT jc Zm sliceB isEq Qg zk qH zO zn qR zl zm qQ zP zi qP ZW Qw yB Zl QZ inO y7 Zi Mix.vT Mix.Qc QB QX qz qj qW zh qO ZV Qq yg yh ZG Zb yw yO Q8 jW V.fixed V.vC
theorem qcF (z:Int):qeA Tryz.prog 3 108 (.int .i64 z)=some (.int .u64 (IntKind.u64.wrap z)):=qaz Ty.u3 Ty.qmY
def zX (r:Re):Nat:=if qd r then ((r.x1 - r.x0+1)*(r.y1 - r.y0+1)).toNat else 0
theorem WZ (r:Re):zX r≤4294967296:=by
 unfold zX
 split
 ·rename_i h
  have h:=qF.1 h
  have h1:(r.x1 - r.x0+1)*(r.y1 - r.y0+1)≤65536*65536:=Int.mul_le_mul (by omega) (by omega) (by omega) (by omega)
  omega
 ·omega
theorem XV {r:Re} (h:qd r=true):IntKind.u64.wrap (IntKind.u64.wrap (r.x1 - r.x0+1)*IntKind.u64.wrap (r.y1 - r.y0+1))=(zX r:Nat)∧IntKind.i64.wrap (r.x1 - r.x0)=r.x1 - r.x0∧IntKind.i64.wrap (r.y1 - r.y0)=r.y1 - r.y0∧IntKind.i64.wrap (r.x1 - r.x0+1)=r.x1 - r.x0+1∧IntKind.i64.wrap (r.y1 - r.y0+1)=r.y1 - r.y0+1:=by
 have h':=qF.1 h
 have h1:(r.x1 - r.x0+1)*(r.y1 - r.y0+1)≤65536*65536:=Int.mul_le_mul (by omega) (by omega) (by omega) (by omega)
 have h2:0≤(r.x1 - r.x0+1)*(r.y1 - r.y0+1):=Int.mul_nonneg (by omega) (by omega)
 refine ⟨?_,by rw [wrap_i64] <;> omega,by rw [wrap_i64] <;> omega,by rw [wrap_i64] <;> omega,by rw [wrap_i64] <;> omega⟩
 rw [wrap_u64 (n:=r.x1 - r.x0+1) (by omega) (by omega),wrap_u64 (n:=r.y1 - r.y0+1) (by omega) (by omega),wrap_u64 h2 (by omega)]
 unfold zX
 rw [if_pos h]
 omega
theorem qa4 (r:Re):PFn Tryz.prog 124 [r.v] (.sc (.int .u64 (zX r))):=by
 have h1:=Jc r
 unfold Re.v Re.cs at h1 ⊢
 refine vwc (fn:=Tryz.f124) rfl (vwb ?_)
 simp only [Tryz.f124,ql]
 simp
 refine qc.pure h1 rfl rfl ?_
 cases e:qd r with
 | false=>simp [zX,e]
 | true =>
  obtain ⟨w1,w2,w3,w4,w5⟩:=XV e
  simp [qcF,w2,w3,w4,w5,w1]
def yH (a b:Re):Re:=⟨max a.x0 b.x0,max a.y0 b.y0,min a.x1 b.x1,min a.y1 b.y1⟩
def reZ:Re:=⟨0,0,0,0⟩
def Xh (a b:Re):Re:=if qE a b then yH a b else reZ
theorem Vm {a b:Re} (ha:qd a=true) (hb:qd b=true):qd (yH a b)=qE a b:=by
 have h1:=qF.1 ha
 have h2:=qF.1 hb
 rw [Bool.eq_iff_iff,qF]
 simp only [qE,ha,hb,yH,Bool.true_and,decide_eq_true_iff]
 omega
def Y6 (a b:Re):V := .tup [(Xh a b).v,.sc (.bool (qE a b))]
theorem qex (a b:Re):PFn Tryz.prog 125 [a.v,b.v] (Y6 a b):=by
 have h:=qbZ a b
 unfold Y6 Xh
 unfold Re.v Re.cs at h ⊢
 cases e:qE a b with
 | false =>
  rw [e] at h
  refine vwc (fn:=Tryz.f125) rfl (vwb ?_)
  simp only [Tryz.f125,ql]
  simp
  refine qc.pure h rfl rfl ?_
  simp [setCells,qo,reZ]
 | true =>
  rw [e] at h
  have m1:=fun x y:Int=>Int.max_comm x y
  have m2:=fun x y:Int=>Int.min_comm x y
  refine vwc (fn:=Tryz.f125) rfl (vwb ?_)
  simp only [Tryz.f125,ql]
  simp
  refine qc.pure h rfl rfl ?_
  simp [setCells,qo,yH]
  exact ⟨by split <;> omega,by split <;> omega,by split <;> omega,by split <;> omega⟩
theorem qbK (a b:Re):PFn Tryz.prog 26 [a.v,b.v] (.sc (.bool (inB a b))):=by
 have h1:=yC a
 have h2:=yC b
 unfold inB
 unfold Re.v Re.cs at h1 h2 ⊢
 refine vwc (fn:=Tryz.f26) rfl (vwb ?_)
 simp only [Tryz.f26,ql]
 simp
 refine qc.pure h1 rfl rfl ?_
 cases e:qd a with
 | false=>simp
 | true =>
  simp
  refine qc.pure h2 rfl rfl ?_
  cases e2:qd b with
  | false=>simp
  | true =>
   simp
   simp [gd]
   grind
end Go.Proofs.YtnconfggojpkcaaGreat
namespace Go.Proofs.YtnconfggojpkcaaGreat
open Go.RowKit Go.ChangeShapes Go.WideShapes AM
section
variable {H:Type} {enc:TypeId×Value→H} {w:World} {base:Nat} {held:Bool} {r:Reach} {b0:Nat} {v:Value} {d:DataW H} {p:List MemPlace}
namespace Pr
end Pr
theorem recArg (hv:Value.okWide Tryz.prog w r b0 55 v) (h:DataW.Trod enc Tryz.prog w base (fun _=>true) held 55 v d p):∃ x:Pr,Rel (said w) [] x.v v:=by
 obtain ⟨cs,rfl,hc⟩:=qbq Tryz.underlying55 qaT hv h
 obtain ⟨x,rfl⟩:=Yx hc
 exact ⟨x,.agg (Yr (vs:=x.vals))⟩
end
end Go.Proofs.YtnconfggojpkcaaGreat
namespace Go.Proofs.YtnconfggojpkcaaGreat
open Go.RowKit Go.ChangeShapes Go.WideShapes AM
section
variable {H:Type} {enc:TypeId×Value→H} {w:World} {base:Nat} {held:Bool} {r:Reach} {b0:Nat} {v:Value} {d:DataW H} {p:List MemPlace}
namespace Sh
end Sh
theorem XA:VT Tryz.prog 6 57=some [.int .i64,.int .i64,.int .i64,.int .i64,.int .i64,.int .i64]:=by kernel_rfl
theorem J7 {cs:List Value} (h:Leaf.all [.int .i64,.int .i64,.int .i64,.int .i64,.int .i64,.int .i64] cs):∃ x:Sh,x.vals=cs:=by
 obtain ⟨a,_,rfl,_,h⟩:=Leaf.vB h
 obtain ⟨b,_,rfl,_,h⟩:=Leaf.vB h
 obtain ⟨c,_,rfl,_,h⟩:=Leaf.vB h
 obtain ⟨e,_,rfl,_,h⟩:=Leaf.vB h
 obtain ⟨f,_,rfl,_,h⟩:=Leaf.vB h
 obtain ⟨g,_,rfl,_,h⟩:=Leaf.vB h
 obtain rfl:=Leaf.all_nil h
 exact ⟨⟨a,⟨b,c,e,f⟩,g⟩,rfl⟩
theorem shArg (hv:Value.okWide Tryz.prog w r b0 57 v) (h:DataW.Trod enc Tryz.prog w base (fun _=>true) held 57 v d p):∃ x:Sh,Rel (said w) [] x.v v:=by
 obtain ⟨cs,rfl,hc⟩:=qbq Tryz.underlying57 XA hv h
 obtain ⟨x,rfl⟩:=J7 hc
 exact ⟨x,.agg (Yr (vs:=x.vals))⟩
end
end Go.Proofs.YtnconfggojpkcaaGreat
namespace Go.Proofs.YtnconfggojpkcaaGreat
open Go.RowKit AM Can
attribute [local simp] zQ qU jL zT zq zR zS zo jM zu qV Z8 Qm jC Ql yc ZE vZ slF qG Qo zK yx zA shares jh yt ze Qz QI qY ZF qZ qM vX zH yu Qe qL zD zG vU slV jE jG yE zU ZJ jB jF aMM aUn Qp vW jD zC jA qJ vV Qu vY vS Zw y9 qK Qs ZK zJ zI jH jR ZH eval zZ AM.valOf qm vO yR del SV.refers zY vQ jU shift ldV V.exact V.jg V.ofValue V.vP V.vL V.cells V.one Value.oneCell' ZI QY jV Q5 ZM ZC Qa Zy jl jI Qi ZL y8 yX Qr calm Qt Zn Qk feeds shrinks Qx looks isT Qf vK Qd putAt jT jc Zm sliceB isEq Qg zk qH zO zn qR zl zm qQ zP zi qP ZW Qw yB Zl QZ inO y7 Zi Mix.vT Mix.Qc QB QX qz qj qW zh qO ZV Qq yg yh ZG Zb yw yO Q8 jW V.fixed V.vC
def QW (down:Bool) (o:List Int) (r:Re):List Int:=if down then Za (Za o r.y0) (r.y1+1) else Za (Za o r.x0) (r.x1+1)
def qN (l:List Re) (down:Bool):List Int:=l.foldl (QW down) [0,65536]
theorem Yf {down:Bool} {o:List Int} {r:Re} (h:o.Pairwise (· < ·)):(QW down o r).Pairwise (· < ·)∧∀ z,z∈QW down o r↔z∈o∨z=lo down r∨z=hi down r+1:=by
 unfold QW lo hi
 split
 ·obtain ⟨h1,h2⟩:=QJ (n:=r.y0) h
  obtain ⟨h3,h4⟩:=QJ (n:=r.y1+1) h1
  exact ⟨h3,fun z=>by rw [h4,h2,or_assoc]⟩
 ·obtain ⟨h1,h2⟩:=QJ (n:=r.x0) h
  obtain ⟨h3,h4⟩:=QJ (n:=r.x1+1) h1
  exact ⟨h3,fun z=>by rw [h4,h2,or_assoc]⟩
theorem yP (l:List Re) (down:Bool):(qN l down).Pairwise (· < ·)∧∀ z,z∈qN l down↔z=0∨z=65536∨∃ r∈l,z=lo down r∨z=hi down r+1:=by
 have go:∀ (l:List Re) (o:List Int),o.Pairwise (· < ·)→(l.foldl (QW down) o).Pairwise (· < ·)∧∀ z,z∈l.foldl (QW down) o↔z∈o∨∃ r∈l,z=lo down r∨z=hi down r+1:=by
  intro l
  induction l with
  | nil=>intro o h; exact ⟨h,fun z=>by simp⟩
  | cons r l ih =>
   intro o h
   obtain ⟨h1,h2⟩:=Yf (down:=down) (r:=r) h
   obtain ⟨h3,h4⟩:=ih _ h1
   refine ⟨h3,fun z => ?_⟩
   rw [List.foldl_cons,h4,h2]
   simp only [List.mem_cons,exists_eq_or_imp,or_assoc]
 obtain ⟨h1,h2⟩:=go l [0,65536] (by simp)
 exact ⟨h1,fun z=>by rw [qN,h2]; simp [or_assoc]⟩
end Go.Proofs.YtnconfggojpkcaaGreat
namespace Go.Proofs.YtnconfggojpkcaaGreat
open Go.RowKit AM Can
attribute [local simp] zQ qU jL zT zq zR zS zo jM zu qV Z8 Qm jC Ql yc ZE vZ slF qG Qo zK yx zA shares jh yt ze Qz QI qY ZF qZ qM vX zH yu Qe qL zD zG vU slV jE jG yE zU ZJ jB jF aMM aUn Qp vW jD zC jA qJ vV Qu vY vS Zw y9 qK Qs ZK zJ zI jH jR ZH eval zZ AM.valOf qm vO yR del SV.refers zY vQ jU shift ldV V.exact V.jg V.ofValue V.vP V.vL V.cells V.one Value.oneCell' ZI QY jV Q5 ZM ZC Qa Zy jl jI Qi ZL y8 yX Qr calm Qt Zn Qk feeds shrinks Qx looks isT Qf vK Qd putAt jT jc Zm sliceB isEq Qg zk qH zO zn qR zl zm qQ zP zi qP ZW Qw yB Zl QZ inO y7 Zi Mix.vT Mix.Qc QB QX qz qj qW zh qO ZV Qq yg yh ZG Zb yw yO Q8 jW V.fixed V.vC
attribute [local simp] vE je yL vH jQ vF vG jP yM vk jN V5 Ja yF QT Jb z0 JL VK Vo VU
def jS (l:List Ru) (t m:Nat) (H0 H:List Bk):Prop:=(∃ es,Tab H t m l es∧VO l es)∧vI m H0 H
theorem jS.w {l:List Ru} {t m:Nat} {H0 H:List Bk} (h:jS l t m H0 H):Kept l t m H0 H:=⟨h.1,h.2.w⟩
theorem jS.trans {l:List Ru} {t m:Nat} {H0 H1 H2:List Bk} (h:vI m H0 H1) (k:jS l t m H1 H2):jS l t m H0 H2:=⟨k.1,h.trans k.2⟩
theorem jS.app {l:List Ru} {t m:Nat} {H0 H1 L:List Bk} (k:jS l t m H0 H1):jS l t m H0 (H1++L):=by
 obtain ⟨⟨es,h1,h2⟩,h3⟩:=k
 exact ⟨⟨es,h1.stays .app,h2⟩,h3.append⟩
def ofS (r:Re) (s:Int×Int) (q:Rc Int):Int×Int:=if qE (jo q) r then (IntKind.u64.wrap (s.1 - zX (yH (jo q) r)),if q.z<s.2 then q.z else s.2) else s
def ofP (qs:List (Rc Int)) (r:Re):Int:=if 0<(qs.foldl (ofS r) ((zX r:Nat),16)).1 then 0 else (qs.foldl (ofS r) ((zX r:Nat),16)).2
def OfI (l:List Ru) (qs:List (Rc Int)) (r:Re) (b:Nat) (t m:Nat) (H0:List Bk) (k:Nat) (F:Fr) (H:List Bk):Prop:=(jS l t m H0 H∧H[b]? = some (reB r)) ∧
 F = [(9,.v (.ptr b 0)),(11,.v (.sc (.int .u64 ((qs.take k).foldl (ofS r) ((zX r:Nat),16)).1))),(12,.v (.sc (.int .i64 ((qs.take k).foldl (ofS r) ((zX r:Nat),16)).2))),(38,.v (slP qs)),(39,.v (.sc (.int .i64 qs.length))),(40,.v (.sc (.int .i64 k)))]
theorem qaN {H:List Bk} {b:Bk} {xs:List SV} {ys:List V} (h:xs.length=ys.length):setCells (H ++ [b,.cells xs]) (H.length+1) 0 ys=H ++ [b,.cells (ys.map .v)]:=by
 have:=JZ (H:=H ++ [b]) h
 simpa using this
theorem gOf (l:List Ru) (ro ti la:Int) (r:Re) (hl:l.length≤1000000) (hn:(qg l).length≤1048576) (t m:Nat) (es:List (Value×V)) (H:List Bk) (hT:Tab H t m l es) (hM:VO l es) :
  AFn Tryz.prog 71 [.ptr t 0,.sc (.int .i64 ro),.sc (.int .i64 ti),.sc (.int .i64 la),r.v] H fun y H'=>y = .sc (.int .i64 (if QU ro ti la&&qd r then ofP (Vq l ro ti la) r else 0))∧jS l t m H H':=by
 have hTm:=(List.getElem?_eq_some_iff.1 hT.m).1
 have hT1:=hT.stays (.app (L := [reB r]))
 have hb1:=qab (H:=H) (b:=reB r)
 have h1:=qhj t m l es _ hT1
 have h2:=qcs ro ti la
 have h3:=qa3 l ro ti la hl hn t m es _ hT1 hM
 have hR:=Jc r
 have hA:=qa4 r
 have hq:=WH l ro ti la
 unfold reB at h1 h3
 unfold Re.v Re.cs at hR hA ⊢
 refine vwc (fn:=Tryz.f71) rfl (vwb ?_)
 simp only [Tryz.f71,ql]
 simp
 refine qc.of h1 ?_
 rintro y H1 ⟨rfl,rfl⟩
 simp
 refine qc.pure h2 rfl rfl ?_
 cases e:QU ro ti la with
 | false =>
  simp
  exact ⟨⟨es,hT1,hM⟩,.app⟩
 | true =>
  simp
  refine qc.pure hR rfl rfl ?_
  cases e2:qd r with
  | false =>
   simp
   exact ⟨⟨es,hT1,hM⟩,.app⟩
  | true =>
   simp
   refine qc.pure hA rfl rfl ?_
   simp
   refine qc.of h3 ?_
   rintro y H2 ⟨rfl,es',hT',hM',hs⟩
   have hb2:=hs.cells (by omega) hb1
   generalize Vq l ro ti la=qs at *
   simp [slP]
   refine AW.count qs.length (OfI l qs r H.length t m H) ⟨_,?_,⟨⟨⟨es',hT',hM'⟩,vI.trans .app hs⟩,hb2⟩,rfl⟩ ?_
   ·simp [qz,qj,qm,slP]
   rintro k F H3 hk ⟨⟨hK,hb3⟩,rfl⟩
   refine vwb ?_
   by_cases hlt:k<qs.length
   ·have w1:IntKind.i64.wrap ((k:Int)+1)=(k:Int)+1:=by rw [wrap_i64] <;> omega
    have hrow:=qg9 hlt
    have hst:=yD (f:=ofS r) (b:=(((zX r:Nat):Int),(16:Int))) (xs:=qs) (k:=k) hlt
    have hH:=qex (jo qs[k]) r
    have hB:=qa4 (yH (jo qs[k]) r)
    have hb3':=fun L=>qce (L:=L) hb3
    have hbq:=qab (H:=H3) (b := .cells [.v (.sc (.int .i64 qs[k].x0)),.v (.sc (.int .i64 qs[k].y0)),.v (.sc (.int .i64 qs[k].x1)),.v (.sc (.int .i64 qs[k].y1)),.v (.sc (.int .i64 qs[k].z))])
    generalize hgs:(qs.take k).foldl (ofS r) (((zX r:Nat):Int),(16:Int))=s at *
    unfold Y6 Xh Re.v Re.cs at hH
    unfold Re.v Re.cs at hB
    unfold reB at hb3'
    cases e3:qE (jo qs[k]) r with
    | true =>
     have e1:ofS r s qs[k]=(IntKind.u64.wrap (s.1 - zX (yH (jo qs[k]) r)),if qs[k].z<s.2 then qs[k].z else s.2):=by simp [ofS,e3]
     rw [e1] at hst
     rw [e3,if_pos rfl] at hH
     have hbx:=qab (H:=H3 ++ [.cells [.v (.sc (.int .i64 qs[k].x0)),.v (.sc (.int .i64 qs[k].y0)),.v (.sc (.int .i64 qs[k].x1)),.v (.sc (.int .i64 qs[k].y1)),.v (.sc (.int .i64 qs[k].z))]]) (b:=reB (yH (jo qs[k]) r))
     have hbq2:=fun L=>qce (L:=L) hbq
     unfold reB at hbx
     simp [slP,hlt,hrow,JZ,hb3',hbq]
     refine qc.pure hH rfl rfl ?_
     simp [JZ,qaN]
     refine qc.pure hB rfl rfl ?_
     simp [w1]
     refine ⟨_,?_,⟨hK.app,hb3' _⟩,rfl⟩
     rw [hst]
     simp [qz,qj,qm,slP]
    | false =>
     have e1:ofS r s qs[k]=s:=by simp [ofS,e3]
     rw [e1] at hst
     rw [e3,if_neg (by decide)] at hH
     simp [slP,hlt,hrow,JZ,hb3',hbq]
     refine qc.pure hH rfl rfl ?_
     simp [JZ,qaN,w1]
     refine ⟨_,?_,⟨hK.app,hb3' _⟩,rfl⟩
     rw [hst]
     simp [qz,qj,qm,slP]
   ·have hk':k=qs.length:=by omega
    subst hk'
    simp [slP]
    unfold ofP
    generalize qs.foldl (ofS r) ((zX r:Nat),16)=s at *
    by_cases h0:0<s.1
    ·simp [gd,h0]
     exact hK
    ·simp [gd,h0]
     exact hK
def Yc (l:List Ru) (ro ti la:Int) (r:Re) (z:Int) (p:Pt):Int:=if yV r p&&decide (vN l ro ti la p<z) then vN l ro ti la p else z
def Qb (l:List Ru) (ro ti la:Int) (r:Re) (ys:List Int) (z x:Int):Int:=ys.foldl (fun z y=>Yc l ro ti la r z ⟨x,y⟩) z
def Vi (l:List Ru) (ro ti la:Int) (r:Re):Int:=(qN (qg l ++ [r]) false).foldl (Qb l ro ti la r (qN (qg l ++ [r]) true)) 16
end Go.Proofs.YtnconfggojpkcaaGreat
namespace Go.Proofs.YtnconfggojpkcaaGreat
open Go.RowKit AM Can
section
variable {l:List Ru} {b:Ru→Bool} {G:Int→Int→Option Int} (hG:∀ x y,G x y=qbT (V7 (fun r=>b r&&hasB r.boxes ⟨x,y⟩) l))
include hG
end
theorem qb9 {l:List Ru} (ha:l.all qI=true) (ro ti la x y:Int):F2 l ro ti la x y=qbT (V7 (fun r=>XO r ro ti la&&hasB r.boxes ⟨x,y⟩) l):=by
 unfold F2
 rw [qbg ha]
 rfl
def cnt (P:Int→Int→Bool):Nat:=jm (fun y=>jm (fun x=>if P x y then 1 else 0) 65536) 65536
theorem Y0 {P Q:Int→Int→Bool} (h:∀ x y,P x y=Q x y):cnt P=cnt Q:=by
 have:P=Q:=funext fun x=>funext fun y=>h x y
 rw [this]
theorem WX {P Q R:Int→Int→Bool} (h:∀ x y,((if P x y then 1 else 0):Nat)=(if Q x y then 1 else 0)+(if R x y then 1 else 0)):cnt P=cnt Q+cnt R:=by
 unfold cnt
 rw [← Jj]
 refine jO fun k _ => ?_
 rw [← Jj]
 exact jO fun j _=>h _ _
theorem Wy {n:Nat} {P Q:Int→Int→Nat} (h:∀ x y,P x y≤Q x y):jm (fun y=>jm (fun x=>P x y) n) n≤jm (fun y=>jm (fun x=>Q x y) n) n:=Jd fun y _=>Jd fun x _=>h x y
theorem qb6 {P Q:Int→Int→Bool} (h:∀ x y,((if P x y then 1 else 0):Nat)≤if Q x y then 1 else 0):cnt P≤cnt Q:=Wy h
theorem Vt {g:Int→Nat} {n:Nat}:jm g n=0↔∀ k:Nat,k<n→g k=0:=by
 constructor
 ·intro h k hk
  exact (Ji (g:=fun _=>0) (h:=g) (n:=n) (fun _ _=>Nat.zero_le _) (by rw [h]; exact Nat.zero_le _) k hk).symm
 ·intro h
  rw [jO (h:=fun _=>0) h,Zo]
theorem Vd {P:Int→Int→Bool}:cnt P=0↔∀ y:Nat,y<65536→∀ x:Nat,x<65536→P x y=false:=by
 unfold cnt
 rw [Vt]
 refine forall_congr' fun y=>forall_congr' fun _ => ?_
 rw [Vt]
 refine forall_congr' fun x=>forall_congr' fun _ => ?_
 cases P x y <;> simp
def inR (r:Re) (x y:Int):Bool:=decide ((r.x0≤x∧x≤r.x1)∧r.y0≤y∧y≤r.y1)
theorem zf {r:Re} {x y:Int}:inR r x y=true↔(r.x0≤x∧x≤r.x1)∧r.y0≤y∧y≤r.y1:=by simp [inR]
theorem Ve {r:Re} (hr:qd r=true):cnt (inR r)=zX r:=by
 have h:=qF.1 hr
 unfold cnt zX
 rw [if_pos hr]
 have e:∀ y:Nat,y<65536→jm (fun x=>if inR r x y then 1 else 0) 65536=if r.y0≤(y:Int)∧(y:Int)≤r.y1 then (r.x1 - r.x0+1).toNat else 0:=fun y _=>by
  by_cases hy:r.y0≤(y:Int)∧(y:Int)≤r.y1
  ·rw [if_pos hy]
   have:=Yq (a:=r.x0) (b:=r.x1) (c:=1) (n:=65536) (by omega) (by omega) (by omega)
   rw [Nat.mul_one] at this
   rw [← this]
   refine jO fun x _ => ?_
   simp [inR,hy]
  ·rw [if_neg hy]
   rw [jO (h:=fun _=>0) fun x _ => ?_,Zo]
   simp only [inR]
   simp
   intro _ _ h3
   omega
 rw [jO (h:=fun y=>if r.y0≤y∧y≤r.y1 then (r.x1 - r.x0+1).toNat else 0) e,Yq (by omega) (by omega) (by omega),← Int.toNat_mul (by omega) (by omega),Int.mul_comm]
theorem WM {a b:Re} {x y:Int}:inR (yH a b) x y=(inR a x y&&inR b x y):=by
 rw [Bool.eq_iff_iff,Bool.and_eq_true,zf,zf,zf]
 simp only [yH]
 omega
theorem Jv {a b:Re} (ha:qd a=true) (hb:qd b=true) {x y:Int} (h1:inR a x y=true) (h2:inR b x y=true):qE a b=true:=by
 have h1:=zf.1 h1
 have h2:=zf.1 h2
 simp only [qE,ha,hb,Bool.true_and,decide_eq_true_iff]
 omega
theorem XJ {a b:Re} (h:qE a b=true):∃ x y,inR a x y=true∧inR b x y=true:=by
 have h1:=h
 simp only [qE,Bool.and_eq_true,decide_eq_true_iff] at h1
 obtain ⟨⟨ha,hb⟩,h2⟩:=h1
 have ha:=qF.1 ha
 have hb:=qF.1 hb
 refine ⟨max a.x0 b.x0,max a.y0 b.y0,zf.2 ?_,zf.2 ?_⟩ <;> omega
def unc (r:Re) (qs:List (Rc Int)) (x y:Int):Bool:=inR r x y && !(qs.any fun q=>inR (jo q) x y)
theorem Xv {r:Re} (hr:qd r=true) {qs:List (Rc Int)} {q:Rc Int} (hq:qd (jo q)=true) (hap:∀ p∈qs,p.x1<q.x0∨p.y1<q.y0) :
  cnt (unc r qs)=cnt (unc r (qs ++ [q]))+(if qE (jo q) r then zX (yH (jo q) r) else 0):=by
 have h1:cnt (unc r qs)=cnt (unc r (qs ++ [q]))+cnt (fun x y=>inR (jo q) x y&&inR r x y):=WX fun x y=>by
  unfold unc
  cases e1:inR r x y with
  | false=>simp
  | true =>
   cases e2:inR (jo q) x y with
   | false=>simp [e2]
   | true =>
    have hno:(qs.any fun q=>inR (jo q) x y)=false:=by
     rw [Bool.eq_false_iff]
     intro e
     obtain ⟨p,hp,hpi⟩:=List.any_eq_true.1 e
     have h3:=zf.1 hpi
     have h4:=zf.1 e2
     have:=hap p hp
     simp only [jo] at h3 h4
     omega
    simp [e2,hno]
 have h2:cnt (fun x y=>inR (jo q) x y&&inR r x y)=if qE (jo q) r then zX (yH (jo q) r) else 0:=by
  cases hm:qE (jo q) r with
  | true =>
   rw [if_pos rfl,← Ve ((Vm hq hr).trans hm)]
   exact Y0 fun x y=>WM.symm
  | false =>
   rw [if_neg (by decide),Vd]
   intro y _ x _
   rw [Bool.eq_false_iff]
   intro e
   rw [Bool.and_eq_true] at e
   rw [Jv hq hr e.1 e.2] at hm
   cases hm
 rw [h1,h2]
theorem Xw (r:Re) (hr:qd r=true) (qs:List (Rc Int)):cnt (unc r qs)≤4294967296:=by
 have h1:cnt (unc r qs)≤cnt (inR r):=qb6 fun x y=>by
  unfold unc
  cases inR r x y <;> cases (qs.any fun q=>inR (jo q) x y) <;> simp
 rw [Ve hr] at h1
 have:=WZ r
 omega
theorem Yy {r:Re} (hr:qd r=true):∀ (qs done:List (Rc Int)) (z:Int),(∀ q∈qs,qd (jo q)=true)→(done++qs).Pairwise (fun p q=>p.x1<q.x0∨p.y1<q.y0) →
  (qs.foldl (ofS r) ((cnt (unc r done):Nat),z)).1=(cnt (unc r (done++qs)):Nat)
 | [],done,z,_,_=>by simp
 | q::qs,done,z,hq,hp=>by
  have hst:=Xv hr (qs:=done) (hq q (by simp)) (fun p hpm=>(List.pairwise_append.1 hp).2.2 p hpm q (by simp))
  have e:done++q::qs=(done ++ [q])++qs:=by simp
  have ih:=fun z=>Yy hr qs (done ++ [q]) z (fun p hpm=>hq p (by simp [hpm])) (by rw [← e]; exact hp)
  have hle:=Xw r hr (done ++ [q])
  have hle2:=Xw r hr done
  rw [List.foldl_cons,e]
  unfold ofS
  cases hm:qE (jo q) r with
  | true =>
   rw [hm,if_pos rfl] at hst
   rw [if_pos rfl]
   simp only
   have w:IntKind.u64.wrap (((cnt (unc r done):Nat):Int) - (zX (yH (jo q) r):Nat))=((cnt (unc r (done ++ [q])):Nat):Int):=by
    rw [hst]
    have:(((cnt (unc r (done ++ [q]))+zX (yH (jo q) r):Nat):Int) - (zX (yH (jo q) r):Nat))=((cnt (unc r (done ++ [q])):Nat):Int):=by omega
    rw [this]
    rw [wrap_u64] <;> omega
   rw [w]
   exact ih _
  | false =>
   rw [hm,if_neg (by decide),Nat.add_zero] at hst
   rw [if_neg (by decide),hst]
   exact ih _
theorem Vy {r:Re}:∀ (qs:List (Rc Int)) (s:Int×Int),((qs.foldl (ofS r) s).2≤s.2∧∀ q∈qs,qE (jo q) r=true→(qs.foldl (ofS r) s).2≤q.z)∧((qs.foldl (ofS r) s).2=s.2∨∃ q∈qs,qE (jo q) r=true∧(qs.foldl (ofS r) s).2=q.z)
 | [],s=>by simp
 | q::qs,s=>by
  obtain ⟨⟨h1,h2⟩,h3⟩:=Vy qs (ofS r s q)
  rw [List.foldl_cons]
  cases hm:qE (jo q) r with
  | false =>
   have e:ofS r s q=s:=by simp [ofS,hm]
   rw [e] at h1 h2 h3 ⊢
   refine ⟨⟨h1,fun p hp hpm => ?_⟩,?_⟩
   ·rcases List.mem_cons.1 hp with rfl | hp
    ·rw [hm] at hpm; cases hpm
    ·exact h2 p hp hpm
   ·rcases h3 with h3 | ⟨p,hp,h4⟩
    ·exact .inl h3
    ·exact .inr ⟨p,by simp [hp],h4⟩
  | true =>
   have e:(ofS r s q).2=if q.z<s.2 then q.z else s.2:=by simp [ofS,hm]
   rw [e] at h1 h3
   generalize (qs.foldl (ofS r) (ofS r s q)).2=m at *
   refine ⟨⟨by split at h1 <;> omega,fun p hp hpm => ?_⟩,?_⟩
   ·rcases List.mem_cons.1 hp with rfl | hp
    ·split at h1 <;> omega
    ·exact h2 p hp hpm
   ·rcases h3 with h3 | ⟨p,hp,h4⟩
    ·split at h3
     ·exact .inr ⟨q,by simp,hm,h3⟩
     ·exact .inl h3
    ·exact .inr ⟨p,by simp [hp],h4⟩
def XY (l:List Ru) (ro ti la:Int) (r:Re) (z:Int):Prop:=(∀ x y,inR r x y=true→z≤vN l ro ti la ⟨x,y⟩)∧∃ x y,inR r x y=true∧vN l ro ti la ⟨x,y⟩=z
theorem XY.uniq {l:List Ru} {ro ti la:Int} {r:Re} {z z':Int} (h:XY l ro ti la r z) (k:XY l ro ti la r z'):z=z':=by
 obtain ⟨h1,x,y,h2,h3⟩:=h
 obtain ⟨k1,x',y',k2,k3⟩:=k
 have:=h1 x' y' k2
 have:=k1 x y h2
 omega
theorem qbS {l:List Ru} {ro ti la:Int} {o:List (Rc Int)} (h:Can.Form (F2 l ro ti la) o) {r:Re} (hr:qd r=true):XY l ro ti la r (ofP o r):=by
 have hri:=qF.1 hr
 have hpr:=K4 h
 have hL:=Yy hr o [] 16 (fun q hq=>(hpr q hq).1) h.apart
 have e0:unc r []=inR r:=funext fun x=>funext fun y=>by simp [unc]
 rw [e0,Ve hr,List.nil_append] at hL
 obtain ⟨⟨hM1,hM2⟩,hM3⟩:=Vy (r:=r) o ((zX r:Nat),16)
 unfold ofP
 rw [hL]
 simp only at hM1 hM3
 generalize (o.foldl (ofS r) ((zX r:Nat),16)).2=m at *
 have hcov:∀ x y q,q∈o→inR (jo q) x y=true→vN l ro ti la ⟨x,y⟩=q.z:=fun x y q hq hi=>by
  have hi:=zf.1 hi
  simp only [jo] at hi
  exact (Vf.1 ((h.iff x y q.z).2 ⟨q,hq,⟨hi.1.1,hi.1.2,hi.2.1,hi.2.2⟩,rfl⟩)).1
 split
 ·rename_i hp
  have hne:cnt (unc r o)≠0:=by omega
  refine ⟨fun x y _=>(QN l ro ti la ⟨x,y⟩).1,?_⟩
  apply Classical.byContradiction
  intro hno
  apply hne
  rw [Vd]
  intro y hy x hx
  rw [Bool.eq_false_iff]
  intro e
  unfold unc at e
  rw [Bool.and_eq_true] at e
  apply hno
  refine ⟨x,y,e.1,?_⟩
  refine VZ.1 ?_
  cases hz:F2 l ro ti la x y with
  | none=>rfl
  | some z =>
   obtain ⟨q,hq,ha,_⟩:=(h.iff _ _ z).1 hz
   have:(o.any fun q=>inR (jo q) x y)=true:=List.any_eq_true.2 ⟨q,hq,zf.2 ⟨⟨ha.1,ha.2.1⟩,ha.2.2.1,ha.2.2.2⟩⟩
   rw [this] at e
   simp at e
 ·rename_i hp
  have hc0:cnt (unc r o)=0:=by omega
  have hall:∀ x y,inR r x y=true→∃ q∈o,inR (jo q) x y=true:=fun x y hi=>by
   have hi':=zf.1 hi
   have:=Vd.1 hc0 y.toNat (by omega) x.toNat (by omega)
   rw [Int.toNat_of_nonneg (by omega),Int.toNat_of_nonneg (by omega)] at this
   unfold unc at this
   rw [hi] at this
   simp at this
   exact this
  refine ⟨fun x y hi => ?_,?_⟩
  ·obtain ⟨q,hq,hqi⟩:=hall x y hi
   rw [hcov x y q hq hqi]
   exact hM2 q hq (Jv (hpr q hq).1 hr hqi hi)
  ·rcases hM3 with hM3 | ⟨q,hq,hqm,hM3⟩
   ·have hi:inR r r.x0 r.y0=true:=zf.2 (by omega)
    obtain ⟨q,hq,hqi⟩:=hall _ _ hi
    refine ⟨_,_,hi,?_⟩
    rw [hcov _ _ q hq hqi]
    have h1:=hM2 q hq (Jv (hpr q hq).1 hr hqi hi)
    have h2:=(hpr q hq).2
    omega
   ·obtain ⟨x,y,h1,h2⟩:=XJ hqm
    exact ⟨x,y,h2,by rw [hcov x y q hq h1,hM3]⟩
theorem JU {l:List Ru} {ro ti la:Int} {r:Re} {x:Int}:∀ (ys:List Int) (z:Int),(Qb l ro ti la r ys z x≤z∧∀ y∈ys,yV r ⟨x,y⟩=true→Qb l ro ti la r ys z x≤vN l ro ti la ⟨x,y⟩)∧(Qb l ro ti la r ys z x=z∨∃ y∈ys,yV r ⟨x,y⟩=true∧Qb l ro ti la r ys z x=vN l ro ti la ⟨x,y⟩)
 | [],z=>by simp [Qb]
 | y::ys,z=>by
  obtain ⟨⟨h1,h2⟩,h3⟩:=JU (x:=x) ys (Yc l ro ti la r z ⟨x,y⟩)
  have e:Qb l ro ti la r (y::ys) z x=Qb l ro ti la r ys (Yc l ro ti la r z ⟨x,y⟩) x:=rfl
  rw [e]
  generalize Qb l ro ti la r ys (Yc l ro ti la r z ⟨x,y⟩) x=m at *
  unfold Yc at h1 h3
  cases hr:yV r ⟨x,y⟩ with
  | false =>
   rw [hr] at h1 h3
   simp only [Bool.false_and,Bool.false_eq_true,if_false] at h1 h3
   refine ⟨⟨h1,fun y' hy hh => ?_⟩,?_⟩
   ·rcases List.mem_cons.1 hy with rfl | hy
    ·rw [hr] at hh; cases hh
    ·exact h2 y' hy hh
   ·rcases h3 with h3 | ⟨y',hy,h4⟩
    ·exact .inl h3
    ·exact .inr ⟨y',by simp [hy],h4⟩
  | true =>
   rw [hr] at h1 h3
   simp only [Bool.true_and,decide_eq_true_iff] at h1 h3
   refine ⟨⟨by split at h1 <;> omega,fun y' hy hh => ?_⟩,?_⟩
   ·rcases List.mem_cons.1 hy with rfl | hy
    ·split at h1 <;> omega
    ·exact h2 y' hy hh
   ·rcases h3 with h3 | ⟨y',hy,h4⟩
    ·split at h3
     ·exact .inr ⟨y,by simp,hr,h3⟩
     ·exact .inl h3
    ·exact .inr ⟨y',by simp [hy],h4⟩
theorem Jt {l:List Ru} {ro ti la:Int} {r:Re} {ys:List Int}:∀ (xs:List Int) (z:Int),(xs.foldl (Qb l ro ti la r ys) z≤z∧∀ x∈xs,∀ y∈ys,yV r ⟨x,y⟩=true→xs.foldl (Qb l ro ti la r ys) z≤vN l ro ti la ⟨x,y⟩) ∧
  (xs.foldl (Qb l ro ti la r ys) z=z∨∃ x∈xs,∃ y∈ys,yV r ⟨x,y⟩=true∧xs.foldl (Qb l ro ti la r ys) z=vN l ro ti la ⟨x,y⟩)
 | [],z=>by simp
 | x::xs,z=>by
  obtain ⟨⟨h1,h2⟩,h3⟩:=Jt (ys:=ys) xs (Qb l ro ti la r ys z x)
  obtain ⟨⟨k1,k2⟩,k3⟩:=JU (l:=l) (ro:=ro) (ti:=ti) (la:=la) (r:=r) (x:=x) ys z
  rw [List.foldl_cons]
  generalize xs.foldl (Qb l ro ti la r ys) (Qb l ro ti la r ys z x)=m at *
  generalize Qb l ro ti la r ys z x=n at *
  refine ⟨⟨by omega,fun x' hx y hy hh => ?_⟩,?_⟩
  ·rcases List.mem_cons.1 hx with rfl | hx
   ·have:=k2 y hy hh
    omega
   ·exact h2 x' hx y hy hh
  ·rcases h3 with h3 | ⟨x',hx,y,hy,hh,h4⟩
   ·rcases k3 with k3 | ⟨y,hy,hh,k4⟩
    ·exact .inl (by omega)
    ·exact .inr ⟨x,by simp,y,hy,hh,by omega⟩
   ·exact .inr ⟨x',by simp [hx],y,hy,hh,h4⟩
theorem Jy:∀ {xs:List Int} {x:Int},(∃ c∈xs,c≤x)→∃ g∈xs,g≤x∧∀ c∈xs,c≤x↔c≤g
 | [],x,h=>by
  obtain ⟨c,hc,_⟩:=h
  cases hc
 | c::xs,x,h=>by
  by_cases hr:∃ d∈xs,d≤x
  ·obtain ⟨g,hg,h1,h2⟩:=Jy hr
   by_cases hc:c≤x∧g<c
   ·refine ⟨c,by simp,hc.1,fun d hd => ?_⟩
    rcases List.mem_cons.1 hd with rfl | hd
    ·omega
    ·have:=h2 d hd
     omega
   ·refine ⟨g,by simp [hg],h1,fun d hd => ?_⟩
    rcases List.mem_cons.1 hd with rfl | hd
    ·omega
    ·exact h2 d hd
  ·obtain ⟨d,hd,hdx⟩:=h
   have hdc:d=c:=by
    rcases List.mem_cons.1 hd with e | hd
    ·exact e
    ·exact absurd ⟨d,hd,hdx⟩ hr
   subst hdc
   refine ⟨d,by simp,hdx,fun e he => ?_⟩
   rcases List.mem_cons.1 he with rfl | he
   ·omega
   ·constructor
    ·intro h; exact absurd ⟨e,he,h⟩ hr
    ·intro h; omega
theorem V6 {l:List Ru} {ro ti la x y x' y':Int} (h:F2 l ro ti la x y=F2 l ro ti la x' y'):vN l ro ti la ⟨x,y⟩=vN l ro ti la ⟨x',y'⟩:=by
 cases e:F2 l ro ti la x y with
 | none =>
  rw [VZ.1 e,VZ.1 (h.symm.trans e)]
 | some z =>
  rw [(Vf.1 e).1,(Vf.1 (h.symm.trans e)).1]
theorem Vz {l:List Ru} (ha:l.all qI=true) {ro ti la:Int} {r:Re} (hr:qd r=true):XY l ro ti la r (Vi l ro ti la r):=by
 have hri:=qF.1 hr
 have hG:=qb9 ha ro ti la
 have mx:∀ d,∀ c∈qg l ++ [r],lo d c∈qN (qg l ++ [r]) d∧hi d c+1∈qN (qg l ++ [r]) d:=fun d c hc=>⟨((yP _ d).2 _).2 (.inr (.inr ⟨c,hc,.inl rfl⟩)),((yP _ d).2 _).2 (.inr (.inr ⟨c,hc,.inr rfl⟩))⟩
 have mb:∀ d,∀ u∈l,∀ c∈u.boxes,lo d c∈qN (qg l ++ [r]) d∧hi d c+1∈qN (qg l ++ [r]) d:=fun d u hu c hc=>mx d c (by simp [K7 hu hc])
 have hx:=fun y=>qiQ hG (yP (qg l ++ [r]) false).1 (mb false) y
 have hy:=qiP hG (yP (qg l ++ [r]) true).1 (mb true)
 have rx:r.x0∈qN (qg l ++ [r]) false:=(mx false r (by simp)).1
 have ry:r.y0∈qN (qg l ++ [r]) true:=(mx true r (by simp)).1
 unfold Vi
 generalize qN (qg l ++ [r]) false=xs at *
 generalize qN (qg l ++ [r]) true=ys at *
 obtain ⟨⟨h1,h2⟩,h3⟩:=Jt (l:=l) (ro:=ro) (ti:=ti) (la:=la) (r:=r) (ys:=ys) xs 16
 generalize xs.foldl (Qb l ro ti la r ys) 16=m at *
 have hh:∀ x y,yV r ⟨x,y⟩=true↔inR r x y=true:=fun x y=>by
  rw [ZR,zf]
  simp [hr]
 refine ⟨fun x y hi => ?_,?_⟩
 ·have hi:=zf.1 hi
  obtain ⟨gx,m1,m2,m3⟩:=Jy (xs:=xs) (x:=x) ⟨_,rx,hi.1.1⟩
  obtain ⟨gy,n1,n2,n3⟩:=Jy (xs:=ys) (x:=y) ⟨_,ry,hi.2.1⟩
  have q1:=(m3 _ rx).1 hi.1.1
  have q2:=(n3 _ ry).1 hi.2.1
  have e1:F2 l ro ti la x y=F2 l ro ti la gx y:=(hx y).same x gx m3
  have e2:F2 l ro ti la gx y=F2 l ro ti la gx gy:=hy.same gx y gy n3
  rw [V6 (e1.trans e2)]
  exact h2 gx m1 gy n1 ((hh _ _).2 (zf.2 (by omega)))
 ·rcases h3 with h3 | ⟨x,hx,y,hy,hxy,h4⟩
  ·have hc:inR r r.x0 r.y0=true:=zf.2 (by omega)
   have h5:=h2 _ rx _ ry ((hh _ _).2 hc)
   have h6:=QN l ro ti la ⟨r.x0,r.y0⟩
   exact ⟨_,_,hc,by omega⟩
  ·exact ⟨x,y,(hh _ _).1 hxy,h4.symm⟩
theorem qbR {l:List Ru} (ha:l.all qI=true) {ro ti la:Int} {r:Re} (hr:qd r=true):ofP (Vq l ro ti la) r=Vi l ro ti la r:=(qbS (X4 ha ro ti la) hr).uniq (Vz ha hr)
end Go.Proofs.YtnconfggojpkcaaGreat
namespace Go.Proofs.YtnconfggojpkcaaGreat
open Go.RowKit Go.ChangeShapes Go.WideShapes Go.ChangeAt AM
section
variable {H:Type}
theorem Xu {P:Program} {t:TypeId} {n:Nat}:∀ {es:List (DataW H)} {e:DataW H},e∈es→n∈e.weights P t→n∈DataW.weightsAll P t es
 | [],e,h,_=>by cases h
 | x::es,e,h,hn=>by
  unfold DataW.weightsAll
  rcases List.mem_cons.1 h with rfl | h
  ·exact List.mem_append_left _ hn
  ·exact List.mem_append_right _ (Xu h hn)
theorem qgS:Tryz.prog.bytesOf 24=32:=by kernel_rfl
theorem qgy:(match Tryz.prog.underlying 95 with | some (.struct fs)=>(fs.toList.map (·.type))[5]? | _=>none)=some 93:=by kernel_rfl
theorem qfk {x:Ru} {e:DataW H} (h:RuD x e) (hw:∀ n∈e.weights Tryz.prog 95,n≤reachBytes):x.boxes.length≤4398046511104:=by
 obtain ⟨parts,e5,rfl,hp,hs⟩:=h
 rcases hs with h0 | ⟨es,sp,rfl,hl,_⟩
 ·rw [h0]; simp
 ·have hu:=Tryz.underlying95
  have ht:=qgy
  rw [hu] at ht
  have hm:=DataW.weights_mem_each (P:=Tryz.prog) ht hp ((es.length+sp.length)*Tryz.prog.bytesOf 24) (by simp [DataW.weights,Tryz.underlying93])
  have:=hw _ (by unfold DataW.weights; rw [hu]; exact hm)
  rw [qgS] at this
  unfold reachBytes at this
  omega
theorem qd4 {xs:List Ru} {d:DataW H} (h:JB (fun (x:Ru) (e:DataW H)=>x.boxes.length≤maxLen∧RuD x e) xs d) (hw:∀ n∈d.weights Tryz.prog 22,n≤reachBytes):∀ x∈xs,x.boxes.length≤4398046511104:=by
 rcases h with rfl | ⟨es,sp,rfl,hl,hx⟩
 ·simp
 ·intro x hm
  obtain ⟨i,hi⟩:=List.getElem?_of_mem hm
  have hil:i<es.length:=by rw [hl]; exact (List.getElem?_eq_some_iff.1 hi).1
  have he:=List.getElem?_eq_getElem hil
  refine qfk (hx i x _ hi he).2 fun n hn=>hw n ?_
  unfold DataW.weights
  rw [Tryz.underlying22]
  exact List.mem_cons_of_mem _ (List.mem_append_left _ (Xu (List.getElem_mem hil) hn))
theorem qah {P:Program} {t:TypeId} {ts:List TypeId} {d:DataW H} {ds:List (DataW H)} (h:(DataW.weightsEach P (t::ts) (d::ds)).all (· ≤ reachBytes)=true):∀ n∈d.weights P t,n≤reachBytes:=fun n hn=>by
 have:=List.all_eq_true.1 h n (by unfold DataW.weightsEach; exact List.mem_append_left _ hn)
 simpa using this
end
end Go.Proofs.YtnconfggojpkcaaGreat
namespace Go.Proofs.YtnconfggojpkcaaGreat
open Go.RowKit AM
attribute [local simp] zQ qU jL zT zq zR zS zo jM zu qV Z8 Qm jC Ql yc ZE vZ slF qG Qo zK yx zA shares jh yt ze Qz QI qY ZF qZ qM vX zH yu Qe qL zD zG vU slV jE jG yE zU ZJ jB jF aMM aUn Qp vW jD zC jA qJ vV Qu vY vS Zw y9 qK Qs ZK zJ zI jH jR ZH eval zZ AM.valOf qm vO yR del SV.refers zY vQ jU shift ldV V.exact V.jg V.ofValue V.vP V.vL V.cells V.one Value.oneCell' ZI QY jV Q5 ZM ZC Qa Zy jl jI Qi ZL y8 yX Qr calm Qt Zn Qk feeds shrinks Qx looks isT Qf vK Qd putAt jT jc Zm sliceB isEq Qg zk qH zO zn qR zl zm qQ zP zi qP ZW Qw yB Zl QZ inO y7 Zi Mix.vT Mix.Qc QB QX qz qj qW zh qO ZV Qq yg yh ZG Zb yw yO Q8 jW V.fixed V.vC
attribute [local simp] vE je yL vH jQ vF vG jP yM vk jN V5 Ja yF QT Jb z0 JL VK Vo VU
theorem jS.YI {l:List Ru} {t m i:Nat} {es:List (Value×V)} {H H1:List Bk} {K:Bk} (hT:Tab H t m l es) (h:jS l t m H H1) (hi:H.length≤i):jS l t m H (H1.set i K):=by
 obtain ⟨⟨es',h1,h2⟩,h3⟩:=h
 have ht:=(List.getElem?_eq_some_iff.1 hT.t).1
 have hm:=(List.getElem?_eq_some_iff.1 hT.m).1
 exact ⟨⟨es',⟨by rw [List.getElem?_set_ne (by omega)]; exact h1.t,by rw [List.getElem?_set_ne (by omega)]; exact h1.m⟩,h2⟩,fun j b hj hb hn=>by
  have hl:=(List.getElem?_eq_some_iff.1 hb).1
  rw [List.getElem?_set_ne (by omega)]
  exact h3 j b hj hb hn⟩
def jJ (s:Sh):Bk := .cells [.v (.sc (.int .i64 s.id)),.v (.sc (.int .i64 s.box.x0)),.v (.sc (.int .i64 s.box.y0)),.v (.sc (.int .i64 s.box.x1)),.v (.sc (.int .i64 s.box.y1)),.v (.sc (.int .i64 s.lab))]
def zmC (l:List Ru) (v:Vw) (x:Sh):Int:=Vi l v.ro v.ti x.lab x.box
def vJ (Z:Sh→Int) (v:Vw) (x:Sh):Option Se:=if yG v&&qd x.box then QE v x.id (lvl v (Z x)) (zW x.box (lvl v (Z x))).1 else none
theorem Ko {l:List Ru} (ha:l.all qI=true) {ro ti la:Int} {r:Re} (hr:qd r=true):(if (QU ro ti la&&qd r)=true then ofP (Vq l ro ti la) r else 0)=Vi l ro ti la r:=by
 cases e:QU ro ti la with
 | true =>
  rw [hr,if_pos (by rfl)]
  exact qbR ha hr
 | false =>
  rw [if_neg (by simp)]
  obtain ⟨_,x,y,_,h⟩:=Vz ha (ro:=ro) (ti:=ti) (la:=la) hr
  rw [← h,qaJ e]
theorem X9 {l:List Ru} (hl:Yk l) (v:Vw) (x:Sh) {t m:Nat} (r c:Nat) (es:List (Value×V)) (H:List Bk) (hT:Tab H t m l es) (hM:VO l es) :
  AFn Tryz.prog 22 [wdC r c t,.agg v.cs,x.v] H fun y H'=>y=seW (vJ (zmC l v) v x)∧jS l t m H H':=by
 have hRt:=qaF v
 have hF:=Jc x.box
 have hZ:=fun H' es' hT' hM'=>gOf l v.ro v.ti x.lab x.box hl.len hl.n t m es' H' hT' hM'
 have hLv:=fun z=>qbk v z
 have hSh:=fun lv b=>qcl v x.id lv b
 unfold vJ zmC
 unfold Vw.cs at hRt hLv hSh ⊢
 unfold Re.v Re.cs at hF hZ hSh
 unfold wdC
 unfold Sh.v Sh.cs
 have hzz:qd x.box=true→(if (QU v.ro v.ti x.lab&&qd x.box)=true then ofP (Vq l v.ro v.ti x.lab) x.box else 0)=Vi l v.ro v.ti x.lab x.box:=Ko hl.all
 generalize (if (QU v.ro v.ti x.lab&&qd x.box)=true then ofP (Vq l v.ro v.ti x.lab) x.box else 0)=zz at *
 refine vwc (fn:=Tryz.f22) rfl ?_
 simp only [Tryz.f22,ql]
 refine AW.seq (vwa [(3,12,[4,3,5])] ?_)
 simp
 have hk1:vI m H (H ++ [wdB r c t,vwB v,jJ x,seB qw]) := .app
 have g0:(H ++ [wdB r c t,vwB v,jJ x,seB qw])[H.length]? = some (wdB r c t):=by simp
 have g1:(H ++ [wdB r c t,vwB v,jJ x,seB qw])[H.length+1]? = some (vwB v):=by simp
 have g2:(H ++ [wdB r c t,vwB v,jJ x,seB qw])[H.length+2]? = some (jJ x):=by simp
 have g3:(H ++ [wdB r c t,vwB v,jJ x,seB qw])[H.length+3]? = some (seB qw):=by simp
 have hT1:Tab (H ++ [wdB r c t,vwB v,jJ x,seB qw]) t m l es:=hT.stays .app
 have hml:=(List.getElem?_eq_some_iff.1 hT.m).1
 change AW _ _ _ _ ⟨_,H ++ [wdB r c t,vwB v,jJ x,seB qw]⟩
 generalize H ++ [wdB r c t,vwB v,jJ x,seB qw]=H1 at *
 have d0:H.length≠m:=by omega
 have d1:H.length+1≠m:=by omega
 have d2:H.length+2≠m:=by omega
 have d3:H.length+3≠m:=by omega
 have hil:H.length≤H.length+3:=by omega
 generalize H.length+1=i1 at *
 generalize H.length+2=i2 at *
 generalize H.length+3=i3 at *
 generalize hi0:H.length=i0 at *
 have hi3:i3<H1.length:=(List.getElem?_eq_some_iff.1 g3).1
 have hst:∀ {H2},H2[i3]? = some (seB qw)→∀ a b c d e f,setCells H2 i3 0 [a,b,c,d,e,f]=H2.set i3 (.cells [.v a,.v b,.v c,.v d,.v e,.v f]):=fun h a b c d e f=>by
  unfold seB at h
  rw [setCells_eq h (by simp)]
  rfl
 have g1':=g1
 have g2':=g2
 unfold vwB at g1'
 unfold jJ at g2'
 have hend:∀ K,jS l t m H (H1.set i3 K):=fun K=>jS.YI hT ⟨⟨es,hT1,hM⟩,hk1⟩ (by omega)
 have hgs:∀ K,(H1.set i3 K)[i3]? = some K:=fun K=>List.getElem?_set_self hi3
 refine AW.seq (vwa [(3,12,[4,3,5])] ?_)
 simp [g1',g2']
 refine qc.pure hRt rfl rfl ?_
 cases hr:yG v with
 | false =>
  have g3':=g3
  unfold seB at g3'
  simp [g1',g2',g3',hst g3,hgs]
  exact ⟨by simp [seW,Se.cs,qw],hend _⟩
 | true =>
  simp [g1',g2']
  refine qc.pure hF rfl rfl ?_
  cases hf:qd x.box with
  | false =>
   have g3':=g3
   unfold seB at g3'
   simp [g1',g2',g3',hst g3,hgs]
   exact ⟨by simp [seW,Se.cs,qw],hend _⟩
  | true =>
   rw [hzz hf] at hZ
   clear hzz
   generalize Vi l v.ro v.ti x.lab x.box=zz at *
   have g0':=g0
   unfold wdB at g0'
   simp [g1',g2']
   refine AW.seq (vwa [(3,12,[4,3,5])] ?_)
   simp [g0',g1',g2']
   refine qc.of (hZ _ _ hT1 hM) ?_
   rintro y H2 ⟨rfl,hK2⟩
   have kp2:=eq_true (hK2.w.Va hT1)
   simp [g0',g1',g2',kp2]
   refine qc.pure (hLv zz) rfl rfl ?_
   simp [g0',g1',g2',kp2]
   generalize lvl v zz=lv at *
   have c1:=hK2.2.cells d1 g1
   have c2:=hK2.2.cells d2 g2
   have c3:=hK2.2.cells d3 g3
   have hK2:=jS.trans hk1 hK2
   have hB:=qdE x.box lv
   generalize zW x.box lv=bx at *
   obtain ⟨bx,bok⟩:=bx
   simp only at hB ⊢
   have hSh:=hSh lv bx
   generalize QE v x.id lv bx=sv at *
   unfold Re.v Re.cs at hB
   rw [Jf] at hSh ⊢
   clear hT1 hM hZ hend hgs hi3 g0 g1 g2 g3 g0' g1' g2' kp2
   have c1':=c1
   have c2':=c2
   unfold vwB at c1'
   unfold jJ at c2'
   refine AW.seq (vwa [(3,12,[4,3,5])] ?_)
   simp [c2']
   refine qc.pure hB rfl rfl ?_
   simp
   rw [qp rfl]
   have hpr:Bk.cells ([V.sc (.int .i64 bx.x0),V.sc (.int .i64 bx.y0),V.sc (.int .i64 bx.x1),V.sc (.int .i64 bx.y1)].map SV.v)=reB bx:=rfl
   rw [hpr]
   have f1:=hget (L := [reB bx]) c1
   have f2:=hget (L := [reB bx]) c2
   have f3:=hget (L := [reB bx]) c3
   have f4:(H2 ++ [reB bx])[H2.length]? = some (reB bx):=by simp
   have hK4:=hK2.app (L := [reB bx])
   clear c1 c2 c3 hK2
   generalize H2 ++ [reB bx]=H4 at *
   generalize H2.length=i5 at *
   have hi3':i3<H4.length:=(List.getElem?_eq_some_iff.1 f3).1
   have hgs':∀ K,(H4.set i3 K)[i3]? = some K:=fun K=>List.getElem?_set_self hi3'
   have f3':=f3
   try unfold vwB at f1
   try unfold jJ at f2
   try unfold seB at f3'
   try unfold reB at f4
   refine AW.seq (vwa [(3,12,[4,3,5])] ?_)
   simp [f1,f2,f4]
   refine qc.pure hSh rfl rfl ?_
   simp [f3',hst f3]
   refine vwa [(3,12,[4,3,5])] ?_
   simp [hgs']
   exact jS.YI hT hK4 (by omega)
def ZB (l:List Ru) (r:List Pr) (s:Nat):Bool:=decide (l.length≤7∧(qg l).length≤10)&&decide (r.length≤30)&&decide (s≤12)
def FwI (l:List Ru) (r:List Pr) (n:Nat) (cs:List V) (k:Nat) (F:Fr) (H:List Bk):Prop:=(k≤7∧∀ j,j<k→(qg (l.take j)).length≤10)∧H = []∧F = [(0,.v (slU l)),(1,.v (lV r)),(2,.v (.sl n 6 cs)),(7,.v (.sc (.int .i64 (qg (l.take k)).length))),(8,.v (.sc (.int .i64 k)))]
theorem qgj (l:List Ru) (hb:∀ r∈l,r.boxes.length≤4398046511104) (r:List Pr) (n:Nat) (cs:List V):PFn Tryz.prog 12 [slU l,lV r,.sl n 6 cs] (.sc (.bool (ZB l r n))):=by
 refine vwc (fn:=Tryz.f12) rfl ?_
 simp only [Tryz.f12,ql]
 refine AW.seq (vwb ?_)
 simp [slU,lV]
 refine AW.seq (vwb ?_)
 simp
 refine AW.seq (AW.seq (vwb ?_))
 simp
 refine AW.block (AW.count l.length (FwI l r n cs) ⟨_,?_,⟨by omega,by omega⟩,rfl,rfl⟩ ?_)
 ·simp [qz,qj,qm,slU,lV,qg]
 rintro k F H hk ⟨⟨hk7,hpre⟩,rfl,rfl⟩
 have hle:=ZU l k
 refine vwb ?_
 by_cases hlt:k<l.length
 ·by_cases h6:6<k
  ·have h6':(6:Int)<k:=by omega
   have e:ZB l r n=false:=by
    unfold ZB
    rw [decide_eq_false (by omega)]
    rfl
   simp [slU,lV,hlt,h6',h6,e]
  ·have h6':¬ (6:Int)<k:=by omega
   by_cases h10:10<(qg (l.take k)).length
   ·have h10':(10:Int)<(qg (l.take k)).length:=by omega
    have e:ZB l r n=false:=by
     unfold ZB
     rw [decide_eq_false (by omega)]
     rfl
    generalize (qg (l.take k)).length=nn at *
    simp [slU,lV,hlt,h6',h6,h10,h10',e]
   ·have h10':¬ (10:Int)<(qg (l.take k)).length:=by omega
    have hrow:=qan hlt
    have hst:(qg (l.take (k+1))).length=(qg (l.take k)).length+l[k].boxes.length:=by rw [VD hlt,List.length_append]
    have hbl:=hb _ (List.getElem_mem hlt)
    have w1:IntKind.i64.wrap ((k:Int)+1)=(k:Int)+1:=by rw [wrap_i64] <;> omega
    have w2:IntKind.i64.wrap (((qg (l.take k)).length:Int)+l[k].boxes.length)=((qg (l.take (k+1))).length:Int):=by rw [hst,wrap_i64] <;> omega
    have hp:∀ j,j<k+1→(qg (l.take j)).length≤10:=fun j hj=>by
     by_cases e:j=k
     ·subst e; omega
     ·exact hpre j (by omega)
    unfold slR at hrow
    generalize hn1:(qg (l.take k)).length=nn at *
    generalize hn2:(qg (l.take (k+1))).length=n2 at *
    simp [slU,lV,hlt,h6',h6,h10,h10',hrow,w1,w2]
    refine ⟨_,?_,⟨by omega,hp⟩,rfl,rfl⟩
    simp [qz,qj,qm,slU,lV,hn2]
 ·have hk':k=l.length:=by omega
  subst hk'
  rw [List.take_length]
  have e:ZB l r n=(decide ((qg l).length≤10)&&decide (r.length≤30)&&decide (n≤12)):=by
   unfold ZB
   congr 2
   rw [decide_eq_decide]
   omega
  simp [slU,lV,e]
  by_cases c1:(qg l).length≤10
  rotate_left
  ·have c1':¬ ((qg l).length:Int)≤10:=by omega
   refine vwb ?_
   simp [c1,c1']
  have c1':((qg l).length:Int)≤10:=by omega
  by_cases c2:r.length≤30
  rotate_left
  ·have c2':¬ (r.length:Int)≤30:=by omega
   refine vwb ?_
   simp [c1,c1',c2,c2']
  have c2':(r.length:Int)≤30:=by omega
  by_cases c3:n≤12
  ·have c3':(n:Int)≤12:=by omega
   refine vwb ?_
   simp [c1,c1',c2,c2',c3,c3']
  ·have c3':¬ (n:Int)≤12:=by omega
   refine vwb ?_
   simp [c1,c1',c2,c2',c3,c3']
section
variable {H0 H H':List Bk} {l:List Ru} {S S':List Pr} {C C':List Sh} {r c t m:Nat} {Tp Tp' Tc Tc':Nat→Prop}
end
theorem WS {l:List Ru} {r:List Pr} {n:Nat} (h:tbR l=true) (hf:ZB l r n=true):Yk l∧l.length≤7∧(qg l).length≤10∧r.length≤30∧n≤12:=by
 unfold tbR at h
 unfold ZB at hf
 simp only [Bool.and_eq_true,decide_eq_true_eq] at h hf
 exact ⟨⟨by omega,by omega,h.2⟩,by omega,by omega,hf.1.2,hf.2⟩
section
variable {H:List Bk} {l:List Ru} {S:List Pr} {C:List Sh} {r c t m:Nat} {Tp Tc:Nat→Prop}
theorem qjr (h:Z9 H l S C r c t m Tp Tc) (hl:Yk l) (v:Vw) (x:Pr):AFn Tryz.prog 20 [wdC r c t,.agg v.cs,x.v] H fun y H'=>y=seW (Zq (zmP l v) v x)∧Kept l t m H H':=by
 obtain ⟨es,h1,h2⟩:=h.tb
 exact qjL hl v x r c es H h1 h2
theorem qgh (h:Z9 H l S C r c t m Tp Tc) (hl:Yk l) (v:Vw) (x:Sh):AFn Tryz.prog 22 [wdC r c t,.agg v.cs,x.v] H fun y H'=>y=seW (vJ (zmC l v) v x)∧Kept l t m H H':=by
 obtain ⟨es,h1,h2⟩:=h.tb
 exact (X9 hl v x r c es H h1 h2).mono' fun y H' h=>⟨h.1,h.2.w⟩
end
theorem qkw (l:List Ru) (hl:l.length≤9223372036854775807) (hb:∀ r∈l,r.boxes.length≤4398046511104) (H:List Bk) :
  AFn Tryz.prog 11 [slU l,.nil,.nil] H fun y H'=>Kp NoB H H'∧(tbR l=false→y = .tup [.agg [.sc (.pointer none),.sc (.pointer none),.sc (.pointer none)],.sc (.bool false)]) ∧
   (tbR l=true→∃ r c t m Tp Tc,y = .tup [wdC r c t,.sc (.bool true)]∧WoJ H H' l [] [] r c t m Tp Tc) := 
 (qdg l hl hb [] (by decide) [] (by decide) H).weak (JW.cons (JW.qgA (sz:=4) (JW.qgA (sz:=6) (JW.refl _))))
theorem wFewE (l:List Ru) (hb:∀ r∈l,r.boxes.length≤4398046511104):PFn Tryz.prog 12 [slU l,.nil,.nil] (.sc (.bool (ZB l [] 0))) :=
 AFn.weak (qgj l hb [] 0 []) (JW.cons (JW.qgA (sz:=4) (JW.qgA (sz:=6) (JW.refl _))))
theorem seE (s:Se):Bk.cells ([V.sc (.int .i64 s.id),V.sc (.int .i64 s.lv),V.sc (.int .i64 s.box.x0),V.sc (.int .i64 s.box.y0),V.sc (.int .i64 s.box.x1),V.sc (.int .i64 s.box.y1)].map SV.v)=seB s:=rfl
end Go.Proofs.YtnconfggojpkcaaGreat
namespace Go.Proofs.YtnconfggojpkcaaGreat
open Go.RowKit Go.ChangeShapes Go.WideShapes AM
section
variable {H:Type} {enc:TypeId×Value→H} {w:World} {base:Nat} {held:Bool} {r:Reach} {b0:Nat} {v:Value} {d:DataW H} {p:List MemPlace}
theorem grLeaves:VT Tryz.prog 6 26=some [.int .i64,.int .i64,.int .i64,.int .i64,.int .i64,.int .i64,.bool,.int .i64]:=by kernel_rfl
theorem grArg (hv:Value.okWide Tryz.prog w r b0 26 v) (h:DataW.Trod enc Tryz.prog w base (fun _=>true) held 26 v d p):∃ x:Gr,Rel (said w) [] (.agg x.cs) v:=by
 obtain ⟨cs,rfl,hc⟩:=qbq Tryz.underlying26 grLeaves hv h
 obtain ⟨x,rfl⟩:=qf9 hc
 exact ⟨x,.agg (Yr (vs:=x.vals))⟩
end
section
variable {H:Type}
theorem qhU:(match Tryz.prog.underlying 32 with | some (.struct fs)=>(fs.toList.map (·.type))[0]? | _=>none)=some 22:=by kernel_rfl
theorem qfd {q:Qv} {d:DataW H} (h:QvD q d) (hw:∀ n∈d.weights Tryz.prog 32,n≤reachBytes):∀ x∈q.l,x.boxes.length≤4398046511104:=by
 obtain ⟨parts,e,rfl,hp,hs⟩:=h
 have hu:=Tryz.underlying32
 have ht:=qhU
 rw [hu] at ht
 refine qd4 hs fun n hn=>hw n ?_
 unfold DataW.weights
 rw [hu]
 exact DataW.weights_mem_each (P:=Tryz.prog) ht hp n hn
theorem qd6 {I:Nat→Nat→Option Value} {φ:List Nat} {n sz:Nat} {cs:List V} {v:Value} (h:Rel I φ (.sl n sz cs) v):n≤9223372036854775807:=by
 cases h with
 | sl _ _ _ h1 h2 _ =>
  unfold maxLen at h2
  omega
 | sl0=>simp
theorem qhT {I:Nat→Nat→Option Value} {φ:List Nat} {q:Qv} {v:Value} (h:Rel I φ q.w v):q.l.length≤9223372036854775807:=by
 unfold Qv.w Qv.cs at h
 cases h with
 | @agg _ vs hl =>
  generalize vs.toList=l at hl
  cases hl with
  | cons h1 h2=>exact qd6 h1
end
end Go.Proofs.YtnconfggojpkcaaGreat
namespace Go.Proofs.YtnconfggojpkcaaGreat
open Go.RowKit AM
theorem Jk {r:Re} {l:Int} (hr:qd r=true) (hl:vR l=true):(zW r l).1=⟨(jy (cellOf r.lo l)).x0,(jy (cellOf r.lo l)).y0,(jy (cellOf r.hi l)).x1,(jy (cellOf r.hi l)).y1⟩:=by
 have hl':=zy.1 hl
 have hs:=Jl hl'.1 hl'.2
 have e1:jy (cellOf r.lo l)=⟨side l*(r.x0/side l),side l*(r.y0/side l),side l*(r.x0/side l)+side l - 1,side l*(r.y0/side l)+side l - 1⟩:=rfl
 have e2:jy (cellOf r.hi l)=⟨side l*(r.x1/side l),side l*(r.y1/side l),side l*(r.x1/side l)+side l - 1,side l*(r.y1/side l)+side l - 1⟩:=rfl
 rw [e1,e2]
 simp [zW,hl,hr,qaD hs.1]
theorem Ze {r:Re} {l:Int} (hr:qd r=true) (hl:vR l=true):qd (zW r l).1=true:=by
 have hl':=zy.1 hl
 have hs:=Jl hl'.1 hl'.2
 have rr:=qF.1 hr
 have hf:=JH hr
 have b1:=Z0 (Qj (yU hf.1 hl'.1 hl'.2))
 have b2:=Z0 (Qj (yU hf.2 hl'.1 hl'.2))
 have e1:jy (cellOf r.lo l)=⟨side l*(r.x0/side l),side l*(r.y0/side l),side l*(r.x0/side l)+side l - 1,side l*(r.y0/side l)+side l - 1⟩:=rfl
 have e2:jy (cellOf r.hi l)=⟨side l*(r.x1/side l),side l*(r.y1/side l),side l*(r.x1/side l)+side l - 1,side l*(r.y1/side l)+side l - 1⟩:=rfl
 rw [Jk hr hl]
 rw [e1] at b1 ⊢
 rw [e2] at b2 ⊢
 simp only at b1 b2
 have m1:side l*(r.x0/side l)≤side l*(r.x1/side l):=Int.mul_le_mul_of_nonneg_left (Int.ediv_le_ediv hs.1 rr.1.2.1) (by omega)
 have m2:side l*(r.y0/side l)≤side l*(r.y1/side l):=Int.mul_le_mul_of_nonneg_left (Int.ediv_le_ediv hs.1 rr.2.2.1) (by omega)
 refine qF.2 ?_
 simp only
 omega
theorem qkB {r:Re} {k l:Int} (hr:qd r=true) (h0:0≤k) (hk:k≤l) (hl:l≤16):inB (zW r l).1 (zW r k).1=true:=by
 have rk:vR k=true:=zy.2 ⟨h0,by omega⟩
 have rl:vR l=true:=zy.2 ⟨by omega,hl⟩
 have hf:=JH hr
 have a:=qcu hf.1 h0 hk hl
 have b:=qcu hf.2 h0 hk hl
 unfold inB
 rw [Ze hr rl,Ze hr rk,Jk hr rl,Jk hr rk]
 simp only [Bool.and_self,Bool.true_and,decide_eq_true_eq]
 omega
theorem qnK {p:Pt} {k l:Int} (hp:fits p=true) (h0:0≤k) (hk:k≤l) (hl:l≤16):inB (jy (cellOf p l)) (jy (cellOf p k))=true:=by
 have a:=qcu hp h0 hk hl
 unfold inB
 rw [Qj (yU hp (by omega) hl),Qj (yU hp h0 (by omega))]
 simp only [Bool.and_self,Bool.true_and,decide_eq_true_eq]
 omega
theorem qk0 {r:Re} (h:qd r=true):inB r grB=true:=by
 have:=qF.1 h
 unfold inB
 rw [h]
 have e:qd grB=true:=by decide
 rw [e]
 have g0:grB.x0=0:=rfl
 have g1:grB.y0=0:=rfl
 have g2:grB.x1=65535:=rfl
 have g3:grB.y1=65535:=rfl
 rw [g0,g1,g2,g3]
 simp only [Bool.and_self,Bool.true_and,decide_eq_true_eq]
 omega
theorem qeN {v:Vw} {g:Gr} (h:yG (Vw.mk v.ro v.ti g)=true):yG (Vw.mk v.ro v.ti Zx)=true:=by
 unfold yG at h ⊢
 simp only [Bool.and_eq_true] at h ⊢
 exact ⟨h.1,by decide⟩
theorem qf0 (v:Vw) {z:Int} (h:z≤16):lvl (Vw.mk v.ro v.ti Zx) z=z:=by
 unfold lvl
 rw [if_neg]
 simp [Zx]
 omega
theorem qiv (v:Vw) (z:Int):lvl v z≤z:=by
 unfold lvl
 split <;> omega
theorem qeL {v:Vw} {id z:Int} {b:Re} (hz:z≠0) (hb:qd b=true):QE (Vw.mk v.ro v.ti Zx) id z b=some ⟨id,z,b⟩:=by
 unfold QE
 have e:(Vw.mk v.ro v.ti Zx).g.void=false∧(Vw.mk v.ro v.ti Zx).g.box=grB:=⟨rfl,rfl⟩
 rw [if_neg]
 rw [e.1,e.2,qk0 hb]
 simp [hz]
theorem Xa {v:Vw} {id z:Int} {b:Re} {s:Se} (h:QE v id z b=some s):z≠0∧s=⟨id,z,b⟩:=by
 unfold QE at h
 split at h
 ·cases h
 ·rename_i h0
  simp only [not_or] at h0
  cases h
  exact ⟨h0.1,rfl⟩
theorem qft {Z:Pr→Int} {v:Vw} {g:Gr} {t:Pr} {s:Se} (hZ:0≤Z t∧Z t≤16) (h:Zq Z (Vw.mk v.ro v.ti g) t=some s):∃ s',Zq Z (Vw.mk v.ro v.ti Zx) t=some s'∧s.lv≤s'.lv∧s.id=s'.id∧inB s'.box s.box=true:=by
 obtain ⟨h1,h2,h3,h4,h5,h6,h7⟩:=qam hZ h
 have hl:=qiv (Vw.mk v.ro v.ti g) (Z t)
 have hr:=KM h1 hZ
 have e:ofR t.at_ (Z t)=(cellOf t.at_ (Z t),true):=by simp [ofR,zy.2 hZ,h2]
 have e2:JD (cellOf t.at_ (Z t))=(jy (cellOf t.at_ (Z t)),true):=by simp [JD,yU h2 hZ.1 hZ.2]
 refine ⟨⟨t.id,Z t,jy (cellOf t.at_ (Z t))⟩,?_,by rw [h4]; exact hl,h3,?_⟩
 ·unfold Zq
  rw [qeN h1,h2,qf0 v hZ.2,e]
  simp only [e2,Bool.and_self,if_true]
  exact qeL (by omega) (Qj (yU h2 hZ.1 hZ.2))
 ·rw [h6]
  exact qnK h2 hr.1 hl hZ.2
theorem qkY {Z:Sh→Int} {v:Vw} {g:Gr} {t:Sh} {s:Se} (hZ:qd t.box=true→0≤Z t∧Z t≤16) (h:vJ Z (Vw.mk v.ro v.ti g) t=some s):∃ s',vJ Z (Vw.mk v.ro v.ti Zx) t=some s'∧s.lv≤s'.lv∧s.id=s'.id∧inB s'.box s.box=true:=by
 unfold vJ at h
 split at h
 ·rename_i hc
  simp only [Bool.and_eq_true] at hc
  have hZ:=hZ hc.2
  obtain ⟨h5,rfl⟩:=Xa h
  have hl:=qiv (Vw.mk v.ro v.ti g) (Z t)
  have hr:=KM hc.1 hZ
  refine ⟨⟨t.id,Z t,(zW t.box (Z t)).1⟩,?_,hl,rfl,?_⟩
  ·unfold vJ
   rw [qeN hc.1,hc.2,qf0 v hZ.2]
   simp only [Bool.and_self,if_true]
   exact qeL (by omega) (Ze hc.2 (zy.2 hZ))
  ·exact qkB hc.2 hr.1 hl hZ.2
 ·cases h
theorem Yo {l:List Ru} (ha:l.all qI=true) (v:Vw) (x:Sh) (hr:qd x.box=true):0≤zmC l v x∧zmC l v x≤16:=by
 obtain ⟨_,a,b,_,h⟩:=Vz ha (ro:=v.ro) (ti:=v.ti) (la:=x.lab) hr
 unfold zmC
 rw [← h]
 exact QN _ _ _ _ _
end Go.Proofs.YtnconfggojpkcaaGreat
namespace Go.Proofs.YtnconfggojpkcaaGreat
open Go.RowKit AM
attribute [local simp] zQ qU jL zT zq zR zS zo jM zu qV Z8 Qm jC Ql yc ZE vZ slF qG Qo zK yx zA shares jh yt ze Qz QI qY ZF qZ qM vX zH yu Qe qL zD zG vU slV jE jG yE zU ZJ jB jF aMM aUn Qp vW jD zC jA qJ vV Qu vY vS Zw y9 qK Qs ZK zJ zI jH jR ZH eval zZ AM.valOf qm vO yR del SV.refers zY vQ jU shift ldV V.exact V.jg V.ofValue V.vP V.vL V.cells V.one Value.oneCell' ZI QY jV Q5 ZM ZC Qa Zy jl jI Qi ZL y8 yX Qr calm Qt Zn Qk feeds shrinks Qx looks isT Qf vK Qd putAt jT jc Zm sliceB isEq Qg zk qH zO zn qR zl zm qQ zP zi qP ZW Qw yB Zl QZ inO y7 Zi Mix.vT Mix.Qc QB QX qz qj qW zh qO ZV Qq yg yh ZG Zb yw yO Q8 jW V.fixed V.vC
attribute [local simp] vE je yL vH jQ vF vG jP yM vk jN V5 Ja yF QT Jb z0 JL VK Vo VU
def NrM (H0:List Bk) (i9 i10:Nat) (b3 b4:Bool) (F:Fr) (H:List Bk):Prop:=H=H0∧F = [(17,.v (.ptr i9 0)),(18,.v (.sc (.bool b3))),(19,.v (.ptr i10 0)),(20,.v (.sc (.bool b4)))]
theorem qnn (q:Qv) (hl:q.l.length≤9223372036854775807) (hb:∀ r∈q.l,r.boxes.length≤4398046511104) (g:Gr) (x:Pr) (s:Sh):AFn Tryz.prog 5 [q.w,.agg g.cs,x.v,s.v] [] fun y _=>y = .sc (.bool true):=by
 have hK:=fun H=>qdS H
 have hW:=fun H=>qkw q.l hl hb H
 have hF:=wFewE q.l hb
 have hA:=wAll'
 have c1:=yT q.l
 unfold Gr.cs at hA
 unfold Qv.w Qv.cs Pr.v Pr.cs Sh.v Sh.cs Gr.cs
 refine vwc (fn:=Tryz.f5) rfl ?_
 simp only [Tryz.f5,ql]
 refine AW.seq (vwb ?_)
 simp [slU]
 have e0 : [qvB q,W9 g,prB x,jJ s][0]? = some (qvB q):=rfl
 have e1 : [qvB q,W9 g,prB x,jJ s][1]? = some (W9 g):=rfl
 have e2 : [qvB q,W9 g,prB x,jJ s][2]? = some (prB x):=rfl
 have e3 : [qvB q,W9 g,prB x,jJ s][3]? = some (jJ s):=rfl
 change AW _ _ _ _ ⟨_,[qvB q,W9 g,prB x,jJ s]⟩
 have hH0 : [qvB q,W9 g,prB x,jJ s].length=4:=rfl
 generalize [qvB q,W9 g,prB x,jJ s]=H0 at *
 have e0':=e0
 unfold qvB at e0'
 refine AW.seq (vwb ?_)
 simp [e0']
 refine qc.of (hW H0) ?_
 rintro y H1 ⟨k1,w0,w1⟩
 have f0:=k1.cells id e0
 have f1:=k1.cells id e1
 have f2:=k1.cells id e2
 have f3:=k1.cells id e3
 have kp1:=eq_true (k1.YF (fun x h=>h))
 cases ht:tbR q.l with
 | false =>
  have:=w0 ht
  subst this
  simp [kp1]
  refine AW.seq (vwb ?_)
  simp
  refine qc.of (hK _) ?_
  rintro y H2 ⟨rfl,k2⟩
  simp
 | true =>
  obtain ⟨r,c,t,m,Tp,Tc,rfl,hJ⟩:=w1 ht
  have hWo:=hJ.ok
  have hH1:4≤H1.length:=by
   have:=(List.getElem?_eq_some_iff.1 f3).1
   omega
  obtain ⟨es0,t0,m0⟩:=hWo.tb
  have mlt:=(List.getElem?_eq_some_iff.1 t0.m).1
  have tlt:=(List.getElem?_eq_some_iff.1 t0.t).1
  have plt:=hWo.tp.lt
  have clt:=hWo.tc.lt
  clear w0 w1 hW k1 hJ e0 e1 e2 e3 e0' t0 m0
  unfold wdC
  simp [kp1]
  rw [qp rfl]
  change AW _ _ _ _ ⟨_,H1 ++ [wdB r c t]⟩
  have g0:=hget (L := [wdB r c t]) f0
  have g1:=hget (L := [wdB r c t]) f1
  have g2:=hget (L := [wdB r c t]) f2
  have g3:=hget (L := [wdB r c t]) f3
  have g4:(H1 ++ [wdB r c t])[H1.length]? = some (wdB r c t):=by simp
  have hl2:(H1 ++ [wdB r c t]).length=H1.length+1:=by simp
  have hW1:=hWo.app (L := [wdB r c t])
  clear f0 f1 f2 f3 hWo kp1
  generalize H1 ++ [wdB r c t]=H2 at *
  generalize H1.length=i4 at *
  have g0':=g0
  try unfold qvB at g0'
  refine AW.seq (vwb ?_)
  simp [g0']
  refine qc.pure hF (by simp [V.qA,V.closed,c1]) rfl ?_
  cases hfw:ZB q.l [] 0 with
  | false =>
   simp
   refine qc.of (hK _) ?_
   rintro y H3 ⟨rfl,k2⟩
   simp
  | true =>
   simp
   obtain ⟨hTb,hl7,hb10,-,-⟩:=WS ht hfw
   have g1':=g1
   have g4':=g4
   try unfold W9 at g1'
   unfold wdB at g4'
   clear g0'
   refine AW.seq (vwb ?_)
   simp [g0]
   rw [qp rfl]
   change AW _ _ _ _ ⟨_,H2 ++ [vwB q.v]⟩
   have a0:=hget (L := [vwB q.v]) g0
   have a1:=hget (L := [vwB q.v]) g1
   have a2:=hget (L := [vwB q.v]) g2
   have a3:=hget (L := [vwB q.v]) g3
   have a4:=hget (L := [vwB q.v]) g4
   have a5:(H2 ++ [vwB q.v])[H2.length]? = some (vwB q.v):=by simp
   have hl3:(H2 ++ [vwB q.v]).length=H2.length+1:=by simp
   have hW3:=hW1.app (L := [vwB q.v])
   generalize H2 ++ [vwB q.v]=H3 at *
   generalize hi5:H2.length=i5 at *
   have est:∀ (HH:List Bk) (j:Nat) (w:Vw),HH[j]? = some (vwB w)→∀ a b c d e f x y,setCells HH j 2 [a,b,c,d,e,f,x,y]=HH.set j (.cells [.v (.sc (.int .i64 w.ro)),.v (.sc (.int .i64 w.ti)),.v a,.v b,.v c,.v d,.v e,.v f,.v x,.v y]):=fun HH j w h a b c d e f x y=>by
    unfold vwB at h
    rw [setCells_eq h (by simp)]
    rfl
   have hAg:Zx.ops=31∧Zx.zoom=16∧Zx.box.x0=0∧Zx.box.y0=0∧Zx.box.x1=65535∧Zx.box.y1=65535∧Zx.void=false∧Zx.til=9:=⟨rfl,rfl,rfl,rfl,rfl,rfl,rfl,rfl⟩
   have a5':=a5
   unfold vwB at a5'
   refine AW.seq (vwb ?_)
   simp
   refine qc.pure hA rfl rfl ?_
   simp [a5',est H3 i5 q.v a5]
   change AW _ _ _ _ ⟨_,H3.set i5 (vwB (Vw.mk q.v.ro q.v.ti Zx))⟩
   have hkp:Kp (fun x=>x=i5) H3 (H3.set i5 (vwB (Vw.mk q.v.ro q.v.ti Zx))):=Kp.refl.set rfl
   have b0:=hkp.cells (by omega) a0
   have b1:=hkp.cells (by omega) a1
   have b2:=hkp.cells (by omega) a2
   have b3:=hkp.cells (by omega) a3
   have b4:=hkp.cells (by omega) a4
   have b5:(H3.set i5 (vwB (Vw.mk q.v.ro q.v.ti Zx)))[i5]? = some (vwB (Vw.mk q.v.ro q.v.ti Zx)):=List.getElem?_set_self (List.getElem?_eq_some_iff.1 a5).1
   have hl4:(H3.set i5 (vwB (Vw.mk q.v.ro q.v.ti Zx))).length=i5+1:=by rw [List.length_set]; omega
   have hW4:=hW3.set (K:=vwB (Vw.mk q.v.ro q.v.ti Zx)) (i:=i5) (fun x hx=>by have:=plt x hx; omega) (fun x hx=>by have:=clt x hx; omega) (by omega) (by omega)
   clear a0 a1 a2 a3 a4 a5 a5' hW3 hkp
   generalize H3.set i5 (vwB (Vw.mk q.v.ro q.v.ti Zx))=H4 at *
   refine AW.seq (vwb ?_)
   simp [b0]
   rw [qp rfl]
   change AW _ _ _ _ ⟨_,H4 ++ [vwB q.v]⟩
   have a0:=hget (L := [vwB q.v]) b0
   have a1:=hget (L := [vwB q.v]) b1
   have a2:=hget (L := [vwB q.v]) b2
   have a3:=hget (L := [vwB q.v]) b3
   have a4:=hget (L := [vwB q.v]) b4
   have a5:=hget (L := [vwB q.v]) b5
   have a6:(H4 ++ [vwB q.v])[H4.length]? = some (vwB q.v):=by simp
   have hW5:=hW4.app (L := [vwB q.v])
   generalize H4 ++ [vwB q.v]=H5 at *
   generalize hi6:H4.length=i6 at *
   have a6':=a6
   have a1':=a1
   unfold vwB at a6'
   try unfold W9 at a1'
   refine AW.seq (vwb ?_)
   simp [a1',a6',est H5 i6 q.v a6]
   change AW _ _ _ _ ⟨_,H5.set i6 (vwB (Vw.mk q.v.ro q.v.ti g))⟩
   have hkp:Kp (fun x=>x=i6) H5 (H5.set i6 (vwB (Vw.mk q.v.ro q.v.ti g))):=Kp.refl.set rfl
   clear b0 b1 b2 b3 b4 b5
   have b0:=hkp.cells (by omega) a0
   have b1:=hkp.cells (by omega) a1
   have b2:=hkp.cells (by omega) a2
   have b3:=hkp.cells (by omega) a3
   have b4:=hkp.cells (by omega) a4
   have b5:=hkp.cells (by omega) a5
   have b6:(H5.set i6 (vwB (Vw.mk q.v.ro q.v.ti g)))[i6]? = some (vwB (Vw.mk q.v.ro q.v.ti g)):=List.getElem?_set_self (List.getElem?_eq_some_iff.1 a6).1
   have hW6:=hW5.set (K:=vwB (Vw.mk q.v.ro q.v.ti g)) (i:=i6) (fun x hx=>by have:=plt x hx; omega) (fun x hx=>by have:=clt x hx; omega) (by omega) (by omega)
   clear a0 a1 a2 a3 a4 a5 a6 a6' a1' hW5 hkp g0 g1 g2 g3 g4 g1' g4'
   generalize H5.set i6 (vwB (Vw.mk q.v.ro q.v.ti g))=H6 at *
   have hN1:=fun s (h:Zq (zmP q.l q.v) (Vw.mk q.v.ro q.v.ti g) x=some s)=>qft (qbu q.l q.v x) h
   have hN2:=fun y (h:vJ (zmC q.l q.v) (Vw.mk q.v.ro q.v.ti g) s=some y)=>qkY (fun hr=>Yo hTb.all q.v s hr) h
   have hs1:=fun H' (h:Z9 H' q.l [] [] r c t m Tp Tc)=>qjr h hTb (Vw.mk q.v.ro q.v.ti g) x
   have hs2:=fun H' (h:Z9 H' q.l [] [] r c t m Tp Tc)=>qjr h hTb (Vw.mk q.v.ro q.v.ti Zx) x
   have hs3:=fun H' (h:Z9 H' q.l [] [] r c t m Tp Tc)=>qgh h hTb (Vw.mk q.v.ro q.v.ti g) s
   have hs4:=fun H' (h:Z9 H' q.l [] [] r c t m Tp Tc)=>qgh h hTb (Vw.mk q.v.ro q.v.ti Zx) s
   have z1:∀ w:Gr,zmP q.l (Vw.mk q.v.ro q.v.ti w)=zmP q.l q.v:=fun _=>rfl
   have z2:∀ w:Gr,zmC q.l (Vw.mk q.v.ro q.v.ti w)=zmC q.l q.v:=fun _=>rfl
   simp only [z1,z2] at hs1 hs2 hs3 hs4
   generalize Zq (zmP q.l q.v) (Vw.mk q.v.ro q.v.ti g) x=o1 at *
   generalize Zq (zmP q.l q.v) (Vw.mk q.v.ro q.v.ti Zx) x=o2 at *
   generalize vJ (zmC q.l q.v) (Vw.mk q.v.ro q.v.ti g) s=o3 at *
   generalize vJ (zmC q.l q.v) (Vw.mk q.v.ro q.v.ti Zx) s=o4 at *
   unfold wdC Vw.cs Pr.v Pr.cs at hs1
   unfold wdC Vw.cs Pr.v Pr.cs at hs2
   unfold wdC Vw.cs Sh.v Sh.cs at hs3
   unfold wdC Vw.cs Sh.v Sh.cs at hs4
   simp only [Jf] at hs1 hs2 hs3 hs4
   try unfold vwB at b5
   try unfold vwB at b6
   try unfold wdB at b4
   try unfold prB at b2
   try unfold jJ at b3
   refine AW.seq (vwb ?_)
   simp [b1,b2,b3,b4,b5,b6]
   refine qc.of (hs1 _ hW6) ?_
   rintro y H7 ⟨rfl,kK⟩
   obtain ⟨es,t1,m1⟩:=hW6.tb
   have f1:=kK.2.cells (qh b1 t1.m) b1
   have f2:=kK.2.cells (qh b2 t1.m) b2
   have f3:=kK.2.cells (qh b3 t1.m) b3
   have f4:=kK.2.cells (qh b4 t1.m) b4
   have f5:=kK.2.cells (qh b5 t1.m) b5
   have f6:=kK.2.cells (qh b6 t1.m) b6
   have kp:=eq_true (kK.Va t1)
   have hW7:=hW6.kept kK
   clear kK t1 m1 b1 b2 b3 b4 b5 b6
   simp [kp]
   rw [qp rfl,seE]
   have b1:=hget (L := [seB (o1.getD qw)]) f1
   have b2:=hget (L := [seB (o1.getD qw)]) f2
   have b3:=hget (L := [seB (o1.getD qw)]) f3
   have b4:=hget (L := [seB (o1.getD qw)]) f4
   have b5:=hget (L := [seB (o1.getD qw)]) f5
   have b6:=hget (L := [seB (o1.getD qw)]) f6
   have b7:(H7 ++ [seB (o1.getD qw)])[H7.length]? = some (seB (o1.getD qw)):=by simp
   have hW7:=hW7.app (L := [seB (o1.getD qw)])
   clear f1 f2 f3 f4 f5 f6
   generalize H7 ++ [seB (o1.getD qw)]=H8 at *
   generalize H7.length=i7 at *
   try unfold seB at b7
   refine AW.seq (vwb ?_)
   simp [b1,b2,b3,b4,b5,b6,b7]
   refine qc.of (hs2 _ hW7) ?_
   rintro y H9 ⟨rfl,kK⟩
   obtain ⟨es,t1,m1⟩:=hW7.tb
   have f1:=kK.2.cells (qh b1 t1.m) b1
   have f2:=kK.2.cells (qh b2 t1.m) b2
   have f3:=kK.2.cells (qh b3 t1.m) b3
   have f4:=kK.2.cells (qh b4 t1.m) b4
   have f5:=kK.2.cells (qh b5 t1.m) b5
   have f6:=kK.2.cells (qh b6 t1.m) b6
   have f7:=kK.2.cells (qh b7 t1.m) b7
   have kp:=eq_true (kK.Va t1)
   have hW7:=hW7.kept kK
   clear kK t1 m1 b1 b2 b3 b4 b5 b6 b7
   simp [kp]
   rw [qp rfl,seE]
   have b1:=hget (L := [seB (o2.getD qw)]) f1
   have b2:=hget (L := [seB (o2.getD qw)]) f2
   have b3:=hget (L := [seB (o2.getD qw)]) f3
   have b4:=hget (L := [seB (o2.getD qw)]) f4
   have b5:=hget (L := [seB (o2.getD qw)]) f5
   have b6:=hget (L := [seB (o2.getD qw)]) f6
   have b7:=hget (L := [seB (o2.getD qw)]) f7
   have b8:(H9 ++ [seB (o2.getD qw)])[H9.length]? = some (seB (o2.getD qw)):=by simp
   have hW7:=hW7.app (L := [seB (o2.getD qw)])
   clear f1 f2 f3 f4 f5 f6 f7
   generalize H9 ++ [seB (o2.getD qw)]=H10 at *
   generalize H9.length=i8 at *
   try unfold seB at b8
   refine AW.seq (vwb ?_)
   simp [b1,b2,b3,b4,b5,b6,b7,b8]
   refine qc.of (hs3 _ hW7) ?_
   rintro y H11 ⟨rfl,kK⟩
   obtain ⟨es,t1,m1⟩:=hW7.tb
   have f1:=kK.2.cells (qh b1 t1.m) b1
   have f2:=kK.2.cells (qh b2 t1.m) b2
   have f3:=kK.2.cells (qh b3 t1.m) b3
   have f4:=kK.2.cells (qh b4 t1.m) b4
   have f5:=kK.2.cells (qh b5 t1.m) b5
   have f6:=kK.2.cells (qh b6 t1.m) b6
   have f7:=kK.2.cells (qh b7 t1.m) b7
   have f8:=kK.2.cells (qh b8 t1.m) b8
   have kp:=eq_true (kK.Va t1)
   have hW7:=hW7.kept kK
   clear kK t1 m1 b1 b2 b3 b4 b5 b6 b7 b8
   simp [kp]
   rw [qp rfl,seE]
   have b1:=hget (L := [seB (o3.getD qw)]) f1
   have b2:=hget (L := [seB (o3.getD qw)]) f2
   have b3:=hget (L := [seB (o3.getD qw)]) f3
   have b4:=hget (L := [seB (o3.getD qw)]) f4
   have b5:=hget (L := [seB (o3.getD qw)]) f5
   have b6:=hget (L := [seB (o3.getD qw)]) f6
   have b7:=hget (L := [seB (o3.getD qw)]) f7
   have b8:=hget (L := [seB (o3.getD qw)]) f8
   have b9:(H11 ++ [seB (o3.getD qw)])[H11.length]? = some (seB (o3.getD qw)):=by simp
   have hW7:=hW7.app (L := [seB (o3.getD qw)])
   clear f1 f2 f3 f4 f5 f6 f7 f8
   generalize H11 ++ [seB (o3.getD qw)]=H12 at *
   generalize H11.length=i9 at *
   try unfold seB at b9
   refine AW.seq (vwb ?_)
   simp [b1,b2,b3,b4,b5,b6,b7,b8,b9]
   refine qc.of (hs4 _ hW7) ?_
   rintro y H13 ⟨rfl,kK⟩
   obtain ⟨es,t1,m1⟩:=hW7.tb
   have f1:=kK.2.cells (qh b1 t1.m) b1
   have f2:=kK.2.cells (qh b2 t1.m) b2
   have f3:=kK.2.cells (qh b3 t1.m) b3
   have f4:=kK.2.cells (qh b4 t1.m) b4
   have f5:=kK.2.cells (qh b5 t1.m) b5
   have f6:=kK.2.cells (qh b6 t1.m) b6
   have f7:=kK.2.cells (qh b7 t1.m) b7
   have f8:=kK.2.cells (qh b8 t1.m) b8
   have f9:=kK.2.cells (qh b9 t1.m) b9
   have kp:=eq_true (kK.Va t1)
   have hW7:=hW7.kept kK
   clear kK t1 m1 b1 b2 b3 b4 b5 b6 b7 b8 b9
   simp [kp]
   rw [qp rfl,seE]
   have b1:=hget (L := [seB (o4.getD qw)]) f1
   have b2:=hget (L := [seB (o4.getD qw)]) f2
   have b3:=hget (L := [seB (o4.getD qw)]) f3
   have b4:=hget (L := [seB (o4.getD qw)]) f4
   have b5:=hget (L := [seB (o4.getD qw)]) f5
   have b6:=hget (L := [seB (o4.getD qw)]) f6
   have b7:=hget (L := [seB (o4.getD qw)]) f7
   have b8:=hget (L := [seB (o4.getD qw)]) f8
   have b9:=hget (L := [seB (o4.getD qw)]) f9
   have b10:(H13 ++ [seB (o4.getD qw)])[H13.length]? = some (seB (o4.getD qw)):=by simp
   have hW7:=hW7.app (L := [seB (o4.getD qw)])
   clear f1 f2 f3 f4 f5 f6 f7 f8 f9
   generalize H13 ++ [seB (o4.getD qw)]=H14 at *
   generalize H13.length=i10 at *
   try unfold seB at b10
   refine AW.sub [(13,.v (.ptr i7 0)),(14,.v (.sc (.bool o1.isSome))),(15,.v (.ptr i8 0)),(16,.v (.sc (.bool o2.isSome))),(17,.v (.ptr i9 0)),(18,.v (.sc (.bool o3.isSome))),(19,.v (.ptr i10 0)),(20,.v (.sc (.bool o4.isSome))),(8,.v (.sc (.bool false)))] (by simp [qbh,qm]) ?_
   have hI:∀ a b:Re,_:=fun a b=>qbK a b
   simp only [Re.v,Re.cs] at hI
   refine AW.mid (NrM H14 i9 i10 o3.isSome o4.isSome) (AW.seq (vwb ?_)) ?_
   ·cases o1 with
    | none =>
     simp
     refine vwb ?_
     simp
     refine ⟨_,?_,rfl,rfl⟩
     simp [qz,qj,qm]
    | some s1 =>
     obtain ⟨s2,rfl,n1,n2,n3⟩:=hN1 s1 rfl
     have hI1:=hI s2.box s1.box
     rw [n3] at hI1
     have n1':¬ s2.lv<s1.lv:=by omega
     simp [b7,b8,n1,n1',n2]
     refine qc.pure hI1 rfl rfl ?_
     simp
     refine vwb ?_
     simp
     refine ⟨_,?_,rfl,rfl⟩
     simp [qz,qj,qm]
   ·rintro F HH ⟨rfl,rfl⟩
    refine vwb ?_
    cases o3 with
    | none =>
     simp
     refine qc.of (hK _) ?_
     rintro y H' ⟨rfl,-⟩
     simp
    | some s1 =>
     obtain ⟨s2,rfl,n1,n2,n3⟩:=hN2 s1 rfl
     have hI1:=hI s2.box s1.box
     rw [n3] at hI1
     have n1':¬ s2.lv<s1.lv:=by omega
     simp [b9,b10,n1,n1',n2]
     refine qc.pure hI1 rfl rfl ?_
     simp
     refine qc.of (hK _) ?_
     rintro y H' ⟨rfl,-⟩
     simp
end Go.Proofs.YtnconfggojpkcaaGreat
