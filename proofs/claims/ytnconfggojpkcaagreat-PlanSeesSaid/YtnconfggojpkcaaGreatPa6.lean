/- Texts that a law rests on, part 6: plain lemmas and what functions of the program do. No condition. -/
import Derived.Shelf.Slices.CompactI
import Derived.Shelf.Slices.In.SortNone
import Derived.Shelf.Sort.Plain
import Derived.Test.YtnconfggojpkcaaGreatPa5
namespace Go.Proofs.YtnconfggojpkcaaGreat
set_option linter.all false
open Go.RowKit AM
set_option maxRecDepth 10000
attribute [local simp] jW zL yA jZ jq jX jY jo yB jr zM Xw Zf jQ Ze yP VX yO slF qU Zg jE Ql zN shares jF Qd zP ZM yt zo VY zq q8 yM jA Qe QN qZ zY jy yJ slV vD vF QM vg Yo jP vE aMM aUn Zh yL jR zX jO qX yK Zv yN yI VD Qo qY Zr Yp jC jB vG qM Yk eval qL AM.valOf qp qO zT del SV.refers zC yG jv shift ldV V.exact V.zh V.ofValue V.yh V.vT V.cells V.one Value.oneCell' Ym Q9 jH Zj Xf VW Qz VP jK zn QY Yt Qm Qg Zo calm Zu JN Zc feeds shrinks ZG looks isT QO vS QD putAt zV zQ JK sliceB isEq QS jg zi jU jm zK jh jl zJ jV jf zH Xt ZE QI JA Za inO yg Z9 Mix.qR Mix.QA Z5 Q7 qD qm q9 je zG Xr Zm y7 y8 Yg ZA zS vZ Zp jL V.fixed V.vO
attribute [local simp] yT jN QE yX vQ yU yV vP QF yR vL qbo Vk vY JX Vl z0 Z0 KN VQ Ws
def yu (n lo hi:Int):Int:=max lo (min hi n)
def Wj (n a b:Int):Int:=if n<a then a - n else if b<n then n - b else 0
def QZ (r:Re) (p:Pt):Int:=if qo r&&fits p then Wj p.x r.x0 r.x1*Wj p.x r.x0 r.x1+Wj p.y r.y0 r.y1*Wj p.y r.y0 r.y1 else 0
def vV (r:Re) (l:Int):Re×Bool:=if jG l&&qo r then (⟨r.x0 - r.x0%side l,r.y0 - r.y0%side l,r.x1 - r.x1%side l+side l - 1,r.y1 - r.y1%side l+side l - 1⟩,true) else (.zero,false)
theorem sq_le {d:Int} (h : -65535≤d∧d≤65535):0≤d*d∧d*d≤4294836225:=by
 refine ⟨by rcases Int.le_total 0 d with h0 | h0; exact Int.mul_nonneg h0 h0; exact Int.mul_nonneg_of_nonpos_of_nonpos h0 h0,?_⟩
 rcases Int.le_total 0 d with h0 | h0
 ·have:=Int.mul_le_mul h.2 h.2 h0 (by omega)
  omega
 ·have:=Int.mul_le_mul (show -d≤65535 by omega) (show -d≤65535 by omega) (show 0 ≤ -d by omega) (by omega)
  rw [Int.neg_mul_neg] at this
  omega
theorem toU64b (z:Int):qeC Tryz.prog 2 108 (.int .i64 z)=some (.int .u64 (IntKind.u64.wrap z)):=qeB Ty.u2 Ty.u108
theorem pclamp (n lo hi:Int):PFn Tryz.prog 161 [.sc (.int .i64 n),.sc (.int .i64 lo),.sc (.int .i64 hi)] (.sc (.int .i64 (yu n lo hi))):=by
 refine AFn.intro (fn:=Tryz.f161) (by kernel_rfl) rfl (by kernel_rfl) (by simp) (AW.ofx [] mixed (by kernel_rfl) ?_)
 simp only [Tryz.f161,qj]
 simp [yu]
 grind
theorem qiR (a b:Int) (h : -65535≤a - b∧a - b≤65535):PFn Tryz.prog 160 [.sc (.int .i64 a),.sc (.int .i64 b)] (.sc (.int .u64 ((a - b)*(a - b)))):=by
 have h1:=sq_le h
 have w1:IntKind.i64.wrap (a - b)=a - b:=by rw [wrap_i64] <;> omega
 have w2:IntKind.i64.wrap ((a - b)*(a - b))=(a - b)*(a - b):=by rw [wrap_i64] <;> omega
 have w3:IntKind.u64.wrap ((a - b)*(a - b))=(a - b)*(a - b):=by rw [wrap_u64] <;> omega
 refine AFn.intro (fn:=Tryz.f160) (by kernel_rfl) rfl (by kernel_rfl) (by simp) (AW.ofx [] mixed (by kernel_rfl) ?_)
 simp only [Tryz.f160,qj]
 simp [toU64b,w1,w2,w3]
theorem qcK {n a b:Int} (h1:0≤n∧n≤65535) (h2:0≤a∧a≤65535) (h3:0≤b∧b≤65535):0≤Wj n a b∧Wj n a b≤65535:=by
 unfold Wj
 split
 ·omega
 ·split <;> omega
theorem X5 {p:Pt} (h:fits p=true):(0≤p.x∧p.x≤65535)∧(0≤p.y∧p.y≤65535):=by simpa [fits,inside] using h
theorem ZH {r:Re} (h:qo r=true):(0≤r.x0∧r.x0≤65535)∧(0≤r.y0∧r.y0≤65535)∧(0≤r.x1∧r.x1≤65535)∧(0≤r.y1∧r.y1≤65535)∧r.x0≤r.x1∧r.y0≤r.y1:=by
 simp [qo,inside] at h
 omega
theorem pnearest (r:Re) (p:Pt) (h1:qo r=true) (h2:fits p=true):PFn Tryz.prog 113 [r.v,p.v] (⟨yu p.x r.x0 r.x1,yu p.y r.y0 r.y1⟩:Pt).v:=by
 have hR:=Zk r
 have hF:=YJ p
 rw [h1] at hR
 rw [h2] at hF
 unfold Re.v Re.cs at hR ⊢
 unfold Pt.v Pt.cs at hF ⊢
 refine AFn.intro (fn:=Tryz.f113) (by kernel_rfl) rfl (by kernel_rfl) (by simp) ?_
 simp only [Tryz.f113,qj]
 refine AW.seq (AW.ofx [(3,13,[3,2])] mixed (by kernel_rfl) ?_)
 simp
 refine AW.seq (AW.ofx [(3,13,[3,2])] mixed (by kernel_rfl) ?_)
 simp
 refine qc.pure hR rfl rfl ?_
 simp
 refine qc.pure hF rfl rfl ?_
 simp
 refine AW.ofx [(3,13,[3,2])] mixed (by kernel_rfl) ?_
 simp
 refine qc.pure (pclamp _ _ _) rfl rfl ?_
 simp
 refine qc.pure (pclamp _ _ _) rfl rfl ?_
 simp [setCells,qh]
theorem papart (p q:Pt) (h1:fits p=true) (h2:fits q=true):PFn Tryz.prog 112 [p.v,q.v] (.sc (.int .u64 ((p.x - q.x)*(p.x - q.x)+(p.y - q.y)*(p.y - q.y)))):=by
 have hP:=YJ p
 have hQ:=YJ q
 rw [h1] at hP
 rw [h2] at hQ
 have r1:=X5 h1
 have r2:=X5 h2
 have q1:=qiR p.x q.x (by omega)
 have q2:=qiR p.y q.y (by omega)
 have s1:=sq_le (d:=p.x - q.x) (by omega)
 have s2:=sq_le (d:=p.y - q.y) (by omega)
 have w3:IntKind.u64.wrap ((p.x - q.x)*(p.x - q.x)+(p.y - q.y)*(p.y - q.y))=(p.x - q.x)*(p.x - q.x)+(p.y - q.y)*(p.y - q.y):=by rw [wrap_u64] <;> omega
 unfold Pt.v Pt.cs at hP hQ ⊢
 refine AFn.intro (fn:=Tryz.f112) (by kernel_rfl) rfl (by kernel_rfl) (by simp) ?_
 simp only [Tryz.f112,qj]
 refine AW.seq (AW.ofx [(3,9,[2,3])] mixed (by kernel_rfl) ?_)
 simp
 refine AW.seq (AW.ofx [(3,9,[2,3])] mixed (by kernel_rfl) ?_)
 simp
 refine qc.pure hP rfl rfl ?_
 simp
 refine qc.pure hQ rfl rfl ?_
 simp
 refine AW.ofx [(3,9,[2,3])] mixed (by kernel_rfl) ?_
 simp
 refine qc.pure q1 rfl rfl ?_
 simp
 refine qc.pure q2 rfl rfl ?_
 simp [w3]
theorem qeD {n a b:Int} (h:a≤b):(n - yu n a b)*(n - yu n a b)=Wj n a b*Wj n a b:=by
 have e:n - yu n a b=Wj n a b∨n - yu n a b = - Wj n a b:=by
  unfold yu Wj
  split
  ·right; omega
  ·split
   ·left; omega
   ·left; omega
 rcases e with e | e
 ·rw [e]
 ·rw [e,Int.neg_mul_neg]
theorem pdist (r:Re) (p:Pt):PFn Tryz.prog 61 [r.v,p.v] (.sc (.int .u64 (QZ r p))):=by
 have hR:=Zk r
 have hF:=YJ p
 have hN:=pnearest r p
 have hA:=papart p ⟨yu p.x r.x0 r.x1,yu p.y r.y0 r.y1⟩
 have hcl:qo r=true→fits p=true→fits ⟨yu p.x r.x0 r.x1,yu p.y r.y0 r.y1⟩=true:=fun h1 h2=>by
  have r1:=ZH h1
  have r2:=X5 h2
  have k1:0≤yu p.x r.x0 r.x1∧yu p.x r.x0 r.x1≤65535:=by unfold yu; omega
  have k2:0≤yu p.y r.y0 r.y1∧yu p.y r.y0 r.y1≤65535:=by unfold yu; omega
  simp [fits,inside,k1,k2]
 unfold Re.v Re.cs at hR hN ⊢
 unfold Pt.v Pt.cs at hF hN hA ⊢
 refine AFn.intro (fn:=Tryz.f61) (by kernel_rfl) rfl (by kernel_rfl) (by simp) ?_
 simp only [Tryz.f61,qj]
 refine AW.seq (AW.ofx [(3,4,[3,2])] mixed (by kernel_rfl) ?_)
 simp
 refine AW.seq (AW.ofx [(3,4,[3,2])] mixed (by kernel_rfl) ?_)
 simp
 refine qc.pure hR rfl rfl ?_
 cases h1:qo r with
 | false =>
  simp [QZ,h1]
 | true =>
  simp
  refine qc.pure hF rfl rfl ?_
  cases h2:fits p with
  | false=>simp [QZ,h1,h2]
  | true =>
   have r1:=ZH h1
   have hd:QZ r p=(p.x - yu p.x r.x0 r.x1)*(p.x - yu p.x r.x0 r.x1)+(p.y - yu p.y r.y0 r.y1)*(p.y - yu p.y r.y0 r.y1):=by
    rw [qeD (by omega),qeD (by omega)]
    simp [QZ,h1,h2]
   rw [hd]
   simp
   refine AW.ofx [(3,4,[3,2])] mixed (by kernel_rfl) ?_
   simp
   refine qc.pure (hN h1 h2) rfl rfl ?_
   simp
   refine qc.pure (hA h2 (hcl h1 h2)) rfl rfl ?_
   simp
theorem qiC {x s:Int} (h:0<s):x - x%s=s*(x/s):=by
 have:=Int.emod_add_mul_ediv x s
 omega
theorem qb9 {l:Int} (h0:0≤l) (h:l≤16):0<side l∧side l≤65536:=⟨two_pos _,qhA (by omega)⟩
theorem psnap (r:Re) (l:Int):PFn Tryz.prog 52 [r.v,.sc (.int .i64 l)] (.tup [(vV r l).1.v,.sc (.bool (vV r l).2)]):=by
 have hR:=Zk r
 unfold Re.v Re.cs at hR ⊢
 refine AFn.intro (fn:=Tryz.f52) (by kernel_rfl) rfl (by kernel_rfl) (by simp) ?_
 simp only [Tryz.f52,qj]
 refine AW.seq (AW.ofx [] mixed (by kernel_rfl) ?_)
 simp
 refine AW.seq (AW.ofx [] mixed (by kernel_rfl) ?_)
 simp
 refine qc.pure (qfs _) rfl rfl ?_
 cases h1:jG l with
 | false=>simp [vV,h1,Re.zero,setCells,qh]
 | true =>
  simp
  refine qc.pure hR rfl rfl ?_
  cases h2:qo r with
  | false=>simp [vV,h1,h2,Re.zero,setCells,qh]
  | true =>
   have hl:=jJ.1 h1
   have rr:=ZH h2
   have hf:=Vv h2
   have hs:=qb9 hl.1 hl.2
   have c1:=yw hf.1 hl.1 hl.2
   have c2:=yw hf.2 hl.1 hl.2
   have o1:=cof r.lo l hl.1 hl.2 (by simp [Re.lo]; omega) (by simp [Re.lo]; omega)
   have o2:=cof r.hi l hl.1 hl.2 (by simp [Re.hi]; omega) (by simp [Re.hi]; omega)
   have b1:=qkh (cellOf r.lo l)
   have b2:=qkh (cellOf r.hi l)
   unfold Qs at b1 b2
   rw [c1] at b1
   rw [c2] at b2
   simp only [if_true] at b1 b2
   have e1:vJ (cellOf r.lo l)=⟨side l*(r.x0/side l),side l*(r.y0/side l),side l*(r.x0/side l)+side l - 1,side l*(r.y0/side l)+side l - 1⟩:=rfl
   have e2:vJ (cellOf r.hi l)=⟨side l*(r.x1/side l),side l*(r.y1/side l),side l*(r.x1/side l)+side l - 1,side l*(r.y1/side l)+side l - 1⟩:=rfl
   rw [e1] at b1
   rw [e2] at b2
   have hsn:vV r l=(⟨side l*(r.x0/side l),side l*(r.y0/side l),side l*(r.x1/side l)+side l - 1,side l*(r.y1/side l)+side l - 1⟩,true):=by
    simp [vV,h1,h2,qiC hs.1]
   rw [hsn]
   clear hsn e1 e2
   generalize cellOf r.lo l=ca at *
   generalize cellOf r.hi l=cb at *
   unfold Re.lo at o1
   unfold Re.hi at o2
   unfold Pt.v Pt.cs Ce.v Ce.cs at o1 o2
   unfold Ce.v Ce.cs Re.v Re.cs at b1 b2
   simp
   refine AW.seq (AW.ofx [] mixed (by kernel_rfl) ?_)
   simp
   refine qc.pure o1 rfl rfl ?_
   simp
   refine qc.pure b1 rfl rfl ?_
   simp [setCells,qh]
   refine AW.seq (AW.ofx [] mixed (by kernel_rfl) ?_)
   simp
   refine qc.pure o2 rfl rfl ?_
   simp
   refine qc.pure b2 rfl rfl ?_
   simp [setCells,qh]
   refine AW.ofx [] mixed (by kernel_rfl) ?_
   simp [setCells,qh]
theorem refSnap (r:Re) (l:Int):PFn Tryz.prog 73 [r.v,.sc (.int .i64 l)] (.tup [(vV r l).1.v,.sc (.bool (vV r l).2)]):=by
 have hR:=Jp r
 unfold Re.v Re.cs at hR ⊢
 refine AFn.intro (fn:=Tryz.f73) (by kernel_rfl) rfl (by kernel_rfl) (by simp) ?_
 simp only [Tryz.f73,qj]
 refine AW.seq (AW.ofx [] mixed (by kernel_rfl) ?_)
 simp
 refine AW.seq (AW.ofx [] mixed (by kernel_rfl) ?_)
 simp
 refine qc.pure (qcm _) rfl rfl ?_
 cases h1:jG l with
 | false=>simp [vV,h1,Re.zero,setCells,qh]
 | true =>
  simp
  refine qc.pure hR rfl rfl ?_
  cases h2:qo r with
  | false=>simp [vV,h1,h2,Re.zero,setCells,qh]
  | true =>
   have hl:=jJ.1 h1
   have rr:=ZH h2
   have hs:=qb9 hl.1 hl.2
   have hS:=qbC l hl.1 hl.2
   have hsn:vV r l=(⟨r.x0 - r.x0%side l,r.y0 - r.y0%side l,r.x1 - r.x1%side l+side l - 1,r.y1 - r.y1%side l+side l - 1⟩,true):=by
    simp [vV,h1,h2]
   rw [hsn]
   generalize side l=s at *
   have md:∀ x,0≤x→x≤65535→0≤x%s∧x%s≤x∧x%s<s:=fun x h0 h1=>⟨Int.emod_nonneg _ (by omega),by
    have e:=Int.emod_add_mul_ediv x s
    have q:=Int.ediv_nonneg h0 (show 0≤s by omega)
    have m:=Int.mul_nonneg (show 0≤s by omega) q
    omega,Int.emod_lt_of_pos _ hs.1⟩
   have w:∀ x,0≤x→x≤65535→Int.tmod x s=x%s∧IntKind.i64.wrap (x - x%s)=x - x%s∧IntKind.i64.wrap (x - x%s+s)=x - x%s+s∧IntKind.i64.wrap (x - x%s+s - 1)=x - x%s+s - 1:=fun x h0 h1=>by
    have:=md x h0 h1
    rw [Int.tmod_eq_emod_of_nonneg h0]
    refine ⟨rfl,?_,?_,?_⟩ <;> rw [wrap_i64] <;> omega
   have wa:=w r.x0 rr.1.1 rr.1.2
   have wb:=w r.y0 rr.2.1.1 rr.2.1.2
   have wc:=w r.x1 rr.2.2.1.1 rr.2.2.1.2
   have wd:=w r.y1 rr.2.2.2.1.1 rr.2.2.2.1.2
   have hs0:¬ s=0:=by omega
   simp
   refine AW.seq (AW.ofx [] mixed (by kernel_rfl) ?_)
   simp
   refine qc.pure hS rfl rfl ?_
   simp
   refine AW.ofx [] mixed (by kernel_rfl) ?_
   simp [X9,hs0,wa,wb,wc,wd,setCells,qh]
def Zl (y:Ent):List V := [.sc (.int .u64 y.k),.sc (.int .u64 y.t),.sc (.int .i64 y.i)]
def qfo (y:Ent):V := .agg (Zl y)
theorem Qr (y:Ent):qfo y = .agg [.sc (.int .u64 y.k),.sc (.int .u64 y.t),.sc (.int .i64 y.i)]:=rfl
theorem Vb (y:Ent):Zl y = [.sc (.int .u64 y.k),.sc (.int .u64 y.t),.sc (.int .i64 y.i)]:=rfl
def YA (es:List Ent):SV := .own true 171 es.length 3 (es.flatMap Zl)
def qB (es:List Ent):Bk := .cells [YA es]
theorem qgi {es:List Ent} {k:Nat} (hk:k<es.length):((es.flatMap Zl).drop (k*3)).take 3=Zl es[k]:=flat_get (enc:=Zl) (fun _=>rfl) hk
theorem lenEn (es:List Ent):(es.flatMap Zl).length=es.length*3:=Js (enc:=Zl) (sz:=3) (fun _=>rfl) es
theorem setEn:∀ {es:List Ent} {k:Nat} (y:Ent),k<es.length→(es.set k y).flatMap Zl=(es.flatMap Zl).take (k*3)++(Zl y++(es.flatMap Zl).drop (k*3+3))
 | x::es,0,y,_=>by simp [Zl]
 | x::es,k+1,y,h=>by
  have ih:=setEn (es:=es) (k:=k) y (by simpa using h)
  have e:(k+1)*3=k*3+3:=by omega
  rw [List.set_cons_succ,List.flatMap_cons,List.flatMap_cons,ih,e]
  simp [Vb x]
theorem takeEn:∀ {es:List Ent} (k:Nat),(es.take k).flatMap Zl=(es.flatMap Zl).take (k*3)
 | [],k=>by simp
 | x::es,0=>by simp
 | x::es,k+1=>by
  have e:(k+1)*3=k*3+3:=by omega
  rw [List.take_succ_cons,List.flatMap_cons,List.flatMap_cons,takeEn (es:=es) k,e]
  simp [Vb x]
theorem zless (x y:Ent):PFn Tryz.prog 264 [qfo x,qfo y] (.sc (.bool (x.lt y))):=by
 rw [Qr,Qr]
 unfold Ent.lt
 refine AFn.intro (fn:=Tryz.f264) (by kernel_rfl) rfl (by kernel_rfl) (by simp) ?_
 simp only [Tryz.f264,qj]
 refine AW.seq (AW.ofx [] mixed (by kernel_rfl) ?_)
 simp
 refine AW.seq (AW.ofx [] mixed (by kernel_rfl) ?_)
 by_cases hk:x.k=y.k
 ·simp [hk]
  refine AW.seq (AW.ofx [] mixed (by kernel_rfl) ?_)
  by_cases ht:x.t=y.t
  ·simp [ht]
   refine AW.ofx [] mixed (by kernel_rfl) ?_
   simp
  ·have ht':(x.t != y.t)=true:=by simpa using ht
   simp [ht,ht']
 ·have hk':(x.k != y.k)=true:=by simpa using hk
  simp [hk,hk']
theorem mLenI (a:Addr) (w:World):(method (Tryz.prog.types.size+Made.depth) 230 (.pointer (some a)) "Len").run Tryz.prog w = .ok (259,.pointer (some a)) w:=by kernel_rfl
theorem mLessI (a:Addr) (w:World):(method (Tryz.prog.types.size+Made.depth) 230 (.pointer (some a)) "Less").run Tryz.prog w = .ok (260,.pointer (some a)) w:=by kernel_rfl
theorem mSwapI (a:Addr) (w:World):(method (Tryz.prog.types.size+Made.depth) 230 (.pointer (some a)) "Swap").run Tryz.prog w = .ok (263,.pointer (some a)) w:=by kernel_rfl
theorem mPushI (a:Addr) (w:World):(method (Tryz.prog.types.size+Made.depth) 230 (.pointer (some a)) "Push").run Tryz.prog w = .ok (262,.pointer (some a)) w:=by kernel_rfl
theorem mPopI (a:Addr) (w:World):(method (Tryz.prog.types.size+Made.depth) 230 (.pointer (some a)) "Pop").run Tryz.prog w = .ok (261,.pointer (some a)) w:=by kernel_rfl
theorem qiZ:Q8 Tryz.prog 230 "Len" 259:=mLenI
theorem qaD:Q8 Tryz.prog 230 "Less" 260:=mLessI
theorem qaC:Q8 Tryz.prog 230 "Swap" 263:=mSwapI
theorem mPushM:Q8 Tryz.prog 230 "Push" 262:=mPushI
theorem mPopM:Q8 Tryz.prog 230 "Pop" 261:=mPopI
section
variable {H:List Bk} {q:Nat} {es:List Ent}
theorem zlen (hq:H[q]? = some (qB es)):AFn Tryz.prog 259 [.ptr q 0] H fun y H'=>y = .sc (.int .i64 es.length)∧H'=H:=by
 unfold qB YA at hq
 refine AFn.intro (fn:=Tryz.f259) (by kernel_rfl) rfl (by kernel_rfl) (by simp) (AW.ofx [] mixed (by kernel_rfl) ?_)
 simp only [Tryz.f259,qj]
 simp [hq]
theorem qhq (hq:H[q]? = some (qB es)) {i j:Nat} (hi:i<es.length) (hj:j<es.length):AFn Tryz.prog 260 [.ptr q 0,.sc (.int .i64 i),.sc (.int .i64 j)] H fun y H'=>y = .sc (.bool (es[i].lt es[j]))∧H'=H:=by
 have h1:=qgi hi
 have h2:=qgi hj
 have hl:=lenEn es
 have hL:=zless es[i] es[j]
 rw [Vb] at h1 h2
 rw [Qr,Qr] at hL
 have b1:3≤(es.flatMap Zl).length - i*3:=by omega
 have b2:3≤(es.flatMap Zl).length - j*3:=by omega
 unfold qB YA at hq
 generalize es.flatMap Zl=fe at *
 refine AFn.intro (fn:=Tryz.f260) (by kernel_rfl) rfl (by kernel_rfl) (by simp) ?_
 simp only [Tryz.f260,qj]
 refine AW.seq (AW.ofx [] mixed (by kernel_rfl) ?_)
 simp
 refine AW.ofx [] mixed (by kernel_rfl) ?_
 simp [hq,hi,hj,h1,h2,b1,b2]
 refine qc.pure hL rfl rfl ?_
 simp
theorem zswap (hq:H[q]? = some (qB es)) {i j:Nat} (hi:i<es.length) (hj:j<es.length):AFn Tryz.prog 263 [.ptr q 0,.sc (.int .i64 i),.sc (.int .i64 j)] H fun y H'=>y = .tup []∧H'=H.set q (qB (Qx es i j)):=by
 have h1:=qgi hi
 have h2:=qgi hj
 have hl:=lenEn es
 have s1:=setEn (es:=es) es[j] hi
 have s2:=setEn (es:=es.set i es[j]) (k:=j) es[i] (by simpa using hj)
 rw [s1] at s2
 rw [Vb] at h1 h2
 rw [Vb,Vb] at s2
 have b1:3≤(es.flatMap Zl).length - i*3:=by omega
 have b2:3≤(es.flatMap Zl).length - j*3:=by omega
 have b3:i*3+3≤(es.flatMap Zl).length:=by omega
 have b4:j*3+3≤(es.flatMap Zl).length:=by omega
 unfold qB YA at hq ⊢
 rw [qb2 hi hj,s2]
 simp only [List.length_set]
 generalize es.flatMap Zl=fe at *
 refine AFn.intro (fn:=Tryz.f263) (by kernel_rfl) rfl (by kernel_rfl) (by simp) ?_
 simp only [Tryz.f263,qj]
 refine AW.ofx [] mixed (by kernel_rfl) ?_
 simp [hq,hi,hj,h1,h2,b1,b2,b3,b4]
 have hql:=(List.getElem?_eq_some_iff.1 hq).1
 rw [qF hq]
 simp only [List.set_cons_zero,List.getElem?_set_self hql,List.getElem?_cons_zero]
 rw [qF (List.getElem?_set_self hql)]
 simp
 omega
theorem ztpush (hq:H[q]? = some (qB es)) (hn:es.length≤1000000) (y:Ent):AFn Tryz.prog 262 [.ptr q 0,.iface 171 (qfo y)] H fun y' H'=>y' = .tup []∧KpA (fun x=>x=q) H H'∧H'[q]? = some (qB (es ++ [y])):=by
 unfold qB YA at hq
 rw [Qr]
 have hap:es.flatMap Zl ++ [.sc (.int .u64 y.k),.sc (.int .u64 y.t),.sc (.int .i64 y.i)]=(es ++ [y]).flatMap Zl:=by simp [Vb y]
 unfold qB YA
 rw [← hap]
 generalize es.flatMap Zl=fe at *
 have hqL:=fun L=>hget (L:=L) hq
 refine AFn.intro (fn:=Tryz.f262) (by kernel_rfl) rfl (by kernel_rfl) (by simp) ?_
 simp only [Tryz.f262,qj]
 refine AW.seq (AW.ofx [(2,8,[0,4])] mixed (by kernel_rfl) ?_)
 simp [setCells,qh]
 refine AW.seq (AW.ofx [(2,8,[0,4])] mixed (by kernel_rfl) ?_)
 simp
 have hq2:=hqL [.cells [.v (.sc (.int .u64 y.k)),.v (.sc (.int .u64 y.t)),.v (.sc (.int .i64 y.i))]]
 have hy2:(H ++ [Bk.cells [.v (.sc (.int .u64 y.k)),.v (.sc (.int .u64 y.t)),.v (.sc (.int .i64 y.i))]])[H.length]? = some (Bk.cells [.v (.sc (.int .u64 y.k)),.v (.sc (.int .u64 y.t)),.v (.sc (.int .i64 y.i))]):=by simp
 have kp:KpA (fun x=>x=q) H (H ++ [Bk.cells [.v (.sc (.int .u64 y.k)),.v (.sc (.int .u64 y.t)),.v (.sc (.int .i64 y.i))]]):=KpA.refl.app
 have hne:q≠H.length:=by
  have:=(List.getElem?_eq_some_iff.1 hq).1
  omega
 generalize H ++ [Bk.cells [.v (.sc (.int .u64 y.k)),.v (.sc (.int .u64 y.t)),.v (.sc (.int .i64 y.i))]]=H2 at *
 have hql:=(List.getElem?_eq_some_iff.1 hq2).1
 have f3:∀ K,(H2.set q K)[q]? = some K:=fun K=>List.getElem?_set_self hql
 have f1:∀ x,qh H2 q 0 x=H2.set q (.cells [x]):=fun x=>qF hq2
 have f2:∀ x z,qh (H2.set q (.cells [x])) q 0 z=H2.set q (.cells [z]):=fun x z=>by
  rw [qF (f3 _),List.set_set]
  rfl
 have f4:∀ K,(H2.set q K)[H.length]? = some (Bk.cells [.v (.sc (.int .u64 y.k)),.v (.sc (.int .u64 y.t)),.v (.sc (.int .i64 y.i))]):=fun K=>by rw [List.getElem?_set_ne hne]; exact hy2
 refine AW.ofx [] mixed (by kernel_rfl) ?_
 simp [hq2,f1,f2,f3,f4]
 exact ⟨by omega,kp.set rfl⟩
theorem ztpop (hq:H[q]? = some (qB es)) (hn:0<es.length) (hm:es.length≤2000000):AFn Tryz.prog 261 [.ptr q 0] H fun y' H'=>y' = .iface 171 (qfo (at_ es (es.length - 1)))∧KpA (fun x=>x=q) H H'∧H'[q]? = some (qB es.dropLast):=by
 obtain ⟨n,hn'⟩:∃ n,es.length=n+1:=⟨es.length - 1,by omega⟩
 have hk:n<es.length:=by omega
 have h1:=qgi hk
 have hl:=lenEn es
 have w1:IntKind.i64.wrap ((es.length:Int) - 1)=(n:Nat):=by rw [wrap_i64] <;> omega
 have hdl:es.dropLast.flatMap Zl=(es.flatMap Zl).take (n*3):=by
  rw [List.dropLast_eq_take,hn',Nat.add_sub_cancel]
  exact takeEn n
 have hb:3≤(es.flatMap Zl).length - n*3:=by omega
 have hlt:(n:Int)<(n:Int)+1:=by omega
 have hat:at_ es (es.length - 1)=es[n]:=by rw [at_eq (by omega)]; simp [hn']
 rw [hat,Qr]
 unfold qB YA at hq ⊢
 rw [hdl,List.length_dropLast]
 rw [Vb] at h1
 generalize es.flatMap Zl=fe at *
 have hqL:=fun L=>hget (L:=L) hq
 refine AFn.intro (fn:=Tryz.f261) (by kernel_rfl) rfl (by kernel_rfl) (by simp) ?_
 simp only [Tryz.f261,qj]
 refine AW.seq (AW.ofx [] mixed (by kernel_rfl) ?_)
 simp
 refine AW.seq (AW.ofx [] mixed (by kernel_rfl) ?_)
 simp [hq,w1]
 refine AW.seq (AW.ofx [] mixed (by kernel_rfl) ?_)
 simp [hq,hk,hn',h1,hb,hlt,setCells,qh]
 have hq2:=hqL [.cells [.v (.sc (.int .u64 es[n].k)),.v (.sc (.int .u64 es[n].t)),.v (.sc (.int .i64 es[n].i))]]
 have hy2:(H ++ [Bk.cells [.v (.sc (.int .u64 es[n].k)),.v (.sc (.int .u64 es[n].t)),.v (.sc (.int .i64 es[n].i))]])[H.length]? = some (Bk.cells [.v (.sc (.int .u64 es[n].k)),.v (.sc (.int .u64 es[n].t)),.v (.sc (.int .i64 es[n].i))]):=by simp
 have kp:KpA (fun x=>x=q) H (H ++ [Bk.cells [.v (.sc (.int .u64 es[n].k)),.v (.sc (.int .u64 es[n].t)),.v (.sc (.int .i64 es[n].i))]]):=KpA.refl.app
 have hne:q≠H.length:=by
  have:=(List.getElem?_eq_some_iff.1 hq).1
  omega
 generalize H ++ [Bk.cells [.v (.sc (.int .u64 es[n].k)),.v (.sc (.int .u64 es[n].t)),.v (.sc (.int .i64 es[n].i))]]=H2 at *
 have hql:=(List.getElem?_eq_some_iff.1 hq2).1
 have f3:∀ K,(H2.set q K)[q]? = some K:=fun K=>List.getElem?_set_self hql
 have f1:∀ x,qh H2 q 0 x=H2.set q (.cells [x]):=fun x=>qF hq2
 have f2:∀ x z,qh (H2.set q (.cells [x])) q 0 z=H2.set q (.cells [z]):=fun x z=>by
  rw [qF (f3 _),List.set_set]
  rfl
 have f4:∀ K,(H2.set q K)[H.length]? = some (Bk.cells [.v (.sc (.int .u64 es[n].k)),.v (.sc (.int .u64 es[n].t)),.v (.sc (.int .i64 es[n].i))]):=fun K=>by rw [List.getElem?_set_ne hne]; exact hy2
 refine AW.seq (AW.ofx [] mixed (by kernel_rfl) ?_)
 simp [hq2,hn',hlt,f1,f2,f3,f4]
 refine ⟨by omega,AW.ofx [] mixed (by kernel_rfl) ?_⟩
 simp [f3,f4]
 exact kp.set rfl
end
section
variable {H:List Bk} {q:Nat} {es:List Ent}
def itV (q:Nat):V := .iface 230 (.ptr q 0)
def UpI (H:List Bk) (q:Nat) (es:List Ent) (j:Nat) (n:Nat) (F:Fr) (H1:List Bk):Prop :=
 ∃ (f:Nat) (l:List Ent),n<l.length∧n≤f∧l.length=es.length∧upF f l n=upF j es j∧H1[q]? = some (qB l)∧KpA (fun x=>x=q) H H1∧F = [(0,.v (itV q)),(1,.v (.sc (.int .i64 n)))]
theorem zup (hq:H[q]? = some (qB es)) {j:Nat} (hj:j<es.length) (hn:es.length≤2000000):AFn Tryz.prog 187 [itV q,.sc (.int .i64 j)] H fun y H'=>y = .tup []∧KpA (fun x=>x=q) H H'∧H'[q]? = some (qB (upF j es j)):=by
 unfold itV
 refine AFn.intro (fn:=Tryz.f187) (by kernel_rfl) rfl (by kernel_rfl) (by simp) ?_
 simp only [Tryz.f187,qj]
 refine AW.block (AW.qbd (UpI H q es j) ⟨j,_,?_,j,es,hj,Nat.le_refl _,rfl,rfl,hq,KpA.refl,rfl⟩ ?_)
 ·simp [qD,qm,qp,itV]
 rintro n F H1 ⟨f,l,hnl,hnf,hll,hup,hq1,k1,rfl⟩
 unfold itV
 by_cases h0:n=0
 ·subst h0
  have hl:l=upF j es j:=by
   rw [← hup]
   cases f with
   | zero=>rfl
   | succ f=>rw [upF,if_neg (by simp)]
  have e0:IntKind.i64.wrap (-1) = -1:=by rw [wrap_i64] <;> omega
  have e1:IntKind.i64.wrap 0=0:=by rw [wrap_i64] <;> omega
  have e2:Int.tdiv (-1) 2=0:=by decide
  refine AW.block (AW.seq (AW.ofx [] mixed (by kernel_rfl) ?_))
  simp [YO,e0,e1,e2]
  refine AW.seq (AW.seq (AW.ofx [] mixed (by kernel_rfl) ?_))
  simp
  refine AW.ofx [] mixed (by kernel_rfl) ?_
  simp
  exact ⟨k1,by rw [← hl]; exact hq1⟩
 ·obtain ⟨f,rfl⟩:∃ f',f=f'+1:=⟨f - 1,by omega⟩
  have w1:IntKind.i64.wrap ((n:Int) - 1)=((n - 1:Nat):Int):=by rw [wrap_i64] <;> omega
  obtain ⟨p,hp⟩:∃ p,p=(n - 1)/2:=⟨_,rfl⟩
  have w2:IntKind.i64.wrap (((n - 1:Nat):Int)/2)=(p:Int):=by
   rw [wrap_i64] <;> omega
  have hne:(((p:Nat):Int)==(n:Int))=false:=by simp; omega
  have hpl:p<l.length:=by omega
  have hL:=qhq hq1 hnl hpl
  have hS:=zswap hq1 hpl hnl
  have a1:=at_eq hnl
  have a2:=at_eq hpl
  rw [← a1,← a2] at hL
  refine AW.block (AW.seq (AW.ofx [] mixed (by kernel_rfl) ?_))
  simp [YO,w1,w2]
  refine AW.seq (AW.seq (AW.ofx [] mixed (by kernel_rfl) ?_))
  simp [hne,qaD.eq,qaD]
  refine qc.of hL ?_
  rintro y H2 ⟨rfl,rfl⟩
  cases hlt:(at_ l n).lt (at_ l p) with
  | false =>
   have hl:l=upF j es j:=by
    rw [← hup,upF,if_neg (by rw [← hp]; simp [hlt])]
   simp
   refine AW.ofx [] mixed (by kernel_rfl) ?_
   simp
   exact ⟨k1,by rw [← hl]; exact hq1⟩
  | true =>
   simp
   refine AW.ofx [] mixed (by kernel_rfl) ?_
   simp
   refine AW.seq (AW.ofx [] mixed (by kernel_rfl) ?_)
   simp [qaC.eq,qaC]
   refine qc.of hS ?_
   rintro y H3 ⟨rfl,rfl⟩
   simp
   refine AW.ofx [] mixed (by kernel_rfl) ?_
   simp
   refine ⟨p,by omega,_,?_,f,Qx l p n,by rw [yS]; omega,by omega,by rw [yS]; exact hll,?_,?_,k1.set rfl,rfl⟩
   ·simp [qD,qm,qp,itV]
   ·rw [← hup,upF,if_pos ⟨h0,by rw [← hp]; exact hlt⟩,← hp]
   ·exact List.getElem?_set_self (List.getElem?_eq_some_iff.1 hq1).1
def DnI (H:List Bk) (q:Nat) (es:List Ent) (n:Nat) (z:Nat) (F:Fr) (H1:List Bk):Prop :=
 ∃ (i f:Nat) (l:List Ent),z=n - i∧i≤n∧n≤f+i∧l.length=es.length∧Zd f l i n=Zd n es 0 n∧H1[q]? = some (qB l)∧KpA (fun x=>x=q) H H1∧F = [(0,.v (itV q)),(1,.v (.sc (.int .i64 0))),(2,.v (.sc (.int .i64 n))),(7,.v (.sc (.int .i64 i)))]
theorem zdown (hq:H[q]? = some (qB es)) {n:Nat} (hn:n<es.length) (hm:es.length≤2000000):AFn Tryz.prog 188 [itV q,.sc (.int .i64 0),.sc (.int .i64 n)] H fun y H'=>KpA (fun x=>x=q) H H'∧H'[q]? = some (qB (Zd n es 0 n)):=by
 unfold itV
 refine AFn.intro (fn:=Tryz.f188) (by kernel_rfl) rfl (by kernel_rfl) (by simp) ?_
 simp only [Tryz.f188,qj]
 refine AW.seq (AW.ofx [] mixed (by kernel_rfl) ?_)
 simp
 refine AW.seq (AW.ofx [] mixed (by kernel_rfl) ?_)
 simp
 refine AW.seq (AW.block (AW.qbd (DnI H q es n) ⟨n,_,?_,0,n,es,rfl,Nat.zero_le _,Nat.le_refl _,rfl,rfl,hq,KpA.refl,rfl⟩ ?_))
 ·simp [qD,qm,qp,itV]
 rintro z F H1 ⟨i,f,l,rfl,hi,hf,hll,hdn,hq1,k1,rfl⟩
 unfold itV
 have w1:IntKind.i64.wrap (2*(i:Int))=2*(i:Int):=by rw [wrap_i64] <;> omega
 have w2:IntKind.i64.wrap (2*(i:Int)+1)=((2*i+1:Nat):Int):=by rw [wrap_i64] <;> omega
 obtain ⟨j1,hj1⟩:∃ j1,j1=2*i+1:=⟨_,rfl⟩
 rw [← hj1] at w2
 have w3:IntKind.i64.wrap ((j1:Int)+1)=((j1+1:Nat):Int):=by rw [wrap_i64] <;> omega
 have hnn:¬ (j1:Int)<0:=by omega
 refine AW.block (AW.seq (AW.ofx [] mixed (by kernel_rfl) ?_))
 simp [w1,w2]
 by_cases hend:n≤j1
 ·have hend':(n:Int)≤j1:=by omega
  have hl:l=Zd n es 0 n:=by
   rw [← hdn]
   cases f with
   | zero=>rfl
   | succ f=>rw [Zd,if_pos (by omega)]
  refine AW.seq (AW.seq (AW.ofx [] mixed (by kernel_rfl) ?_))
  simp [hend']
  refine AW.ofx [] mixed (by kernel_rfl) ?_
  simp
  refine AW.ofx [] mixed (by kernel_rfl) ?_
  simp
  exact ⟨k1,by rw [← hl]; exact hq1⟩
 ·have hend':¬ (n:Int)≤j1:=by omega
  obtain ⟨f,rfl⟩:∃ f',f=f'+1:=⟨f - 1,by omega⟩
  have hj1l:j1<l.length:=by omega
  refine AW.seq (AW.seq (AW.ofx [] mixed (by kernel_rfl) ?_))
  simp [hend',hnn]
  refine AW.ofx [] mixed (by kernel_rfl) ?_
  simp
  refine AW.seq (AW.ofx [] mixed (by kernel_rfl) ?_)
  simp
  obtain ⟨jd,hjd⟩:∃ jd,jd=(if 2*i+2<n∧(at_ l (2*i+2)).lt (at_ l (2*i+1))=true then 2*i+2 else 2*i+1):=⟨_,rfl⟩
  have hup:Zd (f+1) l i n=if (at_ l jd).lt (at_ l i)=true then Zd f (Qx l i jd) jd n else l:=by
   rw [Zd,if_neg (by omega),← hjd]
  refine AW.mid (fun F H'=>H'=H1∧F = [(0,.v (itV q)),(1,.v (.sc (.int .i64 0))),(2,.v (.sc (.int .i64 n))),(7,.v (.sc (.int .i64 i))),(9,.v (.sc (.int .i64 jd)))]) (AW.seq (AW.ofx [] mixed (by kernel_rfl) ?_)) ?_
  ·simp [w3]
   by_cases h2:j1+1<n
   ·have h2':((j1+1:Nat):Int)<n:=by omega
    have hL:=qhq hq1 (show j1+1<l.length by omega) hj1l
    have a1:=at_eq (l:=l) (i:=j1+1) (by omega)
    have a2:=at_eq hj1l
    rw [← a1,← a2] at hL
    simp only [Int.natCast_add,Int.natCast_one] at hL h2'
    refine AW.seq (AW.ofx [] mixed (by kernel_rfl) ?_)
    simp [h2',qaD.eq,qaD]
    refine qc.of hL ?_
    rintro y H2 ⟨rfl,rfl⟩
    cases hlt:(at_ l (j1+1)).lt (at_ l j1) with
    | false =>
     have:jd=j1:=by
      rw [hjd,if_neg,hj1]
      rw [hj1] at hlt
      simp [hlt]
     simp
     refine AW.ofx [] mixed (by kernel_rfl) ?_
     simp
     simp [qD,qm,qp,itV,this]
    | true =>
     have:jd=j1+1:=by
      rw [hjd,if_pos,hj1]
      rw [hj1] at hlt
      exact ⟨by omega,hlt⟩
     simp
     refine AW.ofx [] mixed (by kernel_rfl) ?_
     simp
     simp [qD,qm,qp,itV,this]
   ·have h2':¬ ((j1+1:Nat):Int)<n:=by omega
    simp only [Int.natCast_add,Int.natCast_one] at h2'
    have:jd=j1:=by
     rw [hjd,if_neg (by omega),hj1]
    refine AW.seq (AW.ofx [] mixed (by kernel_rfl) ?_)
    simp [h2']
    refine AW.ofx [] mixed (by kernel_rfl) ?_
    simp
    simp [qD,qm,qp,itV,this]
  ·rintro F H2 ⟨rfl,rfl⟩
   have hjr:i<jd∧jd<n:=by
    rw [hjd]
    split <;> omega
   have hjl:jd<l.length:=by omega
   have hil:i<l.length:=by omega
   have hL:=qhq hq1 hjl hil
   have hS:=zswap hq1 hil hjl
   have a1:=at_eq hjl
   have a2:=at_eq hil
   rw [← a1,← a2] at hL
   unfold itV
   refine AW.seq (AW.seq (AW.ofx [] mixed (by kernel_rfl) ?_))
   simp [qaD.eq,qaD]
   refine qc.of hL ?_
   rintro y H3 ⟨rfl,rfl⟩
   rw [hdn] at hup
   cases hlt:(at_ l jd).lt (at_ l i) with
   | false =>
    rw [hlt] at hup
    simp at hup
    simp
    refine AW.ofx [] mixed (by kernel_rfl) ?_
    simp
    refine AW.ofx [] mixed (by kernel_rfl) ?_
    simp
    exact ⟨k1,by rw [hup]; exact hq1⟩
   | true =>
    rw [hlt] at hup
    simp at hup
    simp
    refine AW.ofx [] mixed (by kernel_rfl) ?_
    simp
    refine AW.seq (AW.ofx [] mixed (by kernel_rfl) ?_)
    simp [qaC.eq,qaC]
    refine qc.of hS ?_
    rintro y H4 ⟨rfl,rfl⟩
    simp
    refine AW.ofx [] mixed (by kernel_rfl) ?_
    simp
    refine ⟨n - jd,by omega,_,?_,jd,f,Qx l i jd,rfl,by omega,by omega,by rw [yS]; exact hll,hup.symm,List.getElem?_set_self (List.getElem?_eq_some_iff.1 hq1).1,k1.set rfl,rfl⟩
    simp [qD,qm,qp,itV]
theorem zhpush (hq:H[q]? = some (qB es)) (hn:es.length≤1000000) (y:Ent):AFn Tryz.prog 155 [itV q,.iface 171 (qfo y)] H fun z H'=>KpA (fun x=>x=q) H H'∧H'[q]? = some (qB (upF es.length (es ++ [y]) es.length)):=by
 have hP:=ztpush hq hn y
 rw [Qr] at hP ⊢
 unfold itV
 refine AFn.intro (fn:=Tryz.f155) (by kernel_rfl) rfl (by kernel_rfl) (by simp) ?_
 simp only [Tryz.f155,qj]
 refine AW.seq (AW.ofx [] mixed (by kernel_rfl) ?_)
 simp [mPushM.eq,mPushM]
 refine qc.of hP ?_
 rintro z H1 ⟨rfl,k1,hq1⟩
 simp
 have hL:=zlen hq1
 have hU:=zup hq1 (j:=es.length) (by simp) (by simp; omega)
 unfold itV at hU
 have w1:IntKind.i64.wrap (es.length:Int)=es.length:=by rw [wrap_i64] <;> omega
 refine AW.ofx [] mixed (by kernel_rfl) ?_
 simp [qiZ.eq,qiZ]
 refine qc.of hL ?_
 rintro z H2 ⟨rfl,rfl⟩
 simp [w1]
 refine qc.of hU ?_
 rintro z H3 ⟨rfl,k3,hq3⟩
 simp
 exact ⟨k1.trans k3,hq3⟩
theorem zhpop (hq:H[q]? = some (qB es)) (h0:0<es.length) (hn:es.length≤2000000):AFn Tryz.prog 158 [itV q] H fun z H'=>z = .iface 171 (qfo (at_ (Zd (es.length - 1) (Qx es 0 (es.length - 1)) 0 (es.length - 1)) (es.length - 1)))∧KpA (fun x=>x=q) H H'∧H'[q]? = some (qB (Zd (es.length - 1) (Qx es 0 (es.length - 1)) 0 (es.length - 1)).dropLast):=by
 obtain ⟨n,hn'⟩:∃ n,es.length=n+1:=⟨es.length - 1,by omega⟩
 have w1:IntKind.i64.wrap ((es.length:Int) - 1)=(n:Nat):=by rw [wrap_i64] <;> omega
 have hL:=zlen hq
 have hS:=zswap hq (i:=0) (j:=n) (by omega) (by omega)
 rw [hn',Nat.add_sub_cancel]
 have hql:=(List.getElem?_eq_some_iff.1 hq).1
 have hq1:(H.set q (qB (Qx es 0 n)))[q]? = some (qB (Qx es 0 n)):=List.getElem?_set_self hql
 have hsl:=yS es 0 n
 have hD:=zdown hq1 (n:=n) (by omega) (by omega)
 unfold itV at hD ⊢
 simp only [Int.natCast_zero] at hS
 refine AFn.intro (fn:=Tryz.f158) (by kernel_rfl) rfl (by kernel_rfl) (by simp) ?_
 simp only [Tryz.f158,qj]
 refine AW.seq (AW.ofx [] mixed (by kernel_rfl) ?_)
 simp
 refine AW.seq (AW.ofx [] mixed (by kernel_rfl) ?_)
 simp [qiZ.eq,qiZ]
 refine qc.of hL ?_
 rintro z H1 ⟨rfl,rfl⟩
 simp [w1]
 refine AW.seq (AW.ofx [] mixed (by kernel_rfl) ?_)
 simp [qaC.eq,qaC]
 refine qc.of hS ?_
 rintro z H2 ⟨rfl,rfl⟩
 simp
 refine AW.seq (AW.ofx [] mixed (by kernel_rfl) ?_)
 simp
 refine qc.of hD ?_
 rintro z H3 ⟨k3,hq3⟩
 simp
 have hdl:=qkc n (Qx es 0 n) 0 n
 have hPo:=ztpop hq3 (by omega) (by omega)
 rw [show (Zd n (Qx es 0 n) 0 n).length - 1=n by omega] at hPo
 refine AW.ofx [] mixed (by kernel_rfl) ?_
 simp [mPopM.eq,mPopM]
 refine qc.of hPo ?_
 rintro z H4 ⟨rfl,k4,hq4⟩
 simp
 exact ⟨(KpA.set (I:=fun x=>x=q) KpA.refl rfl).trans (k3.trans k4),hq4⟩
def QQ (H:List Bk) (q:Nat) (hs:List Ent):Prop:=∃ es,H[q]? = some (qB es)∧Held es hs
theorem QQ.keep {H H':List Bk} {q:Nat} {hs:List Ent} {I:Nat→Prop} (h:QQ H q hs) (k:Kp I H H') (hI:¬ I q):QQ H' q hs:=by
 obtain ⟨es,h1,h2⟩:=h
 exact ⟨es,k.cells hI h1,h2⟩
theorem znew (H:List Bk):AFn Tryz.prog 96 [] H fun y H'=>y = .ptr H.length 0∧H'=H ++ [qB []]:=by
 refine AFn.intro (fn:=Tryz.f96) (by kernel_rfl) rfl (by kernel_rfl) (by simp) ?_
 simp only [Tryz.f96,qj]
 refine AW.seq (AW.ofx [] mixed (by kernel_rfl) ?_)
 simp
 refine AW.seq (AW.ofx [] mixed (by kernel_rfl) ?_)
 simp
 refine AW.qbU (YA []) (id:=H.length) (off:=0) (ks := [.v .nil]) (by simp) rfl ⟨rfl,rfl,by decide⟩ rfl ?_
 rw [qF (cs := [.v .nil]) (by simp)]
 refine AW.ofx [] mixed (by kernel_rfl) ?_
 simp [qB]
theorem zpush {hs:List Ent} (h:QQ H q hs) (hn:hs.length≤1000000) (y:Ent):AFn Tryz.prog 107 [.ptr q 0,qfo y] H fun z H'=>z = .sc (.bool true)∧KpA (fun x=>x=q) H H'∧QQ H' q (put hs y):=by
 obtain ⟨es,hq,hh⟩:=h
 have hP:=zhpush (hget (L := [.cells [.v (.sc (.int .u64 y.k)),.v (.sc (.int .u64 y.t)),.v (.sc (.int .i64 y.i))]]) hq) (by rw [hh.len]; exact hn) y
 have hk:=hh.push y
 unfold itV at hP
 rw [Qr] at hP ⊢
 refine AFn.intro (fn:=Tryz.f107) (by kernel_rfl) rfl (by kernel_rfl) (by simp) ?_
 simp only [Tryz.f107,qj]
 refine AW.seq (AW.ofx [] mixed (by kernel_rfl) ?_)
 simp
 refine AW.seq (AW.ofx [] mixed (by kernel_rfl) ?_)
 simp
 refine AW.seq (AW.ofx [] mixed (by kernel_rfl) ?_)
 simp [setCells,qh]
 refine qc.of hP ?_
 rintro z H1 ⟨k1,hq1⟩
 simp
 refine AW.ofx [] mixed (by kernel_rfl) ?_
 simp
 exact ⟨KpA.refl.app.trans k1,_,hq1,hk⟩
def qhS (hs:List Ent):V:=match hs with
 | [] => .tup [.agg [.sc (.int .u64 0),.sc (.int .u64 0),.sc (.int .i64 0)],.sc (.bool false)]
 | x::_ => .tup [qfo x,.sc (.bool true)]
theorem qjx {H:List Bk} {i:Nat} {a b c:SV} {x y z:V} (h:H[i]? = some (.cells [a,b,c])):setCells H i 0 [x,y,z]=H.set i (.cells [.v x,.v y,.v z]):=by
 have hl:=(List.getElem?_eq_some_iff.1 h).1
 simp only [setCells]
 rw [qF h,qF (List.getElem?_set_self hl)]
 rw [List.set_set,qF (List.getElem?_set_self hl),List.set_set]
 rfl
theorem zpop {hs:List Ent} (h:QQ H q hs) (hn:hs.length≤2000000):AFn Tryz.prog 110 [.ptr q 0] H fun z H'=>z=qhS hs∧KpA (fun x=>x=q) H H'∧QQ H' q hs.tail:=by
 obtain ⟨es,hq,hh⟩:=h
 have hqL:=fun L=>hget (L:=L) hq
 have hq':=fun L=>hget (L:=L) hq
 unfold qB YA at hq'
 have hlen:=hh.len
 refine AFn.intro (fn:=Tryz.f110) (by kernel_rfl) rfl (by kernel_rfl) (by simp) ?_
 simp only [Tryz.f110,qj]
 refine AW.seq (AW.ofx [] mixed (by kernel_rfl) ?_)
 simp
 refine AW.seq (AW.ofx [] mixed (by kernel_rfl) ?_)
 cases hs with
 | nil =>
  have he0:es.length=0:=hlen
  simp [hq',he0,setCells,qh,qhS]
  exact ⟨KpA.refl.app,es,hqL _,hh⟩
 | cons x hs =>
  have hk:=hh.pop
  simp only [List.length_cons] at hlen hn
  have he0:es.length≠0:=by omega
  have hP:=fun L=>zhpop (hqL L) (by omega) (by omega)
  rw [hk.1] at hP
  unfold itV at hP
  rw [Qr] at hP
  have he1:((es.length:Int)==0)=false:=by rw [beq_eq_false_iff_ne]; omega
  simp [hq',he1]
  refine AW.seq (AW.ofx [] mixed (by kernel_rfl) ?_)
  simp
  refine qc.of (hP _) ?_
  rintro z H1 ⟨rfl,k1,hq1⟩
  have hr1:=k1.cells (i:=H.length) (fun e=>by
   have:=(List.getElem?_eq_some_iff.1 hq).1
   omega) (by simp; rfl)
  simp [setCells,qh]
  refine AW.ofx [] mixed (by kernel_rfl) ?_
  have hr2:=hget (L := [.cells [.v (.sc (.int .u64 x.k)),.v (.sc (.int .u64 x.t)),.v (.sc (.int .i64 x.i))]]) hr1
  have hql2:=(List.getElem?_eq_some_iff.1 hr2).1
  have hne:q≠H.length:=by
   have:=(List.getElem?_eq_some_iff.1 hq).1
   omega
  have hqq:=hget (L := [.cells [.v (.sc (.int .u64 x.k)),.v (.sc (.int .u64 x.t)),.v (.sc (.int .i64 x.i))]]) hq1
  have hkp:KpA (fun x=>x=q) H (H1 ++ [.cells [.v (.sc (.int .u64 x.k)),.v (.sc (.int .u64 x.t)),.v (.sc (.int .i64 x.i))]]):=(KpA.refl.app.trans k1).app
  have f4:(H1 ++ [Bk.cells [.v (.sc (.int .u64 x.k)),.v (.sc (.int .u64 x.t)),.v (.sc (.int .i64 x.i))]])[H1.length]? = some (Bk.cells [.v (.sc (.int .u64 x.k)),.v (.sc (.int .u64 x.t)),.v (.sc (.int .i64 x.i))]):=by simp
  generalize H1 ++ [Bk.cells [.v (.sc (.int .u64 x.k)),.v (.sc (.int .u64 x.t)),.v (.sc (.int .i64 x.i))]]=H2 at *
  have f1:∀ a b c,setCells H2 H.length 0 [a,b,c]=H2.set H.length (.cells [.v a,.v b,.v c]):=fun a b c=>qjx hr2
  have f3:∀ K,(H2.set H.length K)[H.length]? = some K:=fun K=>List.getElem?_set_self hql2
  simp [f4,f1,f3,hr2,qhS,Qr]
  refine ⟨?_,_,by rw [List.getElem?_set_ne (Ne.symm hne)]; exact hqq,hk.2⟩
  intro i b hi hb
  by_cases e:i=H.length
  ·have:=(List.getElem?_eq_some_iff.1 hb).1
   omega
  ·rw [List.getElem?_set_ne (Ne.symm e)]
   exact hkp i b hi hb
end
end Go.Proofs.YtnconfggojpkcaaGreat
namespace Go.Proofs.YtnconfggojpkcaaGreat
set_option linter.all false
open Go.RowKit AM
def JO (c:Ce) (S:List Pr):Nat→List Pr
 | 0 => []
 | i+1=>JO c S i++Zt c S i
theorem K9 {c:Ce} {S:List Pr}:(JO c S 4).Perm S:=by
 refine List.perm_iff_count.2 fun x => ?_
 have h:∀ i,(Zt c S i).count x=if JQ x.at_ c.l=i then S.count x else 0:=fun i=>by
  unfold Zt
  split
  ·rename_i e
   exact List.count_filter (by simpa using e)
  ·rename_i e
   refine List.count_eq_zero.2 fun hx=>e ?_
   simpa using (List.mem_filter.1 hx).2
 have hl:=WT x.at_ c.l
 simp only [JO,List.nil_append,List.count_append,h]
 rcases (show JQ x.at_ c.l=0∨JQ x.at_ c.l=1∨JQ x.at_ c.l=2∨JQ x.at_ c.l=3 by omega) with e | e | e | e <;> simp [e]
theorem qeg {q:Qn} {c:Ce} {S:List Pr} {p:Pr→Bool} {G:Nat→Option (List Pr)} {k:Nat→Nat} {l:List Pr} (hl:l = []) (hk:∀ i,i<4→q.kid i=(k i:Int)) (hG:∀ i,i<4→∃ L,G (k i)=some L∧L.Perm ((Zt c S i).filter p)) :
  ∃ L,runs (J8 q fun u a'=>(G a').map (u ++ ·)) l 4=some L∧L.Perm (S.filter p):=by
 subst hl
 have go:∀ i,i≤4→∃ L,runs (J8 q fun u a'=>(G a').map (u ++ ·)) [] i=some L∧L.Perm ((JO c S i).filter p):=by
  intro i
  induction i with
  | zero=>intro _; exact ⟨[],rfl,List.Perm.refl _⟩
  | succ i ih =>
   intro hi
   obtain ⟨L,h1,h2⟩:=ih (by omega)
   obtain ⟨L',h3,h4⟩:=hG i (by omega)
   refine ⟨L++L',?_,?_⟩
   ·rw [qap h1]
    unfold J8
    rw [hk i (by omega),qiA]
    simp [h3]
   ·rw [JO,List.filter_append]
    exact h2.append h4
 obtain ⟨L,h1,h2⟩:=go 4 (Nat.le_refl _)
 exact ⟨L,h1,h2.trans (K9.filter p)⟩
theorem qbh {S:List Pr}:S.filter (fun _=>true)=S:=List.filter_eq_self.2 fun _ _=>rfl
theorem each_ok {b:Nat} {A:List Qn}:∀ (n m a:Nat) (c:Ce) (S:List Pr) (I:List Nat),n+1≤m→Ok n c S→Rep b A n a c S I→∃ L,VH A m a=some L∧L.Perm S:=by
 intro n
 induction n with
 | zero =>
  intro m a c S I hm hO hR
  obtain ⟨m,rfl⟩:∃ m',m=m'+1:=⟨m - 1,by omega⟩
  obtain ⟨q,h1,h2,h3,h4,h5,rfl⟩:=hR
  have hOk:=hO.okN h2 h5 (by rw [h4.length_eq]; exact Nat.le_refl _)
  refine ⟨q.l,?_,h4⟩
  unfold VH
  simp only [h1]
  rw [if_neg (fun e=>e hOk),if_neg (by simp [h3])]
 | succ n ih =>
  intro m a c S I hm hO hR
  obtain ⟨m,rfl⟩:∃ m',m=m'+1:=⟨m - 1,by omega⟩
  rcases hR with ⟨_,q,h1,h2,h3,h4,h5,rfl⟩ | ⟨_,q,J,k,h1,h2,h3,h4,h5,h6,h7,rfl⟩
  ·have hOk:=hO.okN h2 h5 (by rw [h4.length_eq]; exact Nat.le_refl _)
   refine ⟨q.l,?_,h4⟩
   unfold VH
   simp only [h1]
   rw [if_neg (fun e=>e hOk),if_neg (by simp [h3])]
  ·have hOk:=hO.okN h2 h5 (by rw [h4]; simp)
   obtain ⟨L,g1,g2⟩:=qeg (q:=q) (c:=c) (S:=S) (p:=fun _=>true) (G:=VH A m) h4 h6 (fun i hi=>by
    rw [qbh]
    exact ih m (k i) (qA c i) (Zt c S i) (J i) (by omega) (hO.kid hi) (h7 i hi))
   rw [qbh] at g2
   refine ⟨L,?_,g2⟩
   unfold VH
   simp only [h1]
   rw [if_neg (fun e=>e hOk),if_pos h3]
   exact g1
theorem wind_ok {b:Nat} {A:List Qn} {rc:Re} (hrc:qo rc=true):∀ (n m a:Nat) (c:Ce) (S:List Pr) (I:List Nat),n+1≤m→n≤16→Ok n c S→Rep b A n a c S I→∃ L,Yq A rc m a=some L∧L.Perm (S.filter fun r=>zU rc r.at_):=by
 intro n m
 induction m generalizing n with
 | zero=>intro a c S I hm; omega
 | succ m ih =>
  intro a c S I hm hn hO hR
  obtain ⟨q,J0,h1,h2,h3,hI⟩:=hR.head
  have hE:=each_ok n 18 a c S I (by omega) hO hR
  have hbx:Qs q.c=(vJ c,true):=by rw [h2]; simp [Qs,hO.r]
  have hbr:=QH hO.r
  have hin:∀ r∈S,zU (vJ c) r.at_=true:=fun r hr=>(Un.box hO.r).2 (hO.u r hr)
  have hlen:q.l.length≤S.length∧(q.split=false→q.l.Perm S)∧(q.split=true→q.l = []∧∃ n',n=n'+1∧∃ (J:Nat→List Nat) (k:Nat→Nat),(∀ i,i<4→q.kid i=(k i:Int))∧∀ i,i<4→Rep b A n' (k i) (qA c i) (Zt c S i) (J i)):=by
   cases n with
   | zero =>
    obtain ⟨q',g1,g2,g3,g4,g5,g6⟩:=hR
    rw [h1] at g1
    cases g1
    exact ⟨by rw [g4.length_eq]; exact Nat.le_refl _,fun _=>g4,fun e=>by rw [g3] at e; cases e⟩
   | succ n =>
    rcases hR with ⟨_,q',g1,g2,g3,g4,g5,g6⟩ | ⟨_,q',J,k,g1,g2,g3,g4,g5,g6,g7,g8⟩
    ·rw [h1] at g1
     cases g1
     exact ⟨by rw [g4.length_eq]; exact Nat.le_refl _,fun _=>g4,fun e=>by rw [g3] at e; cases e⟩
    ·rw [h1] at g1
     cases g1
     exact ⟨by rw [g4]; simp,fun e=>(by rw [g3] at e; cases e),fun _=>⟨g4,n,rfl,J,k,g6,g7⟩⟩
  have hOk:=hO.okN h2 h3 hlen.1
  unfold Yq
  simp only [h1]
  rw [if_neg (fun e=>e hOk),hbx]
  by_cases c1:q.many=0∨zx (vJ c) rc=false
  ·rw [if_pos c1]
   refine ⟨[],rfl,?_⟩
   have:S.filter (fun r=>zU rc r.at_) = []:=List.filter_eq_nil_iff.2 fun r hr he=>by
    rcases c1 with c1 | c1
    ·rw [h3] at c1
     have:=List.length_pos_of_mem hr
     omega
    ·have e1:=jT.1 (hin r hr)
     have e2:=jT.1 he
     simp [zx,hbr,hrc] at c1
     have:=c1 (by omega) (by omega) (by omega)
     omega
   rw [this]
  ·rw [if_neg c1]
   by_cases c2:inB (vJ c) rc=true
   ·rw [if_pos c2]
    obtain ⟨L,g1,g2⟩:=hE
    refine ⟨L,g1,?_⟩
    rw [List.filter_eq_self.2]
    ·exact g2
    ·intro r hr
     have e1:=jT.1 (hin r hr)
     simp [inB,hbr,hrc] at c2
     refine jT.2 ⟨hrc,?_⟩
     omega
   ·rw [if_neg c2]
    by_cases c3:q.split=true
    ·obtain ⟨g4,n',rfl,J,k,g6,g7⟩:=hlen.2.2 c3
     rw [if_pos c3]
     exact qeg (by rw [g4]; rfl) g6 fun i hi=>ih n' (k i) (qA c i) (Zt c S i) (J i) (by omega) (by omega) (hO.kid hi) (g7 i hi)
    ·rw [if_neg c3]
     exact ⟨_,rfl,(hlen.2.1 (by simpa using c3)).filter _⟩
theorem qgR {n a0 a1 b0 b1:Int} (h0:b0≤a0) (h1:a1≤b1) (h2:a0≤a1):Wj n b0 b1≤Wj n a0 a1:=by
 unfold Wj
 split <;> split <;> (try split) <;> (try split) <;> omega
theorem qiE {x y:Int} (h0:0≤x) (h:x≤y):x*x≤y*y:=Int.mul_le_mul h h h0 (by omega)
theorem qkd {a b:Re} (p:Pt) (ha:qo a=true) (hb:qo b=true) (h:b.x0≤a.x0∧b.y0≤a.y0∧a.x1≤b.x1∧a.y1≤b.y1):QZ b p≤QZ a p:=by
 unfold QZ
 rw [ha,hb]
 cases hp:fits p with
 | false=>simp
 | true =>
  have ra:=ZH ha
  have rb:=ZH hb
  have rp:=X5 hp
  have g1:=qcK rp.1 rb.1 rb.2.2.1
  have g2:=qcK rp.2 rb.2.1 rb.2.2.2.1
  have m1:=qgR (n:=p.x) h.1 h.2.2.1 ra.2.2.2.2.1
  have m2:=qgR (n:=p.y) h.2.1 h.2.2.2 ra.2.2.2.2.2
  have s1:=qiE g1.1 m1
  have s2:=qiE g2.1 m2
  simp only [Bool.and_self,if_true]
  omega
theorem qjM {α β:Type} {f:α→β} {x:β} {tl:List β}:∀ {its:List α},(x::tl).Perm (its.map f)→∃ it its',f it=x∧its.Perm (it::its')∧tl.Perm (its'.map f):=by
 intro its h
 have hx:x∈its.map f:=h.mem_iff.1 (List.mem_cons_self ..)
 obtain ⟨it,hit,rfl⟩:=List.mem_map.1 hx
 obtain ⟨a,b,rfl⟩:=List.append_of_mem hit
 refine ⟨it,a++b,rfl,List.perm_middle,?_⟩
 have h2:((a++it::b).map f).Perm (f it::(a++b).map f):=List.perm_middle.map f
 exact List.Perm.cons_inv (h.trans h2)
theorem sort_min {x:Ent} {m:List Ent} (h:∀ y∈m,y.lt x=false):sort (x::m)=x::sort m:=by
 refine Jl (Zn _) (List.pairwise_cons.2 ⟨fun y hy=>h y ((jD m).mem_iff.1 hy),Zn m⟩) ?_
 exact (jD _).trans ((jD m).symm.cons x)
end Go.Proofs.YtnconfggojpkcaaGreat
namespace Go.Proofs.YtnconfggojpkcaaGreat
set_option linter.all false
open Go.RowKit AM
set_option maxRecDepth 10000
theorem qd3 {S:List Pr} {k:Int} {s:Pr} (h:qct S k=some s):s∈S∧s.id=k:=⟨List.mem_of_find?_eq_some h,by simpa using List.find?_some h⟩
theorem qaw {S:List Pr} {k:Int} (h:qct S k=none):∀ t∈S,t.id≠k:=fun t ht=>by simpa using List.find?_eq_none.1 h t ht
theorem pfnd_of {S:List Pr} (hn:(S.map Pr.id).Nodup) {s:Pr} (hs:s∈S):qct S s.id=some s:=by
 cases h:qct S s.id with
 | none=>exact absurd rfl (qaw h s hs)
 | some t =>
  obtain ⟨h1,h2⟩:=qd3 h
  rw [qiT hn h1 hs h2]
theorem pfnd_no {S:List Pr} {k:Int} (h:∀ t∈S,t.id≠k):qct S k=none:=List.find?_eq_none.2 fun t ht=>by simpa using h t ht
theorem qjL {S S':List Pr} (hn:(S'.map Pr.id).Nodup) (hp:S.Perm S') (k:Int):qct S k=qct S' k:=by
 cases h:qct S k with
 | none=>exact (pfnd_no fun t ht=>qaw h t (hp.mem_iff.2 ht)).symm
 | some s =>
  obtain ⟨h1,rfl⟩:=qd3 h
  exact (pfnd_of hn (hp.mem_iff.1 h1)).symm
def qf4 (S:List Pr):List Pr:=S.mergeSort fun p q=>decide (p.id≤q.id)
theorem Zy (S:List Pr):(qf4 S).Perm S:=List.mergeSort_perm _ _
theorem qf3 (S:List Pr):(qf4 S).Pairwise fun p q=>p.id≤q.id:=by
 have:=List.pairwise_mergeSort (le:=fun p q:Pr=>decide (p.id≤q.id)) (fun a b c h1 h2=>by simp at *; omega) (fun a b=>by simp; omega) S
 simpa [qf4] using this
theorem qeS {S L:List Pr} (hn:(S.map Pr.id).Nodup) (hp:L.Perm S) (hr:L.Pairwise fun p q=>p.id≤q.id):L=qf4 S :=
 List.Perm.eq_of_pairwise (le:=fun p q:Pr=>p.id≤q.id) (fun x y hx hy h1 h2=>qiT hn (hp.mem_iff.1 hx) ((Zy S).mem_iff.1 hy) (Int.le_antisymm h1 h2)) hr (qf3 S) (hp.trans (Zy S).symm)
structure TrQ (H:List Bk) (r b nb mb cap:Nat) (s:Ar) (es:List Pr) (I:List Nat) (S:List Pr):Prop where
 tr:TrA H r b nb mb cap s es
 rep:Rep b s.A 16 0 Qy S I
 fit:Fit s I []
 ok:Ok 16 Qy S
 ids:(S.map Pr.id).Nodup
 es:es.Perm S
def TrP (H:List Bk) (r b:Nat) (S:List Pr) (T:Nat→Prop):Prop:=∃ nb mb cap s es I,TrQ H r b nb mb cap s es I S∧∀ x,T x↔x=r∨x=nb∨x=mb
theorem TrQ.pos {H:List Bk} {r b nb mb cap:Nat} {s:Ar} {es:List Pr} {I:List Nat} {S:List Pr} (h:TrQ H r b nb mb cap s es I S):0<s.A.length:=by
 obtain ⟨q,J,h1,_⟩:=h.rep.head
 exact (List.getElem?_eq_some_iff.1 h1).1
theorem TrQ.keep {H H':List Bk} {r b nb mb cap:Nat} {s:Ar} {es:List Pr} {I:List Nat} {S:List Pr} {U:Nat→Prop} (h:TrQ H r b nb mb cap s es I S) (hk:Kp U H H') (h1:¬ U r) (h2:¬ U nb) (h3:¬ U mb):TrQ H' r b nb mb cap s es I S:=⟨h.tr.kp3 hk h1 (fun _=>h2) h3,h.rep,h.fit,h.ok,h.ids,h.es⟩
theorem TrP.keep {H H':List Bk} {r b:Nat} {S:List Pr} {T U:Nat→Prop} (h:TrP H r b S T) (hk:Kp U H H') (hd:∀ x,T x→¬ U x):TrP H' r b S T:=by
 obtain ⟨nb,mb,cap,s,es,I,h,hT⟩:=h
 exact ⟨nb,mb,cap,s,es,I,h.keep hk (hd _ ((hT _).2 (.inl rfl))) (hd _ ((hT _).2 (.inr (.inl rfl)))) (hd _ ((hT _).2 (.inr (.inr rfl)))),hT⟩
theorem TrP.YE {H H':List Bk} {r b:Nat} {S:List Pr} {T:Nat→Prop} (h:TrP H r b S T) (hk:Kp NoB H H'):TrP H' r b S T:=h.keep hk fun _ _=>id
theorem TrP.app {H L:List Bk} {r b:Nat} {S:List Pr} {T:Nat→Prop} (h:TrP H r b S T):TrP (H++L) r b S T:=h.YE Kp.refl.app
theorem TrP.lt {H:List Bk} {r b:Nat} {S:List Pr} {T:Nat→Prop} (h:TrP H r b S T):∀ x,T x→x<H.length:=by
 obtain ⟨nb,mb,cap,s,es,I,h,hT⟩:=h
 intro x hx
 rcases (hT x).1 hx with rfl | rfl | rfl
 ·exact h.tr.rl
 ·exact (List.getElem?_eq_some_iff.1 (h.tr.cn (by have:=h.tr.le; have:=h.pos; omega))).1
 ·exact (List.getElem?_eq_some_iff.1 h.tr.cm).1
theorem TrP.ids {H:List Bk} {r b:Nat} {S:List Pr} {T:Nat→Prop} (h:TrP H r b S T):(S.map Pr.id).Nodup:=by
 obtain ⟨nb,mb,cap,s,es,I,h,hT⟩:=h
 exact h.ids
theorem un_root {p:Pt} (h:fits p=true):Un Qy p:=⟨h,qbW (yw h (by omega) (by omega))⟩
theorem qa5:zk Qy=true:=by decide
theorem cap_big:0+qcZ 16≤big:=by decide
theorem toNo {H H':List Bk} (h:KpA (fun _=>False) H H'):Kp NoB H H':=h.YV
theorem pNew (v:Int) (H:List Bk):AFn Tryz.prog 39 [.sc (.int .i64 v)] H fun y H'=>(newE v=false→y = .tup [.sc (.pointer none),.sc (.int .i64 1)]∧H'=H)∧(newE v=true→∃ r b T,y = .tup [.ptr r 0,.sc (.int .i64 0)]∧v=(b:Nat)∧TrP H' r b [] T∧Kp NoB H H'∧∀ x,T x→H.length≤x):=by
 refine AFn.conv (wNew v H) ?_
 rintro y H' ⟨h1,h2⟩
 refine ⟨y,⟨h1,fun hv => ?_⟩,fun _ _ _ h=>h⟩
 obtain ⟨r,nb,mb,cap,b,s,rfl,hb,hl,hT,k1,k2,k3,k4⟩:=h2 hv
 have hs:s=⟨[ZL Qy],[]⟩:=by
  simp [V8,big] at hl
  exact hl.symm
 subst hs
 have hlf:LfR [ZL Qy] 0 Qy [] [0]:=⟨_,rfl,rfl,rfl,List.Perm.refl _,rfl,rfl⟩
 exact ⟨r,b,fun x=>x=r∨x=nb∨x=mb,rfl,hb,⟨nb,mb,cap,_,[],[0],⟨hT,.inl ⟨Nat.zero_le _,hlf⟩,⟨List.Perm.refl _,by simp [big]⟩,⟨qa5,by decide,fun r hr=>(by cases hr),by simp⟩,List.nodup_nil,List.Perm.refl _⟩,fun x=>Iff.rfl⟩,toNo k4,fun x hx=>by omega⟩
section
variable {H:List Bk} {r b:Nat} {S:List Pr} {T:Nat→Prop}
theorem TrQ.b1 {nb mb cap:Nat} {s:Ar} {es:List Pr} {I:List Nat} (h:TrQ H r b nb mb cap s es I S):1≤b:=h.tr.b0.1
theorem qkq.to {nb mb nb':Nat} {H':List Bk} (h:qkq r nb mb H H' nb') (hT:∀ x,T x↔x=r∨x=nb∨x=mb):Kp T H H'∧∀ x,(x=r∨x=nb'∨x=mb)→T x∨H.length≤x:=by
 refine ⟨h.kp.weak fun x hx=>(hT x).2 hx,?_⟩
 rintro x (rfl | rfl | rfl)
 ·exact .inl ((hT _).2 (.inl rfl))
 ·rcases h.nb with e | e
  ·exact .inl ((hT _).2 (.inr (.inl e)))
  ·exact .inr e
 ·exact .inl ((hT _).2 (.inr (.inr rfl)))
def qgJ (S:List Pr) (rc:Pr):List Pr:=if WU S rc=0 then rc::S else S
theorem qj1 {S':List Pr} (hn:(S'.map Pr.id).Nodup) (hp:S.Perm S') (rc:Pr):WU S rc=WU S' rc:=by
 unfold WU
 rw [qjL hn hp]
theorem qej {rc:Pr} (h:WU S rc=0):fits rc.at_=true∧∀ t∈S,t.id≠rc.id:=by
 unfold WU at h
 split at h
 ·rename_i hf
  split at h
  ·cases h
  ·rename_i hp
   refine ⟨hf,qaw ?_⟩
   simpa using hp
 ·cases h
theorem TrQ.put {nb mb cap:Nat} {s:Ar} {es:List Pr} {I:List Nat} (h:TrQ H r b nb mb cap s es I S) {rc:Pr} (hf:fits rc.at_=true) (hi:∀ t∈S,t.id≠rc.id) (hl:S.length<1000000):∃ s' I',qdq b 18 s 0 rc=some s'∧Rep b s'.A 16 0 Qy (rc::S) I'∧Fit s' I' []∧Ok 16 Qy (rc::S)∧((rc::S).map Pr.id).Nodup:=by
 have hO:Ok 16 Qy (rc::S):=⟨qa5,by decide,fun t ht=>by
  rcases List.mem_cons.1 ht with rfl | ht
  ·exact un_root hf
  ·exact h.ok.u t ht,by simp; omega⟩
 obtain ⟨s',I',p1,p2,p3,p4⟩:=put_ok h.b1 16 (Nat.le_refl _) 17 18 0 Qy S I [] s rc (by omega) (by omega) hO h.rep h.fit cap_big
 refine ⟨s',I',p1,p2,p3,hO,?_⟩
 rw [List.map_cons,List.nodup_cons]
 exact ⟨fun e=>by
  obtain ⟨t,ht1,ht2⟩:=List.mem_map.1 e
  exact hi t ht1 ht2,h.ids⟩
theorem pInsert (ht:TrP H r b S T) (rc:Pr) (hl:S.length<1000000):AFn Tryz.prog 42 [.ptr r 0,rc.v] H fun y H'=>y = .sc (.int .i64 (WU S rc))∧Kp T H H'∧∃ T',TrP H' r b (qgJ S rc) T'∧∀ x,T' x→T x∨H.length≤x:=by
 obtain ⟨nb,mb,cap,s,es,I,h,hT⟩:=ht
 have he:=qj1 h.ids h.es rc
 have hW:=wInsert h.tr h.pos rc (fun e=>by
  obtain ⟨e1,e2⟩:=qej (he▸e)
  obtain ⟨s',I',p1,_⟩:=h.put e1 e2 hl
  exact ⟨s',p1⟩)
 refine AFn.conv hW ?_
 rintro y H' ⟨rfl,nb',cap',s',es',t1,t2,t3,t4⟩
 rw [he] at t3 t4 ⊢
 obtain ⟨k1,k2⟩:=t2.to hT
 refine ⟨_,⟨rfl,k1,fun x=>x=r∨x=nb'∨x=mb,?_,k2⟩,fun _ _ _ h=>h⟩
 unfold qgJ
 by_cases e:WU S rc=0
 ·rw [if_pos e]
  obtain ⟨p1,rfl⟩:=t3 e
  obtain ⟨e1,e2⟩:=qej e
  obtain ⟨s2,I',q1,q2,q3,q4,q5⟩:=h.put e1 e2 hl
  rw [p1] at q1
  cases q1
  exact ⟨nb',mb,cap',s',_,I',⟨t1,q2,q3,q4,q5,(List.perm_append_singleton _ _).trans (h.es.cons rc)⟩,fun x=>Iff.rfl⟩
 ·rw [if_neg e]
  obtain ⟨rfl,rfl⟩:=t4 e
  exact ⟨nb',mb,cap',s',es',I,⟨t1,h.rep,h.fit,h.ok,h.ids,h.es⟩,fun x=>Iff.rfl⟩
def VN (rc:Re) (S:List Pr):List Pr:=if qo rc then qf4 (S.filter fun x=>zU rc x.at_) else []
theorem TrQ.wind {nb mb cap:Nat} {s:Ar} {es:List Pr} {I:List Nat} (h:TrQ H r b nb mb cap s es I S) {rc:Re} (hrc:qo rc=true):∃ L,Yq s.A rc 18 0=some L∧L.Perm (S.filter fun x=>zU rc x.at_)∧L.length≤1000000000000:=by
 obtain ⟨L,h1,h2⟩:=wind_ok hrc 16 18 0 Qy S I (by omega) (Nat.le_refl _) h.ok h.rep
 refine ⟨L,h1,h2,?_⟩
 rw [h2.length_eq]
 have:(S.filter fun x=>zU rc x.at_).length≤S.length:=List.length_filter_le _ _
 have:=h.ok.len
 omega
theorem qhw {rc:Re} {L ys:List Pr} (hn:(S.map Pr.id).Nodup) (hL:L.Perm (S.filter fun x=>zU rc x.at_)) (hs:qaf L ys) (hrc:qo rc=true):ys=VN rc S:=by
 rw [VN,if_pos hrc]
 exact qeS (List.Nodup.sublist (List.Sublist.map _ List.filter_sublist) hn) (hs.1.trans hL) hs.2
theorem pWindow (ht:TrP H r b S T) (rc:Re):AFn Tryz.prog 53 [.ptr r 0,rc.v] H fun y H'=>y=lV (VN rc S)∧Kp NoB H H':=by
 obtain ⟨nb,mb,cap,s,es,I,h,hT⟩:=ht
 refine AFn.conv (wWindow h.tr h.pos rc fun hrc=>by
  obtain ⟨L,h1,_,h3⟩:=h.wind hrc
  exact ⟨L,h1,h3⟩) ?_
 rintro y H' ⟨ys,rfl,k1,k2,k3⟩
 refine ⟨_,⟨?_,toNo k3⟩,fun _ _ _ h=>h⟩
 cases hrc:qo rc with
 | false=>rw [k1 hrc,VN,if_neg (by simp [hrc])]
 | true =>
  obtain ⟨L,h1,h2,_⟩:=h.wind hrc
  obtain ⟨L',h3,h4⟩:=k2 hrc
  rw [h1] at h3
  cases h3
  rw [qhw h.ids h2 h4 hrc]
end
end Go.Proofs.YtnconfggojpkcaaGreat
namespace Go.Proofs.YtnconfggojpkcaaGreat
set_option linter.all false
open Go.RowKit AM
set_option maxRecDepth 10000
attribute [local simp] jW zL yA jZ jq jX jY jo yB jr zM Xw Zf jQ Ze yP VX yO slF qU Zg jE Ql zN shares jF Qd zP ZM yt zo VY zq q8 yM jA Qe QN qZ zY jy yJ slV vD vF QM vg Yo jP vE aMM aUn Zh yL jR zX jO qX yK Zv yN yI VD Qo qY Zr Yp jC jB vG qM Yk eval qL AM.valOf qp qO zT del SV.refers zC yG jv shift ldV V.exact V.zh V.ofValue V.yh V.vT V.cells V.one Value.oneCell' Ym Q9 jH Zj Xf VW Qz VP jK zn QY Yt Qm Qg Zo calm Zu JN Zc feeds shrinks ZG looks isT QO vS QD putAt zV zQ JK sliceB isEq QS jg zi jU jm zK jh jl zJ jV jf zH Xt ZE QI JA Za inO yg Z9 Mix.qR Mix.QA Z5 Q7 qD qm q9 je zG Xr Zm y7 y8 Yg ZA zS vZ Zp jL V.fixed V.vO
attribute [local simp] yT jN QE yX vQ yU yV vP QF yR vL qbo Vk vY JX Vl z0 Z0 KN VQ Ws
theorem qiJ {xs:List Pr} {k:Nat} (h:k<xs.length):AM.rowAt 4 (xs.flatMap Pr.cs) (k:Int) = [.sc (.int .i64 xs[k].id),.sc (.int .i64 xs[k].at_.x),.sc (.int .i64 xs[k].at_.y),.sc (.int .i64 xs[k].lab)]:=ZV (enc:=Pr.cs) (sz:=4) (fun _=>rfl) h
theorem qhC {α:Type} {xs:List α} {k:Nat} (h:k<xs.length):xs.take (k+1)=xs.take k ++ [xs[k]]:=List.take_succ_eq_append_getElem h
theorem insS_len {a:List Pr} {s:Pr}:(qgJ a s).length≤a.length+1:=by
 unfold qgJ
 split <;> simp
def q1:Pr:=⟨1,⟨0,0⟩,0⟩
def q2:Pr:=⟨2,⟨65535,0⟩,0⟩
def q3:Pr:=⟨3,⟨1,0⟩,0⟩
theorem Kp.qi8 {I:Nat→Prop} {H H1:List Bk} (h:Kp I H H1) (hI:∀ x,¬ I x):Z7 H H1=True:=eq_true fun id ks hk _=>h.cells (hI id) hk
end Go.Proofs.YtnconfggojpkcaaGreat
namespace Go.Proofs.YtnconfggojpkcaaGreat
set_option linter.all false
open Go.RowKit AM
def qe4 (c:Ce) (l:Int):Ce:=if l<c.l then (J6 c l).1 else c
def qh6 (c:Ce) (p:Pt) (l:Int):Int:=QZ (Qs (qe4 c l)).1 p
def farP (t:Pr) (p:Pt) (l:Int):Int:=QZ (Qs (ofR t.at_ l).1).1 p
theorem cell_in {p:Pt} {k l:Int} (hf:fits p=true) (h0:0≤k) (hk:k≤l) (hl:l≤16):(vJ (cellOf p k)).x0≤(vJ (cellOf p l)).x0∧(vJ (cellOf p k)).y0≤(vJ (cellOf p l)).y0∧(vJ (cellOf p l)).x1≤(vJ (cellOf p k)).x1∧(vJ (cellOf p l)).y1≤(vJ (cellOf p k)).y1:=by
 have ck:=yw hf h0 (show k≤16 by omega)
 have cl:=yw hf (show 0≤l by omega) hl
 have rl:=qP.1 (QH cl)
 have key:∀ q:Pt,zU (vJ (cellOf p l)) q=true→zU (vJ (cellOf p k)) q=true:=fun q hq=>by
  have hu:=(Un.box cl).1 hq
  refine (Un.box ck).2 ⟨hu.1,y9.2 ⟨by simp [cellOf]; omega,?_⟩⟩
  have h1:=(y9.1 hu.2).2
  have e1:(cellOf p l).l=l:=rfl
  have e2:(cellOf p k).l=k:=rfl
  rw [e1,Qc hl (Int.le_refl _)] at h1
  rw [e2,Qc (by omega) (Int.le_refl _),← Qc hk hl,h1,Qc hk hl]
 have a:=jT.1 (key ⟨(vJ (cellOf p l)).x0,(vJ (cellOf p l)).y0⟩ (jT.2 ⟨QH cl,by simp only; omega⟩))
 have b:=jT.1 (key ⟨(vJ (cellOf p l)).x1,(vJ (cellOf p l)).y1⟩ (jT.2 ⟨QH cl,by simp only; omega⟩))
 simp only at a b
 omega
theorem node_leP {c:Ce} {t:Pr} {l:Int} (p:Pt) (hl:jG l=true) (hc:zk c=true) (hu:Un c t.at_):qh6 c p l≤farP t p l:=by
 have hl':=jJ.1 hl
 have hc':=qQ.1 hc
 have hof:ofR t.at_ l=(cellOf t.at_ l,true):=by simp [ofR,hl,hu.1]
 have hcl:=yw hu.1 hl'.1 hl'.2
 have hbl:Qs (cellOf t.at_ l)=(vJ (cellOf t.at_ l),true):=by simp [Qs,hcl]
 have hcc:cellOf t.at_ c.l=c:=by
  have:=(y9.1 hu.2).2
  rwa [Qc hc'.1.2 (Int.le_refl _)] at this
 unfold qh6 farP qe4
 rw [hof]
 simp only
 rw [hbl]
 by_cases hlc:l<c.l
 ·have ha:J6 c l=(zm c l,true):=by
   have:(decide (0≤l)&&decide (l≤c.l))=true:=by simp; omega
   simp [J6,hc,this]
  have e:zm c l=cellOf t.at_ l:=by rw [← hcc]; exact Qc (by omega) hc'.1.2
  rw [if_pos hlc,ha]
  simp only
  rw [e,hbl]
  exact Int.le_refl _
 ·have hbc:Qs c=(vJ c,true):=by simp [Qs,hc]
  rw [if_neg hlc,hbc]
  have:=cell_in hu.1 hc'.1.1 (show c.l≤l by omega) hl'.2
  rw [hcc] at this
  exact qkd p (QH hcl) (QH hc) this
def ZW (p:Pt) (l:Int) (t:Pr):Ent:=⟨farP t p l,1,t.id⟩
def qgz (c:Ce) (p:Pt) (l:Int) (a:Nat):Ent:=⟨qh6 c p l,0,a⟩
inductive Itp where
 | rc (t:Pr)
 | nd (a:Nat) (d:Nat) (c:Ce) (S:List Pr)
def Itp.ent (p:Pt) (l:Int):Itp→Ent
 | .rc t=>ZW p l t
 | .nd a _ c _=>qgz c p l a
def Itp.rcs (kp:Pr→Bool):Itp→List Pr
 | .rc t => [t]
 | .nd _ _ _ S=>S.filter kp
def Itp.wt:Itp→Nat
 | .rc _=>1
 | .nd _ d _ S=>S.length*(d+2)
def Itp.ok (b:Nat) (A:List Qn):Itp→Prop
 | .rc _=>True
 | .nd a d c S=>S ≠ []∧Ok d c S∧∃ I,Rep b A d a c S I
def wtp (its:List Itp):Nat:=(its.map Itp.wt).sum
theorem Itp.wt_pos {b:Nat} {A:List Qn}:∀ {it:Itp},it.ok b A→1≤it.wt
 | .rc _,_=>Nat.le_refl _
 | .nd a d c S,⟨h1,_⟩=>by
  have:0<S.length:=List.length_pos_iff.2 h1
  exact Nat.mul_pos this (by omega)
theorem qeM {b:Nat} {A:List Qn}:∀ {its:List Itp},(∀ it∈its,it.ok b A)→its.length≤wtp its
 | [],_=>Nat.le_refl _
 | it::its,h=>by
  have h1:=Itp.wt_pos (h it (List.mem_cons_self ..))
  have h2:=qeM (its:=its) fun x hx=>h x (List.mem_cons_of_mem _ hx)
  simp only [wtp,List.map_cons,List.sum_cons,List.length_cons] at h2 ⊢
  omega
theorem qhu (a b:List Itp):wtp (a++b)=wtp a+wtp b:=by simp [wtp]
theorem wtp_perm {a b:List Itp} (h:a.Perm b):wtp a=wtp b:=(h.map Itp.wt).sum_nat
theorem wtp_rc (S:List Pr):wtp (S.map Itp.rc)=S.length:=by
 induction S with
 | nil=>rfl
 | cons s S ih =>
  simp only [wtp,List.map_cons,List.sum_cons,List.length_cons] at ih ⊢
  rw [ih]
  simp only [Itp.wt]
  omega
theorem rcs_rc (kp:Pr→Bool) (S:List Pr):(S.map Itp.rc).flatMap (Itp.rcs kp)=S:=by
 induction S with
 | nil=>rfl
 | cons s S ih =>
  rw [List.map_cons,List.flatMap_cons,ih]
  rfl
theorem qhd {b:Nat} {A:List Qn} {p:Pt} {l:Int} {kp:Pr→Bool} {t:Pr} {its:List Itp} (hl:jG l=true) (hok:∀ it∈its,it.ok b A) (hmin:∀ it∈its,(it.ent p l).lt (ZW p l t)=false) :
  ∀ y∈(its.flatMap (Itp.rcs kp)).map (ZW p l),y.lt (ZW p l t)=false:=by
 intro y hy
 obtain ⟨u,hu,rfl⟩:=List.mem_map.1 hy
 obtain ⟨it,hit,hti⟩:=List.mem_flatMap.1 hu
 have hm:=hmin it hit
 cases it with
 | rc t' =>
  simp only [Itp.rcs,List.mem_singleton] at hti
  subst hti
  exact hm
 | nd a d c S =>
  obtain ⟨h1,h2,_⟩:=hok _ hit
  simp only [Itp.rcs] at hti
  have htS:=(List.mem_filter.1 hti).1
  have hle:=node_leP p hl h2.r (h2.u u htS)
  rw [Ent.Y7] at hm ⊢
  simp only [Itp.ent,qgz,ZW] at hm ⊢
  omega
end Go.Proofs.YtnconfggojpkcaaGreat
namespace Go.Proofs.YtnconfggojpkcaaGreat
set_option linter.all false
open Go.RowKit AM
set_option maxRecDepth 10000
attribute [local simp] jW zL yA jZ jq jX jY jo yB jr zM Xw Zf jQ Ze yP VX yO slF qU Zg jE Ql zN shares jF Qd zP ZM yt zo VY zq q8 yM jA Qe QN qZ zY jy yJ slV vD vF QM vg Yo jP vE aMM aUn Zh yL jR zX jO qX yK Zv yN yI VD Qo qY Zr Yp jC jB vG qM Yk eval qL AM.valOf qp qO zT del SV.refers zC yG jv shift ldV V.exact V.zh V.ofValue V.yh V.vT V.cells V.one Value.oneCell' Ym Q9 jH Zj Xf VW Qz VP jK zn QY Yt Qm Qg Zo calm Zu JN Zc feeds shrinks ZG looks isT QO vS QD putAt zV zQ JK sliceB isEq QS jg zi jU jm zK jh jl zJ jV jf zH Xt ZE QI JA Za inO yg Z9 Mix.qR Mix.QA Z5 Q7 qD qm q9 je zG Xr Zm y7 y8 Yg ZA zS vZ Zp jL V.fixed V.vO
attribute [local simp] yT jN QE yX vQ yU yV vP QF yR vL qbo Vk vY JX Vl z0 Z0 KN VQ Ws
def skMP (p:Pt) (l:Int):List (Option V) := [none,some (.sc (.int .i64 p.x)),some (.sc (.int .i64 p.y)),some (.sc (.int .i64 l))]
theorem skfarP (c:Ce) (p:Pt) (l:Int):qfK Tryz.prog 157 (skMP p l) [c.v] (.sc (.int .u64 (qh6 c p l))):=by
 intro us hus
 obtain ⟨u1,u2,u3,u4,rfl⟩:∃ u1 u2 u3 u4,us = [u1,u2,u3,u4]:=by
  match us,hus with
  | [a,b,c,d],_=>exact ⟨a,b,c,d,rfl⟩
 unfold qh6 qe4
 have hA:=cAbove c l
 have hB:=fun c=>qkh c
 have hD:=fun r=>pdist r p
 unfold Pt.v Pt.cs at hD
 unfold Ce.v Ce.cs at hA hB ⊢
 unfold Re.v Re.cs at hB hD
 simp only [skMP,KU]
 refine AFn.intro (fn:=Tryz.f157) (by kernel_rfl) rfl (by kernel_rfl) (by simp) ?_
 simp only [Tryz.f157,qj]
 refine AW.seq (AW.ofx [] mixed (by kernel_rfl) ?_)
 simp
 by_cases hl:l<c.l
 ·rw [if_pos hl]
  generalize J6 c l=ab at *
  obtain ⟨a,ok⟩:=ab
  simp only at hA ⊢
  have hB:=hB a
  have hD:=hD (Qs a).1
  generalize Qs a=bx at *
  obtain ⟨bx,bok⟩:=bx
  simp only at hB hD ⊢
  generalize QZ bx p=dd at *
  refine AW.seq (AW.seq (AW.ofx [] mixed (by kernel_rfl) ?_))
  simp [hl]
  refine AW.ofx [] mixed (by kernel_rfl) ?_
  simp
  refine qc.pure hA rfl rfl ?_
  simp [setCells,qh]
  refine AW.seq (AW.ofx [] mixed (by kernel_rfl) ?_)
  simp
  refine qc.pure hB rfl rfl ?_
  simp [setCells,qh]
  refine AW.ofx [] mixed (by kernel_rfl) ?_
  simp
  refine qc.pure hD rfl rfl ?_
  simp
 ·rw [if_neg hl]
  have hB:=hB c
  have hD:=hD (Qs c).1
  generalize Qs c=bx at *
  obtain ⟨bx,bok⟩:=bx
  simp only at hB hD ⊢
  generalize QZ bx p=dd at *
  refine AW.seq (AW.seq (AW.ofx [] mixed (by kernel_rfl) ?_))
  simp [hl]
  refine AW.ofx [] mixed (by kernel_rfl) ?_
  simp
  refine AW.seq (AW.ofx [] mixed (by kernel_rfl) ?_)
  simp
  refine qc.pure hB rfl rfl ?_
  simp [setCells,qh]
  refine AW.ofx [] mixed (by kernel_rfl) ?_
  simp
  refine qc.pure hD rfl rfl ?_
  simp
def Xu (r:Nat) (p:Pt) (l:Int) (kv:V) (q:Nat):Bk := .cells [.v (.ptr r 0),.v (.sc (.int .i64 p.x)),.v (.sc (.int .i64 p.y)),.v (.sc (.int .i64 l)),.v kv,.v (.ptr q 0)]
theorem qiG {H:List Bk} {k r:Nat} {p:Pt} {l:Int} {kv:V} {q:Nat} (h:H[k]? = some (Xu r p l kv q)):qfg H k (skMP p l):=by
 refine ⟨_,h,by simp [skMP],fun j z hz => ?_⟩
 match j,hz with
 | 0,hz=>cases hz
 | 1,hz=>cases hz; exact ⟨rfl,rfl⟩
 | 2,hz=>cases hz; exact ⟨rfl,rfl⟩
 | 3,hz=>cases hz; exact ⟨rfl,rfl⟩
 | j+4,hz=>simp [skMP] at hz
theorem qiF {H:List Bk} {k r q b nb mb cap:Nat} {p:Pt} {l:Int} {kv:V} {hs:List Ent} {s:Ar} {es:List Pr} {a:Nat} {n:Qn} (hk:H[k]? = some (Xu r p l kv q)) (hq:QQ H q hs) (hT:TrA H r b nb mb cap s es) (hn:s.A[a]? = some n) (hh:hs.length≤1000000) (hm:0≤n.many) :
  AFn Tryz.prog 109 [.ptr k 0,.sc (.int .i64 a)] H fun y H'=>y = .tup []∧KpA (fun x=>x=q) H H'∧QQ H' q (if n.many=0 then hs else put hs (qgz n.c p l a)):=by
 have hc0:=hT.cap0 hn
 have hr:=hT.cr
 have hnb:=hT.cn hc0
 have hal:=(List.getElem?_eq_some_iff.1 hn).1
 unfold trC at hr
 have hk':=hk
 unfold Xu at hk'
 obtain ⟨t0,d0⟩:=Vi hn ((cap - s.A.length)*10)
 refine AFn.intro (fn:=Tryz.f109) (by kernel_rfl) rfl (by kernel_rfl) (by simp) ?_
 simp only [Tryz.f109,qj]
 refine AW.mid (fun F H1=>F = [(0,.v (.ptr k 0)),(1,.v (.sc (.int .i64 a))),(4,.v (.ptr H.length 0))]∧Wk H1 (H ++ [ndB n])) (AW.ofx [] mixed (by kernel_rfl) ?_) ?_
 ·by_cases hql:n.full=true
  ·simp only [hql,qee] at d0
   simp [hk',hr,hnb,hal,d0]
   rw [qy rfl]
   refine ⟨_,?_,rfl,qff⟩
   simp [qD,qm,qp]
  ·have hql:n.full=false:=by simpa using hql
   simp only [hql,XY] at d0
   simp [hk',hr,hnb,hal,d0]
   rw [qy rfl]
   refine ⟨_,?_,rfl,Wk.refl _⟩
   simp [qD,qm,qp]
 ·rintro F H1 ⟨rfl,hwk⟩
  refine AW.wk hwk ?_
  have hnd:(H ++ [ndB n])[H.length]? = some (ndB n):=by simp
  have hk1:KpA (fun x=>x=q) H (H ++ [ndB n]):=KpA.refl.app
  have hq1:QQ (H ++ [ndB n]) q hs:=hq.keep (Kp.refl.app (I:=NoB)) (fun h=>h)
  have hk2:=hget (L := [ndB n]) hk
  clear hwk
  generalize H ++ [ndB n]=H1 at *
  have hk2':=hk2
  unfold Xu at hk2'
  unfold ndB lV at hnd
  refine AW.seq (AW.ofx [(2,10,[0,4,1])] mixed (by kernel_rfl) ?_)
  simp [hnd]
  by_cases h0:n.many=0
  ·rw [if_pos h0]
   simp [h0]
   refine AW.ofx [(2,10,[0,4,1])] mixed (by kernel_rfl) ?_
   simp
   exact ⟨hk1,hq1⟩
  ·rw [if_neg h0]
   have hM:=qiG hk2
   have hF:=skfarP n.c p l
   have hP:=zpush hq1 hh (qgz n.c p l a)
   unfold Ce.v Ce.cs at hF
   rw [Qr] at hP
   simp only [qgz] at hP
   have hpos:0<n.many:=by omega
   simp [hpos]
   refine AW.ofz [(2,10,[0,4,1])] mixed (by kernel_rfl) ?_
   simp [hk2',hnd]
   refine Jk.look hF rfl rfl hM ?_
   simp [hk2',hnd]
   refine qc.of hP ?_
   rintro y H3 ⟨rfl,k3,hq3⟩
   simp
   exact ⟨hk1.trans k3,hq3⟩
structure qjm (kv:V) (kp:Pr→Bool) (J:List Bk→Prop) (D M:Nat→Prop):Prop where
 fix:kv.fixed=true
 stab:∀ H H',J H→Kp (fun x=>¬ D x) H H'→J H'
 how:(kv = .sc .nilFunc∧∀ s,kp s=true)∨∃ g cap,kv = .fn (.func g) [] cap∧V.zh cap=none∧∀ (H:List Bk) (s:Pr),J H→AFn Tryz.prog g (s.v::cap) H fun y H'=>y = .sc (.bool (kp s))∧J H'∧Kp M H H'
theorem hNilFnP {x y:Operand}:Jb Tryz.prog .eql 111 x y .nilFunc .nilFunc=some (.bool true):=by kernel_rfl
theorem farC_of (t:Pr) (p:Pt) {l:Int} (hl:jG l=true):qh6 (ofR t.at_ l).1 p l=farP t p l:=by
 have hl':=jJ.1 hl
 unfold qh6 farP qe4
 rw [if_neg]
 unfold ofR
 split
 ·simp [cellOf]
 ·simp [Ce.zero]; omega
def SkrP (J:List Bk→Prop) (M:Nat→Prop) (H:List Bk) (k r q z:Nat) (p:Pt) (l:Int) (kv:V) (hs:List Ent) (t:Pr) (b0:Bool) (F:Fr) (H1:List Bk):Prop :=
 H1[k]? = some (Xu r p l kv q)∧QQ H1 q hs∧Kp (fun x=>x=q∨M x) H H1∧H1[z]? = some (prB t)∧J H1∧F = [(0,.v (.ptr k 0)),(3,.v (.ptr z 0)),(18,.v (.sc (.bool b0)))]
set_option maxHeartbeats 8000000 in
theorem skrecP {H:List Bk} {k r q:Nat} {p:Pt} {l:Int} {kv:V} {hs:List Ent} {kp:Pr→Bool} {J:List Bk→Prop} {D M:Nat→Prop} (hk:H[k]? = some (Xu r p l kv q)) (hq:QQ H q hs) (hkp:qjm kv kp J D M) (hJ:J H) (hDq:¬ D q) (hMq:¬ M q) (hMk:¬ M k) (hMl:∀ x,M x→x<H.length) (hl:jG l=true) (hh:hs.length≤1000000) (t:Pr) :
  AFn Tryz.prog 159 [.ptr k 0,t.v] H fun y H'=>y = .tup []∧Kp (fun x=>x=q∨M x) H H'∧QQ H' q (if kp t=true then put hs (ZW p l t) else hs)∧J H':=by
 have hkv:=hkp.fix
 have hk1:=hget (L := [prB t]) hk
 have hq1:QQ (H ++ [prB t]) q hs:=hq.keep (Kp.refl.app (I:=NoB)) (fun h=>h)
 have kp1:Kp (fun x=>x=q∨M x) H (H ++ [prB t]):=Kp.refl.app
 have hJ1:J (H ++ [prB t]):=hkp.stab _ _ hJ Kp.refl.app
 have hz1:(H ++ [prB t])[H.length]? = some (prB t):=by simp
 have hMz:¬ M H.length:=fun e=>by have:=hMl _ e; omega
 unfold Pr.v Pr.cs
 refine AFn.intro (fn:=Tryz.f159) (by kernel_rfl) rfl (by kernel_rfl) (by simp) ?_
 simp only [Tryz.f159,qj]
 refine AW.seq (AW.ofx [(3,10,[0,4,3])] mixed (by kernel_rfl) ?_)
 simp
 have hpx:Bk.cells [.v (.sc (.int .i64 t.id)),.v (.sc (.int .i64 t.at_.x)),.v (.sc (.int .i64 t.at_.y)),.v (.sc (.int .i64 t.lab))]=prB t:=rfl
 rw [hpx]
 generalize H ++ [prB t]=H1 at *
 generalize H.length=z at *
 have hk1':=hk1
 have hz1':=hz1
 unfold Xu at hk1'
 unfold prB at hz1'
 refine AW.mid (SkrP J M H k r q z p l kv hs t (kp t)) (AW.ofx [] mixed (by kernel_rfl) ?_) ?_
 ·rcases hkp.how with ⟨rfl,hkt⟩ | ⟨g,cap,rfl,hkx,hkf⟩
  ·simp [hk1',hNilFnP]
   refine ⟨_,?_,hk1,hq1,kp1,hz1,hJ1,rfl⟩
   simp [qD,qm,qp,hkt]
  ·have hA:=hkf H1 t hJ1
   rw [Pr.v_eq] at hA
   simp [hk1',hz1',hkx]
   refine qc.of hA ?_
   rintro y H4 ⟨rfl,hJ4,k4⟩
   simp
   refine ⟨_,?_,k4.cells hMk hk1,hq1.keep k4 hMq,kp1.trans (k4.weak fun x hx => .inr hx),k4.cells hMz hz1,hJ4,rfl⟩
   simp [qD,qm,qp]
 ·clear hk1 hq1 kp1 hz1 hk1' hz1' hJ1
  rintro F H5 ⟨hk5,hq5,kp5,hz5,hJ5,rfl⟩
  have hk5':=hk5
  have hz5':=hz5
  unfold Xu at hk5'
  unfold prB at hz5'
  cases hb:kp t with
  | false =>
   refine AW.cond false (by simp) (fun e=>by cases e) (fun _ => ?_)
   refine AW.ofx [] mixed (by kernel_rfl) ?_
   simp
   exact ⟨kp5,hq5,hJ5⟩
  | true =>
   have hO:=cOf t.at_ l
   have hfc:=farC_of t p hl
   generalize ofR t.at_ l=oc at *
   obtain ⟨oc,ok⟩:=oc
   simp only at hO hfc
   unfold Pt.v Pt.cs Ce.v Ce.cs at hO
   have k1:=fun x:Bk=>YD (H:=H5) (L := [x])
   refine AW.cond true (by simp) (fun _ => ?_) (fun e=>by cases e)
   refine AW.midE [(0,.v (.ptr k 0)),(3,.v (.ptr z 0)),(4,.v (.ptr H5.length 0))] (H5 ++ [ceB oc]) (AW.off [(3,10,[0,4,3])] [(2,10,12,[3,0])] mixed (by kernel_rfl) ?_) ?_
   ·have hs4:∀ z0 z1 z2 a b d,setCells (H5 ++ [Bk.cells [z0,z1,z2]]) H5.length 0 [a,b,d]=H5 ++ [.cells [.v a,.v b,.v d]]:=fun z0 z1 z2 a b d=>by simp [setCells,qh]
    simp [YQ,JU,Ko,YT,VJ,YR,YS,VI,Kq,flK,WX,Vm,JC,qbN,hk5',hz5',hkv]
    refine ⟨qc.pure hO rfl rfl ?_,qc.pure hO rfl rfl ?_⟩
    ·simp [YQ,JU,Ko,YT,VJ,YR,YS,VI,Kq,flK,WX,Vm,JC,qbN,hk5',hz5',hkv,hs4,ceB]
    ·simp [YQ,JU,Ko,YT,VJ,YR,YS,VI,Kq,flK,WX,Vm,JC,qbN,hk5',hz5',hkv,hs4,ceB]
   ·skip
    have hk6:=hget (L := [ceB oc]) hk5
    have hz6:=hget (L := [ceB oc]) hz5
    have hc6:(H5 ++ [ceB oc])[H5.length]? = some (ceB oc):=by simp
    have kp6:=kp5.app (L := [ceB oc])
    have hJ6:J (H5 ++ [ceB oc]):=hkp.stab _ _ hJ5 Kp.refl.app
    have hq6:QQ (H5 ++ [ceB oc]) q hs:=hq5.keep (Kp.refl.app (I:=NoB)) (fun h=>h)
    generalize H5 ++ [ceB oc]=H6 at *
    have hM:=qiG hk6
    have hF:=skfarP oc p l
    rw [hfc] at hF
    have hP:=zpush hq6 hh (ZW p l t)
    unfold Xu at hk6
    unfold prB at hz6
    unfold ceB at hc6
    unfold Ce.v Ce.cs at hF
    rw [Qr] at hP
    simp only [ZW] at hP
    refine AW.ofz [(3,10,[0,4,3])] mixed (by kernel_rfl) ?_
    simp [hk6,hz6,hc6]
    refine Jk.look hF rfl rfl hM ?_
    simp [hk6,hz6,hc6]
    refine qc.of hP ?_
    rintro y H7 ⟨rfl,k7,hq7⟩
    simp
    exact ⟨kp6.trans (k7.YV.weak fun x hx => .inl hx),hq7,hkp.stab _ _ hJ6 (k7.YV.weak fun x (hx:x=q)=>by rw [hx]; exact hDq)⟩
def SoP (J:List Bk→Prop) (M:Nat→Prop) (H0:List Bk) (k q z:Nat) (p:Pt) (l:Int) (kp:Pr→Bool) (hs:List Ent) (n:Qn) (j:Nat) (F:Fr) (H1:List Bk):Prop :=
 ∃ hs1,QQ H1 q hs1∧Kp (fun x=>x=q∨M x) H0 H1∧H1[z]? = some (ndB n)∧J H1∧hs1.Perm (((n.l.take j).filter kp).map (ZW p l)++hs)∧F = [(0,.v (.ptr k 0)),(4,.v (.ptr z 0)),(20,.v (lV n.l)),(21,.v (.sc (.int .i64 n.l.length))),(22,.v (.sc (.int .i64 j)))]
def KoP (J:List Bk→Prop) (M:Nat→Prop) (H0:List Bk) (k q b:Nat) (A:List Qn) (p:Pt) (l:Int) (kp:Pr→Bool) (hs:List Ent) (n:Qn) (d:Nat) (c:Ce) (S:List Pr) (j:Nat) (F:Fr) (H1:List Bk):Prop :=
 ∃ new hs1,QQ H1 q hs1∧Kp (fun x=>x=q∨M x) H0 H1∧J H1∧hs1.Perm (new.map (Itp.ent p l)++hs)∧(∀ it∈new,it.ok b A)∧(new.flatMap (Itp.rcs kp)).Perm ((JO c S j).filter kp)∧wtp new≤(JO c S j).length*(d+2) ∧
  F = [(0,.v (.ptr k 0)),(33,.v (.agg [.sc (.int .i64 n.k0),.sc (.int .i64 n.k1),.sc (.int .i64 n.k2),.sc (.int .i64 n.k3)])),(34,.v (.sc (.int .i64 j)))]
theorem kidsU_le {c:Ce} {S:List Pr} {j:Nat} (hj:j≤4):(JO c S j).length≤S.length:=by
 have h4:=(K9 (c:=c) (S:=S)).length_eq
 have:∀ {i k:Nat},i≤k→(JO c S i).length≤(JO c S k).length:=by
  intro i k hik
  induction hik with
  | refl=>exact Nat.le_refl _
  | step _ ih =>
   simp only [JO,List.length_append]
   omega
 have:=this hj
 omega
set_option maxHeartbeats 4000000 in
theorem skopenP {H:List Bk} {k r q b nb mb cap a d:Nat} {p:Pt} {l:Int} {kv:V} {hs:List Ent} {s:Ar} {es:List Pr} {c:Ce} {S:List Pr} {I:List Nat} {kp:Pr→Bool} {J:List Bk→Prop} {D M:Nat→Prop}
  (hk:H[k]? = some (Xu r p l kv q)) (hq:QQ H q hs) (hT:TrA H r b nb mb cap s es) (hqr:q≠r) (hqn:q≠nb) (hqm:q≠mb) (hqk:q≠k) (hR:Rep b s.A d a c S I) (hO:Ok d c S) (hl:jG l=true) (hkp:qjm kv kp J D M) (hJ:J H) (hDq:¬ D q) (hMq:¬ M q) (hMk:¬ M k) (hMl:∀ x,M x→x<H.length) (hMr:¬ M r) (hMn:¬ M nb) (hMm:¬ M mb) (hd16:d≤16) (hh:hs.length+S.length*18≤1000000) :
  AFn Tryz.prog 111 [.ptr k 0,.sc (.int .i64 a)] H fun y H'=>Kp (fun x=>x=q∨M x) H H'∧J H'∧∃ new hs',QQ H' q hs'∧hs'.Perm (new.map (Itp.ent p l)++hs)∧(∀ it∈new,it.ok b s.A)∧(new.flatMap (Itp.rcs kp)).Perm (S.filter kp)∧wtp new≤S.length*(d+1):=by
 obtain ⟨n,hn,hnc,hnm,hcase⟩:∃ n,s.A[a]? = some n∧n.c=c∧n.many=S.length∧((n.split=false∧n.l.Perm S)∨(n.split=true∧n.l = []∧∃ d',d=d'+1∧∃ (J:Nat→List Nat) (kk:Nat→Nat),(∀ i,i<4→n.kid i=(kk i:Int))∧∀ i,i<4→Rep b s.A d' (kk i) (qA c i) (Zt c S i) (J i))):=by
  cases d with
  | zero =>
   obtain ⟨n,h1,h2,h3,h4,h5,_⟩:=hR
   exact ⟨n,h1,h2,h5,.inl ⟨h3,h4⟩⟩
  | succ d =>
   rcases hR with ⟨_,n,h1,h2,h3,h4,h5,_⟩ | ⟨_,n,J,kk,h1,h2,h3,h4,h5,h6,h7,_⟩
   ·exact ⟨n,h1,h2,h5,.inl ⟨h3,h4⟩⟩
   ·exact ⟨n,h1,h2,h5,.inr ⟨h3,h4,d,rfl,J,kk,h6,h7⟩⟩
 have hc0:=hT.cap0 hn
 have hr:=hT.cr
 have hnb:=hT.cn hc0
 have hal:=(List.getElem?_eq_some_iff.1 hn).1
 have hnl:n.l.length≤S.length:=by
  rcases hcase with ⟨_,h⟩ | ⟨_,h,_⟩
  ·rw [h.length_eq]; exact Nat.le_refl _
  ·rw [h]; simp
 unfold trC at hr
 have hk':=hk
 unfold Xu at hk'
 have hql:q<H.length:=by
  obtain ⟨es0,hq0,_⟩:=hq
  exact (List.getElem?_eq_some_iff.1 hq0).1
 obtain ⟨t0,d0⟩:=Vi hn ((cap - s.A.length)*10)
 refine AFn.intro (fn:=Tryz.f111) (by kernel_rfl) rfl (by kernel_rfl) (by simp) ?_
 simp only [Tryz.f111,qj]
 refine AW.mid (fun F H1=>F = [(0,.v (.ptr k 0)),(4,.v (.ptr H.length 0))]∧Wk H1 (H ++ [ndB n])) (AW.ofx [] mixed (by kernel_rfl) ?_) ?_
 ·by_cases hql:n.full=true
  ·simp only [hql,qee] at d0
   simp [hk',hr,hnb,hal,d0]
   rw [qy rfl]
   refine ⟨_,?_,rfl,qff⟩
   simp [qD,qm,qp]
  ·have hql:n.full=false:=by simpa using hql
   simp only [hql,XY] at d0
   simp [hk',hr,hnb,hal,d0]
   rw [qy rfl]
   refine ⟨_,?_,rfl,Wk.refl _⟩
   simp [qD,qm,qp]
 ·rintro F H1 ⟨rfl,hwk⟩
  refine AW.wk hwk ?_
  have hnd:(H ++ [ndB n])[H.length]? = some (ndB n):=by simp
  have hk1:Kp (fun x=>x=q∨M x) H (H ++ [ndB n]):=Kp.refl.app
  have hJ1:J (H ++ [ndB n]):=hkp.stab _ _ hJ Kp.refl.app
  have hMz:¬ M H.length:=fun e=>by have:=hMl _ e; omega
  have hlz:H.length<(H ++ [ndB n]).length:=by simp
  have hq1:QQ (H ++ [ndB n]) q hs:=hq.keep (Kp.refl.app (I:=NoB)) (fun h=>h)
  have hzq:¬ H.length=q:=by omega
  clear hwk
  generalize H ++ [ndB n]=H1 at *
  have hMl':∀ x,M x→x<H.length:=hMl
  generalize H.length=z at *
  have hnd':=hnd
  unfold ndB lV at hnd'
  refine AW.seq (AW.ofx [] mixed (by kernel_rfl) ?_)
  simp [hnd']
  refine AW.count n.l.length (SoP J M H k q z p l kp hs n) ⟨_,?_,hs,hq1,hk1,hnd,hJ1,by simp,rfl⟩ ?_
  ·simp [qD,qm,qp,lV]
  clear hnd hnd' hk1 hq1 hJ1
  rintro j F H2 hj ⟨hs1,hq2,hk2,hnd2,hJ2,hp2,rfl⟩
  unfold lV
  refine AW.seq (AW.ofx [] mixed (by kernel_rfl) ?_)
  by_cases hlt:j<n.l.length
  ·have w1:IntKind.i64.wrap ((j:Int)+1)=(j:Int)+1:=by rw [wrap_i64] <;> omega
   have hr1:=qiJ hlt
   have hrec:=fun {Hx} (h1:Hx[k]? = some (Xu r p l kv q)) (h2:QQ Hx q hs1) (h3:J Hx) (h4:∀ x,M x→x<Hx.length)=>skrecP h1 h2 hkp h3 hDq hMq hMk h4 hl (by
    have e:=hp2.length_eq
    rw [List.length_append,List.length_map] at e
    have e2:((n.l.take j).filter kp).length≤(n.l.take j).length:=List.length_filter_le _ _
    have e3:=List.length_take_le' j n.l
    omega) n.l[j]
   have hk2k:=hk2.cells (fun e=>e.elim (fun e=>hqk e.symm) hMk) hk
   have hzl2:z<H2.length:=(List.getElem?_eq_some_iff.1 hnd2).1
   simp [hlt]
   refine AW.seq (AW.ofx [] mixed (by kernel_rfl) ?_)
   simp
   refine AW.seq (AW.block (AW.seq (AW.ofx [] mixed (by kernel_rfl) ?_)))
   simp [hlt,hr1]
   rw [qy rfl]
   have hpx:∀ x:Pr,Bk.cells ([.sc (.int .i64 x.id),.sc (.int .i64 x.at_.x),.sc (.int .i64 x.at_.y),.sc (.int .i64 x.lab)].map SV.v)=prB x:=fun _=>rfl
   rw [hpx]
   have hrec:=hrec (hget (L := [prB n.l[j]]) hk2k) (hq2.keep (Kp.refl.app (I:=NoB)) (fun h=>h)) (hkp.stab _ _ hJ2 Kp.refl.app) (fun x hx=>by have:=hMl' x hx; simp; omega)
   have hx3:(H2 ++ [prB n.l[j]])[H2.length]? = some (prB n.l[j]):=by simp
   have hk3:Kp (fun x=>x=q∨M x) H (H2 ++ [prB n.l[j]]):=hk2.app
   have hnd3:=hget (L := [prB n.l[j]]) hnd2
   rw [Pr.v_eq] at hrec
   generalize H2 ++ [prB n.l[j]]=H3 at *
   unfold prB at hx3
   refine AW.ofx [] mixed (by kernel_rfl) ?_
   simp [hx3]
   refine qc.of hrec ?_
   rintro y H4 ⟨rfl,hk4,hq4,hJ4⟩
   have hnd4:=hk4.cells (fun e=>e.elim hzq hMz) hnd3
   simp
   refine AW.ofx [] mixed (by kernel_rfl) ?_
   simp [w1]
   refine ⟨_,?_,_,hq4,hk3.trans hk4,hnd4,hJ4,?_,rfl⟩
   ·simp [qD,qm,qp,lV]
   ·rw [qhC hlt,List.filter_append,List.map_append]
    cases hb:kp n.l[j] with
    | false=>simpa [hb] using hp2
    | true =>
     simp only [if_true]
     refine (Yw _ _).trans ((hp2.cons _).trans ?_)
     simp only [hb,List.filter_cons,List.filter_nil,if_true,List.map_cons,List.map_nil,List.append_assoc]
     exact List.perm_middle.symm
  ·have hje:j=n.l.length:=by omega
   subst hje
   rw [List.take_length] at hp2
   have hpl:hs1.length≤hs.length+S.length:=by
    have e:=hp2.length_eq
    rw [List.length_append,List.length_map] at e
    have e2:(n.l.filter kp).length≤n.l.length:=List.length_filter_le _ _
    omega
   simp
   refine AW.ofx [] mixed (by kernel_rfl) ?_
   simp
   have hnd2':=hnd2
   unfold ndB lV at hnd2'
   refine AW.seq (AW.ofx [] mixed (by kernel_rfl) ?_)
   simp [hnd2']
   rcases hcase with ⟨hs0,hlp⟩ | ⟨hs0,hl0,d',rfl,J2,kk,hkid,hkR⟩
   ·refine AW.cond false (by simp [hs0]) (fun e=>by cases e) (fun _ => ?_)
    refine AW.ofx [] mixed (by kernel_rfl) ?_
    simp
    refine ⟨hk2,hJ2,(n.l.filter kp).map Itp.rc,hs1,hq2,?_,?_,?_,?_⟩
    ·rw [List.map_map]
     exact hp2
    ·intro it hit
     obtain ⟨t,_,rfl⟩:=List.mem_map.1 hit
     trivial
    ·rw [rcs_rc]
     exact hlp.filter kp
    ·rw [wtp_rc]
     have e2:(n.l.filter kp).length≤n.l.length:=List.length_filter_le _ _
     have:S.length*1≤S.length*(d+1):=Nat.mul_le_mul_left _ (by omega)
     omega
   ·refine AW.cond true (by simp [hs0]) (fun _ => ?_) (fun e=>by cases e)
    refine AW.seq (AW.ofx [] mixed (by kernel_rfl) ?_)
    simp [hnd2']
    rw [hl0] at hp2
    simp only [List.filter_nil,List.map_nil,List.nil_append] at hp2
    refine AW.block (AW.count 4 (KoP J M H k q b s.A p l kp hs n d' c S) ⟨_,?_,[],hs1,hq2,hk2,hJ2,by simpa using hp2,by simp,by simp [JO],by simp [wtp],rfl⟩ ?_)
    ·simp [qD,qm,qp]
    clear hq2 hk2 hp2 hnd2 hnd2' hpl hJ2
    rintro j F H3 hj ⟨new,hs2,hq3,hk3,hJ3,hp3,hok3,hrc3,hwt3,rfl⟩
    refine AW.seq (AW.ofx [] mixed (by kernel_rfl) ?_)
    by_cases hlt:j<4
    ·have hlt':(j:Int)<4:=by omega
     have w1:IntKind.i64.wrap ((j:Int)+1)=(j:Int)+1:=by rw [wrap_i64] <;> omega
     have hget' : [V.sc (.int .i64 n.k0),V.sc (.int .i64 n.k1),V.sc (.int .i64 n.k2),V.sc (.int .i64 n.k3)][j]? = some (.sc (.int .i64 (kk j))):=by
      rw [← hkid j hlt]
      rcases (show j=0∨j=1∨j=2∨j=3 by omega) with rfl | rfl | rfl | rfl <;> rfl
     obtain ⟨nj,J0,hnj1,hnj2,hnj3,_⟩:=(hkR j hlt).head
     have hTj:=hT.kp3 hk3 (fun e=>e.elim (fun e=>hqr e.symm) hMr) (fun _ e=>e.elim (fun e=>hqn e.symm) hMn) (fun e=>e.elim (fun e=>hqm e.symm) hMm)
     have hk3k:=hk3.cells (fun e=>e.elim (fun e=>hqk e.symm) hMk) hk
     have hul:=kidsU_le (c:=c) (S:=S) (j:=j) (by omega)
     have hnl:=qeM hok3
     have hhl:=hp3.length_eq
     rw [List.length_append,List.length_map] at hhl
     have hmul:(JO c S j).length*(d'+2)≤S.length*18:=Nat.mul_le_mul hul (by omega)
     have hNo:=qiF hk3k hq3 hTj hnj1 (by omega) (by rw [hnj3]; omega)
     rw [hnj2,hnj3] at hNo
     simp [hlt']
     refine AW.seq (AW.ofx [] mixed (by kernel_rfl) ?_)
     simp
     refine AW.seq (AW.block (AW.seq (AW.ofx [] mixed (by kernel_rfl) ?_)))
     simp [hlt',hget']
     refine AW.ofx [] mixed (by kernel_rfl) ?_
     simp
     refine qc.of hNo ?_
     rintro y H4 ⟨rfl,hk4,hq4⟩
     have hJ4:J H4:=hkp.stab _ _ hJ3 (hk4.YV.weak fun x (hx:x=q)=>by rw [hx]; exact hDq)
     have hk4:=hk4.YV.weak (J:=fun x=>x=q∨M x) fun x hx => .inl hx
     simp
     refine AW.ofx [] mixed (by kernel_rfl) ?_
     simp [w1]
     by_cases hz:Zt c S j = []
     ·rw [if_pos (by simp [hz])] at hq4
      refine ⟨hlt,_,?_,new,hs2,hq4,hk3.trans hk4,hJ4,hp3,hok3,?_,?_,rfl⟩
      ·simp [qD,qm,qp]
      ·simpa [JO,hz] using hrc3
      ·simpa [JO,hz] using hwt3
     ·have hz':¬ ((Zt c S j).length:Int)=0:=fun e=>hz (List.length_eq_zero_iff.1 (by omega))
      rw [if_neg hz'] at hq4
      refine ⟨hlt,_,?_,.nd (kk j) d' (qA c j) (Zt c S j)::new,_,hq4,hk3.trans hk4,hJ4,?_,?_,?_,?_,rfl⟩
      ·simp [qD,qm,qp]
      ·exact (Yw _ _).trans (hp3.cons _)
      ·intro it hit
       rcases List.mem_cons.1 hit with rfl | hit
       ·exact ⟨hz,hO.kid hlt,J2 j,hkR j hlt⟩
       ·exact hok3 it hit
      ·rw [JO,List.filter_append,List.flatMap_cons]
       exact (List.Perm.append_left _ hrc3).trans List.perm_append_comm
      ·rw [JO,List.length_append,Nat.add_mul]
       simp only [wtp,List.map_cons,List.sum_cons,Itp.wt] at hwt3 ⊢
       omega
    ·have hj4:j=4:=by omega
     subst hj4
     simp
     refine AW.ofx [] mixed (by kernel_rfl) ?_
     simp
     have hpm:=K9 (c:=c) (S:=S)
     refine ⟨hk3,hJ3,new,hs2,hq3,hp3,hok3,hrc3.trans (hpm.filter kp),?_⟩
     rw [hpm.length_eq] at hwt3
     exact hwt3
def NearP (S:List Pr) (kp:Pr→Bool) (p:Pt) (l n:Int) (R:List Pr):Prop:=R.map (ZW p l)=(sort ((S.filter kp).map (ZW p l))).take n.toNat∧∀ s∈R,s∈S.filter kp
def NrMP (H0:List Bk) (k r q:Nat) (p:Pt) (l:Int) (kv:V) (n:Int) (F:Fr) (H1:List Bk):Prop :=
 H1[k]? = some (Xu r p l kv q)∧H1[q]? = some (qB [])∧KpA (fun _=>False) H0 H1∧F = [(0,.v (.ptr r 0)),(2,.v (.sc (.int .i64 n))),(11,.v (.ptr k 0))]
def NrIP (J:List Bk→Prop) (M:Nat→Prop) (H0:List Bk) (k r q b:Nat) (A:List Qn) (p:Pt) (l:Int) (kv:V) (n:Int) (S:List Pr) (kp:Pr→Bool) (z:Nat) (F:Fr) (H1:List Bk):Prop :=
 ∃ (out:List Pr) (its:List Itp) (hs:List Ent),z=wtp its∧H1[k]? = some (Xu r p l kv q)∧QQ H1 q hs∧Kp M H0 H1∧J H1∧hs.Perm (its.map (Itp.ent p l))∧(∀ it∈its,it.ok b A) ∧
  (out++its.flatMap (Itp.rcs kp)).Perm (S.filter kp)∧out.map (ZW p l)++sort ((its.flatMap (Itp.rcs kp)).map (ZW p l))=sort ((S.filter kp).map (ZW p l))∧wtp its≤S.length*18+1∧(out.length:Int)≤max n 0 ∧
  F = [(0,.v (.ptr r 0)),(2,.v (.sc (.int .i64 n))),(11,.v (.ptr k 0)),(12,Yz out)]
set_option maxHeartbeats 4000000 in
theorem near1P {H:List Bk} {r b:Nat} {S:List Pr} {T:Nat→Prop} (ht:TrP H r b S T) (hS:S.length≤1000) (p:Pt) (n l:Int) (kv:V) (kp:Pr→Bool) {J:List Bk→Prop} {D M:Nat→Prop} (hkp:qjm kv kp J D M) (hJ:J H) (hDl:∀ x,D x→x<H.length) (hMl:∀ x,M x→x<H.length) (hMT:∀ x,T x→¬ M x) (hf:fits p=true) (hl:jG l=true) :
  AFn Tryz.prog 60 [.ptr r 0,p.v,.sc (.int .i64 n),.sc (.int .i64 l),kv] H fun y H'=>∃ R,y=lV R∧NearP S kp p l n R∧J H'∧Kp M H H':=by
 obtain ⟨nb,mb,cap,s,es,I,h,hT⟩:=ht
 have hM:=fun L=>wmade (h.tr.app (L:=L))
 have h0s:=h.pos
 have hF:=YJ p
 rw [hf] at hF
 have hl':=jJ.1 hl
 have h0:¬ l<0:=by omega
 have h16:¬ 16<l:=by omega
 have hkv:=hkp.fix
 have hMr:=hMT r ((hT _).2 (.inl rfl))
 have hMn:=hMT nb ((hT _).2 (.inr (.inl rfl)))
 have hMm:=hMT mb ((hT _).2 (.inr (.inr rfl)))
 unfold Pt.v Pt.cs at hF ⊢
 refine AFn.intro (fn:=Tryz.f60) (by kernel_rfl) rfl (by kernel_rfl) (by simp) ?_
 simp only [Tryz.f60,qj]
 refine AW.seq (AW.ofx [] mixed (by kernel_rfl) ?_)
 simp
 refine AW.scope ?_
 refine AW.seq ?_
 refine AW.seq (AW.ofx [] mixed (by kernel_rfl) ?_)
 simp [zu,ze,zw]
 refine qc.of (hM _) ?_
 rintro y H1 ⟨rfl,rfl⟩
 simp [h0s,zu,ze,zw]
 refine qc.pure hF rfl rfl ?_
 simp [h0,h16,zu,ze,zw]
 refine AW.cond false (by simp) (fun e=>by cases e) (fun _ => ?_)
 refine AW.ofx [] mixed (by kernel_rfl) ?_
 simp [zu,ze,zw]
 have hT1:=h.tr.app (L := [.cells [.v (.sc (.int .i64 p.x)),.v (.sc (.int .i64 p.y))]])
 have kp1:KpA (fun _=>False) H (H ++ [.cells [.v (.sc (.int .i64 p.x)),.v (.sc (.int .i64 p.y))]]):=KpA.refl.app
 have hp1:(H ++ [Bk.cells [.v (.sc (.int .i64 p.x)),.v (.sc (.int .i64 p.y))]])[H.length]? = some (.cells [.v (.sc (.int .i64 p.x)),.v (.sc (.int .i64 p.y))]):=by simp
 have hll:(H ++ [Bk.cells [.v (.sc (.int .i64 p.x)),.v (.sc (.int .i64 p.y))]]).length=H.length+1:=by simp
 generalize H ++ [Bk.cells [.v (.sc (.int .i64 p.x)),.v (.sc (.int .i64 p.y))]]=H1 at *
 refine AW.mid (NrMP H (H1.length+1) r H1.length p l kv n) (AW.ofx [(3,5,[0,6,3,4])] mixed (by kernel_rfl) ?_) ?_
 ·have hkS:=fun (x:Bk)=>YD (H:=H1) (L := [x])
  have hkS2:=fun (x y:Bk)=>YD (H:=H1) (L := [x,y])
  simp [hp1]
  refine qc.of (znew H1) ?_
  rintro y H2 ⟨rfl,rfl⟩
  rcases hkp.how with ⟨rfl,_⟩ | ⟨g,cap,rfl,_⟩
  ·simp [hkS,hkS2]
   refine ⟨_,?_,by simp [Xu],by simp,kp1.app,rfl⟩
   simp [qD,qm,qp]
  ·simp [hkS,hkS2]
   refine ⟨_,?_,by simp [Xu],by simp,kp1.app,rfl⟩
   simp [qD,qm,qp]
 rintro F H2 ⟨hk2,hq2,kp2,rfl⟩
 have hkH:H.length<H1.length+1:=by omega
 have hqH:H.length≤H1.length:=by omega
 have hkq:¬ H1.length=H1.length+1:=by omega
 generalize H1.length+1=k at *
 generalize H1.length=q at *
 clear hp1 hT1 kp1 hM hll
 have hq3:QQ H2 q []:=⟨[],hq2,Held.nil⟩
 have hcn:nb<H.length:=(List.getElem?_eq_some_iff.1 (h.tr.cn (by have:=h.tr.le; have:=h.pos; omega))).1
 have hrl:=h.tr.rl
 have hml:=(List.getElem?_eq_some_iff.1 h.tr.cm).1
 have hTk:∀ {Hx},Kp M H Hx→TrA Hx r b nb mb cap s es:=fun hx=>h.tr.kp3 hx hMr (fun _=>hMn) hMm
 have hDq:¬ D q:=fun e=>by have:=hDl _ e; omega
 have hMq:¬ M q:=fun e=>by have:=hMl _ e; omega
 have hMk:¬ M k:=fun e=>by have:=hMl _ e; omega
 have hJ2:J H2:=hkp.stab _ _ hJ (kp2.YV.weak fun _ h=>h.elim)
 have kp2:=kp2.YV.weak (J:=M) fun _ h=>h.elim
 obtain ⟨n0,J0,hn1,hn2,hn3,_⟩:=h.rep.head
 have hNo:=qiF hk2 hq3 (hTk kp2) hn1 (by simp) (by rw [hn3]; omega)
 rw [hn2,hn3] at hNo
 refine AW.seq (AW.ofx [(3,5,[0,6,3,4])] mixed (by kernel_rfl) ?_)
 simp [zu,ze,zw]
 refine qc.of hNo ?_
 rintro y H4 ⟨rfl,hk4,hq4⟩
 have hk4':=hk4
 simp [zu,ze,zw]
 have hkn:∀ {Hx Hy:List Bk},Kp M H Hx→Kp (fun x=>x=q∨M x) Hx Hy→Kp M H Hy:=fun h1 h2=>Kp.new ((h1.weak fun _ h => .inl h).trans (h2.weak fun x (hx:x=q∨M x)=>hx.elim (fun e => .inr (by omega)) .inl))
 have hk4:=hk4.YV.weak (J:=fun x=>x=q∨M x) fun x hx => .inl hx
 have hJ4:J H4:=hkp.stab _ _ hJ2 (hk4'.YV.weak fun x (hx:x=q)=>by rw [hx]; exact hDq)
 have hst:∃ (its:List Itp) (hs:List Ent),H4[k]? = some (Xu r p l kv q)∧QQ H4 q hs∧Kp M H H4∧hs.Perm (its.map (Itp.ent p l))∧(∀ it∈its,it.ok b s.A)∧(its.flatMap (Itp.rcs kp))=S.filter kp∧wtp its≤S.length*18+1:=by
  have k4:=hkn kp2 hk4
  have hk4k:=hk4.cells (fun e=>e.elim (fun e=>hkq e.symm) hMk) hk2
  by_cases hz:S = []
  ·rw [if_pos (by simp [hz])] at hq4
   exact ⟨[],[],hk4k,hq4,k4,.nil,fun _ h=>(by cases h),by simp [hz],by simp [wtp]⟩
  ·have hz':¬ ((S.length:Nat):Int)=0:=fun e=>hz (List.length_eq_zero_iff.1 (by omega))
   rw [if_neg hz'] at hq4
   refine ⟨[.nd 0 16 Qy S],_,hk4k,hq4,k4,.refl _,fun it hit => ?_,by simp [Itp.rcs],by simp [wtp,Itp.wt]⟩
   rw [List.mem_singleton] at hit
   subst hit
   exact ⟨hz,h.ok,I,h.rep⟩
 obtain ⟨its,hs,s1,s2,s3,s4,s5,s6,s7⟩:=hst
 clear hk2 hq2 hq3 kp2 hNo hk4 hk4' hq4
 refine AW.seq (AW.ofx [(3,5,[0,6,3,4])] mixed (by kernel_rfl) ?_)
 simp [zu,ze,zw]
 refine AW.seq (AW.ofx [(3,5,[0,6,3,4])] mixed (by kernel_rfl) ?_)
 simp [zu,ze,zw]
 refine AW.seq (AW.block (AW.qbd (NrIP J M H k r q b s.A p l kv n S kp) ⟨wtp its,_,?_,[],its,hs,rfl,s1,s2,s3,hJ4,s4,s5,by rw [s6]; exact .refl _,by rw [s6]; rfl,s7,by simp; omega,rfl⟩ ?_))
 ·simp [qD,qm,qp,q9,Yz]
 clear s1 s2 s3 s4 s5 s6 s7 its hs
 rintro zz F H5 ⟨out,its,hs,rfl,s1,s2,s3,hJ5,s4,s5,s6,s7,s8,s9,rfl⟩
 have hnl:=qeM s5
 have hhl2:=s4.length_eq
 rw [List.length_map] at hhl2
 unfold Yz
 have hout:∀ s∈out,s∈S.filter kp:=fun s hs=>s6.mem_iff.1 (List.mem_append_left _ hs)
 have holen:out.length≤S.length:=by
  have e1:=s6.length_eq
  rw [List.length_append] at e1
  have e2:(S.filter kp).length≤S.length:=List.length_filter_le _ _
  omega
 refine AW.seq (AW.seq (AW.ofx [(3,5,[0,6,3,4])] mixed (by kernel_rfl) ?_))
 by_cases hlt:(out.length:Int)<n
 ·simp [hlt,zu,ze,zw]
  refine AW.ofx [(3,5,[0,6,3,4])] mixed (by kernel_rfl) ?_
  simp [zu,ze,zw]
  have hP:=zpop s2 (by omega)
  have hsk:=s1
  unfold Xu at hsk
  have hfin:its = []→NearP S kp p l n out:=fun e=>by
   subst e
   refine ⟨?_,hout⟩
   rw [List.flatMap_nil,List.map_nil] at s7
   have e1:sort ([]:List Ent) = []:=rfl
   rw [e1,List.append_nil] at s7
   rw [← s7,List.take_of_length_le]
   rw [List.length_map]
   omega
  refine AW.block (AW.seq (AW.ofx [(3,5,[0,6,3,4])] mixed (by kernel_rfl) ?_))
  simp [hsk,zu,ze,zw]
  refine qc.of hP ?_
  rintro y H6 ⟨rfl,k6,hq6⟩
  have hJ6:J H6:=hkp.stab _ _ hJ5 (k6.YV.weak fun x (hx:x=q)=>by rw [hx]; exact hDq)
  have k6:=k6.YV.weak (J:=fun x=>x=q∨M x) fun x hx => .inl hx
  cases hs with
  | nil =>
   have hits:its = []:=by
    have:=s4.length_eq
    simp at this
    exact List.length_eq_zero_iff.1 this.symm
   simp [qhS,setCells,qh,zu,ze,zw]
   have kfin:Kp M H (H6 ++ [Bk.cells [.v (.sc (.int .u64 0)),.v (.sc (.int .u64 0)),.v (.sc (.int .i64 0))]]):=(hkn s3 k6).app
   refine AW.block (AW.seq (AW.ofx [(3,5,[0,6,3,4])] mixed (by kernel_rfl) ?_))
   simp [zu,ze,zw]
   refine AW.cond true (by simp) (fun _ => ?_) (fun e=>by cases e)
   refine AW.ofx [] mixed (by kernel_rfl) ?_
   simp [zu,ze,zw]
   refine AW.ofx [(3,5,[0,6,3,4])] mixed (by kernel_rfl) ?_
   simp [zu,ze,zw,lV]
   exact ⟨out,⟨rfl,rfl⟩,hfin hits,hkp.stab _ _ hJ6 Kp.refl.app,kfin⟩
  | cons x tl =>
   obtain ⟨it,its',hx,hpi,htl⟩:=qjM s4
   have hsr:Srt (x::tl):=by
    obtain ⟨_,_,hh⟩:=s2
    exact hh.2.2
   have hlx:∀ y∈tl,y.lt x=false:=(List.pairwise_cons.1 hsr).1
   have g1:=hget (L := [.cells [.v (.sc (.int .u64 x.k)),.v (.sc (.int .u64 x.t)),.v (.sc (.int .i64 x.i))]]) (k6.cells (fun e=>e.elim (fun e=>hkq e.symm) hMk) s1)
   have g2:=hq6.keep (Kp.refl.app (L := [.cells [.v (.sc (.int .u64 x.k)),.v (.sc (.int .u64 x.t)),.v (.sc (.int .i64 x.i))]]) (I:=NoB)) (fun h=>h)
   have hJ7:J (H6 ++ [.cells [.v (.sc (.int .u64 x.k)),.v (.sc (.int .u64 x.t)),.v (.sc (.int .i64 x.i))]]):=hkp.stab _ _ hJ6 Kp.refl.app
   have g3:Kp M H (H6 ++ [.cells [.v (.sc (.int .u64 x.k)),.v (.sc (.int .u64 x.t)),.v (.sc (.int .i64 x.i))]]):=(hkn s3 k6).app
   have g7:(H6 ++ [Bk.cells [.v (.sc (.int .u64 x.k)),.v (.sc (.int .u64 x.t)),.v (.sc (.int .i64 x.i))]])[H6.length]? = some (.cells [.v (.sc (.int .u64 x.k)),.v (.sc (.int .u64 x.t)),.v (.sc (.int .i64 x.i))]):=by simp
   simp [qhS,Qr,setCells,qh,zu,ze,zw]
   simp only [List.tail_cons] at g2 hq6
   generalize H6 ++ [Bk.cells [.v (.sc (.int .u64 x.k)),.v (.sc (.int .u64 x.t)),.v (.sc (.int .i64 x.i))]]=H7 at *
   generalize H6.length=z at *
   clear s1 s2 s3 k6 hq6 hP hsk
   have g4:=hTk g3
   have hwt:wtp its=it.wt+wtp its':=by rw [wtp_perm hpi]; simp [wtp]
   have hfm:(its.flatMap (Itp.rcs kp)).Perm (it.rcs kp++its'.flatMap (Itp.rcs kp)):=by
    have:=hpi.flatMap_right (Itp.rcs kp)
    simpa using this
   have hok':∀ it∈its',it.ok b s.A:=fun it hit=>s5 it (hpi.mem_iff.2 (List.mem_cons_of_mem _ hit))
   refine AW.block (AW.seq (AW.ofx [(3,5,[0,6,3,4])] mixed (by kernel_rfl) ?_))
   simp [zu,ze,zw]
   refine AW.cond false (by simp) (fun e=>by cases e) (fun _ => ?_)
   cases it with
   | rc t =>
    obtain rfl:ZW p l t=x:=hx
    have e_t:(ZW p l t).t=1:=rfl
    have e_i:(ZW p l t).i=t.id:=rfl
    rw [e_t,e_i] at g7
    have htk:t∈S.filter kp:=s6.mem_iff.1 (List.mem_append_right _ (hfm.mem_iff.2 (List.mem_append_left _ (List.mem_singleton.2 rfl))))
    have htS:=(List.mem_filter.1 htk).1
    have hr7:=g4.cr
    have hm7:=g4.cm
    unfold trC at hr7
    obtain ⟨j,hsf,_⟩:=qcu (i:=0) (h.es.mem_iff.2 htS) ((h.es.map Pr.id).nodup_iff.2 h.ids)
    refine AW.seq (AW.ofx [(3,5,[0,6,3,4])] mixed (by kernel_rfl) ?_)
    simp [g7,zu,ze,zw]
    refine AW.cond false (by simp) (fun e=>by cases e) (fun _ => ?_)
    refine AW.ofx [(3,5,[0,6,3,4])] mixed (by kernel_rfl) ?_
    simp [g7,hr7,hm7,WM,hsf,zvPr,Pr.v_eq,zu,ze,zw]
    have hmn:∀ it∈its',(it.ent p l).lt (ZW p l t)=false:=fun it hit=>hlx _ (htl.mem_iff.2 (List.mem_map_of_mem hit))
    have hw1:(Itp.rc t).wt=1:=rfl
    refine ⟨by omega,wtp its',by omega,_,?_,out ++ [t],its',tl,rfl,g1,g2,g3,hJ7,htl,hok',?_,?_,by omega,?_,rfl⟩
    ·simp [qD,qm,qp,Yz,Pr.cs]
    ·rw [List.append_assoc]
     exact (List.Perm.append_left out hfm.symm).trans s6
    ·have e1:sort ((its.flatMap (Itp.rcs kp)).map (ZW p l))=ZW p l t::sort ((its'.flatMap (Itp.rcs kp)).map (ZW p l)):=by
      rw [Wv (hfm.map _)]
      exact sort_min (qhd hl hok' hmn)
     rw [e1] at s7
     rw [← s7,List.map_append,List.append_assoc]
     rfl
    ·rw [List.length_append,List.length_singleton]
     omega
   | nd a d c Sn =>
    obtain rfl:qgz c p l a=x:=hx
    have e_t:(qgz c p l a).t=0:=rfl
    have e_i:(qgz c p l a).i=a:=rfl
    rw [e_t,e_i] at g7
    obtain ⟨o1,o2,In,o3⟩:=s5 _ (hpi.mem_iff.2 (List.mem_cons_self ..))
    have hd16:d≤16:=by
     have e1:=o2.l
     have e2:=(qQ.1 o2.r).1
     omega
    have hSn:0<Sn.length:=List.length_pos_iff.2 o1
    have hw1:(Itp.nd a d c Sn).wt=Sn.length*(d+2):=rfl
    have hw2:Sn.length*(d+2)=Sn.length*(d+1)+Sn.length:=Nat.mul_succ _ _
    have hSnS:Sn.length≤Sn.length*(d+2):=Nat.le_mul_of_pos_right _ (by omega)
    have htll:tl.length≤its.length:=by
     have:=s4.length_eq
     simp at this
     omega
    have hOp:=skopenP g1 g2 g4 (by omega) (by omega) (by omega) (by omega) o3 o2 hl hkp hJ7 hDq hMq hMk (fun x hx=>by have:=hMl x hx; have:=(List.getElem?_eq_some_iff.1 g1).1; omega) hMr hMn hMm hd16 (by omega)
    refine AW.seq (AW.ofx [(3,5,[0,6,3,4])] mixed (by kernel_rfl) ?_)
    simp [g7,zu,ze,zw]
    refine AW.cond true (by simp) (fun _ => ?_) (fun e=>by cases e)
    refine AW.ofx [(3,5,[0,6,3,4])] mixed (by kernel_rfl) ?_
    simp [g7,zu,ze,zw]
    refine qc.of hOp ?_
    rintro y H8 ⟨kp8,hJ8,new,hs',w1,w3,w4,w5,w7⟩
    have kp8':=hkn g3 kp8
    have g18:=kp8.cells (fun e=>e.elim (fun e=>hkq e.symm) hMk) g1
    simp [zu,ze,zw]
    have hwa:=qhu new its'
    refine ⟨wtp (new++its'),by omega,_,?_,out,new++its',hs',rfl,g18,w1,kp8',hJ8,?_,?_,?_,?_,?_,s9,rfl⟩
    ·simp [qD,qm,qp,Yz]
    ·rw [List.map_append]
     exact w3.trans (List.Perm.append_left _ htl)
    ·intro it hit
     rcases List.mem_append.1 hit with hit | hit
     ·exact w4 it hit
     ·exact hok' it hit
    ·rw [List.flatMap_append]
     exact (List.Perm.append_left out ((w5.append_right _).trans hfm.symm)).trans s6
    ·rw [← s7]
     congr 1
     refine Wv (List.Perm.map _ ?_)
     rw [List.flatMap_append]
     exact (w5.append_right _).trans hfm.symm
    ·omega
 ·simp [hlt,zu,ze,zw]
  refine AW.ofx [(3,5,[0,6,3,4])] mixed (by kernel_rfl) ?_
  simp [zu,ze,zw]
  refine AW.ofx [(3,5,[0,6,3,4])] mixed (by kernel_rfl) ?_
  simp [zu,ze,zw,lV]
  refine ⟨out,⟨rfl,rfl⟩,⟨?_,hout⟩,hJ5,s3⟩
  have hol:n.toNat=(out.map (ZW p l)).length:=by
   rw [List.length_map]
   omega
  rw [← s7,hol,List.take_left]
end Go.Proofs.YtnconfggojpkcaaGreat
namespace Go.Proofs.YtnconfggojpkcaaGreat
set_option linter.all false
open Go.RowKit AM
set_option maxRecDepth 10000
attribute [local simp] jW zL yA jZ jq jX jY jo yB jr zM Xw Zf jQ Ze yP VX yO slF qU Zg jE Ql zN shares jF Qd zP ZM yt zo VY zq q8 yM jA Qe QN qZ zY jy yJ slV vD vF QM vg Yo jP vE aMM aUn Zh yL jR zX jO qX yK Zv yN yI VD Qo qY Zr Yp jC jB vG qM Yk eval qL AM.valOf qp qO zT del SV.refers zC yG jv shift ldV V.exact V.zh V.ofValue V.yh V.vT V.cells V.one Value.oneCell' Ym Q9 jH Zj Xf VW Qz VP jK zn QY Yt Qm Qg Zo calm Zu JN Zc feeds shrinks ZG looks isT QO vS QD putAt zV zQ JK sliceB isEq QS jg zi jU jm zK jh jl zJ jV jf zH Xt ZE QI JA Za inO yg Z9 Mix.qR Mix.QA Z5 Q7 qD qm q9 je zG Xr Zm y7 y8 Yg ZA zS vZ Zp jL V.fixed V.vO
attribute [local simp] yT jN QE yX vQ yU yV vP QF yR vL qbo Vk vY JX Vl z0 Z0 KN VQ Ws
structure Ru where
 kind:Int
 roles:Int
 lo:Int
 hi:Int
 labels:Int
 boxes:List Re
 zoom:Int
 deriving DecidableEq,Inhabited
namespace Ru
def cs (r:Ru):List V := [.sc (.int .i64 r.kind),.sc (.int .i64 r.roles),.sc (.int .i64 r.lo),.sc (.int .i64 r.hi),.sc (.int .i64 r.labels),slR r.boxes,.sc (.int .i64 r.zoom)]
def v (r:Ru):V := .agg r.cs
end Ru
def slU (xs:List Ru):V := .sl xs.length 7 (xs.flatMap Ru.cs)
def qfc (xs:List Ru):SV := .own true 95 xs.length 7 (xs.flatMap Ru.cs)
theorem Yv (r:Ru):V.qC r.cs=true:=by simp [Ru.cs,V.qC,V.closed,slR,vI (enc:=Re.cs) (fun _=>rfl)]
theorem yc (xs:List Ru):V.closed (slU xs)=true:=by simp [slU,V.closed,vI (enc:=Ru.cs) Yv]
theorem qdp {xs:List Ru} {k:Nat} (h:k<xs.length):AM.rowAt 7 (xs.flatMap Ru.cs) (k:Int) = [.sc (.int .i64 xs[k].kind),.sc (.int .i64 xs[k].roles),.sc (.int .i64 xs[k].lo),.sc (.int .i64 xs[k].hi),.sc (.int .i64 xs[k].labels),slR xs[k].boxes,.sc (.int .i64 xs[k].zoom)]:=ZV (enc:=Ru.cs) (sz:=7) (fun _=>rfl) h
def zR (n most:Int):Bool:=decide (0≤n∧n≤most)
def qK (r:Ru):Bool:=if r.kind=6 then zR r.roles 255&&decide (r.lo=0)&&decide (r.hi=0)&&decide (r.labels=0)&&decide (r.boxes = [])&&decide (r.zoom=0)
 else decide (r.kind=4∨r.kind=5)&&zR r.roles 255&&decide (0≤r.lo)&&decide (r.lo≤r.hi)&&decide (r.hi≤7)&&zR r.labels 255&&r.boxes.all qo&&zR r.zoom 16
def inS (sum n:Int):Bool:=decide (sum/2 ^ n.toNat%2=1)
def yC (ro ti la:Int):Bool:=zR ro 7&&zR ti 7&&zR la 7
def Yl (r:Ru) (ro ti la:Int):Bool:=qK r && !decide (r.kind=6)&&yC ro ti la&&inS r.roles ro&&decide (r.lo≤ti)&&decide (ti≤r.hi)&&inS r.labels la
def hasB (l:List Re) (p:Pt):Bool:=l.any fun b=>zU b p
theorem qaj (n most:Int):PFn Tryz.prog 171 [.sc (.int .i64 n),.sc (.int .i64 most)] (.sc (.bool (zR n most))):=by
 unfold zR
 refine AFn.intro (fn:=Tryz.f171) (by kernel_rfl) rfl (by kernel_rfl) (by simp) (AW.ofx [] mixed (by kernel_rfl) ?_)
 simp only [Tryz.f171,qj]
 by_cases h1:0≤n
 ·by_cases h2:n≤most
  ·simp [h1,h2]
  ·simp [h1,h2]
 ·simp [h1]
theorem uin (sum n:Int) (h1:0≤sum∧sum≤255) (h2:0≤n∧n≤7):PFn Tryz.prog 181 [.sc (.int .i64 sum),.sc (.int .i64 n)] (.sc (.bool (inS sum n))):=by
 obtain ⟨s,rfl⟩:∃ s:Nat,sum=s:=⟨sum.toNat,by omega⟩
 obtain ⟨m,rfl⟩:∃ m:Nat,n=m:=⟨n.toNat,by omega⟩
 have e1:qeT .i64 (s:Int) (m:Int)=((s/2 ^ m:Nat):Int):=qca s m (by simp [IntKind.bits]; omega)
 have hle:s/2 ^ m≤s:=Nat.div_le_self _ _
 have hm:¬ (m:Int)<0:=by omega
 have e3:inS (s:Int) (m:Int)=((((s/2 ^ m)%2:Nat):Int)==1):=by
  unfold inS
  rw [Bool.eq_iff_iff]
  simp
 rw [e3]
 generalize s/2 ^ m=q at *
 have e2:andI .i64 (q:Int) 1=((q%2:Nat):Int):=by
  have:=andI_nat (k := .i64) q 1 (.inl rfl) (by omega) (by omega)
  rw [show ((1:Nat):Int)=1 from rfl] at this
  rw [this,Nat.and_one_is_mod]
 refine AFn.intro (fn:=Tryz.f181) (by kernel_rfl) rfl (by kernel_rfl) (by simp) (AW.ofx [] mixed (by kernel_rfl) ?_)
 simp only [Tryz.f181,qj]
 simp [qc8,binR_and,e1,e2,hm]
theorem unumbers (ro ti la:Int):PFn Tryz.prog 180 [.sc (.int .i64 ro),.sc (.int .i64 ti),.sc (.int .i64 la)] (.sc (.bool (yC ro ti la))):=by
 have h1:=qaj ro 7
 have h2:=qaj ti 7
 have h3:=qaj la 7
 unfold yC
 generalize zR ro 7=a at *
 generalize zR ti 7=b at *
 generalize zR la 7=c at *
 refine AFn.intro (fn:=Tryz.f180) (by kernel_rfl) rfl (by kernel_rfl) (by simp) (AW.ofx [] mixed (by kernel_rfl) ?_)
 simp only [Tryz.f180,qj]
 simp
 refine qc.pure h1 rfl rfl ?_
 cases a with
 | false=>simp
 | true =>
  simp
  refine qc.pure h2 rfl rfl ?_
  cases b with
  | false=>simp
  | true =>
   simp
   refine qc.pure h3 rfl rfl ?_
   simp
end Go.Proofs.YtnconfggojpkcaaGreat
namespace Go.Proofs.YtnconfggojpkcaaGreat
set_option linter.all false
def Qt (q:Ru→Bool) (s:Int×Int) (r:Ru):Int×Int:=if q r then (if r.kind=4 then (max s.1 r.zoom,s.2) else (s.1,min s.2 r.zoom)) else s
def ZC (q:Ru→Bool) (l:List Ru):Int:=min (l.foldl (Qt q) (0,16)).1 (l.foldl (Qt q) (0,16)).2
def Qk (q:Ru→Bool) (z:Int) (r:Ru):Int:=if r.kind=4∧z<r.zoom∧q r=true then r.zoom else z
def YN (q:Ru→Bool) (z:Int) (r:Ru):Int:=if r.kind=5∧r.zoom<z∧q r=true then r.zoom else z
def qfN (q:Ru→Bool) (l:List Ru):Int:=l.foldl (YN q) (l.foldl (Qk q) 0)
theorem qfM {q:Ru→Bool}:∀ (l:List Ru) (s:Int×Int),(∀ r∈l,q r=true→r.kind=4∨r.kind=5)→(l.foldl (Qt q) s).1=l.foldl (Qk q) s.1
 | [],s,_=>rfl
 | r::l,s,h=>by
  rw [List.foldl_cons,List.foldl_cons,qfM l _ fun r hr=>h r (by simp [hr])]
  congr 1
  unfold Qt Qk
  cases hq:q r with
  | false=>simp
  | true =>
   by_cases h4:r.kind=4
   ·simp [h4]
    omega
   ·simp [h4]
theorem qfL {q:Ru→Bool}:∀ (l:List Ru) (s:Int×Int),(∀ r∈l,q r=true→r.kind=4∨r.kind=5)→(l.foldl (Qt q) s).2=l.foldl (YN q) s.2
 | [],s,_=>rfl
 | r::l,s,h=>by
  rw [List.foldl_cons,List.foldl_cons,qfL l _ fun r hr=>h r (by simp [hr])]
  congr 1
  have hr:=h r (by simp)
  unfold Qt YN
  cases hq:q r with
  | false=>simp
  | true =>
   rcases hr hq with h4 | h5
   ·simp [h4]
   ·simp [h5]
    omega
theorem qjf {q:Ru→Bool}:∀ (l:List Ru) (x y:Int),l.foldl (YN q) (min x y)=min x (l.foldl (YN q) y)
 | [],x,y=>rfl
 | r::l,x,y=>by
  rw [List.foldl_cons,List.foldl_cons,← qjf l]
  congr 1
  unfold YN
  by_cases h:r.kind=5∧q r=true
  ·simp only [h,true_and,and_true]
   split <;> split <;> omega
  ·have h1:∀ z,¬ (r.kind=5∧r.zoom<z∧q r=true):=fun z k=>h ⟨k.1,k.2.2⟩
   rw [if_neg (h1 _),if_neg (h1 _)]
theorem qdf {q:Ru→Bool} {M:Int}:∀ (l:List Ru) (z:Int),(∀ r∈l,q r=true→r.zoom≤M)→z≤M→l.foldl (Qk q) z≤M
 | [],z,_,h=>h
 | r::l,z,hr,h=>by
  rw [List.foldl_cons]
  refine qdf l _ (fun r h=>hr r (by simp [h])) ?_
  unfold Qk
  split
  ·rename_i k
   exact hr r (by simp) k.2.2
  ·exact h
theorem zoom_doc {q:Ru→Bool} {l:List Ru} (hk:∀ r∈l,q r=true→r.kind=4∨r.kind=5) (hz:∀ r∈l,q r=true→r.zoom≤16):ZC q l=qfN q l:=by
 unfold ZC qfN
 rw [qfM l _ hk,qfL l _ hk]
 have h:=qdf l 0 hz (by decide)
 simp only
 generalize l.foldl (Qk q) 0=a at *
 rw [← qjf,show min a 16=a by omega]
end Go.Proofs.YtnconfggojpkcaaGreat
namespace Go.Proofs.YtnconfggojpkcaaGreat
set_option linter.all false
open Go.RowKit AM
set_option maxRecDepth 10000
attribute [local simp] jW zL yA jZ jq jX jY jo yB jr zM Xw Zf jQ Ze yP VX yO slF qU Zg jE Ql zN shares jF Qd zP ZM yt zo VY zq q8 yM jA Qe QN qZ zY jy yJ slV vD vF QM vg Yo jP vE aMM aUn Zh yL jR zX jO qX yK Zv yN yI VD Qo qY Zr Yp jC jB vG qM Yk eval qL AM.valOf qp qO zT del SV.refers zC yG jv shift ldV V.exact V.zh V.ofValue V.yh V.vT V.cells V.one Value.oneCell' Ym Q9 jH Zj Xf VW Qz VP jK zn QY Yt Qm Qg Zo calm Zu JN Zc feeds shrinks ZG looks isT QO vS QD putAt zV zQ JK sliceB isEq QS jg zi jU jm zK jh jl zJ jV jf zH Xt ZE QI JA Za inO yg Z9 Mix.qR Mix.QA Z5 Q7 qD qm q9 je zG Xr Zm y7 y8 Yg ZA zS vZ Zp jL V.fixed V.vO
attribute [local simp] yT jN QE yX vQ yU yV vP QF yR vL qbo Vk vY JX Vl z0 Z0 KN VQ Ws
theorem Wu {α:Type} {q:α→Bool} {l:List α} {k:Nat} (h:∀ r∈l.take k,q r=true) (hk:k<l.length) (hr:q l[k]=true):∀ r∈l.take (k+1),q r=true:=by
 rw [List.take_succ_eq_append_getElem hk]
 intro r hm
 rcases List.mem_append.1 hm with hm | hm
 ·exact h r hm
 ·simp at hm; subst hm; exact hr
theorem qac {α:Type} {q:α→Bool} {l:List α} (h:∀ r∈l,q r=true):l.all q=true:=List.all_eq_true.2 h
theorem qbH {α:Type} {q:α→Bool} {l:List α} {k:Nat} (hk:k<l.length) (hr:q l[k]=false):l.all q=false:=by
 rw [Bool.eq_false_iff]
 intro h
 have:=List.all_eq_true.1 h _ (List.getElem_mem hk)
 rw [hr] at this
 cases this
def BbI (l:List Re) (k:Nat) (F:Fr) (H:List Bk):Prop:=(∀ r∈l.take k,qo r=true)∧F = [(5,.v (slR l)),(6,.v (.sc (.int .i64 l.length))),(7,.v (.sc (.int .i64 k)))]
theorem uboxes (l:List Re) (hl:l.length≤9223372036854775807):PFn Tryz.prog 172 [slR l] (.sc (.bool (l.all qo))):=by
 have hR:=Zk
 unfold Re.v Re.cs at hR
 refine AFn.intro (fn:=Tryz.f172) (by kernel_rfl) rfl (by kernel_rfl) (by simp) (AW.ofx [] mixed (by kernel_rfl) ?_)
 simp only [Tryz.f172,qj]
 simp [slR]
 refine AW.count l.length (BbI l) ⟨_,?_,by simp,rfl⟩ ?_
 ·simp [qD,qm,qp,slR]
 rintro k F H hk ⟨ht,rfl⟩
 refine AW.ofx [] mixed (by kernel_rfl) ?_
 by_cases hlt:k<l.length
 ·have w1:IntKind.i64.wrap ((k:Int)+1)=(k:Int)+1:=by rw [wrap_i64] <;> omega
  have hRk:=hR l[k]
  simp [slR,hlt,qgg,JE]
  refine qc.pure hRk rfl rfl ?_
  cases e:qo l[k] with
  | false=>simp [qbH hlt e]
  | true =>
   simp [w1,slR,hlt]
   refine ⟨_,?_,Wu ht hlt e,rfl⟩
   simp [qD,qm,qp,slR]
 ·have hk':k=l.length:=by omega
  subst hk'
  rw [List.take_length] at ht
  simp [slR,qac ht]
set_option maxHeartbeats 4000000 in
theorem uright (r:Ru) (hl:r.boxes.length≤9223372036854775807):PFn Tryz.prog 137 [r.v] (.sc (.bool (qK r))):=by
 have s1:=qaj r.roles 255
 have s2:=qaj r.labels 255
 have s3:=qaj r.zoom 16
 have hb:=uboxes r.boxes hl
 have cb:=K3 r.boxes
 have eb:(r.boxes = [])↔r.boxes.length=0:=by simp
 unfold qK
 simp only [eb]
 unfold Ru.v Ru.cs
 generalize zR r.roles 255=b1 at *
 generalize zR r.labels 255=b2 at *
 generalize zR r.zoom 16=b3 at *
 generalize r.boxes.all qo=b4 at *
 refine AFn.intro (fn:=Tryz.f137) (by kernel_rfl) rfl (by kernel_rfl) (by simp) ?_
 simp only [Tryz.f137,qj]
 by_cases h6:r.kind=6
 ·rw [if_pos h6]
  refine AW.ofx [] mixed (by kernel_rfl) ?_
  simp [slR,h6]
  refine qc.pure s1 rfl rfl ?_
  have hz:∀ n:Int,(n=0∧(n==0)=true)∨(n≠0∧(n==0)=false):=fun n=>by
   by_cases h:n=0
   ·exact .inl ⟨h,by simpa using h⟩
   ·exact .inr ⟨h,by simpa using h⟩
  have hy:(r.boxes = []∧((r.boxes.length:Int)==0)=true)∨(r.boxes ≠ []∧((r.boxes.length:Int)==0)=false):=by
   by_cases h:r.boxes = []
   ·exact .inl ⟨h,by simp [h]⟩
   ·exact .inr ⟨h,by simp [h]⟩
  cases b1 with
  | false=>simp
  | true =>
   simp [slR]
   rcases hz r.lo with ⟨a1,x1⟩ | ⟨a1,x1⟩ <;> rcases hz r.hi with ⟨a2,x2⟩ | ⟨a2,x2⟩ <;> rcases hz r.labels with ⟨a3,x3⟩ | ⟨a3,x3⟩ <;> rcases hy with ⟨a4,x4⟩ | ⟨a4,x4⟩ <;> rcases hz r.zoom with ⟨a5,x5⟩ | ⟨a5,x5⟩ <;> simp [a1,a2,a3,a4,a5,x1,x2,x3,x4,x5]
 ·rw [if_neg h6]
  have n6:(r.kind==6)=false:=by simpa using h6
  by_cases h45:r.kind=4∨r.kind=5
  ·refine AW.ofx [] mixed (by kernel_rfl) ?_
   rcases h45 with h4 | h4
   all_goals
    simp [slR,h6,h4]
    refine qc.pure s1 rfl rfl ?_
    cases b1 with
    | false=>simp
    | true =>
     by_cases a1:0≤r.lo
     ·by_cases a2:r.lo≤r.hi
      ·by_cases a3:r.hi≤7
       ·simp [slR,a1,a2,a3]
        refine qc.pure s2 rfl rfl ?_
        cases b2 with
        | false=>simp
        | true =>
         simp [slR]
         refine qc.pure hb (by simp [V.qC,V.closed,vI (enc:=Re.cs) (fun _=>rfl)]) rfl ?_
         cases b4 with
         | false=>simp
         | true =>
          simp [slR]
          refine qc.pure s3 rfl rfl ?_
          simp
       ·simp [slR,a1,a2,a3]
      ·simp [slR,a1,a2]
     ·simp [slR,a1]
  ·have n4:(r.kind==4)=false:=by simp; omega
   have n5:(r.kind==5)=false:=by simp; omega
   refine AW.ofx [] mixed (by kernel_rfl) ?_
   simp [slR,n6,n4,n5,h45]
def UrI (l:List Ru) (k:Nat) (F:Fr) (H:List Bk):Prop:=(∀ r∈l.take k,qK r=true)∧F = [(5,.v (slU l)),(6,.v (.sc (.int .i64 l.length))),(7,.v (.sc (.int .i64 k)))]
theorem uRight (l:List Ru) (hl:l.length≤9223372036854775807) (hb:∀ r∈l,r.boxes.length≤9223372036854775807):PFn Tryz.prog 88 [slU l] (.sc (.bool (l.all qK))):=by
 have hR:=fun r h=>uright r (hb r h)
 unfold Ru.v Ru.cs at hR
 refine AFn.intro (fn:=Tryz.f88) (by kernel_rfl) rfl (by kernel_rfl) (by simp) (AW.ofx [] mixed (by kernel_rfl) ?_)
 simp only [Tryz.f88,qj]
 simp [slU]
 refine AW.count l.length (UrI l) ⟨_,?_,by simp,rfl⟩ ?_
 ·simp [qD,qm,qp,slU]
 rintro k F H hk ⟨ht,rfl⟩
 refine AW.ofx [] mixed (by kernel_rfl) ?_
 by_cases hlt:k<l.length
 ·have w1:IntKind.i64.wrap ((k:Int)+1)=(k:Int)+1:=by rw [wrap_i64] <;> omega
  have hRk:=hR l[k] (List.getElem_mem hlt)
  have hrow:=qdp hlt
  unfold slR at hrow hRk
  simp [slU,hlt,hrow,JE]
  refine qc.pure hRk (by simp [V.qC,V.closed,vI (enc:=Re.cs) (fun _=>rfl)]) rfl ?_
  cases e:qK l[k] with
  | false=>simp [qbH hlt e]
  | true =>
   simp [w1,slU,hlt]
   refine ⟨_,?_,Wu ht hlt e,rfl⟩
   simp [qD,qm,qp,slU]
 ·have hk':k=l.length:=by omega
  subst hk'
  rw [List.take_length] at ht
  simp [slU,qac ht]
theorem KP {r:Ru} (h:qK r=true):0≤r.roles∧r.roles≤255:=by
 unfold qK zR at h
 split at h
 ·simp at h
  omega
 ·simp at h
  omega
theorem XF {r:Ru} (h:qK r=true):0≤r.labels∧r.labels≤255:=by
 unfold qK zR at h
 split at h
 ·simp at h
  omega
 ·simp at h
  omega
set_option maxHeartbeats 4000000 in
theorem ufor (r:Ru) (ro ti la:Int) (hl:r.boxes.length≤9223372036854775807):PFn Tryz.prog 151 [r.v,.sc (.int .i64 ro),.sc (.int .i64 ti),.sc (.int .i64 la)] (.sc (.bool (Yl r ro ti la))):=by
 have h1:=uright r hl
 have h2:=unumbers ro ti la
 have cv:V.qC [r.v]=true:=by simp [V.qC,V.closed,Ru.v,Yv]
 unfold Yl
 unfold Ru.v Ru.cs at h1 cv ⊢
 cases e1:qK r with
 | false =>
  rw [e1] at h1
  refine AFn.intro (fn:=Tryz.f151) (by kernel_rfl) rfl (by kernel_rfl) (by simp) (AW.ofx [] mixed (by kernel_rfl) ?_)
  simp only [Tryz.f151,qj]
  simp [slR]
  refine qc.pure h1 cv rfl ?_
  simp
 | true =>
  rw [e1] at h1
  by_cases h6:r.kind=6
  ·have n6:(r.kind != 6)=false:=by simpa using h6
   refine AFn.intro (fn:=Tryz.f151) (by kernel_rfl) rfl (by kernel_rfl) (by simp) (AW.ofx [] mixed (by kernel_rfl) ?_)
   simp only [Tryz.f151,qj]
   simp [slR]
   refine qc.pure h1 cv rfl ?_
   simp [n6,h6]
  ·have n6:(r.kind != 6)=true:=by simpa using h6
   cases e2:yC ro ti la with
   | false =>
    rw [e2] at h2
    refine AFn.intro (fn:=Tryz.f151) (by kernel_rfl) rfl (by kernel_rfl) (by simp) (AW.ofx [] mixed (by kernel_rfl) ?_)
    simp only [Tryz.f151,qj]
    simp [slR]
    refine qc.pure h1 cv rfl ?_
    simp [n6,h6]
    refine qc.pure h2 rfl rfl ?_
    simp
   | true =>
    rw [e2] at h2
    have hn:(0≤ro∧ro≤7)∧(0≤la∧la≤7):=by
     unfold yC zR at e2
     simp at e2
     omega
    have h3:=uin r.roles ro (KP e1) hn.1
    have h4:=uin r.labels la (XF e1) hn.2
    generalize inS r.roles ro=b3 at *
    generalize inS r.labels la=b4 at *
    refine AFn.intro (fn:=Tryz.f151) (by kernel_rfl) rfl (by kernel_rfl) (by simp) (AW.ofx [] mixed (by kernel_rfl) ?_)
    simp only [Tryz.f151,qj]
    simp [slR]
    refine qc.pure h1 cv rfl ?_
    simp [n6,h6]
    refine qc.pure h2 rfl rfl ?_
    simp
    refine qc.pure h3 rfl rfl ?_
    cases b3 with
    | false=>simp
    | true =>
     by_cases a1:r.lo≤ti
     ·by_cases a2:ti≤r.hi
      ·simp [a1,a2]
       refine qc.pure h4 rfl rfl ?_
       simp
      ·simp [a1,a2]
     ·simp [a1]
theorem qgr (n:Int):PFn Tryz.prog 189 [.sc (.int .i64 n)] (.sc (.bool (zR n 255))):=by
 unfold zR
 refine AFn.intro (fn:=Tryz.f189) (by kernel_rfl) rfl (by kernel_rfl) (by simp) (AW.ofx [] mixed (by kernel_rfl) ?_)
 simp only [Tryz.f189,qj]
 by_cases h1:0≤n
 ·by_cases h2:n≤255
  ·simp [h1,h2]
  ·simp [h1,h2]
 ·simp [h1]
theorem XJ (n:Int):PFn Tryz.prog 190 [.sc (.int .i64 n)] (.sc (.bool (zR n 7))):=by
 unfold zR
 refine AFn.intro (fn:=Tryz.f190) (by kernel_rfl) rfl (by kernel_rfl) (by simp) (AW.ofx [] mixed (by kernel_rfl) ?_)
 simp only [Tryz.f190,qj]
 by_cases h1:0≤n
 ·by_cases h2:n≤7
  ·simp [h1,h2]
  ·simp [h1,h2]
 ·simp [h1]
def pw (k:Nat):Nat:=2 ^ k
def TwI (n:Nat) (k:Nat) (F:Fr) (H:List Bk):Prop:=F = [(0,.v (.sc (.int .i64 n))),(3,.v (.sc (.int .i64 (pw k:Nat)))),(4,.v (.sc (.int .i64 k)))]
theorem refTwo12 (n:Nat) (h:n≤7):PFn Tryz.prog 221 [.sc (.int .i64 n)] (.sc (.int .i64 (pw n:Nat))):=by
 refine AFn.intro (fn:=Tryz.f221) (by kernel_rfl) rfl (by kernel_rfl) (by simp) (AW.ofx [] mixed (by kernel_rfl) ?_)
 simp only [Tryz.f221,qj]
 simp
 refine AW.count n (TwI n) ⟨_,?_,rfl⟩ ?_
 ·simp [qD,qm,qp,pw]
 rintro k F H hk rfl
 refine AW.ofx [] mixed (by kernel_rfl) ?_
 by_cases hlt:k<n
 ·have w1:IntKind.i64.wrap ((k:Int)+1)=(k:Int)+1:=by rw [wrap_i64] <;> omega
  have hp:pw k≤2 ^ 7:=Nat.pow_le_pow_right (by decide) (by omega)
  have e2:pw (k+1)=2*pw k:=by unfold pw; rw [Nat.pow_succ]; omega
  have w2:IntKind.i64.wrap (2*((pw k:Nat):Int))=((pw (k+1):Nat):Int):=by
   rw [e2]
   rw [wrap_i64] <;> omega
  have hlt':(k:Int)<n:=by omega
  simp [hlt,hlt',w1,w2]
  refine ⟨_,?_,rfl⟩
  simp [qD,qm,qp]
 ·have hk':k=n:=by omega
  subst hk'
  simp
theorem qiP (sum n:Int) (h1:0≤sum∧sum≤255) (h2:0≤n∧n≤7):PFn Tryz.prog 191 [.sc (.int .i64 sum),.sc (.int .i64 n)] (.sc (.bool (inS sum n))):=by
 obtain ⟨s,rfl⟩:∃ s:Nat,sum=s:=⟨sum.toNat,by omega⟩
 obtain ⟨m,rfl⟩:∃ m:Nat,n=m:=⟨n.toNat,by omega⟩
 have hT:=refTwo12 m (by omega)
 have hpos:0<pw m:=Nat.pow_pos (by decide)
 have e3:inS (s:Int) (m:Int)=((((s/pw m)%2:Nat):Int)==1):=by
  unfold inS pw
  rw [Bool.eq_iff_iff]
  simp
 rw [e3]
 generalize pw m=p at *
 have hle:s/p≤s:=Nat.div_le_self _ _
 have e0:(s:Int)/(p:Int)=((s/p:Nat):Int):=rfl
 have h0:¬ p=0:=by omega
 generalize s/p=q at *
 have e1:IntKind.i64.wrap (q:Int)=(q:Int):=by rw [wrap_i64] <;> omega
 have e2:(q:Int).tmod 2=(q:Int)%2:=Int.tmod_eq_emod_of_nonneg (by omega)
 refine AFn.intro (fn:=Tryz.f191) (by kernel_rfl) rfl (by kernel_rfl) (by simp) (AW.ofx [] mixed (by kernel_rfl) ?_)
 simp only [Tryz.f191,qj]
 simp
 refine qc.pure hT rfl rfl ?_
 simp [YO,X9,e0,e1,e2,h0]
def ruB (r:Ru):Bk := .cells [.v (.sc (.int .i64 r.kind)),.v (.sc (.int .i64 r.roles)),.v (.sc (.int .i64 r.lo)),.v (.sc (.int .i64 r.hi)),.v (.sc (.int .i64 r.labels)),.v (slR r.boxes),.v (.sc (.int .i64 r.zoom))]
def RrI (r:Ru) (k:Nat) (F:Fr) (H:List Bk):Prop:=(∀ b∈r.boxes.take k,qo b=true)∧H = [ruB r]∧F = [(1,.v (.ptr 0 0)),(3,.v (.sc (.int .i64 k)))]
theorem qgf {r:Ru} {k:Nat} (hk:k<r.boxes.length) (h:qo r.boxes[k]=false):qK r=false:=by
 have h1:=qbH hk h
 unfold qK
 rw [h1]
 split
 ·have:r.boxes ≠ []:=fun e=>by rw [e] at hk; simp at hk
  simp [this]
 ·simp
set_option maxHeartbeats 4000000 in
theorem qiN (r:Ru) (hl:r.boxes.length≤9223372036854775807):PFn Tryz.prog 163 [r.v] (.sc (.bool (qK r))):=by
 have hR:=Jp
 unfold Re.v Re.cs at hR
 have s1:=qgr r.roles
 have s2:=qgr r.labels
 unfold Ru.v Ru.cs
 refine AFn.intro (fn:=Tryz.f163) (by kernel_rfl) rfl (by kernel_rfl) (by simp) (AW.ofx [] mixed (by kernel_rfl) ?_)
 simp only [Tryz.f163,qj]
 simp [slR]
 refine AW.count r.boxes.length (RrI r) ⟨_,?_,by simp,rfl,rfl⟩ ?_
 ·simp [qD,qm,qp]
 rintro k F H hk ⟨ht,rfl,rfl⟩
 unfold ruB
 refine AW.ofx [] mixed (by kernel_rfl) ?_
 by_cases hlt:k<r.boxes.length
 ·have w1:IntKind.i64.wrap ((k:Int)+1)=(k:Int)+1:=by rw [wrap_i64] <;> omega
  have hRk:=hR r.boxes[k]
  have hrow:=qgg hlt
  simp [slR,hlt,hrow]
  refine qc.pure hRk rfl rfl ?_
  cases e:qo r.boxes[k] with
  | false=>simp [qgf hlt e]
  | true =>
   simp [w1,slR,hlt]
   refine ⟨_,?_,Wu ht hlt e,rfl,rfl⟩
   simp [qD,qm,qp,slR]
 ·have hk':k=r.boxes.length:=by omega
  subst hk'
  rw [List.take_length] at ht
  have hall:=qac ht
  by_cases h6:r.kind=6
  ·have er:qK r=(zR r.roles 255&&decide (r.lo=0)&&decide (r.hi=0)&&decide (r.labels=0)&&decide (r.boxes = [])&&decide (r.zoom=0)):=by
    unfold qK
    rw [if_pos h6]
   rw [er]
   generalize zR r.roles 255=b1 at *
   have hz:∀ n:Int,(n=0∧(n==0)=true)∨(n≠0∧(n==0)=false):=fun n=>by
    by_cases h:n=0
    ·exact .inl ⟨h,by simpa using h⟩
    ·exact .inr ⟨h,by simpa using h⟩
   have hy:(r.boxes = []∧((r.boxes.length:Int)==0)=true)∨(r.boxes ≠ []∧((r.boxes.length:Int)==0)=false):=by
    by_cases h:r.boxes = []
    ·exact .inl ⟨h,by simp [h]⟩
    ·exact .inr ⟨h,by simp [h]⟩
   simp [slR,h6]
   refine qc.pure s1 rfl rfl ?_
   cases b1 with
   | false=>simp
   | true =>
    simp [slR]
    rcases hz r.lo with ⟨a1,x1⟩ | ⟨a1,x1⟩ <;> rcases hz r.hi with ⟨a2,x2⟩ | ⟨a2,x2⟩ <;> rcases hz r.labels with ⟨a3,x3⟩ | ⟨a3,x3⟩ <;> rcases hy with ⟨a4,x4⟩ | ⟨a4,x4⟩ <;> rcases hz r.zoom with ⟨a5,x5⟩ | ⟨a5,x5⟩ <;> simp [a1,a2,a3,a4,a5,x1,x2,x3,x4,x5]
  ·have er:qK r=(decide (r.kind=4∨r.kind=5)&&zR r.roles 255&&decide (0≤r.lo)&&decide (r.lo≤r.hi)&&decide (r.hi≤7)&&zR r.labels 255&&true&&decide (0≤r.zoom∧r.zoom≤16)):=by
    unfold qK
    rw [if_neg h6,hall]
    rfl
   rw [er]
   generalize zR r.roles 255=b1 at *
   generalize zR r.labels 255=b2 at *
   have n6:(r.kind==6)=false:=by simpa using h6
   by_cases h45:r.kind=4∨r.kind=5
   ·rcases h45 with h4 | h4
    all_goals
     simp [slR,n6,h4]
     refine qc.pure s1 rfl rfl ?_
     cases b1 with
     | false=>simp
     | true =>
      simp [slR]
      refine qc.pure s2 rfl rfl ?_
      cases b2 with
      | false=>simp
      | true =>
       by_cases a1:0≤r.lo
       ·by_cases a2:r.lo≤r.hi
        ·by_cases a3:r.hi≤7
         ·by_cases a4:0≤r.zoom
          ·by_cases a5:r.zoom≤16
           ·simp [slR,a1,a2,a3,a4,a5]
           ·simp [slR,a1,a2,a3,a4,a5]
          ·simp [slR,a1,a2,a3,a4]
         ·simp [slR,a1,a2,a3]
        ·simp [slR,a1,a2]
       ·simp [slR,a1]
   ·have n4:(r.kind==4)=false:=by simp; omega
    have n5:(r.kind==5)=false:=by simp; omega
    simp [slR,n6,n4,n5,h45]
def RaI (l:List Ru) (k:Nat) (F:Fr) (H:List Bk):Prop:=(∀ r∈l.take k,qK r=true)∧F = [(0,.v (slU l)),(3,.v (.sc (.int .i64 k)))]
theorem refAll (l:List Ru) (hl:l.length≤9223372036854775807) (hb:∀ r∈l,r.boxes.length≤9223372036854775807):PFn Tryz.prog 119 [slU l] (.sc (.bool (l.all qK))):=by
 have hR:=fun r h=>qiN r (hb r h)
 unfold Ru.v Ru.cs at hR
 refine AFn.intro (fn:=Tryz.f119) (by kernel_rfl) rfl (by kernel_rfl) (by simp) (AW.ofx [] mixed (by kernel_rfl) ?_)
 simp only [Tryz.f119,qj]
 simp [slU]
 refine AW.count l.length (RaI l) ⟨_,?_,by simp,rfl⟩ ?_
 ·simp [qD,qm,qp,slU]
 rintro k F H hk ⟨ht,rfl⟩
 refine AW.ofx [] mixed (by kernel_rfl) ?_
 by_cases hlt:k<l.length
 ·have w1:IntKind.i64.wrap ((k:Int)+1)=(k:Int)+1:=by rw [wrap_i64] <;> omega
  have hRk:=hR l[k] (List.getElem_mem hlt)
  have hrow:=qdp hlt
  unfold slR at hrow hRk
  simp [slU,hlt,hrow]
  refine qc.pure hRk (by simp [V.qC,V.closed,vI (enc:=Re.cs) (fun _=>rfl)]) rfl ?_
  cases e:qK l[k] with
  | false=>simp [qbH hlt e]
  | true =>
   simp [w1,slU,hlt]
   refine ⟨_,?_,Wu ht hlt e,rfl⟩
   simp [qD,qm,qp,slU]
 ·have hk':k=l.length:=by omega
  subst hk'
  rw [List.take_length] at ht
  simp [slU,qac ht]
theorem kind_lt {r:Ru} (h:qK r=true):(r.kind<6)↔¬ r.kind=6:=by
 unfold qK at h
 split at h
 ·omega
 ·simp at h
  omega
set_option maxHeartbeats 4000000 in
theorem refFor (r:Ru) (ro ti la:Int) (hl:r.boxes.length≤9223372036854775807):PFn Tryz.prog 164 [r.v,.sc (.int .i64 ro),.sc (.int .i64 ti),.sc (.int .i64 la)] (.sc (.bool (Yl r ro ti la))):=by
 have h1:=qiN r hl
 have n1:=XJ ro
 have n2:=XJ ti
 have n3:=XJ la
 have cv:V.qC [r.v]=true:=by simp [V.qC,V.closed,Ru.v,Yv]
 unfold Yl yC
 unfold Ru.v Ru.cs at h1 cv ⊢
 cases e1:qK r with
 | false =>
  rw [e1] at h1
  refine AFn.intro (fn:=Tryz.f164) (by kernel_rfl) rfl (by kernel_rfl) (by simp) (AW.ofx [] mixed (by kernel_rfl) ?_)
  simp only [Tryz.f164,qj]
  simp [slR]
  refine qc.pure h1 cv rfl ?_
  simp
 | true =>
  rw [e1] at h1
  have hk:=kind_lt e1
  by_cases h6:r.kind=6
  ·have n6:¬ r.kind<6:=by omega
   refine AFn.intro (fn:=Tryz.f164) (by kernel_rfl) rfl (by kernel_rfl) (by simp) (AW.ofx [] mixed (by kernel_rfl) ?_)
   simp only [Tryz.f164,qj]
   simp [slR]
   refine qc.pure h1 cv rfl ?_
   simp [n6,h6]
  ·have n6:r.kind<6:=hk.2 h6
   cases e2:zR ro 7 with
   | false =>
    rw [e2] at n1
    refine AFn.intro (fn:=Tryz.f164) (by kernel_rfl) rfl (by kernel_rfl) (by simp) (AW.ofx [] mixed (by kernel_rfl) ?_)
    simp only [Tryz.f164,qj]
    simp [slR]
    refine qc.pure h1 cv rfl ?_
    simp [n6,h6]
    refine qc.pure n1 rfl rfl ?_
    simp
   | true =>
    rw [e2] at n1
    cases e3:zR ti 7 with
    | false =>
     rw [e3] at n2
     refine AFn.intro (fn:=Tryz.f164) (by kernel_rfl) rfl (by kernel_rfl) (by simp) (AW.ofx [] mixed (by kernel_rfl) ?_)
     simp only [Tryz.f164,qj]
     simp [slR]
     refine qc.pure h1 cv rfl ?_
     simp [n6,h6]
     refine qc.pure n1 rfl rfl ?_
     simp
     refine qc.pure n2 rfl rfl ?_
     simp
    | true =>
     rw [e3] at n2
     cases e4:zR la 7 with
     | false =>
      rw [e4] at n3
      refine AFn.intro (fn:=Tryz.f164) (by kernel_rfl) rfl (by kernel_rfl) (by simp) (AW.ofx [] mixed (by kernel_rfl) ?_)
      simp only [Tryz.f164,qj]
      simp [slR]
      refine qc.pure h1 cv rfl ?_
      simp [n6,h6]
      refine qc.pure n1 rfl rfl ?_
      simp
      refine qc.pure n2 rfl rfl ?_
      simp
      refine qc.pure n3 rfl rfl ?_
      simp
     | true =>
      rw [e4] at n3
      have hn:(0≤ro∧ro≤7)∧(0≤la∧la≤7):=by
       unfold zR at e2 e4
       simp at e2 e4
       omega
      have h3:=qiP r.roles ro (KP e1) hn.1
      have h4:=qiP r.labels la (XF e1) hn.2
      generalize inS r.roles ro=b3 at *
      generalize inS r.labels la=b4 at *
      refine AFn.intro (fn:=Tryz.f164) (by kernel_rfl) rfl (by kernel_rfl) (by simp) (AW.ofx [] mixed (by kernel_rfl) ?_)
      simp only [Tryz.f164,qj]
      simp [slR]
      refine qc.pure h1 cv rfl ?_
      simp [n6,h6]
      refine qc.pure n1 rfl rfl ?_
      simp
      refine qc.pure n2 rfl rfl ?_
      simp
      refine qc.pure n3 rfl rfl ?_
      simp
      refine qc.pure h3 rfl rfl ?_
      cases b3 with
      | false=>simp
      | true =>
       by_cases a1:r.lo≤ti
       ·by_cases a2:ti≤r.hi
        ·simp [a1,a2]
         refine qc.pure h4 rfl rfl ?_
         simp
        ·simp [a1,a2]
       ·simp [a1]
def yj (ro ti la:Int) (p:Pt) (r:Ru):Bool:=Yl r ro ti la&&hasB r.boxes p
theorem qen {l:List Re} {p:Pt} (h:hasB l p=true):fits p=true:=by
 unfold hasB at h
 obtain ⟨b,_,h⟩:=List.any_eq_true.1 h
 obtain ⟨h1,h2,h3⟩:=jT.1 h
 have:=qP.1 h1
 unfold fits inside
 simp
 omega
theorem any_no {α:Type} {q:α→Bool} {l:List α} (h:∀ r∈l,q r=false):l.any q=false:=by
 rw [Bool.eq_false_iff]
 intro e
 obtain ⟨r,hr,k⟩:=List.any_eq_true.1 e
 rw [h r hr] at k
 cases k
theorem qeR {α:Type} {q:α→Bool} {l:List α} {k:Nat} (h:∀ r∈l.take k,q r=false) (hk:k<l.length) (hr:q l[k]=false):∀ r∈l.take (k+1),q r=false:=by
 rw [List.take_succ_eq_append_getElem hk]
 intro r hm
 rcases List.mem_append.1 hm with hm | hm
 ·exact h r hm
 ·simp at hm; subst hm; exact hr
def Y4 (p:Pt):Bk := .cells [.v (.sc (.int .i64 p.x)),.v (.sc (.int .i64 p.y))]
def F2I (r:Ru) (p:Pt) (k:Nat) (F:Fr) (H:List Bk):Prop:=(∀ b∈r.boxes.take k,zU b p=false)∧H = [ruB r,Y4 p]∧F = [(5,.v (.ptr 0 0)),(9,.v (.ptr 1 0)),(11,.v (.sc (.int .i64 k)))]
set_option maxHeartbeats 4000000 in
theorem refFor2 (r:Ru) (ro ti la:Int) (p:Pt) (hl:r.boxes.length≤9223372036854775807):PFn Tryz.prog 120 [r.v,.sc (.int .i64 ro),.sc (.int .i64 ti),.sc (.int .i64 la),p.v] (.sc (.bool (yj ro ti la p r))):=by
 have h1:=refFor r ro ti la hl
 have h2:=qe2 p
 have hR:=fun b=>refHas b p
 have cv:V.qC [r.v,.sc (.int .i64 ro),.sc (.int .i64 ti),.sc (.int .i64 la)]=true:=by simp [V.qC,V.closed,Ru.v,Yv]
 unfold yj
 unfold Ru.v Ru.cs at h1 cv ⊢
 unfold Re.v Re.cs Pt.v Pt.cs at hR
 unfold Pt.v Pt.cs at h2 ⊢
 cases e1:Yl r ro ti la with
 | false =>
  rw [e1] at h1
  refine AFn.intro (fn:=Tryz.f120) (by kernel_rfl) rfl (by kernel_rfl) (by simp) (AW.ofx [] mixed (by kernel_rfl) ?_)
  simp only [Tryz.f120,qj]
  simp [slR]
  refine qc.pure h1 cv rfl ?_
  simp
 | true =>
  rw [e1] at h1
  cases e2:fits p with
  | false =>
   rw [e2] at h2
   have hf:hasB r.boxes p=false:=by
    rw [Bool.eq_false_iff]
    intro h
    rw [qen h] at e2
    cases e2
   refine AFn.intro (fn:=Tryz.f120) (by kernel_rfl) rfl (by kernel_rfl) (by simp) (AW.ofx [] mixed (by kernel_rfl) ?_)
   simp only [Tryz.f120,qj]
   simp [slR]
   refine qc.pure h1 cv rfl ?_
   simp
   refine qc.pure h2 rfl rfl ?_
   simp [hf]
  | true =>
   rw [e2] at h2
   refine AFn.intro (fn:=Tryz.f120) (by kernel_rfl) rfl (by kernel_rfl) (by simp) (AW.ofx [] mixed (by kernel_rfl) ?_)
   simp only [Tryz.f120,qj]
   simp [slR]
   refine qc.pure h1 cv rfl ?_
   simp
   refine qc.pure h2 rfl rfl ?_
   simp
   refine AW.count r.boxes.length (F2I r p) ⟨_,?_,by simp,rfl,rfl⟩ ?_
   ·simp [qD,qm,qp]
   rintro k F H hk ⟨ht,rfl,rfl⟩
   unfold ruB Y4
   refine AW.ofx [] mixed (by kernel_rfl) ?_
   by_cases hlt:k<r.boxes.length
   ·have w1:IntKind.i64.wrap ((k:Int)+1)=(k:Int)+1:=by rw [wrap_i64] <;> omega
    have hRk:=hR r.boxes[k]
    have hrow:=qgg hlt
    simp [slR,hlt,hrow]
    refine qc.pure hRk rfl rfl ?_
    cases e:zU r.boxes[k] p with
    | true =>
     have:hasB r.boxes p=true:=List.any_eq_true.2 ⟨_,List.getElem_mem hlt,e⟩
     simp [this]
    | false =>
     simp [w1,slR,hlt]
     refine ⟨_,?_,qeR ht hlt e,rfl,rfl⟩
     simp [qD,qm,qp,slR]
   ·have hk':k=r.boxes.length:=by omega
    subst hk'
    rw [List.take_length] at ht
    have hall:hasB r.boxes p=false:=any_no ht
    simp [slR,hall]
def jS (l:List Ru) (ro ti la:Int) (p:Pt):Int:=if l.all qK then qfN (yj ro ti la p) l else 0
theorem vX {α β:Type} {f:β→α→β} {b:β} {xs:List α} {k:Nat} (h:k<xs.length):(xs.take (k+1)).foldl f b=f ((xs.take k).foldl f b) xs[k]:=by
 rw [List.take_succ_eq_append_getElem h,List.foldl_append]
 rfl
def ZaI (l:List Ru) (ro ti la:Int) (p:Pt) (k:Nat) (F:Fr) (H:List Bk):Prop:=H = [Y4 p]∧F = [(0,.v (slU l)),(1,.v (.sc (.int .i64 ro))),(2,.v (.sc (.int .i64 ti))),(3,.v (.sc (.int .i64 la))),(9,.v (.ptr 0 0)),(11,.v (.sc (.int .i64 ((l.take k).foldl (Qk (yj ro ti la p)) 0)))),(12,.v (.sc (.int .i64 k)))]
def ZcI (l:List Ru) (ro ti la:Int) (p:Pt) (a:Int) (k:Nat) (F:Fr) (H:List Bk):Prop:=H = [Y4 p]∧F = [(0,.v (slU l)),(1,.v (.sc (.int .i64 ro))),(2,.v (.sc (.int .i64 ti))),(3,.v (.sc (.int .i64 la))),(9,.v (.ptr 0 0)),(11,.v (.sc (.int .i64 ((l.take k).foldl (YN (yj ro ti la p)) a)))),(13,.v (.sc (.int .i64 k)))]
set_option maxHeartbeats 4000000 in
theorem qiM (l:List Ru) (ro ti la:Int) (p:Pt) (hl:l.length≤9223372036854775807) (hb:∀ r∈l,r.boxes.length≤9223372036854775807):PFn Tryz.prog 67 [slU l,.sc (.int .i64 ro),.sc (.int .i64 ti),.sc (.int .i64 la),p.v] (.sc (.int .i64 (jS l ro ti la p))):=by
 have h1:=refAll l hl hb
 have h2:=fun r h=>refFor2 r ro ti la p (hb r h)
 have c1:=yc l
 unfold Ru.v Ru.cs Pt.v Pt.cs at h2
 unfold jS
 unfold Pt.v Pt.cs
 cases e1:l.all qK with
 | false =>
  rw [e1] at h1
  refine AFn.intro (fn:=Tryz.f67) (by kernel_rfl) rfl (by kernel_rfl) (by simp) (AW.ofx [] mixed (by kernel_rfl) ?_)
  simp only [Tryz.f67,qj]
  simp
  refine qc.pure h1 (by simp [V.qC,c1]) rfl ?_
  simp
 | true =>
  rw [e1] at h1
  refine AFn.intro (fn:=Tryz.f67) (by kernel_rfl) rfl (by kernel_rfl) (by simp) (AW.ofx [] mixed (by kernel_rfl) ?_)
  simp only [Tryz.f67,qj]
  simp
  refine qc.pure h1 (by simp [V.qC,c1]) rfl ?_
  simp
  refine AW.count l.length (ZaI l ro ti la p) ⟨_,?_,rfl,rfl⟩ ?_
  ·simp [qD,qm,qp]
  rintro k F H hk ⟨rfl,rfl⟩
  unfold Y4
  refine AW.ofx [] mixed (by kernel_rfl) ?_
  by_cases hlt:k<l.length
  ·have w1:IntKind.i64.wrap ((k:Int)+1)=(k:Int)+1:=by rw [wrap_i64] <;> omega
   have hFk:=h2 l[k] (List.getElem_mem hlt)
   have hrow:=qdp hlt
   have hst:=vX (f:=Qk (yj ro ti la p)) (b:=0) hlt
   unfold slR at hrow hFk
   generalize (l.take k).foldl (Qk (yj ro ti la p)) 0=z at *
   by_cases h4:l[k].kind=4
   ·by_cases hz:z<l[k].zoom
    ·simp [slU,hlt,hrow,h4,hz]
     rw [h4] at hFk
     refine qc.pure hFk (by simp [V.qC,V.closed,vI (enc:=Re.cs) (fun _=>rfl)]) rfl ?_
     cases e5:yj ro ti la p l[k] with
     | true =>
      have e:Qk (yj ro ti la p) z l[k]=l[k].zoom:=by unfold Qk; rw [if_pos ⟨h4,hz,e5⟩]
      rw [e] at hst
      simp [slU,hlt,hrow,w1]
      refine ⟨_,?_,rfl,rfl⟩
      rw [hst]
      simp [qD,qm,qp,slU]
     | false =>
      have e:Qk (yj ro ti la p) z l[k]=z:=by unfold Qk; rw [if_neg (fun h=>by rw [e5] at h; exact absurd h.2.2 (by decide))]
      rw [e] at hst
      simp [slU,hlt,hrow,w1]
      refine ⟨_,?_,rfl,rfl⟩
      rw [hst]
      simp [qD,qm,qp,slU]
    ·have e:Qk (yj ro ti la p) z l[k]=z:=by unfold Qk; rw [if_neg (fun h=>hz h.2.1)]
     rw [e] at hst
     simp [slU,hlt,hrow,h4,hz,w1]
     refine ⟨_,?_,rfl,rfl⟩
     rw [hst]
     simp [qD,qm,qp,slU]
   ·have e:Qk (yj ro ti la p) z l[k]=z:=by unfold Qk; rw [if_neg (fun h=>h4 h.1)]
    rw [e] at hst
    have n4:(l[k].kind==4)=false:=by simpa using h4
    simp [slU,hlt,hrow,n4,w1]
    refine ⟨_,?_,rfl,rfl⟩
    rw [hst]
    simp [qD,qm,qp,slU]
  ·have hk':k=l.length:=by omega
   subst hk'
   rw [List.take_length]
   unfold qfN
   generalize l.foldl (Qk (yj ro ti la p)) 0=a at *
   simp [slU]
   refine AW.count l.length (ZcI l ro ti la p a) ⟨_,?_,rfl,rfl⟩ ?_
   ·simp [qD,qm,qp,slU]
   rintro k F H hk ⟨rfl,rfl⟩
   unfold Y4
   refine AW.ofx [] mixed (by kernel_rfl) ?_
   by_cases hlt:k<l.length
   ·have w1:IntKind.i64.wrap ((k:Int)+1)=(k:Int)+1:=by rw [wrap_i64] <;> omega
    have hFk:=h2 l[k] (List.getElem_mem hlt)
    have hrow:=qdp hlt
    have hst:=vX (f:=YN (yj ro ti la p)) (b:=a) hlt
    unfold slR at hrow hFk
    generalize (l.take k).foldl (YN (yj ro ti la p)) a=z at *
    by_cases h4:l[k].kind=5
    ·by_cases hz:l[k].zoom<z
     ·simp [slU,hlt,hrow,h4,hz]
      rw [h4] at hFk
      refine qc.pure hFk (by simp [V.qC,V.closed,vI (enc:=Re.cs) (fun _=>rfl)]) rfl ?_
      cases e5:yj ro ti la p l[k] with
      | true =>
       have e:YN (yj ro ti la p) z l[k]=l[k].zoom:=by unfold YN; rw [if_pos ⟨h4,hz,e5⟩]
       rw [e] at hst
       simp [slU,hlt,hrow,w1]
       refine ⟨_,?_,rfl,rfl⟩
       rw [hst]
       simp [qD,qm,qp,slU]
      | false =>
       have e:YN (yj ro ti la p) z l[k]=z:=by unfold YN; rw [if_neg (fun h=>by rw [e5] at h; exact absurd h.2.2 (by decide))]
       rw [e] at hst
       simp [slU,hlt,hrow,w1]
       refine ⟨_,?_,rfl,rfl⟩
       rw [hst]
       simp [qD,qm,qp,slU]
     ·have e:YN (yj ro ti la p) z l[k]=z:=by unfold YN; rw [if_neg (fun h=>hz h.2.1)]
      rw [e] at hst
      simp [slU,hlt,hrow,h4,hz,w1]
      refine ⟨_,?_,rfl,rfl⟩
      rw [hst]
      simp [qD,qm,qp,slU]
    ·have e:YN (yj ro ti la p) z l[k]=z:=by unfold YN; rw [if_neg (fun h=>h4 h.1)]
     rw [e] at hst
     have n4:(l[k].kind==5)=false:=by simpa using h4
     simp [slU,hlt,hrow,n4,w1]
     refine ⟨_,?_,rfl,rfl⟩
     rw [hst]
     simp [qD,qm,qp,slU]
   ·have hk':k=l.length:=by omega
    subst hk'
    rw [List.take_length]
    simp [slU]
end Go.Proofs.YtnconfggojpkcaaGreat
namespace Go.Proofs.YtnconfggojpkcaaGreat
set_option linter.all false
theorem YI {l:List Re} {p:Pt}:hasB l p=true↔∃ b∈l,qo b=true∧(b.x0≤p.x∧p.x≤b.x1)∧b.y0≤p.y∧p.y≤b.y1:=by
 unfold hasB
 rw [List.any_eq_true]
 constructor
 ·rintro ⟨r,hr,h⟩; exact ⟨r,hr,jT.1 h⟩
 ·rintro ⟨r,hr,h⟩; exact ⟨r,hr,jT.2 h⟩
theorem qh0 {l:List Re} {xs:List Int} (hx:∀ r∈l,r.x0∈xs∧r.x1+1∈xs) {x x':Int} (h:∀ c∈xs,c≤x↔c≤x') (y:Int):hasB l ⟨x,y⟩=hasB l ⟨x',y⟩:=by
 rw [Bool.eq_iff_iff,YI,YI]
 constructor
 ·rintro ⟨r,hr,h1,h2,h3⟩
  have a1:=h _ (hx r hr).1
  have a2:=h _ (hx r hr).2
  simp only at h2 h3
  exact ⟨r,hr,h1,by simp only; omega,h3⟩
 ·rintro ⟨r,hr,h1,h2,h3⟩
  have a1:=h _ (hx r hr).1
  have a2:=h _ (hx r hr).2
  simp only at h2 h3
  exact ⟨r,hr,h1,by simp only; omega,h3⟩
theorem qhZ {l:List Re} {ys:List Int} (hy:∀ r∈l,r.y0∈ys∧r.y1+1∈ys) {y y':Int} (h:∀ c∈ys,c≤y↔c≤y') (x:Int):hasB l ⟨x,y⟩=hasB l ⟨x,y'⟩:=by
 rw [Bool.eq_iff_iff,YI,YI]
 constructor
 ·rintro ⟨r,hr,h1,h2,h3⟩
  have a1:=h _ (hy r hr).1
  have a2:=h _ (hy r hr).2
  simp only at h2 h3
  exact ⟨r,hr,h1,h2,by simp only; omega⟩
 ·rintro ⟨r,hr,h1,h2,h3⟩
  have a1:=h _ (hy r hr).1
  have a2:=h _ (hy r hr).2
  simp only at h2 h3
  exact ⟨r,hr,h1,h2,by simp only; omega⟩
theorem qaZ {q q':Ru→Bool} {l:List Ru} (h:∀ r∈l,q r=q' r):ZC q l=ZC q' l:=by
 have go:∀ (l:List Ru) (s:Int×Int),(∀ r∈l,q r=q' r)→l.foldl (Qt q) s=l.foldl (Qt q') s:=by
  intro l
  induction l with
  | nil=>intro s _; rfl
  | cons r l ih =>
   intro s h
   rw [List.foldl_cons,List.foldl_cons,ih _ fun r hr=>h r (by simp [hr])]
   unfold Qt
   rw [h r (by simp)]
 unfold ZC
 rw [go l _ h]
end Go.Proofs.YtnconfggojpkcaaGreat
namespace Go.Proofs.YtnconfggojpkcaaGreat
set_option linter.all false
open Go.RowKit AM Can
set_option maxRecDepth 10000
attribute [local simp] jW zL yA jZ jq jX jY jo yB jr zM Xw Zf jQ Ze yP VX yO slF qU Zg jE Ql zN shares jF Qd zP ZM yt zo VY zq q8 yM jA Qe QN qZ zY jy yJ slV vD vF QM vg Yo jP vE aMM aUn Zh yL jR zX jO qX yK Zv yN yI VD Qo qY Zr Yp jC jB vG qM Yk eval qL AM.valOf qp qO zT del SV.refers zC yG jv shift ldV V.exact V.zh V.ofValue V.yh V.vT V.cells V.one Value.oneCell' Ym Q9 jH Zj Xf VW Qz VP jK zn QY Yt Qm Qg Zo calm Zu JN Zc feeds shrinks ZG looks isT QO vS QD putAt zV zQ JK sliceB isEq QS jg zi jU jm zK jh jl zJ jV jf zH Xt ZE QI JA Za inO yg Z9 Mix.qR Mix.QA Z5 Q7 qD qm q9 je zG Xr Zm y7 y8 Yg ZA zS vZ Zp jL V.fixed V.vO
def YK (down:Bool) (o:List Int) (r:Re):List Int:=if down then Yj (Yj o r.y0) (r.y1+1) else Yj (Yj o r.x0) (r.x1+1)
def zI (l:List Re) (down:Bool):List Int:=l.foldl (YK down) [0,65536]
theorem qg2 {l:List Re} {down:Bool} {k:Nat} (h:k<l.length):zI (l.take (k+1)) down=YK down (zI (l.take k) down) l[k]:=by
 unfold zI
 rw [List.take_succ_eq_append_getElem h,List.foldl_append]
 rfl
theorem qka (down:Bool) (o:List Int) (r:Re):(YK down o r).length≤o.length+2:=by
 unfold YK
 split
 ·have h1:=XM r.y0 o
  have h2:=XM (r.y1+1) (Yj o r.y0)
  omega
 ·have h1:=XM r.x0 o
  have h2:=XM (r.x1+1) (Yj o r.x0)
  omega
theorem Wq (down:Bool) (l:List Re):(zI l down).length≤2+2*l.length:=by
 have go:∀ (l:List Re) (o:List Int),(l.foldl (YK down) o).length≤o.length+2*l.length:=by
  intro l
  induction l with
  | nil=>intro o; simp
  | cons r l ih =>
   intro o
   have h1:=ih (YK down o r)
   have h2:=qka down o r
   rw [List.foldl_cons]
   simp only [List.length_cons]
   omega
 simpa [zI] using go l [0,65536]
def lo (down:Bool) (r:Re):Int:=if down then r.y0 else r.x0
def hi (down:Bool) (r:Re):Int:=if down then r.y1 else r.x1
theorem qia {down:Bool} {o:List Int} {r:Re} (h:o.Pairwise (· < ·)):(YK down o r).Pairwise (· < ·)∧∀ z,z∈YK down o r↔z∈o∨z=lo down r∨z=hi down r+1:=by
 unfold YK lo hi
 split
 ·obtain ⟨h1,h2⟩:=Ky (n:=r.y0) h
  obtain ⟨h3,h4⟩:=Ky (n:=r.y1+1) h1
  exact ⟨h3,fun z=>by rw [h4,h2,or_assoc]⟩
 ·obtain ⟨h1,h2⟩:=Ky (n:=r.x0) h
  obtain ⟨h3,h4⟩:=Ky (n:=r.x1+1) h1
  exact ⟨h3,fun z=>by rw [h4,h2,or_assoc]⟩
theorem Ya (l:List Re) (down:Bool):(zI l down).Pairwise (· < ·)∧∀ z,z∈zI l down↔z=0∨z=65536∨∃ r∈l,z=lo down r∨z=hi down r+1:=by
 have go:∀ (l:List Re) (o:List Int),o.Pairwise (· < ·)→(l.foldl (YK down) o).Pairwise (· < ·)∧∀ z,z∈l.foldl (YK down) o↔z∈o∨∃ r∈l,z=lo down r∨z=hi down r+1:=by
  intro l
  induction l with
  | nil=>intro o h; exact ⟨h,fun z=>by simp⟩
  | cons r l ih =>
   intro o h
   obtain ⟨h1,h2⟩:=qia (down:=down) (r:=r) h
   obtain ⟨h3,h4⟩:=ih _ h1
   refine ⟨h3,fun z => ?_⟩
   rw [List.foldl_cons,h4,h2]
   simp only [List.mem_cons,exists_eq_or_imp,or_assoc]
 obtain ⟨h1,h2⟩:=go l [0,65536] (by simp)
 exact ⟨h1,fun z=>by rw [zI,h2]; simp [or_assoc]⟩
def EdI (a b:List Re) (down:Bool) (k:Nat) (F:Fr) (H:List Bk):Prop:=F = [(0,.v (slR a)),(1,.v (slR b)),(2,.v (.sc (.bool down))),(7,.v (slI (zI ((a++b).take k) down))),(8,.v (.sc (.int .i64 k)))]
theorem refEdges (a b:List Re) (down:Bool) (ha:a.length≤1000000) (hb:b.length≤1000000) (hra:∀ r∈a,qo r=true) (hrb:∀ r∈b,qo r=true):PFn Tryz.prog 127 [slR a,slR b,.sc (.bool down)] (slI (zI (a++b) down)):=by
 refine AFn.intro (fn:=Tryz.f127) (by kernel_rfl) rfl (by kernel_rfl) (by simp) (AW.ofx [(10,7,[7,9]),(11,7,[7,9])] mixed (by kernel_rfl) ?_)
 simp only [Tryz.f127,qj]
 simp [slR]
 refine AW.qkm 7 rfl ?_
 simp only [zT,Nat.reduceBEq,cond_true,cond_false]
 refine AW.count (a++b).length (EdI a b down) ⟨_,?_,rfl⟩ ?_
 ·simp [qD,qm,qp,slR,slI,zI,ints]
 rintro k F H hk rfl
 have wl:IntKind.i64.wrap ((a.length:Int)+b.length)=(a.length:Int)+b.length:=by rw [wrap_i64] <;> omega
 have hlen:=Wq down ((a++b).take k)
 rw [List.length_take] at hlen
 rw [List.length_append] at hk
 refine AW.ofx [(10,7,[7,9]),(11,7,[7,9])] mixed (by kernel_rfl) ?_
 by_cases hlt:k<(a++b).length
 ·have w1:IntKind.i64.wrap ((k:Int)+1)=(k:Int)+1:=by rw [wrap_i64] <;> omega
  have hn:=qg2 (down:=down) hlt
  have hlt':(k:Int)<(a.length:Int)+b.length:=by rw [List.length_append] at hlt; omega
  have hr:qo (a++b)[k]=true:=by
   have:=List.getElem_mem hlt
   rcases List.mem_append.1 this with h | h
   ·exact hra _ h
   ·exact hrb _ h
  have hr':=qP.1 hr
  have hfin:∀ es,zI ((a++b).take (k+1)) down=es→∀ H,EdI a b down (k+1) [(0,.v (slR a)),(1,.v (slR b)),(2,.v (.sc (.bool down))),(7,.v (slI es)),(8,.v (.sc (.int .i64 (k+1:Nat))))] H:=fun es e H=>by
   rw [EdI,e]
  have hp1:=qiO (zI ((a++b).take k) down) (lo down (a++b)[k]) (by omega)
  have hpl:=XM (lo down (a++b)[k]) (zI ((a++b).take k) down)
  have hp2:=qiO (Yj (zI ((a++b).take k) down) (lo down (a++b)[k])) (hi down (a++b)[k]+1) (by omega)
  have c0:=Jm (zI ((a++b).take k) down)
  have c1:=Jm (Yj (zI ((a++b).take k) down) (lo down (a++b)[k]))
  have c2:=Jm (Yj (Yj (zI ((a++b).take k) down) (lo down (a++b)[k])) (hi down (a++b)[k]+1))
  have hsub:∀ es,zI ((a++b).take (k+1)) down=es→k<a.length+b.length→True:=fun _ _ _=>trivial
  have wx:IntKind.i64.wrap ((a++b)[k].x1+1)=(a++b)[k].x1+1:=by rw [wrap_i64] <;> omega
  have wy:IntKind.i64.wrap ((a++b)[k].y1+1)=(a++b)[k].y1+1:=by rw [wrap_i64] <;> omega
  have e0:YK down (zI ((a++b).take k) down) (a++b)[k]=Yj (Yj (zI ((a++b).take k) down) (lo down (a++b)[k])) (hi down (a++b)[k]+1):=by
   unfold YK lo hi
   cases down <;> rfl
  rw [e0] at hn
  replace hfin:=hfin _ hn
  by_cases hka:k<a.length
  ·have hka':(k:Int)<a.length:=by omega
   have eg:(a++b)[k]=a[k]:=List.getElem_append_left hka
   rw [eg] at hp1 hp2 c1 c2 hpl wx wy hfin
   generalize zI ((a++b).take k) down=es at *
   have hrow:=qgg hka
   generalize a[k]=r at *
   cases down with
   | true =>
    simp only [lo,hi,if_true] at hp1 hp2 c1 c2 hpl hfin
    simp [slR,wl,hlt',hka,hrow,JE]
    refine qc.pure hp1 (by simp [V.qC,V.closed,c0]) c1 ?_
    simp [wy]
    refine qc.pure hp2 (by simp [V.qC,V.closed,c1]) c2 ?_
    simp [w1]
    refine ⟨by omega,_,?_,hfin _⟩
    simp [qD,qm,qp,slR]
   | false =>
    simp only [lo,hi,Bool.false_eq_true,if_false] at hp1 hp2 c1 c2 hpl hfin
    simp [slR,wl,hlt',hka,hrow,JE]
    refine qc.pure hp1 (by simp [V.qC,V.closed,c0]) c1 ?_
    simp [wx]
    refine qc.pure hp2 (by simp [V.qC,V.closed,c1]) c2 ?_
    simp [w1]
    refine ⟨by omega,_,?_,hfin _⟩
    simp [qD,qm,qp,slR]
  ·have hka':¬ (k:Int)<a.length:=by omega
   have hkb:k - a.length<b.length:=by rw [List.length_append] at hlt; omega
   have eg:(a++b)[k]=b[k - a.length]:=List.getElem_append_right (by omega)
   have ws:IntKind.i64.wrap ((k:Int) - a.length)=((k - a.length:Nat):Int):=by rw [wrap_i64] <;> omega
   rw [eg] at hp1 hp2 c1 c2 hpl wx wy hfin
   generalize zI ((a++b).take k) down=es at *
   have hrow:=qgg hkb
   generalize b[k - a.length]=r at *
   cases down with
   | true =>
    simp only [lo,hi,if_true] at hp1 hp2 c1 c2 hpl hfin
    simp [slR,wl,hlt',hka,hka',hrow,JE,ws,hkb]
    refine qc.pure hp1 (by simp [V.qC,V.closed,c0]) c1 ?_
    simp [wy]
    refine qc.pure hp2 (by simp [V.qC,V.closed,c1]) c2 ?_
    simp [w1]
    refine ⟨by omega,_,?_,hfin _⟩
    simp [qD,qm,qp,slR]
   | false =>
    simp only [lo,hi,Bool.false_eq_true,if_false] at hp1 hp2 c1 c2 hpl hfin
    simp [slR,wl,hlt',hka,hka',hrow,JE,ws,hkb]
    refine qc.pure hp1 (by simp [V.qC,V.closed,c0]) c1 ?_
    simp [wx]
    refine qc.pure hp2 (by simp [V.qC,V.closed,c1]) c2 ?_
    simp [w1]
    refine ⟨by omega,_,?_,hfin _⟩
    simp [qD,qm,qp,slR]
 ·have hk':k=(a++b).length:=by rw [List.length_append] at hlt ⊢; omega
  subst hk'
  rw [List.take_length]
  simp [slR,slI,wl]
end Go.Proofs.YtnconfggojpkcaaGreat
namespace Go.Proofs.YtnconfggojpkcaaGreat
set_option linter.all false
open Go.RowKit AM Can
set_option maxRecDepth 10000
attribute [local simp] jW zL yA jZ jq jX jY jo yB jr zM Xw Zf jQ Ze yP VX yO slF qU Zg jE Ql zN shares jF Qd zP ZM yt zo VY zq q8 yM jA Qe QN qZ zY jy yJ slV vD vF QM vg Yo jP vE aMM aUn Zh yL jR zX jO qX yK Zv yN yI VD Qo qY Zr Yp jC jB vG qM Yk eval qL AM.valOf qp qO zT del SV.refers zC yG jv shift ldV V.exact V.zh V.ofValue V.yh V.vT V.cells V.one Value.oneCell' Ym Q9 jH Zj Xf VW Qz VP jK zn QY Yt Qm Qg Zo calm Zu JN Zc feeds shrinks ZG looks isT QO vS QD putAt zV zQ JK sliceB isEq QS jg zi jU jm zK jh jl zJ jV jf zH Xt ZE QI JA Za inO yg Z9 Mix.qR Mix.QA Z5 Q7 qD qm q9 je zG Xr Zm y7 y8 Yg ZA zS vZ Zp jL V.fixed V.vO
namespace Can
theorem Kw {L:Type} [DecidableEq L] {f:Int→Option L} {xs:List Int}:∀ k,(jc f xs k).length≤k
 | 0=>by simp [jc]
 | k+1=>by
  have h1:=Kw (f:=f) (xs:=xs) k
  rw [jc]
  split
  ·unfold step
   split
   ·unfold push
    split
    ·split
     ·simp; omega
     ·simp; omega
    ·simp
   ·omega
  ·omega
theorem qdS {L:Type} [DecidableEq L] {f:Int→Option L} {xs:List Int}:∀ k,∀ r∈jc f xs k,∃ y,f y=some r.z
 | 0,r,hr=>by simp [jc] at hr
 | k+1,r,hr=>by
  have h1:=qdS (f:=f) (xs:=xs) k
  rw [jc] at hr
  split at hr
  ·rename_i n m _ _
   unfold step at hr
   split at hr
   ·rename_i z hz
    rcases List.eq_nil_or_concat (jc f xs k) with e | ⟨R',r',e⟩
    ·rw [e] at hr
     simp [push] at hr
     subst hr
     exact ⟨_,hz⟩
    ·simp only [List.concat_eq_append] at e
     rw [e] at hr h1
     unfold push at hr
     simp only [List.getLast?_append,List.getLast?_singleton,Option.some_or,List.dropLast_concat] at hr
     split at hr
     ·rcases List.mem_append.1 hr with hr | hr
      ·exact h1 r (by simp [hr])
      ·simp at hr
       subst hr
       exact ⟨_,hz⟩
     ·rcases List.mem_append.1 hr with hr | hr
      ·exact h1 r hr
      ·simp at hr
       subst hr
       exact ⟨_,hz⟩
   ·exact h1 r hr
  ·exact h1 r hr
theorem qg0 {L:Type} [DecidableEq L] {R:Int→List (Run L)} {ys:List Int} {M:Nat} (hM:∀ y,(R y).length≤M) (k:Nat):(emit (jc (QT R) ys k)).length≤k*M:=by
 have h1:=Kw (f:=QT R) (xs:=ys) k
 have h2:=qdS (f:=QT R) (xs:=ys) k
 generalize jc (QT R) ys k=B at *
 have go:∀ B:List (Run (List (Run L))),(∀ r∈B,∃ y,QT R y=some r.z)→(emit B).length≤B.length*M:=by
  intro B
  induction B with
  | nil=>simp [emit]
  | cons b B ih =>
   intro h
   have e:emit (b::B)=qii b++emit B:=by simp [emit]
   have h3:=ih (fun r hr=>h r (by simp [hr]))
   obtain ⟨y,hy⟩:=h b (by simp)
   have h4:(qii b).length≤M:=by
    unfold QT at hy
    split at hy
    ·cases hy
    ·have:=Option.some.inj hy
     unfold qii
     rw [List.length_map,← this]
     exact hM y
   rw [e,List.length_append,List.length_cons,Nat.succ_mul]
   omega
 have h3:=go B h2
 have h4:=Nat.mul_le_mul_right M h1
 omega
end Can
end Go.Proofs.YtnconfggojpkcaaGreat
namespace Go.Proofs.YtnconfggojpkcaaGreat
set_option linter.all false
open Go.Shelf Go.RowKit Go.Lib Go.Sort
def qgF:Go.Shelf.Ren:=⟨fun | 189=>145 | 125=>175 | 257=>174 | 128=>201 | 129=>202 | 294=>192 | 295=>193 | 296=>194 | 297=>195 | 298=>196 | 299=>197 | 216=>198 | 300=>199 | 301=>200 | 328=>222 | 329=>223 | 330=>224 | 331=>225 | 332=>226 | 215=>227 | 343=>235 | n=>n,fun | 28=>134 | 3=>3 | 46=>244 | 0=>0 | 51=>273 | 53=>108 | 4=>4 | 183=>266 | 182=>265 | 131=>270 | 5=>5 | 9=>9 | 218=>286 | 222=>290 | 228=>296 | 229=>184 | n=>n,fun | n=>n⟩
theorem qi3:Go.Proofs.Lays.n189 Tryz.prog qgF := {
 mixed:=by kernel_rfl
 f125:=Tryz.func175.trans (congrArg some (by kernel_rfl))
 f128:=Tryz.func201.trans (congrArg some (by kernel_rfl))
 f129:=Tryz.func202.trans (congrArg some (by kernel_rfl))
 f189:=Tryz.func145.trans (congrArg some (by kernel_rfl))
 f215:=Tryz.func227.trans (congrArg some (by kernel_rfl))
 f216:=Tryz.func198.trans (congrArg some (by kernel_rfl))
 f257:=Tryz.func174.trans (congrArg some (by kernel_rfl))
 f294:=Tryz.func192.trans (congrArg some (by kernel_rfl))
 f295:=Tryz.func193.trans (congrArg some (by kernel_rfl))
 f296:=Tryz.func194.trans (congrArg some (by kernel_rfl))
 f297:=Tryz.func195.trans (congrArg some (by kernel_rfl))
 f298:=Tryz.func196.trans (congrArg some (by kernel_rfl))
 f299:=Tryz.func197.trans (congrArg some (by kernel_rfl))
 f300:=Tryz.func199.trans (congrArg some (by kernel_rfl))
 f301:=Tryz.func200.trans (congrArg some (by kernel_rfl))
 f328:=Tryz.func222.trans (congrArg some (by kernel_rfl))
 f329:=Tryz.func223.trans (congrArg some (by kernel_rfl))
 f330:=Tryz.func224.trans (congrArg some (by kernel_rfl))
 f331:=Tryz.func225.trans (congrArg some (by kernel_rfl))
 f332:=Tryz.func226.trans (congrArg some (by kernel_rfl))
 f343:=Tryz.func235.trans (congrArg some (by kernel_rfl))
 t0:=Tryz.underlying0
 a0:=Tryz.isAgg0
 z0:=Tryz.sizeOf0
 v0:=Tryz.zeroValue0
 t3:=Tryz.underlying3
 a3:=Tryz.isAgg3
 z3:=Tryz.sizeOf3
 v3:=Tryz.zeroValue3
 t4:=Tryz.underlying4
 a4:=Tryz.isAgg4
 z4:=Tryz.sizeOf4
 v4:=Tryz.zeroValue4
 t5:=Tryz.underlying5
 a5:=Tryz.isAgg5
 z5:=Tryz.sizeOf5
 v5:=Tryz.zeroValue5
 t9:=Tryz.underlying9
 a9:=Tryz.isAgg9
 z9:=Tryz.sizeOf9
 v9:=Tryz.zeroValue9
 t28:=Tryz.underlying134
 a28:=Tryz.isAgg134
 z28:=Tryz.sizeOf134
 v28:=Tryz.zeroValue134
 t46:=Tryz.underlying244
 a46:=Tryz.isAgg244
 z46:=Tryz.sizeOf244
 v46:=Tryz.zeroValue244
 t51:=Tryz.underlying273
 a51:=Tryz.isAgg273
 z51:=Tryz.sizeOf273
 v51:=Tryz.zeroValue273
 t53:=Tryz.underlying108
 a53:=Tryz.isAgg108
 z53:=Tryz.sizeOf108
 v53:=Tryz.zeroValue108
 t131:=Tryz.underlying270
 a131:=Tryz.isAgg270
 z131:=Tryz.sizeOf270
 v131:=Tryz.zeroValue270
 t182:=Tryz.underlying265
 a182:=Tryz.isAgg265
 z182:=Tryz.sizeOf265
 v182:=Tryz.zeroValue265
 t183:=Tryz.underlying266
 a183:=Tryz.isAgg266
 z183:=Tryz.sizeOf266
 v183:=Tryz.zeroValue266
 t218:=Tryz.underlying286
 a218:=Tryz.isAgg286
 z218:=Tryz.sizeOf286
 v218:=Tryz.zeroValue286
 t222:=Tryz.underlying290
 a222:=Tryz.isAgg290
 z222:=Tryz.sizeOf290
 v222:=Tryz.zeroValue290
 t228:=Tryz.underlying296
 a228:=Tryz.isAgg296
 z228:=Tryz.sizeOf296
 v228:=Tryz.zeroValue296
 t229:=Tryz.underlying184
 a229:=Tryz.isAgg184
 z229:=Tryz.sizeOf184
 v229:=Tryz.zeroValue184 }
def qhW:Go.Shelf.Ren:=⟨fun | 20=>146 | n=>n,fun | 22=>134 | 3=>3 | 4=>4 | 0=>0 | n=>n,fun | n=>n⟩
theorem lays20:Go.Proofs.Lays2.n20 Tryz.prog qhW := {
 mixed:=by kernel_rfl
 f20:=Tryz.func146.trans (congrArg some (by kernel_rfl))
 t0:=Tryz.underlying0
 a0:=Tryz.isAgg0
 z0:=Tryz.sizeOf0
 v0:=Tryz.zeroValue0
 t3:=Tryz.underlying3
 a3:=Tryz.isAgg3
 z3:=Tryz.sizeOf3
 v3:=Tryz.zeroValue3
 t4:=Tryz.underlying4
 a4:=Tryz.isAgg4
 z4:=Tryz.sizeOf4
 v4:=Tryz.zeroValue4
 t22:=Tryz.underlying134
 a22:=Tryz.isAgg134
 z22:=Tryz.sizeOf134
 v22:=Tryz.zeroValue134
 i3:=by kernel_rfl }
namespace AM
section
variable {α:Type} [Inhabited α] {enc:α→Value}
theorem qjt (cur:Array Value) (ts rest:List α) (h:(ts++rest).length≤cur.size):(putCells enc 0 (ts++rest).toArray cur).toList.take ts.length=ts.map enc:=by
 rw [List.length_append] at h
 apply List.ext_getElem?
 intro j
 by_cases hj:j<ts.length
 ·rw [List.getElem?_take_of_lt hj,Array.getElem?_toList]
  have h1:j<ts.length+rest.length:=by omega
  simp [putCells,hj,h1,show j<cur.size by omega,List.getElem_append_left hj]
 ·rw [List.getElem?_take_eq_none (by omega),List.getElem?_eq_none (by simp; omega)]
theorem qhJ {w:World} {g cap n:Nat} {e:TypeId} {cur:Array Value} {ys rest:List α} (hl:(ys++rest).length≤cur.size) (hb:w.heap[g]? = some (.cells cur e (0,0)))
  (h1:ys.length≤cap) (h2:cap≤maxLen) (h3:cur.size=cap*1):KM w (putRow enc (Sort.ahead w n) g 0 (ys++rest).toArray) g e 1 ys.length cap (ys.map enc):=by
 have e0:grow (putRow enc (Sort.ahead w n) g 0 (ys++rest).toArray) #[]=putRow enc (Sort.ahead w n) g 0 (ys++rest).toArray:=grow_empty _
 have hh:=heap_put (enc:=enc) (os := #[]) (n:=n) (ys++rest).toArray hb
 rw [e0] at hh
 refine ⟨rfl,rfl,rfl,by simp [putRow,mapBlock,Sort.ahead],fun k hne hk => ?_,by simp,.inr ⟨g,cap,_,rfl,Nat.zero_le _,hh,h1,h2,by simp [putCells,h3],by rw [Nat.mul_one]; exact qjt cur ys rest hl⟩⟩
 simp [putRow,mapBlock,Sort.ahead,Array.getElem?_modify,Ne.symm hne]
end
end AM
theorem sortI:AM.qjl Tryz.prog 145 [] 3 1 (fun z:Int => [Value.int .i64 z]) false (fun zs ys=>ys=AM.sorted' zs):=by
 have hfm:∀ ys:List Int,ys.flatMap (fun z => [Value.int .i64 z])=ys.map (Value.int .i64):=fun ys=>by induction ys <;> simp_all
 refine ⟨fun blk cap zs w hsz hrow => ?_,fun w => ?_⟩
 ·rcases hrow.2 with ⟨h,_⟩ | ⟨g',cap',cur,hv,_,hb,h1,h2,h3,h4⟩
  ·cases h
  cases hv
  rw [hfm,Nat.mul_one] at h4
  simp only [hfm]
  have hH:=AM.Xb (enc:=Value.int .i64) (ss:=zs) hb h4
  have hblk:blk<w.heap.size:=(Array.getElem?_eq_some_iff.1 hb).1
  have hS:=Any.slices_Sort_int qi3 blk 0 cap zs w hH hblk hsz
  refine Calls.mono (show Calls Tryz.prog 145 #[.slice (some ⟨blk,0,none⟩) zs.length cap] _ _ from hS) fun e w' he => ?_
  obtain ⟨rfl,n,os,rfl⟩:=he
  have hl:(AM.sorted' zs).length=zs.length:=by simp [AM.sorted']
  exact ⟨_,rfl,rfl,fun _=>hl,by rw [hl]; exact AM.qjB hl hb h1 h2 h3⟩
 ·have hS:=Any.slices_Sort_int_none qi3 none 0 w
  refine Calls.mono (show Calls Tryz.prog 145 #[.slice none 0 0] _ _ from hS) fun e w' he => ?_
  obtain ⟨rfl,rfl⟩:=he
  exact ⟨by simp [AM.sorted'],rfl,Go.RowKit.Below.refl _ _⟩
theorem qg3:AM.qjl Tryz.prog 146 [] 3 1 (fun z:Int => [Value.int .i64 z]) true (fun zs ys=>ys=Lib.compact zs):=by
 have hfm:∀ ys:List Int,ys.flatMap (fun z => [Value.int .i64 z])=ys.map (Value.int .i64):=fun ys=>by induction ys <;> simp_all
 refine ⟨fun blk cap zs w hsz hrow => ?_,fun w => ?_⟩
 ·rcases hrow.2 with ⟨h,_⟩ | ⟨g',cap',cur,hv,_,hb,h1,h2,h3,h4⟩
  ·cases h
  cases hv
  rw [hfm,Nat.mul_one] at h4
  simp only [hfm]
  have hH:=AM.Xb (enc:=Value.int .i64) (ss:=zs) hb h4
  have hS:=Any.slices_Compact_int lays20 blk 0 cap zs w hH (by omega) h1
  refine Calls.mono (show Calls Tryz.prog 146 #[.slice (some ⟨blk,0,none⟩) zs.length cap] _ _ from hS) fun e w' he => ?_
  obtain ⟨rfl,q,rfl⟩:=he
  have hc:(Lib.compact zs).length≤zs.length:=by
   unfold Lib.compact Lib.compactUpTo
   rw [List.length_map]
   have:=List.length_filter_le (Lib.keeps zs.toArray) (List.range zs.length)
   simpa using this
  exact ⟨_,rfl,rfl,(fun h=>by cases h),AM.qhJ (by simp; omega) hb (by omega) h2 h3⟩
 ·have hS:=Any.slices_Compact_int_empty lays20 none 0 w
  refine Calls.mono (show Calls Tryz.prog 146 #[.slice none 0 0] _ _ from hS) fun e w' he => ?_
  obtain ⟨rfl,rfl⟩:=he
  exact ⟨by simp [Lib.compact,Lib.compactUpTo],rfl,Go.RowKit.Below.refl _ _⟩
end Go.Proofs.YtnconfggojpkcaaGreat
namespace Go.Proofs.YtnconfggojpkcaaGreat
set_option linter.all false
open Go.RowKit AM Can
theorem VE {α β:Type} {f:α→List β} {xs:List α} {k:Nat} (h:k<xs.length):(xs.take (k+1)).flatMap f=(xs.take k).flatMap f++f xs[k]:=by
 rw [List.take_succ_eq_append_getElem h,List.flatMap_append]
 simp
theorem qez {α:Type} {f g:α→Int}:∀ xs:List α,(xs.flatMap fun r => [f r,g r]).length=2*xs.length
 | []=>rfl
 | x::xs=>by
  rw [List.flatMap_cons,List.length_append,qez xs]
  simp
  omega
theorem VZ (zs:List Int):scs (fun z:Int => [Value.int .i64 z]) zs=ints zs:=by
 unfold scs ints
 induction zs with
 | nil=>rfl
 | cons z zs ih =>
  rw [List.flatMap_cons,ih]
  rfl
end Go.Proofs.YtnconfggojpkcaaGreat
namespace Go.Proofs.YtnconfggojpkcaaGreat
set_option linter.all false
open Go.RowKit AM Can
set_option maxRecDepth 10000
attribute [local simp] jW zL yA jZ jq jX jY jo yB jr zM Xw Zf jQ Ze yP VX yO slF qU Zg jE Ql zN shares jF Qd zP ZM yt zo VY zq q8 yM jA Qe QN qZ zY jy yJ slV vD vF QM vg Yo jP vE aMM aUn Zh yL jR zX jO qX yK Zv yN yI VD Qo qY Zr Yp jC jB vG qM Yk eval qL AM.valOf qp qO zT del SV.refers zC yG jv shift ldV V.exact V.zh V.ofValue V.yh V.vT V.cells V.one Value.oneCell' Ym Q9 jH Zj Xf VW Qz VP jK zn QY Yt Qm Qg Zo calm Zu JN Zc feeds shrinks ZG looks isT QO vS QD putAt zV zQ JK sliceB isEq QS jg zi jU jm zK jh jl zJ jV jf zH Xt ZE QI JA Za inO yg Z9 Mix.qR Mix.QA Z5 Q7 qD qm q9 je zG Xr Zm y7 y8 Yg ZA zS vZ Zp jL V.fixed V.vO
attribute [local simp] yT jN QE yX vQ yU yV vP QF yR vL qbo Vk vY JX Vl z0 Z0 KN VQ Ws
def qz (l:List Ru):List Re:=l.flatMap Ru.boxes
def ZQ (d:Bool) (l:List Re):List Int:=l.flatMap fun r => [lo d r,hi d r+1]
theorem qaP (d:Bool) (l:List Re):(ZQ d l).length=2*l.length:=qez l
theorem qaO {d:Bool} {l:List Re} {z:Int}:z∈ZQ d l↔∃ r∈l,z=lo d r∨z=hi d r+1:=by simp [ZQ]
theorem qfp (d:Bool) (a b:List Re):ZQ d (a++b)=ZQ d a++ZQ d b:=by simp [ZQ]
def OfD (P:Program) (f:FuncId) (d:Bool):Prop:=∀ b:Re,PFn P f [b.v] (.tup [.sc (.int .i64 (lo d b)),.sc (.int .i64 (hi d b))])
theorem gbX:OfD Tryz.prog 183 false:=fun b=>by
 unfold Re.v Re.cs
 refine AFn.intro (fn:=Tryz.f183) (by kernel_rfl) rfl (by kernel_rfl) (by simp) (AW.ofx [] mixed (by kernel_rfl) ?_)
 simp only [Tryz.f183,qj]
 simp [lo,hi]
theorem gbY:OfD Tryz.prog 184 true:=fun b=>by
 unfold Re.v Re.cs
 refine AFn.intro (fn:=Tryz.f184) (by kernel_rfl) rfl (by kernel_rfl) (by simp) (AW.ofx [] mixed (by kernel_rfl) ?_)
 simp only [Tryz.f184,qj]
 simp [lo,hi]
def EgA (f:FuncId) (d:Bool) (l:List Ru) (k:Nat) (F:Fr) (H:List Bk):Prop:=F = [(1,.v (.fn (.func f) [] [])),(5,QJ (ZQ d (qz (l.take k)))),(12,.v (slU l)),(13,.v (.sc (.int .i64 l.length))),(14,.v (.sc (.int .i64 k)))]
def EgB (f:FuncId) (d:Bool) (l:List Ru) (k:Nat) (c:List Re) (j:Nat) (F:Fr) (H:List Bk):Prop:=F = [(1,.v (.fn (.func f) [] [])),(5,QJ (ZQ d (qz (l.take k))++ZQ d (c.take j))),(12,.v (slU l)),(13,.v (.sc (.int .i64 l.length))),(14,.v (.sc (.int .i64 k))),(19,.v (slR c)),(20,.v (.sc (.int .i64 c.length))),(21,.v (.sc (.int .i64 j)))]
theorem X8 {l:List Ru} {k:Nat} (h:k<l.length):qz (l.take (k+1))=qz (l.take k)++l[k].boxes:=VE h
theorem J5 (l:List Ru) (k:Nat):(qz (l.take k)).length≤(qz l).length:=by
 have:=congrArg (fun x=>(qz x).length) (List.take_append_drop k l)
 simp only [qz,List.flatMap_append,List.length_append] at this ⊢
 omega
theorem qc7 {l:List Ru} {r:Ru} (h:r∈l) {b:Re} (hb:b∈r.boxes):b∈qz l:=List.mem_flatMap.2 ⟨r,h,hb⟩
set_option maxHeartbeats 4000000 in
theorem gedges (f:FuncId) (d:Bool) (hf:OfD Tryz.prog f d) (l:List Ru) (hl:l.length≤1000000) (hn:(qz l).length≤1048576) (hr:∀ b∈qz l,qo b=true) :
  PFn Tryz.prog 182 [slU l,.fn (.func f) [] []] (slI (XT (ZQ d (qz l)))):=by
 unfold OfD Re.v Re.cs at hf
 refine AFn.intro (fn:=Tryz.f182) (by kernel_rfl) rfl (by kernel_rfl) (by simp) ?_
 simp only [Tryz.f182,qj]
 refine AW.seq (AW.ofz [] mixed (by kernel_rfl) ?_)
 simp
 refine AW.seq (AW.ofz [] mixed (by kernel_rfl) ?_)
 simp
 refine AW.seq (AW.ofz [] mixed (by kernel_rfl) ?_)
 simp [slU]
 refine AW.count l.length (EgA f d l) ⟨_,?_,rfl⟩ ?_
 ·simp [qD,qm,qp,QJ,q9,ZQ,qz,ints,slU]
 rintro k F H hk rfl
 refine AW.ofz [] mixed (by kernel_rfl) ?_
 have w1:IntKind.i64.wrap ((k:Int)+1)=(k:Int)+1:=by rw [wrap_i64] <;> omega
 by_cases hlt:k<l.length
 ·have hrow:=qdp hlt
  have hcm:∀ b∈l[k].boxes,qo b=true:=fun b hb=>hr b (qc7 (List.getElem_mem hlt) hb)
  have hst:=X8 hlt
  have hpre:=J5 l (k+1)
  rw [hst,List.length_append] at hpre
  have hel:=qaP d (qz (l.take k))
  have hnx:ZQ d (qz (l.take (k+1)))=ZQ d (qz (l.take k))++ZQ d l[k].boxes:=by rw [hst,qfp]
  generalize hc:l[k].boxes=c at *
  unfold slR at hrow
  simp [slU,QJ,hlt,hrow,JE]
  refine AW.count c.length (EgB f d l k c) ⟨_,?_,rfl⟩ ?_
  ·simp [qD,qm,qp,QJ,ZQ,slU,slR]
  rintro j F H2 hj rfl
  refine AW.ofz [] mixed (by kernel_rfl) ?_
  have hlj:=qaP d (c.take j)
  rw [List.length_take] at hlj
  by_cases hjl:j<c.length
  ·have w2:IntKind.i64.wrap ((j:Int)+1)=(j:Int)+1:=by rw [wrap_i64] <;> omega
   have hrj:=qgg hjl
   have hbj:=qP.1 (hcm _ (List.getElem_mem hjl))
   have w3:IntKind.i64.wrap (hi d c[j]+1)=hi d c[j]+1:=by
    unfold hi
    rw [wrap_i64] <;> split <;> omega
   have hn:=hf c[j]
   have hst:ZQ d (c.take (j+1))=ZQ d (c.take j) ++ [lo d c[j],hi d c[j]+1]:=VE hjl
   simp [slU,hjl,hrj,slR,QJ,JE,w2]
   refine qc.pure hn rfl rfl ?_
   simp [slU,slR,w2,w3,QJ]
   refine ⟨by omega,_,?_,rfl⟩
   rw [hst]
   simp [qD,qm,qp,QJ,slU,slR,ints]
   omega
  ·have hjj:j=c.length:=by omega
   subst hjj
   rw [List.take_length,← hnx]
   simp [slU,slR,QJ,w1]
   refine ⟨_,?_,rfl⟩
   simp [qD,qm,qp,QJ,slU]
 ·have hk2:k=l.length:=by omega
  subst hk2
  rw [List.take_length]
  have hz:=qaP d (qz l)
  simp [slU,QJ]
  generalize ZQ d (qz l)=zs at *
  refine AW.seq (AW.qiK (u:=5) (e:=3) (sz:=1) (n:=zs.length) (zs:=zs) (xs := []) sortI ⟨_,Tryz.func145,rfl,by kernel_rfl⟩ (fun x v hv=>by simp at hv; subst hv; rfl) rfl rfl rfl rfl rfl rfl (fun a=>rfl) rfl rfl (by decide) (by decide) (by decide) (by decide) (by simp [qp,VZ]) rfl rfl (by omega) ?_)
  rintro ys rfl hyl
  rw [VZ]
  have hN:XT zs=Go.Lib.compact (sorted' zs):=rfl
  rw [← hyl]
  rw [hN]
  generalize sorted' zs=qs at *
  simp
  refine AW.seq (AW.qiL (u:=5) (e:=3) (sz:=1) (n:=qs.length) (zs:=qs) (xs := []) qg3 ⟨_,Tryz.func146,rfl,by kernel_rfl⟩ (fun x v hv=>by simp at hv; subst hv; rfl) rfl rfl rfl rfl rfl rfl (fun a=>rfl) rfl rfl (by decide) (by decide) (by decide) (by simp [qp,VZ]) rfl (by omega) ?_)
  rintro ys rfl
  rw [VZ]
  generalize Go.Lib.compact qs=rs at *
  simp
  refine AW.ofz [] mixed (by kernel_rfl) ?_
  simp [slI]
def AskB (P:Program) (g:FuncId) (cap:List V) (q:Re→Bool) (H:List Bk):Prop:=∀ H',yD H H'→∀ b:Re,AFn P g (b.v::cap) H' fun y H''=>y = .sc (.bool (q b))∧yD H' H''
def IxI (H0:List Bk) (g:FuncId) (cap:List V) (q:Re→Bool) (l:List Re) (k:Nat) (F:Fr) (H:List Bk):Prop:=(∀ b∈l.take k,q b=false)∧yD H0 H∧F = [(0,.v (slR l)),(1,.v (.fn (.func g) [] cap)),(7,.v (.sc (.int .i64 l.length))),(8,.v (.sc (.int .i64 k)))]
theorem gindex (l:List Re) (g:FuncId) (cap:List V) (q:Re→Bool) (H:List Bk) (hl:l.length≤9223372036854775807) (hq:AskB Tryz.prog g cap q H):AFn Tryz.prog 237 [slR l,.fn (.func g) [] cap] H fun y H'=>∃ n:Int,y = .sc (.int .i64 n)∧decide (0≤n)=l.any q∧yD H H':=by
 unfold AskB Re.v Re.cs at hq
 refine AFn.intro (fn:=Tryz.f237) (by kernel_rfl) rfl (by kernel_rfl) (by simp) (AW.ofx [] mixed (by kernel_rfl) ?_)
 simp only [Tryz.f237,qj]
 simp [slR]
 refine AW.count l.length (IxI H g cap q l) ⟨_,?_,by simp,.refl,rfl⟩ ?_
 ·simp [qD,qm,qp,slR]
 rintro k F H1 hk ⟨ht,hs,rfl⟩
 refine AW.ofx [] mixed (by kernel_rfl) ?_
 by_cases hlt:k<l.length
 ·have w1:IntKind.i64.wrap ((k:Int)+1)=(k:Int)+1:=by rw [wrap_i64] <;> omega
  have hrow:=qgg hlt
  simp [slR,hlt,hrow]
  refine qc.of (hq H1 hs l[k]) ?_
  rintro y H2 ⟨rfl,h2⟩
  cases e:q l[k] with
  | true =>
   have:l.any q=true:=List.any_eq_true.2 ⟨_,List.getElem_mem hlt,e⟩
   simp [this,slR]
   exact hs.trans h2
  | false =>
   simp [w1,slR,hlt]
   refine ⟨_,?_,qeR ht hlt e,hs.trans h2,rfl⟩
   simp [qD,qm,qp,slR]
 ·have hk':k=l.length:=by omega
  subst hk'
  rw [List.take_length] at ht
  have hall:l.any q=false:=any_no ht
  simp [slR,hall]
  exact hs
theorem qj4 (l:List Re) (g:FuncId) (cap:List V) (q:Re→Bool) (H:List Bk) (hl:l.length≤9223372036854775807) (hq:AskB Tryz.prog g cap q H):AFn Tryz.prog 233 [slR l,.fn (.func g) [] cap] H fun y H'=>y = .sc (.bool (l.any q))∧yD H H':=by
 have h1:=gindex l g cap q H hl hq
 refine AFn.intro (fn:=Tryz.f233) (by kernel_rfl) rfl (by kernel_rfl) (by simp) (AW.ofx [] mixed (by kernel_rfl) ?_)
 simp only [Tryz.f233,qj]
 simp [slR]
 refine qc.of (by simpa [slR] using h1) ?_
 rintro y H2 ⟨n,rfl,hn,h2⟩
 simp [hn]
 exact h2
theorem gask (p:Pt) (id:Nat) (H:List Bk) (h:H[id]? = some (Y4 p)):AskB Tryz.prog 234 [.ptr id 0] (fun b=>zU b p) H:=fun H1 h1 b=>by
 have hid:H1[id]? = some (Y4 p):=h1.cells h
 have hR:=gHas b p
 unfold Re.v Re.cs Pt.v Pt.cs at hR
 unfold Y4 at hid
 unfold Re.v Re.cs
 refine AFn.intro (fn:=Tryz.f234) (by kernel_rfl) rfl (by kernel_rfl) (by simp) (AW.ofx [] mixed (by kernel_rfl) ?_)
 simp only [Tryz.f234,qj]
 have hid':=fun L=>qdw (L:=L) hid
 simp [hid,hid']
 refine qc.pure hR rfl rfl ?_
 simp
 exact .app
def qbt (n:Int):Option Int:=if n=0 then none else some n
def Wi (p:Pt) (r:Ru):Bool:=hasB r.boxes p
def GzI (p:Pt) (l:List Ru) (k:Nat) (F:Fr) (H:List Bk):Prop:=yD [Y4 p] H∧F = [(3,.v (.ptr 0 0)),(5,.v (.sc (.int .i64 ((l.take k).foldl (Qt (Wi p)) (0,16)).1))),(6,.v (.sc (.int .i64 ((l.take k).foldl (Qt (Wi p)) (0,16)).2))),(9,.v (slU l)),(10,.v (.sc (.int .i64 l.length))),(11,.v (.sc (.int .i64 k)))]
set_option maxHeartbeats 4000000 in
theorem gzoom (l:List Ru) (p:Pt) (hl:l.length≤9223372036854775807) (hb:∀ r∈l,r.boxes.length≤9223372036854775807):PFn Tryz.prog 220 [slU l,p.v] (.sc (.int .i64 (ZC (Wi p) l))):=by
 unfold Pt.v Pt.cs
 refine AFn.intro (fn:=Tryz.f220) (by kernel_rfl) rfl (by kernel_rfl) (by simp) (AW.ofx [] mixed (by kernel_rfl) ?_)
 simp only [Tryz.f220,qj]
 simp [slU]
 refine AW.count l.length (GzI p l) ⟨_,?_,.refl,rfl⟩ ?_
 ·simp [qD,qm,qp,slU]
 rintro k F H hk ⟨hs,rfl⟩
 refine AW.ofx [] mixed (by kernel_rfl) ?_
 have h0:H[0]? = some (Y4 p):=hs.cells rfl
 have hst:=fun h=>vX (f:=Qt (Wi p)) (b:=((0:Int),(16:Int))) (xs:=l) (k:=k) h
 by_cases hlt:k<l.length
 ·have w1:IntKind.i64.wrap ((k:Int)+1)=(k:Int)+1:=by rw [wrap_i64] <;> omega
  have hrow:=qdp hlt
  have hst:=hst hlt
  have hc:=qj4 l[k].boxes 234 [.ptr 0 0] (fun b=>zU b p)
  have hbl:=hb _ (List.getElem_mem hlt)
  generalize hgs:(l.take k).foldl (Qt (Wi p)) (0,16)=s at *
  unfold slR at hrow hc
  simp [slU,hlt,hrow,JE]
  have hs1:yD [Y4 p] (H ++ [.cells [.v (.sc (.int .i64 l[k].kind)),.v (.sc (.int .i64 l[k].roles)),.v (.sc (.int .i64 l[k].lo)),.v (.sc (.int .i64 l[k].hi)),.v (.sc (.int .i64 l[k].labels)),.v (.sl l[k].boxes.length 4 (l[k].boxes.flatMap Re.cs)),.v (.sc (.int .i64 l[k].zoom))]]):=hs.append
  have hid:=qdc (H:=H) (b := .cells [.v (.sc (.int .i64 l[k].kind)),.v (.sc (.int .i64 l[k].roles)),.v (.sc (.int .i64 l[k].lo)),.v (.sc (.int .i64 l[k].hi)),.v (.sc (.int .i64 l[k].labels)),.v (.sl l[k].boxes.length 4 (l[k].boxes.flatMap Re.cs)),.v (.sc (.int .i64 l[k].zoom))])
  refine qc.of (hc _ hbl (gask p 0 _ (hs1.cells rfl))) ?_
  rintro y H2 ⟨rfl,h2⟩
  have hid2:=h2.cells hid
  have hany:(l[k].boxes.any fun b=>zU b p)=Wi p l[k]:=rfl
  rw [hany]
  cases e:Wi p l[k] with
  | false =>
   have e1:Qt (Wi p) s l[k]=s:=by simp [Qt,e]
   rw [e1] at hst
   simp [w1,hlt,slU]
   refine ⟨_,?_,hs1.trans h2,rfl⟩
   rw [hst]
   simp [qD,qm,qp,slU]
  | true =>
   by_cases h4:l[k].kind=4
   ·have e1:Qt (Wi p) s l[k]=(if s.1<l[k].zoom then l[k].zoom else s.1,s.2):=by
     simp [Qt,e,h4]
     split <;> omega
    rw [e1] at hst
    simp [w1,hlt,slU,hid2,h4]
    refine ⟨_,?_,hs1.trans h2,rfl⟩
    rw [hst]
    simp [qD,qm,qp,slU]
   ·have n4:(l[k].kind==4)=false:=by simpa using h4
    have e1:Qt (Wi p) s l[k]=(s.1,if l[k].zoom<s.2 then l[k].zoom else s.2):=by
     simp [Qt,e,h4]
     split <;> omega
    rw [e1] at hst
    simp [w1,hlt,slU,hid2,n4]
    refine ⟨_,?_,hs1.trans h2,rfl⟩
    rw [hst]
    simp [qD,qm,qp,slU]
 ·have hk':k=l.length:=by omega
  subst hk'
  simp [slU]
  unfold ZC
  generalize l.foldl (Qt (Wi p)) (0,16)=s at *
  split <;> omega
def spn (r:Run Int):List V := [.sc (.int .i64 r.a),.sc (.int .i64 r.b),.sc (.int .i64 r.z)]
def Vo (rs:List (Run Int)):V := .sl rs.length 3 (rs.flatMap spn)
def V6 (rs:List (Run Int)):SV := .own true 227 rs.length 3 (rs.flatMap spn)
theorem qf5 (rs:List (Run Int)):V.closed (Vo rs)=true:=by simp [Vo,V.closed,vI (enc:=spn) (fun _=>rfl)]
theorem rowS {rs:List (Run Int)} {k:Nat} (h:k<rs.length):AM.rowAt 3 (rs.flatMap spn) (k:Int) = [.sc (.int .i64 rs[k].a),.sc (.int .i64 rs[k].b),.sc (.int .i64 rs[k].z)]:=ZV (enc:=spn) (sz:=3) (fun _=>rfl) h
def qaF (l:List Ru) (y x:Int):Option Int:=qbt (ZC (Wi ⟨x,y⟩) l)
def ZT (l:List Ru) (xs:List Int) (y:Int):List (Run Int):=jc (qaF l y) xs (xs.length - 1)
theorem qgh (l:List Ru) (xs:List Int) (y:Int):(ZT l xs y).length≤xs.length:=by
 have:=Kw (f:=qaF l y) (xs:=xs) (xs.length - 1)
 unfold ZT
 omega
def setEnd (v:Int) (r:Run Int):Run Int := { r with b:=v }
theorem poke_end {R:List (Run Int)} {r:Run Int} {v:Int}:((R ++ [r]).flatMap spn).set (R.length*3+1) (.sc (.int .i64 v))=(R ++ [(⟨r.a,v,r.z⟩:Run Int)]).flatMap spn:=by
 have:=qgT (enc:=spn) (sz:=3) (o:=1) (v := .sc (.int .i64 v)) (f:=setEnd v) (fun _=>rfl) (by decide) (fun _=>rfl) (k:=R.length) (xs:=R ++ [r]) (by simp)
 rw [this,qjS]
 rfl
theorem lastAt {R:List (Run Int)} {r:Run Int} (o:Nat) (ho:o<3):((R ++ [r]).flatMap spn)[R.length*3+o]? = (spn r)[o]? := by
 have hl:=Js (enc:=spn) (sz:=3) (fun _=>rfl) R
 rw [List.flatMap_append,List.getElem?_append_right (by omega),hl]
 simp
theorem qdR {L:Type} [DecidableEq L] {f:Int→Option L} {xs:List Int}:∀ k,∀ r∈jc f xs k,r.a∈xs∧r.b+1∈xs
 | 0,r,h=>by simp [jc] at h
 | k+1,r,h=>by
  have ih:=qdR (f:=f) (xs:=xs) k
  rw [jc] at h
  split at h
  ·rename_i n m hn hm
   have hn:=List.mem_of_getElem? hn
   have hm:=List.mem_of_getElem? hm
   unfold Can.step at h
   split at h
   ·unfold push at h
    split at h
    ·rename_i q hq
     split at h
     ·rcases List.mem_append.1 h with h | h
      ·exact ih r (List.dropLast_subset _ h)
      ·simp at h
       subst h
       exact ⟨(ih q (List.mem_of_getLast? hq)).1,by simpa using hm⟩
     ·rcases List.mem_append.1 h with h | h
      ·exact ih r h
      ·simp at h
       subst h
       exact ⟨hn,by simpa using hm⟩
    ·simp at h
     subst h
     exact ⟨hn,by simpa using hm⟩
   ·exact ih r h
  ·exact ih r h
theorem qhH {L:Type} [DecidableEq L] {f:Int→Option L} {xs:List Int} (hx:∀ x∈xs,0≤x∧x≤65536) (k:Nat):∀ r∈jc f xs k,-1≤r.b∧r.b≤65535:=fun r hr=>by
 have:=hx _ (qdR k r hr).2
 omega
def GrI (l:List Ru) (xs:List Int) (y:Int) (k:Nat) (F:Fr) (H:List Bk):Prop:=F = [(0,.v (slU l)),(1,.v (slI xs)),(2,.v (.sc (.int .i64 y))),(7,V6 (jc (qaF l y) xs k)),(8,.v (.sc (.int .i64 k)))]
theorem labZ_no {n:Int} (h:qbt n=none):n=0:=by
 unfold qbt at h
 split at h
 ·assumption
 ·cases h
set_option maxHeartbeats 4000000 in
theorem grow' (l:List Ru) (xs:List Int) (y:Int) (hl:l.length≤9223372036854775807) (hb:∀ r∈l,r.boxes.length≤9223372036854775807) (hx:xs.length≤10000000) (hxr:∀ x∈xs,0≤x∧x≤65536) :
  PFn Tryz.prog 185 [slU l,slI xs,.sc (.int .i64 y)] (Vo (ZT l xs y)):=by
 have hZ:=fun p=>gzoom l p hl hb
 have c1:=yc l
 unfold Pt.v Pt.cs at hZ
 refine AFn.intro (fn:=Tryz.f185) (by kernel_rfl) rfl (by kernel_rfl) (by simp) (AW.ofx [] mixed (by kernel_rfl) ?_)
 simp only [Tryz.f185,qj]
 simp
 refine AW.count (xs.length - 1) (GrI l xs y) ⟨_,?_,rfl⟩ ?_
 ·simp [qD,qm,qp,jc,V6,q9]
 rintro k F H hk rfl
 refine AW.ofx [] mixed (by kernel_rfl) ?_
 have w1:IntKind.i64.wrap ((k:Int)+1)=(k:Int)+1:=by rw [wrap_i64] <;> omega
 by_cases hlt:k+1<xs.length
 ·have hlt1:k<xs.length:=by omega
  have hlt2:(k:Int)+1<xs.length:=by omega
  have hlt3:(k:Int)<xs.length:=by omega
  have hn:=Vr (f:=qaF l y) hlt
  have l1:=Kw (f:=qaF l y) (xs:=xs) k
  have hr1:=Wy hlt1
  have hr2:=Wy hlt
  have hr2':AM.rowAt 1 (ints xs) ((k:Int)+1) = [.sc (.int .i64 xs[k+1])]:=by simpa using hr2
  have hb2:=hxr _ (List.getElem_mem hlt)
  have wm:IntKind.i64.wrap (xs[k+1] - 1)=xs[k+1] - 1:=by rw [wrap_i64] <;> omega
  have hfin:∀ s,jc (qaF l y) xs (k+1)=s→GrI l xs y (k+1) [(0,.v (slU l)),(1,.v (slI xs)),(2,.v (.sc (.int .i64 y))),(7,V6 s),(8,.v (.sc (.int .i64 (k+1:Nat))))] H:=fun s e=>by
   rw [GrI,e]
  have hbs:∀ r∈jc (qaF l y) xs k,-1≤r.b∧r.b≤65535:=qhH hxr k
  generalize jc (qaF l y) xs k=R at *
  simp [slI,V6,w1,hlt2,hlt3,hlt1,hr1]
  refine qc.pure (hZ ⟨xs[k],y⟩) (by simp [V.qC,V.closed,c1]) rfl ?_
  unfold Can.step at hn
  cases hc:qaF l y xs[k] with
  | none =>
   rw [hc] at hn
   have hz:ZC (Wi ⟨xs[k],y⟩) l=0:=labZ_no hc
   simp [w1,hz]
   refine ⟨by omega,_,?_,hfin _ hn⟩
   simp [qD,qm,qp,slI,V6]
  | some z =>
   rw [hc] at hn
   have hz:ZC (Wi ⟨xs[k],y⟩) l=z∧z≠0:=by
    unfold qaF qbt at hc
    split at hc
    ·cases hc
    ·cases hc; exact ⟨rfl,by assumption⟩
   obtain ⟨hz,hz0⟩:=hz
   have hz0':(z==0)=false:=by simpa using hz0
   rw [hz]
   simp only at hn
   rcases List.eq_nil_or_concat R with rfl | ⟨R',r,rfl⟩
   ·have e:push ([]:List (Run Int)) xs[k] xs[k+1] z = [⟨xs[k],xs[k+1] - 1,z⟩]:=rfl
    rw [e] at hn
    have wm1:IntKind.i64.wrap (-1) = -1:=by decide
    simp [slI,V6,w1,hz0',wm1,hlt2,hlt3,hlt1,hr1,hr2',wm]
    refine ⟨by omega,by omega,_,?_,hfin _ hn⟩
    simp [qD,qm,qp,slI,V6,spn]
   ·rw [List.concat_eq_append] at *
    have hrb:=hbs r (by simp)
    rw [List.length_append,List.length_singleton] at l1
    have wl:IntKind.i64.wrap (((R' ++ [r]).length:Int) - 1)=(R'.length:Int):=by
     rw [List.length_append,List.length_singleton,wrap_i64] <;> omega
    have wb:IntKind.i64.wrap (r.b+1)=r.b+1:=by rw [wrap_i64] <;> omega
    have hr_1:((R' ++ [r]).flatMap spn)[R'.length*3+1]? = some (.sc (.int .i64 r.b)):=lastAt 1 (by decide)
    have hr_2:((R' ++ [r]).flatMap spn)[R'.length*3+2]? = some (.sc (.int .i64 r.z)):=lastAt 2 (by decide)
    have hlen:R'.length<(R' ++ [r]).length:=by simp
    have hlen0:(R' ++ [r]).length=R'.length+1:=by simp
    have hpk:=poke_end (R:=R') (r:=r) (v:=xs[k+1] - 1)
    have hfl:=Js (enc:=spn) (sz:=3) (fun _=>rfl) (R' ++ [r])
    by_cases hp:r.b+1=xs[k]∧r.z=z
    ·rw [qd1 hp.1 hp.2] at hn
     rw [hp.2] at hr_2 hpk
     rw [hp.1] at wb
     have hp1:=hp.1
     clear hp hbs
     have hnl:(R' ++ [(⟨r.a,xs[k+1] - 1,z⟩:Run Int)]).length=(R' ++ [r]).length:=by simp
     generalize R' ++ [r]=R at *
     generalize R' ++ [(⟨r.a,xs[k+1] - 1,z⟩:Run Int)]=R2 at *
     simp [slI,V6,w1,wl,hp1,wb,hz0',hr_1,hr_2,hlen,hlt2,hlt3,hlt1,hr1,hr2',wm]
     refine ⟨by omega,by simp at hfl; omega,by omega,_,?_,hfin _ hn⟩
     simp [qD,qm,qp,slI,V6,← hpk,hnl]
     rw [List.set_eq_take_append_cons_drop,if_pos (by rw [hfl]; omega)]
     first | exact .inl rfl | skip
    ·have hq:push (R' ++ [r]) xs[k] xs[k+1] z=R' ++ [r] ++ [⟨xs[k],xs[k+1] - 1,z⟩]:=qcr fun A q e h1 h2=>by
      obtain ⟨_,rfl⟩:=qhb e
      exact hp ⟨h1,h2⟩
     rw [hq] at hn
     clear hbs hpk
     by_cases hz1:r.z=z
     ·have hz2:r.b+1≠xs[k]:=fun h=>hp ⟨h,hz1⟩
      have hz2':(r.b+1==xs[k])=false:=by simpa using hz2
      rw [hz1] at hr_2
      generalize R' ++ [r]=R at *
      simp [slI,V6,w1,wl,wb,hz2',hz0',hr_1,hr_2,hlen,hlt2,hlt3,hlt1,hr1,hr2',wm]
      refine ⟨by omega,by omega,by omega,_,?_,hfin _ hn⟩
      simp [qD,qm,qp,slI,V6,spn]
     ·have hz1':(r.z==z)=false:=by simpa using hz1
      generalize R' ++ [r]=R at *
      simp [slI,V6,w1,wl,hz1',hz0',hr_1,hr_2,hlen,hlt2,hlt3,hlt1,hr1,hr2',wm]
      refine ⟨by omega,by omega,by omega,_,?_,hfin _ hn⟩
      simp [qD,qm,qp,slI,V6,spn]
 ·have hk':k=xs.length - 1:=by omega
  have hlt2:¬ (k:Int)+1<xs.length:=by omega
  simp [slI,w1,hlt2,V6]
  unfold ZT Vo
  rw [← hk']
theorem eqSp (a b c a' b' c':Int):eqT Tryz.prog 10 227 (.agg #[.int .i64 a,.int .i64 b,.int .i64 c]) (.agg #[.int .i64 a',.int .i64 b',.int .i64 c'])=some (a==a'&&(b==b'&&(c==c'&&true))):=by kernel_rfl
theorem gSp:Tryz.prog.eqGuardType Tryz.prog.depth 227=false:=by kernel_rfl
theorem sp_eq {a b:Run Int}:a=b↔a.a=b.a∧a.b=b.b∧a.z=b.z:=by
 cases a; cases b; simp
def EsI (xs ys:List (Run Int)) (k:Nat) (F:Fr) (H:List Bk):Prop:=xs.take k=ys.take k∧H = []∧F = [(0,.v (Vo xs)),(1,.v (Vo ys)),(12,.v (.sc (.int .i64 xs.length))),(13,.v (.sc (.int .i64 k)))]
theorem eqSpans (xs ys:List (Run Int)) (hx:xs.length≤1000000000):PFn Tryz.prog 186 [Vo xs,Vo ys] (.sc (.bool (decide (xs=ys)))):=by
 refine AFn.intro (fn:=Tryz.f186) (by kernel_rfl) rfl (by kernel_rfl) (by simp) (AW.ofx [] mixed (by kernel_rfl) ?_)
 simp only [Tryz.f186,qj]
 simp [Vo]
 by_cases hl:xs.length=ys.length
 ·simp [Vo,hl]
  refine AW.count xs.length (EsI xs ys) ⟨_,?_,by simp,rfl,rfl⟩ ?_
  ·simp [qD,qm,qp,Vo,hl]
  rintro k F H hk ⟨ht,rfl,rfl⟩
  refine AW.ofx [] mixed (by kernel_rfl) ?_
  by_cases hlt:k<xs.length
  ·have hlt':k<ys.length:=by omega
   have w1:IntKind.i64.wrap ((k:Int)+1)=(k:Int)+1:=by rw [wrap_i64] <;> omega
   simp [Vo,hlt,hlt',rowS,eqSp,gSp,w1]
   refine gd.intro (fun e => ?_) (fun e => ?_)
   ·have:¬ xs=ys:=fun e'=>by
     subst e'
     simp at e
    simp [this]
   ·have he:xs[k]=ys[k]:=by
     rw [sp_eq]
     simpa using e
    refine ⟨_,?_,?_,rfl,rfl⟩
    ·simp [qD,qm,qp,Vo,hl]
    ·rw [List.take_succ_eq_append_getElem hlt,List.take_succ_eq_append_getElem hlt',ht,he]
  ·have hk':k=xs.length:=by omega
   have he:xs=ys:=by
    rw [hk',List.take_length,hl,List.take_length] at ht
    exact ht
   simp [Vo,hlt]
   exact he
 ·have:¬ xs=ys:=fun e=>hl (by rw [e])
  have hl':((xs.length:Int) != ys.length)=true:=by simp; omega
  simp [hl',this]
def pcs (q:Rc Int):List V := [.sc (.int .i64 q.x0),.sc (.int .i64 q.y0),.sc (.int .i64 q.x1),.sc (.int .i64 q.y1),.sc (.int .i64 q.z)]
def slP (qs:List (Rc Int)):V := .sl qs.length 5 (qs.flatMap pcs)
def Xk (qs:List (Rc Int)):SV := .own true 168 qs.length 5 (qs.flatMap pcs)
theorem qhG (qs:List (Rc Int)):V.closed (slP qs)=true:=by simp [slP,V.closed,vI (enc:=pcs) (fun _=>rfl)]
theorem rowPa {qs:List (Rc Int)} {k:Nat} (h:k<qs.length):AM.rowAt 5 (qs.flatMap pcs) (k:Int) = [.sc (.int .i64 qs[k].x0),.sc (.int .i64 qs[k].y0),.sc (.int .i64 qs[k].x1),.sc (.int .i64 qs[k].y1),.sc (.int .i64 qs[k].z)]:=ZV (enc:=pcs) (sz:=5) (fun _=>rfl) h
theorem qiI {H:List Bk} {id:Nat} {x y:SV} (h:H[id]? = some (.cells [x])):qh H id 0 y=H.set id (.cells [y]):=by rw [qao h]; rfl
def TeI (y0 y1:Int) (R:List (Run Int)) (out:List (Rc Int)) (id:Nat) (H0:List Bk) (k:Nat) (F:Fr) (H:List Bk):Prop:=H[id]? = some (.cells [Xk (out++(R.take k).map (qbs y0 y1))])∧Qf id H0 H ∧
 F = [(0,.v (.sc (.int .i64 y0))),(1,.v (.sc (.int .i64 y1))),(3,.v (.ptr id 0)),(9,.v (Vo R)),(10,.v (.sc (.int .i64 R.length))),(11,.v (.sc (.int .i64 k)))]
set_option maxHeartbeats 4000000 in
theorem gtell (y0 y1:Int) (R:List (Run Int)) (out:List (Rc Int)) (id:Nat) (H:List Bk) (h:H[id]? = some (.cells [Xk out])) (hn:out.length+R.length≤1000000000000) :
  AFn Tryz.prog 153 [.sc (.int .i64 y0),.sc (.int .i64 y1),Vo R,.ptr id 0] H fun y H'=>H'[id]? = some (.cells [Xk (out++R.map (qbs y0 y1))])∧Qf id H H':=by
 refine AFn.intro (fn:=Tryz.f153) (by kernel_rfl) rfl (by kernel_rfl) (by simp) (AW.ofx [] mixed (by kernel_rfl) ?_)
 simp only [Tryz.f153,qj]
 simp [Vo]
 refine AW.count R.length (TeI y0 y1 R out id H) ⟨_,?_,by simpa using h,.refl,rfl⟩ ?_
 ·simp [qD,qm,qp,Vo]
 rintro k F H1 hk ⟨hid,hs,rfl⟩
 refine AW.ofx [] mixed (by kernel_rfl) ?_
 by_cases hlt:k<R.length
 ·have w1:IntKind.i64.wrap ((k:Int)+1)=(k:Int)+1:=by rw [wrap_i64] <;> omega
  have hrow:=rowS hlt
  have hst:out++(R.take (k+1)).map (qbs y0 y1)=out++(R.take k).map (qbs y0 y1) ++ [qbs y0 y1 R[k]]:=by rw [List.take_succ_eq_append_getElem hlt,List.map_append,← List.append_assoc]; rfl
  have hlo:(out++(R.take k).map (qbs y0 y1)).length≤1000000000000:=by
   rw [List.length_append,List.length_map,List.length_take]
   omega
  unfold TeI
  rw [hst]
  generalize out++(R.take k).map (qbs y0 y1)=o at *
  have hne:id≠H1.length:=Nat.ne_of_lt (List.getElem?_eq_some_iff.1 hid).1
  have hb:=qdc (H:=H1) (b := .cells [.v (.sc (.int .i64 R[k].a)),.v (.sc (.int .i64 R[k].b)),.v (.sc (.int .i64 R[k].z))])
  have hid2:=qdw (L := [.cells [.v (.sc (.int .i64 R[k].a)),.v (.sc (.int .i64 R[k].b)),.v (.sc (.int .i64 R[k].z))]]) hid
  have hs2:=hs.append (L := [.cells [.v (.sc (.int .i64 R[k].a)),.v (.sc (.int .i64 R[k].b)),.v (.sc (.int .i64 R[k].z))]])
  have q1:=qiI (y := .any) hid2
  have q2:=fun X=>setSelf (k:=X) hid2
  have q3:=setOther hb hne
  have q3':=fun X h=>(List.getElem_eq_iff (i:=H1.length) h).2 (q3 X)
  have q4:=fun y=>(qiI (y:=y) (q2 (.cells [.any]))).trans (List.set_set ..)
  unfold Xk at hid2
  simp [Vo,hlt,hrow,JE,hid2,Xk,q1,q2,q3,q3',q4,w1]
  refine ⟨by omega,_,?_,rfl,hs2.trans .set,rfl⟩
  simp [qD,qm,qp]
 ·have hk':k=R.length:=by omega
  subst hk'
  rw [List.take_length] at hid
  simp [Vo]
  exact ⟨hid,hs⟩
theorem qgj {xs:List Int} (h:xs.Pairwise (· < ·)) (h0:∀ x∈xs,0≤x):∀ (i:Nat) (hi:i<xs.length),(i:Int)≤xs[i]
 | 0,hi=>by have:=h0 _ (List.getElem_mem hi); simpa using this
 | i+1,hi=>by
  have h1:=qgj h h0 i (by omega)
  have h2:=V4 h (i:=i) (j:=i+1) (by omega) hi (by omega)
  omega
theorem qjC {xs:List Int} {n:Nat} (h:xs.Pairwise (· < ·)) (h0:∀ x∈xs,0≤x∧x≤n):xs.length≤n+1:=by
 by_cases hl:xs.length=0
 ·omega
 have h1:=qgj h (fun x hx=>(h0 x hx).1) (xs.length - 1) (by omega)
 have h2:=(h0 _ (List.getElem_mem (l:=xs) (n:=xs.length - 1) (by omega))).2
 omega
def Q0 (l:List Ru) (d:Bool):List Int:=XT (ZQ d (qz l))
theorem qcX {l:List Ru} (hr:∀ b∈qz l,qo b=true) (d:Bool):∀ x∈Q0 l d,0≤x∧x≤65536:=fun x hx=>by
 obtain ⟨b,hb,h⟩:=qaO.1 (((vN _).2 x).1 hx)
 have:=qP.1 (hr b hb)
 unfold lo hi at h
 cases d <;> simp at h <;> omega
theorem KH {l:List Ru} (hr:∀ b∈qz l,qo b=true) (d:Bool):(Q0 l d).length≤65537:=qjC (n:=65536) (vN _).1 (qcX hr d)
def qgx (R:Int→List (Run Int)) (ys:List Int) (k:Nat):List (Rc Int):=emit (jc (QT R) ys k)
def qjN (l:List Ru):List (Rc Int):=qgx (ZT l (Q0 l false)) (Q0 l true) ((Q0 l true).length - 1)
def BoI (l:List Ru) (xs ys:List Int) (id:Nat) (H0:List Bk) (n:Nat) (F:Fr) (H:List Bk):Prop:=∃ i,(∀ hi:i<ys.length,∀ j,∀ hj:j<ys.length,i=j+1→i+1<ys.length→ZT l xs ys[j]≠ZT l xs ys[i])∧i≤ys.length - 1∧n=ys.length - i ∧
 H[id]? = some (.cells [Xk (qgx (ZT l xs) ys i)])∧Qf id H0 H ∧
 F = [(0,.v (slU l)),(1,.v (.fn (.func 153) [] [.ptr id 0])),(4,.v (slI xs)),(5,.v (slI ys)),(6,.v (.sc (.int .i64 i)))]
def BkI (l:List Ru) (xs ys:List Int) (id:Nat) (H1:List Bk) (i:Nat) (hi:i<ys.length) (n:Nat) (F:Fr) (H:List Bk):Prop:=∃ k,∃ hk:k<ys.length,n=ys.length - k∧i<k∧(∀ j,∀ hj:j<ys.length,i≤j→j<k→ZT l xs ys[j]=ZT l xs ys[i])∧H=H1 ∧
 F = [(0,.v (slU l)),(1,.v (.fn (.func 153) [] [.ptr id 0])),(4,.v (slI xs)),(5,.v (slI ys)),(6,.v (.sc (.int .i64 i))),(7,.v (Vo (ZT l xs ys[i]))),(8,.v (.sc (.int .i64 k)))]
set_option maxHeartbeats 4000000 in
theorem gbands (l:List Ru) (hl:l.length≤1000000) (hn:(qz l).length≤1048576) (hr:∀ b∈qz l,qo b=true) (id:Nat) (H:List Bk) (h:H[id]? = some (.cells [Xk []])) :
  AFn Tryz.prog 152 [slU l,.fn (.func 153) [] [.ptr id 0]] H fun y H'=>H'[id]? = some (.cells [Xk (qjN l)])∧Qf id H H':=by
 have hb:∀ r∈l,r.boxes.length≤9223372036854775807:=fun r hr=>by
  have h1:r.boxes.length≤(qz l).length:=by
   obtain ⟨s,t,rfl⟩:=List.append_of_mem hr
   simp [qz]
   omega
  omega
 have hEx:=gedges _ _ gbX l hl hn hr
 have hEy:=gedges _ _ gbY l hl hn hr
 have c1:=yc l
 have hinx:=qcX hr false
 have hiny:=qcX hr true
 have hlx:=KH hr false
 have hly:=KH hr true
 have hsx:(Q0 l false).Pairwise (· < ·):=(vN _).1
 have hsy:(Q0 l true).Pairwise (· < ·):=(vN _).1
 unfold qjN
 change PFn _ _ _ (slI (Q0 l false)) at hEx
 change PFn _ _ _ (slI (Q0 l true)) at hEy
 have cx:=Jm (Q0 l false)
 have cy:=Jm (Q0 l true)
 refine AFn.intro (fn:=Tryz.f152) (by kernel_rfl) rfl (by kernel_rfl) (by simp) (AW.ofx [] mixed (by kernel_rfl) ?_)
 simp only [Tryz.f152,qj]
 simp
 refine qc.pure hEx (by simp [V.qC,V.closed,c1]) cx ?_
 simp
 refine qc.pure hEy (by simp [V.qC,V.closed,c1]) cy ?_
 clear hEx hEy
 generalize Q0 l false=xs at *
 generalize Q0 l true=ys at *
 have hR:=fun y=>grow' l xs y (by omega) hb (by omega) hinx
 have hRl:=fun y=>qgh l xs y
 have cR:=fun y=>qf5 (ZT l xs y)
 have hOl:=fun k=>qg0 (R:=ZT l xs) (ys:=ys) hRl k
 have hmul:∀ k,k≤ys.length→k*xs.length≤5000000000:=fun k hk=>Nat.le_trans (Nat.mul_le_mul (show k≤65537 by omega) hlx) (by omega)
 simp
 refine AW.qbd (BoI l xs ys id H) ⟨_,_,?_,0,fun hi j hj e=>by omega,by omega,rfl,?_,.refl,rfl⟩ ?_
 ·simp [qD,qm,qp]
 ·simpa [qgx,jc,emit] using h
 rintro n F H1 ⟨i,hnew,hi0,rfl,hid,hst,rfl⟩
 refine AW.ofx [] mixed (by kernel_rfl) ?_
 have w1:IntKind.i64.wrap ((i:Int)+1)=((i+1:Nat):Int):=by rw [wrap_i64] <;> omega
 by_cases hlt:i+1<ys.length
 rotate_left
 ·have hii:i=ys.length - 1:=by omega
  have hlt':¬ (i:Int)+1<ys.length:=by omega
  simp [slI,w1,hlt',hlt]
  rw [← hii]
  exact ⟨hid,hst⟩
 have hi:i<ys.length:=by omega
 have hlt':(i:Int)+1<ys.length:=by omega
 have hri:=Wy hi
 simp [slI,w1,hlt',hlt,hi,hri]
 refine qc.pure (hR _) (by simp [V.qC,V.closed,c1,slI,JR]) (cR _) ?_
 simp [slI,w1,hlt',hlt,hi,hri]
 refine AW.qbd (BkI l xs ys id H1 i hi) ⟨_,_,?_,i+1,hlt,rfl,by omega,fun j hj h1 h2=>by
  have:j=i:=by omega
  subst this
  rfl,rfl,rfl⟩ ?_
 ·simp [qD,qm,qp,slI,w1]
 rintro n F H2 ⟨k,hk,rfl,hik,hsame,rfl,rfl⟩
 refine AW.ofx [] mixed (by kernel_rfl) ?_
 have wk:IntKind.i64.wrap ((k:Int)+1)=((k+1:Nat):Int):=by rw [wrap_i64] <;> omega
 have hrk:=Wy hk
 have hbk:=hiny _ (List.getElem_mem hk)
 have wv:IntKind.i64.wrap (ys[k] - 1)=ys[k] - 1:=by rw [wrap_i64] <;> omega
 have hal:=fun y y'=>eqSpans (ZT l xs y) (ZT l xs y') (Nat.le_trans (hRl y) (by omega))
 have cLs:=fun y y'=>(show V.qC [Vo (ZT l xs y),Vo (ZT l xs y')]=true by simp [V.qC,cR])
 by_cases hgo:k+1<ys.length∧ZT l xs ys[i]=ZT l xs ys[k]
 ·obtain ⟨hg1,hg2⟩:=hgo
  have hg1':(k:Int)+1<ys.length:=by omega
  have halk:=hal ys[i] ys[k]
  rw [decide_eq_true hg2] at halk
  simp [slI,wk,hg1,hg1',hk,hrk]
  refine qc.pure (hR _) (by simp [V.qC,V.closed,c1,slI,JR]) (cR _) ?_
  simp
  refine qc.pure halk (cLs _ _) rfl ?_
  simp [wk]
  refine ⟨ys.length - (k+1),by omega,_,?_,k+1,hg1,rfl,by omega,fun j hj h1 h2 => ?_,rfl,rfl⟩
  ·simp [qD,qm,qp,slI]
  ·by_cases e:j=k
   ·subst e; exact hg2.symm
   ·exact hsame j hj h1 (by omega)
 have hfin:qgx (ZT l xs) ys k=qgx (ZT l xs) ys i++(ZT l xs ys[i]).map (qbs ys[i] (ys[k] - 1)) :=
  qfq hsy hik hk (fun j hj e=>hnew hi j hj e hlt) (fun j hj h1 h2=>hsame j hj h1 h2)
 have hnew2:∀ hk:k<ys.length,∀ j,∀ hj:j<ys.length,k=j+1→k+1<ys.length→ZT l xs ys[j]≠ZT l xs ys[k]:=fun _ j hj e h1 e2=>hgo ⟨h1,by rw [← e2]; exact (hsame j hj (by omega) (by omega)).symm⟩
 have hT:=gtell ys[i] (ys[k] - 1) (ZT l xs ys[i]) (qgx (ZT l xs) ys i) id _ hid (by
  have h1:=hOl i
  have h2:=hmul i (by omega)
  have h3:=hRl ys[i]
  unfold qgx
  omega)
 rw [← hfin] at hT
 by_cases hk1:k+1<ys.length
 case' pos =>
  have hg1':(k:Int)+1<ys.length:=by omega
  have halk:=hal ys[i] ys[k]
  rw [decide_eq_false (fun e=>hgo ⟨hk1,e⟩)] at halk
  simp [slI,wk,hk1,hg1',hk,hrk]
  refine qc.pure (hR _) (by simp [V.qC,V.closed,c1,slI,JR]) (cR _) ?_
  simp
  refine qc.pure halk (cLs _ _) rfl ?_
  simp [wk,slI,hi,hk,hri,hrk,wv]
 case' neg =>
  have hg1':¬ (k:Int)+1<ys.length:=by omega
  simp [slI,wk,hk1,hg1',hi,hk,hri,hrk,wv]
 all_goals
  refine qc.of hT ?_
  rintro y H3 ⟨hid3,hst3⟩
  simp [slI]
  refine ⟨ys.length - k,by omega,_,?_,k,hnew2,by omega,rfl,hid3,hst.trans hst3,rfl⟩
  simp [qD,qm,qp,slI]
end Go.Proofs.YtnconfggojpkcaaGreat
