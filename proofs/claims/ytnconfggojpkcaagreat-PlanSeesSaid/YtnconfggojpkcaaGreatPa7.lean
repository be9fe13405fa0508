/- Texts that a law rests on, part 7: plain lemmas and what functions of the program do. No condition. -/
import Derived.JoinedCond
import Derived.Lib.AppendZeros
import Derived.Test.YtnconfggojpkcaaGreatPa6
namespace Go.Proofs.YtnconfggojpkcaaGreat
set_option linter.all false
open Go.RowKit AM Can
set_option maxRecDepth 10000
attribute [local simp] jW zL yA jZ jq jX jY jo yB jr zM Xw Zf jQ Ze yP VX yO slF qU Zg jE Ql zN shares jF Qd zP ZM yt zo VY zq q8 yM jA Qe QN qZ zY jy yJ slV vD vF QM vg Yo jP vE aMM aUn Zh yL jR zX jO qX yK Zv yN yI VD Qo qY Zr Yp jC jB vG qM Yk eval qL AM.valOf qp qO zT del SV.refers zC yG jv shift ldV V.exact V.zh V.ofValue V.yh V.vT V.cells V.one Value.oneCell' Ym Q9 jH Zj Xf VW Qz VP jK zn QY Yt Qm Qg Zo calm Zu JN Zc feeds shrinks ZG looks isT QO vS QD putAt zV zQ JK sliceB isEq QS jg zi jU jm zK jh jl zJ jV jf zH Xt ZE QI JA Za inO yg Z9 Mix.qR Mix.QA Z5 Q7 qD qm q9 je zG Xr Zm y7 y8 Yg ZA zS vZ Zp jL V.fixed V.vO
attribute [local simp] yT jN QE yX vQ yU yV vP QF yR vL qbo Vk vY JX Vl z0 Z0 KN VQ Ws
theorem gcloneB (bs:List Re) (hl:bs.length≤4398046511104):PFn Tryz.prog 89 [slR bs] (slR bs):=by
 have h:AFn Tryz.prog 89 [slR bs] [] fun y _=>y=slR bs∨(y = .nil∧bs = []):=by
  refine AFn.intro (fn:=Tryz.f89) (by kernel_rfl) rfl (by kernel_rfl) (by simp) (AW.ofx [] mixed (by kernel_rfl) ?_)
  simp only [Tryz.f89,qj]
  simp [slR]
  exact ⟨by omega,by omega⟩
 refine h.conv fun y H' hy=>⟨_,rfl,fun I φ v hv => ?_⟩
 rcases hy with rfl | ⟨rfl,rfl⟩
 ·exact hv
 ·exact XH hv
structure Tab (H:List Bk) (t m:Nat) (l:List Ru) (es:List (Value×V)):Prop where
 t:H[t]? = some (.cells [.v (slU l),.v (.map m)])
 m:H[m]? = some (.map es)
theorem Tab.ne {H:List Bk} {t m:Nat} {l:List Ru} {es:List (Value×V)} (h:Tab H t m l es):t≠m:=by
 rintro rfl
 have:=h.t.symm.trans h.m
 simp at this
theorem Tab.stays {H H':List Bk} {t m:Nat} {l:List Ru} {es:List (Value×V)} (h:Tab H t m l es) (hs:yD H H'):Tab H' t m l es:=⟨hs.cells h.t,hs.map h.m⟩
def zcU:List V := [.sc (.int .i64 0),.sc (.int .i64 0),.sc (.int .i64 0),.sc (.int .i64 0),.sc (.int .i64 0),.nil,.sc (.int .i64 0)]
def qe9 (l:List Ru) (k:Nat):List V:=(l.take k).flatMap Ru.cs++zV (l.length - k) zcU
theorem preU_len {l:List Ru} {k:Nat} (h:k≤l.length):(qe9 l k).length=l.length*7:=by
 have h1:=Js (enc:=Ru.cs) (sz:=7) (fun _=>rfl) (l.take k)
 have h2:(zV (l.length - k) zcU).length=(l.length - k)*7:=by simp [zV,zcU]
 unfold qe9
 rw [List.length_append,h1,h2,List.length_take]
 omega
theorem preU_put {l:List Ru} {k:Nat} (h:k<l.length):(qe9 l k).take (k*7)++l[k].cs++(qe9 l k).drop (k*7+7)=qe9 l (k+1):=by
 have h1:=Js (enc:=Ru.cs) (sz:=7) (fun _=>rfl) (l.take k)
 have e:l.length - k=(l.length - (k+1))+1:=by omega
 unfold qe9
 rw [e,qfO,VE h,List.append_assoc ((l.take k).flatMap Ru.cs)]
 exact putRowV (A:=(l.take k).flatMap Ru.cs) (x:=l[k].cs) (z:=zcU) (B:=zV (l.length - (k+1)) zcU) (k:=k*7) (by rw [h1,List.length_take]; congr 1; omega) rfl
def NwI (l:List Ru) (H0:List Bk) (k:Nat) (F:Fr) (H:List Bk):Prop:=(yD H0 H∧H0.length≤H.length)∧F = [(4,.own true 95 l.length 7 (qe9 l k)),(18,.v (slU l)),(19,.v (.sc (.int .i64 l.length))),(20,.v (.sc (.int .i64 k)))]
set_option maxHeartbeats 4000000 in
theorem gnew (l:List Ru) (hl:l.length≤32) (hb:∀ r∈l,r.boxes.length≤4398046511104) (hr:l.all qK=true) (H:List Bk) :
  AFn Tryz.prog 40 [slU l] H fun y H'=>∃ t m,y = .tup [.ptr t 0,.sc (.int .i64 0)]∧Tab H' t m l []∧H.length≤t∧H.length≤m∧yD H H':=by
 have hR:=uRight l (by omega) (fun r h=>by have:=hb r h; omega)
 rw [hr] at hR
 have c1:=yc l
 unfold slU at c1
 have n1:¬ (l.length:Int)>32:=by omega
 refine AFn.intro (fn:=Tryz.f40) (by kernel_rfl) rfl (by kernel_rfl) (by simp) (AW.ofx [] mixed (by kernel_rfl) ?_)
 simp only [Tryz.f40,qj]
 simp [slU,n1]
 refine qc.pure hR (by simp [V.qC,c1]) rfl ?_
 simp [slU]
 refine ⟨⟨by omega,by omega⟩,?_⟩
 refine AW.count l.length (NwI l H) ⟨_,?_,⟨.refl,Nat.le_refl _⟩,rfl⟩ ?_
 ·simp [qD,qm,qp,slU,zcU,zV,qe9]
 rintro k F H1 hk ⟨⟨hs,hsl⟩,rfl⟩
 refine AW.ofx [] mixed (by kernel_rfl) ?_
 have hpl:=preU_len hk
 by_cases hlt:k<l.length
 ·have w1:IntKind.i64.wrap ((k:Int)+1)=(k:Int)+1:=by rw [wrap_i64] <;> omega
  have hrow:=qdp hlt
  have hput:=preU_put hlt
  have hC:=gcloneB l[k].boxes (hb _ (List.getElem_mem hlt))
  have hc:=K3 l[k].boxes
  unfold slR at hrow hC hc
  simp [slU,hlt,hrow,JE]
  refine qc.pure hC (by simp [V.qC,hc]) hc ?_
  simp [Ru.cs,slR] at hput
  simp [slU,hlt,setP,w1,hpl]
  refine ⟨by omega,_,?_,⟨hs.append,by simp; omega⟩,rfl⟩
  rw [← hput]
  simp [qD,qm,qp,slU]
 ·have hk':k=l.length:=by omega
  subst hk'
  simp [slU,qe9,zV]
  refine ⟨H1.length,⟨by simp [slU],by simp⟩,by omega,hsl,hs.append⟩
def keyW (ro ti la:Int):Value := .agg #[.int .i64 ro,.int .i64 ti,.int .i64 la]
def Ja (l:List Ru) (ro ti la:Int):List Ru:=l.filter fun r=>Yl r ro ti la
def JJ (l:List Ru) (ro ti la:Int):List (Rc Int):=qjN (Ja l ro ti la)
def Xx (l:List Ru) (es:List (Value×V)):Prop:=∀ e∈es,∃ ro ti la,e=(keyW ro ti la,slP (JJ l ro ti la))
theorem wsame3 (a b c a' b' c':Int):ZF [.int .i64 a,.int .i64 b,.int .i64 c] [.int .i64 a',.int .i64 b',.int .i64 c']=some (a==a'&&(b==b'&&(c==c'&&true))):=by simp [ZF]
theorem qfS {l:List Ru} {ro ti la:Int}:∀ {es:List (Value×V)} {i:Nat},Xx l es→wgo [.int .i64 ro,.int .i64 ti,.int .i64 la] es i=some none∨∃ j,wgo [.int .i64 ro,.int .i64 ti,.int .i64 la] es i=some (some (j,slP (JJ l ro ti la)))
 | [],_,_ => .inl rfl
 | e::es,i,h=>by
  obtain ⟨a,b,c,rfl⟩:=h e (by simp)
  have ih:=qfS (l:=l) (ro:=ro) (ti:=ti) (la:=la) (es:=es) (i:=i+1) fun e he=>h e (by simp [he])
  unfold keyW
  simp only [wgo,wsame3]
  cases hb:(ro==a&&(ti==b&&(la==c&&true))) with
  | true =>
   simp at hb
   obtain ⟨rfl,rfl,rfl⟩:=hb
   exact .inr ⟨_,rfl⟩
  | false=>exact ih
theorem wideKey:qa0 Tryz.prog 221=some 3:=by kernel_rfl
theorem qjy {l:List Ru} {ro ti la:Int} {es:List (Value×V)} (h:Xx l es):qdF Tryz.prog 221 (.agg #[.int .i64 ro,.int .i64 ti,.int .i64 la]) es=some none∨∃ j,qdF Tryz.prog 221 (.agg #[.int .i64 ro,.int .i64 ti,.int .i64 la]) es=some (some (j,slP (JJ l ro ti la))):=by
 have e:qdF Tryz.prog 221 (.agg #[.int .i64 ro,.int .i64 ti,.int .i64 la]) es=wgo [.int .i64 ro,.int .i64 ti,.int .i64 la] es 0:=by
  unfold qdF
  rw [wideKey]
  rfl
 rw [e]
 exact qfS h
theorem qgV {α:Type} {q:α→Bool} {xs:List α} {k:Nat} (h:k<xs.length):(xs.take (k+1)).filter q=if q xs[k]=true then (xs.take k).filter q ++ [xs[k]] else (xs.take k).filter q:=by
 rw [List.take_succ_eq_append_getElem h,List.filter_append]
 cases hq:q xs[k] <;> simp [hq]
def kcs (ro ti la:Int):Bk := .cells [.v (.sc (.int .i64 ro)),.v (.sc (.int .i64 ti)),.v (.sc (.int .i64 la))]
def PtI (l:List Ru) (ro ti la:Int) (t:Nat) (H0:List Bk) (k:Nat) (F:Fr) (H:List Bk):Prop:=vK (H0 ++ [kcs ro ti la]) H∧F = [(0,.v (.ptr t 0)),(1,.v (.sc (.int .i64 ro))),(2,.v (.sc (.int .i64 ti))),(3,.v (.sc (.int .i64 la))),(9,.v (.ptr H0.length 0)),(12,qfc ((l.take k).filter fun r=>Yl r ro ti la)),(34,.v (slU l)),(35,.v (.sc (.int .i64 l.length))),(36,.v (.sc (.int .i64 k)))]
theorem Wn {l:List Ru} {ro ti la:Int}:∀ b∈qz (Ja l ro ti la),qo b=true:=fun b hb=>by
 obtain ⟨r,hr,hb⟩:=List.mem_flatMap.1 hb
 have h:=(List.mem_filter.1 hr).2
 unfold Yl qK at h
 split at h
 ·rename_i h6
  simp [h6] at h
 ·simp at h
  exact h.1.1.1.1.1.1.1.2 b hb
theorem qbu {l:List Ru} {q:Ru→Bool}:(qz (l.filter q)).length≤(qz l).length:=by
 induction l with
 | nil=>simp [qz]
 | cons r l ih =>
  unfold qz at ih ⊢
  rw [List.filter_cons]
  split
  ·simp only [List.flatMap_cons,List.length_append]; omega
  ·simp only [List.flatMap_cons,List.length_append]; omega
theorem qjp:zeroV Tryz.prog 165=some .nil:=by kernel_rfl
set_option maxHeartbeats 4000000 in
theorem qcI (l:List Ru) (ro ti la:Int) (hl:l.length≤1000000) (hn:(qz l).length≤1048576) (t m:Nat) (es:List (Value×V)) (H:List Bk) (hT:Tab H t m l es) (hM:Xx l es) :
  AFn Tryz.prog 105 [.ptr t 0,.sc (.int .i64 ro),.sc (.int .i64 ti),.sc (.int .i64 la)] H fun y H'=>y=slP (JJ l ro ti la)∧∃ es',Tab H' t m l es'∧Xx l es'∧yQ m H H':=by
 have ht:=hT.t
 have hm:=hT.m
 have ht':=fun L=>qdw (L:=L) ht
 have hm':=fun L=>qdw (L:=L) hm
 have hbl:∀ r∈l,r.boxes.length≤9223372036854775807:=fun r hr=>by
  have h1:r.boxes.length≤(qz l).length:=by
   obtain ⟨s,t,rfl⟩:=List.append_of_mem hr
   simp [qz]
   omega
  omega
 rcases qjy (ro:=ro) (ti:=ti) (la:=la) hM with hs | ⟨j,hs⟩
 rotate_left
 ·
  refine AFn.intro (fn:=Tryz.f105) (by kernel_rfl) rfl (by kernel_rfl) (by simp) (AW.ofx [] mixed (by kernel_rfl) ?_)
  simp only [Tryz.f105,qj]
  simp [JE,ht,hm,ht',hm',hs,slP,qjp]
  exact ⟨es,⟨ht' _,hm' _⟩,hM,.app⟩
 ·
  refine AFn.intro (fn:=Tryz.f105) (by kernel_rfl) rfl (by kernel_rfl) (by simp) ?_
  simp only [Tryz.f105,qj]
  refine AW.seq (AW.ofx [] mixed (by kernel_rfl) ?_)
  simp [JE,ht,hm,ht',hm',hs,slU,qjp]
  refine AW.seq (AW.ofx [] mixed (by kernel_rfl) ?_)
  simp [JE,ht,hm,ht',hm',hs,slU,qjp]
  refine AW.seq (AW.ofx [] mixed (by kernel_rfl) ?_)
  simp [JE,ht,hm,ht',hm',hs,slU,qjp]
  refine AW.seq (AW.ofx [] mixed (by kernel_rfl) ?_)
  simp [JE,ht,hm,ht',hm',hs,slU,qjp]
  refine AW.seq (AW.ofx [] mixed (by kernel_rfl) ?_)
  simp [JE,ht,hm,ht',hm',hs,slU,qjp]
  refine AW.count l.length (PtI l ro ti la t H) ⟨_,?_,.refl,rfl⟩ ?_
  ·simp [qD,qm,qp,slU,qfc,q9]
  rintro k F H1 hk ⟨hst,rfl⟩
  refine AW.ofx [] mixed (by kernel_rfl) ?_
  by_cases hlt:k<l.length
  ·have w1:IntKind.i64.wrap ((k:Int)+1)=(k:Int)+1:=by rw [wrap_i64] <;> omega
   have hrow:=qdp hlt
   have hF:=ufor l[k] ro ti la (hbl _ (List.getElem_mem hlt))
   have hsc:=qgV (q:=fun r=>Yl r ro ti la) hlt
   have cv:V.qC [l[k].v]=true:=by simp [V.qC,V.closed,Ru.v,Yv]
   have hfl:((l.take k).filter fun r=>Yl r ro ti la).length≤1000000:=by
    have h1:=List.length_filter_le (fun r=>Yl r ro ti la) (l.take k)
    rw [List.length_take] at h1
    omega
   generalize (l.take k).filter (fun r=>Yl r ro ti la)=ms at *
   unfold Ru.v Ru.cs at hF cv
   unfold slR at hrow hF cv
   have hb:=qdc (H:=H1) (b := .cells [.v (.sc (.int .i64 l[k].kind)),.v (.sc (.int .i64 l[k].roles)),.v (.sc (.int .i64 l[k].lo)),.v (.sc (.int .i64 l[k].hi)),.v (.sc (.int .i64 l[k].labels)),.v (.sl l[k].boxes.length 4 (l[k].boxes.flatMap Re.cs)),.v (.sc (.int .i64 l[k].zoom))])
   simp [slU,hlt,hrow,JE,qfc]
   refine qc.pure hF (by simpa [V.qC,V.closed] using cv) rfl ?_
   cases hq:Yl l[k] ro ti la with
   | true =>
    simp [slU,qfc,w1,hb]
    refine ⟨by omega,_,?_,hst.append,rfl⟩
    rw [hsc,if_pos hq]
    simp [qD,qm,qp,slU,qfc,Ru.cs,slR]
   | false =>
    simp [slU,qfc,w1]
    refine ⟨_,?_,hst.append,rfl⟩
    rw [hsc,if_neg (by rw [hq]; decide)]
    simp [qD,qm,qp,slU,qfc]
  ·have hk':k=l.length:=by omega
   subst hk'
   rw [List.take_length]
   have e:(l.filter fun r=>Yl r ro ti la)=Ja l ro ti la:=rfl
   rw [e]
   simp [slU,qfc]
   refine AW.seq (AW.ofx [] mixed (by kernel_rfl) ?_)
   simp
   refine AW.seq (AW.ofx [] mixed (by kernel_rfl) ?_)
   simp [slU,qfc]
   have hb1:=qdc (H:=H1) (b := .cells [.v .nil])
   have hlt1:H1.length<(H1 ++ [Bk.cells [.v .nil]]).length:=by simp
   have hB:=gbands (Ja l ro ti la) (by have:=List.length_filter_le (fun r=>Yl r ro ti la) l; unfold Ja; omega) (Nat.le_trans qbu hn) Wn H1.length (qh (H1 ++ [Bk.cells [.v .nil]]) H1.length 0 (Xk [])) (by
    rw [qF hb1]
    exact List.getElem?_set_self hlt1)
   have hB:=hB.qbU (Xk []) hb1 rfl (by simp [Xk,q9]) rfl
   rw [qF hb1] at hB
   have hs1:vK (H ++ [kcs ro ti la]) (H1 ++ [Bk.cells [.v .nil]]):=hst.append
   have hlH:H.length<H1.length:=(List.getElem?_eq_some_iff.1 (hst.cells (i:=H.length) (by simp [kcs]; rfl))).1
   unfold slU at hB
   refine qc.of hB ?_
   rintro y H2 ⟨hid,hs2⟩
   have hs2:=Qf.trans .set hs2
   have hs3:vK (H ++ [kcs ro ti la]) (H2.set H1.length (.cells [.v (slP (JJ l ro ti la))])):=(hst.x.trans (.app (L := [Bk.cells [.v .nil]]))).trans (hs2.trans .set) |>.new (by simp; omega)
   simp
   refine AW.asSlCell (off:=0) hid (by unfold Xk; rfl) ?_
   simp only [List.set_cons_zero]
   have hP:V.sl (qjN (Ja l ro ti la)).length 5 ((qjN (Ja l ro ti la)).flatMap pcs)=slP (JJ l ro ti la):=rfl
   rw [hP]
   have hlt2:H1.length<H2.length:=(List.getElem?_eq_some_iff.1 hid).1
   have ht3:=hs3.cells (ht' _)
   have hm3:=hs3.map (hm' _)
   have hk3:=hs3.cells (i:=H.length) (cs := [.v (.sc (.int .i64 ro)),.v (.sc (.int .i64 ti)),.v (.sc (.int .i64 la))]) (by simp [kcs])
   have hr3:=List.getElem?_set_self (a:=Bk.cells [.v (slP (JJ l ro ti la))]) hlt2
   generalize H2.set H1.length (.cells [.v (slP (JJ l ro ti la))])=H3 at *
   have hmH:m<H.length:=(List.getElem?_eq_some_iff.1 hm).1
   have htH:t<H.length:=(List.getElem?_eq_some_iff.1 ht).1
   have hne:t≠m:=hT.ne
   have hq:∀ X,((zf m H3).set m X)[H1.length]? = some (.cells [.v (slP (JJ l ro ti la))]):=fun X=>setOther (killA hr3 (by simp)) (by omega) X
   refine AW.ofx [] mixed (by kernel_rfl) ?_
   simp [ht3,hm3,hk3,hr3,hs,hq]
   refine ⟨_,⟨setOther (killA ht3 (by simp)) (Ne.symm hne) _,killSelf hm3⟩,fun e he => ?_,((vK.app (L := [kcs ro ti la])).trans hs3).a.killed⟩
   rcases List.mem_append.1 he with he | he
   ·exact hM e he
   ·exact ⟨ro,ti,la,by simpa [keyW] using he⟩
def Kept (l:List Ru) (t m:Nat) (H0 H:List Bk):Prop:=(∃ es,Tab H t m l es∧Xx l es)∧zZ m H0 H
theorem Kept.trans {l:List Ru} {t m:Nat} {H0 H1 H2:List Bk} (h:zZ m H0 H1) (k:Kept l t m H1 H2):Kept l t m H0 H2:=⟨k.1,h.trans k.2⟩
theorem Kept.app {l:List Ru} {t m:Nat} {H0 H1 L:List Bk} (k:Kept l t m H0 H1):Kept l t m H0 (H1++L):=by
 obtain ⟨⟨es,h1,h2⟩,h3⟩:=k
 exact ⟨⟨es,h1.stays .app,h2⟩,h3.append⟩
def Jg (l:List Ru) (t m:Nat) (H0 H:List Bk):Prop:=(∃ es,Tab H t m l es∧Xx l es)∧yQ m H0 H
theorem Jg.w {l:List Ru} {t m:Nat} {H0 H:List Bk} (h:Jg l t m H0 H):Kept l t m H0 H:=⟨h.1,h.2.w⟩
theorem Jg.trans {l:List Ru} {t m:Nat} {H0 H1 H2:List Bk} (h:yQ m H0 H1) (k:Jg l t m H1 H2):Jg l t m H0 H2:=⟨k.1,h.trans k.2⟩
theorem Jg.app {l:List Ru} {t m:Nat} {H0 H1 L:List Bk} (k:Jg l t m H0 H1):Jg l t m H0 (H1++L):=by
 obtain ⟨⟨es,h1,h2⟩,h3⟩:=k
 exact ⟨⟨es,h1.stays .app,h2⟩,h3.append⟩
theorem gmade (t m:Nat) (l:List Ru) (es:List (Value×V)) (H:List Bk) (h:Tab H t m l es):AFn Tryz.prog 103 [.ptr t 0] H fun y H'=>y = .sc (.bool true)∧H'=H:=by
 have ht:=h.t
 refine AFn.intro (fn:=Tryz.f103) (by kernel_rfl) rfl (by kernel_rfl) (by simp) (AW.ofx [] mixed (by kernel_rfl) ?_)
 simp only [Tryz.f103,qj]
 simp [ht]
theorem nilTb {x y:Operand}:Jb Tryz.prog .neq 36 x y (.pointer none) (.pointer none)=some (.bool false):=by kernel_rfl
theorem gmadeN:PFn Tryz.prog 103 [.sc (.pointer none)] (.sc (.bool false)):=by
 refine AFn.intro (fn:=Tryz.f103) (by kernel_rfl) rfl (by kernel_rfl) (by simp) (AW.ofx [] mixed (by kernel_rfl) ?_)
 simp only [Tryz.f103,qj]
 simp [nilTb]
theorem qfk (ro ti la:Int):PFn Tryz.prog 104 [.sc (.int .i64 ro),.sc (.int .i64 ti),.sc (.int .i64 la)] (.sc (.bool (yC ro ti la))):=by
 refine AFn.intro (fn:=Tryz.f104) (by kernel_rfl) rfl (by kernel_rfl) (by simp) (AW.ofx [] mixed (by kernel_rfl) ?_)
 simp only [Tryz.f104,qj]
 simp
 simp [gd,yC,zR]
 grind
theorem WG (l:List Ru) (ro ti la:Int):(JJ l ro ti la).length≤5000000000:=by
 have hR:∀ y,(ZT (Ja l ro ti la) (Q0 (Ja l ro ti la) false) y).length≤(Q0 (Ja l ro ti la) false).length:=fun y=>qgh _ _ y
 have h1:=qg0 (R:=ZT (Ja l ro ti la) (Q0 (Ja l ro ti la) false)) (ys:=Q0 (Ja l ro ti la) true) hR ((Q0 (Ja l ro ti la) true).length - 1)
 have h2:=KH (l:=Ja l ro ti la) Wn false
 have h3:=KH (l:=Ja l ro ti la) Wn true
 have h4:((Q0 (Ja l ro ti la) true).length - 1)*(Q0 (Ja l ro ti la) false).length≤65537*65537:=Nat.mul_le_mul (by omega) h2
 unfold JJ qjN qgx
 omega
def Qh (q:Rc Int):Re:=⟨q.x0,q.y0,q.x1,q.y1⟩
def qaY (qs:List (Rc Int)) (p:Pt):Int:=match qs.find? fun q=>zU (Qh q) p with
 | some q=>q.z
 | none=>0
theorem qj8 {α:Type} {q:α→Bool} {xs:List α} {k:Nat} (h:k<xs.length) (hn:∀ x∈xs.take k,q x=false) (hq:q xs[k]=true):xs.find? q=some xs[k]:=by
 have e:xs.find? q=(xs.take k++xs.drop k).find? q:=by rw [List.take_append_drop]
 rw [e,List.find?_append,List.find?_eq_none.2 (fun x hx=>by rw [hn x hx]; decide),Option.none_or]
 have e2:=List.drop_eq_getElem_cons h
 have e3:(xs[k]::xs.drop (k+1)).find? q=some xs[k]:=List.find?_cons_of_pos hq
 rw [← e2] at e3
 exact e3
theorem find_no {α:Type} {q:α→Bool} {xs:List α} (hn:∀ x∈xs,q x=false):xs.find? q=none:=List.find?_eq_none.2 (fun x hx=>by rw [hn x hx]; decide)
def ZmI (l:List Ru) (qs:List (Rc Int)) (p:Pt) (b:Nat) (t m:Nat) (H0:List Bk) (k:Nat) (F:Fr) (H:List Bk):Prop:=((∀ q∈qs.take k,zU (Qh q) p=false)∧Kept l t m H0 H∧H[b]? = some (Y4 p))∧F = [(9,.v (.ptr b 0)),(27,.v (slP qs)),(28,.v (.sc (.int .i64 qs.length))),(29,.v (.sc (.int .i64 k)))]
set_option maxHeartbeats 4000000 in
theorem gZoom (l:List Ru) (ro ti la:Int) (p:Pt) (hl:l.length≤1000000) (hn:(qz l).length≤1048576) (t m:Nat) (es:List (Value×V)) (H:List Bk) (hT:Tab H t m l es) (hM:Xx l es) :
  AFn Tryz.prog 54 [.ptr t 0,.sc (.int .i64 ro),.sc (.int .i64 ti),.sc (.int .i64 la),p.v] H fun y H'=>y = .sc (.int .i64 (if yC ro ti la then qaY (JJ l ro ti la) p else 0))∧Kept l t m H H':=by
 have hTm:=(List.getElem?_eq_some_iff.1 hT.m).1
 have hT1:=hT.stays (.app (L := [Y4 p]))
 have hb1:=qdc (H:=H) (b:=Y4 p)
 have h1:=gmade t m l es _ hT1
 have h2:=qfk ro ti la
 have h3:=qcI l ro ti la hl hn t m es _ hT1 hM
 have hq:=WG l ro ti la
 unfold Y4 at h1 h3
 unfold Pt.v Pt.cs
 refine AFn.intro (fn:=Tryz.f54) (by kernel_rfl) rfl (by kernel_rfl) (by simp) (AW.ofx [] mixed (by kernel_rfl) ?_)
 simp only [Tryz.f54,qj]
 simp
 refine qc.of h1 ?_
 rintro y H1 ⟨rfl,rfl⟩
 simp
 refine qc.pure h2 rfl rfl ?_
 cases e:yC ro ti la with
 | false =>
  simp
  exact ⟨⟨es,hT1,hM⟩,.app⟩
 | true =>
  simp
  refine qc.of h3 ?_
  rintro y H2 ⟨rfl,es',hT',hM',hs⟩
  have hb2:=hs.cells (by omega) hb1
  generalize JJ l ro ti la=qs at *
  simp [slP]
  refine AW.count qs.length (ZmI l qs p H.length t m H) ⟨_,?_,⟨by simp,⟨⟨es',hT',hM'⟩,zZ.trans .app hs.w⟩,hb2⟩,rfl⟩ ?_
  ·simp [qD,qm,qp,slP]
  rintro k F H3 hk ⟨⟨hno,hK,hb3⟩,rfl⟩
  refine AW.ofx [] mixed (by kernel_rfl) ?_
  by_cases hlt:k<qs.length
  ·have w1:IntKind.i64.wrap ((k:Int)+1)=(k:Int)+1:=by rw [wrap_i64] <;> omega
   have hrow:=rowPa hlt
   have hH:=gHas (Qh qs[k]) p
   have hb3':=fun L=>qdw (L:=L) hb3
   have hbq:=qdc (H:=H3) (b := .cells [.v (.sc (.int .i64 qs[k].x0)),.v (.sc (.int .i64 qs[k].y0)),.v (.sc (.int .i64 qs[k].x1)),.v (.sc (.int .i64 qs[k].y1)),.v (.sc (.int .i64 qs[k].z))])
   unfold Re.v Re.cs Pt.v Pt.cs at hH
   unfold Y4 at hb3'
   simp [slP,hlt,hrow,JE,hb3',hbq]
   refine qc.pure hH rfl rfl ?_
   cases e1:zU (Qh qs[k]) p with
   | true =>
    have hz:qaY qs p=qs[k].z:=by
     unfold qaY
     rw [qj8 hlt hno e1]
    simp [hbq,hz]
    exact hK.app
   | false =>
    simp [w1]
    refine ⟨_,?_,⟨qeR hno hlt e1,hK.app,hb3' _⟩,rfl⟩
    simp [qD,qm,qp,slP]
  ·have hk':k=qs.length:=by omega
   subst hk'
   rw [List.take_length] at hno
   have hz:qaY qs p=0:=by
    unfold qaY
    rw [find_no hno]
   simp [slP,hz]
   exact hK
def ofS (r:Re) (s:Int×Int) (q:Rc Int):Int×Int:=if zx (Qh q) r then (IntKind.u64.wrap (s.1 - QU (Vz (Qh q) r)),if q.z<s.2 then q.z else s.2) else s
def ofP (qs:List (Rc Int)) (r:Re):Int:=if 0<(qs.foldl (ofS r) ((QU r:Nat),16)).1 then 0 else (qs.foldl (ofS r) ((QU r:Nat),16)).2
def OfI (l:List Ru) (qs:List (Rc Int)) (r:Re) (b:Nat) (t m:Nat) (H0:List Bk) (k:Nat) (F:Fr) (H:List Bk):Prop:=(Jg l t m H0 H∧H[b]? = some (reB r)) ∧
 F = [(9,.v (.ptr b 0)),(11,.v (.sc (.int .u64 ((qs.take k).foldl (ofS r) ((QU r:Nat),16)).1))),(12,.v (.sc (.int .i64 ((qs.take k).foldl (ofS r) ((QU r:Nat),16)).2))),(38,.v (slP qs)),(39,.v (.sc (.int .i64 qs.length))),(40,.v (.sc (.int .i64 k)))]
theorem setL2 {H:List Bk} {b:Bk} {xs:List SV} {ys:List V} (h:xs.length=ys.length):setCells (H ++ [b,.cells xs]) (H.length+1) 0 ys=H ++ [b,.cells (ys.map .v)]:=by
 have:=JE (H:=H ++ [b]) h
 simpa using this
set_option maxHeartbeats 4000000 in
theorem gOf (l:List Ru) (ro ti la:Int) (r:Re) (hl:l.length≤1000000) (hn:(qz l).length≤1048576) (t m:Nat) (es:List (Value×V)) (H:List Bk) (hT:Tab H t m l es) (hM:Xx l es) :
  AFn Tryz.prog 71 [.ptr t 0,.sc (.int .i64 ro),.sc (.int .i64 ti),.sc (.int .i64 la),r.v] H fun y H'=>y = .sc (.int .i64 (if yC ro ti la&&qo r then ofP (JJ l ro ti la) r else 0))∧Jg l t m H H':=by
 have hTm:=(List.getElem?_eq_some_iff.1 hT.m).1
 have hT1:=hT.stays (.app (L := [reB r]))
 have hb1:=qdc (H:=H) (b:=reB r)
 have h1:=gmade t m l es _ hT1
 have h2:=qfk ro ti la
 have h3:=qcI l ro ti la hl hn t m es _ hT1 hM
 have hR:=Zk r
 have hA:=gArea r
 have hq:=WG l ro ti la
 unfold reB at h1 h3
 unfold Re.v Re.cs at hR hA ⊢
 refine AFn.intro (fn:=Tryz.f71) (by kernel_rfl) rfl (by kernel_rfl) (by simp) (AW.ofx [] mixed (by kernel_rfl) ?_)
 simp only [Tryz.f71,qj]
 simp
 refine qc.of h1 ?_
 rintro y H1 ⟨rfl,rfl⟩
 simp
 refine qc.pure h2 rfl rfl ?_
 cases e:yC ro ti la with
 | false =>
  simp
  exact ⟨⟨es,hT1,hM⟩,.app⟩
 | true =>
  simp
  refine qc.pure hR rfl rfl ?_
  cases e2:qo r with
  | false =>
   simp
   exact ⟨⟨es,hT1,hM⟩,.app⟩
  | true =>
   simp
   refine qc.pure hA rfl rfl ?_
   simp
   refine qc.of h3 ?_
   rintro y H2 ⟨rfl,es',hT',hM',hs⟩
   have hb2:=hs.cells (by omega) hb1
   generalize JJ l ro ti la=qs at *
   simp [slP]
   refine AW.count qs.length (OfI l qs r H.length t m H) ⟨_,?_,⟨⟨⟨es',hT',hM'⟩,yQ.trans .app hs⟩,hb2⟩,rfl⟩ ?_
   ·simp [qD,qm,qp,slP]
   rintro k F H3 hk ⟨⟨hK,hb3⟩,rfl⟩
   refine AW.ofx [] mixed (by kernel_rfl) ?_
   by_cases hlt:k<qs.length
   ·have w1:IntKind.i64.wrap ((k:Int)+1)=(k:Int)+1:=by rw [wrap_i64] <;> omega
    have hrow:=rowPa hlt
    have hst:=vX (f:=ofS r) (b:=(((QU r:Nat):Int),(16:Int))) (xs:=qs) (k:=k) hlt
    have hH:=gMeet (Qh qs[k]) r
    have hB:=gArea (Vz (Qh qs[k]) r)
    have hb3':=fun L=>qdw (L:=L) hb3
    have hbq:=qdc (H:=H3) (b := .cells [.v (.sc (.int .i64 qs[k].x0)),.v (.sc (.int .i64 qs[k].y0)),.v (.sc (.int .i64 qs[k].x1)),.v (.sc (.int .i64 qs[k].y1)),.v (.sc (.int .i64 qs[k].z))])
    generalize hgs:(qs.take k).foldl (ofS r) (((QU r:Nat):Int),(16:Int))=s at *
    unfold meetV meetP Re.v Re.cs at hH
    unfold Re.v Re.cs at hB
    unfold reB at hb3'
    cases e3:zx (Qh qs[k]) r with
    | true =>
     have e1:ofS r s qs[k]=(IntKind.u64.wrap (s.1 - QU (Vz (Qh qs[k]) r)),if qs[k].z<s.2 then qs[k].z else s.2):=by simp [ofS,e3]
     rw [e1] at hst
     rw [e3,if_pos rfl] at hH
     have hbx:=qdc (H:=H3 ++ [.cells [.v (.sc (.int .i64 qs[k].x0)),.v (.sc (.int .i64 qs[k].y0)),.v (.sc (.int .i64 qs[k].x1)),.v (.sc (.int .i64 qs[k].y1)),.v (.sc (.int .i64 qs[k].z))]]) (b:=reB (Vz (Qh qs[k]) r))
     have hbq2:=fun L=>qdw (L:=L) hbq
     unfold reB at hbx
     simp [slP,hlt,hrow,JE,hb3',hbq]
     refine qc.pure hH rfl rfl ?_
     simp [JE,setL2]
     refine qc.pure hB rfl rfl ?_
     simp [w1]
     refine ⟨_,?_,⟨hK.app,hb3' _⟩,rfl⟩
     rw [hst]
     simp [qD,qm,qp,slP]
    | false =>
     have e1:ofS r s qs[k]=s:=by simp [ofS,e3]
     rw [e1] at hst
     rw [e3,if_neg (by decide)] at hH
     simp [slP,hlt,hrow,JE,hb3',hbq]
     refine qc.pure hH rfl rfl ?_
     simp [JE,setL2,w1]
     refine ⟨_,?_,⟨hK.app,hb3' _⟩,rfl⟩
     rw [hst]
     simp [qD,qm,qp,slP]
   ·have hk':k=qs.length:=by omega
    subst hk'
    simp [slP]
    unfold ofP
    generalize qs.foldl (ofS r) ((QU r:Nat),16)=s at *
    by_cases h0:0<s.1
    ·simp [gd,h0]
     exact hK
    ·simp [gd,h0]
     exact hK
def VT (l:List Ru) (ro ti:Int) (n:Nat):List Int:=(List.range n).flatMap fun la:Nat=>(JJ l ro ti la).map (·.z)
theorem qcE (l:List Ru) (ro ti:Int):∀ n,(VT l ro ti n).length≤n*5000000000
 | 0=>by simp [VT]
 | n+1=>by
  have h1:=qcE l ro ti n
  have h2:=WG l ro ti n
  have e:VT l ro ti (n+1)=VT l ro ti n++(JJ l ro ti n).map (·.z):=by simp [VT,List.range_succ]
  rw [e,List.length_append,List.length_map]
  omega
theorem qjW (l:List Ru) (ro ti:Int) (n:Nat):VT l ro ti (n+1)=VT l ro ti n++(JJ l ro ti n).map (·.z):=by simp [VT,List.range_succ]
def LvI (l:List Ru) (ro ti:Int) (t m:Nat) (H0:List Bk) (n:Nat) (F:Fr) (H:List Bk):Prop:=Kept l t m H0 H ∧
 F = [(0,.v (.ptr t 0)),(1,.v (.sc (.int .i64 ro))),(2,.v (.sc (.int .i64 ti))),(7,QJ (VT l ro ti n)),(20,.v (.sc (.int .i64 n)))]
def LwI (l:List Ru) (ro ti:Int) (t m:Nat) (H0:List Bk) (n:Nat) (qs:List (Rc Int)) (k:Nat) (F:Fr) (H:List Bk):Prop:=Kept l t m H0 H ∧
 F = [(0,.v (.ptr t 0)),(1,.v (.sc (.int .i64 ro))),(2,.v (.sc (.int .i64 ti))),(7,QJ (VT l ro ti n++(qs.take k).map (·.z))),(20,.v (.sc (.int .i64 n))),(27,.v (slP qs)),(28,.v (.sc (.int .i64 qs.length))),(29,.v (.sc (.int .i64 k)))]
set_option maxHeartbeats 4000000 in
theorem gLevels (l:List Ru) (ro ti:Int) (hl:l.length≤1000000) (hn:(qz l).length≤1048576) (t m:Nat) (es:List (Value×V)) (H:List Bk) (hT:Tab H t m l es) (hM:Xx l es) :
  AFn Tryz.prog 97 [.ptr t 0,.sc (.int .i64 ro),.sc (.int .i64 ti)] H fun y H'=>y=slI (if yC ro ti 0 then XT (VT l ro ti 8) else [])∧Kept l t m H H':=by
 have h1:=gmade t m l es H hT
 have h2:=qfk ro ti 0
 suffices h:AFn Tryz.prog 97 [.ptr t 0,.sc (.int .i64 ro),.sc (.int .i64 ti)] H fun y H'=>(if yC ro ti 0 then y=slI (XT (VT l ro ti 8)) else y = .nil)∧Kept l t m H H' by
  refine h.conv fun y H' ⟨hy,hk⟩=>⟨_,⟨rfl,hk⟩,fun I φ v hv => ?_⟩
  cases e:yC ro ti 0 with
  | false =>
   rw [e] at hy
   simp at hy
   subst hy
   exact XH hv
  | true =>
   rw [e] at hy
   simp at hy
   subst hy
   exact hv
 refine AFn.intro (fn:=Tryz.f97) (by kernel_rfl) rfl (by kernel_rfl) (by simp) ?_
 simp only [Tryz.f97,qj]
 refine AW.seq (AW.ofx [] mixed (by kernel_rfl) ?_)
 simp
 refine AW.seq (AW.ofx [] mixed (by kernel_rfl) ?_)
 simp
 refine AW.seq (AW.ofx [] mixed (by kernel_rfl) ?_)
 simp
 refine qc.of h1 ?_
 rintro y H1 ⟨rfl,rfl⟩
 simp
 refine qc.pure h2 rfl rfl ?_
 cases e:yC ro ti 0 with
 | false =>
  simp
  exact ⟨⟨es,hT,hM⟩,.refl⟩
 | true =>
  simp
  refine AW.seq (AW.ofx [] mixed (by kernel_rfl) ?_)
  simp
  refine AW.count 8 (LvI l ro ti t m H1) ⟨_,?_,⟨⟨es,hT,hM⟩,.refl⟩,rfl⟩ ?_
  ·simp [qD,qm,qp,VT,QJ,q9,ints]
  rintro n F H2 hn8 ⟨hK,rfl⟩
  refine AW.ofx [] mixed (by kernel_rfl) ?_
  by_cases hlt:n<8
  ·have w1:IntKind.i64.wrap ((n:Int)+1)=(n:Int)+1:=by rw [wrap_i64] <;> omega
   have hlt':(n:Int)<8:=by omega
   obtain ⟨⟨es2,hT2,hM2⟩,hs2⟩:=hK
   have h3:=qcI l ro ti n hl hn t m es2 H2 hT2 hM2
   have hq:=WG l ro ti n
   have hll:=qcE l ro ti n
   have hsu:=qjW l ro ti n
   have hcl:=qhG (JJ l ro ti n)
   simp [hlt',QJ]
   refine qc.of h3 ?_
   rintro y H3 ⟨rfl,es3,hT3,hM3,hs3⟩
   generalize JJ l ro ti n=qs at *
   simp [slP]
   refine AW.count qs.length (LwI l ro ti t m H1 n qs) ⟨_,?_,⟨⟨es3,hT3,hM3⟩,hs2.trans hs3.w⟩,rfl⟩ ?_
   ·simp [qD,qm,qp,slP,QJ]
   rintro k F H4 hk ⟨hK4,rfl⟩
   refine AW.ofx [] mixed (by kernel_rfl) ?_
   by_cases hkl:k<qs.length
   ·have w2:IntKind.i64.wrap ((k:Int)+1)=(k:Int)+1:=by rw [wrap_i64] <;> omega
    have hrow:=rowPa hkl
    have hbq:=qdc (H:=H4) (b := .cells [.v (.sc (.int .i64 qs[k].x0)),.v (.sc (.int .i64 qs[k].y0)),.v (.sc (.int .i64 qs[k].x1)),.v (.sc (.int .i64 qs[k].y1)),.v (.sc (.int .i64 qs[k].z))])
    have hst:VT l ro ti n++(qs.take (k+1)).map (·.z)=VT l ro ti n++(qs.take k).map (·.z) ++ [qs[k].z]:=by rw [List.take_succ_eq_append_getElem hkl,List.map_append,← List.append_assoc]; rfl
    have hlo:(VT l ro ti n++(qs.take k).map (·.z)).length≤50000000000:=by
     rw [List.length_append,List.length_map,List.length_take]
     omega
    generalize hgo:VT l ro ti n++(qs.take k).map (·.z)=o at *
    simp [slP,hkl,hrow,JE,hbq,QJ,w2]
    refine ⟨by omega,_,?_,hK4.app,rfl⟩
    rw [hst]
    simp [qD,qm,qp,slP,QJ,ints]
   ·have hk':k=qs.length:=by omega
    subst hk'
    rw [List.take_length,← hsu]
    simp [slP,w1,QJ]
    refine ⟨by omega,_,?_,hK4,rfl⟩
    simp [qD,qm,qp,QJ]
  ·have hk':n=8:=by omega
   subst hk'
   have hz:=qcE l ro ti 8
   simp [QJ]
   generalize VT l ro ti 8=zs at *
   refine AW.seq (AW.qiK (u:=7) (e:=3) (sz:=1) (n:=zs.length) (zs:=zs) (xs := []) sortI ⟨_,Tryz.func145,rfl,by kernel_rfl⟩ (fun x v hv=>by simp at hv; subst hv; rfl) rfl rfl rfl rfl rfl rfl (fun a=>rfl) rfl rfl (by decide) (by decide) (by decide) (by decide) (by simp [qp,VZ]) rfl rfl (by omega) ?_)
   rintro ys rfl hyl
   rw [VZ]
   have hN:XT zs=Go.Lib.compact (sorted' zs):=rfl
   rw [← hyl]
   rw [hN]
   generalize sorted' zs=qs at *
   simp
   refine AW.seq (AW.qiL (u:=7) (e:=3) (sz:=1) (n:=qs.length) (zs:=qs) (xs := []) qg3 ⟨_,Tryz.func146,rfl,by kernel_rfl⟩ (fun x v hv=>by simp at hv; subst hv; rfl) rfl rfl rfl rfl rfl rfl (fun a=>rfl) rfl rfl (by decide) (by decide) (by decide) (by simp [qp,VZ]) rfl (by omega) ?_)
   rintro ys rfl
   rw [VZ]
   generalize Go.Lib.compact qs=rs at *
   simp
   refine AW.ofx [] mixed (by kernel_rfl) ?_
   simp [slI]
   exact hK
theorem gZoomN (ro ti la:Int) (p:Pt):PFn Tryz.prog 54 [.sc (.pointer none),.sc (.int .i64 ro),.sc (.int .i64 ti),.sc (.int .i64 la),p.v] (.sc (.int .i64 0)):=by
 have h1:=gmadeN
 unfold Pt.v Pt.cs
 refine AFn.intro (fn:=Tryz.f54) (by kernel_rfl) rfl (by kernel_rfl) (by simp) (AW.ofx [] mixed (by kernel_rfl) ?_)
 simp only [Tryz.f54,qj]
 simp
 refine qc.pure h1 rfl rfl ?_
 simp
theorem qhc {q:Ru→Bool}:∀ (l:List Ru) (z:Int),0≤z→0≤l.foldl (Qk q) z
 | [],z,h=>h
 | r::l,z,h=>by
  rw [List.foldl_cons]
  apply qhc l
  unfold Qk
  split
  ·omega
  ·exact h
theorem qeH {q:Ru→Bool}:∀ (l:List Ru) (z:Int),(∀ r∈l,q r=true→0≤r.zoom)→0≤z→z≤16→0≤l.foldl (YN q) z∧l.foldl (YN q) z≤16
 | [],z,_,h0,h1=>⟨h0,h1⟩
 | r::l,z,h,h0,h1=>by
  rw [List.foldl_cons]
  have hz:=h r (by simp)
  apply qeH l _ fun r hr=>h r (by simp [hr])
  all_goals
   unfold YN
   split
   ·rename_i hc
    have:=hz hc.2.2
    omega
   ·assumption
theorem Y2 {r:Ru} (h:qK r=true):0≤r.zoom∧r.zoom≤16:=by
 unfold qK zR at h
 split at h
 ·simp at h
  omega
 ·simp at h
  omega
theorem Xc {r:Ru} {ro ti la:Int} {p:Pt} (h:yj ro ti la p r=true):qK r=true:=by
 unfold yj Yl at h
 simp at h
 exact h.1.1.1.1.1.1.1
theorem JB (l:List Ru) (ro ti la:Int) (p:Pt):0≤jS l ro ti la p∧jS l ro ti la p≤16:=by
 unfold jS
 split
 ·unfold qfN
  have h1:=qhc (q:=yj ro ti la p) l 0 (by decide)
  have h2:=qdf (q:=yj ro ti la p) l 0 (M:=16) (fun r _ hq=>(Y2 (Xc hq)).2) (by decide)
  exact qeH l _ (fun r _ hq=>(Y2 (Xc hq)).1) h1 h2
 ·omega
def BoA (l:List Ru) (k:Nat) (F:Fr) (H:List Bk):Prop:=F = [(0,.v (slU l)),(3,qdt (qz (l.take k))),(4,.v (.sc (.int .i64 k)))]
def BoB (l:List Ru) (k:Nat) (c:List Re) (j:Nat) (F:Fr) (H:List Bk):Prop:=F = [(0,.v (slU l)),(3,qdt (qz (l.take k)++c.take j)),(4,.v (.sc (.int .i64 k))),(5,.v (.sc (.int .i64 j)))]
set_option maxHeartbeats 4000000 in
theorem refBoxes (l:List Ru) (hl:l.length≤1000000) (hn:(qz l).length≤1048576):PFn Tryz.prog 126 [slU l] (slR (qz l)):=by
 refine AFn.intro (fn:=Tryz.f126) (by kernel_rfl) rfl (by kernel_rfl) (by simp) (AW.ofx [] mixed (by kernel_rfl) ?_)
 simp only [Tryz.f126,qj]
 simp [slU]
 refine AW.count l.length (BoA l) ⟨_,?_,rfl⟩ ?_
 ·simp [qD,qm,qp,slU,qdt,q9,qz]
 rintro k F H hk rfl
 refine AW.ofx [] mixed (by kernel_rfl) ?_
 have w1:IntKind.i64.wrap ((k:Int)+1)=(k:Int)+1:=by rw [wrap_i64] <;> omega
 by_cases hlt:k<l.length
 ·have hrow:=qdp hlt
  have hst:=X8 hlt
  have hpre:=J5 l (k+1)
  rw [hst,List.length_append] at hpre
  generalize hc:l[k].boxes=c at *
  simp [slU,qdt,hlt,hrow]
  refine AW.count c.length (BoB l k c) ⟨_,?_,rfl⟩ ?_
  ·simp [qD,qm,qp,slU,qdt]
  rintro j F H2 hj rfl
  refine AW.ofx [] mixed (by kernel_rfl) ?_
  unfold slR at hrow
  by_cases hjl:j<c.length
  ·have w2:IntKind.i64.wrap ((j:Int)+1)=(j:Int)+1:=by rw [wrap_i64] <;> omega
   have hrj:=qgg hjl
   have hlo:(qz (l.take k)++c.take j).length≤1048576:=by
    rw [List.length_append,List.length_take]
    omega
   have hsj:qz (l.take k)++c.take (j+1)=qz (l.take k)++c.take j ++ [c[j]]:=by rw [List.take_succ_eq_append_getElem hjl,List.append_assoc]
   generalize hgo:qz (l.take k)++c.take j=o at *
   simp [slU,slR,qdt,hlt,hrow,hjl,hrj,w2]
   refine ⟨by omega,_,?_,rfl⟩
   rw [hsj]
   simp [qD,qm,qp,slU,qdt,Re.cs]
  ·have hjj:j=c.length:=by omega
   subst hjj
   rw [List.take_length,← hst]
   simp [slU,slR,qdt,hlt,hrow,w1]
   refine ⟨_,?_,rfl⟩
   simp [qD,qm,qp,slU,qdt]
 ·have hk2:k=l.length:=by omega
  subst hk2
  rw [List.take_length]
  simp [slU,slR,qdt]
def qfd (l:List Ru) (ro ti la:Int) (r:Re) (z:Int) (p:Pt):Int:=if zU r p&&decide (jS l ro ti la p<z) then jS l ro ti la p else z
def VR (l:List Ru) (ro ti la:Int) (r:Re) (ys:List Int) (z x:Int):Int:=ys.foldl (fun z y=>qfd l ro ti la r z ⟨x,y⟩) z
def qdu (l:List Ru) (ro ti la:Int) (r:Re):Int:=(zI (qz l ++ [r]) false).foldl (VR l ro ti la r (zI (qz l ++ [r]) true)) 16
def OrA (l:List Ru) (ro ti la:Int) (r:Re) (xs ys:List Int) (i:Nat) (F:Fr) (H:List Bk):Prop:=yD [reB r] H∧F = [(0,.v (slU l)),(1,.v (.sc (.int .i64 ro))),(2,.v (.sc (.int .i64 ti))),(3,.v (.sc (.int .i64 la))),(9,.v (.ptr 0 0)),(11,.v (.sc (.int .i64 ((xs.take i).foldl (VR l ro ti la r ys) 16)))),(13,.v (slI xs)),(14,.v (slI ys)),(15,.v (.sc (.int .i64 i)))]
def OrB (l:List Ru) (ro ti la:Int) (r:Re) (xs ys:List Int) (i:Nat) (x z0:Int) (k:Nat) (F:Fr) (H:List Bk):Prop:=yD [reB r] H∧F = [(0,.v (slU l)),(1,.v (.sc (.int .i64 ro))),(2,.v (.sc (.int .i64 ti))),(3,.v (.sc (.int .i64 la))),(9,.v (.ptr 0 0)),(11,.v (.sc (.int .i64 ((ys.take k).foldl (fun z y=>qfd l ro ti la r z ⟨x,y⟩) z0)))),(13,.v (slI xs)),(14,.v (slI ys)),(15,.v (.sc (.int .i64 i))),(16,.v (.sc (.int .i64 k)))]
set_option maxHeartbeats 8000000 in
theorem refOfP (l:List Ru) (ro ti la:Int) (r:Re) (hl:l.length≤1000) (hn:(qz l).length≤1000) (hr:∀ b∈qz l,qo b=true) (hrr:qo r=true) :
  PFn Tryz.prog 72 [slU l,.sc (.int .i64 ro),.sc (.int .i64 ti),.sc (.int .i64 la),r.v] (.sc (.int .i64 (qdu l ro ti la r))):=by
 have hbl:∀ r∈l,r.boxes.length≤9223372036854775807:=fun r hr=>by
  have h1:r.boxes.length≤(qz l).length:=by
   obtain ⟨s,t,rfl⟩:=List.append_of_mem hr
   simp [qz]
   omega
  omega
 have hB:=refBoxes l (by omega) (by omega)
 have hE:=fun d=>refEdges (qz l) [r] d (by omega) (by simp) hr (by simpa using hrr)
 have hZ:=fun p=>qiM l ro ti la p (by omega) hbl
 have hH:=fun p=>refHas r p
 have cb:=K3 (qz l)
 have c1:=yc l
 have c3:=fun d=>Jm (zI (qz l ++ [r]) d)
 have hlx:=Wq false (qz l ++ [r])
 have hly:=Wq true (qz l ++ [r])
 rw [List.length_append,List.length_singleton] at hlx hly
 have hE':∀ d,PFn Tryz.prog 127 [slR (qz l),.sl 1 4 [.sc (.int .i64 r.x0),.sc (.int .i64 r.y0),.sc (.int .i64 r.x1),.sc (.int .i64 r.y1)],.sc (.bool d)] (slI (zI (qz l ++ [r]) d)):=hE
 unfold qdu
 unfold Re.v Re.cs Pt.v Pt.cs at hH
 unfold Pt.v Pt.cs at hZ
 unfold Re.v Re.cs
 refine AFn.intro (fn:=Tryz.f72) (by kernel_rfl) rfl (by kernel_rfl) (by simp) (AW.ofx [(11,10,[13,15,14,16])] mixed (by kernel_rfl) ?_)
 simp only [Tryz.f72,qj]
 simp
 refine qc.pure hB (by simp [V.qC,V.closed,c1]) cb ?_
 simp
 refine qc.pure (hE' false) (by simp [V.qC,V.closed,cb]) (c3 false) ?_
 simp
 refine qc.pure (hE' true) (by simp [V.qC,V.closed,cb]) (c3 true) ?_
 clear hE hE' c3
 generalize zI (qz l ++ [r]) false=xs at *
 generalize zI (qz l ++ [r]) true=ys at *
 simp
 refine AW.count xs.length (OrA l ro ti la r xs ys) ⟨_,?_,.refl,rfl⟩ ?_
 ·simp [qD,qm,qp,slI]
 rintro i F H hi ⟨hs,rfl⟩
 refine AW.ofx [(11,10,[13,15,14,16])] mixed (by kernel_rfl) ?_
 by_cases hlt:i<xs.length
 ·have w1:IntKind.i64.wrap ((i:Int)+1)=(i:Int)+1:=by rw [wrap_i64] <;> omega
  have hri:=Wy hlt
  have hst:=vX (f:=VR l ro ti la r ys) (b:=(16:Int)) (xs:=xs) (k:=i) hlt
  generalize (xs.take i).foldl (VR l ro ti la r ys) 16=z0 at *
  simp [slI,hlt]
  refine AW.count ys.length (OrB l ro ti la r xs ys i xs[i] z0) ⟨_,?_,hs,rfl⟩ ?_
  ·simp [qD,qm,qp,slI]
  rintro k F H2 hk ⟨hs2,rfl⟩
  refine AW.ofx [(11,10,[13,15,14,16])] mixed (by kernel_rfl) ?_
  by_cases hkl:k<ys.length
  ·have w2:IntKind.i64.wrap ((k:Int)+1)=(k:Int)+1:=by rw [wrap_i64] <;> omega
   have hrk:=Wy hkl
   have hsk:=vX (f:=fun z y=>qfd l ro ti la r z ⟨xs[i],y⟩) (b:=z0) (xs:=ys) (k:=k) hkl
   have hHp:=hH ⟨xs[i],ys[k]⟩
   have hZp:=hZ ⟨xs[i],ys[k]⟩
   generalize (ys.take k).foldl (fun z y=>qfd l ro ti la r z ⟨xs[i],y⟩) z0=z at *
   have e0:qfd l ro ti la r z ⟨xs[i],ys[k]⟩=if zU r ⟨xs[i],ys[k]⟩&&decide (jS l ro ti la ⟨xs[i],ys[k]⟩<z) then jS l ro ti la ⟨xs[i],ys[k]⟩ else z:=rfl
   rw [e0] at hsk
   have hb:=hs2.cells (i:=0) rfl
   have hb':=fun L=>qdw (L:=L) hb
   have hb0:=fun L h=>(List.getElem_eq_iff (i:=0) h).2 (hb' L)
   have hbp:=qdc (H:=H2) (b:=Y4 ⟨xs[i],ys[k]⟩)
   unfold Y4 at hbp
   simp [slI,hlt,hkl,hri,hrk,JE,hb',hb0,hbp]
   refine qc.pure hHp rfl rfl ?_
   cases e:zU r ⟨xs[i],ys[k]⟩ with
   | false =>
    rw [e] at hsk
    simp [w2]
    refine ⟨_,?_,hs2.append,rfl⟩
    rw [hsk]
    simp [qD,qm,qp,slI]
   | true =>
    rw [e] at hsk
    simp [slI,hbp]
    refine qc.pure hZp (by simp [V.qC,V.closed,c1]) rfl ?_
    by_cases e2:jS l ro ti la ⟨xs[i],ys[k]⟩<z
    ·simp [e2,hbp]
     refine qc.pure hZp (by simp [V.qC,V.closed,c1]) rfl ?_
     simp [w2]
     refine ⟨_,?_,hs2.append,rfl⟩
     rw [hsk]
     simp [qD,qm,qp,slI,e2]
    ·simp [e2,w2]
     refine ⟨_,?_,hs2.append,rfl⟩
     rw [hsk]
     simp [qD,qm,qp,slI,e2]
  ·have hkk:k=ys.length:=by omega
   subst hkk
   simp [slI,w1,List.take_length]
   refine ⟨_,?_,hs2,rfl⟩
   rw [hst]
   simp [qD,qm,qp,slI,VR]
 ·have hii:i=xs.length:=by omega
  subst hii
  simp [slI]
end Go.Proofs.YtnconfggojpkcaaGreat
namespace Go.Proofs.YtnconfggojpkcaaGreat
set_option linter.all false
open Go.RowKit AM Can
theorem qcL {α β:Type} {f:β→α→β}:∀ {l:List α} {s:β},(∀ x∈l,∀ s,f s x=s)→l.foldl f s=s
 | [],_,_=>rfl
 | x::l,s,h=>by
  rw [List.foldl_cons,h x (by simp),qcL fun y hy=>h y (by simp [hy])]
theorem Jj {q:Ru→Bool} {l:List Ru} (h:∀ r∈l,q r=false):ZC q l=0:=by
 unfold ZC
 rw [qcL fun r hr s=>by simp [Qt,h r hr]]
 rfl
theorem qeL {q b:Ru→Bool} (l:List Ru):ZC q (l.filter b)=ZC (fun r=>b r&&q r) l:=by
 have go:∀ (l:List Ru) (s:Int×Int),(l.filter b).foldl (Qt q) s=l.foldl (Qt fun r=>b r&&q r) s:=by
  intro l
  induction l with
  | nil=>intro s; rfl
  | cons r l ih =>
   intro s
   rw [List.filter_cons,List.foldl_cons]
   cases hb:b r with
   | true =>
    rw [if_pos rfl,List.foldl_cons,ih]
    congr 1
    simp [Qt,hb]
   | false =>
    rw [if_neg (by decide),ih]
    congr 1
    simp [Qt,hb]
 unfold ZC
 rw [go]
theorem qj6 {r:Ru} {ro ti la:Int} {p:Pt} (h:yj ro ti la p r=true):r.kind=4∨r.kind=5:=by
 have h1:=Xc h
 unfold yj Yl at h
 simp at h
 unfold qK at h1
 split at h1
 ·rename_i h6
  exact absurd h6 h.1.1.1.1.1.1.2
 ·simp at h1
  exact h1.1.1.1.1.1.1.1
theorem qbz {l:List Ru} (ha:l.all qK=true) (ro ti la:Int) (p:Pt):jS l ro ti la p=ZC (yj ro ti la p) l:=by
 unfold jS
 rw [if_pos ha]
 exact (zoom_doc (fun r _ h=>qj6 h) fun r _ h=>(Y2 (Xc h)).2).symm
theorem qit {l:List Ru} (ha:l.all qK=true) (ro ti la:Int) (p:Pt):jS l ro ti la p=ZC (Wi p) (Ja l ro ti la):=by
 rw [qbz ha]
 unfold Ja
 rw [qeL]
 rfl
def F2 (l:List Ru) (ro ti la:Int) (x y:Int):Option Int:=qbt (jS l ro ti la ⟨x,y⟩)
theorem Yf {l:List Ru} {ro ti la x y z:Int}:F2 l ro ti la x y=some z↔jS l ro ti la ⟨x,y⟩=z∧z≠0:=by
 unfold F2 qbt
 constructor
 ·intro h
  split at h
  ·cases h
  ·cases h; exact ⟨rfl,by assumption⟩
 ·rintro ⟨rfl,h⟩
  rw [if_neg h]
theorem qbK {l:List Ru} {ro ti la x y:Int}:F2 l ro ti la x y=none↔jS l ro ti la ⟨x,y⟩=0:=by
 unfold F2 qbt
 split
 ·simpa
 ·simpa
theorem qgO {l:List Re} {xs:List Int} (hx:∀ r∈l,r.x0∈xs∧r.x1+1∈xs) {x y:Int} (h:(∀ c∈xs,¬ c≤x)∨∀ c∈xs,c≤x):hasB l ⟨x,y⟩=false:=by
 rw [Bool.eq_false_iff]
 intro e
 obtain ⟨r,hr,h1,h2,h3⟩:=YI.1 e
 simp only at h2
 rcases h with h | h
 ·exact h _ (hx r hr).1 h2.1
 ·have:=h _ (hx r hr).2
  omega
theorem qem {l:List Re} {ys:List Int} (hy:∀ r∈l,r.y0∈ys∧r.y1+1∈ys) {x y:Int} (h:(∀ c∈ys,¬ c≤y)∨∀ c∈ys,c≤y):hasB l ⟨x,y⟩=false:=by
 rw [Bool.eq_false_iff]
 intro e
 obtain ⟨r,hr,h1,h2,h3⟩:=YI.1 e
 simp only at h3
 rcases h with h | h
 ·exact h _ (hy r hr).1 h3.1
 ·have:=h _ (hy r hr).2
  omega
section
variable {l:List Ru} {b:Ru→Bool} {G:Int→Int→Option Int} (hG:∀ x y,G x y=qbt (ZC (fun r=>b r&&hasB r.boxes ⟨x,y⟩) l))
include hG
theorem cutsX {xs:List Int} (hs:xs.Pairwise (· < ·)) (hx:∀ r∈l,∀ c∈r.boxes,c.x0∈xs∧c.x1+1∈xs) (y:Int):qhp (fun x=>G x y) xs:=by
 have e0:qbt 0=none:=rfl
 refine ⟨hs,fun x x' h => ?_,fun x h => ?_,fun x h => ?_⟩
 ·simp only [hG]
  rw [qaZ fun r hr=>by rw [qh0 (hx r hr) h]]
 ·simp only [hG]
  rw [Jj fun r hr=>by rw [qgO (hx r hr) (.inl h)]; simp,e0]
 ·simp only [hG]
  rw [Jj fun r hr=>by rw [qgO (hx r hr) (.inr h)]; simp,e0]
theorem cutsY {ys:List Int} (hs:ys.Pairwise (· < ·)) (hy:∀ r∈l,∀ c∈r.boxes,c.y0∈ys∧c.y1+1∈ys):qho G ys:=by
 have e0:qbt 0=none:=rfl
 refine ⟨hs,fun x y y' h => ?_,fun x y h => ?_,fun x y h => ?_⟩
 ·rw [hG,hG,qaZ fun r hr=>by rw [qhZ (hy r hr) h]]
 ·rw [hG,Jj fun r hr=>by rw [qem (hy r hr) (.inl h)]; simp,e0]
 ·rw [hG,Jj fun r hr=>by rw [qem (hy r hr) (.inr h)]; simp,e0]
end
theorem qaA {l:List Ru} {r:Ru} (hr:r∈l) {c:Re} (hc:c∈r.boxes):c∈qz l:=qc7 hr hc
theorem F2_doc {l:List Ru} (ha:l.all qK=true) (ro ti la x y:Int):F2 l ro ti la x y=qbt (ZC (fun r=>Yl r ro ti la&&hasB r.boxes ⟨x,y⟩) l):=by
 unfold F2
 rw [qbz ha]
 rfl
theorem F2_prog {l:List Ru} (ha:l.all qK=true) (ro ti la x y:Int):F2 l ro ti la x y=qbt (ZC (fun r=>true&&hasB r.boxes ⟨x,y⟩) (Ja l ro ti la)):=by
 unfold F2
 rw [qit ha]
 rfl
theorem KG {l:List Ru} (ha:l.all qK=true) (ro ti la:Int):Can.Form (F2 l ro ti la) (JJ l ro ti la):=by
 have hG:=F2_prog ha ro ti la
 have mx:∀ d,∀ c∈qz (Ja l ro ti la),lo d c∈Q0 (Ja l ro ti la) d∧hi d c+1∈Q0 (Ja l ro ti la) d:=fun d c hc=>⟨((vN _).2 _).2 (qaO.2 ⟨c,hc,.inl rfl⟩),((vN _).2 _).2 (qaO.2 ⟨c,hc,.inr rfl⟩)⟩
 have hl:∀ y x,qaF (Ja l ro ti la) y x=F2 l ro ti la x y:=fun y x=>by
  unfold F2 qaF
  rw [qit ha]
 have hR:Can.Rows (F2 l ro ti la) (ZT (Ja l ro ti la) (Q0 (Ja l ro ti la) false)):=fun y=>by
  have e:qaF (Ja l ro ti la) y=fun x=>F2 l ro ti la x y:=funext fun x=>hl y x
  unfold ZT
  rw [e]
  exact (cutsX hG (vN _).1 (fun r hr c hc=>mx false c (qaA hr hc)) y).can
 exact (cutsY hG (vN _).1 (fun r hr c hc=>mx true c (qaA hr hc))).form hR
theorem qdE {l:List Ru} {ro ti la:Int} {p:Pt} (h:jS l ro ti la p≠0):fits p=true:=by
 by_cases ha:l.all qK=true
 ·rw [qbz ha] at h
  by_cases hn:∀ r∈l,yj ro ti la p r=false
  ·exact absurd (Jj hn) h
  ·simp only [Classical.not_forall] at hn
   obtain ⟨r,hr,hf⟩:=hn
   have hf:yj ro ti la p r=true:=by simpa using hf
   unfold yj at hf
   simp at hf
   exact qen hf.2
 ·unfold jS at h
  rw [if_neg ha] at h
  exact absurd rfl h
theorem qax {l:List Ru} {ro ti la:Int} {o:List (Rc Int)} (h:Can.Form (F2 l ro ti la) o):∀ q∈o,qo (Qh q)=true∧1≤q.z∧q.z≤16:=fun q hq=>by
 obtain ⟨h1,h2⟩:=h.corner hq
 have h3:=h.le hq
 obtain ⟨e1,hz⟩:=Yf.1 h1
 obtain ⟨e2,_⟩:=Yf.1 h2
 have f1:=qdE (l:=l) (ro:=ro) (ti:=ti) (la:=la) (p:=⟨q.x0,q.y0⟩) (by rw [e1]; exact hz)
 have f2:=qdE (l:=l) (ro:=ro) (ti:=ti) (la:=la) (p:=⟨q.x1,q.y1⟩) (by rw [e2]; exact hz)
 have hr:=JB l ro ti la ⟨q.x0,q.y0⟩
 rw [e1] at hr
 unfold fits inside at f1 f2
 simp at f1 f2
 refine ⟨qP.2 ?_,by omega,hr.2⟩
 simp only [Qh]
 omega
theorem has_at {q:Rc Int} (hr:qo (Qh q)=true) {p:Pt}:zU (Qh q) p=true↔atR q p.x p.y:=by
 rw [jT]
 unfold atR Qh at *
 simp only [hr,true_and]
 omega
theorem zoomP_eq {l:List Ru} {ro ti la:Int} {o:List (Rc Int)} (h:Can.Form (F2 l ro ti la) o) (p:Pt):qaY o p=jS l ro ti la p:=by
 unfold qaY
 cases hf:o.find? fun q=>zU (Qh q) p with
 | some q =>
  have hq:=List.mem_of_find?_eq_some hf
  have hh:=List.find?_some hf
  simp only at hh ⊢
  have:=(h.iff p.x p.y q.z).2 ⟨q,hq,(has_at (qax h q hq).1).1 hh,rfl⟩
  exact (Yf.1 this).1.symm
 | none =>
  have hn:=List.find?_eq_none.1 hf
  simp only
  cases hz:F2 l ro ti la p.x p.y with
  | none=>exact (qbK.1 hz).symm
  | some z =>
   obtain ⟨q,hq,ha,_⟩:=(h.iff p.x p.y z).1 hz
   exact absurd ((has_at (qax h q hq).1).2 ha) (hn q hq)
def cnt (P:Int→Int→Bool):Nat:=Zi (fun y=>Zi (fun x=>if P x y then 1 else 0) 65536) 65536
theorem qkf {P Q:Int→Int→Bool} (h:∀ x y,P x y=Q x y):cnt P=cnt Q:=by
 have:P=Q:=funext fun x=>funext fun y=>h x y
 rw [this]
theorem cnt_add {P Q R:Int→Int→Bool} (h:∀ x y,((if P x y then 1 else 0):Nat)=(if Q x y then 1 else 0)+(if R x y then 1 else 0)):cnt P=cnt Q+cnt R:=by
 unfold cnt
 rw [← qb5]
 refine Zx fun k _ => ?_
 rw [← qb5]
 exact Zx fun j _=>h _ _
theorem sum2_le {n:Nat} {P Q:Int→Int→Nat} (h:∀ x y,P x y≤Q x y):Zi (fun y=>Zi (fun x=>P x y) n) n≤Zi (fun y=>Zi (fun x=>Q x y) n) n:=qbA fun y _=>qbA fun x _=>h x y
theorem cnt_le {P Q:Int→Int→Bool} (h:∀ x y,((if P x y then 1 else 0):Nat)≤if Q x y then 1 else 0):cnt P≤cnt Q:=sum2_le h
theorem qfZ {g:Int→Nat} {n:Nat}:Zi g n=0↔∀ k:Nat,k<n→g k=0:=by
 constructor
 ·intro h k hk
  exact (qb4 (g:=fun _=>0) (h:=g) (n:=n) (fun _ _=>Nat.zero_le _) (by rw [h]; exact Nat.zero_le _) k hk).symm
 ·intro h
  rw [Zx (h:=fun _=>0) h,qal]
theorem qfu {P:Int→Int→Bool}:cnt P=0↔∀ y:Nat,y<65536→∀ x:Nat,x<65536→P x y=false:=by
 unfold cnt
 rw [qfZ]
 refine forall_congr' fun y=>forall_congr' fun _ => ?_
 rw [qfZ]
 refine forall_congr' fun x=>forall_congr' fun _ => ?_
 cases P x y <;> simp
def inR (r:Re) (x y:Int):Bool:=decide ((r.x0≤x∧x≤r.x1)∧r.y0≤y∧y≤r.y1)
theorem yY {r:Re} {x y:Int}:inR r x y=true↔(r.x0≤x∧x≤r.x1)∧r.y0≤y∧y≤r.y1:=by simp [inR]
theorem qfv {r:Re} (hr:qo r=true):cnt (inR r)=QU r:=by
 have h:=qP.1 hr
 unfold cnt QU
 rw [if_pos hr]
 have e:∀ y:Nat,y<65536→Zi (fun x=>if inR r x y then 1 else 0) 65536=if r.y0≤(y:Int)∧(y:Int)≤r.y1 then (r.x1 - r.x0+1).toNat else 0:=fun y _=>by
  by_cases hy:r.y0≤(y:Int)∧(y:Int)≤r.y1
  ·rw [if_pos hy]
   have:=qiB (a:=r.x0) (b:=r.x1) (c:=1) (n:=65536) (by omega) (by omega) (by omega)
   rw [Nat.mul_one] at this
   rw [← this]
   refine Zx fun x _ => ?_
   simp [inR,hy]
  ·rw [if_neg hy]
   rw [Zx (h:=fun _=>0) fun x _ => ?_,qal]
   simp only [inR]
   simp
   intro _ _ h3
   omega
 rw [Zx (h:=fun y=>if r.y0≤y∧y≤r.y1 then (r.x1 - r.x0+1).toNat else 0) e,qiB (by omega) (by omega) (by omega),← Int.toNat_mul (by omega) (by omega),Int.mul_comm]
theorem in_meet {a b:Re} {x y:Int}:inR (Vz a b) x y=(inR a x y&&inR b x y):=by
 rw [Bool.eq_iff_iff,Bool.and_eq_true,yY,yY,yY]
 simp only [Vz]
 omega
theorem qcB {a b:Re} (ha:qo a=true) (hb:qo b=true) {x y:Int} (h1:inR a x y=true) (h2:inR b x y=true):zx a b=true:=by
 have h1:=yY.1 h1
 have h2:=yY.1 h2
 simp only [zx,ha,hb,Bool.true_and,decide_eq_true_iff]
 omega
theorem meets_pt {a b:Re} (h:zx a b=true):∃ x y,inR a x y=true∧inR b x y=true:=by
 have h1:=h
 simp only [zx,Bool.and_eq_true,decide_eq_true_iff] at h1
 obtain ⟨⟨ha,hb⟩,h2⟩:=h1
 have ha:=qP.1 ha
 have hb:=qP.1 hb
 refine ⟨max a.x0 b.x0,max a.y0 b.y0,yY.2 ?_,yY.2 ?_⟩ <;> omega
def unc (r:Re) (qs:List (Rc Int)) (x y:Int):Bool:=inR r x y && !(qs.any fun q=>inR (Qh q) x y)
theorem unc_step {r:Re} (hr:qo r=true) {qs:List (Rc Int)} {q:Rc Int} (hq:qo (Qh q)=true) (hap:∀ p∈qs,p.x1<q.x0∨p.y1<q.y0) :
  cnt (unc r qs)=cnt (unc r (qs ++ [q]))+(if zx (Qh q) r then QU (Vz (Qh q) r) else 0):=by
 have h1:cnt (unc r qs)=cnt (unc r (qs ++ [q]))+cnt (fun x y=>inR (Qh q) x y&&inR r x y):=cnt_add fun x y=>by
  unfold unc
  cases e1:inR r x y with
  | false=>simp
  | true =>
   cases e2:inR (Qh q) x y with
   | false=>simp [e2]
   | true =>
    have hno:(qs.any fun q=>inR (Qh q) x y)=false:=by
     rw [Bool.eq_false_iff]
     intro e
     obtain ⟨p,hp,hpi⟩:=List.any_eq_true.1 e
     have h3:=yY.1 hpi
     have h4:=yY.1 e2
     have:=hap p hp
     simp only [Qh] at h3 h4
     omega
    simp [e2,hno]
 have h2:cnt (fun x y=>inR (Qh q) x y&&inR r x y)=if zx (Qh q) r then QU (Vz (Qh q) r) else 0:=by
  cases hm:zx (Qh q) r with
  | true =>
   rw [if_pos rfl,← qfv ((qgC hq hr).trans hm)]
   exact qkf fun x y=>in_meet.symm
  | false =>
   rw [if_neg (by decide),qfu]
   intro y _ x _
   rw [Bool.eq_false_iff]
   intro e
   rw [Bool.and_eq_true] at e
   rw [qcB hq hr e.1 e.2] at hm
   cases hm
 rw [h1,h2]
theorem unc_le (r:Re) (hr:qo r=true) (qs:List (Rc Int)):cnt (unc r qs)≤4294967296:=by
 have h1:cnt (unc r qs)≤cnt (inR r):=cnt_le fun x y=>by
  unfold unc
  cases inR r x y <;> cases (qs.any fun q=>inR (Qh q) x y) <;> simp
 rw [qfv hr] at h1
 have:=area_le r
 omega
theorem qiX {r:Re} (hr:qo r=true):∀ (qs done:List (Rc Int)) (z:Int),(∀ q∈qs,qo (Qh q)=true)→(done++qs).Pairwise (fun p q=>p.x1<q.x0∨p.y1<q.y0) →
  (qs.foldl (ofS r) ((cnt (unc r done):Nat),z)).1=(cnt (unc r (done++qs)):Nat)
 | [],done,z,_,_=>by simp
 | q::qs,done,z,hq,hp=>by
  have hst:=unc_step hr (qs:=done) (hq q (by simp)) (fun p hpm=>(List.pairwise_append.1 hp).2.2 p hpm q (by simp))
  have e:done++q::qs=(done ++ [q])++qs:=by simp
  have ih:=fun z=>qiX hr qs (done ++ [q]) z (fun p hpm=>hq p (by simp [hpm])) (by rw [← e]; exact hp)
  have hle:=unc_le r hr (done ++ [q])
  have hle2:=unc_le r hr done
  rw [List.foldl_cons,e]
  unfold ofS
  cases hm:zx (Qh q) r with
  | true =>
   rw [hm,if_pos rfl] at hst
   rw [if_pos rfl]
   simp only
   have w:IntKind.u64.wrap (((cnt (unc r done):Nat):Int) - (QU (Vz (Qh q) r):Nat))=((cnt (unc r (done ++ [q])):Nat):Int):=by
    rw [hst]
    have:(((cnt (unc r (done ++ [q]))+QU (Vz (Qh q) r):Nat):Int) - (QU (Vz (Qh q) r):Nat))=((cnt (unc r (done ++ [q])):Nat):Int):=by omega
    rw [this]
    rw [wrap_u64] <;> omega
   rw [w]
   exact ih _
  | false =>
   rw [hm,if_neg (by decide),Nat.add_zero] at hst
   rw [if_neg (by decide),hst]
   exact ih _
theorem qgy {r:Re}:∀ (qs:List (Rc Int)) (s:Int×Int),((qs.foldl (ofS r) s).2≤s.2∧∀ q∈qs,zx (Qh q) r=true→(qs.foldl (ofS r) s).2≤q.z)∧((qs.foldl (ofS r) s).2=s.2∨∃ q∈qs,zx (Qh q) r=true∧(qs.foldl (ofS r) s).2=q.z)
 | [],s=>by simp
 | q::qs,s=>by
  obtain ⟨⟨h1,h2⟩,h3⟩:=qgy qs (ofS r s q)
  rw [List.foldl_cons]
  cases hm:zx (Qh q) r with
  | false =>
   have e:ofS r s q=s:=by simp [ofS,hm]
   rw [e] at h1 h2 h3 ⊢
   refine ⟨⟨h1,fun p hp hpm => ?_⟩,?_⟩
   ·rcases List.mem_cons.1 hp with rfl | hp
    ·rw [hm] at hpm; cases hpm
    ·exact h2 p hp hpm
   ·rcases h3 with h3 | ⟨p,hp,h4⟩
    ·exact .inl h3
    ·exact .inr ⟨p,by simp [hp],h4⟩
  | true =>
   have e:(ofS r s q).2=if q.z<s.2 then q.z else s.2:=by simp [ofS,hm]
   rw [e] at h1 h3
   generalize (qs.foldl (ofS r) (ofS r s q)).2=m at *
   refine ⟨⟨by split at h1 <;> omega,fun p hp hpm => ?_⟩,?_⟩
   ·rcases List.mem_cons.1 hp with rfl | hp
    ·split at h1 <;> omega
    ·exact h2 p hp hpm
   ·rcases h3 with h3 | ⟨p,hp,h4⟩
    ·split at h3
     ·exact .inr ⟨q,by simp,hm,h3⟩
     ·exact .inl h3
    ·exact .inr ⟨p,by simp [hp],h4⟩
def IsOf (l:List Ru) (ro ti la:Int) (r:Re) (z:Int):Prop:=(∀ x y,inR r x y=true→z≤jS l ro ti la ⟨x,y⟩)∧∃ x y,inR r x y=true∧jS l ro ti la ⟨x,y⟩=z
theorem IsOf.uniq {l:List Ru} {ro ti la:Int} {r:Re} {z z':Int} (h:IsOf l ro ti la r z) (k:IsOf l ro ti la r z'):z=z':=by
 obtain ⟨h1,x,y,h2,h3⟩:=h
 obtain ⟨k1,x',y',k2,k3⟩:=k
 have:=h1 x' y' k2
 have:=k1 x y h2
 omega
theorem ofP_is {l:List Ru} {ro ti la:Int} {o:List (Rc Int)} (h:Can.Form (F2 l ro ti la) o) {r:Re} (hr:qo r=true):IsOf l ro ti la r (ofP o r):=by
 have hri:=qP.1 hr
 have hpr:=qax h
 have hL:=qiX hr o [] 16 (fun q hq=>(hpr q hq).1) h.apart
 have e0:unc r []=inR r:=funext fun x=>funext fun y=>by simp [unc]
 rw [e0,qfv hr,List.nil_append] at hL
 obtain ⟨⟨hM1,hM2⟩,hM3⟩:=qgy (r:=r) o ((QU r:Nat),16)
 unfold ofP
 rw [hL]
 simp only at hM1 hM3
 generalize (o.foldl (ofS r) ((QU r:Nat),16)).2=m at *
 have hcov:∀ x y q,q∈o→inR (Qh q) x y=true→jS l ro ti la ⟨x,y⟩=q.z:=fun x y q hq hi=>by
  have hi:=yY.1 hi
  simp only [Qh] at hi
  exact (Yf.1 ((h.iff x y q.z).2 ⟨q,hq,⟨hi.1.1,hi.1.2,hi.2.1,hi.2.2⟩,rfl⟩)).1
 split
 ·rename_i hp
  have hne:cnt (unc r o)≠0:=by omega
  refine ⟨fun x y _=>(JB l ro ti la ⟨x,y⟩).1,?_⟩
  apply Classical.byContradiction
  intro hno
  apply hne
  rw [qfu]
  intro y hy x hx
  rw [Bool.eq_false_iff]
  intro e
  unfold unc at e
  rw [Bool.and_eq_true] at e
  apply hno
  refine ⟨x,y,e.1,?_⟩
  refine qbK.1 ?_
  cases hz:F2 l ro ti la x y with
  | none=>rfl
  | some z =>
   obtain ⟨q,hq,ha,_⟩:=(h.iff _ _ z).1 hz
   have:(o.any fun q=>inR (Qh q) x y)=true:=List.any_eq_true.2 ⟨q,hq,yY.2 ⟨⟨ha.1,ha.2.1⟩,ha.2.2.1,ha.2.2.2⟩⟩
   rw [this] at e
   simp at e
 ·rename_i hp
  have hc0:cnt (unc r o)=0:=by omega
  have hall:∀ x y,inR r x y=true→∃ q∈o,inR (Qh q) x y=true:=fun x y hi=>by
   have hi':=yY.1 hi
   have:=qfu.1 hc0 y.toNat (by omega) x.toNat (by omega)
   rw [Int.toNat_of_nonneg (by omega),Int.toNat_of_nonneg (by omega)] at this
   unfold unc at this
   rw [hi] at this
   simp at this
   exact this
  refine ⟨fun x y hi => ?_,?_⟩
  ·obtain ⟨q,hq,hqi⟩:=hall x y hi
   rw [hcov x y q hq hqi]
   exact hM2 q hq (qcB (hpr q hq).1 hr hqi hi)
  ·rcases hM3 with hM3 | ⟨q,hq,hqm,hM3⟩
   ·have hi:inR r r.x0 r.y0=true:=yY.2 (by omega)
    obtain ⟨q,hq,hqi⟩:=hall _ _ hi
    refine ⟨_,_,hi,?_⟩
    rw [hcov _ _ q hq hqi]
    have h1:=hM2 q hq (qcB (hpr q hq).1 hr hqi hi)
    have h2:=(hpr q hq).2
    omega
   ·obtain ⟨x,y,h1,h2⟩:=meets_pt hqm
    exact ⟨x,y,h2,by rw [hcov x y q hq h1,hM3]⟩
theorem qd5 {l:List Ru} {ro ti la:Int} {r:Re} {x:Int}:∀ (ys:List Int) (z:Int),(VR l ro ti la r ys z x≤z∧∀ y∈ys,zU r ⟨x,y⟩=true→VR l ro ti la r ys z x≤jS l ro ti la ⟨x,y⟩)∧(VR l ro ti la r ys z x=z∨∃ y∈ys,zU r ⟨x,y⟩=true∧VR l ro ti la r ys z x=jS l ro ti la ⟨x,y⟩)
 | [],z=>by simp [VR]
 | y::ys,z=>by
  obtain ⟨⟨h1,h2⟩,h3⟩:=qd5 (x:=x) ys (qfd l ro ti la r z ⟨x,y⟩)
  have e:VR l ro ti la r (y::ys) z x=VR l ro ti la r ys (qfd l ro ti la r z ⟨x,y⟩) x:=rfl
  rw [e]
  generalize VR l ro ti la r ys (qfd l ro ti la r z ⟨x,y⟩) x=m at *
  unfold qfd at h1 h3
  cases hr:zU r ⟨x,y⟩ with
  | false =>
   rw [hr] at h1 h3
   simp only [Bool.false_and,Bool.false_eq_true,if_false] at h1 h3
   refine ⟨⟨h1,fun y' hy hh => ?_⟩,?_⟩
   ·rcases List.mem_cons.1 hy with rfl | hy
    ·rw [hr] at hh; cases hh
    ·exact h2 y' hy hh
   ·rcases h3 with h3 | ⟨y',hy,h4⟩
    ·exact .inl h3
    ·exact .inr ⟨y',by simp [hy],h4⟩
  | true =>
   rw [hr] at h1 h3
   simp only [Bool.true_and,decide_eq_true_iff] at h1 h3
   refine ⟨⟨by split at h1 <;> omega,fun y' hy hh => ?_⟩,?_⟩
   ·rcases List.mem_cons.1 hy with rfl | hy
    ·split at h1 <;> omega
    ·exact h2 y' hy hh
   ·rcases h3 with h3 | ⟨y',hy,h4⟩
    ·split at h3
     ·exact .inr ⟨y,by simp,hr,h3⟩
     ·exact .inl h3
    ·exact .inr ⟨y',by simp [hy],h4⟩
theorem qcy {l:List Ru} {ro ti la:Int} {r:Re} {ys:List Int}:∀ (xs:List Int) (z:Int),(xs.foldl (VR l ro ti la r ys) z≤z∧∀ x∈xs,∀ y∈ys,zU r ⟨x,y⟩=true→xs.foldl (VR l ro ti la r ys) z≤jS l ro ti la ⟨x,y⟩) ∧
  (xs.foldl (VR l ro ti la r ys) z=z∨∃ x∈xs,∃ y∈ys,zU r ⟨x,y⟩=true∧xs.foldl (VR l ro ti la r ys) z=jS l ro ti la ⟨x,y⟩)
 | [],z=>by simp
 | x::xs,z=>by
  obtain ⟨⟨h1,h2⟩,h3⟩:=qcy (ys:=ys) xs (VR l ro ti la r ys z x)
  obtain ⟨⟨k1,k2⟩,k3⟩:=qd5 (l:=l) (ro:=ro) (ti:=ti) (la:=la) (r:=r) (x:=x) ys z
  rw [List.foldl_cons]
  generalize xs.foldl (VR l ro ti la r ys) (VR l ro ti la r ys z x)=m at *
  generalize VR l ro ti la r ys z x=n at *
  refine ⟨⟨by omega,fun x' hx y hy hh => ?_⟩,?_⟩
  ·rcases List.mem_cons.1 hx with rfl | hx
   ·have:=k2 y hy hh
    omega
   ·exact h2 x' hx y hy hh
  ·rcases h3 with h3 | ⟨x',hx,y,hy,hh,h4⟩
   ·rcases k3 with k3 | ⟨y,hy,hh,k4⟩
    ·exact .inl (by omega)
    ·exact .inr ⟨x,by simp,y,hy,hh,by omega⟩
   ·exact .inr ⟨x',by simp [hx],y,hy,hh,h4⟩
theorem qcM:∀ {xs:List Int} {x:Int},(∃ c∈xs,c≤x)→∃ g∈xs,g≤x∧∀ c∈xs,c≤x↔c≤g
 | [],x,h=>by
  obtain ⟨c,hc,_⟩:=h
  cases hc
 | c::xs,x,h=>by
  by_cases hr:∃ d∈xs,d≤x
  ·obtain ⟨g,hg,h1,h2⟩:=qcM hr
   by_cases hc:c≤x∧g<c
   ·refine ⟨c,by simp,hc.1,fun d hd => ?_⟩
    rcases List.mem_cons.1 hd with rfl | hd
    ·omega
    ·have:=h2 d hd
     omega
   ·refine ⟨g,by simp [hg],h1,fun d hd => ?_⟩
    rcases List.mem_cons.1 hd with rfl | hd
    ·omega
    ·exact h2 d hd
  ·obtain ⟨d,hd,hdx⟩:=h
   have hdc:d=c:=by
    rcases List.mem_cons.1 hd with e | hd
    ·exact e
    ·exact absurd ⟨d,hd,hdx⟩ hr
   subst hdc
   refine ⟨d,by simp,hdx,fun e he => ?_⟩
   rcases List.mem_cons.1 he with rfl | he
   ·omega
   ·constructor
    ·intro h; exact absurd ⟨e,he,h⟩ hr
    ·intro h; omega
theorem qhr {l:List Ru} {ro ti la x y x' y':Int} (h:F2 l ro ti la x y=F2 l ro ti la x' y'):jS l ro ti la ⟨x,y⟩=jS l ro ti la ⟨x',y'⟩:=by
 cases e:F2 l ro ti la x y with
 | none =>
  rw [qbK.1 e,qbK.1 (h.symm.trans e)]
 | some z =>
  rw [(Yf.1 e).1,(Yf.1 (h.symm.trans e)).1]
theorem ofR_is {l:List Ru} (ha:l.all qK=true) {ro ti la:Int} {r:Re} (hr:qo r=true):IsOf l ro ti la r (qdu l ro ti la r):=by
 have hri:=qP.1 hr
 have hG:=F2_doc ha ro ti la
 have mx:∀ d,∀ c∈qz l ++ [r],lo d c∈zI (qz l ++ [r]) d∧hi d c+1∈zI (qz l ++ [r]) d:=fun d c hc=>⟨((Ya _ d).2 _).2 (.inr (.inr ⟨c,hc,.inl rfl⟩)),((Ya _ d).2 _).2 (.inr (.inr ⟨c,hc,.inr rfl⟩))⟩
 have mb:∀ d,∀ u∈l,∀ c∈u.boxes,lo d c∈zI (qz l ++ [r]) d∧hi d c+1∈zI (qz l ++ [r]) d:=fun d u hu c hc=>mx d c (by simp [qaA hu hc])
 have hx:=fun y=>cutsX hG (Ya (qz l ++ [r]) false).1 (mb false) y
 have hy:=cutsY hG (Ya (qz l ++ [r]) true).1 (mb true)
 have rx:r.x0∈zI (qz l ++ [r]) false:=(mx false r (by simp)).1
 have ry:r.y0∈zI (qz l ++ [r]) true:=(mx true r (by simp)).1
 unfold qdu
 generalize zI (qz l ++ [r]) false=xs at *
 generalize zI (qz l ++ [r]) true=ys at *
 obtain ⟨⟨h1,h2⟩,h3⟩:=qcy (l:=l) (ro:=ro) (ti:=ti) (la:=la) (r:=r) (ys:=ys) xs 16
 generalize xs.foldl (VR l ro ti la r ys) 16=m at *
 have hh:∀ x y,zU r ⟨x,y⟩=true↔inR r x y=true:=fun x y=>by
  rw [jT,yY]
  simp [hr]
 refine ⟨fun x y hi => ?_,?_⟩
 ·have hi:=yY.1 hi
  obtain ⟨gx,m1,m2,m3⟩:=qcM (xs:=xs) (x:=x) ⟨_,rx,hi.1.1⟩
  obtain ⟨gy,n1,n2,n3⟩:=qcM (xs:=ys) (x:=y) ⟨_,ry,hi.2.1⟩
  have q1:=(m3 _ rx).1 hi.1.1
  have q2:=(n3 _ ry).1 hi.2.1
  have e1:F2 l ro ti la x y=F2 l ro ti la gx y:=(hx y).same x gx m3
  have e2:F2 l ro ti la gx y=F2 l ro ti la gx gy:=hy.same gx y gy n3
  rw [qhr (e1.trans e2)]
  exact h2 gx m1 gy n1 ((hh _ _).2 (yY.2 (by omega)))
 ·rcases h3 with h3 | ⟨x,hx,y,hy,hxy,h4⟩
  ·have hc:inR r r.x0 r.y0=true:=yY.2 (by omega)
   have h5:=h2 _ rx _ ry ((hh _ _).2 hc)
   have h6:=JB l ro ti la ⟨r.x0,r.y0⟩
   exact ⟨_,_,hc,by omega⟩
  ·exact ⟨x,y,(hh _ _).1 hxy,h4.symm⟩
theorem of_doc {l:List Ru} (ha:l.all qK=true) {ro ti la:Int} {r:Re} (hr:qo r=true):ofP (JJ l ro ti la) r=qdu l ro ti la r:=(ofP_is (KG ha ro ti la) hr).uniq (ofR_is ha hr)
theorem forU_no {r:Ru} {ro ti la:Int} (h:yC ro ti la=false):Yl r ro ti la=false:=by
 simp [Yl,h]
theorem qbL {l:List Ru} {ro ti la:Int} (h:yC ro ti la=false) (p:Pt):jS l ro ti la p=0:=by
 by_cases ha:l.all qK=true
 ·rw [qbz ha]
  exact Jj fun r _=>by simp [yj,forU_no h]
 ·unfold jS
  rw [if_neg ha]
end Go.Proofs.YtnconfggojpkcaaGreat
namespace Go.Proofs.YtnconfggojpkcaaGreat
set_option linter.all false
open Go.RowKit AM
structure Gr where
 ops:Int
 zoom:Int
 box:Re
 void:Bool
 til:Int
def Gr.cs (g:Gr):List V := [.sc (.int .i64 g.ops),.sc (.int .i64 g.zoom),.sc (.int .i64 g.box.x0),.sc (.int .i64 g.box.y0),.sc (.int .i64 g.box.x1),.sc (.int .i64 g.box.y1),.sc (.bool g.void),.sc (.int .i64 g.til)]
structure Vw where
 ro:Int
 ti:Int
 g:Gr
def Vw.cs (v:Vw):List V := [.sc (.int .i64 v.ro),.sc (.int .i64 v.ti),.sc (.int .i64 v.g.ops),.sc (.int .i64 v.g.zoom),.sc (.int .i64 v.g.box.x0),.sc (.int .i64 v.g.box.y0),.sc (.int .i64 v.g.box.x1),.sc (.int .i64 v.g.box.y1),.sc (.bool v.g.void),.sc (.int .i64 v.g.til)]
structure Se where
 id:Int
 lv:Int
 box:Re
 deriving DecidableEq,Inhabited
def Se.cs (s:Se):List V := [.sc (.int .i64 s.id),.sc (.int .i64 s.lv),.sc (.int .i64 s.box.x0),.sc (.int .i64 s.box.y0),.sc (.int .i64 s.box.x1),.sc (.int .i64 s.box.y1)]
def qw:Se:=⟨0,0,0,0,0,0⟩
def seW (o:Option Se):V := .tup [.agg (o.getD qw).cs,.sc (.bool o.isSome)]
def KF (g:Gr):Bool:=decide (0≤g.ops∧g.ops≤31)&&decide (0≤g.zoom∧g.zoom≤16)&&decide (0≤g.til∧g.til≤4294967295)&&(if g.void then decide (g.box=⟨0,0,0,0⟩) else qo g.box)
def vC (v:Vw):Bool:=decide (0≤v.ro∧v.ro≤7)&&decide (0≤v.ti∧v.ti≤7)&&KF v.g
def lvl (v:Vw) (z:Int):Int:=if v.g.zoom<z then v.g.zoom else z
def Zz (v:Vw) (id lv:Int) (b:Re):Option Se:=if lv=0∨v.g.void=true∨inB b v.g.box=false then none else some ⟨id,lv,b⟩
def vR (Z:Pr→Int) (v:Vw) (t:Pr):Option Se:=if vC v&&fits t.at_ then Zz v t.id (lvl v (Z t)) (Qs (ofR t.at_ (lvl v (Z t))).1).1 else none
theorem qeO {v:Vw} (h:vC v=true):0≤v.g.zoom∧v.g.zoom≤16:=by
 simp only [vC,KF,Bool.and_eq_true,decide_eq_true_eq] at h
 omega
theorem qi0 {v:Vw} {z:Int} (h:vC v=true) (hz:0≤z∧z≤16):0≤lvl v z∧lvl v z≤16:=by
 have:=qeO h
 unfold lvl
 split <;> omega
theorem qdQ {Z:Pr→Int} {v:Vw} {t:Pr} {s:Se} (hZ:0≤Z t∧Z t≤16) (h:vR Z v t=some s):vC v=true∧fits t.at_=true∧s.id=t.id∧s.lv=lvl v (Z t)∧lvl v (Z t)≠0∧s.box=vJ (cellOf t.at_ (lvl v (Z t)))∧jG (lvl v (Z t))=true:=by
 unfold vR at h
 split at h
 ·rename_i hc
  simp only [Bool.and_eq_true] at hc
  have hl:=qi0 hc.1 hZ
  have hr:jG (lvl v (Z t))=true:=jJ.2 hl
  unfold Zz at h
  split at h
  ·cases h
  ·rename_i h0
   simp only [not_or] at h0
   cases h
   refine ⟨hc.1,hc.2,rfl,rfl,h0.1,?_,hr⟩
   have e:ofR t.at_ (lvl v (Z t))=(cellOf t.at_ (lvl v (Z t)),true):=by simp [ofR,hr,hc.2]
   have e2:Qs (cellOf t.at_ (lvl v (Z t)))=(vJ (cellOf t.at_ (lvl v (Z t))),true):=by simp [Qs,yw hc.2 hl.1 hl.2]
   simp only [e,e2]
 ·cases h
theorem qhF {r:Re} {p:Pt} {l:Int} (hr:qo r=true) (hp:fits p=true) (hl:jG l=true):zU (vV r l).1 p=zx (vJ (cellOf p l)) r:=by
 have hl':=jJ.1 hl
 have hs:=qb9 hl'.1 hl'.2
 have hb:=QH (yw hp hl'.1 hl'.2)
 have rp:=X5 hp
 have rr:=qP.1 hr
 have e:(vV r l).1=⟨side l*(r.x0/side l),side l*(r.y0/side l),side l*(r.x1/side l)+side l - 1,side l*(r.y1/side l)+side l - 1⟩:=by simp [vV,hl,hr,qiC hs.1]
 have hsr:qo (vV r l).1=true:=by
  have hf:=Vv hr
  have b1:=ZH (QH (yw hf.1 hl'.1 hl'.2))
  have b2:=ZH (QH (yw hf.2 hl'.1 hl'.2))
  have e1:vJ (cellOf r.lo l)=⟨side l*(r.x0/side l),side l*(r.y0/side l),side l*(r.x0/side l)+side l - 1,side l*(r.y0/side l)+side l - 1⟩:=rfl
  have e2:vJ (cellOf r.hi l)=⟨side l*(r.x1/side l),side l*(r.y1/side l),side l*(r.x1/side l)+side l - 1,side l*(r.y1/side l)+side l - 1⟩:=rfl
  rw [e1] at b1
  rw [e2] at b2
  simp only at b1 b2
  have m1:side l*(r.x0/side l)≤side l*(r.x1/side l):=Int.mul_le_mul_of_nonneg_left (Int.ediv_le_ediv hs.1 rr.1.2.1) (by omega)
  have m2:side l*(r.y0/side l)≤side l*(r.y1/side l):=Int.mul_le_mul_of_nonneg_left (Int.ediv_le_ediv hs.1 rr.2.2.1) (by omega)
  rw [e]
  refine qP.2 ?_
  simp only
  omega
 have key:∀ a b x:Int,(side l*(a/side l)≤x∧x≤side l*(b/side l)+side l - 1)↔(side l*(x/side l)≤b∧a≤side l*(x/side l)+side l - 1):=by
  intro a b x
  have h0:=hs.1
  have qa:=Int.emod_add_mul_ediv a (side l)
  have qb:=Int.emod_add_mul_ediv b (side l)
  have qx:=Int.emod_add_mul_ediv x (side l)
  have na:=Int.emod_nonneg a (Int.ne_of_gt h0)
  have nb:=Int.emod_nonneg b (Int.ne_of_gt h0)
  have nx:=Int.emod_nonneg x (Int.ne_of_gt h0)
  have la:=Int.emod_lt_of_pos a h0
  have lb:=Int.emod_lt_of_pos b h0
  have lx:=Int.emod_lt_of_pos x h0
  have c1:a/side l≤x/side l↔side l*(a/side l)≤x:=by
   rw [Int.le_ediv_iff_mul_le h0,Int.mul_comm]
  have c2:x/side l≤b/side l↔side l*(x/side l)≤b:=by
   rw [Int.le_ediv_iff_mul_le h0,Int.mul_comm]
  have c3:x/side l≤b/side l↔x≤side l*(b/side l)+side l - 1:=by
   constructor
   ·intro h
    have:=Int.mul_le_mul_of_nonneg_left h (show 0≤side l by omega)
    omega
   ·intro h
    have:x/side l<b/side l+1:=by
     rw [Int.ediv_lt_iff_lt_mul h0,Int.add_mul,Int.one_mul,Int.mul_comm]
     omega
    omega
  have c4:a/side l≤x/side l↔a≤side l*(x/side l)+side l - 1:=by
   constructor
   ·intro h
    have:=Int.mul_le_mul_of_nonneg_left h (show 0≤side l by omega)
    omega
   ·intro h
    have:a/side l<x/side l+1:=by
     rw [Int.ediv_lt_iff_lt_mul h0,Int.add_mul,Int.one_mul,Int.mul_comm]
     omega
    omega
  rw [← c1,← c3,← c2,← c4,And.comm]
 have hm:zx (vJ (cellOf p l)) r=true↔(side l*(p.x/side l)≤r.x1∧r.x0≤side l*(p.x/side l)+side l - 1∧side l*(p.y/side l)≤r.y1∧r.y0≤side l*(p.y/side l)+side l - 1):=by
  unfold zx
  rw [hb,hr]
  simp only [Bool.and_self,Bool.true_and,decide_eq_true_iff]
  exact Iff.rfl
 rw [Bool.eq_iff_iff,jT,hsr,e,hm]
 simp only [true_and]
 have k1:=key r.x0 r.x1 p.x
 have k2:=key r.y0 r.y1 p.y
 constructor
 ·rintro ⟨h1,h2⟩
  have h1:=k1.1 h1
  have h2:=k2.1 h2
  omega
 ·rintro ⟨h1,h2,h3,h4⟩
  exact ⟨k1.2 ⟨h1,h2⟩,k2.2 ⟨h3,h4⟩⟩
def QK (x:Int×Se):Ent:=⟨x.1,0,x.2.id⟩
def lvls (v:Vw) (zs:List Int):List Int:=zs.filter fun z => !decide (lvl v z=0)
theorem QC {α β γ:Type} {f:α→Option β} {i:α→γ} {j:β→γ} (hf:∀ a b,f a=some b→j b=i a):∀ {l:List α},(l.map i).Nodup→((l.filterMap f).map j).Nodup
 | [],_=>by simp
 | a::l,h=>by
  rw [List.map_cons,List.nodup_cons] at h
  have ih:=QC hf h.2
  rw [List.filterMap_cons]
  cases hfa:f a with
  | none=>exact ih
  | some b =>
   simp only
   rw [List.map_cons,List.nodup_cons]
   refine ⟨fun hm => ?_,ih⟩
   obtain ⟨c,hc,e⟩:=List.mem_map.1 hm
   obtain ⟨a',ha',hfa'⟩:=List.mem_filterMap.1 hc
   exact h.1 (List.mem_map.2 ⟨a',ha',by rw [← hf _ _ hfa',e,hf _ _ hfa]⟩)
theorem map_inj {α γ:Type} {i:α→γ} {S:List α} (hn:(S.map i).Nodup) {x y:α} (hx:x∈S) (hy:y∈S) (h:i x=i y):x=y:=by
 induction S with
 | nil=>cases hx
 | cons a l ih =>
  rw [List.map_cons,List.nodup_cons] at hn
  rcases List.mem_cons.1 hx with hx | hx
  ·rcases List.mem_cons.1 hy with hy | hy
   ·rw [hx,hy]
   ·exact absurd (List.mem_map.2 ⟨y,hy,by rw [← h,hx]⟩) hn.1
  ·rcases List.mem_cons.1 hy with hy | hy
   ·exact absurd (List.mem_map.2 ⟨x,hx,by rw [h,hy]⟩) hn.1
   ·exact ih hn.2 hx hy
def ZX {α:Type} (see:α→Option Se) (key:Se→Int) (sub:Int→List α) (zs:List Int):List (Int×Se):=zs.flatMap fun z=>((sub z).filterMap see).map fun s=>(key s,s)
section
variable {α:Type} {i:α→Int} {see:α→Option Se} {key:Se→Int} {sub:Int→List α} {zs:List Int} {S:List α} {Z:α→Int}
theorem qat {x:Int×Se}:x∈ZX see key sub zs↔∃ z∈zs,∃ t∈sub z,see t=some x.2∧x.1=key x.2:=by
 unfold ZX
 simp only [List.mem_flatMap,List.mem_map,List.mem_filterMap]
 constructor
 ·rintro ⟨z,hz,s,⟨t,ht,h1⟩,rfl⟩
  exact ⟨z,hz,t,ht,h1,rfl⟩
 ·rintro ⟨z,hz,t,ht,h1,h2⟩
  exact ⟨z,hz,x.2,⟨t,ht,h1⟩,by rw [← h2]⟩
theorem V3 (hS:(S.map i).Nodup) (hs:∀ t s,see t=some s→s.id=i t) (hsub:∀ z∈zs,((sub z).map i).Nodup∧∀ t∈sub z,t∈S∧Z t=z) (hz:zs.Nodup):((ZX see key sub zs).map fun x=>x.2.id).Nodup:=by
 induction zs with
 | nil=>simp [ZX]
 | cons z zs ih =>
  rw [List.nodup_cons] at hz
  have ih:=ih (fun z hz=>hsub z (List.mem_cons_of_mem _ hz)) hz.2
  have e:ZX see key sub (z::zs)=(((sub z).filterMap see).map fun s=>(key s,s))++ZX see key sub zs:=by simp [ZX]
  rw [e,List.map_append,List.map_map]
  refine List.nodup_append.2 ⟨?_,ih,?_⟩
  ·exact QC (i:=i) (j:=fun s:Se=>s.id) hs (hsub z (List.mem_cons_self ..)).1
  ·intro a ha b hb hab
   subst hab
   obtain ⟨s,hs1,rfl⟩:=List.mem_map.1 ha
   obtain ⟨t,ht,hst⟩:=List.mem_filterMap.1 hs1
   obtain ⟨x,hx,e2⟩:=List.mem_map.1 hb
   obtain ⟨z',hz',t',ht',h1,_⟩:=qat.1 hx
   obtain ⟨m1,m2⟩:=(hsub z (List.mem_cons_self ..)).2 t ht
   obtain ⟨n1,n2⟩:=(hsub z' (List.mem_cons_of_mem _ hz')).2 t' ht'
   have e3:t=t':=map_inj hS m1 n1 (by rw [← hs _ _ hst,← hs _ _ h1]; exact e2.symm)
   subst e3
   rw [m2] at n2
   subst n2
   exact hz.1 hz'
end
def VA (X:List (Int×Se)) (i:Int):Se:=((X.find? fun x=>decide (x.2.id=i)).map (·.2)).getD qw
theorem qcD {X:List (Int×Se)} (hn:(X.map fun x=>x.2.id).Nodup) {x:Int×Se} (hx:x∈X):VA X x.2.id=x.2:=by
 unfold VA
 induction X with
 | nil=>cases hx
 | cons y X ih =>
  rw [List.map_cons,List.nodup_cons] at hn
  rcases List.mem_cons.1 hx with rfl | hx
  ·simp
  ·have hne:¬ y.2.id=x.2.id:=fun e=>hn.1 (List.mem_map.2 ⟨x,hx,e.symm⟩)
   rw [List.find?_cons_of_neg (by simpa using hne)]
   exact ih hn.2 hx
theorem qgU {X Y:List (Int×Se)} {hs:List Ent} (hn:(X.map fun x=>x.2.id).Nodup) (hY:Y.Perm X) (hs1:Srt hs) (hs2:hs.Perm (X.map QK)) (hp:Y.Pairwise fun a b=>(QK b).lt (QK a)=false) (m:Nat):(hs.take m).map (fun e=>VA X e.i)=(Y.take m).map (·.2):=by
 have e:hs=Y.map QK:=Jl hs1 (List.pairwise_map.2 hp) (hs2.trans (hY.map QK).symm)
 rw [e,← List.map_take,List.map_map]
 refine List.map_congr_left fun x hx => ?_
 exact qcD hn (hY.mem_iff.1 (List.mem_of_mem_take hx))
theorem qcQ {l:List Ent} (h:Srt l) (p:Ent→Bool):Srt (l.filter p):=List.Pairwise.sublist List.filter_sublist h
theorem qbq {α:Type} {l:List α} {p:α→Bool} {m:Nat} {x:α} (hx:x∈l.take m) (hp:p x=true):x∈(l.filter p).take m:=by
 have e:l.filter p=(l.take m).filter p++(l.drop m).filter p:=by rw [← List.filter_append,List.take_append_drop]
 rw [e,List.take_append]
 refine List.mem_append_left _ ?_
 rw [List.take_of_length_le]
 ·exact List.mem_filter.2 ⟨hx,hp⟩
 ·exact Nat.le_trans (List.length_filter_le _ _) (List.length_take_le _ _)
theorem qgB {Es:List Ent} {zs:List Int} {c:Ent→Int} {m:Nat} (hn:Es.Nodup) (hz:zs.Nodup) (hc:∀ e∈Es,c e∈zs) :
  (sort (zs.flatMap fun z=>(sort (Es.filter fun e=>decide (c e=z))).take m)).take m=(sort Es).take m:=by
 have hT:=Zn Es
 have hTp:=jD Es
 generalize sort Es=T at *
 have hTn:T.Nodup:=hTp.nodup_iff.2 hn
 have hcl:∀ z,sort (Es.filter fun e=>decide (c e=z))=T.filter fun e=>decide (c e=z):=fun z=>Jl (Zn _) (qcQ hT _) ((jD _).trans (hTp.symm.filter _))
 simp only [hcl]
 generalize hU:(zs.flatMap fun z=>(T.filter fun e=>decide (c e=z)).take m)=U
 have hmem:∀ e,e∈U↔∃ z∈zs,e∈(T.filter fun e=>decide (c e=z)).take m:=fun e=>by rw [← hU,List.mem_flatMap]
 have hUT:∀ e∈U,e∈T:=fun e he=>by
  obtain ⟨z,_,h⟩:=(hmem e).1 he
  exact (List.mem_filter.1 (List.mem_of_mem_take h)).1
 have hUn:U.Nodup:=by
  rw [← hU]
  clear hU hmem hUT hc
  induction zs with
  | nil=>simp
  | cons z zs ih =>
   rw [List.nodup_cons] at hz
   rw [List.flatMap_cons]
   refine List.nodup_append.2 ⟨((hTn.filter _).sublist (List.take_sublist _ _)),ih hz.2,fun a ha b hb hab => ?_⟩
   subst hab
   have h1:=(List.mem_filter.1 (List.mem_of_mem_take ha)).2
   obtain ⟨z',hz',h2⟩:=List.mem_flatMap.1 hb
   have h3:=(List.mem_filter.1 (List.mem_of_mem_take h2)).2
   simp only [decide_eq_true_eq] at h1 h3
   rw [h1] at h3
   subst h3
   exact hz.1 hz'
 have hq:sort U=T.filter fun e=>decide (e∈U):=by
  refine Jl (Zn _) (qcQ hT _) ((jD U).trans ?_)
  rw [List.perm_ext_iff_of_nodup hUn (hTn.filter _)]
  intro e
  rw [List.mem_filter,decide_eq_true_eq]
  exact ⟨fun h=>⟨hUT e h,h⟩,fun h=>h.2⟩
 have hall:(T.take m).filter (fun e=>decide (e∈U))=T.take m:=List.filter_eq_self.2 fun e he=>by
  rw [decide_eq_true_eq]
  refine (hmem e).2 ⟨c e,hc e (hTp.mem_iff.1 (List.mem_of_mem_take he)),qbq he (by simp)⟩
 have e:T.filter (fun e=>decide (e∈U))=T.take m++(T.drop m).filter fun e=>decide (e∈U):=by
  have h:=List.filter_append (p:=fun e=>decide (e∈U)) (T.take m) (T.drop m)
  rw [List.take_append_drop,hall] at h
  exact h
 rw [hq,e,List.take_append,List.take_take,Nat.min_self]
 by_cases hm:m≤T.length
 ·rw [List.length_take,Nat.min_eq_left hm,Nat.sub_self,List.take_zero,List.append_nil]
 ·rw [List.drop_eq_nil_of_le (by omega)]
  simp
end Go.Proofs.YtnconfggojpkcaaGreat
namespace Go.Proofs.YtnconfggojpkcaaGreat
set_option linter.all false
open Go.RowKit
open Go.ChangeShapes Go.WideShapes Go.Deep
namespace AM
theorem rel_len {I:Nat→Nat→Option Value} {φ:List Nat} {n sz:Nat} {cs:List V} {v:Value} (h:Rel I φ (.sl n sz cs) v):n≤maxLen:=by
 cases h with
 | sl _ _ _ h1 h2=>exact Nat.le_trans h1 h2
 | sl0=>exact Nat.zero_le _
theorem qcj {β:Type} {I:Nat→Nat→Option Value} {φ:List Nat} {f:β→List V} {g:β→List Value}:∀ {qs:List β},(∀ q∈qs,qI I φ (f q) (g q))→qI I φ (qs.flatMap f) (qs.flatMap g)
 | [],_ => .nil
 | q::qs,h=>by
  rw [List.flatMap_cons,List.flatMap_cons]
  exact qI.append (h q (by simp)) (qcj fun r hr=>h r (by simp [hr]))
end AM
section
variable {H:Type} {enc:TypeId×Value→H} {P:Program} {w:World} {base:Nat} {held:Bool}
end
end Go.Proofs.YtnconfggojpkcaaGreat
namespace Go.Proofs.YtnconfggojpkcaaGreat
set_option linter.all false
open Go.RowKit
open Go.ChangeShapes Go.WideShapes Go.Deep
section
variable {H:Type} {enc:TypeId×Value→H} {P:Program} {w:World} {base:Nat} {held:Bool}
def qaX {α:Type} (pr:α→DataW H→Prop) (xs:List α) (d:DataW H):Prop:=xs = []∨∃ es sp,d = .slice es sp∧es.length=xs.length∧∀ (i:Nat) (x:α) (e:DataW H),xs[i]? = some x→es[i]? = some e→pr x e
theorem qjD {α:Type} [Inhabited α] {t e:TypeId} {v:Value} {d:DataW H} {p:List MemPlace} {encV:α→List AM.V} {sz:Nat} (pr:α→DataW H→Prop) (ht:P.underlying t=some (.slice e)) (hsz:P.cellsOf e=sz) (h0:0<sz) (hlen:∀ x,(encV x).length=sz)
  (hα:∀ n cs y,DataW.trod enc P w base (fun _=>true) held n e cs=some y→cs.length=sz→∃ x:α,AM.qI (AM.said w) [] (encV x) cs∧(∀ u∈cs,u.oneCell'=true)∧pr x y.1)
  (hone:∃ a l c,v = .slice a l c) (h:DataW.Trod enc P w base (fun _=>true) held t v d p):∃ xs:List α,AM.Rel (AM.said w) [] (.sl xs.length sz (xs.flatMap encV)) v∧qaX pr xs d:=by
 obtain ⟨n,hn⟩:=h
 obtain ⟨A,L,C,rfl⟩:=hone
 rcases open_slice ht hn with ⟨h0',_⟩ | ⟨a,len,cap,m,n,D,Pl,hv,hb,hlc,hcm,hm,hxd,hx⟩
 ·simp [Value.cells] at h0'
  obtain ⟨rfl,rfl,rfl⟩:=h0'
  exact ⟨[],.sl0,.inl rfl⟩
 ·simp [Value.cells] at hv
  obtain ⟨rfl,rfl,rfl⟩:=hv
  have hlm:L≤m:=by rw [hm]; split <;> omega
  by_cases hC:C=0
  ·subst hC
   have:L=0:=by omega
   subst this
   exact ⟨[],.sl0,.inl rfl⟩
  have ha:∃ b o,a=⟨b,o,none⟩:=by
   obtain ⟨cs',q1,_⟩:=hx 0 (by rw [hm]; simp; omega)
   obtain ⟨_,hln,hci⟩:=World.cells?_some q1
   have:=hci 0 (by rw [hsz]; exact h0)
   rw [List.getElem?_eq_getElem (by omega)] at this
   obtain ⟨_,hsp⟩:=qdx (show w.cell? a=some _ by simpa [Addr.add] using this)
   obtain ⟨b,o,s⟩:=a
   cases hsp
   exact ⟨b,o,rfl⟩
  obtain ⟨b,o,rfl⟩:=ha
  haveI:Inhabited {q:α×List Value // q.2.length=sz}:=⟨⟨(default,List.replicate sz (.bool false)),by simp⟩⟩
  obtain ⟨f,hf⟩:=choose_lt (α := {q:α×List Value // q.2.length=sz}) (n:=L) (p:=fun i q=>w.cells? base (Addr.add ⟨b,o,none⟩ (i*P.cellsOf e)) (P.cellsOf e)=some q.1.2∧AM.qI (AM.said w) [] (encV q.1.1) q.1.2∧(∀ u∈q.1.2,u.oneCell'=true)∧pr q.1.1 (D i)) (fun i hi=>by
   obtain ⟨cs',h1,h2⟩:=hx i (by omega)
   have hcl:cs'.length=sz:=by rw [← hsz]; exact (World.cells?_some h1).2.1
   obtain ⟨x,h3,h4⟩:=hα _ _ _ h2 hcl
   exact ⟨⟨(x,cs'),hcl⟩,h1,h3,h4⟩)
  let qs:List {q:α×List Value // q.2.length=sz}:=(List.range L).map f
  have hq:∀ i q,qs[i]? = some q→i<L∧q=f i:=fun i q h=>by
   have hi:i<L:=by
    have:=(List.getElem?_eq_some_iff.1 h).1
    simpa [qs] using this
   simp [qs,hi] at h
   exact ⟨hi,h.symm⟩
  have hql:qs.length=L:=by simp [qs]
  have hmem:∀ q∈qs,AM.qI (AM.said w) [] (encV q.1.1) q.1.2∧(∀ u∈q.1.2,u.oneCell'=true):=fun q hm=>by
   obtain ⟨i,hi⟩:=List.getElem?_of_mem hm
   obtain ⟨h1,rfl⟩:=hq i q hi
   exact ⟨(hf i h1).2.1,(hf i h1).2.2.1⟩
  have hd:d = .slice ((List.range L).map D) ((List.range (m - L)).map fun j=>D (L+j)):=congrArg Prod.fst hxd
  refine ⟨qs.map fun q=>q.1.1,?_,.inr ⟨_,_,hd,by simp [hql],fun i x e hx he=>by
   rw [List.getElem?_map] at hx
   cases hqi:qs[i]? with
   | none=>rw [hqi] at hx; cases hx
   | some q =>
    rw [hqi] at hx
    obtain ⟨h1,rfl⟩:=hq i q hqi
    simp [h1] at hx he
    subst hx he
    exact (hf i h1).2.2.2⟩⟩
  rw [List.flatMap_map,List.length_map,hql]
  refine .sl (vs:=qs.flatMap fun q=>q.1.2) (AM.qcj fun q hm=>(hmem q hm).1) (fun j u hu => ?_) ?_ hlc hcm (fun u hu => ?_)
  ·obtain ⟨i,q,j',hi,hj',e'⟩:=qet (cells:=fun q : {q:α×List Value // q.2.length=sz}=>q.1.2) (sz:=sz) (fun q=>q.2) hu
   subst e'
   obtain ⟨h1,rfl⟩:=hq i q hi
   obtain ⟨_,hln,hci⟩:=World.cells?_some (hf i h1).1
   have hj:j'<P.cellsOf e:=by
    have:=(List.getElem?_eq_some_iff.1 hj').1
    rw [(f i).2] at this
    omega
   have:=hci j' hj
   rw [hj',show Addr.add ⟨b,o,none⟩ (i*P.cellsOf e)=⟨b,o+i*P.cellsOf e,none⟩ from addr_add rfl _,addr_add rfl,hsz,Nat.add_assoc] at this
   exact this
  ·rw [AM.Js (enc:=fun q : {q:α×List Value // q.2.length=sz}=>encV q.1.1) (fun q=>hlen _),hql]
  ·obtain ⟨q,hm2,hu2⟩:=List.mem_flatMap.1 hu
   exact (hmem q hm2).2 u hu2
theorem Xh {α:Type} [Inhabited α] {t e:TypeId} {cs:List Value} {y:DataW H×List MemPlace} {n:Nat} {encV:α→List AM.V} {sz:Nat} (pr:α→DataW H→Prop) (ht:P.underlying t=some (.slice e)) (hsz:P.cellsOf e=sz) (h0:0<sz) (hlen:∀ x,(encV x).length=sz)
  (hα:∀ n cs y,DataW.trod enc P w base (fun _=>true) held n e cs=some y→cs.length=sz→∃ x:α,AM.qI (AM.said w) [] (encV x) cs∧(∀ u∈cs,u.oneCell'=true)∧pr x y.1)
  (h:DataW.trod enc P w base (fun _=>true) held n t cs=some y):∃ v,∃ xs:List α,cs = [v]∧AM.Rel (AM.said w) [] (.sl xs.length sz (xs.flatMap encV)) v∧v.oneCell'=true∧qaX pr xs y.1:=by
 rcases open_slice ht h with ⟨rfl,_⟩ | ⟨a,len,cap,m,n',D,Pl,rfl,_⟩
 ·exact ⟨_,[],rfl,.sl0,rfl,.inl rfl⟩
 ·obtain ⟨xs,hx,hp⟩:=qjD pr (v := .slice (some a) len cap) (d:=y.1) (p:=y.2) ht hsz h0 hlen hα ⟨_,_,_,rfl⟩ ⟨n,by simpa [Value.cells] using h⟩
  exact ⟨_,xs,rfl,hx,rfl,hp⟩
end
end Go.Proofs.YtnconfggojpkcaaGreat
namespace Go.Proofs.YtnconfggojpkcaaGreat
set_option linter.all false
open Go.RowKit Go.ChangeShapes Go.WideShapes AM
set_option maxRecDepth 100000
section
variable {H:Type} {enc:TypeId×Value→H} {w:World} {base:Nat} {held:Bool} {r:Reach} {b0:Nat} {v:Value} {d:DataW H} {p:List MemPlace}
theorem qkg:Tryz.prog.cellsOf 3=1:=by kernel_rfl
theorem cRects:Tryz.prog.cellsOf 93=1:=by kernel_rfl
theorem re_rel {cs:List Value} {x:Re} (h:x.vals=cs):qI (said w) [] x.cs cs∧∀ u∈cs,u.oneCell'=true:=by
 subst h
 exact ⟨qbB (vs:=x.vals),fun u hu=>by
  simp only [Re.vals,List.mem_cons,List.not_mem_nil,or_false] at hu
  rcases hu with rfl | rfl | rfl | rfl <;> rfl⟩
end
section
variable {H:Type} {enc:TypeId×Value→H} {w:World} {base:Nat} {held:Bool} {r:Reach} {b0:Nat} {v:Value} {d:DataW H} {p:List MemPlace}
def RuD (x:Ru) (d:DataW H):Prop:=∃ parts e,d = .agg parts∧parts[5]? = some e∧qaX (fun (_:Re) (_:DataW H)=>True) x.boxes e
theorem qhO {n:Nat} {cs:List Value} {y:DataW H×List MemPlace} (h:DataW.trod enc Tryz.prog w base (fun _=>true) held n 93 cs=some y):∃ v,∃ xs:List Re,cs = [v]∧Rel (said w) [] (slR xs) v∧v.oneCell'=true∧qaX (fun (_:Re) (_:DataW H)=>True) xs y.1 :=
 Xh (fun _ _=>True) (encV:=Re.cs) (sz:=4) Tryz.underlying93 (by kernel_rfl) (by decide) (fun _=>rfl) (fun n cs y hy hl=>by
  obtain ⟨x,hx⟩:=WA (ZK 6 _ _ _ _ _ qgs hy)
  exact ⟨x,(re_rel (w:=w) hx).1,(re_rel (w:=w) hx).2,trivial⟩) h
theorem qjA {n:Nat} {cs:List Value} {y:DataW H×List MemPlace} (h:DataW.trod enc Tryz.prog w base (fun _=>true) held n 95 cs=some y) (hl:cs.length=7):∃ x:Ru,qI (said w) [] x.cs cs∧(∀ u∈cs,u.oneCell'=true)∧x.boxes.length≤maxLen∧RuD x y.1:=by
 obtain ⟨xs,m,_,hyd,_,hlen,hf⟩:=DataW.trod_struct Tryz.underlying95 h
 have hlen:xs.length=7:=hlen
 match cs,hl with
 | [c0,c1,c2,c3,c4,c5,c6],_ =>
  have g:∀ i,i<7→∃ y,xs[i]? = some y:=fun i hi=>⟨_,List.getElem?_eq_getElem (by omega)⟩
  obtain ⟨y0,e0⟩:=g 0 (by decide)
  have h0:DataW.trod enc Tryz.prog w base (fun _=>true) held m 3 (([c0,c1,c2,c3,c4,c5,c6].drop 0).take (Tryz.prog.cellsOf 3))=some y0:=(hf 0 _ rfl).trans e0
  rw [qkg] at h0
  simp only [List.drop,List.take] at h0
  obtain ⟨y1,e1⟩:=g 1 (by decide)
  have h1:DataW.trod enc Tryz.prog w base (fun _=>true) held m 3 (([c0,c1,c2,c3,c4,c5,c6].drop 1).take (Tryz.prog.cellsOf 3))=some y1:=(hf 1 _ rfl).trans e1
  rw [qkg] at h1
  simp only [List.drop,List.take] at h1
  obtain ⟨y2,e2⟩:=g 2 (by decide)
  have h2:DataW.trod enc Tryz.prog w base (fun _=>true) held m 3 (([c0,c1,c2,c3,c4,c5,c6].drop 2).take (Tryz.prog.cellsOf 3))=some y2:=(hf 2 _ rfl).trans e2
  rw [qkg] at h2
  simp only [List.drop,List.take] at h2
  obtain ⟨y3,e3⟩:=g 3 (by decide)
  have h3:DataW.trod enc Tryz.prog w base (fun _=>true) held m 3 (([c0,c1,c2,c3,c4,c5,c6].drop 3).take (Tryz.prog.cellsOf 3))=some y3:=(hf 3 _ rfl).trans e3
  rw [qkg] at h3
  simp only [List.drop,List.take] at h3
  obtain ⟨y4,e4⟩:=g 4 (by decide)
  have h4:DataW.trod enc Tryz.prog w base (fun _=>true) held m 3 (([c0,c1,c2,c3,c4,c5,c6].drop 4).take (Tryz.prog.cellsOf 3))=some y4:=(hf 4 _ rfl).trans e4
  rw [qkg] at h4
  simp only [List.drop,List.take] at h4
  obtain ⟨y5,e5⟩:=g 5 (by decide)
  have h5:DataW.trod enc Tryz.prog w base (fun _=>true) held m 93 (([c0,c1,c2,c3,c4,c5,c6].drop 5).take (Tryz.prog.cellsOf 93))=some y5:=(hf 5 _ rfl).trans e5
  rw [cRects] at h5
  simp only [List.drop,List.take] at h5
  obtain ⟨y6,e6⟩:=g 6 (by decide)
  have h6:DataW.trod enc Tryz.prog w base (fun _=>true) held m 3 (([c0,c1,c2,c3,c4,c5,c6].drop 6).take (Tryz.prog.cellsOf 3))=some y6:=(hf 6 _ rfl).trans e6
  rw [qkg] at h6
  simp only [List.drop,List.take] at h6
  obtain ⟨z0,g0,_⟩:=DataW.trod_int Tryz.underlying3 h0
  obtain rfl:c0 = .int .i64 z0:=by simpa using g0
  obtain ⟨z1,g1,_⟩:=DataW.trod_int Tryz.underlying3 h1
  obtain rfl:c1 = .int .i64 z1:=by simpa using g1
  obtain ⟨z2,g2,_⟩:=DataW.trod_int Tryz.underlying3 h2
  obtain rfl:c2 = .int .i64 z2:=by simpa using g2
  obtain ⟨z3,g3,_⟩:=DataW.trod_int Tryz.underlying3 h3
  obtain rfl:c3 = .int .i64 z3:=by simpa using g3
  obtain ⟨z4,g4,_⟩:=DataW.trod_int Tryz.underlying3 h4
  obtain rfl:c4 = .int .i64 z4:=by simpa using g4
  obtain ⟨v5,bs,g5,r5,o5,d5⟩:=qhO h5
  obtain rfl:c5=v5:=by simpa using g5
  obtain ⟨z6,g6,_⟩:=DataW.trod_int Tryz.underlying3 h6
  obtain rfl:c6 = .int .i64 z6:=by simpa using g6
  refine ⟨⟨z0,z1,z2,z3,z4,bs,z6⟩,.cons (.sc _) (.cons (.sc _) (.cons (.sc _) (.cons (.sc _) (.cons (.sc _) (.cons r5 (.cons (.sc _) .nil)))))),fun u hu => ?_,rel_len r5,_,y5.1,congrArg Prod.fst hyd,by rw [List.getElem?_map,e5]; rfl,d5⟩
  simp only [List.mem_cons,List.not_mem_nil,or_false] at hu
  rcases hu with rfl | rfl | rfl | rfl | rfl | rfl | rfl <;> first | rfl | exact o5
end
end Go.Proofs.YtnconfggojpkcaaGreat
namespace Go.Proofs.YtnconfggojpkcaaGreat
set_option linter.all false
open Go.RowKit Go.ChangeShapes Go.WideShapes Go.ChangeAt AM
set_option maxRecDepth 100000
section
variable {H:Type}
theorem XB {P:Program} {t:TypeId} {n:Nat}:∀ {es:List (DataW H)} {e:DataW H},e∈es→n∈e.weights P t→n∈DataW.weightsAll P t es
 | [],e,h,_=>by cases h
 | x::es,e,h,hn=>by
  unfold DataW.weightsAll
  rcases List.mem_cons.1 h with rfl | h
  ·exact List.mem_append_left _ hn
  ·exact List.mem_append_right _ (XB h hn)
theorem qki:Tryz.prog.bytesOf 24=32:=by kernel_rfl
theorem qjO:(match Tryz.prog.underlying 95 with | some (.struct fs)=>(fs.toList.map (·.type))[5]? | _=>none)=some 93:=by kernel_rfl
theorem qhI {x:Ru} {e:DataW H} (h:RuD x e) (hw:∀ n∈e.weights Tryz.prog 95,n≤reachBytes):x.boxes.length≤4398046511104:=by
 obtain ⟨parts,e5,rfl,hp,hs⟩:=h
 rcases hs with h0 | ⟨es,sp,rfl,hl,_⟩
 ·rw [h0]; simp
 ·have hu:=Tryz.underlying95
  have ht:=qjO
  rw [hu] at ht
  have hm:=DataW.weights_mem_each (P:=Tryz.prog) ht hp ((es.length+sp.length)*Tryz.prog.bytesOf 24) (by simp [DataW.weights,Tryz.underlying93])
  have:=hw _ (by unfold DataW.weights; rw [hu]; exact hm)
  rw [qki] at this
  unfold reachBytes at this
  omega
theorem qge {xs:List Ru} {d:DataW H} (h:qaX (fun (x:Ru) (e:DataW H)=>x.boxes.length≤maxLen∧RuD x e) xs d) (hw:∀ n∈d.weights Tryz.prog 22,n≤reachBytes):∀ x∈xs,x.boxes.length≤4398046511104:=by
 rcases h with rfl | ⟨es,sp,rfl,hl,hx⟩
 ·simp
 ·intro x hm
  obtain ⟨i,hi⟩:=List.getElem?_of_mem hm
  have hil:i<es.length:=by rw [hl]; exact (List.getElem?_eq_some_iff.1 hi).1
  have he:=List.getElem?_eq_getElem hil
  refine qhI (hx i x _ hi he).2 fun n hn=>hw n ?_
  unfold DataW.weights
  rw [Tryz.underlying22]
  exact List.mem_cons_of_mem _ (List.mem_append_left _ (XB (List.getElem_mem hil) hn))
theorem qag {P:Program} {t:TypeId} {ts:List TypeId} {d:DataW H} {ds:List (DataW H)} (h:(DataW.weightsEach P (t::ts) (d::ds)).all (· ≤ reachBytes)=true):∀ n∈d.weights P t,n≤reachBytes:=fun n hn=>by
 have:=List.all_eq_true.1 h n (by unfold DataW.weightsEach; exact List.mem_append_left _ hn)
 simpa using this
end
end Go.Proofs.YtnconfggojpkcaaGreat
namespace Go.Proofs.YtnconfggojpkcaaGreat
set_option linter.all false
open Go.RowKit AM
set_option maxRecDepth 10000
attribute [local simp] jW zL yA jZ jq jX jY jo yB jr zM Xw Zf jQ Ze yP VX yO slF qU Zg jE Ql zN shares jF Qd zP ZM yt zo VY zq q8 yM jA Qe QN qZ zY jy yJ slV vD vF QM vg Yo jP vE aMM aUn Zh yL jR zX jO qX yK Zv yN yI VD Qo qY Zr Yp jC jB vG qM Yk eval qL AM.valOf qp qO zT del SV.refers zC yG jv shift ldV V.exact V.zh V.ofValue V.yh V.vT V.cells V.one Value.oneCell' Ym Q9 jH Zj Xf VW Qz VP jK zn QY Yt Qm Qg Zo calm Zu JN Zc feeds shrinks ZG looks isT QO vS QD putAt zV zQ JK sliceB isEq QS jg zi jU jm zK jh jl zJ jV jf zH Xt ZE QI JA Za inO yg Z9 Mix.qR Mix.QA Z5 Q7 qD qm q9 je zG Xr Zm y7 y8 Yg ZA zS vZ Zp jL V.fixed V.vO
attribute [local simp] yT jN QE yX vQ yU yV vP QF yR vL qbo Vk vY JX Vl z0 Z0 KN VQ Ws
theorem zvSe:zeroV Tryz.prog 59=some (.agg [.sc (.int .i64 0),.sc (.int .i64 0),.sc (.int .i64 0),.sc (.int .i64 0),.sc (.int .i64 0),.sc (.int .i64 0)]):=by kernel_rfl
def seB (s:Se):Bk := .cells [.v (.sc (.int .i64 s.id)),.v (.sc (.int .i64 s.lv)),.v (.sc (.int .i64 s.box.x0)),.v (.sc (.int .i64 s.box.y0)),.v (.sc (.int .i64 s.box.x1)),.v (.sc (.int .i64 s.box.y1))]
def qcW (x:Int×Se):Value×V:=(.int .i64 x.2.id,.agg x.2.cs)
theorem qea {k:Int}:∀ {X:List (Int×Se)} {i:Nat},(∀ x∈X,x.2.id≠k)→V7 (.int .i64) (.int .i64 k) (X.map qcW) i=some none
 | [],_,_=>rfl
 | x::X,i,h=>by
  have e:Instr.sameNow (.int .i64) (.int .i64 k) (.int .i64 x.2.id)=some (k==x.2.id):=rfl
  have hne:(k==x.2.id)=false:=by simpa using Ne.symm (h x (by simp))
  simp only [List.map_cons,qcW,V7,e,hne]
  exact qea fun y hy=>h y (by simp [hy])
theorem qiY {x:Int×Se}:∀ {X:List (Int×Se)} {i:Nat},(X.map fun x=>x.2.id).Nodup→x∈X→∃ j,V7 (.int .i64) (.int .i64 x.2.id) (X.map qcW) i=some (some (j,.agg x.2.cs))
 | y::X,i,hn,hx=>by
  rw [List.map_cons,List.nodup_cons] at hn
  have e:Instr.sameNow (.int .i64) (.int .i64 x.2.id) (.int .i64 y.2.id)=some (x.2.id==y.2.id):=rfl
  rcases List.mem_cons.1 hx with rfl | hx
  ·exact ⟨i,by simp only [List.map_cons,qcW,V7,e,beq_self_eq_true]⟩
  ·have hne:(x.2.id==y.2.id)=false:=by
    rw [beq_eq_false_iff_ne]
    exact fun e=>hn.1 (List.mem_map.2 ⟨x,hx,e⟩)
   obtain ⟨j,hj⟩:=qiY (i:=i+1) hn.2 hx
   exact ⟨j,by simp only [List.map_cons,qcW,V7,e,hne]; exact hj⟩
structure Fnd (H:List Bk) (f q m:Nat) (X:List (Int×Se)):Prop where
 f:H[f]? = some (.cells [.v (.ptr q 0),.v (.map m)])
 m:H[m]? = some (.map (X.map qcW))
 q:∃ hs,QQ H q hs∧hs.Perm (X.map QK)
theorem Fnd.fm {H:List Bk} {f q m:Nat} {X:List (Int×Se)} (h:Fnd H f q m X):f≠m∧q≠m∧f≠q:=by
 obtain ⟨h1,h2,hs,⟨es,h3,_⟩,_⟩:=h
 refine ⟨?_,?_,?_⟩
 ·rintro rfl; rw [h1] at h2; cases h2
 ·rintro rfl; rw [h2] at h3; cases h3
 ·rintro rfl; rw [h1] at h3; cases h3
theorem Fnd.keep {H H':List Bk} {f q m:Nat} {X:List (Int×Se)} {I:Nat→Prop} (h:Fnd H f q m X) (k:Kp I H H') (hf:¬ I f) (hq:¬ I q) (hm:¬ I m):Fnd H' f q m X:=by
 obtain ⟨h1,h2,hs,h3,h4⟩:=h
 exact ⟨k.cells hf h1,k.map hm h2,hs,h3.keep k hq,h4⟩
theorem Fnd.app {H L:List Bk} {f q m:Nat} {X:List (Int×Se)} (h:Fnd H f q m X):Fnd (H++L) f q m X:=h.keep (Kp.refl.app (I:=NoB)) (fun h=>h) (fun h=>h) (fun h=>h)
theorem qjc (H:List Bk):AFn Tryz.prog 49 [] H fun y H'=>∃ f q m,y = .ptr f 0∧Fnd H' f q m []∧H.length≤f∧H.length≤q∧H.length≤m∧Kp NoB H H':=by
 refine AFn.intro (fn:=Tryz.f49) (by kernel_rfl) rfl (by kernel_rfl) (by simp) ?_
 simp only [Tryz.f49,qj]
 refine AW.seq (AW.ofx [] mixed (by kernel_rfl) ?_)
 simp
 refine AW.ofx [] mixed (by kernel_rfl) ?_
 simp
 refine qc.of (znew H) ?_
 rintro y H1 ⟨rfl,rfl⟩
 simp
 refine ⟨H.length,H.length+1,⟨by simp,by simp,[],⟨[],by simp,Held.nil⟩,by simp⟩,by omega,by omega,Kp.refl.app⟩
set_option maxHeartbeats 2000000 in
theorem fdPut {H:List Bk} {f q m:Nat} {X:List (Int×Se)} (h:Fnd H f q m X) (k:Int) (s:Se) (hno:∀ x∈X,x.2.id≠s.id) (hl:X.length≤100000):AFn Tryz.prog 55 [.ptr f 0,.sc (.int .u64 k),.agg s.cs] H fun y H'=>y = .tup []∧Fnd H' f q m (X ++ [(k,s)])∧Kp (fun x=>x=q∨x=m) H H':=by
 obtain ⟨d1,d2,d3⟩:=h.fm
 obtain ⟨h1,h2,hs,h3,h4⟩:=h
 have hg1:=fun L=>hget (L:=L) h1
 have hg2:=fun L=>hget (L:=L) h2
 have hmf:=qea (k:=s.id) (i:=0) hno
 unfold Se.cs
 refine AFn.intro (fn:=Tryz.f55) (by kernel_rfl) rfl (by kernel_rfl) (by simp) ?_
 simp only [Tryz.f55,qj]
 refine AW.seq (AW.ofx [(1,12,[0,5])] mixed (by kernel_rfl) ?_)
 simp
 refine AW.seq (AW.ofx [] mixed (by kernel_rfl) ?_)
 simp [hg1,hg2,hmf,zvSe]
 rw [QW rfl]
 have hsb:(H ++ [seB s,seB qw])[H.length]? = some (seB s):=by simp
 have e1:=hg1 [seB s,seB qw]
 have e2:=hg2 [seB s,seB qw]
 have hq1:QQ (H ++ [seB s,seB qw]) q hs:=h3.keep (Kp.refl.app (I:=NoB)) (fun h=>h)
 have kp1:Kp (fun x=>x=q∨x=m) H (H ++ [seB s,seB qw]):=Kp.refl.app
 change AW _ _ _ _ ⟨_,H ++ [seB s,seB qw]⟩
 have hml:=(List.getElem?_eq_some_iff.1 h2).1
 have hne:¬ H.length=m:=by omega
 generalize H ++ [seB s,seB qw]=H1 at *
 generalize H.length=z at *
 have hsb':=hsb
 unfold seB at hsb'
 refine AW.seq (AW.ofx [] mixed (by kernel_rfl) ?_)
 simp [hsb',e1,e2,hmf]
 have hm1:m<H1.length:=(List.getElem?_eq_some_iff.1 e2).1
 obtain ⟨H2,eH,c1,c2,c3,c4,c5⟩:∃ H2,H2=(zf m H1).set m (.map (X.map qcW ++ [(.int .i64 s.id,.agg [.sc (.int .i64 s.id),.sc (.int .i64 s.lv),.sc (.int .i64 s.box.x0),.sc (.int .i64 s.box.y0),.sc (.int .i64 s.box.x1),.sc (.int .i64 s.box.y1)])]))∧H2[f]? = some (.cells [.v (.ptr q 0),.v (.map m)])∧H2[m]? = some (.map ((X ++ [(k,s)]).map qcW))∧H2[z]? = some (seB s)∧QQ H2 q hs∧Kp (fun x=>x=q∨x=m) H1 H2:=by
  have kk:Kp (fun x=>x=m) H1 ((zf m H1).set m (.map (X.map qcW ++ [(.int .i64 s.id,.agg [.sc (.int .i64 s.id),.sc (.int .i64 s.lv),.sc (.int .i64 s.box.x0),.sc (.int .i64 s.box.y0),.sc (.int .i64 s.box.x1),.sc (.int .i64 s.box.y1)])]))):=Kp.killed Kp.refl rfl
  refine ⟨_,rfl,kk.cells d1 e1,?_,kk.cells hne hsb,hq1.keep kk d2,kk.weak fun x hx => .inr hx⟩
  rw [List.getElem?_set_self (by rw [ZO]; exact hm1),List.map_append]
  rfl
 rw [← eH]
 clear eH
 have c1':=c1
 have c3':=c3
 unfold seB at c3'
 have hlen:hs.length=X.length:=by rw [h4.length_eq,List.length_map]
 have hP:=zpush c4 (by omega) ⟨k,0,s.id⟩
 rw [Qr] at hP
 refine AW.ofx [(1,12,[0,5])] mixed (by kernel_rfl) ?_
 simp [c1',c3']
 refine qc.of hP ?_
 rintro y H3 ⟨rfl,k3,hq3⟩
 simp
 refine ⟨⟨k3.YV.cells (fun e=>d3 e) c1,k3.YV.map (fun e=>d2 e.symm) c2,_,hq3,?_⟩,(kp1.trans c5).trans (k3.YV.weak fun x hx => .inl hx)⟩
 rw [List.map_append]
 exact (Yw _ _).trans ((h4.cons _).trans (List.perm_append_singleton _ _).symm)
def qdm (es:List Ent):V := .sl es.length 3 (es.flatMap Zl)
def TkI (H0:List Bk) (q:Nat) (hs:List Ent) (m:Int) (z:Nat) (F:Fr) (H:List Bk):Prop :=
 ∃ j,j≤hs.length∧z=hs.length - j∧(j:Int)≤max m 0∧QQ H q (hs.drop j)∧KpA (fun x=>x=q) H0 H∧F = [(0,.v (.ptr q 0)),(1,.v (.sc (.int .i64 m))),(2,.v (.fn (.func 110) [] [])),(7,YA (hs.take j))]
set_option maxHeartbeats 2000000 in
theorem zTaken {H:List Bk} {q:Nat} {hs:List Ent} (hq:QQ H q hs) (hl:hs.length≤100000) (m:Int):AFn Tryz.prog 156 [.ptr q 0,.sc (.int .i64 m),.fn (.func 110) [] []] H fun y H'=>y=qdm (hs.take m.toNat)∧KpA (fun x=>x=q) H H':=by
 refine AFn.intro (fn:=Tryz.f156) (by kernel_rfl) rfl (by kernel_rfl) (by simp) ?_
 simp only [Tryz.f156,qj]
 refine AW.seq (AW.ofx [] mixed (by kernel_rfl) ?_)
 simp
 refine AW.seq (AW.ofx [] mixed (by kernel_rfl) ?_)
 simp
 refine AW.seq (AW.block (AW.qbd (TkI H q hs m) ⟨hs.length,_,?_,0,by omega,by omega,by omega,by simpa using hq,KpA.refl,rfl⟩ ?_))
 ·simp [qD,qm,qp,q9,YA]
 rintro z F H1 ⟨j,hj,rfl,hjm,q1,k1,rfl⟩
 have hjl:(hs.take j).length=j:=by rw [List.length_take]; omega
 unfold YA
 refine AW.seq (AW.seq (AW.ofx [] mixed (by kernel_rfl) ?_))
 by_cases hlt:(j:Int)<m
 ·simp [hjl,hlt]
  refine AW.ofx [] mixed (by kernel_rfl) ?_
  simp
  have hP:=zpop q1 (by rw [List.length_drop]; omega)
  refine AW.block (AW.seq (AW.ofx [] mixed (by kernel_rfl) ?_))
  simp
  refine qc.of hP ?_
  rintro y H2 ⟨rfl,k2,q2⟩
  cases hd:hs.drop j with
  | nil =>
   have hjl2:hs.length≤j:=by
    have:=congrArg List.length hd
    rw [List.length_drop] at this
    simp at this
    omega
   simp [qhS]
   rw [qy rfl]
   refine AW.seq (AW.ofx [] mixed (by kernel_rfl) ?_)
   simp
   refine AW.ofx [] mixed (by kernel_rfl) ?_
   simp [qdm]
   have e1:hs.take j=hs:=List.take_of_length_le hjl2
   have e2:hs.take m.toNat=hs:=List.take_of_length_le (by omega)
   rw [e1,e2]
   exact ⟨⟨by omega,rfl⟩,(k1.trans k2).app⟩
  | cons e tl =>
   have hjl2:j<hs.length:=by
    have:=congrArg List.length hd
    rw [List.length_drop] at this
    simp at this
    omega
   have hej:hs[j]=e:=by
    have:=List.drop_eq_getElem_cons hjl2
    rw [hd] at this
    injection this with a b
    exact a.symm
   have htl:tl=hs.drop (j+1):=by
    have:=List.drop_eq_getElem_cons hjl2
    rw [hd] at this
    injection this with a b
   have htk:hs.take (j+1)=hs.take j ++ [e]:=by rw [← hej]; exact List.take_succ_eq_append_getElem hjl2
   simp [qhS,Qr]
   rw [qy rfl]
   have hb:(H2 ++ [Bk.cells ([V.sc (.int .u64 e.k),V.sc (.int .u64 e.t),V.sc (.int .i64 e.i)].map SV.v)])[H2.length]? = some (.cells [.v (.sc (.int .u64 e.k)),.v (.sc (.int .u64 e.t)),.v (.sc (.int .i64 e.i))]):=by simp
   have q3:QQ (H2 ++ [Bk.cells ([V.sc (.int .u64 e.k),V.sc (.int .u64 e.t),V.sc (.int .i64 e.i)].map SV.v)]) q (hs.drop (j+1)):=by
    rw [hd,List.tail_cons,htl] at q2
    exact q2.keep (Kp.refl.app (I:=NoB)) (fun h=>h)
   have k3:KpA (fun x=>x=q) H (H2 ++ [Bk.cells ([V.sc (.int .u64 e.k),V.sc (.int .u64 e.t),V.sc (.int .i64 e.i)].map SV.v)]):=(k1.trans k2).app
   generalize H2 ++ [_]=H3 at *
   refine AW.seq (AW.ofx [] mixed (by kernel_rfl) ?_)
   simp
   refine AW.ofx [] mixed (by kernel_rfl) ?_
   simp [hb]
   refine ⟨⟨by omega,by omega⟩,hs.length - (j+1),by omega,_,?_,j+1,by omega,rfl,by omega,q3,k3,rfl⟩
   rw [htk]
   simp [qD,qm,qp,YA,hjl,Vb]
 ·simp [hjl,hlt]
  refine AW.ofx [] mixed (by kernel_rfl) ?_
  simp
  refine AW.ofx [] mixed (by kernel_rfl) ?_
  simp [qdm]
  have hjm2:m.toNat=j:=by omega
  rw [hjm2]
  exact ⟨⟨by omega,rfl⟩,k1⟩
theorem zDrain {H:List Bk} {q:Nat} {hs:List Ent} (hq:QQ H q hs) (hl:hs.length≤100000) (m:Int):AFn Tryz.prog 108 [.ptr q 0,.sc (.int .i64 m)] H fun y H'=>y=qdm (hs.take m.toNat)∧KpA (fun x=>x=q) H H':=by
 have hT:=zTaken hq hl m
 refine AFn.intro (fn:=Tryz.f108) (by kernel_rfl) rfl (by kernel_rfl) (by simp) ?_
 simp only [Tryz.f108,qj]
 refine AW.seq (AW.ofx [] mixed (by kernel_rfl) ?_)
 simp
 refine AW.ofx [] mixed (by kernel_rfl) ?_
 simp
 refine qc.of hT ?_
 rintro y H1 ⟨rfl,k1⟩
 unfold qdm
 simp
 exact k1
theorem qg6 (g:Gr):(g.box.x0==0&&(g.box.y0==0&&(g.box.x1==0&&g.box.y1==0)))=decide (g.box=⟨0,0,0,0⟩):=by
 obtain ⟨o,z,⟨a,b,c,d⟩,vo,t⟩:=g
 rw [Bool.eq_iff_iff]
 simp
set_option maxHeartbeats 2000000 in
theorem tokRight (g:Gr):PFn Tryz.prog 74 [.agg g.cs] (.sc (.bool (KF g))):=by
 have hR:=Zk g.box
 have hbe:=qg6 g
 unfold Re.v Re.cs at hR
 unfold Gr.cs KF
 refine AFn.intro (fn:=Tryz.f74) (by kernel_rfl) rfl (by kernel_rfl) (by simp) ?_
 simp only [Tryz.f74,qj]
 refine AW.seq (AW.ofx [] mixed (by kernel_rfl) ?_)
 simp
 refine AW.seq (AW.ofx [] mixed (by kernel_rfl) ?_)
 simp
 refine qc.pure hR rfl rfl ?_
 simp
 generalize qo g.box=rb at *
 cases hv:g.void with
 | true =>
  refine AW.seq (AW.ofx [] mixed (by kernel_rfl) ?_)
  simp [hv,eqRe,hbe]
  generalize decide (g.box=⟨0,0,0,0⟩)=bb at *
  by_cases c0:0≤g.ops
  rotate_left
  ·have d0:g.ops<0:=by omega
   refine AW.ofx [] mixed (by kernel_rfl) ?_
   simp [c0,d0]
  have d0:¬ (g.ops<0):=by omega
  by_cases c1:g.ops≤31
  rotate_left
  ·have d1:31<g.ops:=by omega
   refine AW.ofx [] mixed (by kernel_rfl) ?_
   simp [c0,d0,c1,d1]
  have d1:¬ (31<g.ops):=by omega
  by_cases c2:0≤g.zoom
  rotate_left
  ·have d2:g.zoom<0:=by omega
   refine AW.ofx [] mixed (by kernel_rfl) ?_
   simp [c0,d0,c1,d1,c2,d2]
  have d2:¬ (g.zoom<0):=by omega
  by_cases c3:g.zoom≤16
  rotate_left
  ·have d3:16<g.zoom:=by omega
   refine AW.ofx [] mixed (by kernel_rfl) ?_
   simp [c0,d0,c1,d1,c2,d2,c3,d3]
  have d3:¬ (16<g.zoom):=by omega
  by_cases c4:0≤g.til
  rotate_left
  ·have d4:g.til<0:=by omega
   refine AW.ofx [] mixed (by kernel_rfl) ?_
   simp [c0,d0,c1,d1,c2,d2,c3,d3,c4,d4]
  have d4:¬ (g.til<0):=by omega
  by_cases c5:g.til≤4294967295
  rotate_left
  ·have d5:4294967295<g.til:=by omega
   refine AW.ofx [] mixed (by kernel_rfl) ?_
   simp [c0,d0,c1,d1,c2,d2,c3,d3,c4,d4,c5,d5]
  have d5:¬ (4294967295<g.til):=by omega
  refine AW.ofx [] mixed (by kernel_rfl) ?_
  simp [c0,d0,c1,d1,c2,d2,c3,d3,c4,d4,c5,d5]
 | false =>
  refine AW.seq (AW.ofx [] mixed (by kernel_rfl) ?_)
  simp [hv]
  by_cases c0:0≤g.ops
  rotate_left
  ·have d0:g.ops<0:=by omega
   refine AW.ofx [] mixed (by kernel_rfl) ?_
   simp [c0,d0]
  have d0:¬ (g.ops<0):=by omega
  by_cases c1:g.ops≤31
  rotate_left
  ·have d1:31<g.ops:=by omega
   refine AW.ofx [] mixed (by kernel_rfl) ?_
   simp [c0,d0,c1,d1]
  have d1:¬ (31<g.ops):=by omega
  by_cases c2:0≤g.zoom
  rotate_left
  ·have d2:g.zoom<0:=by omega
   refine AW.ofx [] mixed (by kernel_rfl) ?_
   simp [c0,d0,c1,d1,c2,d2]
  have d2:¬ (g.zoom<0):=by omega
  by_cases c3:g.zoom≤16
  rotate_left
  ·have d3:16<g.zoom:=by omega
   refine AW.ofx [] mixed (by kernel_rfl) ?_
   simp [c0,d0,c1,d1,c2,d2,c3,d3]
  have d3:¬ (16<g.zoom):=by omega
  by_cases c4:0≤g.til
  rotate_left
  ·have d4:g.til<0:=by omega
   refine AW.ofx [] mixed (by kernel_rfl) ?_
   simp [c0,d0,c1,d1,c2,d2,c3,d3,c4,d4]
  have d4:¬ (g.til<0):=by omega
  by_cases c5:g.til≤4294967295
  rotate_left
  ·have d5:4294967295<g.til:=by omega
   refine AW.ofx [] mixed (by kernel_rfl) ?_
   simp [c0,d0,c1,d1,c2,d2,c3,d3,c4,d4,c5,d5]
  have d5:¬ (4294967295<g.til):=by omega
  refine AW.ofx [] mixed (by kernel_rfl) ?_
  simp [c0,d0,c1,d1,c2,d2,c3,d3,c4,d4,c5,d5]
theorem qbD (v:Vw) (z:Int):PFn Tryz.prog 62 [.agg v.cs,.sc (.int .i64 z)] (.sc (.int .i64 (lvl v z))):=by
 unfold Vw.cs lvl
 refine AFn.intro (fn:=Tryz.f62) (by kernel_rfl) rfl (by kernel_rfl) (by simp) (AW.ofx [] mixed (by kernel_rfl) ?_)
 simp only [Tryz.f62,qj]
 simp
theorem dLess (a b:Int):PFn Tryz.prog 66 [.sc (.int .i64 a),.sc (.int .i64 b)] (.sc (.int .i64 (if a<b then a else b))):=by
 refine AFn.intro (fn:=Tryz.f66) (by kernel_rfl) rfl (by kernel_rfl) (by simp) (AW.ofx [] mixed (by kernel_rfl) ?_)
 simp only [Tryz.f66,qj]
 by_cases h:a<b
 ·simp [h]
 ·simp [h]
set_option maxHeartbeats 2000000 in
theorem qke (g:Gr):PFn Tryz.prog 75 [.agg g.cs] (.sc (.bool (KF g))):=by
 have hR:=Jp g.box
 have hbe:=qg6 g
 unfold Re.v Re.cs at hR
 unfold Gr.cs KF
 refine AFn.intro (fn:=Tryz.f75) (by kernel_rfl) rfl (by kernel_rfl) (by simp) ?_
 simp only [Tryz.f75,qj]
 refine AW.seq (AW.ofx [] mixed (by kernel_rfl) ?_)
 simp
 by_cases c0:0≤g.ops
 rotate_left
 ·have d0:g.ops<0:=by omega
  refine AW.ofx [] mixed (by kernel_rfl) ?_
  simp [c0,d0]
 have d0:¬ (g.ops<0):=by omega
 by_cases c1:g.ops≤31
 rotate_left
 ·have d1:31<g.ops:=by omega
  refine AW.ofx [] mixed (by kernel_rfl) ?_
  simp [c0,d0,c1,d1]
 have d1:¬ (31<g.ops):=by omega
 by_cases c2:0≤g.zoom
 rotate_left
 ·have d2:g.zoom<0:=by omega
  refine AW.ofx [] mixed (by kernel_rfl) ?_
  simp [c0,d0,c1,d1,c2,d2]
 have d2:¬ (g.zoom<0):=by omega
 by_cases c3:g.zoom≤16
 rotate_left
 ·have d3:16<g.zoom:=by omega
  refine AW.ofx [] mixed (by kernel_rfl) ?_
  simp [c0,d0,c1,d1,c2,d2,c3,d3]
 have d3:¬ (16<g.zoom):=by omega
 by_cases c4:0≤g.til
 rotate_left
 ·have d4:g.til<0:=by omega
  refine AW.ofx [] mixed (by kernel_rfl) ?_
  simp [c0,d0,c1,d1,c2,d2,c3,d3,c4,d4]
 have d4:¬ (g.til<0):=by omega
 by_cases c5:g.til≤4294967295
 rotate_left
 ·have d5:4294967295<g.til:=by omega
  refine AW.ofx [] mixed (by kernel_rfl) ?_
  simp [c0,d0,c1,d1,c2,d2,c3,d3,c4,d4,c5,d5]
 have d5:¬ (4294967295<g.til):=by omega
 refine AW.seq (AW.ofx [] mixed (by kernel_rfl) ?_)
 simp [c0,d0,c1,d1,c2,d2,c3,d3,c4,d4,c5,d5]
 cases hv:g.void with
 | true =>
  refine AW.ofx [] mixed (by kernel_rfl) ?_
  simp [hv,eqRe,hbe]
 | false =>
  refine AW.ofx [] mixed (by kernel_rfl) ?_
  simp [hv,eqRe]
  refine qc.pure hR rfl rfl ?_
  simp
theorem WC (v:Vw):PFn Tryz.prog 24 [.agg v.cs] (.sc (.bool (vC v))):=by
 have hR:=tokRight v.g
 unfold Gr.cs at hR
 unfold Vw.cs vC
 refine AFn.intro (fn:=Tryz.f24) (by kernel_rfl) rfl (by kernel_rfl) (by simp) ?_
 simp only [Tryz.f24,qj]
 refine AW.seq (AW.ofx [] mixed (by kernel_rfl) ?_)
 simp
 by_cases c0:0≤v.ro
 rotate_left
 ·have d0:v.ro<0:=by omega
  refine AW.ofx [] mixed (by kernel_rfl) ?_
  simp [c0,d0]
 have d0:¬ (v.ro<0):=by omega
 by_cases c1:v.ro≤7
 rotate_left
 ·have d1:7<v.ro:=by omega
  refine AW.ofx [] mixed (by kernel_rfl) ?_
  simp [c0,d0,c1,d1]
 have d1:¬ (7<v.ro):=by omega
 by_cases c2:0≤v.ti
 rotate_left
 ·have d2:v.ti<0:=by omega
  refine AW.ofx [] mixed (by kernel_rfl) ?_
  simp [c0,d0,c1,d1,c2,d2]
 have d2:¬ (v.ti<0):=by omega
 by_cases c3:v.ti≤7
 rotate_left
 ·have d3:7<v.ti:=by omega
  refine AW.ofx [] mixed (by kernel_rfl) ?_
  simp [c0,d0,c1,d1,c2,d2,c3,d3]
 have d3:¬ (7<v.ti):=by omega
 refine AW.ofx [] mixed (by kernel_rfl) ?_
 simp [c0,d0,c1,d1,c2,d2,c3,d3]
 refine qc.pure hR rfl rfl ?_
 simp
theorem qif (v:Vw):PFn Tryz.prog 25 [.agg v.cs] (.sc (.bool (vC v))):=by
 have hR:=qke v.g
 unfold Gr.cs at hR
 unfold Vw.cs vC
 refine AFn.intro (fn:=Tryz.f25) (by kernel_rfl) rfl (by kernel_rfl) (by simp) ?_
 simp only [Tryz.f25,qj]
 refine AW.seq (AW.ofx [] mixed (by kernel_rfl) ?_)
 simp
 by_cases c0:0≤v.ro
 rotate_left
 ·have d0:v.ro<0:=by omega
  refine AW.ofx [] mixed (by kernel_rfl) ?_
  simp [c0,d0]
 have d0:¬ (v.ro<0):=by omega
 by_cases c1:v.ro≤7
 rotate_left
 ·have d1:7<v.ro:=by omega
  refine AW.ofx [] mixed (by kernel_rfl) ?_
  simp [c0,d0,c1,d1]
 have d1:¬ (7<v.ro):=by omega
 by_cases c2:0≤v.ti
 rotate_left
 ·have d2:v.ti<0:=by omega
  refine AW.ofx [] mixed (by kernel_rfl) ?_
  simp [c0,d0,c1,d1,c2,d2]
 have d2:¬ (v.ti<0):=by omega
 by_cases c3:v.ti≤7
 rotate_left
 ·have d3:7<v.ti:=by omega
  refine AW.ofx [] mixed (by kernel_rfl) ?_
  simp [c0,d0,c1,d1,c2,d2,c3,d3]
 have d3:¬ (7<v.ti):=by omega
 refine AW.ofx [] mixed (by kernel_rfl) ?_
 simp [c0,d0,c1,d1,c2,d2,c3,d3]
 refine qc.pure hR rfl rfl ?_
 simp
theorem Vq (o:Option Se):seW o = .tup [.agg [.sc (.int .i64 (o.getD qw).id),.sc (.int .i64 (o.getD qw).lv),.sc (.int .i64 (o.getD qw).box.x0),.sc (.int .i64 (o.getD qw).box.y0),.sc (.int .i64 (o.getD qw).box.x1),.sc (.int .i64 (o.getD qw).box.y1)],.sc (.bool o.isSome)]:=rfl
set_option maxHeartbeats 1000000 in
theorem qfb (v:Vw) (id lv:Int) (b:Re):PFn Tryz.prog 65 [.agg v.cs,.sc (.int .i64 id),.sc (.int .i64 lv),b.v] (seW (Zz v id lv b)):=by
 have hI:=gIn b v.g.box
 unfold Zz
 unfold Vw.cs
 unfold Re.v Re.cs at hI ⊢
 refine AFn.intro (fn:=Tryz.f65) (by kernel_rfl) rfl (by kernel_rfl) (by simp) ?_
 simp only [Tryz.f65,qj]
 refine AW.seq (AW.ofx [] mixed (by kernel_rfl) ?_)
 simp
 by_cases h0:lv=0
 ·refine AW.seq (AW.ofx [] mixed (by kernel_rfl) ?_)
  simp [h0,setCells,qh,seW,qw,Se.cs]
 ·have h0':(lv==0)=false:=by simpa using h0
  cases hv:v.g.void with
  | true =>
   refine AW.seq (AW.ofx [] mixed (by kernel_rfl) ?_)
   simp [h0,h0',hv,setCells,qh,seW,qw,Se.cs]
  | false =>
   refine AW.seq (AW.ofx [] mixed (by kernel_rfl) ?_)
   simp [h0,h0',hv]
   refine qc.pure hI rfl rfl ?_
   cases hb:inB b v.g.box with
   | false =>
    simp [h0,h0',setCells,qh,seW,qw,Se.cs]
   | true =>
    simp [h0,h0']
    refine AW.ofx [] mixed (by kernel_rfl) ?_
    simp [setCells,qh,seW,Se.cs]
set_option maxHeartbeats 1000000 in
theorem dShown (v:Vw) (id lv:Int) (b:Re):PFn Tryz.prog 70 [.agg v.cs,.sc (.int .i64 id),.sc (.int .i64 lv),b.v] (seW (Zz v id lv b)):=by
 have hI:=refInB b v.g.box
 unfold Zz
 unfold Vw.cs
 unfold Re.v Re.cs at hI ⊢
 refine AFn.intro (fn:=Tryz.f70) (by kernel_rfl) rfl (by kernel_rfl) (by simp) ?_
 simp only [Tryz.f70,qj]
 refine AW.seq (AW.ofx [] mixed (by kernel_rfl) ?_)
 simp
 by_cases h0:lv=0
 ·refine AW.seq (AW.ofx [] mixed (by kernel_rfl) ?_)
  simp [h0,setCells,qh,seW,qw,Se.cs]
 ·have h0':(lv==0)=false:=by simpa using h0
  cases hv:v.g.void with
  | true =>
   refine AW.seq (AW.ofx [] mixed (by kernel_rfl) ?_)
   simp [h0,h0',hv,setCells,qh,seW,qw,Se.cs]
  | false =>
   refine AW.seq (AW.ofx [] mixed (by kernel_rfl) ?_)
   simp [h0,h0',hv]
   refine qc.pure hI rfl rfl ?_
   cases hb:inB b v.g.box with
   | false =>
    simp [h0,h0',setCells,qh,seW,qw,Se.cs]
   | true =>
    simp [h0,h0']
    refine AW.ofx [] mixed (by kernel_rfl) ?_
    simp [setCells,qh,seW,Se.cs]
structure qae (l:List Ru):Prop where
 len:l.length≤1000000
 n:(qz l).length≤1048576
 all:l.all qK=true
def zmP (l:List Ru) (v:Vw) (x:Pr):Int:=jS l v.ro v.ti x.lab x.at_
theorem qhs {l:List Ru} (ha:l.all qK=true) (ro ti la:Int) (p:Pt):(if yC ro ti la then qaY (JJ l ro ti la) p else 0)=jS l ro ti la p:=by
 cases e:yC ro ti la with
 | true =>
  rw [if_pos rfl]
  exact zoomP_eq (KG ha ro ti la) p
 | false =>
  rw [if_neg (by decide)]
  exact (qbL e p).symm
theorem Kept.qbe {l:List Ru} {t m:Nat} {es:List (Value×V)} {H1 H2:List Bk} (hT:Tab H1 t m l es) (h:Kept l t m H1 H2):Z7 H1 H2:=fun id ks hb _=>by
 have hne:id≠m:=by
  rintro rfl
  have:=hT.m.symm.trans hb
  cases this
 exact h.2.cells hne hb
theorem qbr {m i:Nat} {H H1:List Bk} {K:Bk} (h:zZ m H H1) (hi:H.length≤i):zZ m H (H1.set i K):=fun j b hj hb hn=>by
 have hl:=(List.getElem?_eq_some_iff.1 hb).1
 rw [List.getElem?_set_ne (by omega)]
 exact h j b hj hb hn
theorem Kept.qcd {l:List Ru} {t m i:Nat} {es:List (Value×V)} {H H1:List Bk} {K:Bk} (hT:Tab H t m l es) (h:Kept l t m H H1) (hi:H.length≤i):Kept l t m H (H1.set i K):=by
 obtain ⟨⟨es',h1,h2⟩,h3⟩:=h
 have ht:=(List.getElem?_eq_some_iff.1 hT.t).1
 have hm:=(List.getElem?_eq_some_iff.1 hT.m).1
 exact ⟨⟨es',⟨by rw [List.getElem?_set_ne (by omega)]; exact h1.t,by rw [List.getElem?_set_ne (by omega)]; exact h1.m⟩,h2⟩,qbr h3 hi⟩
theorem Jg.qcd {l:List Ru} {t m i:Nat} {es:List (Value×V)} {H H1:List Bk} {K:Bk} (hT:Tab H t m l es) (h:Jg l t m H H1) (hi:H.length≤i):Jg l t m H (H1.set i K):=by
 obtain ⟨⟨es',h1,h2⟩,h3⟩:=h
 have ht:=(List.getElem?_eq_some_iff.1 hT.t).1
 have hm:=(List.getElem?_eq_some_iff.1 hT.m).1
 exact ⟨⟨es',⟨by rw [List.getElem?_set_ne (by omega)]; exact h1.t,by rw [List.getElem?_set_ne (by omega)]; exact h1.m⟩,h2⟩,fun j b hj hb hn=>by
  have hl:=(List.getElem?_eq_some_iff.1 hb).1
  rw [List.getElem?_set_ne (by omega)]
  exact h3 j b hj hb hn⟩
def wdB (r c t:Nat):Bk := .cells [.v (.ptr r 0),.v (.ptr c 0),.v (.ptr t 0)]
def vwB (v:Vw):Bk := .cells [.v (.sc (.int .i64 v.ro)),.v (.sc (.int .i64 v.ti)),.v (.sc (.int .i64 v.g.ops)),.v (.sc (.int .i64 v.g.zoom)),.v (.sc (.int .i64 v.g.box.x0)),.v (.sc (.int .i64 v.g.box.y0)),.v (.sc (.int .i64 v.g.box.x1)),.v (.sc (.int .i64 v.g.box.y1)),.v (.sc (.bool v.g.void)),.v (.sc (.int .i64 v.g.til))]
def wdC (r c t:Nat):V := .agg [.ptr r 0,.ptr c 0,.ptr t 0]
set_option maxHeartbeats 2000000 in
theorem qiS {l:List Ru} (hl:qae l) (v:Vw) (x:Pr) {t m:Nat} (r c:Nat) (es:List (Value×V)) (H:List Bk) (hT:Tab H t m l es) (hM:Xx l es) :
  AFn Tryz.prog 20 [wdC r c t,.agg v.cs,x.v] H fun y H'=>y=seW (vR (zmP l v) v x)∧Kept l t m H H':=by
 have hRt:=WC v
 have hF:=YJ x.at_
 have hZ:=fun H' es' hT' hM'=>gZoom l v.ro v.ti x.lab x.at_ hl.len hl.n t m es' H' hT' hM'
 have hLv:=fun z=>qbD v z
 have hSh:=fun lv b=>qfb v x.id lv b
 simp only [qhs hl.all] at hZ
 unfold vR zmP
 unfold Vw.cs at hRt hLv hSh ⊢
 unfold Pt.v Pt.cs at hF hZ
 unfold Re.v Re.cs at hSh
 unfold wdC
 unfold Pr.v Pr.cs
 generalize jS l v.ro v.ti x.lab x.at_=zz at *
 refine AFn.intro (fn:=Tryz.f20) (by kernel_rfl) rfl (by kernel_rfl) (by simp) ?_
 simp only [Tryz.f20,qj]
 refine AW.seq (AW.ofx [(3,12,[4,3,5])] mixed (by kernel_rfl) ?_)
 simp
 have hk1:zZ m H (H ++ [wdB r c t,vwB v,prB x,seB qw]) := .app
 have g0:(H ++ [wdB r c t,vwB v,prB x,seB qw])[H.length]? = some (wdB r c t):=by simp
 have g1:(H ++ [wdB r c t,vwB v,prB x,seB qw])[H.length+1]? = some (vwB v):=by simp
 have g2:(H ++ [wdB r c t,vwB v,prB x,seB qw])[H.length+2]? = some (prB x):=by simp
 have g3:(H ++ [wdB r c t,vwB v,prB x,seB qw])[H.length+3]? = some (seB qw):=by simp
 have hT1:Tab (H ++ [wdB r c t,vwB v,prB x,seB qw]) t m l es:=hT.stays .app
 have hml:=(List.getElem?_eq_some_iff.1 hT.m).1
 change AW _ _ _ _ ⟨_,H ++ [wdB r c t,vwB v,prB x,seB qw]⟩
 generalize H ++ [wdB r c t,vwB v,prB x,seB qw]=H1 at *
 have d0:H.length≠m:=by omega
 have d1:H.length+1≠m:=by omega
 have d2:H.length+2≠m:=by omega
 have d3:H.length+3≠m:=by omega
 have hil:H.length≤H.length+3:=by omega
 generalize H.length+1=i1 at *
 generalize H.length+2=i2 at *
 generalize H.length+3=i3 at *
 generalize hi0:H.length=i0 at *
 have hi3:i3<H1.length:=(List.getElem?_eq_some_iff.1 g3).1
 have hst:∀ {H2},H2[i3]? = some (seB qw)→∀ a b c d e f,setCells H2 i3 0 [a,b,c,d,e,f]=H2.set i3 (.cells [.v a,.v b,.v c,.v d,.v e,.v f]):=fun h a b c d e f=>by
  unfold seB at h
  rw [setCells_eq h (by simp)]
  rfl
 have g1':=g1
 have g2':=g2
 unfold vwB at g1'
 unfold prB at g2'
 have hend:∀ K,Kept l t m H (H1.set i3 K):=fun K=>Kept.qcd hT ⟨⟨es,hT1,hM⟩,hk1⟩ (by omega)
 have hgs:∀ K,(H1.set i3 K)[i3]? = some K:=fun K=>List.getElem?_set_self hi3
 refine AW.seq (AW.ofx [(3,12,[4,3,5])] mixed (by kernel_rfl) ?_)
 simp [g1',g2']
 refine qc.pure hRt rfl rfl ?_
 cases hr:vC v with
 | false =>
  have g3':=g3
  unfold seB at g3'
  simp [g1',g2',g3',hst g3,hgs]
  exact ⟨by simp [seW,Se.cs,qw],hend _⟩
 | true =>
  simp [g1',g2']
  refine qc.pure hF rfl rfl ?_
  cases hf:fits x.at_ with
  | false =>
   have g3':=g3
   unfold seB at g3'
   simp [g1',g2',g3',hst g3,hgs]
   exact ⟨by simp [seW,Se.cs,qw],hend _⟩
  | true =>
   have g0':=g0
   unfold wdB at g0'
   simp [g1',g2']
   refine AW.seq (AW.ofx [(3,12,[4,3,5])] mixed (by kernel_rfl) ?_)
   simp [g0',g1',g2']
   refine qc.of (hZ _ _ hT1 hM) ?_
   rintro y H2 ⟨rfl,hK2⟩
   have kp2:=eq_true (hK2.qbe hT1)
   simp [g0',g1',g2',kp2]
   refine qc.pure (hLv zz) rfl rfl ?_
   simp [g0',g1',g2',kp2]
   generalize lvl v zz=lv at *
   have c1:=hK2.2.cells d1 g1
   have c2:=hK2.2.cells d2 g2
   have c3:=hK2.2.cells d3 g3
   have hK2:=Kept.trans hk1 hK2
   have hO:=cOf x.at_ lv
   have hB:=fun c=>qkh c
   generalize ofR x.at_ lv=oc at *
   obtain ⟨oc,ok⟩:=oc
   simp only at hO ⊢
   have hB:=hB oc
   generalize Qs oc=bx at *
   obtain ⟨bx,bok⟩:=bx
   simp only at hB ⊢
   have hSh:=hSh lv bx
   generalize Zz v x.id lv bx=sv at *
   unfold Pt.v Pt.cs Ce.v Ce.cs at hO
   unfold Ce.v Ce.cs Re.v Re.cs at hB
   rw [Vq] at hSh ⊢
   clear hT1 hM hZ hend hgs hi3 g0 g1 g2 g3 g0' g1' g2' kp2
   have c1':=c1
   have c2':=c2
   unfold vwB at c1'
   unfold prB at c2'
   refine AW.seq (AW.ofx [(3,12,[4,3,5])] mixed (by kernel_rfl) ?_)
   simp [c2']
   refine qc.pure hO rfl rfl ?_
   simp
   rw [qy rfl]
   have hpc:Bk.cells ([V.sc (.int .i64 oc.l),V.sc (.int .i64 oc.x),V.sc (.int .i64 oc.y)].map SV.v)=ceB oc:=rfl
   rw [hpc]
   have e1:=hget (L := [ceB oc]) c1
   have e2:=hget (L := [ceB oc]) c2
   have e3:=hget (L := [ceB oc]) c3
   have e4:(H2 ++ [ceB oc])[H2.length]? = some (ceB oc):=by simp
   have hK3:=hK2.app (L := [ceB oc])
   clear c1 c2 c3 hK2
   generalize H2 ++ [ceB oc]=H3 at *
   generalize H2.length=i4 at *
   unfold ceB at e4
   refine AW.sub [(4,.v (.ptr i1 0)),(5,.v (.ptr i2 0)),(6,.v (.ptr i3 0)),(8,.v (.sc (.int .i64 lv))),(9,.v (.ptr i4 0)),(7,.v (.sc (.bool false)))] (by simp [YW,qp]) ?_
   refine AW.seq (AW.ofx [(3,12,[4,3,5])] mixed (by kernel_rfl) ?_)
   simp [e4]
   refine qc.pure hB rfl rfl ?_
   simp
   rw [qy rfl]
   have hpr:Bk.cells ([V.sc (.int .i64 bx.x0),V.sc (.int .i64 bx.y0),V.sc (.int .i64 bx.x1),V.sc (.int .i64 bx.y1)].map SV.v)=reB bx:=rfl
   rw [hpr]
   have f1:=hget (L := [reB bx]) e1
   have f2:=hget (L := [reB bx]) e2
   have f3:=hget (L := [reB bx]) e3
   have f4:(H3 ++ [reB bx])[H3.length]? = some (reB bx):=by simp
   have hK4:=hK3.app (L := [reB bx])
   clear e1 e2 e3 e4 hK3
   generalize H3 ++ [reB bx]=H4 at *
   generalize H3.length=i5 at *
   have hi3':i3<H4.length:=(List.getElem?_eq_some_iff.1 f3).1
   have hgs':∀ K,(H4.set i3 K)[i3]? = some K:=fun K=>List.getElem?_set_self hi3'
   have f3':=f3
   try unfold vwB at f1
   try unfold prB at f2
   try unfold seB at f3'
   try unfold reB at f4
   refine AW.seq (AW.ofx [(3,12,[4,3,5])] mixed (by kernel_rfl) ?_)
   simp [f1,f2,f4]
   refine qc.pure hSh rfl rfl ?_
   simp [f3',hst f3]
   refine AW.ofx [(3,12,[4,3,5])] mixed (by kernel_rfl) ?_
   simp [hgs']
   exact Kept.qcd hT hK4 (by omega)
def YX (s:Sh):Bk := .cells [.v (.sc (.int .i64 s.id)),.v (.sc (.int .i64 s.box.x0)),.v (.sc (.int .i64 s.box.y0)),.v (.sc (.int .i64 s.box.x1)),.v (.sc (.int .i64 s.box.y1)),.v (.sc (.int .i64 s.lab))]
def zmC (l:List Ru) (v:Vw) (x:Sh):Int:=qdu l v.ro v.ti x.lab x.box
def qjz (Z:Sh→Int) (v:Vw) (x:Sh):Option Se:=if vC v&&qo x.box then Zz v x.id (lvl v (Z x)) (vV x.box (lvl v (Z x))).1 else none
theorem of_all {l:List Ru} (ha:l.all qK=true) {ro ti la:Int} {r:Re} (hr:qo r=true):(if (yC ro ti la&&qo r)=true then ofP (JJ l ro ti la) r else 0)=qdu l ro ti la r:=by
 cases e:yC ro ti la with
 | true =>
  rw [hr,if_pos (by rfl)]
  exact of_doc ha hr
 | false =>
  rw [if_neg (by simp)]
  obtain ⟨_,x,y,_,h⟩:=ofR_is ha (ro:=ro) (ti:=ti) (la:=la) hr
  rw [← h,qbL e]
set_option maxHeartbeats 2000000 in
theorem plSeeC {l:List Ru} (hl:qae l) (v:Vw) (x:Sh) {t m:Nat} (r c:Nat) (es:List (Value×V)) (H:List Bk) (hT:Tab H t m l es) (hM:Xx l es) :
  AFn Tryz.prog 22 [wdC r c t,.agg v.cs,x.v] H fun y H'=>y=seW (qjz (zmC l v) v x)∧Jg l t m H H':=by
 have hRt:=WC v
 have hF:=Zk x.box
 have hZ:=fun H' es' hT' hM'=>gOf l v.ro v.ti x.lab x.box hl.len hl.n t m es' H' hT' hM'
 have hLv:=fun z=>qbD v z
 have hSh:=fun lv b=>qfb v x.id lv b
 unfold qjz zmC
 unfold Vw.cs at hRt hLv hSh ⊢
 unfold Re.v Re.cs at hF hZ hSh
 unfold wdC
 unfold Sh.v Sh.cs
 have hzz:qo x.box=true→(if (yC v.ro v.ti x.lab&&qo x.box)=true then ofP (JJ l v.ro v.ti x.lab) x.box else 0)=qdu l v.ro v.ti x.lab x.box:=of_all hl.all
 generalize (if (yC v.ro v.ti x.lab&&qo x.box)=true then ofP (JJ l v.ro v.ti x.lab) x.box else 0)=zz at *
 refine AFn.intro (fn:=Tryz.f22) (by kernel_rfl) rfl (by kernel_rfl) (by simp) ?_
 simp only [Tryz.f22,qj]
 refine AW.seq (AW.ofx [(3,12,[4,3,5])] mixed (by kernel_rfl) ?_)
 simp
 have hk1:yQ m H (H ++ [wdB r c t,vwB v,YX x,seB qw]) := .app
 have g0:(H ++ [wdB r c t,vwB v,YX x,seB qw])[H.length]? = some (wdB r c t):=by simp
 have g1:(H ++ [wdB r c t,vwB v,YX x,seB qw])[H.length+1]? = some (vwB v):=by simp
 have g2:(H ++ [wdB r c t,vwB v,YX x,seB qw])[H.length+2]? = some (YX x):=by simp
 have g3:(H ++ [wdB r c t,vwB v,YX x,seB qw])[H.length+3]? = some (seB qw):=by simp
 have hT1:Tab (H ++ [wdB r c t,vwB v,YX x,seB qw]) t m l es:=hT.stays .app
 have hml:=(List.getElem?_eq_some_iff.1 hT.m).1
 change AW _ _ _ _ ⟨_,H ++ [wdB r c t,vwB v,YX x,seB qw]⟩
 generalize H ++ [wdB r c t,vwB v,YX x,seB qw]=H1 at *
 have d0:H.length≠m:=by omega
 have d1:H.length+1≠m:=by omega
 have d2:H.length+2≠m:=by omega
 have d3:H.length+3≠m:=by omega
 have hil:H.length≤H.length+3:=by omega
 generalize H.length+1=i1 at *
 generalize H.length+2=i2 at *
 generalize H.length+3=i3 at *
 generalize hi0:H.length=i0 at *
 have hi3:i3<H1.length:=(List.getElem?_eq_some_iff.1 g3).1
 have hst:∀ {H2},H2[i3]? = some (seB qw)→∀ a b c d e f,setCells H2 i3 0 [a,b,c,d,e,f]=H2.set i3 (.cells [.v a,.v b,.v c,.v d,.v e,.v f]):=fun h a b c d e f=>by
  unfold seB at h
  rw [setCells_eq h (by simp)]
  rfl
 have g1':=g1
 have g2':=g2
 unfold vwB at g1'
 unfold YX at g2'
 have hend:∀ K,Jg l t m H (H1.set i3 K):=fun K=>Jg.qcd hT ⟨⟨es,hT1,hM⟩,hk1⟩ (by omega)
 have hgs:∀ K,(H1.set i3 K)[i3]? = some K:=fun K=>List.getElem?_set_self hi3
 refine AW.seq (AW.ofx [(3,12,[4,3,5])] mixed (by kernel_rfl) ?_)
 simp [g1',g2']
 refine qc.pure hRt rfl rfl ?_
 cases hr:vC v with
 | false =>
  have g3':=g3
  unfold seB at g3'
  simp [g1',g2',g3',hst g3,hgs]
  exact ⟨by simp [seW,Se.cs,qw],hend _⟩
 | true =>
  simp [g1',g2']
  refine qc.pure hF rfl rfl ?_
  cases hf:qo x.box with
  | false =>
   have g3':=g3
   unfold seB at g3'
   simp [g1',g2',g3',hst g3,hgs]
   exact ⟨by simp [seW,Se.cs,qw],hend _⟩
  | true =>
   rw [hzz hf] at hZ
   clear hzz
   generalize qdu l v.ro v.ti x.lab x.box=zz at *
   have g0':=g0
   unfold wdB at g0'
   simp [g1',g2']
   refine AW.seq (AW.ofx [(3,12,[4,3,5])] mixed (by kernel_rfl) ?_)
   simp [g0',g1',g2']
   refine qc.of (hZ _ _ hT1 hM) ?_
   rintro y H2 ⟨rfl,hK2⟩
   have kp2:=eq_true (hK2.w.qbe hT1)
   simp [g0',g1',g2',kp2]
   refine qc.pure (hLv zz) rfl rfl ?_
   simp [g0',g1',g2',kp2]
   generalize lvl v zz=lv at *
   have c1:=hK2.2.cells d1 g1
   have c2:=hK2.2.cells d2 g2
   have c3:=hK2.2.cells d3 g3
   have hK2:=Jg.trans hk1 hK2
   have hB:=psnap x.box lv
   generalize vV x.box lv=bx at *
   obtain ⟨bx,bok⟩:=bx
   simp only at hB ⊢
   have hSh:=hSh lv bx
   generalize Zz v x.id lv bx=sv at *
   unfold Re.v Re.cs at hB
   rw [Vq] at hSh ⊢
   clear hT1 hM hZ hend hgs hi3 g0 g1 g2 g3 g0' g1' g2' kp2
   have c1':=c1
   have c2':=c2
   unfold vwB at c1'
   unfold YX at c2'
   refine AW.seq (AW.ofx [(3,12,[4,3,5])] mixed (by kernel_rfl) ?_)
   simp [c2']
   refine qc.pure hB rfl rfl ?_
   simp
   rw [qy rfl]
   have hpr:Bk.cells ([V.sc (.int .i64 bx.x0),V.sc (.int .i64 bx.y0),V.sc (.int .i64 bx.x1),V.sc (.int .i64 bx.y1)].map SV.v)=reB bx:=rfl
   rw [hpr]
   have f1:=hget (L := [reB bx]) c1
   have f2:=hget (L := [reB bx]) c2
   have f3:=hget (L := [reB bx]) c3
   have f4:(H2 ++ [reB bx])[H2.length]? = some (reB bx):=by simp
   have hK4:=hK2.app (L := [reB bx])
   clear c1 c2 c3 hK2
   generalize H2 ++ [reB bx]=H4 at *
   generalize H2.length=i5 at *
   have hi3':i3<H4.length:=(List.getElem?_eq_some_iff.1 f3).1
   have hgs':∀ K,(H4.set i3 K)[i3]? = some K:=fun K=>List.getElem?_set_self hi3'
   have f3':=f3
   try unfold vwB at f1
   try unfold YX at f2
   try unfold seB at f3'
   try unfold reB at f4
   refine AW.seq (AW.ofx [(3,12,[4,3,5])] mixed (by kernel_rfl) ?_)
   simp [f1,f2,f4]
   refine qc.pure hSh rfl rfl ?_
   simp [f3',hst f3]
   refine AW.ofx [(3,12,[4,3,5])] mixed (by kernel_rfl) ?_
   simp [hgs']
   exact Jg.qcd hT hK4 (by omega)
def qiW (zs:List Se):SV := .own true 59 zs.length 6 (zs.flatMap Se.cs)
def Yi (zs:List Se):V := .sl zs.length 6 (zs.flatMap Se.cs)
theorem rowEt {es:List Ent} {k:Nat} (hk:k<es.length):AM.rowAt 3 (es.flatMap Zl) (k:Int) = [.sc (.int .u64 es[k].k),.sc (.int .u64 es[k].t),.sc (.int .i64 es[k].i)]:=ZV (enc:=Zl) (sz:=3) (fun _=>rfl) hk
def FsI (H0:List Bk) (f q m:Nat) (hs:List Ent) (X:List (Int×Se)) (k:Nat) (F:Fr) (H:List Bk):Prop :=
 H[f]? = some (.cells [.v (.ptr q 0),.v (.map m)])∧H[m]? = some (.map (X.map qcW))∧KpA (fun x=>x=q) H0 H∧F = [(0,.v (.ptr f 0)),(5,qiW ((hs.take k).map fun e=>VA X e.i)),(13,.v (qdm hs)),(14,.v (.sc (.int .i64 hs.length))),(15,.v (.sc (.int .i64 k)))]
set_option maxHeartbeats 4000000 in
theorem qjb {H:List Bk} {f q m:Nat} {X:List (Int×Se)} {hs:List Ent} (h1:H[f]? = some (.cells [.v (.ptr q 0),.v (.map m)])) (h2:H[m]? = some (.map (X.map qcW))) (hq:QQ H q hs) (hp:hs.Perm (X.map QK)) (hn:(X.map fun x=>x.2.id).Nodup) (hl:X.length≤100000) (mm:Int) :
  AFn Tryz.prog 56 [.ptr f 0,.sc (.int .i64 mm)] H fun y H'=>y=Yi ((hs.take mm.toNat).map fun e=>VA X e.i)∧KpA (fun x=>x=q) H H':=by
 have hlen:hs.length≤100000:=by rw [hp.length_eq,List.length_map]; exact hl
 have hD:=zDrain hq hlen mm
 have hmem:∀ e∈hs.take mm.toNat,∃ x∈X,e.i=x.2.id:=fun e he=>by
  obtain ⟨x,hx,rfl⟩:=List.mem_map.1 (hp.mem_iff.1 (List.mem_of_mem_take he))
  exact ⟨x,hx,rfl⟩
 have hfq:f≠q:=by
  rintro rfl
  obtain ⟨es,h3,_⟩:=hq
  rw [h1] at h3; cases h3
 have hmq:m≠q:=by
  rintro rfl
  obtain ⟨es,h3,_⟩:=hq
  rw [h2] at h3; cases h3
 have htl:(hs.take mm.toNat).length≤100000:=Nat.le_trans (List.length_take_le' _ _) hlen
 generalize hs.take mm.toNat=T at *
 clear hp hq hlen
 refine AFn.intro (fn:=Tryz.f56) (by kernel_rfl) rfl (by kernel_rfl) (by simp) ?_
 simp only [Tryz.f56,qj]
 refine AW.seq (AW.ofx [] mixed (by kernel_rfl) ?_)
 simp
 refine AW.seq (AW.ofx [] mixed (by kernel_rfl) ?_)
 simp
 refine AW.seq (AW.ofx [] mixed (by kernel_rfl) ?_)
 simp [h1]
 refine qc.of hD ?_
 rintro y H1 ⟨rfl,k1⟩
 have g1:=k1.cells hfq h1
 have g2:=k1 _ _ hmq h2
 unfold qdm
 simp
 refine AW.count T.length (FsI H f q m T X) ⟨_,?_,g1,g2,k1,rfl⟩ ?_
 ·simp [qD,qm,qp,q9,qiW,qdm]
 rintro k F H2 hk ⟨g1,g2,k2,rfl⟩
 have hkl:((T.take k).map fun e=>VA X e.i).length=k:=by rw [List.length_map,List.length_take]; omega
 unfold qdm qiW
 rw [hkl]
 refine AW.seq (AW.ofx [] mixed (by kernel_rfl) ?_)
 by_cases hlt:k<T.length
 ·simp [hlt]
  obtain ⟨x,hx,hxi⟩:=hmem T[k] (List.getElem_mem hlt)
  obtain ⟨j,hj⟩:=qiY (i:=0) hn hx
  have hlk:=qcD hn hx
  have htk:T.take (k+1)=T.take k ++ [T[k]]:=List.take_succ_eq_append_getElem hlt
  refine AW.ofx [] mixed (by kernel_rfl) ?_
  simp [rowEt hlt,hlt]
  rw [qy rfl]
  have hb:(H2 ++ [Bk.cells ([V.sc (.int .u64 T[k].k),V.sc (.int .u64 T[k].t),V.sc (.int .i64 T[k].i)].map SV.v)])[H2.length]? = some (.cells [.v (.sc (.int .u64 T[k].k)),.v (.sc (.int .u64 T[k].t)),.v (.sc (.int .i64 T[k].i))]):=by simp
  have e1:=hget (L := [Bk.cells ([V.sc (.int .u64 T[k].k),V.sc (.int .u64 T[k].t),V.sc (.int .i64 T[k].i)].map SV.v)]) g1
  have e2:=hget (L := [Bk.cells ([V.sc (.int .u64 T[k].k),V.sc (.int .u64 T[k].t),V.sc (.int .i64 T[k].i)].map SV.v)]) g2
  have k3:=k2.app (L := [Bk.cells ([V.sc (.int .u64 T[k].k),V.sc (.int .u64 T[k].t),V.sc (.int .i64 T[k].i)].map SV.v)])
  generalize H2 ++ [_]=H3 at *
  rw [hxi] at hb
  simp [hb,e1,e2,zvSe,hj,Se.cs]
  have ew:IntKind.i64.wrap ((k:Int)+1)=k+1:=wrap_i64 (by omega) (by omega)
  refine ⟨⟨by omega,by omega⟩,_,?_,e1,e2,k3,rfl⟩
  have hrow:((T.take (k+1)).map fun e=>VA X e.i)=((T.take k).map fun e=>VA X e.i) ++ [x.2]:=by rw [htk,List.map_append,List.map_singleton,hxi,hlk]
  rw [hrow]
  simp [qD,qm,qp,qiW,qdm,ew,Se.cs]
  omega
 ·simp [hlt]
  have hkT:k=T.length:=by omega
  refine AW.seq (AW.ofx [] mixed (by kernel_rfl) ?_)
  simp
  refine AW.seq (AW.ofx [] mixed (by kernel_rfl) ?_)
  simp [Yi,hkT]
  rw [List.take_of_length_le (by simp)]
  refine AW.ofx [] mixed (by kernel_rfl) ?_
  simp [Yi]
  exact k2
structure Tell (l:List Ru) (v:Vw) (t m g:Nat) (cap:List V) (zs:List Int) (J:List Int→List Bk→Prop) (T:Nat→Prop):Prop where
 tab:∀ D H,J D H→∃ es,Tab H t m l es∧Xx l es
 keep:∀ D H H',J D H→Kept l t m H H'→J D H'
 ex:V.zh cap=none
 tell:∀ k (hk:k<zs.length) H,lvl v zs[k]≠0→J (lvls v (zs.take k)) H→AFn Tryz.prog g (.sc (.int .i64 zs[k]) :: .sc (.int .i64 (lvl v zs[k]))::cap) H fun y H'=>y = .tup []∧J (lvls v (zs.take k) ++ [zs[k]]) H'∧Kp T H H'
theorem qaE (v:Vw) (zs:List Int) (z:Int):lvls v (zs ++ [z])=if lvl v z=0 then lvls v zs else lvls v zs ++ [z]:=by
 unfold lvls
 rw [List.filter_append]
 by_cases h:lvl v z=0
 ·simp [h]
 ·simp [h]
def LvP (v:Vw) (H0:List Bk) (T:Nat→Prop) (i0 i1 r c t g:Nat) (cap:List V) (zs:List Int) (J:List Int→List Bk→Prop) (k:Nat) (F:Fr) (H:List Bk):Prop :=
 J (lvls v (zs.take k)) H∧H[i0]? = some (wdB r c t)∧H[i1]? = some (vwB v)∧Kp T H0 H∧F = [(2,.v (.fn (.func g) [] cap)),(3,.v (.ptr i0 0)),(4,.v (.ptr i1 0)),(15,.v (slI zs)),(16,.v (.sc (.int .i64 zs.length))),(17,.v (.sc (.int .i64 k)))]
set_option maxHeartbeats 4000000 in
theorem qgw {l:List Ru} (hl:qae l) (v:Vw) {t m g:Nat} (r c:Nat) {cap:List V} {J:List Int→List Bk→Prop} {T:Nat→Prop} {H:List Bk} (zs:List Int) (hzs:zs=if yC v.ro v.ti 0 then XT (VT l v.ro v.ti 8) else []) (hlen:zs.length≤100000) (hT:Tell l v t m g cap zs J T) (hTl:∀ x,T x→x<H.length) (hTm:T m) (hJ:J [] H) :
  AFn Tryz.prog 50 [wdC r c t,.agg v.cs,.fn (.func g) [] cap] H fun y H'=>y = .tup []∧J (lvls v zs) H'∧Kp T H H':=by
 have hLv:=fun z=>qbD v z
 have hG:=fun H' es' hT' hM'=>gLevels l v.ro v.ti hl.len hl.n t m es' H' hT' hM'
 rw [← hzs] at hG
 have hex:=hT.ex
 unfold wdC
 unfold Vw.cs at hLv ⊢
 refine AFn.intro (fn:=Tryz.f50) (by kernel_rfl) rfl (by kernel_rfl) (by simp) ?_
 simp only [Tryz.f50,qj]
 refine AW.seq (AW.ofx [] mixed (by kernel_rfl) ?_)
 simp
 have kp1:Kept l t m H (H ++ [wdB r c t,vwB v]):=by
  obtain ⟨es,h1,h2⟩:=hT.tab _ _ hJ
  exact ⟨⟨es,h1.stays .app,h2⟩,.app⟩
 have hJ1:J [] (H ++ [wdB r c t,vwB v]):=hT.keep _ _ _ hJ kp1
 have kT1:Kp T H (H ++ [wdB r c t,vwB v]):=Kp.refl.app
 have g0:(H ++ [wdB r c t,vwB v])[H.length]? = some (wdB r c t):=by simp
 have g1:(H ++ [wdB r c t,vwB v])[H.length+1]? = some (vwB v):=by simp
 change AW _ _ _ _ ⟨_,H ++ [wdB r c t,vwB v]⟩
 generalize H ++ [wdB r c t,vwB v]=H1 at *
 have n0:¬ T H.length:=fun e=>by have:=hTl _ e; omega
 have n1:¬ T (H.length+1):=fun e=>by have:=hTl _ e; omega
 generalize H.length+1=i1 at *
 generalize H.length=i0 at *
 have g0':=g0
 have g1':=g1
 unfold wdB at g0'
 unfold vwB at g1'
 refine AW.scope (AW.seq (AW.ofx [] mixed (by kernel_rfl) ?_))
 simp
 refine AW.seq (AW.ofx [] mixed (by kernel_rfl) ?_)
 simp [g0',g1']
 obtain ⟨es1,t1,m1⟩:=hT.tab _ _ hJ1
 refine qc.of (hG _ _ t1 m1) ?_
 rintro y H2 ⟨rfl,hK2⟩
 have hJ2:=hT.keep _ _ _ hJ1 hK2
 have mne0:i0≠m:=fun e=>n0 (e▸hTm)
 have mne1:i1≠m:=fun e=>n1 (e▸hTm)
 have c0:=hK2.2.cells mne0 g0
 have c1:=hK2.2.cells mne1 g1
 have kT2:Kp T H H2:=kT1.trans (fun i b hi hb hn=>hK2.2 i b (fun e=>hi (e▸hTm)) hb hn)
 unfold slI
 simp [ints_len]
 refine AW.block (AW.count zs.length (LvP v H T i0 i1 r c t g cap zs J) ⟨_,?_,by simpa [lvls] using hJ2,c0,c1,kT2,rfl⟩ ?_)
 ·simp [qD,qm,qp,slI]
 clear g0 g1 g0' g1' hJ1 hJ2 hK2 kT1 kT2 c0 c1 t1 m1
 rintro k F H3 hk ⟨hJ3,c0,c1,kT3,rfl⟩
 have c0':=c0
 have c1':=c1
 unfold wdB at c0'
 unfold vwB at c1'
 unfold slI
 refine AW.seq (AW.ofx [] mixed (by kernel_rfl) ?_)
 by_cases hlt:k<zs.length
 ·have ew:IntKind.i64.wrap ((k:Int)+1)=k+1:=wrap_i64 (by omega) (by omega)
  have htk:zs.take (k+1)=zs.take k ++ [zs[k]]:=List.take_succ_eq_append_getElem hlt
  have hlk:lvls v (zs.take (k+1))=if lvl v zs[k]=0 then lvls v (zs.take k) else lvls v (zs.take k) ++ [zs[k]]:=by rw [htk,qaE]
  simp [hlt]
  refine AW.ofx [] mixed (by kernel_rfl) ?_
  simp [Wy hlt,hlt,c1']
  refine qc.pure (hLv zs[k]) rfl rfl ?_
  by_cases h0:lvl v zs[k]=0
  ·simp [h0,ew]
   refine ⟨_,?_,by rw [hlk,if_pos h0]; exact hJ3,c0,c1,kT3,rfl⟩
   simp [qD,qm,qp,slI]
  ·have h0':(lvl v zs[k]==0)=false:=by simpa using h0
   simp [h0,h0',hex]
   refine qc.of (hT.tell k hlt _ h0 hJ3) ?_
   rintro y H4 ⟨rfl,hJ4,k4⟩
   simp [ew]
   refine ⟨_,?_,by rw [hlk,if_neg h0]; exact hJ4,k4.cells n0 c0,k4.cells n1 c1,kT3.trans k4,rfl⟩
   simp [qD,qm,qp,slI]
 ·simp [hlt]
  have hkT:k=zs.length:=by omega
  refine AW.seq (AW.ofx [] mixed (by kernel_rfl) ?_)
  simp
  rw [hkT,List.take_length] at hJ3
  exact ⟨rfl,hJ3,kT3⟩
theorem qgE (v:Vw) (z:Int):(if z<v.g.zoom then z else v.g.zoom)=lvl v z:=by
 unfold lvl
 split <;> split <;> omega
set_option maxHeartbeats 2000000 in
theorem dSee {l:List Ru} (hl:l.length≤9223372036854775807) (hb:∀ r∈l,r.boxes.length≤9223372036854775807) (v:Vw) (x:Pr):PFn Tryz.prog 21 [slU l,.agg v.cs,x.v] (seW (vR (zmP l v) v x)):=by
 have hRt:=qif v
 have hF:=qe2 x.at_
 have hZ:=qiM l v.ro v.ti x.lab x.at_ hl hb
 have hLe:=fun z=>dLess z v.g.zoom
 simp only [qgE] at hLe
 have hSh:=fun lv b=>dShown v x.id lv b
 have hcl:=yc l
 unfold vR zmP
 unfold slU at hZ hcl ⊢
 unfold Vw.cs at hRt hSh ⊢
 unfold Pt.v Pt.cs at hF hZ
 unfold Re.v Re.cs at hSh
 unfold Pr.v Pr.cs
 generalize jS l v.ro v.ti x.lab x.at_=zz at *
 have hLe:=hLe zz
 refine AFn.intro (fn:=Tryz.f21) (by kernel_rfl) rfl (by kernel_rfl) (by simp) ?_
 simp only [Tryz.f21,qj]
 refine AW.seq (AW.ofx [(3,13,[0,4,5])] mixed (by kernel_rfl) ?_)
 simp
 refine AW.seq (AW.ofx [(3,13,[0,4,5])] mixed (by kernel_rfl) ?_)
 simp
 refine qc.pure hRt rfl rfl ?_
 cases hr:vC v with
 | false =>
  simp [setCells,qh]
  simp [seW,Se.cs,qw]
 | true =>
  simp
  refine qc.pure hF rfl rfl ?_
  cases hf:fits x.at_ with
  | false =>
   simp [setCells,qh]
   simp [seW,Se.cs,qw]
  | true =>
   simp
   generalize hlv:lvl v zz=lv at *
   have hO:=refOf x.at_ lv
   have hB:=fun c=>refBox c
   generalize ofR x.at_ lv=oc at *
   obtain ⟨oc,ok⟩:=oc
   simp only at hO ⊢
   have hB:=hB oc
   generalize Qs oc=bx at *
   obtain ⟨bx,bok⟩:=bx
   simp only at hB ⊢
   have hSh:=hSh lv bx
   generalize Zz v x.id lv bx=sv at *
   unfold Pt.v Pt.cs Ce.v Ce.cs at hO
   unfold Ce.v Ce.cs Re.v Re.cs at hB
   rw [Vq] at hSh ⊢
   refine AW.seq (AW.ofx [(3,13,[0,4,5])] mixed (by kernel_rfl) ?_)
   simp
   refine qc.pure hZ (by simpa [V.qC,V.closed] using hcl) rfl ?_
   simp
   refine qc.pure hLe rfl rfl ?_
   simp
   refine AW.seq (AW.ofx [(3,13,[0,4,5])] mixed (by kernel_rfl) ?_)
   simp
   refine qc.pure hO rfl rfl ?_
   simp [setCells,qh]
   refine AW.seq (AW.ofx [(3,13,[0,4,5])] mixed (by kernel_rfl) ?_)
   simp
   refine qc.pure hB rfl rfl ?_
   simp [setCells,qh]
   refine AW.seq (AW.ofx [(3,13,[0,4,5])] mixed (by kernel_rfl) ?_)
   simp
   refine qc.pure hSh rfl rfl ?_
   simp [setCells,qh]
   refine AW.ofx [(3,13,[0,4,5])] mixed (by kernel_rfl) ?_
   simp
set_option maxHeartbeats 2000000 in
theorem dSeeC {l:List Ru} (hl:l.length≤1000) (hn:(qz l).length≤1000) (hbr:∀ b∈qz l,qo b=true) (v:Vw) (x:Sh):PFn Tryz.prog 23 [slU l,.agg v.cs,x.v] (seW (qjz (zmC l v) v x)):=by
 have hRt:=qif v
 have hF:=Jp x.box
 have hZ:=refOfP l v.ro v.ti x.lab x.box hl hn hbr
 have hLe:=fun z=>dLess z v.g.zoom
 simp only [qgE] at hLe
 have hSh:=fun lv b=>dShown v x.id lv b
 have hcl:=yc l
 unfold qjz zmC
 unfold slU at hZ hcl ⊢
 unfold Vw.cs at hRt hSh ⊢
 unfold Re.v Re.cs at hF hZ hSh
 unfold Sh.v Sh.cs
 generalize qdu l v.ro v.ti x.lab x.box=zz at *
 have hLe:=hLe zz
 refine AFn.intro (fn:=Tryz.f23) (by kernel_rfl) rfl (by kernel_rfl) (by simp) ?_
 simp only [Tryz.f23,qj]
 refine AW.seq (AW.ofx [(3,13,[0,4,5])] mixed (by kernel_rfl) ?_)
 simp
 refine AW.seq (AW.ofx [(3,13,[0,4,5])] mixed (by kernel_rfl) ?_)
 simp
 refine qc.pure hRt rfl rfl ?_
 cases hr:vC v with
 | false =>
  simp [setCells,qh]
  simp [seW,Se.cs,qw]
 | true =>
  simp
  refine qc.pure hF rfl rfl ?_
  cases hf:qo x.box with
  | false =>
   simp [setCells,qh]
   simp [seW,Se.cs,qw]
  | true =>
   have hZ:=hZ hf
   simp
   generalize hlv:lvl v zz=lv at *
   have hB:=refSnap x.box lv
   generalize vV x.box lv=bx at *
   obtain ⟨bx,bok⟩:=bx
   simp only at hB ⊢
   have hSh:=hSh lv bx
   generalize Zz v x.id lv bx=sv at *
   unfold Re.v Re.cs at hB
   rw [Vq] at hSh ⊢
   refine AW.seq (AW.ofx [(3,13,[0,4,5])] mixed (by kernel_rfl) ?_)
   simp
   refine qc.pure hZ (by simpa [V.qC,V.closed] using hcl) rfl ?_
   simp
   refine qc.pure hLe rfl rfl ?_
   simp
   refine AW.seq (AW.ofx [(3,13,[0,4,5])] mixed (by kernel_rfl) ?_)
   simp
   refine qc.pure hB rfl rfl ?_
   simp [setCells,qh]
   refine AW.seq (AW.ofx [(3,13,[0,4,5])] mixed (by kernel_rfl) ?_)
   simp
   refine qc.pure hSh rfl rfl ?_
   simp [setCells,qh]
   refine AW.ofx [(3,13,[0,4,5])] mixed (by kernel_rfl) ?_
   simp
def Jc (v:Vw) (m:Int) (b:Bool):Int:=if vC v&&b&&decide (0≤m)&&decide (m≤64) then 0 else 1
set_option maxHeartbeats 2000000 in
theorem plAsk (v:Vw) (m:Int) (b:Bool) (r c t:Nat) (H:List Bk):AFn Tryz.prog 47 [wdC r c t,.agg v.cs,.sc (.int .i64 m),.sc (.bool b)] H fun y H'=>y = .sc (.int .i64 (Jc v m b))∧Kp NoB H H':=by
 have hR:=WC v
 unfold Jc
 unfold wdC
 unfold Vw.cs at hR ⊢
 generalize vC v=vr at *
 refine AFn.intro (fn:=Tryz.f47) (by kernel_rfl) rfl (by kernel_rfl) (by simp) ?_
 simp only [Tryz.f47,qj]
 refine AW.seq (AW.ofx [] mixed (by kernel_rfl) ?_)
 simp
 have k1:Kp NoB H (H ++ [wdB r c t,vwB v]):=Kp.refl.app
 have g0:(H ++ [wdB r c t,vwB v])[H.length]? = some (wdB r c t):=by simp
 have g1:(H ++ [wdB r c t,vwB v])[H.length+1]? = some (vwB v):=by simp
 change AW _ _ _ _ ⟨_,H ++ [wdB r c t,vwB v]⟩
 generalize H ++ [wdB r c t,vwB v]=H1 at *
 generalize H.length+1=i1 at *
 generalize H.length=i0 at *
 unfold wdB at g0
 unfold vwB at g1
 refine AW.seq (AW.ofx [] mixed (by kernel_rfl) ?_)
 simp [g0]
 refine AW.seq (AW.ofx [] mixed (by kernel_rfl) ?_)
 simp [g1]
 refine qc.pure hR rfl rfl ?_
 cases vr with
 | false =>
  simp
  exact k1
 | true =>
  cases b with
  | false =>
   simp
   exact k1
  | true =>
   by_cases h0:0≤m
   rotate_left
   ·have d0:m<0:=by omega
    simp [h0,d0]
    exact k1
   have d0:¬ m<0:=by omega
   by_cases h1:m≤64
   ·have d1:¬ 64<m:=by omega
    simp [h0,d0,h1,d1]
    refine AW.ofx [] mixed (by kernel_rfl) ?_
    simp
    exact k1
   ·have d1:64<m:=by omega
    simp [h0,d0,h1,d1]
    exact k1
structure WJ (l:List Ru) (v:Vw) (S:List Pr) (Tt:Nat→Prop) (t m r c b f q mf:Nat) (X:List (Int×Se)) (H:List Bk):Prop where
 tab:∃ es,Tab H t m l es∧Xx l es
 tr:TrP H r b S Tt
 fd:Fnd H f q mf X
structure WD (Tt:Nat→Prop) (m q mf:Nat):Prop where
 tm:∀ x,Tt x→x≠m
 tq:∀ x,Tt x→x≠q
 tf:∀ x,Tt x→x≠mf
 mm:m≠mf
section
variable {l:List Ru} {v:Vw} {S:List Pr} {Tt:Nat→Prop} {t m r c b f q mf:Nat} {X:List (Int×Se)} {H H':List Bk}
theorem qE {i j:Nat} {a:List SV} {es:List (Value×V)} (h:H[i]? = some (.cells a)) (h':H[j]? = some (.map es)):i≠j:=by
 rintro rfl
 rw [h] at h'
 cases h'
theorem qdV {i q:Nat} {a:V} {cs:List SV} {hs:List Ent} (h:H[i]? = some (.cells (.v a::cs))) (h':QQ H q hs):i≠q:=by
 rintro rfl
 obtain ⟨es,h',_⟩:=h'
 rw [h] at h'
 cases h'
theorem WJ.kept (hd:WD Tt m q mf) (h:WJ l v S Tt t m r c b f q mf X H) (k:Kept l t m H H'):WJ l v S Tt t m r c b f q mf X H':=by
 obtain ⟨⟨es,h1,h2⟩,h3,h4⟩:=h
 obtain ⟨hs,hq,_⟩:=h4.q
 obtain ⟨es',hq1,_⟩:=hq
 have k2:Kp (fun x=>x=m) H H':=fun i b hi hb hn=>k.2 i b hi hb hn
 exact ⟨k.1,h3.keep k2 hd.tm,h4.keep k2 (qE h4.f h1.m) (qE hq1 h1.m) hd.mm.symm⟩
theorem WJ.app {L:List Bk} (h:WJ l v S Tt t m r c b f q mf X H):WJ l v S Tt t m r c b f q mf X (H++L):=by
 obtain ⟨⟨es,h1,h2⟩,h3,h4⟩:=h
 exact ⟨⟨es,h1.stays .app,h2⟩,h3.app,h4.app⟩
theorem WJ.YE (h:WJ l v S Tt t m r c b f q mf X H) (k:Kp NoB H H'):WJ l v S Tt t m r c b f q mf X H':=by
 obtain ⟨⟨es,h1,h2⟩,h3,h4⟩:=h
 exact ⟨⟨es,⟨k.cells id h1.t,k.map id h1.m⟩,h2⟩,h3.YE k,h4.keep k id id id⟩
theorem WJ.put {Y:List (Int×Se)} (hd:WD Tt m q mf) (h:WJ l v S Tt t m r c b f q mf X H) (k:Kp (fun x=>x=q∨x=mf) H H') (hY:Fnd H' f q mf Y):WJ l v S Tt t m r c b f q mf Y H':=by
 obtain ⟨⟨es,h1,h2⟩,h3,h4⟩:=h
 obtain ⟨hs,hq,_⟩:=h4.q
 have n1:t≠q:=by
  rintro rfl
  obtain ⟨es',hq,_⟩:=hq
  have:=h1.t.symm.trans hq
  cases this
 obtain ⟨es',hq1,_⟩:=hq
 exact ⟨⟨es,⟨k.cells (fun e=>e.elim n1 (fun e=>qE h1.t h4.m e)) h1.t,k.map (fun e=>e.elim (fun e=>qE hq1 h1.m e.symm) hd.mm) h1.m⟩,h2⟩,h3.keep k fun x hx e=>e.elim (hd.tq x hx) (hd.tf x hx),hY⟩
end
def yF {α:Type} (see:α→Option Se) (Z:α→Int) (z:Int) (L:List α):List (Int×Se):=((L.filter fun x=>decide (Z x=z)).filterMap see).map fun s=>(0,s)
theorem qfX {α:Type} (see:α→Option Se) (Z:α→Int) (z:Int) (L:List α) (x:α):yF see Z z (L ++ [x])=yF see Z z L++if Z x=z then (match see x with | some s => [((0:Int),s)] | none => []) else []:=by
 unfold yF
 rw [List.filter_append,List.filterMap_append,List.map_append]
 by_cases h:Z x=z
 ·cases hs:see x <;> simp [h,hs]
 ·simp [h]
theorem qhB {α:Type} (see:α→Option Se) (Z:α→Int) (z:Int) (L M:List α):yF see Z z (L++M)=yF see Z z L++yF see Z z M:=by simp [yF]
theorem qbY {α:Type} (see:α→Option Se) (Z:α→Int) (z:Int) (L:List α):(yF see Z z L).length≤L.length:=by
 unfold yF
 rw [List.length_map]
 exact Nat.le_trans (List.length_filterMap_le _ _) (List.length_filter_le _ _)
theorem qcz {X:List (Int×Se)} {x:Int×Se} (h:((X ++ [x]).map fun x=>x.2.id).Nodup):∀ y∈X,y.2.id≠x.2.id:=fun y hy e=>by
 rw [List.map_append,List.nodup_append] at h
 exact h.2.2 _ (List.mem_map.2 ⟨y,hy,rfl⟩) _ (by simp) e
def WcI (l:List Ru) (v:Vw) (S:List Pr) (Tt:Nat→Prop) (t m r c b f q mf c2 c3 c4 c5:Nat) (rc:Re) (X:List (Int×Se)) (z:Int) (L:List Pr) (H0:List Bk) (k:Nat) (F:Fr) (H:List Bk):Prop :=
 WJ l v S Tt t m r c b f q mf (X++yF (vR (zmP l v) v) (zmP l v) z (L.take k)) H∧H[c2]? = some (reB rc)∧H[c3]? = some (wdB r c t)∧H[c4]? = some (vwB v)∧H[c5]? = some (.cells [.v (.ptr f 0)])∧Kp (fun x=>x=q∨x=mf∨x=m) H0 H ∧
  F = [(0,.v (.sc (.int .i64 z))),(2,.v (.ptr c2 0)),(3,.v (.ptr c3 0)),(4,.v (.ptr c4 0)),(5,.v (.ptr c5 0)),(23,.v (lV L)),(24,.v (.sc (.int .i64 L.length))),(25,.v (.sc (.int .i64 k)))]
set_option maxHeartbeats 4000000 in
theorem plWin1 {l:List Ru} (hl:qae l) (v:Vw) {S:List Pr} {Tt:Nat→Prop} {t m r c b f q mf c2 c3 c4 c5:Nat} {rc:Re} {X:List (Int×Se)} {H:List Bk} (hd:WD Tt m q mf) (h:WJ l v S Tt t m r c b f q mf X H)
  (h2:H[c2]? = some (reB rc)) (h3:H[c3]? = some (wdB r c t)) (h4:H[c4]? = some (vwB v)) (h5:H[c5]? = some (.cells [.v (.ptr f 0)])) (z lv:Int)
  (hnd:((X++yF (vR (zmP l v) v) (zmP l v) z (VN (vV rc lv).1 S)).map fun x=>x.2.id).Nodup) (hlen:X.length+(VN (vV rc lv).1 S).length≤100000) :
  AFn Tryz.prog 51 [.sc (.int .i64 z),.sc (.int .i64 lv),.ptr c2 0,.ptr c3 0,.ptr c4 0,.ptr c5 0] H fun y H'=>y = .tup []∧WJ l v S Tt t m r c b f q mf (X++yF (vR (zmP l v) v) (zmP l v) z (VN (vV rc lv).1 S)) H'∧Kp (fun x=>x=q∨x=mf∨x=m) H H':=by
 have hS:=psnap rc lv
 have h2':=h2
 unfold reB at h2'
 unfold Re.v Re.cs at hS
 generalize vV rc lv=wd at *
 obtain ⟨w,wok⟩:=wd
 simp only at hS hnd hlen ⊢
 refine AFn.intro (fn:=Tryz.f51) (by kernel_rfl) rfl (by kernel_rfl) (by simp) ?_
 simp only [Tryz.f51,qj]
 refine AW.seq (AW.ofx [] mixed (by kernel_rfl) ?_)
 simp [h2']
 refine qc.pure hS rfl rfl ?_
 simp
 rw [qy rfl]
 have hpr:Bk.cells ([V.sc (.int .i64 w.x0),V.sc (.int .i64 w.y0),V.sc (.int .i64 w.x1),V.sc (.int .i64 w.y1)].map SV.v)=reB w:=rfl
 rw [hpr]
 have e2:=hget (L := [reB w]) h2
 have e3:=hget (L := [reB w]) h3
 have e4:=hget (L := [reB w]) h4
 have e5:=hget (L := [reB w]) h5
 have e6:(H ++ [reB w])[H.length]? = some (reB w):=by simp
 have hJ:=h.app (L := [reB w])
 have kp:Kp (fun x=>x=q∨x=mf∨x=m) H (H ++ [reB w]):=Kp.refl.app
 generalize H ++ [reB w]=H1 at *
 generalize H.length=i0 at *
 have hW:=pWindow hJ.tr w
 unfold Re.v Re.cs at hW
 generalize VN w S=L at *
 have e3':=e3
 unfold wdB at e3'
 unfold reB at e6
 refine AW.seq (AW.ofx [] mixed (by kernel_rfl) ?_)
 simp [e3',e6]
 refine qc.of hW ?_
 rintro y H2 ⟨rfl,k2⟩
 have f2:=k2.cells id e2
 have f3:=k2.cells id e3
 have f4:=k2.cells id e4
 have f5:=k2.cells id e5
 have hJ2:=hJ.YE k2
 have kp2:=kp.trans (k2.weak (J:=fun x=>x=q∨x=mf∨x=m) fun x hx=>hx.elim)
 unfold lV
 simp
 refine AW.block (AW.count L.length (WcI l v S Tt t m r c b f q mf c2 c3 c4 c5 rc X z L H) ⟨_,?_,by simpa [yF] using hJ2,f2,f3,f4,f5,kp2,rfl⟩ ?_)
 ·simp [qD,qm,qp,lV]
 have hZ:=fun H' la p es' hT' hM'=>gZoom l v.ro v.ti la p hl.len hl.n t m es' H' hT' hM'
 simp only [qhs hl.all] at hZ
 clear hJ hJ2 e2 e3 e3' e4 e5 e6 f2 f3 f4 f5 kp kp2 k2 hW hS h2 h3 h4 h5 h2' hpr
 rintro k F H3 hk ⟨hJ3,g2,g3,g4,g5,kp3,rfl⟩
 unfold lV
 refine AW.seq (AW.ofx [] mixed (by kernel_rfl) ?_)
 by_cases hlt:k<L.length
 ·have ew:IntKind.i64.wrap ((k:Int)+1)=k+1:=wrap_i64 (by omega) (by omega)
  have htk:L.take (k+1)=L.take k ++ [L[k]]:=List.take_succ_eq_append_getElem hlt
  simp [hlt]
  refine AW.ofx [] mixed (by kernel_rfl) ?_
  simp [qiJ hlt,hlt]
  rw [qy rfl]
  have hpr:Bk.cells ([V.sc (.int .i64 L[k].id),V.sc (.int .i64 L[k].at_.x),V.sc (.int .i64 L[k].at_.y),V.sc (.int .i64 L[k].lab)].map SV.v)=prB L[k]:=rfl
  rw [hpr]
  have e2:=hget (L := [prB L[k]]) g2
  have e3:=hget (L := [prB L[k]]) g3
  have e4:=hget (L := [prB L[k]]) g4
  have e5:=hget (L := [prB L[k]]) g5
  have e6:(H3 ++ [prB L[k]])[H3.length]? = some (prB L[k]):=by simp
  have hJ:=hJ3.app (L := [prB L[k]])
  have kp:=kp3.app (L := [prB L[k]])
  clear hJ3 g2 g3 g4 g5 kp3
  generalize H3 ++ [prB L[k]]=H1 at *
  generalize H3.length=i0 at *
  have e3':=e3
  have e4':=e4
  have e6':=e6
  unfold wdB at e3'
  unfold vwB at e4'
  unfold prB at e6'
  simp [e3',e4',e6']
  obtain ⟨es,t1,m1⟩:=hJ.tab
  have hz1:=hZ H1 L[k].lab L[k].at_ es t1 m1
  have hzz:jS l v.ro v.ti L[k].lab L[k].at_=zmP l v L[k]:=rfl
  rw [hzz] at hz1
  unfold Pt.v Pt.cs at hz1
  refine qc.of hz1 ?_
  rintro y H4 ⟨rfl,kK⟩
  have f2:=kK.2.cells (qE e2 t1.m) e2
  have f3:=kK.2.cells (qE e3 t1.m) e3
  have f4:=kK.2.cells (qE e4 t1.m) e4
  have f5:=kK.2.cells (qE e5 t1.m) e5
  have f6:=kK.2.cells (qE e6 t1.m) e6
  have hJ4:=hJ.kept hd kK
  have kp4:Kp (fun x=>x=q∨x=mf∨x=m) H H4:=kp.trans (fun i b hi hb hn=>kK.2 i b (fun e=>hi (.inr (.inr e))) hb hn)
  clear hJ e2 e3 e4 e5 e6 kp e3' e4' e6' kK hz1 t1 m1
  have hsn:=qfX (vR (zmP l v) v) (zmP l v) z (L.take k) L[k]
  rw [← htk] at hsn
  by_cases hz:zmP l v L[k]=z
  rotate_left
  ·have hz':(zmP l v L[k] != z)=true:=by simpa using hz
   have hz2:(zmP l v L[k]==z)=false:=by simpa using hz
   rw [if_neg hz,List.append_nil] at hsn
   simp [hz,hz',hz2,ew]
   refine ⟨_,?_,by rw [hsn]; exact hJ4,f2,f3,f4,f5,kp4,rfl⟩
   simp [qD,qm,qp,lV]
  have hz':(zmP l v L[k] != z)=false:=by simpa using hz
  have hz2:(zmP l v L[k]==z)=true:=by simpa using hz
  rw [if_pos hz] at hsn
  have f3':=f3
  have f4':=f4
  have f6':=f6
  unfold wdB at f3'
  unfold vwB at f4'
  unfold prB at f6'
  simp [hz,hz',hz2,ew,f3',f4',f6']
  obtain ⟨es,t1,m1⟩:=hJ4.tab
  have hSe:=qiS hl v L[k] r c es H4 t1 m1
  have hlast:∀ s,vR (zmP l v) v L[k]=some s→∀ x∈X++yF (vR (zmP l v) v) (zmP l v) z (L.take k),x.2.id≠s.id:=fun s hs=>by
   rw [hs] at hsn
   simp only at hsn
   refine qcz (x:=(0,s)) ?_
   rw [List.append_assoc,← hsn]
   have e:yF (vR (zmP l v) v) (zmP l v) z L=yF (vR (zmP l v) v) (zmP l v) z (L.take (k+1))++yF (vR (zmP l v) v) (zmP l v) z (L.drop (k+1)):=by rw [← qhB,List.take_append_drop]
   rw [e,← List.append_assoc,List.map_append] at hnd
   exact (List.nodup_append.1 hnd).1
  have hlen1:(X++yF (vR (zmP l v) v) (zmP l v) z (L.take k)).length≤100000:=by
   have:=qbY (vR (zmP l v) v) (zmP l v) z (L.take k)
   rw [List.length_take] at this
   rw [List.length_append]
   omega
  generalize vR (zmP l v) v L[k]=o at *
  unfold wdC Vw.cs Pr.v Pr.cs at hSe
  rw [Vq] at hSe
  refine qc.of hSe ?_
  rintro y H5 ⟨rfl,kK⟩
  have e2:=kK.2.cells (qE f2 t1.m) f2
  have e3:=kK.2.cells (qE f3 t1.m) f3
  have e4:=kK.2.cells (qE f4 t1.m) f4
  have e5:=kK.2.cells (qE f5 t1.m) f5
  have hJ5:=hJ4.kept hd kK
  have kp5:Kp (fun x=>x=q∨x=mf∨x=m) H H5:=kp4.trans (fun i b hi hb hn=>kK.2 i b (fun e=>hi (.inr (.inr e))) hb hn)
  clear f2 f3 f4 f5 f6 f3' f4' f6' hJ4 kp4 kK hSe
  simp
  rw [qy rfl]
  have hpx:Bk.cells ([V.sc (.int .i64 (o.getD qw).id),V.sc (.int .i64 (o.getD qw).lv),V.sc (.int .i64 (o.getD qw).box.x0),V.sc (.int .i64 (o.getD qw).box.y0),V.sc (.int .i64 (o.getD qw).box.x1),V.sc (.int .i64 (o.getD qw).box.y1)].map SV.v)=seB (o.getD qw):=rfl
  rw [hpx]
  have f2:=hget (L := [seB (o.getD qw)]) e2
  have f3:=hget (L := [seB (o.getD qw)]) e3
  have f4:=hget (L := [seB (o.getD qw)]) e4
  have f5:=hget (L := [seB (o.getD qw)]) e5
  have f6:(H5 ++ [seB (o.getD qw)])[H5.length]? = some (seB (o.getD qw)):=by simp
  have hJ6:=hJ5.app (L := [seB (o.getD qw)])
  have kp6:=kp5.app (L := [seB (o.getD qw)])
  clear e2 e3 e4 e5 hJ5 kp5
  generalize H5 ++ [seB (o.getD qw)]=H6 at *
  generalize H5.length=i1 at *
  cases o with
  | none =>
   simp [ew]
   simp only [List.append_nil] at hsn
   refine ⟨_,?_,by rw [hsn]; exact hJ6,f2,f3,f4,f5,kp6,rfl⟩
   simp [qD,qm,qp,lV]
  | some s =>
   have f6':=f6
   unfold seB at f6'
   simp [ew,f5,f6']
   have hP:=fdPut hJ6.fd 0 s (hlast s rfl) hlen1
   unfold Se.cs at hP
   refine qc.of hP ?_
   rintro y H7 ⟨rfl,hY,k7⟩
   have hJ7:=hJ6.put hd k7 hY
   have n2:∀ {i:Nat} {a:V} {cs:List SV},H6[i]? = some (.cells (.v a::cs))→¬ (i=q∨i=mf):=fun hi e=>by
    obtain ⟨hs,hq,_⟩:=hJ6.fd.q
    exact e.elim (qdV hi hq) (qE hi hJ6.fd.m)
   simp only at hsn
   simp [ew]
   refine ⟨_,?_,by rw [hsn,← List.append_assoc]; exact hJ7,k7.cells (n2 f2) f2,k7.cells (n2 f3) f3,k7.cells (n2 f4) f4,k7.cells (n2 f5) f5,kp6.trans (k7.weak fun x hx=>hx.elim .inl fun e => .inr (.inl e)),rfl⟩
   simp [qD,qm,qp,lV]
 ·simp [hlt]
  have hkT:k=L.length:=by omega
  refine AW.seq (AW.ofx [] mixed (by kernel_rfl) ?_)
  simp
  rw [hkT,List.take_length] at hJ3
  exact ⟨hJ3,kp3⟩
def vB (l:List Ru) (v:Vw):List Int:=if yC v.ro v.ti 0 then XT (VT l v.ro v.ti 8) else []
theorem WH {l:List Int} (h:l.Pairwise (· < ·)):l.Nodup:=List.Pairwise.imp (fun h e=>by omega) h
theorem Ji (l:List Ru) (v:Vw):(vB l v).Nodup:=by
 unfold vB
 split
 ·exact WH (vN _).1
 ·simp
def subW' (Z:Pr→Int) (v:Vw) (rc:Re) (S:List Pr) (z:Int):List Pr:=(VN (vV rc (lvl v z)).1 S).filter fun x=>decide (Z x=z)
def JG (l:List Ru) (v:Vw) (rc:Re) (S:List Pr) (D:List Int):List (Int×Se):=ZX (vR (zmP l v) v) (fun _=>0) (subW' (zmP l v) v rc S) D
theorem qcn (l:List Ru) (v:Vw) (rc:Re) (S:List Pr) (D:List Int) (z:Int):JG l v rc S (D ++ [z])=JG l v rc S D++yF (vR (zmP l v) v) (zmP l v) z (VN (vV rc (lvl v z)).1 S):=by
 simp [JG,ZX,yF,subW']
theorem qfQ {rc:Re} {S:List Pr} {x:Pr} (h:x∈VN rc S):x∈S:=by
 unfold VN at h
 split at h
 ·exact (List.mem_filter.1 ((Zy _).mem_iff.1 h)).1
 ·cases h
theorem qbT {rc:Re} {S:List Pr} (h:(S.map Pr.id).Nodup):((VN rc S).map Pr.id).Nodup:=by
 unfold VN
 split
 ·exact (((Zy _).map Pr.id).nodup_iff).2 (h.sublist (List.filter_sublist.map _))
 ·simp
theorem qfR (rc:Re) (S:List Pr):(VN rc S).length≤S.length:=by
 unfold VN
 split
 ·rw [(Zy _).length_eq]; exact List.length_filter_le _ _
 ·simp
theorem Kv {Z:Pr→Int} {v:Vw} {t:Pr} {s:Se} (h:vR Z v t=some s):s.id=t.id:=by
 unfold vR Zz at h
 split at h
 ·split at h
  ·cases h
  ·cases h; rfl
 ·cases h
theorem qa8 {l:List Ru} {v:Vw} {rc:Re} {S:List Pr} {D:List Int} (hS:(S.map Pr.id).Nodup) (hD:D.Nodup):((JG l v rc S D).map fun x=>x.2.id).Nodup :=
 V3 hS (fun t s h=>Kv h) (fun z _=>⟨(qbT hS).sublist (List.filter_sublist.map _),fun t ht=>by
  obtain ⟨h1,h2⟩:=List.mem_filter.1 ht
  exact ⟨qfQ h1,by simpa using h2⟩⟩) hD
theorem qas (l:List Ru) (v:Vw) (rc:Re) (S:List Pr):∀ D:List Int,(JG l v rc S D).length≤D.length*S.length
 | []=>by simp [JG,ZX]
 | z::D=>by
  have h1:=qas l v rc S D
  have h2:=qbY (vR (zmP l v) v) (zmP l v) z (VN (vV rc (lvl v z)).1 S)
  have h3:=qfR (vV rc (lvl v z)).1 S
  have e:JG l v rc S (z::D)=yF (vR (zmP l v) v) (zmP l v) z (VN (vV rc (lvl v z)).1 S)++JG l v rc S D:=by simp [JG,ZX,yF,subW']
  rw [e,List.length_append,List.length_cons,Nat.add_mul]
  omega
theorem WQ (v:Vw) (zs:List Int):(lvls v zs).length≤zs.length:=List.length_filter_le _ _
theorem Xn {v:Vw} {zs:List Int} (h:zs.Nodup) (k:Nat):(lvls v (zs.take k)).Nodup:=(h.sublist (List.take_sublist _ _)).sublist List.filter_sublist
set_option maxHeartbeats 4000000 in
theorem plWindow {l:List Ru} (hl:qae l) (v:Vw) {S:List Pr} {Tt:Nat→Prop} {t m r c b:Nat} {es:List (Value×V)} {H:List Bk} (hT:Tab H t m l es) (hM:Xx l es) (ht:TrP H r b S Tt) (htm:∀ x,Tt x→x≠m) (hS:S.length≤50) (hz:(vB l v).length≤1000) (rc:Re) (mm:Int) :
  AFn Tryz.prog 18 [wdC r c t,.agg v.cs,rc.v,.sc (.int .i64 mm)] H fun y H'=>Kept l t m H H'∧(Jc v mm (qo rc)≠0→y = .tup [.nil,.sc (.int .i64 1)]) ∧
   (Jc v mm (qo rc)=0→∃ R,y = .tup [Yi R,.sc (.int .i64 0)]∧∀ Y:List (Int×Se),Y.Perm (JG l v rc S (lvls v (vB l v)))→Y.Pairwise (fun a b=>(QK b).lt (QK a)=false)→R=(Y.take mm.toNat).map (·.2)):=by
 have hA:=fun H=>plAsk v mm (qo rc) r c t H
 have hR:=Zk rc
 have hml:=(List.getElem?_eq_some_iff.1 hT.m).1
 have htl:=(List.getElem?_eq_some_iff.1 hT.t).1
 have hrl:=ht.lt
 unfold wdC Vw.cs at hA ⊢
 unfold Re.v Re.cs at hR ⊢
 refine AFn.intro (fn:=Tryz.f18) (by kernel_rfl) rfl (by kernel_rfl) (by simp) ?_
 simp only [Tryz.f18,qj]
 refine AW.seq (AW.ofx [(1,5,[4,5,3,6])] mixed (by kernel_rfl) ?_)
 simp
 have k1:Kp NoB H (H ++ [wdB r c t,vwB v,reB rc]):=Kp.refl.app
 have e0:(H ++ [wdB r c t,vwB v,reB rc])[H.length]? = some (wdB r c t):=by simp
 have e1:(H ++ [wdB r c t,vwB v,reB rc])[H.length+1]? = some (vwB v):=by simp
 have e2:(H ++ [wdB r c t,vwB v,reB rc])[H.length+2]? = some (reB rc):=by simp
 change AW _ _ _ _ ⟨_,H ++ [wdB r c t,vwB v,reB rc]⟩
 generalize H ++ [wdB r c t,vwB v,reB rc]=H1 at *
 have n0:H.length≤H.length:=Nat.le_refl _
 have n1:H.length≤H.length+1:=by omega
 have n2:H.length≤H.length+2:=by omega
 generalize H.length+1=i1 at *
 generalize H.length+2=i2 at *
 have e0':=e0
 have e1':=e1
 have e2':=e2
 unfold wdB at e0'
 unfold vwB at e1'
 unfold reB at e2'
 refine AW.seq (AW.seq (AW.ofx [(1,5,[4,5,3,6])] mixed (by kernel_rfl) ?_))
 simp [e0',e1',e2']
 refine qc.pure hR rfl rfl ?_
 simp [e0',e1',e2']
 refine qc.of (hA H1) ?_
 rintro y H2 ⟨rfl,k2⟩
 have kp2:=k2.qi8 (fun x h=>h)
 have f0:=k2.cells id e0
 have f1:=k2.cells id e1
 have f2:=k2.cells id e2
 have f0':=f0
 have f1':=f1
 have f2':=f2
 unfold wdB at f0'
 unfold vwB at f1'
 unfold reB at f2'
 have k3:=k1.trans k2
 have hKT:Kept l t m H H2:=⟨⟨es,⟨k3.cells id hT.t,k3.map id hT.m⟩,hM⟩,fun i b _ hb hn=>k3 i b id hb hn⟩
 simp [e0',e1',e2',f0',f1',f2',kp2]
 refine AW.ofx [(1,5,[4,5,3,6])] mixed (by kernel_rfl) ?_
 by_cases ha:Jc v mm (qo rc)=0
 rotate_left
 ·have ha1:Jc v mm (qo rc)=1:=by unfold Jc at ha ⊢; split at ha <;> first | exact absurd rfl ha | simp_all
  have ha':(Jc v mm (qo rc) != 0)=true:=by simpa using ha
  simp [ha,ha',ha1]
  exact hKT
 have ha':(Jc v mm (qo rc) != 0)=false:=by simpa using ha
 simp [ha,ha']
 refine AW.seq (AW.ofx [(1,5,[4,5,3,6])] mixed (by kernel_rfl) ?_)
 simp
 refine qc.of (qjc H2) ?_
 rintro y H3 ⟨f,q,mf,rfl,hF,l1,l2,l3,k4⟩
 simp
 rw [qy rfl]
 have g0:=hget (L := [Bk.cells ([V.ptr f 0].map SV.v)]) (k4.cells id f0)
 have g1:=hget (L := [Bk.cells ([V.ptr f 0].map SV.v)]) (k4.cells id f1)
 have g2:=hget (L := [Bk.cells ([V.ptr f 0].map SV.v)]) (k4.cells id f2)
 have g3:(H3 ++ [Bk.cells ([V.ptr f 0].map SV.v)])[H3.length]? = some (.cells [.v (.ptr f 0)]):=by simp
 have hF4:=hF.app (L := [Bk.cells ([V.ptr f 0].map SV.v)])
 have k5:Kp NoB H (H3 ++ [Bk.cells ([V.ptr f 0].map SV.v)]):=(k3.trans k4).app
 have hlen2:H.length<H2.length:=(List.getElem?_eq_some_iff.1 f0).1
 generalize H3 ++ [_]=H4 at *
 generalize H3.length=i3 at *
 clear e0 e1 e2 e0' e1' e2' f0 f1 f2 f0' f1' f2' kp2 k2 k4 k3 hF k1 hKT
 have hTb4:Tab H4 t m l es:=⟨k5.cells id hT.t,k5.map id hT.m⟩
 have ht4:=ht.YE k5
 have hd:WD Tt m q mf:=⟨htm,fun x hx=>by have:=hrl x hx; omega,fun x hx=>by have:=hrl x hx; omega,by omega⟩
 have hJ4:WJ l v S Tt t m r c b f q mf (JG l v rc S []) H4:=⟨⟨es,hTb4,hM⟩,ht4,hF4⟩
 have hTe:Tell l v t m 51 [.ptr i2 0,.ptr H.length 0,.ptr i1 0,.ptr i3 0] (vB l v) (fun D Hx=>WJ l v S Tt t m r c b f q mf (JG l v rc S D) Hx∧Hx[i2]? = some (reB rc)∧Hx[H.length]? = some (wdB r c t)∧Hx[i1]? = some (vwB v)∧Hx[i3]? = some (.cells [.v (.ptr f 0)])) (fun x=>x=q∨x=mf∨x=m):=by
  refine ⟨fun D Hx hx=>hx.1.tab,fun D Hx Hy ⟨h,a1,a2,a3,a4⟩ k => ?_,rfl,fun k hk Hx h0 ⟨h,a1,a2,a3,a4⟩ => ?_⟩
  ·obtain ⟨es',t1,_⟩:=h.tab
   exact ⟨h.kept hd k,k.2.cells (qE a1 t1.m) a1,k.2.cells (qE a2 t1.m) a2,k.2.cells (qE a3 t1.m) a3,k.2.cells (qE a4 t1.m) a4⟩
  ·have hlk:lvls v ((vB l v).take (k+1))=lvls v ((vB l v).take k) ++ [(vB l v)[k]]:=by rw [List.take_succ_eq_append_getElem hk,qaE,if_neg h0]
   have hnd:=qa8 (l:=l) (v:=v) (rc:=rc) ht.ids (Xn (Ji l v) (k+1) (v:=v))
   rw [hlk,qcn] at hnd
   have hln:(JG l v rc S (lvls v ((vB l v).take k))).length+(VN (vV rc (lvl v (vB l v)[k])).1 S).length≤100000:=by
    have b1:=qas l v rc S (lvls v ((vB l v).take k))
    have b2:=qfR (vV rc (lvl v (vB l v)[k])).1 S
    have b3:=WQ v ((vB l v).take k)
    rw [List.length_take] at b3
    have b4:(lvls v ((vB l v).take k)).length*S.length≤1000*50:=Nat.mul_le_mul (by omega) hS
    omega
   refine AFn.conv (plWin1 hl v hd h a1 a2 a3 a4 _ _ hnd hln) ?_
   rintro y Hy ⟨rfl,h',k'⟩
   obtain ⟨hs,hq,_⟩:=h.fd.q
   obtain ⟨es',t1,_⟩:=h.tab
   have nn:∀ {i:Nat} {a:V} {cs:List SV},Hx[i]? = some (.cells (.v a::cs))→¬ (i=q∨i=mf∨i=m):=fun hi e=>by
    rcases e with e | e | e
    ·exact qdV hi hq e
    ·exact qE hi h.fd.m e
    ·exact qE hi t1.m e
   refine ⟨_,⟨rfl,⟨by rw [qcn]; exact h',k'.cells (nn a1) a1,k'.cells (nn a2) a2,k'.cells (nn a3) a3,k'.cells (nn a4) a4⟩,k'⟩,fun _ _ _ h=>h⟩
 have hll:∀ x,x=q∨x=mf∨x=m→x<H4.length:=fun x hx=>by
  obtain ⟨hs,⟨_,hq,_⟩,_⟩:=hF4.q
  rcases hx with rfl | rfl | rfl
  ·exact (List.getElem?_eq_some_iff.1 hq).1
  ·exact (List.getElem?_eq_some_iff.1 hF4.m).1
  ·exact (List.getElem?_eq_some_iff.1 hTb4.m).1
 have hLv:=qgw hl v r c (vB l v) rfl (by omega) hTe hll (.inr (.inr rfl)) ⟨hJ4,g2,g0,g1,g3⟩
 unfold wdC Vw.cs at hLv
 have g0':=g0
 have g1':=g1
 unfold wdB at g0'
 unfold vwB at g1'
 refine AW.seq (AW.ofx [(1,5,[4,5,3,6])] mixed (by kernel_rfl) ?_)
 simp [g0',g1']
 refine qc.of hLv ?_
 rintro y H5 ⟨rfl,⟨hJ5,a1,a2,a3,a4⟩,k6⟩
 obtain ⟨hs,hq,hp⟩:=hJ5.fd.q
 have hnd:=qa8 (l:=l) (v:=v) (rc:=rc) ht.ids ((Ji l v).sublist (List.filter_sublist (p:=fun z => !decide (lvl v z=0))))
 have hln:(JG l v rc S (lvls v (vB l v))).length≤100000:=by
  have b1:=qas l v rc S (lvls v (vB l v))
  have b3:=WQ v (vB l v)
  have b4:(lvls v (vB l v)).length*S.length≤1000*50:=Nat.mul_le_mul (by omega) hS
  omega
 have hFi:=qjb hJ5.fd.f hJ5.fd.m hq hp hnd hln mm
 simp [a4]
 refine AW.seq (AW.ofx [(1,5,[4,5,3,6])] mixed (by kernel_rfl) ?_)
 simp [a4]
 refine qc.of hFi ?_
 rintro y H6 ⟨rfl,k7⟩
 unfold Yi
 simp
 have hsr:Srt hs:=by
  obtain ⟨_,_,_,_,h⟩:=hq
  exact h
 have hqt:∀ {i:Nat} {a:V} {cs:List SV},H5[i]? = some (.cells (.v a::cs))→¬ i=q:=fun hi e=>qdV hi hq e
 have hqm:∀ {i:Nat} {es:List (Value×V)},H5[i]? = some (.map es)→¬ i=q:=fun hi e=>by
  obtain ⟨_,hq1,_⟩:=hq
  exact qE hq1 hi e.symm
 refine AW.ofx [(1,5,[4,5,3,6])] mixed (by kernel_rfl) ?_
 simp
 refine ⟨?_,List.take mm.toNat (List.map (fun e=>VA (JG l v rc S (lvls v (vB l v))) e.i) hs),by simp,fun Y hY hp2 => ?_⟩
 ·obtain ⟨es',t1,m1⟩:=hJ5.tab
  refine ⟨⟨es',⟨k7.cells (hqt t1.t) t1.t,k7.YV.map (hqm t1.m) t1.m⟩,m1⟩,fun i b hi hb hn => ?_⟩
  have hib:=(List.getElem?_eq_some_iff.1 hb).1
  refine k7.YV i b (by omega) (k6 i b (fun e => ?_) (k5 i b id hb hn) hn) hn
  rcases e with e | e | e
  ·omega
  ·omega
  ·exact hi e
 ·have hnd':((JG l v rc S (lvls v (vB l v))).map fun x=>x.2.id).Nodup:=hnd
  have:=qgU hnd' hY hsr hp hp2 mm.toNat
  simpa using this
def Vp (l:List Ru) (v:Vw) (z:Int) (x:Pr):Bool:=(vR (zmP l v) v x).isSome&&decide (zmP l v x=z)
def zB (z:Int):Bk := .cells [.v (.sc (.int .i64 z))]
set_option maxHeartbeats 4000000 in
theorem plKeep {l:List Ru} (hl:qae l) (v:Vw) (z:Int) (x:Pr) {t m r c c1 c2 c3:Nat} {es:List (Value×V)} {H:List Bk} (hT:Tab H t m l es) (hM:Xx l es) (h1:H[c1]? = some (wdB r c t)) (h2:H[c2]? = some (vwB v)) (h3:H[c3]? = some (zB z)) :
  AFn Tryz.prog 59 [x.v,.ptr c1 0,.ptr c2 0,.ptr c3 0] H fun y H'=>y = .sc (.bool (Vp l v z x))∧Kept l t m H H':=by
 have hZ:=fun H' es' hT' hM'=>gZoom l v.ro v.ti x.lab x.at_ hl.len hl.n t m es' H' hT' hM'
 simp only [qhs hl.all] at hZ
 have hSe:=fun H' es' hT' hM'=>qiS hl v x r c es' H' hT' hM' (t:=t) (m:=m)
 unfold Vp zmP
 unfold zmP at hSe
 unfold wdC Vw.cs Pr.v Pr.cs at hSe
 unfold Pr.v Pr.cs
 unfold Pt.v Pt.cs at hZ
 have hzz:∀ zz,(zz==z)=decide (zz=z):=fun zz=>rfl
 generalize jS l v.ro v.ti x.lab x.at_=zz at *
 generalize vR (fun x=>jS l v.ro v.ti x.lab x.at_) v x=o at *
 simp only [Vq] at hSe
 have hml:=(List.getElem?_eq_some_iff.1 hT.m).1
 refine AFn.intro (fn:=Tryz.f59) (by kernel_rfl) rfl (by kernel_rfl) (by simp) ?_
 simp only [Tryz.f59,qj]
 refine AW.seq (AW.ofx [(2,14,[7,1,2,4,3])] mixed (by kernel_rfl) ?_)
 simp
 change AW _ _ _ _ ⟨_,H ++ [prB x]⟩
 have k1:zZ m H (H ++ [prB x]) := .app
 have e1:=hget (L := [prB x]) h1
 have e2:=hget (L := [prB x]) h2
 have e3:=hget (L := [prB x]) h3
 have e4:(H ++ [prB x])[H.length]? = some (prB x):=by simp
 have hT1:=hT.stays (.app (L := [prB x]))
 generalize H ++ [prB x]=H1 at *
 generalize H.length=i0 at *
 have e1':=e1
 have e2':=e2
 have e4':=e4
 unfold wdB at e1'
 unfold vwB at e2'
 unfold prB at e4'
 refine AW.seq (AW.ofx [(2,14,[7,1,2,4,3])] mixed (by kernel_rfl) ?_)
 simp [e1',e2',e4']
 refine qc.of (hSe _ _ hT1 hM) ?_
 rintro y H2 ⟨rfl,kK⟩
 have f1:=kK.2.cells (qE e1 hT1.m) e1
 have f2:=kK.2.cells (qE e2 hT1.m) e2
 have f3:=kK.2.cells (qE e3 hT1.m) e3
 have f4:=kK.2.cells (qE e4 hT1.m) e4
 have kK2:=Kept.trans k1 kK
 clear e1 e2 e3 e4 e1' e2' e4' kK k1
 simp
 rw [qy rfl]
 have hpx:Bk.cells ([V.sc (.int .i64 (o.getD qw).id),V.sc (.int .i64 (o.getD qw).lv),V.sc (.int .i64 (o.getD qw).box.x0),V.sc (.int .i64 (o.getD qw).box.y0),V.sc (.int .i64 (o.getD qw).box.x1),V.sc (.int .i64 (o.getD qw).box.y1)].map SV.v)=seB (o.getD qw):=rfl
 rw [hpx]
 have g1:=hget (L := [seB (o.getD qw)]) f1
 have g2:=hget (L := [seB (o.getD qw)]) f2
 have g3:=hget (L := [seB (o.getD qw)]) f3
 have g4:=hget (L := [seB (o.getD qw)]) f4
 have kK3:=kK2.app (L := [seB (o.getD qw)])
 clear f1 f2 f3 f4 kK2
 generalize H2 ++ [seB (o.getD qw)]=H3 at *
 generalize H2.length=i1 at *
 have g1':=g1
 have g2':=g2
 have g3':=g3
 have g4':=g4
 unfold wdB at g1'
 unfold vwB at g2'
 unfold zB at g3'
 unfold prB at g4'
 obtain ⟨⟨es3,t3,m3⟩,s3⟩:=kK3
 cases o with
 | none =>
  refine AW.seq (AW.ofx [(2,14,[7,1,2,4,3])] mixed (by kernel_rfl) ?_)
  simp
  refine AW.ofx [(2,14,[7,1,2,4,3])] mixed (by kernel_rfl) ?_
  simp
  exact ⟨⟨es3,t3,m3⟩,s3⟩
 | some s =>
  refine AW.seq (AW.ofx [(2,14,[7,1,2,4,3])] mixed (by kernel_rfl) ?_)
  simp [g1',g2',g3',g4']
  refine qc.of (hZ _ _ t3 m3) ?_
  rintro y H4 ⟨rfl,kK⟩
  have kp4:=eq_true (kK.qbe t3)
  have c3:=kK.2.cells (qE g3 t3.m) g3
  unfold zB at c3
  simp [g1',g2',g3',g4',kp4,c3]
  refine AW.ofx [(2,14,[7,1,2,4,3])] mixed (by kernel_rfl) ?_
  simp [hzz]
  exact Kept.trans s3 kK
def KR {α:Type} (i:α→Int) (ent:α→Ent) (S:List α) (kp:α→Bool) (n:Int):List α:=((sort ((S.filter kp).map ent)).take n.toNat).filterMap fun e=>S.find? fun t=>decide (i t=e.i)
def Xm (S:List Pr) (kp:Pr→Bool) (p:Pt) (l n:Int):List Pr:=KR Pr.id (ZW p l) S kp n
theorem qbE {α:Type} {i:α→Int} {S:List α} (hS:(S.map i).Nodup) {s:α} (hs:s∈S):(S.find? fun t=>decide (i t=i s))=some s:=by
 induction S with
 | nil=>cases hs
 | cons x S ih =>
  rw [List.map_cons,List.nodup_cons] at hS
  rcases List.mem_cons.1 hs with rfl | hs
  ·simp
  ·have hne:¬ i x=i s:=fun e=>hS.1 (List.mem_map.2 ⟨s,hs,e.symm⟩)
   rw [List.find?_cons_of_neg (by simpa using hne)]
   exact ih hS.2 hs
theorem VG {α:Type} {f:α→Option α}:∀ {R:List α},(∀ s∈R,f s=some s)→R.filterMap f=R
 | [],_=>rfl
 | x::R,h=>by rw [List.filterMap_cons,h x (by simp)]; simp only; rw [VG fun s hs=>h s (by simp [hs])]
theorem nearG_eq {α:Type} {i:α→Int} {ent:α→Ent} (hi:∀ t,(ent t).i=i t) {S:List α} (hS:(S.map i).Nodup) {kp:α→Bool} {n:Int} {R:List α} (h1:R.map ent=(sort ((S.filter kp).map ent)).take n.toNat) (h2:∀ s∈R,s∈S.filter kp):R=KR i ent S kp n:=by
 unfold KR
 rw [← h1,List.filterMap_map]
 refine (VG fun s hs => ?_).symm
 simp only [Function.comp,hi]
 exact qbE hS (List.mem_filter.1 (h2 s hs)).1
theorem nearL_eq {S:List Pr} (hS:(S.map Pr.id).Nodup) {kp:Pr→Bool} {p:Pt} {l n:Int} {R:List Pr} (h:NearP S kp p l n R):R=Xm S kp p l n:=nearG_eq (i:=Pr.id) (ent:=ZW p l) (fun _=>rfl) hS h.1 h.2
def Qa {α:Type} (see:α→Option Se) (p:Pt) (L:List α):List (Int×Se):=L.filterMap fun x=>(see x).map fun s=>(QZ s.box p,s)
theorem qjZ {H H':List Bk} {q mf:Nat} {hs:List Ent} {es:List (Value×V)} (hq:QQ H q hs) (hm:H[mf]? = some (.map es)) (k:Kp (fun x=>x=q∨x=mf) H H'):Z7 H H':=fun id ks hb he=>k.cells (fun e=>e.elim (fun e=>by
 subst e
 obtain ⟨es,h1,_⟩:=hq
 rw [hb] at h1
 cases h1
 exact Bool.noConfusion he) (fun e=>qE hb hm e)) hb
theorem qb0 {α:Type} (see:α→Option Se) (p:Pt) (L M:List α):Qa see p (L++M)=Qa see p L++Qa see p M:=by simp [Qa]
theorem qbZ {α:Type} (see:α→Option Se) (p:Pt) (L:List α):(Qa see p L).length≤L.length:=List.length_filterMap_le _ _
def ptB (p:Pt):Bk := .cells [.v (.sc (.int .i64 p.x)),.v (.sc (.int .i64 p.y))]
def NcI (l:List Ru) (v:Vw) (S:List Pr) (Tt:Nat→Prop) (t m r c b f q mf c2 c3 c4 c5 c6:Nat) (p:Pt) (mm:Int) (X:List (Int×Se)) (L:List Pr) (H0:List Bk) (k:Nat) (F:Fr) (H:List Bk):Prop :=
 WJ l v S Tt t m r c b f q mf (X++Qa (vR (zmP l v) v) p (L.take k)) H∧H[c2]? = some (wdB r c t)∧H[c3]? = some (vwB v)∧H[c4]? = some (ptB p)∧H[c5]? = some (zB mm)∧H[c6]? = some (.cells [.v (.ptr f 0)])∧Kp (fun x=>x=q∨x=mf∨x=m) H0 H ∧
  F = [(2,.v (.ptr c2 0)),(3,.v (.ptr c3 0)),(4,.v (.ptr c4 0)),(6,.v (.ptr c6 0)),(21,.v (lV L)),(22,.v (.sc (.int .i64 L.length))),(23,.v (.sc (.int .i64 k)))]
set_option maxHeartbeats 4000000 in
theorem plNear1 {l:List Ru} (hl:qae l) (v:Vw) {S:List Pr} {Tt:Nat→Prop} {t m r c b f q mf c2 c3 c4 c5 c6:Nat} {p:Pt} {X:List (Int×Se)} {H:List Bk} (hd:WD Tt m q mf) (h:WJ l v S Tt t m r c b f q mf X H)
  (h2:H[c2]? = some (wdB r c t)) (h3:H[c3]? = some (vwB v)) (h4:H[c4]? = some (ptB p)) {mm:Int} (h5:H[c5]? = some (zB mm)) (h6:H[c6]? = some (.cells [.v (.ptr f 0)])) (z lv:Int) (hf:fits p=true) (hlv:jG lv=true) (hS:S.length≤1000)
  (hnd:((X++Qa (vR (zmP l v) v) p (Xm S (Vp l v z) p lv mm)).map fun x=>x.2.id).Nodup) (hlen:X.length+(Xm S (Vp l v z) p lv mm).length≤100000) :
  AFn Tryz.prog 58 [.sc (.int .i64 z),.sc (.int .i64 lv),.ptr c2 0,.ptr c3 0,.ptr c4 0,.ptr c5 0,.ptr c6 0] H fun y H'=>y = .tup []∧WJ l v S Tt t m r c b f q mf (X++Qa (vR (zmP l v) v) p (Xm S (Vp l v z) p lv mm)) H'∧Kp (fun x=>x=q∨x=mf∨x=m) H H':=by
 have hids:=h.tr.ids
 refine AFn.intro (fn:=Tryz.f58) (by kernel_rfl) rfl (by kernel_rfl) (by simp) ?_
 simp only [Tryz.f58,qj]
 refine AW.seq (AW.ofx [(6,6,[6,12,4])] mixed (by kernel_rfl) ?_)
 simp
 change AW _ _ _ _ ⟨_,H ++ [zB z]⟩
 have e2:=hget (L := [zB z]) h2
 have e3:=hget (L := [zB z]) h3
 have e4:=hget (L := [zB z]) h4
 have e5:=hget (L := [zB z]) h5
 have e6:=hget (L := [zB z]) h6
 have e7:(H ++ [zB z])[H.length]? = some (zB z):=by simp
 have hJ:=h.app (L := [zB z])
 have kp:Kp (fun x=>x=q∨x=mf∨x=m) H (H ++ [zB z]):=Kp.refl.app
 generalize H ++ [zB z]=H1 at *
 generalize H.length=i0 at *
 refine AW.seq (AW.ofx [(6,6,[6,12,4])] mixed (by kernel_rfl) ?_)
 simp
 obtain ⟨es1,t1,m1⟩:=hJ.tab
 have hkp:qjm (.fn (.func 59) [] [.ptr c2 0,.ptr c3 0,.ptr i0 0]) (Vp l v z) (fun Hx=>(∃ es,Tab Hx t m l es∧Xx l es)∧Hx[c2]? = some (wdB r c t)∧Hx[c3]? = some (vwB v)∧Hx[i0]? = some (zB z)) (fun x=>x=t∨x=m∨x=c2∨x=c3∨x=i0) (fun x=>x=m):=by
  refine ⟨rfl,fun Hx Hy ⟨⟨es,a1,a2⟩,a3,a4,a5⟩ k=>⟨⟨es,⟨k.cells (fun e=>e (.inl rfl)) a1.t,k.map (fun e=>e (.inr (.inl rfl))) a1.m⟩,a2⟩,k.cells (fun e=>e (.inr (.inr (.inl rfl)))) a3,k.cells (fun e=>e (.inr (.inr (.inr (.inl rfl))))) a4,k.cells (fun e=>e (.inr (.inr (.inr (.inr rfl))))) a5⟩,.inr ⟨_,_,rfl,rfl,fun Hx s ⟨⟨es,a1,a2⟩,a3,a4,a5⟩ => ?_⟩⟩
  refine (plKeep hl v z s a1 a2 a3 a4 a5).mono' ?_
  rintro y Hy ⟨rfl,kK⟩
  exact ⟨rfl,⟨kK.1,kK.2.cells (qE a3 a1.m) a3,kK.2.cells (qE a4 a1.m) a4,kK.2.cells (qE a5 a1.m) a5⟩,fun i b hi hb hn=>kK.2 i b hi hb hn⟩
 have hlt:=fun {i:Nat} {b:Bk} (h:H1[i]? = some b)=>(List.getElem?_eq_some_iff.1 h).1
 have hN:=near1P hJ.tr hS p mm lv _ _ hkp ⟨⟨es1,t1,m1⟩,e2,e3,e7⟩ (fun x hx=>by
  rcases hx with rfl | rfl | rfl | rfl | rfl
  ·exact hlt t1.t
  ·exact hlt t1.m
  ·exact hlt e2
  ·exact hlt e3
  ·exact hlt e7) (fun x hx=>by rw [hx]; exact hlt t1.m) (fun x hx=>hd.tm x hx) hf hlv
 unfold Pt.v Pt.cs at hN
 have e2':=e2
 have e4':=e4
 have e5':=e5
 unfold wdB at e2'
 unfold ptB at e4'
 unfold zB at e5'
 refine AW.seq (AW.ofx [(6,6,[6,12,4])] mixed (by kernel_rfl) ?_)
 simp [e2',e4',e5']
 refine qc.of hN ?_
 rintro y H2 ⟨R,rfl,hR,⟨tab2,f2,f3,_⟩,k2⟩
 have hRe:=nearL_eq hids hR
 rw [← hRe] at hnd hlen ⊢
 have f4:=k2.cells (qE e4 t1.m) e4
 have f5:=k2.cells (qE e5 t1.m) e5
 have f6:=k2.cells (qE e6 t1.m) e6
 have hJ2:=hJ.kept hd ⟨tab2,fun i b hi hb hn=>k2 i b hi hb hn⟩
 have kp2:=kp.trans (k2.weak (J:=fun x=>x=q∨x=mf∨x=m) fun x hx => .inr (.inr hx))
 have hsee:∀ s∈R,∃ o,vR (zmP l v) v s=some o:=fun s hs=>by
  have h1:=(List.mem_filter.1 (hR.2 s hs)).2
  simp only [Vp,Bool.and_eq_true] at h1
  exact Option.isSome_iff_exists.1 h1.1
 unfold lV
 simp
 clear hN hR hRe hkp hlt e2 e3 e4 e5 e6 e7 e2' e4' e5' kp hJ tab2 t1 m1 k2
 refine AW.block (AW.count R.length (NcI l v S Tt t m r c b f q mf c2 c3 c4 c5 c6 p mm X R H) ⟨_,?_,by simpa [Qa] using hJ2,f2,f3,f4,f5,f6,kp2,rfl⟩ ?_)
 ·simp [qD,qm,qp,lV]
 clear hJ2 f2 f3 f4 f5 f6 kp2
 rintro k F H3 hk ⟨hJ3,g2,g3,g4,g5,g6,kp3,rfl⟩
 unfold lV
 refine AW.seq (AW.ofx [(6,6,[6,12,4])] mixed (by kernel_rfl) ?_)
 by_cases hlt:k<R.length
 ·have ew:IntKind.i64.wrap ((k:Int)+1)=k+1:=wrap_i64 (by omega) (by omega)
  have htk:R.take (k+1)=R.take k ++ [R[k]]:=List.take_succ_eq_append_getElem hlt
  obtain ⟨o,ho⟩:=hsee _ (List.getElem_mem hlt)
  have hsn:Qa (vR (zmP l v) v) p (R.take (k+1))=Qa (vR (zmP l v) v) p (R.take k) ++ [(QZ o.box p,o)]:=by
   rw [htk,qb0]
   simp [Qa,ho]
  have hlast:∀ x∈X++Qa (vR (zmP l v) v) p (R.take k),x.2.id≠o.id:=by
   refine qcz (x:=(QZ o.box p,o)) ?_
   rw [List.append_assoc,← hsn]
   have e:Qa (vR (zmP l v) v) p R=Qa (vR (zmP l v) v) p (R.take (k+1))++Qa (vR (zmP l v) v) p (R.drop (k+1)):=by rw [← qb0,List.take_append_drop]
   rw [e,← List.append_assoc,List.map_append] at hnd
   exact (List.nodup_append.1 hnd).1
  have hlen1:(X++Qa (vR (zmP l v) v) p (R.take k)).length≤100000:=by
   have:=qbZ (vR (zmP l v) v) p (R.take k)
   rw [List.length_take] at this
   rw [List.length_append]
   omega
  simp [hlt]
  refine AW.ofx [(6,6,[6,12,4])] mixed (by kernel_rfl) ?_
  simp [qiJ hlt,hlt]
  rw [qy rfl]
  have hpr:Bk.cells ([V.sc (.int .i64 R[k].id),V.sc (.int .i64 R[k].at_.x),V.sc (.int .i64 R[k].at_.y),V.sc (.int .i64 R[k].lab)].map SV.v)=prB R[k]:=rfl
  rw [hpr]
  have e2:=hget (L := [prB R[k]]) g2
  have e3:=hget (L := [prB R[k]]) g3
  have e4:=hget (L := [prB R[k]]) g4
  have e5:=hget (L := [prB R[k]]) g5
  have e6:=hget (L := [prB R[k]]) g6
  have e7:(H3 ++ [prB R[k]])[H3.length]? = some (prB R[k]):=by simp
  have hJ:=hJ3.app (L := [prB R[k]])
  have kp:=kp3.app (L := [prB R[k]])
  clear hJ3 g2 g3 g4 g5 g6 kp3
  generalize H3 ++ [prB R[k]]=H1 at *
  generalize H3.length=i1 at *
  have e2':=e2
  have e3':=e3
  have e7':=e7
  unfold wdB at e2'
  unfold vwB at e3'
  unfold prB at e7'
  simp [e2',e3',e7']
  obtain ⟨es,t1,m1⟩:=hJ.tab
  have hSe:=qiS hl v R[k] r c es H1 t1 m1
  rw [ho] at hSe
  unfold wdC Vw.cs Pr.v Pr.cs at hSe
  rw [Vq] at hSe
  refine qc.of hSe ?_
  rintro y H5 ⟨rfl,kK⟩
  have a2:=kK.2.cells (qE e2 t1.m) e2
  have a3:=kK.2.cells (qE e3 t1.m) e3
  have a4:=kK.2.cells (qE e4 t1.m) e4
  have a5:=kK.2.cells (qE e5 t1.m) e5
  have a6:=kK.2.cells (qE e6 t1.m) e6
  have hJ5:=hJ.kept hd kK
  have kp5:Kp (fun x=>x=q∨x=mf∨x=m) H H5:=kp.trans (fun i b hi hb hn=>kK.2 i b (fun e=>hi (.inr (.inr e))) hb hn)
  clear e2 e3 e4 e5 e6 e7 e2' e3' e7' hJ kp kK hSe t1 m1
  simp
  rw [qy rfl]
  have hpx:Bk.cells ([V.sc (.int .i64 o.id),V.sc (.int .i64 o.lv),V.sc (.int .i64 o.box.x0),V.sc (.int .i64 o.box.y0),V.sc (.int .i64 o.box.x1),V.sc (.int .i64 o.box.y1)].map SV.v)=seB o:=rfl
  rw [hpx]
  have b2:=hget (L := [seB o]) a2
  have b3:=hget (L := [seB o]) a3
  have b4:=hget (L := [seB o]) a4
  have b5:=hget (L := [seB o]) a5
  have b6:=hget (L := [seB o]) a6
  have b7:(H5 ++ [seB o])[H5.length]? = some (seB o):=by simp
  have hJ6:=hJ5.app (L := [seB o])
  have kp6:=kp5.app (L := [seB o])
  clear a2 a3 a4 a5 a6 hJ5 kp5
  generalize H5 ++ [seB o]=H6 at *
  generalize H5.length=i2 at *
  have b4':=b4
  have b7':=b7
  unfold ptB at b4'
  unfold seB at b7'
  have hD:=pdist o.box p
  unfold Re.v Re.cs Pt.v Pt.cs at hD
  have hP:=fdPut hJ6.fd (QZ o.box p) o hlast hlen1
  unfold Se.cs at hP
  generalize QZ o.box p=dd at *
  simp [b4',b6,b7']
  refine qc.pure hD rfl rfl ?_
  simp [b4',b6,b7']
  refine qc.of hP ?_
  rintro y H7 ⟨rfl,hY,k7⟩
  have hJ7:=hJ6.put hd k7 hY
  obtain ⟨hs,hq,_⟩:=hJ6.fd.q
  have kp7:=eq_true (qjZ hq hJ6.fd.m k7)
  have n2:∀ {i:Nat} {a:V} {cs:List SV},H6[i]? = some (.cells (.v a::cs))→¬ (i=q∨i=mf):=fun hi e=>e.elim (qdV hi hq) (qE hi hJ6.fd.m)
  have d4:=k7.cells (n2 b4') b4'
  have d6:=k7.cells (n2 b6) b6
  have d7:=k7.cells (n2 b7') b7'
  simp [b4',b6,b7',kp7,d4,d6,d7,ew]
  refine ⟨_,?_,by rw [hsn,← List.append_assoc]; exact hJ7,k7.cells (n2 b2) b2,k7.cells (n2 b3) b3,k7.cells (n2 b4) b4,k7.cells (n2 b5) b5,d6,kp6.trans (k7.weak fun x hx=>hx.elim .inl fun e => .inr (.inl e)),rfl⟩
  simp [qD,qm,qp,lV]
 ·simp [hlt]
  have hkT:k=R.length:=by omega
  refine AW.seq (AW.ofx [(6,6,[6,12,4])] mixed (by kernel_rfl) ?_)
  simp
  rw [hkT,List.take_length] at hJ3
  exact ⟨hJ3,kp3⟩
section
variable {α:Type} {i:α→Int} {ent:α→Ent} {S:List α}
theorem KC (hi:∀ t,(ent t).i=i t) (hS:(S.map i).Nodup) {kp:α→Bool} {n:Int} {t:α} (h:t∈KR i ent S kp n):t∈S∧kp t=true:=by
 obtain ⟨e,he,hf⟩:=List.mem_filterMap.1 h
 obtain ⟨s,hs,rfl⟩:=List.mem_map.1 ((jD _).mem_iff.1 (List.mem_of_mem_take he))
 obtain ⟨h1,h2⟩:=List.mem_filter.1 hs
 rw [hi,qbE hS h1] at hf
 cases hf
 exact ⟨h1,h2⟩
theorem qbc (hi:∀ t,(ent t).i=i t) (hS:(S.map i).Nodup) (kp:α→Bool) (n:Int):((KR i ent S kp n).map i).Nodup:=by
 refine QC (i:=Ent.i) (j:=i) (fun e t h=>by simpa using List.find?_some h) ?_
 refine List.Nodup.sublist ((List.take_sublist _ _).map _) ?_
 refine (((jD _).map Ent.i).nodup_iff).2 ?_
 rw [List.map_map]
 have e:Ent.i∘ent=i:=funext hi
 rw [e]
 exact hS.sublist (List.filter_sublist.map _)
theorem qjR (S:List α) (kp:α→Bool) (n:Int):(KR i ent S kp n).length≤S.length:=by
 unfold KR
 refine Nat.le_trans (List.length_filterMap_le _ _) (Nat.le_trans (List.length_take_le' _ _) ?_)
 rw [(jD _).length_eq,List.length_map]
 exact List.length_filter_le _ _
theorem qjQ (hi:∀ t,(ent t).i=i t) (hS:(S.map i).Nodup) (kp:α→Bool) (n:Int):(KR i ent S kp n).map ent=(sort ((S.filter kp).map ent)).take n.toNat:=by
 unfold KR
 have key:∀ A:List Ent,(∀ e∈A,∃ s∈S,e=ent s)→(A.filterMap fun e=>S.find? fun t=>decide (i t=e.i)).map ent=A:=by
  intro A
  induction A with
  | nil=>intro _; rfl
  | cons e A ih =>
   intro h
   obtain ⟨s,hs,rfl⟩:=h e (by simp)
   rw [List.filterMap_cons,hi,qbE hS hs]
   simp only [List.map_cons]
   rw [ih fun e he=>h e (by simp [he])]
 refine key _ fun e he => ?_
 obtain ⟨s,hs,rfl⟩:=List.mem_map.1 ((jD _).mem_iff.1 (List.mem_of_mem_take he))
 exact ⟨s,(List.mem_filter.1 hs).1,rfl⟩
end
theorem qjP {S:List Pr} (hS:(S.map Pr.id).Nodup) {kp:Pr→Bool} {p:Pt} {l n:Int} {t:Pr} (h:t∈Xm S kp p l n):t∈S∧kp t=true:=KC (i:=Pr.id) (ent:=ZW p l) (fun _=>rfl) hS h
theorem qgA {S:List Pr} (hS:(S.map Pr.id).Nodup) (kp:Pr→Bool) (p:Pt) (l n:Int):((Xm S kp p l n).map Pr.id).Nodup:=qbc (i:=Pr.id) (ent:=ZW p l) (fun _=>rfl) hS kp n
theorem qd6 (S:List Pr) (kp:Pr→Bool) (p:Pt) (l n:Int):(Xm S kp p l n).length≤S.length:=qjR (i:=Pr.id) (ent:=ZW p l) S kp n
def JH (l:List Ru) (v:Vw) (p:Pt) (mm:Int) (S:List Pr) (D:List Int):List (Int×Se):=ZX (vR (zmP l v) v) (fun s=>QZ s.box p) (fun z=>Xm S (Vp l v z) p (lvl v z) mm) D
theorem qak {α:Type} (see:α→Option Se) (p:Pt):∀ L:List α,Qa see p L=(L.filterMap see).map fun s=>(QZ s.box p,s)
 | []=>rfl
 | x::L=>by
  have ih:=qak see p L
  unfold Qa at ih ⊢
  rw [List.filterMap_cons,List.filterMap_cons]
  cases hx:see x <;> simp [ih]
theorem qco (l:List Ru) (v:Vw) (p:Pt) (mm:Int) (S:List Pr) (D:List Int) (z:Int):JH l v p mm S (D ++ [z])=JH l v p mm S D++Qa (vR (zmP l v) v) p (Xm S (Vp l v z) p (lvl v z) mm):=by
 rw [qak]
 simp [JH,ZX]
theorem qa9 {l:List Ru} {v:Vw} {p:Pt} {mm:Int} {S:List Pr} {D:List Int} (hS:(S.map Pr.id).Nodup) (hD:D.Nodup):((JH l v p mm S D).map fun x=>x.2.id).Nodup :=
 V3 (Z:=zmP l v) hS (fun t s h=>Kv h) (fun z _=>⟨qgA hS _ _ _ _,fun t ht=>by
  obtain ⟨h1,h2⟩:=qjP hS ht
  simp only [Vp,Bool.and_eq_true,decide_eq_true_eq] at h2
  exact ⟨h1,h2.2⟩⟩) hD
theorem qau (l:List Ru) (v:Vw) (p:Pt) (mm:Int) (S:List Pr):∀ D:List Int,(JH l v p mm S D).length≤D.length*S.length
 | []=>by simp [JH,ZX]
 | z::D=>by
  have h1:=qau l v p mm S D
  have h2:=qbZ (vR (zmP l v) v) p (Xm S (Vp l v z) p (lvl v z) mm)
  have h3:=qd6 S (Vp l v z) p (lvl v z) mm
  have e:JH l v p mm S (z::D)=Qa (vR (zmP l v) v) p (Xm S (Vp l v z) p (lvl v z) mm)++JH l v p mm S D:=by
   rw [qak]
   simp [JH,ZX]
  rw [e,List.length_append,List.length_cons,Nat.add_mul]
  omega
set_option maxHeartbeats 4000000 in
theorem plNear {l:List Ru} (hl:qae l) (v:Vw) {S:List Pr} {Tt:Nat→Prop} {t m r c b:Nat} {es:List (Value×V)} {H:List Bk} (hT:Tab H t m l es) (hM:Xx l es) (ht:TrP H r b S Tt) (htm:∀ x,Tt x→x≠m) (hS:S.length≤50) (hz:(vB l v).length≤1000) (hzr:∀ z∈vB l v,0≤z∧z≤16) (p:Pt) (mm:Int) :
  AFn Tryz.prog 19 [wdC r c t,.agg v.cs,p.v,.sc (.int .i64 mm)] H fun y H'=>Kept l t m H H'∧(Jc v mm (fits p)≠0→y = .tup [.nil,.sc (.int .i64 1)]) ∧
   (Jc v mm (fits p)=0→∃ R,y = .tup [Yi R,.sc (.int .i64 0)]∧∀ Y:List (Int×Se),Y.Perm (JH l v p mm S (lvls v (vB l v)))→Y.Pairwise (fun a b=>(QK b).lt (QK a)=false)→R=(Y.take mm.toNat).map (·.2)):=by
 have hA:=fun H=>plAsk v mm (fits p) r c t H
 have hR:=YJ p
 have hml:=(List.getElem?_eq_some_iff.1 hT.m).1
 have htl:=(List.getElem?_eq_some_iff.1 hT.t).1
 have hrl:=ht.lt
 unfold wdC Vw.cs at hA ⊢
 unfold Pt.v Pt.cs at hR ⊢
 refine AFn.intro (fn:=Tryz.f19) (by kernel_rfl) rfl (by kernel_rfl) (by simp) ?_
 simp only [Tryz.f19,qj]
 refine AW.seq (AW.ofx [(1,5,[4,5,7,6])] mixed (by kernel_rfl) ?_)
 simp
 have k1:Kp NoB H (H ++ [wdB r c t,vwB v,ptB p,zB mm]):=Kp.refl.app
 have e0:(H ++ [wdB r c t,vwB v,ptB p,zB mm])[H.length]? = some (wdB r c t):=by simp
 have e1:(H ++ [wdB r c t,vwB v,ptB p,zB mm])[H.length+1]? = some (vwB v):=by simp
 have e2:(H ++ [wdB r c t,vwB v,ptB p,zB mm])[H.length+2]? = some (ptB p):=by simp
 have e3:(H ++ [wdB r c t,vwB v,ptB p,zB mm])[H.length+3]? = some (zB mm):=by simp
 change AW _ _ _ _ ⟨_,H ++ [wdB r c t,vwB v,ptB p,zB mm]⟩
 generalize H ++ [wdB r c t,vwB v,ptB p,zB mm]=H1 at *
 have n0:H.length≤H.length:=Nat.le_refl _
 have n1:H.length≤H.length+1:=by omega
 have n2:H.length≤H.length+2:=by omega
 generalize H.length+1=i1 at *
 generalize H.length+2=i2 at *
 have n3:H.length≤H.length+3:=by omega
 generalize H.length+3=i4 at *
 have e0':=e0
 have e1':=e1
 have e2':=e2
 have e3':=e3
 unfold wdB at e0'
 unfold vwB at e1'
 unfold ptB at e2'
 unfold zB at e3'
 refine AW.seq (AW.seq (AW.ofx [(1,5,[4,5,7,6])] mixed (by kernel_rfl) ?_))
 simp [e0',e1',e2',e3']
 refine qc.pure hR rfl rfl ?_
 simp [e0',e1',e2',e3']
 refine qc.of (hA H1) ?_
 rintro y H2 ⟨rfl,k2⟩
 have kp2:=k2.qi8 (fun x h=>h)
 have f0:=k2.cells id e0
 have f1:=k2.cells id e1
 have f2:=k2.cells id e2
 have f3:=k2.cells id e3
 have f0':=f0
 have f1':=f1
 have f2':=f2
 have f3':=f3
 unfold wdB at f0'
 unfold vwB at f1'
 unfold ptB at f2'
 unfold zB at f3'
 have k3:=k1.trans k2
 have hKT:Kept l t m H H2:=⟨⟨es,⟨k3.cells id hT.t,k3.map id hT.m⟩,hM⟩,fun i b _ hb hn=>k3 i b id hb hn⟩
 simp [e0',e1',e2',e3',f0',f1',f2',f3',kp2]
 refine AW.ofx [(1,5,[4,5,7,6])] mixed (by kernel_rfl) ?_
 by_cases ha:Jc v mm (fits p)=0
 rotate_left
 ·have ha1:Jc v mm (fits p)=1:=by unfold Jc at ha ⊢; split at ha <;> first | exact absurd rfl ha | simp_all
  have ha':(Jc v mm (fits p) != 0)=true:=by simpa using ha
  simp [ha,ha',ha1]
  exact hKT
 have ha':(Jc v mm (fits p) != 0)=false:=by simpa using ha
 have hvf:vC v=true∧fits p=true:=by
  unfold Jc at ha
  split at ha
  ·rename_i h
   simp only [Bool.and_eq_true] at h
   exact ⟨h.1.1.1,h.1.1.2⟩
  ·cases ha
 obtain ⟨hvr,hfp⟩:=hvf
 simp [ha,ha']
 refine AW.seq (AW.ofx [(1,5,[4,5,7,6])] mixed (by kernel_rfl) ?_)
 simp
 refine qc.of (qjc H2) ?_
 rintro y H3 ⟨f,q,mf,rfl,hF,l1,l2,l3,k4⟩
 simp
 rw [qy rfl]
 have g0:=hget (L := [Bk.cells ([V.ptr f 0].map SV.v)]) (k4.cells id f0)
 have g1:=hget (L := [Bk.cells ([V.ptr f 0].map SV.v)]) (k4.cells id f1)
 have g2:=hget (L := [Bk.cells ([V.ptr f 0].map SV.v)]) (k4.cells id f2)
 have g4:=hget (L := [Bk.cells ([V.ptr f 0].map SV.v)]) (k4.cells id f3)
 have g3:(H3 ++ [Bk.cells ([V.ptr f 0].map SV.v)])[H3.length]? = some (.cells [.v (.ptr f 0)]):=by simp
 have hF4:=hF.app (L := [Bk.cells ([V.ptr f 0].map SV.v)])
 have k5:Kp NoB H (H3 ++ [Bk.cells ([V.ptr f 0].map SV.v)]):=(k3.trans k4).app
 have hlen2:H.length<H2.length:=(List.getElem?_eq_some_iff.1 f0).1
 generalize H3 ++ [_]=H4 at *
 generalize H3.length=i3 at *
 clear e0 e1 e2 e3 e0' e1' e2' e3' f0 f1 f2 f3 f0' f1' f2' f3' kp2 k2 k4 k3 hF k1 hKT
 have hTb4:Tab H4 t m l es:=⟨k5.cells id hT.t,k5.map id hT.m⟩
 have ht4:=ht.YE k5
 have hd:WD Tt m q mf:=⟨htm,fun x hx=>by have:=hrl x hx; omega,fun x hx=>by have:=hrl x hx; omega,by omega⟩
 have hJ4:WJ l v S Tt t m r c b f q mf (JH l v p mm S []) H4:=⟨⟨es,hTb4,hM⟩,ht4,hF4⟩
 have hTe:Tell l v t m 58 [.ptr H.length 0,.ptr i1 0,.ptr i2 0,.ptr i4 0,.ptr i3 0] (vB l v) (fun D Hx=>WJ l v S Tt t m r c b f q mf (JH l v p mm S D) Hx∧Hx[H.length]? = some (wdB r c t)∧Hx[i1]? = some (vwB v)∧Hx[i2]? = some (ptB p)∧Hx[i4]? = some (zB mm)∧Hx[i3]? = some (.cells [.v (.ptr f 0)])) (fun x=>x=q∨x=mf∨x=m):=by
  refine ⟨fun D Hx hx=>hx.1.tab,fun D Hx Hy ⟨h,a1,a2,a3,a4,a5⟩ k => ?_,rfl,fun k hk Hx h0 ⟨h,a1,a2,a3,a4,a5⟩ => ?_⟩
  ·obtain ⟨es',t1,_⟩:=h.tab
   exact ⟨h.kept hd k,k.2.cells (qE a1 t1.m) a1,k.2.cells (qE a2 t1.m) a2,k.2.cells (qE a3 t1.m) a3,k.2.cells (qE a4 t1.m) a4,k.2.cells (qE a5 t1.m) a5⟩
  ·have hlk:lvls v ((vB l v).take (k+1))=lvls v ((vB l v).take k) ++ [(vB l v)[k]]:=by rw [List.take_succ_eq_append_getElem hk,qaE,if_neg h0]
   have hnd:=qa9 (l:=l) (v:=v) (p:=p) (mm:=mm) ht.ids (Xn (Ji l v) (k+1) (v:=v))
   rw [hlk,qco] at hnd
   have hln:(JH l v p mm S (lvls v ((vB l v).take k))).length+(Xm S (Vp l v (vB l v)[k]) p (lvl v (vB l v)[k]) mm).length≤100000:=by
    have b1:=qau l v p mm S (lvls v ((vB l v).take k))
    have b2:=qd6 S (Vp l v (vB l v)[k]) p (lvl v (vB l v)[k]) mm
    have b3:=WQ v ((vB l v).take k)
    rw [List.length_take] at b3
    have b4:(lvls v ((vB l v).take k)).length*S.length≤1000*50:=Nat.mul_le_mul (by omega) hS
    omega
   refine AFn.conv (plNear1 hl v hd h a1 a2 a3 a4 a5 _ _ hfp (jJ.2 (qi0 hvr (hzr _ (List.getElem_mem hk)))) (by omega) hnd hln) ?_
   rintro y Hy ⟨rfl,h',k'⟩
   obtain ⟨hs,hq,_⟩:=h.fd.q
   obtain ⟨es',t1,_⟩:=h.tab
   have nn:∀ {i:Nat} {a:V} {cs:List SV},Hx[i]? = some (.cells (.v a::cs))→¬ (i=q∨i=mf∨i=m):=fun hi e=>by
    rcases e with e | e | e
    ·exact qdV hi hq e
    ·exact qE hi h.fd.m e
    ·exact qE hi t1.m e
   refine ⟨_,⟨rfl,⟨by rw [qco]; exact h',k'.cells (nn a1) a1,k'.cells (nn a2) a2,k'.cells (nn a3) a3,k'.cells (nn a4) a4,k'.cells (nn a5) a5⟩,k'⟩,fun _ _ _ h=>h⟩
 have hll:∀ x,x=q∨x=mf∨x=m→x<H4.length:=fun x hx=>by
  obtain ⟨hs,⟨_,hq,_⟩,_⟩:=hF4.q
  rcases hx with rfl | rfl | rfl
  ·exact (List.getElem?_eq_some_iff.1 hq).1
  ·exact (List.getElem?_eq_some_iff.1 hF4.m).1
  ·exact (List.getElem?_eq_some_iff.1 hTb4.m).1
 have hLv:=qgw hl v r c (vB l v) rfl (by omega) hTe hll (.inr (.inr rfl)) ⟨hJ4,g0,g1,g2,g4,g3⟩
 unfold wdC Vw.cs at hLv
 have g0':=g0
 have g1':=g1
 unfold wdB at g0'
 unfold vwB at g1'
 refine AW.seq (AW.ofx [(1,5,[4,5,7,6])] mixed (by kernel_rfl) ?_)
 simp [g0',g1']
 refine qc.of hLv ?_
 rintro y H5 ⟨rfl,⟨hJ5,a1,a2,a3,a5,a4⟩,k6⟩
 obtain ⟨hs,hq,hp⟩:=hJ5.fd.q
 have hnd:=qa9 (l:=l) (v:=v) (p:=p) (mm:=mm) ht.ids ((Ji l v).sublist (List.filter_sublist (p:=fun z => !decide (lvl v z=0))))
 have hln:(JH l v p mm S (lvls v (vB l v))).length≤100000:=by
  have b1:=qau l v p mm S (lvls v (vB l v))
  have b3:=WQ v (vB l v)
  have b4:(lvls v (vB l v)).length*S.length≤1000*50:=Nat.mul_le_mul (by omega) hS
  omega
 have hFi:=qjb hJ5.fd.f hJ5.fd.m hq hp hnd hln mm
 simp [a4]
 have a5':=a5
 unfold zB at a5'
 refine AW.seq (AW.ofx [(1,5,[4,5,7,6])] mixed (by kernel_rfl) ?_)
 simp [a4,a5']
 refine qc.of hFi ?_
 rintro y H6 ⟨rfl,k7⟩
 unfold Yi
 simp
 have hsr:Srt hs:=by
  obtain ⟨_,_,_,_,h⟩:=hq
  exact h
 have hqt:∀ {i:Nat} {a:V} {cs:List SV},H5[i]? = some (.cells (.v a::cs))→¬ i=q:=fun hi e=>qdV hi hq e
 have hqm:∀ {i:Nat} {es:List (Value×V)},H5[i]? = some (.map es)→¬ i=q:=fun hi e=>by
  obtain ⟨_,hq1,_⟩:=hq
  exact qE hq1 hi e.symm
 refine AW.ofx [(1,5,[4,5,7,6])] mixed (by kernel_rfl) ?_
 simp
 refine ⟨?_,List.take mm.toNat (List.map (fun e=>VA (JH l v p mm S (lvls v (vB l v))) e.i) hs),by simp,fun Y hY hp2 => ?_⟩
 ·obtain ⟨es',t1,m1⟩:=hJ5.tab
  refine ⟨⟨es',⟨k7.cells (hqt t1.t) t1.t,k7.YV.map (hqm t1.m) t1.m⟩,m1⟩,fun i b hi hb hn => ?_⟩
  have hib:=(List.getElem?_eq_some_iff.1 hb).1
  refine k7.YV i b (by omega) (k6 i b (fun e => ?_) (k5 i b id hb hn) hn) hn
  rcases e with e | e | e
  ·omega
  ·omega
  ·exact hi e
 ·have hnd':((JH l v p mm S (lvls v (vB l v))).map fun x=>x.2.id).Nodup:=hnd
  have:=qgU hnd' hY hsr hp hp2 mm.toNat
  simpa using this
end Go.Proofs.YtnconfggojpkcaaGreat
