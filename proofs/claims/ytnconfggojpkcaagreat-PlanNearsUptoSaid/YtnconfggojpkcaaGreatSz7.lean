/- Texts that a law rests on, part z7: plain lemmas and what functions of the program do. No condition. -/
import Derived.Test.YtnconfggojpkcaaGreatSz6
set_option linter.all false
set_option maxHeartbeats 16000000
set_option maxRecDepth 100000
namespace Go.Proofs.YtnconfggojpkcaaGreat
open Go.RowKit AM
attribute [local simp] zQ qU jL zT zq zR zS zo jM zu qV Z8 Qm jC Ql yc ZE vZ slF qG Qo zK yx zA shares jh yt ze Qz QI qY ZF qZ qM vX zH yu Qe qL zD zG vU slV jE jG yE zU ZJ jB jF aMM aUn Qp vW jD zC jA qJ vV Qu vY vS Zw y9 qK Qs ZK zJ zI jH jR ZH eval zZ AM.valOf qm vO yR del SV.refers zY vQ jU shift ldV V.exact V.jg V.ofValue V.vP V.vL V.cells V.one Value.oneCell' ZI QY jV Q5 ZM ZC Qa Zy jl jI Qi ZL y8 yX Qr calm Qt Zn Qk feeds shrinks Qx looks isT Qf vK Qd putAt jT jc Zm sliceB isEq Qg zk qH zO zn qR zl zm qQ zP zi qP ZW Qw yB Zl QZ inO y7 Zi Mix.vT Mix.Qc QB QX qz qj qW zh qO ZV Qq yg yh ZG Zb yw yO Q8 jW V.fixed V.vC
attribute [local simp] vE je yL vH jQ vF vG jP yM vk jN V5 Ja yF QT Jb z0 JL VK Vo VU
theorem Jf (o:Option Se):seW o = .tup [.agg [.sc (.int .i64 (o.getD qw).id),.sc (.int .i64 (o.getD qw).lv),.sc (.int .i64 (o.getD qw).box.x0),.sc (.int .i64 (o.getD qw).box.y0),.sc (.int .i64 (o.getD qw).box.x1),.sc (.int .i64 (o.getD qw).box.y1)],.sc (.bool o.isSome)]:=rfl
theorem qcl (v:Vw) (id lv:Int) (b:Re):PFn Tryz.prog 65 [.agg v.cs,.sc (.int .i64 id),.sc (.int .i64 lv),b.v] (seW (QE v id lv b)):=by
 have hI:=gIn b v.g.box
 unfold QE
 unfold Vw.cs
 unfold Re.v Re.cs at hI ⊢
 refine vwc (fn:=Tryz.f65) rfl ?_
 simp only [Tryz.f65,ql]
 refine AW.seq (vwb ?_)
 simp
 by_cases h0:lv=0
 ·refine AW.seq (vwb ?_)
  simp [h0,setCells,qo,seW,qw,Se.cs]
 ·have h0':(lv==0)=false:=by simpa using h0
  cases hv:v.g.void with
  | true =>
   refine AW.seq (vwb ?_)
   simp [h0,h0',hv,setCells,qo,seW,qw,Se.cs]
  | false =>
   refine AW.seq (vwb ?_)
   simp [h0,h0',hv]
   refine qc.pure hI rfl rfl ?_
   cases hb:inB b v.g.box with
   | false =>
    simp [h0,h0',setCells,qo,seW,qw,Se.cs]
   | true =>
    simp [h0,h0']
    refine vwb ?_
    simp [setCells,qo,seW,Se.cs]
structure Yk (l:List Ru):Prop where
 len:l.length≤1000000
 n:(qg l).length≤1048576
 all:l.all qI=true
def zmP (l:List Ru) (v:Vw) (x:Pr):Int:=vN l v.ro v.ti x.lab x.at_
theorem qmQ {l:List Ru} (ha:l.all qI=true) (ro ti la:Int) (p:Pt):(if QU ro ti la then qg0 (Vq l ro ti la) p else 0)=vN l ro ti la p:=by
 cases e:QU ro ti la with
 | true =>
  rw [if_pos rfl]
  exact zoomP_eq (X4 ha ro ti la) p
 | false =>
  rw [if_neg (by decide)]
  exact (qaJ e p).symm
theorem Kept.Va {l:List Ru} {t m:Nat} {es:List (Value×V)} {H1 H2:List Bk} (hT:Tab H1 t m l es) (h:Kept l t m H1 H2):Xi H1 H2:=fun id ks hb _=>by
 have hne:id≠m:=by
  rintro rfl
  have:=hT.m.symm.trans hb
  cases this
 exact h.2.cells hne hb
theorem qhu {m i:Nat} {H H1:List Bk} {K:Bk} (h:JG m H H1) (hi:H.length≤i):JG m H (H1.set i K):=fun j b hj hb hn=>by
 have hl:=(List.getElem?_eq_some_iff.1 hb).1
 rw [List.getElem?_set_ne (by omega)]
 exact h j b hj hb hn
theorem Kept.YI {l:List Ru} {t m i:Nat} {es:List (Value×V)} {H H1:List Bk} {K:Bk} (hT:Tab H t m l es) (h:Kept l t m H H1) (hi:H.length≤i):Kept l t m H (H1.set i K):=by
 obtain ⟨⟨es',h1,h2⟩,h3⟩:=h
 have ht:=(List.getElem?_eq_some_iff.1 hT.t).1
 have hm:=(List.getElem?_eq_some_iff.1 hT.m).1
 exact ⟨⟨es',⟨by rw [List.getElem?_set_ne (by omega)]; exact h1.t,by rw [List.getElem?_set_ne (by omega)]; exact h1.m⟩,h2⟩,qhu h3 hi⟩
def wdB (r c t:Nat):Bk := .cells [.v (.ptr r 0),.v (.ptr c 0),.v (.ptr t 0)]
def vwB (v:Vw):Bk := .cells [.v (.sc (.int .i64 v.ro)),.v (.sc (.int .i64 v.ti)),.v (.sc (.int .i64 v.g.ops)),.v (.sc (.int .i64 v.g.zoom)),.v (.sc (.int .i64 v.g.box.x0)),.v (.sc (.int .i64 v.g.box.y0)),.v (.sc (.int .i64 v.g.box.x1)),.v (.sc (.int .i64 v.g.box.y1)),.v (.sc (.bool v.g.void)),.v (.sc (.int .i64 v.g.til))]
def wdC (r c t:Nat):V := .agg [.ptr r 0,.ptr c 0,.ptr t 0]
theorem qjL {l:List Ru} (hl:Yk l) (v:Vw) (x:Pr) {t m:Nat} (r c:Nat) (es:List (Value×V)) (H:List Bk) (hT:Tab H t m l es) (hM:VO l es) :
  AFn Tryz.prog 20 [wdC r c t,.agg v.cs,x.v] H fun y H'=>y=seW (Zq (zmP l v) v x)∧Kept l t m H H':=by
 have hRt:=qaF v
 have hF:=KG x.at_
 have hZ:=fun H' es' hT' hM'=>gZoom l v.ro v.ti x.lab x.at_ hl.len hl.n t m es' H' hT' hM'
 have hLv:=fun z=>qbk v z
 have hSh:=fun lv b=>qcl v x.id lv b
 simp only [qmQ hl.all] at hZ
 unfold Zq zmP
 unfold Vw.cs at hRt hLv hSh ⊢
 unfold Pt.v Pt.cs at hF hZ
 unfold Re.v Re.cs at hSh
 unfold wdC
 unfold Pr.v Pr.cs
 generalize vN l v.ro v.ti x.lab x.at_=zz at *
 refine vwc (fn:=Tryz.f20) rfl ?_
 simp only [Tryz.f20,ql]
 refine AW.seq (vwa [(3,12,[4,3,5])] ?_)
 simp
 have hk1:JG m H (H ++ [wdB r c t,vwB v,prB x,seB qw]) := .app
 have g0:(H ++ [wdB r c t,vwB v,prB x,seB qw])[H.length]? = some (wdB r c t):=by simp
 have g1:(H ++ [wdB r c t,vwB v,prB x,seB qw])[H.length+1]? = some (vwB v):=by simp
 have g2:(H ++ [wdB r c t,vwB v,prB x,seB qw])[H.length+2]? = some (prB x):=by simp
 have g3:(H ++ [wdB r c t,vwB v,prB x,seB qw])[H.length+3]? = some (seB qw):=by simp
 have hT1:Tab (H ++ [wdB r c t,vwB v,prB x,seB qw]) t m l es:=hT.stays .app
 have hml:=(List.getElem?_eq_some_iff.1 hT.m).1
 change AW _ _ _ _ ⟨_,H ++ [wdB r c t,vwB v,prB x,seB qw]⟩
 generalize H ++ [wdB r c t,vwB v,prB x,seB qw]=H1 at *
 have d0:H.length≠m:=by omega
 have d1:H.length+1≠m:=by omega
 have d2:H.length+2≠m:=by omega
 have d3:H.length+3≠m:=by omega
 have hil:H.length≤H.length+3:=by omega
 generalize H.length+1=i1 at *
 generalize H.length+2=i2 at *
 generalize H.length+3=i3 at *
 generalize hi0:H.length=i0 at *
 have hi3:i3<H1.length:=(List.getElem?_eq_some_iff.1 g3).1
 have hst:∀ {H2},H2[i3]? = some (seB qw)→∀ a b c d e f,setCells H2 i3 0 [a,b,c,d,e,f]=H2.set i3 (.cells [.v a,.v b,.v c,.v d,.v e,.v f]):=fun h a b c d e f=>by
  unfold seB at h
  rw [setCells_eq h (by simp)]
  rfl
 have g1':=g1
 have g2':=g2
 unfold vwB at g1'
 unfold prB at g2'
 have hend:∀ K,Kept l t m H (H1.set i3 K):=fun K=>Kept.YI hT ⟨⟨es,hT1,hM⟩,hk1⟩ (by omega)
 have hgs:∀ K,(H1.set i3 K)[i3]? = some K:=fun K=>List.getElem?_set_self hi3
 refine AW.seq (vwa [(3,12,[4,3,5])] ?_)
 simp [g1',g2']
 refine qc.pure hRt rfl rfl ?_
 cases hr:yG v with
 | false =>
  have g3':=g3
  unfold seB at g3'
  simp [g1',g2',g3',hst g3,hgs]
  exact ⟨by simp [seW,Se.cs,qw],hend _⟩
 | true =>
  simp [g1',g2']
  refine qc.pure hF rfl rfl ?_
  cases hf:fits x.at_ with
  | false =>
   have g3':=g3
   unfold seB at g3'
   simp [g1',g2',g3',hst g3,hgs]
   exact ⟨by simp [seW,Se.cs,qw],hend _⟩
  | true =>
   have g0':=g0
   unfold wdB at g0'
   simp [g1',g2']
   refine AW.seq (vwa [(3,12,[4,3,5])] ?_)
   simp [g0',g1',g2']
   refine qc.of (hZ _ _ hT1 hM) ?_
   rintro y H2 ⟨rfl,hK2⟩
   have kp2:=eq_true (hK2.Va hT1)
   simp [g0',g1',g2',kp2]
   refine qc.pure (hLv zz) rfl rfl ?_
   simp [g0',g1',g2',kp2]
   generalize lvl v zz=lv at *
   have c1:=hK2.2.cells d1 g1
   have c2:=hK2.2.cells d2 g2
   have c3:=hK2.2.cells d3 g3
   have hK2:=Kept.trans hk1 hK2
   have hO:=cOf x.at_ lv
   have hB:=fun c=>qiV c
   generalize ofR x.at_ lv=oc at *
   obtain ⟨oc,ok⟩:=oc
   simp only at hO ⊢
   have hB:=hB oc
   generalize JD oc=bx at *
   obtain ⟨bx,bok⟩:=bx
   simp only at hB ⊢
   have hSh:=hSh lv bx
   generalize QE v x.id lv bx=sv at *
   unfold Pt.v Pt.cs Ce.v Ce.cs at hO
   unfold Ce.v Ce.cs Re.v Re.cs at hB
   rw [Jf] at hSh ⊢
   clear hT1 hM hZ hend hgs hi3 g0 g1 g2 g3 g0' g1' g2' kp2
   have c1':=c1
   have c2':=c2
   unfold vwB at c1'
   unfold prB at c2'
   refine AW.seq (vwa [(3,12,[4,3,5])] ?_)
   simp [c2']
   refine qc.pure hO rfl rfl ?_
   simp
   rw [qp rfl]
   have hpc:Bk.cells ([V.sc (.int .i64 oc.l),V.sc (.int .i64 oc.x),V.sc (.int .i64 oc.y)].map SV.v)=ceB oc:=rfl
   rw [hpc]
   have e1:=hget (L := [ceB oc]) c1
   have e2:=hget (L := [ceB oc]) c2
   have e3:=hget (L := [ceB oc]) c3
   have e4:(H2 ++ [ceB oc])[H2.length]? = some (ceB oc):=by simp
   have hK3:=hK2.app (L := [ceB oc])
   clear c1 c2 c3 hK2
   generalize H2 ++ [ceB oc]=H3 at *
   generalize H2.length=i4 at *
   unfold ceB at e4
   refine AW.sub [(4,.v (.ptr i1 0)),(5,.v (.ptr i2 0)),(6,.v (.ptr i3 0)),(8,.v (.sc (.int .i64 lv))),(9,.v (.ptr i4 0)),(7,.v (.sc (.bool false)))] (by simp [qbh,qm]) ?_
   refine AW.seq (vwa [(3,12,[4,3,5])] ?_)
   simp [e4]
   refine qc.pure hB rfl rfl ?_
   simp
   rw [qp rfl]
   have hpr:Bk.cells ([V.sc (.int .i64 bx.x0),V.sc (.int .i64 bx.y0),V.sc (.int .i64 bx.x1),V.sc (.int .i64 bx.y1)].map SV.v)=reB bx:=rfl
   rw [hpr]
   have f1:=hget (L := [reB bx]) e1
   have f2:=hget (L := [reB bx]) e2
   have f3:=hget (L := [reB bx]) e3
   have f4:(H3 ++ [reB bx])[H3.length]? = some (reB bx):=by simp
   have hK4:=hK3.app (L := [reB bx])
   clear e1 e2 e3 e4 hK3
   generalize H3 ++ [reB bx]=H4 at *
   generalize H3.length=i5 at *
   have hi3':i3<H4.length:=(List.getElem?_eq_some_iff.1 f3).1
   have hgs':∀ K,(H4.set i3 K)[i3]? = some K:=fun K=>List.getElem?_set_self hi3'
   have f3':=f3
   try unfold vwB at f1
   try unfold prB at f2
   try unfold seB at f3'
   try unfold reB at f4
   refine AW.seq (vwa [(3,12,[4,3,5])] ?_)
   simp [f1,f2,f4]
   refine qc.pure hSh rfl rfl ?_
   simp [f3',hst f3]
   refine vwa [(3,12,[4,3,5])] ?_
   simp [hgs']
   exact Kept.YI hT hK4 (by omega)
def Qy (zs:List Se):SV := .own true 59 zs.length 6 (zs.flatMap Se.cs)
def QA (zs:List Se):V := .sl zs.length 6 (zs.flatMap Se.cs)
theorem rowEt {es:List Ent} {k:Nat} (hk:k<es.length):AM.rowAt 3 (es.flatMap Kq) (k:Int) = [.sc (.int .u64 es[k].k),.sc (.int .u64 es[k].t),.sc (.int .i64 es[k].i)]:=WA (enc:=Kq) (sz:=3) (fun _=>rfl) hk
def FsI (H0:List Bk) (f q m:Nat) (hs:List Ent) (X:List (Int×Se)) (k:Nat) (F:Fr) (H:List Bk):Prop :=
 H[f]? = some (.cells [.v (.ptr q 0),.v (.map m)])∧H[m]? = some (.map (X.map qiO))∧KpA (fun x=>x=q) H0 H∧F = [(0,.v (.ptr f 0)),(5,Qy ((hs.take k).map fun e=>Wh X e.i)),(13,.v (qjc hs)),(14,.v (.sc (.int .i64 hs.length))),(15,.v (.sc (.int .i64 k)))]
theorem qdx {H:List Bk} {f q m:Nat} {X:List (Int×Se)} {hs:List Ent} (h1:H[f]? = some (.cells [.v (.ptr q 0),.v (.map m)])) (h2:H[m]? = some (.map (X.map qiO))) (hq:QQ H q hs) (hp:hs.Perm (X.map Yd)) (hn:(X.map fun x=>x.2.id).Nodup) (hl:X.length≤100000) (mm:Int) :
  AFn Tryz.prog 56 [.ptr f 0,.sc (.int .i64 mm)] H fun y H'=>y=QA ((hs.take mm.toNat).map fun e=>Wh X e.i)∧KpA (fun x=>x=q) H H':=by
 have hlen:hs.length≤100000:=by rw [hp.length_eq,List.length_map]; exact hl
 have hD:=zDrain hq hlen mm
 have hmem:∀ e∈hs.take mm.toNat,∃ x∈X,e.i=x.2.id:=fun e he=>by
  obtain ⟨x,hx,rfl⟩:=List.mem_map.1 (hp.mem_iff.1 (List.mem_of_mem_take he))
  exact ⟨x,hx,rfl⟩
 have hfq:f≠q:=by
  rintro rfl
  obtain ⟨es,h3,_⟩:=hq
  rw [h1] at h3; cases h3
 have hmq:m≠q:=by
  rintro rfl
  obtain ⟨es,h3,_⟩:=hq
  rw [h2] at h3; cases h3
 have htl:(hs.take mm.toNat).length≤100000:=Nat.le_trans (List.length_take_le' _ _) hlen
 generalize hs.take mm.toNat=T at *
 clear hp hq hlen
 refine vwc (fn:=Tryz.f56) rfl ?_
 simp only [Tryz.f56,ql]
 refine AW.seq (vwb ?_)
 simp
 refine AW.seq (vwb ?_)
 simp
 refine AW.seq (vwb ?_)
 simp [h1]
 refine qc.of hD ?_
 rintro y H1 ⟨rfl,k1⟩
 have g1:=k1.cells hfq h1
 have g2:=k1 _ _ hmq h2
 unfold qjc
 simp
 refine AW.count T.length (FsI H f q m T X) ⟨_,?_,g1,g2,k1,rfl⟩ ?_
 ·simp [qz,qj,qm,qW,Qy,qjc]
 rintro k F H2 hk ⟨g1,g2,k2,rfl⟩
 have hkl:((T.take k).map fun e=>Wh X e.i).length=k:=by rw [List.length_map,List.length_take]; omega
 unfold qjc Qy
 rw [hkl]
 refine AW.seq (vwb ?_)
 by_cases hlt:k<T.length
 ·simp [hlt]
  obtain ⟨x,hx,hxi⟩:=hmem T[k] (List.getElem_mem hlt)
  obtain ⟨j,hj⟩:=qom (i:=0) hn hx
  have hlk:=qiw hn hx
  have htk:T.take (k+1)=T.take k ++ [T[k]]:=List.take_succ_eq_append_getElem hlt
  refine vwb ?_
  simp [rowEt hlt,hlt]
  rw [qp rfl]
  have hb:(H2 ++ [Bk.cells ([V.sc (.int .u64 T[k].k),V.sc (.int .u64 T[k].t),V.sc (.int .i64 T[k].i)].map SV.v)])[H2.length]? = some (.cells [.v (.sc (.int .u64 T[k].k)),.v (.sc (.int .u64 T[k].t)),.v (.sc (.int .i64 T[k].i))]):=by simp
  have e1:=hget (L := [Bk.cells ([V.sc (.int .u64 T[k].k),V.sc (.int .u64 T[k].t),V.sc (.int .i64 T[k].i)].map SV.v)]) g1
  have e2:=hget (L := [Bk.cells ([V.sc (.int .u64 T[k].k),V.sc (.int .u64 T[k].t),V.sc (.int .i64 T[k].i)].map SV.v)]) g2
  have k3:=k2.app (L := [Bk.cells ([V.sc (.int .u64 T[k].k),V.sc (.int .u64 T[k].t),V.sc (.int .i64 T[k].i)].map SV.v)])
  generalize H2 ++ [_]=H3 at *
  rw [hxi] at hb
  simp [hb,e1,e2,zvSe,hj,Se.cs]
  have ew:IntKind.i64.wrap ((k:Int)+1)=k+1:=wrap_i64 (by omega) (by omega)
  refine ⟨⟨by omega,by omega⟩,_,?_,e1,e2,k3,rfl⟩
  have hrow:((T.take (k+1)).map fun e=>Wh X e.i)=((T.take k).map fun e=>Wh X e.i) ++ [x.2]:=by rw [htk,List.map_append,List.map_singleton,hxi,hlk]
  rw [hrow]
  simp [qz,qj,qm,Qy,qjc,ew,Se.cs]
  omega
 ·simp [hlt]
  have hkT:k=T.length:=by omega
  refine AW.seq (vwb ?_)
  simp
  refine AW.seq (vwb ?_)
  simp [QA,hkT]
  rw [List.take_of_length_le (by simp)]
  refine vwb ?_
  simp [QA]
  exact k2
structure qmK (l:List Ru) (v:Vw) (t m g:Nat) (cap:List V) (zs:List Int) (J:List Int→List Bk→Prop) (T:Nat→Prop):Prop where
 tab:∀ D H,J D H→∃ es,Tab H t m l es∧VO l es
 keep:∀ D H H',J D H→Kept l t m H H'→J D H'
 ex:V.jg cap=none
 tell:∀ k (hk:k<zs.length) H,lvl v zs[k]≠0→J (lvls v (zs.take k)) H→AFn Tryz.prog g (.sc (.int .i64 zs[k]) :: .sc (.int .i64 (lvl v zs[k]))::cap) H fun y H'=>y = .tup []∧J (lvls v (zs.take k) ++ [zs[k]]) H'∧Kp T H H'
theorem K9 (v:Vw) (zs:List Int) (z:Int):lvls v (zs ++ [z])=if lvl v z=0 then lvls v zs else lvls v zs ++ [z]:=by
 unfold lvls
 rw [List.filter_append]
 by_cases h:lvl v z=0
 ·simp [h]
 ·simp [h]
def LvP (v:Vw) (H0:List Bk) (T:Nat→Prop) (i0 i1 r c t g:Nat) (cap:List V) (zs:List Int) (J:List Int→List Bk→Prop) (k:Nat) (F:Fr) (H:List Bk):Prop :=
 J (lvls v (zs.take k)) H∧H[i0]? = some (wdB r c t)∧H[i1]? = some (vwB v)∧Kp T H0 H∧F = [(2,.v (.fn (.func g) [] cap)),(3,.v (.ptr i0 0)),(4,.v (.ptr i1 0)),(15,.v (slI zs)),(16,.v (.sc (.int .i64 zs.length))),(17,.v (.sc (.int .i64 k)))]
theorem qbO {l:List Ru} (hl:Yk l) (v:Vw) {t m g:Nat} (r c:Nat) {cap:List V} {J:List Int→List Bk→Prop} {T:Nat→Prop} {H:List Bk} (zs:List Int) (hzs:zs=if QU v.ro v.ti 0 then qek (qcd l v.ro v.ti 8) else []) (hlen:zs.length≤100000) (hT:qmK l v t m g cap zs J T) (hTl:∀ x,T x→x<H.length) (hTm:T m) (hJ:J [] H) :
  AFn Tryz.prog 50 [wdC r c t,.agg v.cs,.fn (.func g) [] cap] H fun y H'=>y = .tup []∧J (lvls v zs) H'∧Kp T H H':=by
 have hLv:=fun z=>qbk v z
 have hG:=fun H' es' hT' hM'=>gLevels l v.ro v.ti hl.len hl.n t m es' H' hT' hM'
 rw [← hzs] at hG
 have hex:=hT.ex
 unfold wdC
 unfold Vw.cs at hLv ⊢
 refine vwc (fn:=Tryz.f50) rfl ?_
 simp only [Tryz.f50,ql]
 refine AW.seq (vwb ?_)
 simp
 have kp1:Kept l t m H (H ++ [wdB r c t,vwB v]):=by
  obtain ⟨es,h1,h2⟩:=hT.tab _ _ hJ
  exact ⟨⟨es,h1.stays .app,h2⟩,.app⟩
 have hJ1:J [] (H ++ [wdB r c t,vwB v]):=hT.keep _ _ _ hJ kp1
 have kT1:Kp T H (H ++ [wdB r c t,vwB v]):=Kp.refl.app
 have g0:(H ++ [wdB r c t,vwB v])[H.length]? = some (wdB r c t):=by simp
 have g1:(H ++ [wdB r c t,vwB v])[H.length+1]? = some (vwB v):=by simp
 change AW _ _ _ _ ⟨_,H ++ [wdB r c t,vwB v]⟩
 generalize H ++ [wdB r c t,vwB v]=H1 at *
 have n0:¬ T H.length:=fun e=>by have:=hTl _ e; omega
 have n1:¬ T (H.length+1):=fun e=>by have:=hTl _ e; omega
 generalize H.length+1=i1 at *
 generalize H.length=i0 at *
 have g0':=g0
 have g1':=g1
 unfold wdB at g0'
 unfold vwB at g1'
 refine AW.scope (AW.seq (vwb ?_))
 simp
 refine AW.seq (vwb ?_)
 simp [g0',g1']
 obtain ⟨es1,t1,m1⟩:=hT.tab _ _ hJ1
 refine qc.of (hG _ _ t1 m1) ?_
 rintro y H2 ⟨rfl,hK2⟩
 have hJ2:=hT.keep _ _ _ hJ1 hK2
 have mne0:i0≠m:=fun e=>n0 (e▸hTm)
 have mne1:i1≠m:=fun e=>n1 (e▸hTm)
 have c0:=hK2.2.cells mne0 g0
 have c1:=hK2.2.cells mne1 g1
 have kT2:Kp T H H2:=kT1.trans (fun i b hi hb hn=>hK2.2 i b (fun e=>hi (e▸hTm)) hb hn)
 unfold slI
 simp [ints_len]
 refine AW.block (AW.count zs.length (LvP v H T i0 i1 r c t g cap zs J) ⟨_,?_,by simpa [lvls] using hJ2,c0,c1,kT2,rfl⟩ ?_)
 ·simp [qz,qj,qm,slI]
 clear g0 g1 g0' g1' hJ1 hJ2 hK2 kT1 kT2 c0 c1 t1 m1
 rintro k F H3 hk ⟨hJ3,c0,c1,kT3,rfl⟩
 have c0':=c0
 have c1':=c1
 unfold wdB at c0'
 unfold vwB at c1'
 unfold slI
 refine AW.seq (vwb ?_)
 by_cases hlt:k<zs.length
 ·have ew:IntKind.i64.wrap ((k:Int)+1)=k+1:=wrap_i64 (by omega) (by omega)
  have htk:zs.take (k+1)=zs.take k ++ [zs[k]]:=List.take_succ_eq_append_getElem hlt
  have hlk:lvls v (zs.take (k+1))=if lvl v zs[k]=0 then lvls v (zs.take k) else lvls v (zs.take k) ++ [zs[k]]:=by rw [htk,K9]
  simp [hlt]
  refine vwb ?_
  simp [Kw hlt,hlt,c1']
  refine qc.pure (hLv zs[k]) rfl rfl ?_
  by_cases h0:lvl v zs[k]=0
  ·simp [h0,ew]
   refine ⟨_,?_,by rw [hlk,if_pos h0]; exact hJ3,c0,c1,kT3,rfl⟩
   simp [qz,qj,qm,slI]
  ·have h0':(lvl v zs[k]==0)=false:=by simpa using h0
   simp [h0,h0',hex]
   refine qc.of (hT.tell k hlt _ h0 hJ3) ?_
   rintro y H4 ⟨rfl,hJ4,k4⟩
   simp [ew]
   refine ⟨_,?_,by rw [hlk,if_neg h0]; exact hJ4,k4.cells n0 c0,k4.cells n1 c1,kT3.trans k4,rfl⟩
   simp [qz,qj,qm,slI]
 ·simp [hlt]
  have hkT:k=zs.length:=by omega
  refine AW.seq (vwb ?_)
  simp
  rw [hkT,List.take_length] at hJ3
  exact ⟨rfl,hJ3,kT3⟩
def yN (v:Vw) (m:Int) (b:Bool):Int:=if yG v&&b&&decide (0≤m)&&decide (m≤64) then 0 else 1
theorem qim (v:Vw) (m:Int) (b:Bool) (r c t:Nat) (H:List Bk):AFn Tryz.prog 47 [wdC r c t,.agg v.cs,.sc (.int .i64 m),.sc (.bool b)] H fun y H'=>y = .sc (.int .i64 (yN v m b))∧Kp NoB H H':=by
 have hR:=qaF v
 unfold yN
 unfold wdC
 unfold Vw.cs at hR ⊢
 generalize yG v=vr at *
 refine vwc (fn:=Tryz.f47) rfl ?_
 simp only [Tryz.f47,ql]
 refine AW.seq (vwb ?_)
 simp
 have k1:Kp NoB H (H ++ [wdB r c t,vwB v]):=Kp.refl.app
 have g0:(H ++ [wdB r c t,vwB v])[H.length]? = some (wdB r c t):=by simp
 have g1:(H ++ [wdB r c t,vwB v])[H.length+1]? = some (vwB v):=by simp
 change AW _ _ _ _ ⟨_,H ++ [wdB r c t,vwB v]⟩
 generalize H ++ [wdB r c t,vwB v]=H1 at *
 generalize H.length+1=i1 at *
 generalize H.length=i0 at *
 unfold wdB at g0
 unfold vwB at g1
 refine AW.seq (vwb ?_)
 simp [g0]
 refine AW.seq (vwb ?_)
 simp [g1]
 refine qc.pure hR rfl rfl ?_
 cases vr with
 | false =>
  simp
  exact k1
 | true =>
  cases b with
  | false =>
   simp
   exact k1
  | true =>
   by_cases h0:0≤m
   rotate_left
   ·have d0:m<0:=by omega
    simp [h0,d0]
    exact k1
   have d0:¬ m<0:=by omega
   by_cases h1:m≤64
   ·have d1:¬ 64<m:=by omega
    simp [h0,d0,h1,d1]
    refine vwb ?_
    simp
    exact k1
   ·have d1:64<m:=by omega
    simp [h0,d0,h1,d1]
    exact k1
structure WJ (l:List Ru) (v:Vw) (S:List Pr) (Tt:Nat→Prop) (t m r c b f q mf:Nat) (X:List (Int×Se)) (H:List Bk):Prop where
 tab:∃ es,Tab H t m l es∧VO l es
 tr:TrP H r b S Tt
 fd:Fnd H f q mf X
structure WD (Tt:Nat→Prop) (m q mf:Nat):Prop where
 tm:∀ x,Tt x→x≠m
 tq:∀ x,Tt x→x≠q
 tf:∀ x,Tt x→x≠mf
 mm:m≠mf
section
variable {l:List Ru} {v:Vw} {S:List Pr} {Tt:Nat→Prop} {t m r c b f q mf:Nat} {X:List (Int×Se)} {H H':List Bk}
theorem qh {i j:Nat} {a:List SV} {es:List (Value×V)} (h:H[i]? = some (.cells a)) (h':H[j]? = some (.map es)):i≠j:=by
 rintro rfl
 rw [h] at h'
 cases h'
theorem Ky {i q:Nat} {a:V} {cs:List SV} {hs:List Ent} (h:H[i]? = some (.cells (.v a::cs))) (h':QQ H q hs):i≠q:=by
 rintro rfl
 obtain ⟨es,h',_⟩:=h'
 rw [h] at h'
 cases h'
theorem WJ.kept (hd:WD Tt m q mf) (h:WJ l v S Tt t m r c b f q mf X H) (k:Kept l t m H H'):WJ l v S Tt t m r c b f q mf X H':=by
 obtain ⟨⟨es,h1,h2⟩,h3,h4⟩:=h
 obtain ⟨hs,hq,_⟩:=h4.q
 obtain ⟨es',hq1,_⟩:=hq
 have k2:Kp (fun x=>x=m) H H':=fun i b hi hb hn=>k.2 i b hi hb hn
 exact ⟨k.1,h3.keep k2 hd.tm,h4.keep k2 (qh h4.f h1.m) (qh hq1 h1.m) hd.mm.symm⟩
theorem WJ.app {L:List Bk} (h:WJ l v S Tt t m r c b f q mf X H):WJ l v S Tt t m r c b f q mf X (H++L):=by
 obtain ⟨⟨es,h1,h2⟩,h3,h4⟩:=h
 exact ⟨⟨es,h1.stays .app,h2⟩,h3.app,h4.app⟩
theorem WJ.Vb (h:WJ l v S Tt t m r c b f q mf X H) (k:Kp NoB H H'):WJ l v S Tt t m r c b f q mf X H':=by
 obtain ⟨⟨es,h1,h2⟩,h3,h4⟩:=h
 exact ⟨⟨es,⟨k.cells id h1.t,k.map id h1.m⟩,h2⟩,h3.Vb k,h4.keep k id id id⟩
theorem WJ.put {Y:List (Int×Se)} (hd:WD Tt m q mf) (h:WJ l v S Tt t m r c b f q mf X H) (k:Kp (fun x=>x=q∨x=mf) H H') (hY:Fnd H' f q mf Y):WJ l v S Tt t m r c b f q mf Y H':=by
 obtain ⟨⟨es,h1,h2⟩,h3,h4⟩:=h
 obtain ⟨hs,hq,_⟩:=h4.q
 have n1:t≠q:=by
  rintro rfl
  obtain ⟨es',hq,_⟩:=hq
  have:=h1.t.symm.trans hq
  cases this
 obtain ⟨es',hq1,_⟩:=hq
 exact ⟨⟨es,⟨k.cells (fun e=>e.elim n1 (fun e=>qh h1.t h4.m e)) h1.t,k.map (fun e=>e.elim (fun e=>qh hq1 h1.m e.symm) hd.mm) h1.m⟩,h2⟩,h3.keep k fun x hx e=>e.elim (hd.tq x hx) (hd.tf x hx),hY⟩
end
def QS {α:Type} (see:α→Option Se) (Z:α→Int) (z:Int) (L:List α):List (Int×Se):=((L.filter fun x=>decide (Z x=z)).filterMap see).map fun s=>(0,s)
theorem qdT {α:Type} (see:α→Option Se) (Z:α→Int) (z:Int) (L:List α) (x:α):QS see Z z (L ++ [x])=QS see Z z L++if Z x=z then (match see x with | some s => [((0:Int),s)] | none => []) else []:=by
 unfold QS
 rw [List.filter_append,List.filterMap_append,List.map_append]
 by_cases h:Z x=z
 ·cases hs:see x <;> simp [h,hs]
 ·simp [h]
theorem qfe {α:Type} (see:α→Option Se) (Z:α→Int) (z:Int) (L M:List α):QS see Z z (L++M)=QS see Z z L++QS see Z z M:=by simp [QS]
theorem qai {α:Type} (see:α→Option Se) (Z:α→Int) (z:Int) (L:List α):(QS see Z z L).length≤L.length:=by
 unfold QS
 rw [List.length_map]
 exact Nat.le_trans (List.length_filterMap_le _ _) (List.length_filter_le _ _)
theorem KT {X:List (Int×Se)} {x:Int×Se} (h:((X ++ [x]).map fun x=>x.2.id).Nodup):∀ y∈X,y.2.id≠x.2.id:=fun y hy e=>by
 rw [List.map_append,List.nodup_append] at h
 exact h.2.2 _ (List.mem_map.2 ⟨y,hy,rfl⟩) _ (by simp) e
def WcI (l:List Ru) (v:Vw) (S:List Pr) (Tt:Nat→Prop) (t m r c b f q mf c2 c3 c4 c5:Nat) (rc:Re) (X:List (Int×Se)) (z:Int) (L:List Pr) (H0:List Bk) (k:Nat) (F:Fr) (H:List Bk):Prop :=
 WJ l v S Tt t m r c b f q mf (X++QS (Zq (zmP l v) v) (zmP l v) z (L.take k)) H∧H[c2]? = some (reB rc)∧H[c3]? = some (wdB r c t)∧H[c4]? = some (vwB v)∧H[c5]? = some (.cells [.v (.ptr f 0)])∧Kp (fun x=>x=q∨x=mf∨x=m) H0 H ∧
  F = [(0,.v (.sc (.int .i64 z))),(2,.v (.ptr c2 0)),(3,.v (.ptr c3 0)),(4,.v (.ptr c4 0)),(5,.v (.ptr c5 0)),(23,.v (lV L)),(24,.v (.sc (.int .i64 L.length))),(25,.v (.sc (.int .i64 k)))]
theorem plWin1 {l:List Ru} (hl:Yk l) (v:Vw) {S:List Pr} {Tt:Nat→Prop} {t m r c b f q mf c2 c3 c4 c5:Nat} {rc:Re} {X:List (Int×Se)} {H:List Bk} (hd:WD Tt m q mf) (h:WJ l v S Tt t m r c b f q mf X H)
  (h2:H[c2]? = some (reB rc)) (h3:H[c3]? = some (wdB r c t)) (h4:H[c4]? = some (vwB v)) (h5:H[c5]? = some (.cells [.v (.ptr f 0)])) (z lv:Int)
  (hnd:((X++QS (Zq (zmP l v) v) (zmP l v) z (qcb (zW rc lv).1 S)).map fun x=>x.2.id).Nodup) (hlen:X.length+(qcb (zW rc lv).1 S).length≤100000) :
  AFn Tryz.prog 51 [.sc (.int .i64 z),.sc (.int .i64 lv),.ptr c2 0,.ptr c3 0,.ptr c4 0,.ptr c5 0] H fun y H'=>y = .tup []∧WJ l v S Tt t m r c b f q mf (X++QS (Zq (zmP l v) v) (zmP l v) z (qcb (zW rc lv).1 S)) H'∧Kp (fun x=>x=q∨x=mf∨x=m) H H':=by
 have hS:=qdE rc lv
 have h2':=h2
 unfold reB at h2'
 unfold Re.v Re.cs at hS
 generalize zW rc lv=wd at *
 obtain ⟨w,wok⟩:=wd
 simp only at hS hnd hlen ⊢
 refine vwc (fn:=Tryz.f51) rfl ?_
 simp only [Tryz.f51,ql]
 refine AW.seq (vwb ?_)
 simp [h2']
 refine qc.pure hS rfl rfl ?_
 simp
 rw [qp rfl]
 have hpr:Bk.cells ([V.sc (.int .i64 w.x0),V.sc (.int .i64 w.y0),V.sc (.int .i64 w.x1),V.sc (.int .i64 w.y1)].map SV.v)=reB w:=rfl
 rw [hpr]
 have e2:=hget (L := [reB w]) h2
 have e3:=hget (L := [reB w]) h3
 have e4:=hget (L := [reB w]) h4
 have e5:=hget (L := [reB w]) h5
 have e6:(H ++ [reB w])[H.length]? = some (reB w):=by simp
 have hJ:=h.app (L := [reB w])
 have kp:Kp (fun x=>x=q∨x=mf∨x=m) H (H ++ [reB w]):=Kp.refl.app
 generalize H ++ [reB w]=H1 at *
 generalize H.length=i0 at *
 have hW:=pWindow hJ.tr w
 unfold Re.v Re.cs at hW
 generalize qcb w S=L at *
 have e3':=e3
 unfold wdB at e3'
 unfold reB at e6
 refine AW.seq (vwb ?_)
 simp [e3',e6]
 refine qc.of hW ?_
 rintro y H2 ⟨rfl,k2⟩
 have f2:=k2.cells id e2
 have f3:=k2.cells id e3
 have f4:=k2.cells id e4
 have f5:=k2.cells id e5
 have hJ2:=hJ.Vb k2
 have kp2:=kp.trans (k2.weak (J:=fun x=>x=q∨x=mf∨x=m) fun x hx=>hx.elim)
 unfold lV
 simp
 refine AW.block (AW.count L.length (WcI l v S Tt t m r c b f q mf c2 c3 c4 c5 rc X z L H) ⟨_,?_,by simpa [QS] using hJ2,f2,f3,f4,f5,kp2,rfl⟩ ?_)
 ·simp [qz,qj,qm,lV]
 have hZ:=fun H' la p es' hT' hM'=>gZoom l v.ro v.ti la p hl.len hl.n t m es' H' hT' hM'
 simp only [qmQ hl.all] at hZ
 clear hJ hJ2 e2 e3 e3' e4 e5 e6 f2 f3 f4 f5 kp kp2 k2 hW hS h2 h3 h4 h5 h2' hpr
 rintro k F H3 hk ⟨hJ3,g2,g3,g4,g5,kp3,rfl⟩
 unfold lV
 refine AW.seq (vwb ?_)
 by_cases hlt:k<L.length
 ·have ew:IntKind.i64.wrap ((k:Int)+1)=k+1:=wrap_i64 (by omega) (by omega)
  have htk:L.take (k+1)=L.take k ++ [L[k]]:=List.take_succ_eq_append_getElem hlt
  simp [hlt]
  refine vwb ?_
  simp [J4 hlt,hlt]
  rw [qp rfl]
  have hpr:Bk.cells ([V.sc (.int .i64 L[k].id),V.sc (.int .i64 L[k].at_.x),V.sc (.int .i64 L[k].at_.y),V.sc (.int .i64 L[k].lab)].map SV.v)=prB L[k]:=rfl
  rw [hpr]
  have e2:=hget (L := [prB L[k]]) g2
  have e3:=hget (L := [prB L[k]]) g3
  have e4:=hget (L := [prB L[k]]) g4
  have e5:=hget (L := [prB L[k]]) g5
  have e6:(H3 ++ [prB L[k]])[H3.length]? = some (prB L[k]):=by simp
  have hJ:=hJ3.app (L := [prB L[k]])
  have kp:=kp3.app (L := [prB L[k]])
  clear hJ3 g2 g3 g4 g5 kp3
  generalize H3 ++ [prB L[k]]=H1 at *
  generalize H3.length=i0 at *
  have e3':=e3
  have e4':=e4
  have e6':=e6
  unfold wdB at e3'
  unfold vwB at e4'
  unfold prB at e6'
  simp [e3',e4',e6']
  obtain ⟨es,t1,m1⟩:=hJ.tab
  have hz1:=hZ H1 L[k].lab L[k].at_ es t1 m1
  have hzz:vN l v.ro v.ti L[k].lab L[k].at_=zmP l v L[k]:=rfl
  rw [hzz] at hz1
  unfold Pt.v Pt.cs at hz1
  refine qc.of hz1 ?_
  rintro y H4 ⟨rfl,kK⟩
  have f2:=kK.2.cells (qh e2 t1.m) e2
  have f3:=kK.2.cells (qh e3 t1.m) e3
  have f4:=kK.2.cells (qh e4 t1.m) e4
  have f5:=kK.2.cells (qh e5 t1.m) e5
  have f6:=kK.2.cells (qh e6 t1.m) e6
  have hJ4:=hJ.kept hd kK
  have kp4:Kp (fun x=>x=q∨x=mf∨x=m) H H4:=kp.trans (fun i b hi hb hn=>kK.2 i b (fun e=>hi (.inr (.inr e))) hb hn)
  clear hJ e2 e3 e4 e5 e6 kp e3' e4' e6' kK hz1 t1 m1
  have hsn:=qdT (Zq (zmP l v) v) (zmP l v) z (L.take k) L[k]
  rw [← htk] at hsn
  by_cases hz:zmP l v L[k]=z
  rotate_left
  ·have hz':(zmP l v L[k] != z)=true:=by simpa using hz
   have hz2:(zmP l v L[k]==z)=false:=by simpa using hz
   rw [if_neg hz,List.append_nil] at hsn
   simp [hz,hz',hz2,ew]
   refine ⟨_,?_,by rw [hsn]; exact hJ4,f2,f3,f4,f5,kp4,rfl⟩
   simp [qz,qj,qm,lV]
  have hz':(zmP l v L[k] != z)=false:=by simpa using hz
  have hz2:(zmP l v L[k]==z)=true:=by simpa using hz
  rw [if_pos hz] at hsn
  have f3':=f3
  have f4':=f4
  have f6':=f6
  unfold wdB at f3'
  unfold vwB at f4'
  unfold prB at f6'
  simp [hz,hz',hz2,ew,f3',f4',f6']
  obtain ⟨es,t1,m1⟩:=hJ4.tab
  have hSe:=qjL hl v L[k] r c es H4 t1 m1
  have hlast:∀ s,Zq (zmP l v) v L[k]=some s→∀ x∈X++QS (Zq (zmP l v) v) (zmP l v) z (L.take k),x.2.id≠s.id:=fun s hs=>by
   rw [hs] at hsn
   simp only at hsn
   refine KT (x:=(0,s)) ?_
   rw [List.append_assoc,← hsn]
   have e:QS (Zq (zmP l v) v) (zmP l v) z L=QS (Zq (zmP l v) v) (zmP l v) z (L.take (k+1))++QS (Zq (zmP l v) v) (zmP l v) z (L.drop (k+1)):=by rw [← qfe,List.take_append_drop]
   rw [e,← List.append_assoc,List.map_append] at hnd
   exact (List.nodup_append.1 hnd).1
  have hlen1:(X++QS (Zq (zmP l v) v) (zmP l v) z (L.take k)).length≤100000:=by
   have:=qai (Zq (zmP l v) v) (zmP l v) z (L.take k)
   rw [List.length_take] at this
   rw [List.length_append]
   omega
  generalize Zq (zmP l v) v L[k]=o at *
  unfold wdC Vw.cs Pr.v Pr.cs at hSe
  rw [Jf] at hSe
  refine qc.of hSe ?_
  rintro y H5 ⟨rfl,kK⟩
  have e2:=kK.2.cells (qh f2 t1.m) f2
  have e3:=kK.2.cells (qh f3 t1.m) f3
  have e4:=kK.2.cells (qh f4 t1.m) f4
  have e5:=kK.2.cells (qh f5 t1.m) f5
  have hJ5:=hJ4.kept hd kK
  have kp5:Kp (fun x=>x=q∨x=mf∨x=m) H H5:=kp4.trans (fun i b hi hb hn=>kK.2 i b (fun e=>hi (.inr (.inr e))) hb hn)
  clear f2 f3 f4 f5 f6 f3' f4' f6' hJ4 kp4 kK hSe
  simp
  rw [qp rfl]
  have hpx:Bk.cells ([V.sc (.int .i64 (o.getD qw).id),V.sc (.int .i64 (o.getD qw).lv),V.sc (.int .i64 (o.getD qw).box.x0),V.sc (.int .i64 (o.getD qw).box.y0),V.sc (.int .i64 (o.getD qw).box.x1),V.sc (.int .i64 (o.getD qw).box.y1)].map SV.v)=seB (o.getD qw):=rfl
  rw [hpx]
  have f2:=hget (L := [seB (o.getD qw)]) e2
  have f3:=hget (L := [seB (o.getD qw)]) e3
  have f4:=hget (L := [seB (o.getD qw)]) e4
  have f5:=hget (L := [seB (o.getD qw)]) e5
  have f6:(H5 ++ [seB (o.getD qw)])[H5.length]? = some (seB (o.getD qw)):=by simp
  have hJ6:=hJ5.app (L := [seB (o.getD qw)])
  have kp6:=kp5.app (L := [seB (o.getD qw)])
  clear e2 e3 e4 e5 hJ5 kp5
  generalize H5 ++ [seB (o.getD qw)]=H6 at *
  generalize H5.length=i1 at *
  cases o with
  | none =>
   simp [ew]
   simp only [List.append_nil] at hsn
   refine ⟨_,?_,by rw [hsn]; exact hJ6,f2,f3,f4,f5,kp6,rfl⟩
   simp [qz,qj,qm,lV]
  | some s =>
   have f6':=f6
   unfold seB at f6'
   simp [ew,f5,f6']
   have hP:=qiJ hJ6.fd 0 s (hlast s rfl) hlen1
   unfold Se.cs at hP
   refine qc.of hP ?_
   rintro y H7 ⟨rfl,hY,k7⟩
   have hJ7:=hJ6.put hd k7 hY
   have n2:∀ {i:Nat} {a:V} {cs:List SV},H6[i]? = some (.cells (.v a::cs))→¬ (i=q∨i=mf):=fun hi e=>by
    obtain ⟨hs,hq,_⟩:=hJ6.fd.q
    exact e.elim (Ky hi hq) (qh hi hJ6.fd.m)
   simp only at hsn
   simp [ew]
   refine ⟨_,?_,by rw [hsn,← List.append_assoc]; exact hJ7,k7.cells (n2 f2) f2,k7.cells (n2 f3) f3,k7.cells (n2 f4) f4,k7.cells (n2 f5) f5,kp6.trans (k7.weak fun x hx=>hx.elim .inl fun e => .inr (.inl e)),rfl⟩
   simp [qz,qj,qm,lV]
 ·simp [hlt]
  have hkT:k=L.length:=by omega
  refine AW.seq (vwb ?_)
  simp
  rw [hkT,List.take_length] at hJ3
  exact ⟨hJ3,kp3⟩
def jZ (l:List Ru) (v:Vw):List Int:=if QU v.ro v.ti 0 then qek (qcd l v.ro v.ti 8) else []
theorem qfS {l:List Int} (h:l.Pairwise (· < ·)):l.Nodup:=List.Pairwise.imp (fun h e=>by omega) h
theorem Zd (l:List Ru) (v:Vw):(jZ l v).Nodup:=by
 unfold jZ
 split
 ·exact qfS (VL _).1
 ·simp
def subW' (Z:Pr→Int) (v:Vw) (rc:Re) (S:List Pr) (z:Int):List Pr:=(qcb (zW rc (lvl v z)).1 S).filter fun x=>decide (Z x=z)
def qaQ (l:List Ru) (v:Vw) (rc:Re) (S:List Pr) (D:List Int):List (Int×Se):=J9 (Zq (zmP l v) v) (fun _=>0) (subW' (zmP l v) v rc S) D
theorem qie (l:List Ru) (v:Vw) (rc:Re) (S:List Pr) (D:List Int) (z:Int):qaQ l v rc S (D ++ [z])=qaQ l v rc S D++QS (Zq (zmP l v) v) (zmP l v) z (qcb (zW rc (lvl v z)).1 S):=by
 simp [qaQ,J9,QS,subW']
theorem qlu {rc:Re} {S:List Pr} {x:Pr} (h:x∈qcb rc S):x∈S:=by
 unfold qcb at h
 split at h
 ·exact (List.mem_filter.1 ((KO _).mem_iff.1 h)).1
 ·cases h
theorem qhR {rc:Re} {S:List Pr} (h:(S.map Pr.id).Nodup):((qcb rc S).map Pr.id).Nodup:=by
 unfold qcb
 split
 ·exact (((KO _).map Pr.id).nodup_iff).2 (h.sublist (List.filter_sublist.map _))
 ·simp
theorem qlv (rc:Re) (S:List Pr):(qcb rc S).length≤S.length:=by
 unfold qcb
 split
 ·rw [(KO _).length_eq]; exact List.length_filter_le _ _
 ·simp
theorem qci {Z:Pr→Int} {v:Vw} {t:Pr} {s:Se} (h:Zq Z v t=some s):s.id=t.id:=by
 unfold Zq QE at h
 split at h
 ·split at h
  ·cases h
  ·cases h; rfl
 ·cases h
theorem qhc {l:List Ru} {v:Vw} {rc:Re} {S:List Pr} {D:List Int} (hS:(S.map Pr.id).Nodup) (hD:D.Nodup):((qaQ l v rc S D).map fun x=>x.2.id).Nodup :=
 Yv hS (fun t s h=>qci h) (fun z _=>⟨(qhR hS).sublist (List.filter_sublist.map _),fun t ht=>by
  obtain ⟨h1,h2⟩:=List.mem_filter.1 ht
  exact ⟨qlu h1,by simpa using h2⟩⟩) hD
theorem qgs (l:List Ru) (v:Vw) (rc:Re) (S:List Pr):∀ D:List Int,(qaQ l v rc S D).length≤D.length*S.length
 | []=>by simp [qaQ,J9]
 | z::D=>by
  have h1:=qgs l v rc S D
  have h2:=qai (Zq (zmP l v) v) (zmP l v) z (qcb (zW rc (lvl v z)).1 S)
  have h3:=qlv (zW rc (lvl v z)).1 S
  have e:qaQ l v rc S (z::D)=QS (Zq (zmP l v) v) (zmP l v) z (qcb (zW rc (lvl v z)).1 S)++qaQ l v rc S D:=by simp [qaQ,J9,QS,subW']
  rw [e,List.length_append,List.length_cons,Nat.add_mul]
  omega
theorem Yz (v:Vw) (zs:List Int):(lvls v zs).length≤zs.length:=List.length_filter_le _ _
theorem VN {v:Vw} {zs:List Int} (h:zs.Nodup) (k:Nat):(lvls v (zs.take k)).Nodup:=(h.sublist (List.take_sublist _ _)).sublist List.filter_sublist
theorem plWindow {l:List Ru} (hl:Yk l) (v:Vw) {S:List Pr} {Tt:Nat→Prop} {t m r c b:Nat} {es:List (Value×V)} {H:List Bk} (hT:Tab H t m l es) (hM:VO l es) (ht:TrP H r b S Tt) (htm:∀ x,Tt x→x≠m) (hS:S.length≤50) (hz:(jZ l v).length≤1000) (rc:Re) (mm:Int) :
  AFn Tryz.prog 18 [wdC r c t,.agg v.cs,rc.v,.sc (.int .i64 mm)] H fun y H'=>Kept l t m H H'∧(yN v mm (qd rc)≠0→y = .tup [.nil,.sc (.int .i64 1)]) ∧
   (yN v mm (qd rc)=0→∃ R,y = .tup [QA R,.sc (.int .i64 0)]∧∀ Y:List (Int×Se),Y.Perm (qaQ l v rc S (lvls v (jZ l v)))→Y.Pairwise (fun a b=>(Yd b).lt (Yd a)=false)→R=(Y.take mm.toNat).map (·.2)):=by
 have hA:=fun H=>qim v mm (qd rc) r c t H
 have hR:=Jc rc
 have hml:=(List.getElem?_eq_some_iff.1 hT.m).1
 have htl:=(List.getElem?_eq_some_iff.1 hT.t).1
 have hrl:=ht.lt
 unfold wdC Vw.cs at hA ⊢
 unfold Re.v Re.cs at hR ⊢
 refine vwc (fn:=Tryz.f18) rfl ?_
 simp only [Tryz.f18,ql]
 refine AW.seq (vwa [(1,5,[4,5,3,6])] ?_)
 simp
 have k1:Kp NoB H (H ++ [wdB r c t,vwB v,reB rc]):=Kp.refl.app
 have e0:(H ++ [wdB r c t,vwB v,reB rc])[H.length]? = some (wdB r c t):=by simp
 have e1:(H ++ [wdB r c t,vwB v,reB rc])[H.length+1]? = some (vwB v):=by simp
 have e2:(H ++ [wdB r c t,vwB v,reB rc])[H.length+2]? = some (reB rc):=by simp
 change AW _ _ _ _ ⟨_,H ++ [wdB r c t,vwB v,reB rc]⟩
 generalize H ++ [wdB r c t,vwB v,reB rc]=H1 at *
 have n0:H.length≤H.length:=Nat.le_refl _
 have n1:H.length≤H.length+1:=by omega
 have n2:H.length≤H.length+2:=by omega
 generalize H.length+1=i1 at *
 generalize H.length+2=i2 at *
 have e0':=e0
 have e1':=e1
 have e2':=e2
 unfold wdB at e0'
 unfold vwB at e1'
 unfold reB at e2'
 refine AW.seq (AW.seq (vwa [(1,5,[4,5,3,6])] ?_))
 simp [e0',e1',e2']
 refine qc.pure hR rfl rfl ?_
 simp [e0',e1',e2']
 refine qc.of (hA H1) ?_
 rintro y H2 ⟨rfl,k2⟩
 have kp2:=k2.YF (fun x h=>h)
 have f0:=k2.cells id e0
 have f1:=k2.cells id e1
 have f2:=k2.cells id e2
 have f0':=f0
 have f1':=f1
 have f2':=f2
 unfold wdB at f0'
 unfold vwB at f1'
 unfold reB at f2'
 have k3:=k1.trans k2
 have hKT:Kept l t m H H2:=⟨⟨es,⟨k3.cells id hT.t,k3.map id hT.m⟩,hM⟩,fun i b _ hb hn=>k3 i b id hb hn⟩
 simp [e0',e1',e2',f0',f1',f2',kp2]
 refine vwa [(1,5,[4,5,3,6])] ?_
 by_cases ha:yN v mm (qd rc)=0
 rotate_left
 ·have ha1:yN v mm (qd rc)=1:=by unfold yN at ha ⊢; split at ha <;> first | exact absurd rfl ha | simp_all
  have ha':(yN v mm (qd rc) != 0)=true:=by simpa using ha
  simp [ha,ha',ha1]
  exact hKT
 have ha':(yN v mm (qd rc) != 0)=false:=by simpa using ha
 simp [ha,ha']
 refine AW.seq (vwa [(1,5,[4,5,3,6])] ?_)
 simp
 refine qc.of (qdy H2) ?_
 rintro y H3 ⟨f,q,mf,rfl,hF,l1,l2,l3,k4⟩
 simp
 rw [qp rfl]
 have g0:=hget (L := [Bk.cells ([V.ptr f 0].map SV.v)]) (k4.cells id f0)
 have g1:=hget (L := [Bk.cells ([V.ptr f 0].map SV.v)]) (k4.cells id f1)
 have g2:=hget (L := [Bk.cells ([V.ptr f 0].map SV.v)]) (k4.cells id f2)
 have g3:(H3 ++ [Bk.cells ([V.ptr f 0].map SV.v)])[H3.length]? = some (.cells [.v (.ptr f 0)]):=by simp
 have hF4:=hF.app (L := [Bk.cells ([V.ptr f 0].map SV.v)])
 have k5:Kp NoB H (H3 ++ [Bk.cells ([V.ptr f 0].map SV.v)]):=(k3.trans k4).app
 have hlen2:H.length<H2.length:=(List.getElem?_eq_some_iff.1 f0).1
 generalize H3 ++ [_]=H4 at *
 generalize H3.length=i3 at *
 clear e0 e1 e2 e0' e1' e2' f0 f1 f2 f0' f1' f2' kp2 k2 k4 k3 hF k1 hKT
 have hTb4:Tab H4 t m l es:=⟨k5.cells id hT.t,k5.map id hT.m⟩
 have ht4:=ht.Vb k5
 have hd:WD Tt m q mf:=⟨htm,fun x hx=>by have:=hrl x hx; omega,fun x hx=>by have:=hrl x hx; omega,by omega⟩
 have hJ4:WJ l v S Tt t m r c b f q mf (qaQ l v rc S []) H4:=⟨⟨es,hTb4,hM⟩,ht4,hF4⟩
 have hTe:qmK l v t m 51 [.ptr i2 0,.ptr H.length 0,.ptr i1 0,.ptr i3 0] (jZ l v) (fun D Hx=>WJ l v S Tt t m r c b f q mf (qaQ l v rc S D) Hx∧Hx[i2]? = some (reB rc)∧Hx[H.length]? = some (wdB r c t)∧Hx[i1]? = some (vwB v)∧Hx[i3]? = some (.cells [.v (.ptr f 0)])) (fun x=>x=q∨x=mf∨x=m):=by
  refine ⟨fun D Hx hx=>hx.1.tab,fun D Hx Hy ⟨h,a1,a2,a3,a4⟩ k => ?_,rfl,fun k hk Hx h0 ⟨h,a1,a2,a3,a4⟩ => ?_⟩
  ·obtain ⟨es',t1,_⟩:=h.tab
   exact ⟨h.kept hd k,k.2.cells (qh a1 t1.m) a1,k.2.cells (qh a2 t1.m) a2,k.2.cells (qh a3 t1.m) a3,k.2.cells (qh a4 t1.m) a4⟩
  ·have hlk:lvls v ((jZ l v).take (k+1))=lvls v ((jZ l v).take k) ++ [(jZ l v)[k]]:=by rw [List.take_succ_eq_append_getElem hk,K9,if_neg h0]
   have hnd:=qhc (l:=l) (v:=v) (rc:=rc) ht.ids (VN (Zd l v) (k+1) (v:=v))
   rw [hlk,qie] at hnd
   have hln:(qaQ l v rc S (lvls v ((jZ l v).take k))).length+(qcb (zW rc (lvl v (jZ l v)[k])).1 S).length≤100000:=by
    have b1:=qgs l v rc S (lvls v ((jZ l v).take k))
    have b2:=qlv (zW rc (lvl v (jZ l v)[k])).1 S
    have b3:=Yz v ((jZ l v).take k)
    rw [List.length_take] at b3
    have b4:(lvls v ((jZ l v).take k)).length*S.length≤1000*50:=Nat.mul_le_mul (by omega) hS
    omega
   refine AFn.conv (plWin1 hl v hd h a1 a2 a3 a4 _ _ hnd hln) ?_
   rintro y Hy ⟨rfl,h',k'⟩
   obtain ⟨hs,hq,_⟩:=h.fd.q
   obtain ⟨es',t1,_⟩:=h.tab
   have nn:∀ {i:Nat} {a:V} {cs:List SV},Hx[i]? = some (.cells (.v a::cs))→¬ (i=q∨i=mf∨i=m):=fun hi e=>by
    rcases e with e | e | e
    ·exact Ky hi hq e
    ·exact qh hi h.fd.m e
    ·exact qh hi t1.m e
   refine ⟨_,⟨rfl,⟨by rw [qie]; exact h',k'.cells (nn a1) a1,k'.cells (nn a2) a2,k'.cells (nn a3) a3,k'.cells (nn a4) a4⟩,k'⟩,fun _ _ _ h=>h⟩
 have hll:∀ x,x=q∨x=mf∨x=m→x<H4.length:=fun x hx=>by
  obtain ⟨hs,⟨_,hq,_⟩,_⟩:=hF4.q
  rcases hx with rfl | rfl | rfl
  ·exact (List.getElem?_eq_some_iff.1 hq).1
  ·exact (List.getElem?_eq_some_iff.1 hF4.m).1
  ·exact (List.getElem?_eq_some_iff.1 hTb4.m).1
 have hLv:=qbO hl v r c (jZ l v) rfl (by omega) hTe hll (.inr (.inr rfl)) ⟨hJ4,g2,g0,g1,g3⟩
 unfold wdC Vw.cs at hLv
 have g0':=g0
 have g1':=g1
 unfold wdB at g0'
 unfold vwB at g1'
 refine AW.seq (vwa [(1,5,[4,5,3,6])] ?_)
 simp [g0',g1']
 refine qc.of hLv ?_
 rintro y H5 ⟨rfl,⟨hJ5,a1,a2,a3,a4⟩,k6⟩
 obtain ⟨hs,hq,hp⟩:=hJ5.fd.q
 have hnd:=qhc (l:=l) (v:=v) (rc:=rc) ht.ids ((Zd l v).sublist (List.filter_sublist (p:=fun z => !decide (lvl v z=0))))
 have hln:(qaQ l v rc S (lvls v (jZ l v))).length≤100000:=by
  have b1:=qgs l v rc S (lvls v (jZ l v))
  have b3:=Yz v (jZ l v)
  have b4:(lvls v (jZ l v)).length*S.length≤1000*50:=Nat.mul_le_mul (by omega) hS
  omega
 have hFi:=qdx hJ5.fd.f hJ5.fd.m hq hp hnd hln mm
 simp [a4]
 refine AW.seq (vwa [(1,5,[4,5,3,6])] ?_)
 simp [a4]
 refine qc.of hFi ?_
 rintro y H6 ⟨rfl,k7⟩
 unfold QA
 simp
 have hsr:Srt hs:=by
  obtain ⟨_,_,_,_,h⟩:=hq
  exact h
 have hqt:∀ {i:Nat} {a:V} {cs:List SV},H5[i]? = some (.cells (.v a::cs))→¬ i=q:=fun hi e=>Ky hi hq e
 have hqm:∀ {i:Nat} {es:List (Value×V)},H5[i]? = some (.map es)→¬ i=q:=fun hi e=>by
  obtain ⟨_,hq1,_⟩:=hq
  exact qh hq1 hi e.symm
 refine vwa [(1,5,[4,5,3,6])] ?_
 simp
 refine ⟨?_,List.take mm.toNat (List.map (fun e=>Wh (qaQ l v rc S (lvls v (jZ l v))) e.i) hs),by simp,fun Y hY hp2 => ?_⟩
 ·obtain ⟨es',t1,m1⟩:=hJ5.tab
  refine ⟨⟨es',⟨k7.cells (hqt t1.t) t1.t,k7.V8.map (hqm t1.m) t1.m⟩,m1⟩,fun i b hi hb hn => ?_⟩
  have hib:=(List.getElem?_eq_some_iff.1 hb).1
  refine k7.V8 i b (by omega) (k6 i b (fun e => ?_) (k5 i b id hb hn) hn) hn
  rcases e with e | e | e
  ·omega
  ·omega
  ·exact hi e
 ·have hnd':((qaQ l v rc S (lvls v (jZ l v))).map fun x=>x.2.id).Nodup:=hnd
  have:=qb3 hnd' hY hsr hp hp2 mm.toNat
  simpa using this
def qbD (l:List Ru) (v:Vw) (z:Int) (x:Pr):Bool:=(Zq (zmP l v) v x).isSome&&decide (zmP l v x=z)
def zB (z:Int):Bk := .cells [.v (.sc (.int .i64 z))]
theorem plKeep {l:List Ru} (hl:Yk l) (v:Vw) (z:Int) (x:Pr) {t m r c c1 c2 c3:Nat} {es:List (Value×V)} {H:List Bk} (hT:Tab H t m l es) (hM:VO l es) (h1:H[c1]? = some (wdB r c t)) (h2:H[c2]? = some (vwB v)) (h3:H[c3]? = some (zB z)) :
  AFn Tryz.prog 59 [x.v,.ptr c1 0,.ptr c2 0,.ptr c3 0] H fun y H'=>y = .sc (.bool (qbD l v z x))∧Kept l t m H H':=by
 have hZ:=fun H' es' hT' hM'=>gZoom l v.ro v.ti x.lab x.at_ hl.len hl.n t m es' H' hT' hM'
 simp only [qmQ hl.all] at hZ
 have hSe:=fun H' es' hT' hM'=>qjL hl v x r c es' H' hT' hM' (t:=t) (m:=m)
 unfold qbD zmP
 unfold zmP at hSe
 unfold wdC Vw.cs Pr.v Pr.cs at hSe
 unfold Pr.v Pr.cs
 unfold Pt.v Pt.cs at hZ
 have hzz:∀ zz,(zz==z)=decide (zz=z):=fun zz=>rfl
 generalize vN l v.ro v.ti x.lab x.at_=zz at *
 generalize Zq (fun x=>vN l v.ro v.ti x.lab x.at_) v x=o at *
 simp only [Jf] at hSe
 have hml:=(List.getElem?_eq_some_iff.1 hT.m).1
 refine vwc (fn:=Tryz.f59) rfl ?_
 simp only [Tryz.f59,ql]
 refine AW.seq (vwa [(2,14,[7,1,2,4,3])] ?_)
 simp
 change AW _ _ _ _ ⟨_,H ++ [prB x]⟩
 have k1:JG m H (H ++ [prB x]) := .app
 have e1:=hget (L := [prB x]) h1
 have e2:=hget (L := [prB x]) h2
 have e3:=hget (L := [prB x]) h3
 have e4:(H ++ [prB x])[H.length]? = some (prB x):=by simp
 have hT1:=hT.stays (.app (L := [prB x]))
 generalize H ++ [prB x]=H1 at *
 generalize H.length=i0 at *
 have e1':=e1
 have e2':=e2
 have e4':=e4
 unfold wdB at e1'
 unfold vwB at e2'
 unfold prB at e4'
 refine AW.seq (vwa [(2,14,[7,1,2,4,3])] ?_)
 simp [e1',e2',e4']
 refine qc.of (hSe _ _ hT1 hM) ?_
 rintro y H2 ⟨rfl,kK⟩
 have f1:=kK.2.cells (qh e1 hT1.m) e1
 have f2:=kK.2.cells (qh e2 hT1.m) e2
 have f3:=kK.2.cells (qh e3 hT1.m) e3
 have f4:=kK.2.cells (qh e4 hT1.m) e4
 have kK2:=Kept.trans k1 kK
 clear e1 e2 e3 e4 e1' e2' e4' kK k1
 simp
 rw [qp rfl]
 have hpx:Bk.cells ([V.sc (.int .i64 (o.getD qw).id),V.sc (.int .i64 (o.getD qw).lv),V.sc (.int .i64 (o.getD qw).box.x0),V.sc (.int .i64 (o.getD qw).box.y0),V.sc (.int .i64 (o.getD qw).box.x1),V.sc (.int .i64 (o.getD qw).box.y1)].map SV.v)=seB (o.getD qw):=rfl
 rw [hpx]
 have g1:=hget (L := [seB (o.getD qw)]) f1
 have g2:=hget (L := [seB (o.getD qw)]) f2
 have g3:=hget (L := [seB (o.getD qw)]) f3
 have g4:=hget (L := [seB (o.getD qw)]) f4
 have kK3:=kK2.app (L := [seB (o.getD qw)])
 clear f1 f2 f3 f4 kK2
 generalize H2 ++ [seB (o.getD qw)]=H3 at *
 generalize H2.length=i1 at *
 have g1':=g1
 have g2':=g2
 have g3':=g3
 have g4':=g4
 unfold wdB at g1'
 unfold vwB at g2'
 unfold zB at g3'
 unfold prB at g4'
 obtain ⟨⟨es3,t3,m3⟩,s3⟩:=kK3
 cases o with
 | none =>
  refine AW.seq (vwa [(2,14,[7,1,2,4,3])] ?_)
  simp
  refine vwa [(2,14,[7,1,2,4,3])] ?_
  simp
  exact ⟨⟨es3,t3,m3⟩,s3⟩
 | some s =>
  refine AW.seq (vwa [(2,14,[7,1,2,4,3])] ?_)
  simp [g1',g2',g3',g4']
  refine qc.of (hZ _ _ t3 m3) ?_
  rintro y H4 ⟨rfl,kK⟩
  have kp4:=eq_true (kK.Va t3)
  have c3:=kK.2.cells (qh g3 t3.m) g3
  unfold zB at c3
  simp [g1',g2',g3',g4',kp4,c3]
  refine vwa [(2,14,[7,1,2,4,3])] ?_
  simp [hzz]
  exact Kept.trans s3 kK
def qaV {α:Type} (i:α→Int) (ent:α→Ent) (S:List α) (kp:α→Bool) (n:Int):List α:=((sort ((S.filter kp).map ent)).take n.toNat).filterMap fun e=>S.find? fun t=>decide (i t=e.i)
def qdH (S:List Pr) (kp:Pr→Bool) (p:Pt) (l n:Int):List Pr:=qaV Pr.id (WE p l) S kp n
theorem qhC {α:Type} {i:α→Int} {S:List α} (hS:(S.map i).Nodup) {s:α} (hs:s∈S):(S.find? fun t=>decide (i t=i s))=some s:=by
 induction S with
 | nil=>cases hs
 | cons x S ih =>
  rw [List.map_cons,List.nodup_cons] at hS
  rcases List.mem_cons.1 hs with rfl | hs
  ·simp
  ·have hne:¬ i x=i s:=fun e=>hS.1 (List.mem_map.2 ⟨s,hs,e.symm⟩)
   rw [List.find?_cons_of_neg (by simpa using hne)]
   exact ih hS.2 hs
theorem qb4 {α:Type} {f:α→Option α}:∀ {R:List α},(∀ s∈R,f s=some s)→R.filterMap f=R
 | [],_=>rfl
 | x::R,h=>by rw [List.filterMap_cons,h x (by simp)]; simp only; rw [qb4 fun s hs=>h s (by simp [hs])]
theorem qfY {α:Type} {i:α→Int} {ent:α→Ent} (hi:∀ t,(ent t).i=i t) {S:List α} (hS:(S.map i).Nodup) {kp:α→Bool} {n:Int} {R:List α} (h1:R.map ent=(sort ((S.filter kp).map ent)).take n.toNat) (h2:∀ s∈R,s∈S.filter kp):R=qaV i ent S kp n:=by
 unfold qaV
 rw [← h1,List.filterMap_map]
 refine (qb4 fun s hs => ?_).symm
 simp only [Function.comp,hi]
 exact qhC hS (List.mem_filter.1 (h2 s hs)).1
theorem nearL_eq {S:List Pr} (hS:(S.map Pr.id).Nodup) {kp:Pr→Bool} {p:Pt} {l n:Int} {R:List Pr} (h:NearP S kp p l n R):R=qdH S kp p l n:=qfY (i:=Pr.id) (ent:=WE p l) (fun _=>rfl) hS h.1 h.2
def yZ {α:Type} (see:α→Option Se) (p:Pt) (L:List α):List (Int×Se):=L.filterMap fun x=>(see x).map fun s=>(Zu s.box p,s)
theorem qeU {H H':List Bk} {q mf:Nat} {hs:List Ent} {es:List (Value×V)} (hq:QQ H q hs) (hm:H[mf]? = some (.map es)) (k:Kp (fun x=>x=q∨x=mf) H H'):Xi H H':=fun id ks hb he=>k.cells (fun e=>e.elim (fun e=>by
 subst e
 obtain ⟨es,h1,_⟩:=hq
 rw [hb] at h1
 cases h1
 exact Bool.noConfusion he) (fun e=>qh hb hm e)) hb
theorem Xy {α:Type} (see:α→Option Se) (p:Pt) (L M:List α):yZ see p (L++M)=yZ see p L++yZ see p M:=by simp [yZ]
theorem Xx {α:Type} (see:α→Option Se) (p:Pt) (L:List α):(yZ see p L).length≤L.length:=List.length_filterMap_le _ _
def ptB (p:Pt):Bk := .cells [.v (.sc (.int .i64 p.x)),.v (.sc (.int .i64 p.y))]
def NcI (l:List Ru) (v:Vw) (S:List Pr) (Tt:Nat→Prop) (t m r c b f q mf c2 c3 c4 c5 c6:Nat) (p:Pt) (mm:Int) (X:List (Int×Se)) (L:List Pr) (H0:List Bk) (k:Nat) (F:Fr) (H:List Bk):Prop :=
 WJ l v S Tt t m r c b f q mf (X++yZ (Zq (zmP l v) v) p (L.take k)) H∧H[c2]? = some (wdB r c t)∧H[c3]? = some (vwB v)∧H[c4]? = some (ptB p)∧H[c5]? = some (zB mm)∧H[c6]? = some (.cells [.v (.ptr f 0)])∧Kp (fun x=>x=q∨x=mf∨x=m) H0 H ∧
  F = [(2,.v (.ptr c2 0)),(3,.v (.ptr c3 0)),(4,.v (.ptr c4 0)),(6,.v (.ptr c6 0)),(21,.v (lV L)),(22,.v (.sc (.int .i64 L.length))),(23,.v (.sc (.int .i64 k)))]
theorem plNear1 {l:List Ru} (hl:Yk l) (v:Vw) {S:List Pr} {Tt:Nat→Prop} {t m r c b f q mf c2 c3 c4 c5 c6:Nat} {p:Pt} {X:List (Int×Se)} {H:List Bk} (hd:WD Tt m q mf) (h:WJ l v S Tt t m r c b f q mf X H)
  (h2:H[c2]? = some (wdB r c t)) (h3:H[c3]? = some (vwB v)) (h4:H[c4]? = some (ptB p)) {mm:Int} (h5:H[c5]? = some (zB mm)) (h6:H[c6]? = some (.cells [.v (.ptr f 0)])) (z lv:Int) (hf:fits p=true) (hlv:vR lv=true) (hS:S.length≤1000)
  (hnd:((X++yZ (Zq (zmP l v) v) p (qdH S (qbD l v z) p lv mm)).map fun x=>x.2.id).Nodup) (hlen:X.length+(qdH S (qbD l v z) p lv mm).length≤100000) :
  AFn Tryz.prog 58 [.sc (.int .i64 z),.sc (.int .i64 lv),.ptr c2 0,.ptr c3 0,.ptr c4 0,.ptr c5 0,.ptr c6 0] H fun y H'=>y = .tup []∧WJ l v S Tt t m r c b f q mf (X++yZ (Zq (zmP l v) v) p (qdH S (qbD l v z) p lv mm)) H'∧Kp (fun x=>x=q∨x=mf∨x=m) H H':=by
 have hids:=h.tr.ids
 refine vwc (fn:=Tryz.f58) rfl ?_
 simp only [Tryz.f58,ql]
 refine AW.seq (vwa [(6,6,[6,12,4])] ?_)
 simp
 change AW _ _ _ _ ⟨_,H ++ [zB z]⟩
 have e2:=hget (L := [zB z]) h2
 have e3:=hget (L := [zB z]) h3
 have e4:=hget (L := [zB z]) h4
 have e5:=hget (L := [zB z]) h5
 have e6:=hget (L := [zB z]) h6
 have e7:(H ++ [zB z])[H.length]? = some (zB z):=by simp
 have hJ:=h.app (L := [zB z])
 have kp:Kp (fun x=>x=q∨x=mf∨x=m) H (H ++ [zB z]):=Kp.refl.app
 generalize H ++ [zB z]=H1 at *
 generalize H.length=i0 at *
 refine AW.seq (vwa [(6,6,[6,12,4])] ?_)
 simp
 obtain ⟨es1,t1,m1⟩:=hJ.tab
 have hkp:qoH (.fn (.func 59) [] [.ptr c2 0,.ptr c3 0,.ptr i0 0]) (qbD l v z) (fun Hx=>(∃ es,Tab Hx t m l es∧VO l es)∧Hx[c2]? = some (wdB r c t)∧Hx[c3]? = some (vwB v)∧Hx[i0]? = some (zB z)) (fun x=>x=t∨x=m∨x=c2∨x=c3∨x=i0) (fun x=>x=m):=by
  refine ⟨rfl,fun Hx Hy ⟨⟨es,a1,a2⟩,a3,a4,a5⟩ k=>⟨⟨es,⟨k.cells (fun e=>e (.inl rfl)) a1.t,k.map (fun e=>e (.inr (.inl rfl))) a1.m⟩,a2⟩,k.cells (fun e=>e (.inr (.inr (.inl rfl)))) a3,k.cells (fun e=>e (.inr (.inr (.inr (.inl rfl))))) a4,k.cells (fun e=>e (.inr (.inr (.inr (.inr rfl))))) a5⟩,.inr ⟨_,_,rfl,rfl,fun Hx s ⟨⟨es,a1,a2⟩,a3,a4,a5⟩ => ?_⟩⟩
  refine (plKeep hl v z s a1 a2 a3 a4 a5).mono' ?_
  rintro y Hy ⟨rfl,kK⟩
  exact ⟨rfl,⟨kK.1,kK.2.cells (qh a3 a1.m) a3,kK.2.cells (qh a4 a1.m) a4,kK.2.cells (qh a5 a1.m) a5⟩,fun i b hi hb hn=>kK.2 i b hi hb hn⟩
 have hlt:=fun {i:Nat} {b:Bk} (h:H1[i]? = some b)=>(List.getElem?_eq_some_iff.1 h).1
 have hN:=near1P hJ.tr hS p mm lv _ _ hkp ⟨⟨es1,t1,m1⟩,e2,e3,e7⟩ (fun x hx=>by
  rcases hx with rfl | rfl | rfl | rfl | rfl
  ·exact hlt t1.t
  ·exact hlt t1.m
  ·exact hlt e2
  ·exact hlt e3
  ·exact hlt e7) (fun x hx=>by rw [hx]; exact hlt t1.m) (fun x hx=>hd.tm x hx) hf hlv
 unfold Pt.v Pt.cs at hN
 have e2':=e2
 have e4':=e4
 have e5':=e5
 unfold wdB at e2'
 unfold ptB at e4'
 unfold zB at e5'
 refine AW.seq (vwa [(6,6,[6,12,4])] ?_)
 simp [e2',e4',e5']
 refine qc.of hN ?_
 rintro y H2 ⟨R,rfl,hR,⟨tab2,f2,f3,_⟩,k2⟩
 have hRe:=nearL_eq hids hR
 rw [← hRe] at hnd hlen ⊢
 have f4:=k2.cells (qh e4 t1.m) e4
 have f5:=k2.cells (qh e5 t1.m) e5
 have f6:=k2.cells (qh e6 t1.m) e6
 have hJ2:=hJ.kept hd ⟨tab2,fun i b hi hb hn=>k2 i b hi hb hn⟩
 have kp2:=kp.trans (k2.weak (J:=fun x=>x=q∨x=mf∨x=m) fun x hx => .inr (.inr hx))
 have hsee:∀ s∈R,∃ o,Zq (zmP l v) v s=some o:=fun s hs=>by
  have h1:=(List.mem_filter.1 (hR.2 s hs)).2
  simp only [qbD,Bool.and_eq_true] at h1
  exact Option.isSome_iff_exists.1 h1.1
 unfold lV
 simp
 clear hN hR hRe hkp hlt e2 e3 e4 e5 e6 e7 e2' e4' e5' kp hJ tab2 t1 m1 k2
 refine AW.block (AW.count R.length (NcI l v S Tt t m r c b f q mf c2 c3 c4 c5 c6 p mm X R H) ⟨_,?_,by simpa [yZ] using hJ2,f2,f3,f4,f5,f6,kp2,rfl⟩ ?_)
 ·simp [qz,qj,qm,lV]
 clear hJ2 f2 f3 f4 f5 f6 kp2
 rintro k F H3 hk ⟨hJ3,g2,g3,g4,g5,g6,kp3,rfl⟩
 unfold lV
 refine AW.seq (vwa [(6,6,[6,12,4])] ?_)
 by_cases hlt:k<R.length
 ·have ew:IntKind.i64.wrap ((k:Int)+1)=k+1:=wrap_i64 (by omega) (by omega)
  have htk:R.take (k+1)=R.take k ++ [R[k]]:=List.take_succ_eq_append_getElem hlt
  obtain ⟨o,ho⟩:=hsee _ (List.getElem_mem hlt)
  have hsn:yZ (Zq (zmP l v) v) p (R.take (k+1))=yZ (Zq (zmP l v) v) p (R.take k) ++ [(Zu o.box p,o)]:=by
   rw [htk,Xy]
   simp [yZ,ho]
  have hlast:∀ x∈X++yZ (Zq (zmP l v) v) p (R.take k),x.2.id≠o.id:=by
   refine KT (x:=(Zu o.box p,o)) ?_
   rw [List.append_assoc,← hsn]
   have e:yZ (Zq (zmP l v) v) p R=yZ (Zq (zmP l v) v) p (R.take (k+1))++yZ (Zq (zmP l v) v) p (R.drop (k+1)):=by rw [← Xy,List.take_append_drop]
   rw [e,← List.append_assoc,List.map_append] at hnd
   exact (List.nodup_append.1 hnd).1
  have hlen1:(X++yZ (Zq (zmP l v) v) p (R.take k)).length≤100000:=by
   have:=Xx (Zq (zmP l v) v) p (R.take k)
   rw [List.length_take] at this
   rw [List.length_append]
   omega
  simp [hlt]
  refine vwa [(6,6,[6,12,4])] ?_
  simp [J4 hlt,hlt]
  rw [qp rfl]
  have hpr:Bk.cells ([V.sc (.int .i64 R[k].id),V.sc (.int .i64 R[k].at_.x),V.sc (.int .i64 R[k].at_.y),V.sc (.int .i64 R[k].lab)].map SV.v)=prB R[k]:=rfl
  rw [hpr]
  have e2:=hget (L := [prB R[k]]) g2
  have e3:=hget (L := [prB R[k]]) g3
  have e4:=hget (L := [prB R[k]]) g4
  have e5:=hget (L := [prB R[k]]) g5
  have e6:=hget (L := [prB R[k]]) g6
  have e7:(H3 ++ [prB R[k]])[H3.length]? = some (prB R[k]):=by simp
  have hJ:=hJ3.app (L := [prB R[k]])
  have kp:=kp3.app (L := [prB R[k]])
  clear hJ3 g2 g3 g4 g5 g6 kp3
  generalize H3 ++ [prB R[k]]=H1 at *
  generalize H3.length=i1 at *
  have e2':=e2
  have e3':=e3
  have e7':=e7
  unfold wdB at e2'
  unfold vwB at e3'
  unfold prB at e7'
  simp [e2',e3',e7']
  obtain ⟨es,t1,m1⟩:=hJ.tab
  have hSe:=qjL hl v R[k] r c es H1 t1 m1
  rw [ho] at hSe
  unfold wdC Vw.cs Pr.v Pr.cs at hSe
  rw [Jf] at hSe
  refine qc.of hSe ?_
  rintro y H5 ⟨rfl,kK⟩
  have a2:=kK.2.cells (qh e2 t1.m) e2
  have a3:=kK.2.cells (qh e3 t1.m) e3
  have a4:=kK.2.cells (qh e4 t1.m) e4
  have a5:=kK.2.cells (qh e5 t1.m) e5
  have a6:=kK.2.cells (qh e6 t1.m) e6
  have hJ5:=hJ.kept hd kK
  have kp5:Kp (fun x=>x=q∨x=mf∨x=m) H H5:=kp.trans (fun i b hi hb hn=>kK.2 i b (fun e=>hi (.inr (.inr e))) hb hn)
  clear e2 e3 e4 e5 e6 e7 e2' e3' e7' hJ kp kK hSe t1 m1
  simp
  rw [qp rfl]
  have hpx:Bk.cells ([V.sc (.int .i64 o.id),V.sc (.int .i64 o.lv),V.sc (.int .i64 o.box.x0),V.sc (.int .i64 o.box.y0),V.sc (.int .i64 o.box.x1),V.sc (.int .i64 o.box.y1)].map SV.v)=seB o:=rfl
  rw [hpx]
  have b2:=hget (L := [seB o]) a2
  have b3:=hget (L := [seB o]) a3
  have b4:=hget (L := [seB o]) a4
  have b5:=hget (L := [seB o]) a5
  have b6:=hget (L := [seB o]) a6
  have b7:(H5 ++ [seB o])[H5.length]? = some (seB o):=by simp
  have hJ6:=hJ5.app (L := [seB o])
  have kp6:=kp5.app (L := [seB o])
  clear a2 a3 a4 a5 a6 hJ5 kp5
  generalize H5 ++ [seB o]=H6 at *
  generalize H5.length=i2 at *
  have b4':=b4
  have b7':=b7
  unfold ptB at b4'
  unfold seB at b7'
  have hD:=qhf o.box p
  unfold Re.v Re.cs Pt.v Pt.cs at hD
  have hP:=qiJ hJ6.fd (Zu o.box p) o hlast hlen1
  unfold Se.cs at hP
  generalize Zu o.box p=dd at *
  simp [b4',b6,b7']
  refine qc.pure hD rfl rfl ?_
  simp [b4',b6,b7']
  refine qc.of hP ?_
  rintro y H7 ⟨rfl,hY,k7⟩
  have hJ7:=hJ6.put hd k7 hY
  obtain ⟨hs,hq,_⟩:=hJ6.fd.q
  have kp7:=eq_true (qeU hq hJ6.fd.m k7)
  have n2:∀ {i:Nat} {a:V} {cs:List SV},H6[i]? = some (.cells (.v a::cs))→¬ (i=q∨i=mf):=fun hi e=>e.elim (Ky hi hq) (qh hi hJ6.fd.m)
  have d4:=k7.cells (n2 b4') b4'
  have d6:=k7.cells (n2 b6) b6
  have d7:=k7.cells (n2 b7') b7'
  simp [b4',b6,b7',kp7,d4,d6,d7,ew]
  refine ⟨_,?_,by rw [hsn,← List.append_assoc]; exact hJ7,k7.cells (n2 b2) b2,k7.cells (n2 b3) b3,k7.cells (n2 b4) b4,k7.cells (n2 b5) b5,d6,kp6.trans (k7.weak fun x hx=>hx.elim .inl fun e => .inr (.inl e)),rfl⟩
  simp [qz,qj,qm,lV]
 ·simp [hlt]
  have hkT:k=R.length:=by omega
  refine AW.seq (vwa [(6,6,[6,12,4])] ?_)
  simp
  rw [hkT,List.take_length] at hJ3
  exact ⟨hJ3,kp3⟩
section
variable {α:Type} {i:α→Int} {ent:α→Ent} {S:List α}
theorem X0 (hi:∀ t,(ent t).i=i t) (hS:(S.map i).Nodup) {kp:α→Bool} {n:Int} {t:α} (h:t∈qaV i ent S kp n):t∈S∧kp t=true:=by
 obtain ⟨e,he,hf⟩:=List.mem_filterMap.1 h
 obtain ⟨s,hs,rfl⟩:=List.mem_map.1 ((ZY _).mem_iff.1 (List.mem_of_mem_take he))
 obtain ⟨h1,h2⟩:=List.mem_filter.1 hs
 rw [hi,qhC hS h1] at hf
 cases hf
 exact ⟨h1,h2⟩
theorem qaU (hi:∀ t,(ent t).i=i t) (hS:(S.map i).Nodup) (kp:α→Bool) (n:Int):((qaV i ent S kp n).map i).Nodup:=by
 refine ZT (i:=Ent.i) (j:=i) (fun e t h=>by simpa using List.find?_some h) ?_
 refine List.Nodup.sublist ((List.take_sublist _ _).map _) ?_
 refine (((ZY _).map Ent.i).nodup_iff).2 ?_
 rw [List.map_map]
 have e:Ent.i∘ent=i:=funext hi
 rw [e]
 exact hS.sublist (List.filter_sublist.map _)
theorem qeR (S:List α) (kp:α→Bool) (n:Int):(qaV i ent S kp n).length≤S.length:=by
 unfold qaV
 refine Nat.le_trans (List.length_filterMap_le _ _) (Nat.le_trans (List.length_take_le' _ _) ?_)
 rw [(ZY _).length_eq,List.length_map]
 exact List.length_filter_le _ _
theorem qgC (hi:∀ t,(ent t).i=i t) (hS:(S.map i).Nodup) (kp:α→Bool) (n:Int):(qaV i ent S kp n).map ent=(sort ((S.filter kp).map ent)).take n.toNat:=by
 unfold qaV
 have key:∀ A:List Ent,(∀ e∈A,∃ s∈S,e=ent s)→(A.filterMap fun e=>S.find? fun t=>decide (i t=e.i)).map ent=A:=by
  intro A
  induction A with
  | nil=>intro _; rfl
  | cons e A ih =>
   intro h
   obtain ⟨s,hs,rfl⟩:=h e (by simp)
   rw [List.filterMap_cons,hi,qhC hS hs]
   simp only [List.map_cons]
   rw [ih fun e he=>h e (by simp [he])]
 refine key _ fun e he => ?_
 obtain ⟨s,hs,rfl⟩:=List.mem_map.1 ((ZY _).mem_iff.1 (List.mem_of_mem_take he))
 exact ⟨s,(List.mem_filter.1 hs).1,rfl⟩
end
theorem qo7 {S:List Pr} (hS:(S.map Pr.id).Nodup) {kp:Pr→Bool} {p:Pt} {l n:Int} {t:Pr} (h:t∈qdH S kp p l n):t∈S∧kp t=true:=X0 (i:=Pr.id) (ent:=WE p l) (fun _=>rfl) hS h
theorem ql0 {S:List Pr} (hS:(S.map Pr.id).Nodup) (kp:Pr→Bool) (p:Pt) (l n:Int):((qdH S kp p l n).map Pr.id).Nodup:=qaU (i:=Pr.id) (ent:=WE p l) (fun _=>rfl) hS kp n
theorem qjP (S:List Pr) (kp:Pr→Bool) (p:Pt) (l n:Int):(qdH S kp p l n).length≤S.length:=qeR (i:=Pr.id) (ent:=WE p l) S kp n
def qaR (l:List Ru) (v:Vw) (p:Pt) (mm:Int) (S:List Pr) (D:List Int):List (Int×Se):=J9 (Zq (zmP l v) v) (fun s=>Zu s.box p) (fun z=>qdH S (qbD l v z) p (lvl v z) mm) D
theorem XZ {α:Type} (see:α→Option Se) (p:Pt):∀ L:List α,yZ see p L=(L.filterMap see).map fun s=>(Zu s.box p,s)
 | []=>rfl
 | x::L=>by
  have ih:=XZ see p L
  unfold yZ at ih ⊢
  rw [List.filterMap_cons,List.filterMap_cons]
  cases hx:see x <;> simp [ih]
theorem qif (l:List Ru) (v:Vw) (p:Pt) (mm:Int) (S:List Pr) (D:List Int) (z:Int):qaR l v p mm S (D ++ [z])=qaR l v p mm S D++yZ (Zq (zmP l v) v) p (qdH S (qbD l v z) p (lvl v z) mm):=by
 rw [XZ]
 simp [qaR,J9]
theorem qhd {l:List Ru} {v:Vw} {p:Pt} {mm:Int} {S:List Pr} {D:List Int} (hS:(S.map Pr.id).Nodup) (hD:D.Nodup):((qaR l v p mm S D).map fun x=>x.2.id).Nodup :=
 Yv (Z:=zmP l v) hS (fun t s h=>qci h) (fun z _=>⟨ql0 hS _ _ _ _,fun t ht=>by
  obtain ⟨h1,h2⟩:=qo7 hS ht
  simp only [qbD,Bool.and_eq_true,decide_eq_true_eq] at h2
  exact ⟨h1,h2.2⟩⟩) hD
theorem qgu (l:List Ru) (v:Vw) (p:Pt) (mm:Int) (S:List Pr):∀ D:List Int,(qaR l v p mm S D).length≤D.length*S.length
 | []=>by simp [qaR,J9]
 | z::D=>by
  have h1:=qgu l v p mm S D
  have h2:=Xx (Zq (zmP l v) v) p (qdH S (qbD l v z) p (lvl v z) mm)
  have h3:=qjP S (qbD l v z) p (lvl v z) mm
  have e:qaR l v p mm S (z::D)=yZ (Zq (zmP l v) v) p (qdH S (qbD l v z) p (lvl v z) mm)++qaR l v p mm S D:=by
   rw [XZ]
   simp [qaR,J9]
  rw [e,List.length_append,List.length_cons,Nat.add_mul]
  omega
theorem plNear {l:List Ru} (hl:Yk l) (v:Vw) {S:List Pr} {Tt:Nat→Prop} {t m r c b:Nat} {es:List (Value×V)} {H:List Bk} (hT:Tab H t m l es) (hM:VO l es) (ht:TrP H r b S Tt) (htm:∀ x,Tt x→x≠m) (hS:S.length≤50) (hz:(jZ l v).length≤1000) (hzr:∀ z∈jZ l v,0≤z∧z≤16) (p:Pt) (mm:Int) :
  AFn Tryz.prog 19 [wdC r c t,.agg v.cs,p.v,.sc (.int .i64 mm)] H fun y H'=>Kept l t m H H'∧(yN v mm (fits p)≠0→y = .tup [.nil,.sc (.int .i64 1)]) ∧
   (yN v mm (fits p)=0→∃ R,y = .tup [QA R,.sc (.int .i64 0)]∧∀ Y:List (Int×Se),Y.Perm (qaR l v p mm S (lvls v (jZ l v)))→Y.Pairwise (fun a b=>(Yd b).lt (Yd a)=false)→R=(Y.take mm.toNat).map (·.2)):=by
 have hA:=fun H=>qim v mm (fits p) r c t H
 have hR:=KG p
 have hml:=(List.getElem?_eq_some_iff.1 hT.m).1
 have htl:=(List.getElem?_eq_some_iff.1 hT.t).1
 have hrl:=ht.lt
 unfold wdC Vw.cs at hA ⊢
 unfold Pt.v Pt.cs at hR ⊢
 refine vwc (fn:=Tryz.f19) rfl ?_
 simp only [Tryz.f19,ql]
 refine AW.seq (vwa [(1,5,[4,5,7,6])] ?_)
 simp
 have k1:Kp NoB H (H ++ [wdB r c t,vwB v,ptB p,zB mm]):=Kp.refl.app
 have e0:(H ++ [wdB r c t,vwB v,ptB p,zB mm])[H.length]? = some (wdB r c t):=by simp
 have e1:(H ++ [wdB r c t,vwB v,ptB p,zB mm])[H.length+1]? = some (vwB v):=by simp
 have e2:(H ++ [wdB r c t,vwB v,ptB p,zB mm])[H.length+2]? = some (ptB p):=by simp
 have e3:(H ++ [wdB r c t,vwB v,ptB p,zB mm])[H.length+3]? = some (zB mm):=by simp
 change AW _ _ _ _ ⟨_,H ++ [wdB r c t,vwB v,ptB p,zB mm]⟩
 generalize H ++ [wdB r c t,vwB v,ptB p,zB mm]=H1 at *
 have n0:H.length≤H.length:=Nat.le_refl _
 have n1:H.length≤H.length+1:=by omega
 have n2:H.length≤H.length+2:=by omega
 generalize H.length+1=i1 at *
 generalize H.length+2=i2 at *
 have n3:H.length≤H.length+3:=by omega
 generalize H.length+3=i4 at *
 have e0':=e0
 have e1':=e1
 have e2':=e2
 have e3':=e3
 unfold wdB at e0'
 unfold vwB at e1'
 unfold ptB at e2'
 unfold zB at e3'
 refine AW.seq (AW.seq (vwa [(1,5,[4,5,7,6])] ?_))
 simp [e0',e1',e2',e3']
 refine qc.pure hR rfl rfl ?_
 simp [e0',e1',e2',e3']
 refine qc.of (hA H1) ?_
 rintro y H2 ⟨rfl,k2⟩
 have kp2:=k2.YF (fun x h=>h)
 have f0:=k2.cells id e0
 have f1:=k2.cells id e1
 have f2:=k2.cells id e2
 have f3:=k2.cells id e3
 have f0':=f0
 have f1':=f1
 have f2':=f2
 have f3':=f3
 unfold wdB at f0'
 unfold vwB at f1'
 unfold ptB at f2'
 unfold zB at f3'
 have k3:=k1.trans k2
 have hKT:Kept l t m H H2:=⟨⟨es,⟨k3.cells id hT.t,k3.map id hT.m⟩,hM⟩,fun i b _ hb hn=>k3 i b id hb hn⟩
 simp [e0',e1',e2',e3',f0',f1',f2',f3',kp2]
 refine vwa [(1,5,[4,5,7,6])] ?_
 by_cases ha:yN v mm (fits p)=0
 rotate_left
 ·have ha1:yN v mm (fits p)=1:=by unfold yN at ha ⊢; split at ha <;> first | exact absurd rfl ha | simp_all
  have ha':(yN v mm (fits p) != 0)=true:=by simpa using ha
  simp [ha,ha',ha1]
  exact hKT
 have ha':(yN v mm (fits p) != 0)=false:=by simpa using ha
 have hvf:yG v=true∧fits p=true:=by
  unfold yN at ha
  split at ha
  ·rename_i h
   simp only [Bool.and_eq_true] at h
   exact ⟨h.1.1.1,h.1.1.2⟩
  ·cases ha
 obtain ⟨hvr,hfp⟩:=hvf
 simp [ha,ha']
 refine AW.seq (vwa [(1,5,[4,5,7,6])] ?_)
 simp
 refine qc.of (qdy H2) ?_
 rintro y H3 ⟨f,q,mf,rfl,hF,l1,l2,l3,k4⟩
 simp
 rw [qp rfl]
 have g0:=hget (L := [Bk.cells ([V.ptr f 0].map SV.v)]) (k4.cells id f0)
 have g1:=hget (L := [Bk.cells ([V.ptr f 0].map SV.v)]) (k4.cells id f1)
 have g2:=hget (L := [Bk.cells ([V.ptr f 0].map SV.v)]) (k4.cells id f2)
 have g4:=hget (L := [Bk.cells ([V.ptr f 0].map SV.v)]) (k4.cells id f3)
 have g3:(H3 ++ [Bk.cells ([V.ptr f 0].map SV.v)])[H3.length]? = some (.cells [.v (.ptr f 0)]):=by simp
 have hF4:=hF.app (L := [Bk.cells ([V.ptr f 0].map SV.v)])
 have k5:Kp NoB H (H3 ++ [Bk.cells ([V.ptr f 0].map SV.v)]):=(k3.trans k4).app
 have hlen2:H.length<H2.length:=(List.getElem?_eq_some_iff.1 f0).1
 generalize H3 ++ [_]=H4 at *
 generalize H3.length=i3 at *
 clear e0 e1 e2 e3 e0' e1' e2' e3' f0 f1 f2 f3 f0' f1' f2' f3' kp2 k2 k4 k3 hF k1 hKT
 have hTb4:Tab H4 t m l es:=⟨k5.cells id hT.t,k5.map id hT.m⟩
 have ht4:=ht.Vb k5
 have hd:WD Tt m q mf:=⟨htm,fun x hx=>by have:=hrl x hx; omega,fun x hx=>by have:=hrl x hx; omega,by omega⟩
 have hJ4:WJ l v S Tt t m r c b f q mf (qaR l v p mm S []) H4:=⟨⟨es,hTb4,hM⟩,ht4,hF4⟩
 have hTe:qmK l v t m 58 [.ptr H.length 0,.ptr i1 0,.ptr i2 0,.ptr i4 0,.ptr i3 0] (jZ l v) (fun D Hx=>WJ l v S Tt t m r c b f q mf (qaR l v p mm S D) Hx∧Hx[H.length]? = some (wdB r c t)∧Hx[i1]? = some (vwB v)∧Hx[i2]? = some (ptB p)∧Hx[i4]? = some (zB mm)∧Hx[i3]? = some (.cells [.v (.ptr f 0)])) (fun x=>x=q∨x=mf∨x=m):=by
  refine ⟨fun D Hx hx=>hx.1.tab,fun D Hx Hy ⟨h,a1,a2,a3,a4,a5⟩ k => ?_,rfl,fun k hk Hx h0 ⟨h,a1,a2,a3,a4,a5⟩ => ?_⟩
  ·obtain ⟨es',t1,_⟩:=h.tab
   exact ⟨h.kept hd k,k.2.cells (qh a1 t1.m) a1,k.2.cells (qh a2 t1.m) a2,k.2.cells (qh a3 t1.m) a3,k.2.cells (qh a4 t1.m) a4,k.2.cells (qh a5 t1.m) a5⟩
  ·have hlk:lvls v ((jZ l v).take (k+1))=lvls v ((jZ l v).take k) ++ [(jZ l v)[k]]:=by rw [List.take_succ_eq_append_getElem hk,K9,if_neg h0]
   have hnd:=qhd (l:=l) (v:=v) (p:=p) (mm:=mm) ht.ids (VN (Zd l v) (k+1) (v:=v))
   rw [hlk,qif] at hnd
   have hln:(qaR l v p mm S (lvls v ((jZ l v).take k))).length+(qdH S (qbD l v (jZ l v)[k]) p (lvl v (jZ l v)[k]) mm).length≤100000:=by
    have b1:=qgu l v p mm S (lvls v ((jZ l v).take k))
    have b2:=qjP S (qbD l v (jZ l v)[k]) p (lvl v (jZ l v)[k]) mm
    have b3:=Yz v ((jZ l v).take k)
    rw [List.length_take] at b3
    have b4:(lvls v ((jZ l v).take k)).length*S.length≤1000*50:=Nat.mul_le_mul (by omega) hS
    omega
   refine AFn.conv (plNear1 hl v hd h a1 a2 a3 a4 a5 _ _ hfp (zy.2 (KM hvr (hzr _ (List.getElem_mem hk)))) (by omega) hnd hln) ?_
   rintro y Hy ⟨rfl,h',k'⟩
   obtain ⟨hs,hq,_⟩:=h.fd.q
   obtain ⟨es',t1,_⟩:=h.tab
   have nn:∀ {i:Nat} {a:V} {cs:List SV},Hx[i]? = some (.cells (.v a::cs))→¬ (i=q∨i=mf∨i=m):=fun hi e=>by
    rcases e with e | e | e
    ·exact Ky hi hq e
    ·exact qh hi h.fd.m e
    ·exact qh hi t1.m e
   refine ⟨_,⟨rfl,⟨by rw [qif]; exact h',k'.cells (nn a1) a1,k'.cells (nn a2) a2,k'.cells (nn a3) a3,k'.cells (nn a4) a4,k'.cells (nn a5) a5⟩,k'⟩,fun _ _ _ h=>h⟩
 have hll:∀ x,x=q∨x=mf∨x=m→x<H4.length:=fun x hx=>by
  obtain ⟨hs,⟨_,hq,_⟩,_⟩:=hF4.q
  rcases hx with rfl | rfl | rfl
  ·exact (List.getElem?_eq_some_iff.1 hq).1
  ·exact (List.getElem?_eq_some_iff.1 hF4.m).1
  ·exact (List.getElem?_eq_some_iff.1 hTb4.m).1
 have hLv:=qbO hl v r c (jZ l v) rfl (by omega) hTe hll (.inr (.inr rfl)) ⟨hJ4,g0,g1,g2,g4,g3⟩
 unfold wdC Vw.cs at hLv
 have g0':=g0
 have g1':=g1
 unfold wdB at g0'
 unfold vwB at g1'
 refine AW.seq (vwa [(1,5,[4,5,7,6])] ?_)
 simp [g0',g1']
 refine qc.of hLv ?_
 rintro y H5 ⟨rfl,⟨hJ5,a1,a2,a3,a5,a4⟩,k6⟩
 obtain ⟨hs,hq,hp⟩:=hJ5.fd.q
 have hnd:=qhd (l:=l) (v:=v) (p:=p) (mm:=mm) ht.ids ((Zd l v).sublist (List.filter_sublist (p:=fun z => !decide (lvl v z=0))))
 have hln:(qaR l v p mm S (lvls v (jZ l v))).length≤100000:=by
  have b1:=qgu l v p mm S (lvls v (jZ l v))
  have b3:=Yz v (jZ l v)
  have b4:(lvls v (jZ l v)).length*S.length≤1000*50:=Nat.mul_le_mul (by omega) hS
  omega
 have hFi:=qdx hJ5.fd.f hJ5.fd.m hq hp hnd hln mm
 simp [a4]
 have a5':=a5
 unfold zB at a5'
 refine AW.seq (vwa [(1,5,[4,5,7,6])] ?_)
 simp [a4,a5']
 refine qc.of hFi ?_
 rintro y H6 ⟨rfl,k7⟩
 unfold QA
 simp
 have hsr:Srt hs:=by
  obtain ⟨_,_,_,_,h⟩:=hq
  exact h
 have hqt:∀ {i:Nat} {a:V} {cs:List SV},H5[i]? = some (.cells (.v a::cs))→¬ i=q:=fun hi e=>Ky hi hq e
 have hqm:∀ {i:Nat} {es:List (Value×V)},H5[i]? = some (.map es)→¬ i=q:=fun hi e=>by
  obtain ⟨_,hq1,_⟩:=hq
  exact qh hq1 hi e.symm
 refine vwa [(1,5,[4,5,7,6])] ?_
 simp
 refine ⟨?_,List.take mm.toNat (List.map (fun e=>Wh (qaR l v p mm S (lvls v (jZ l v))) e.i) hs),by simp,fun Y hY hp2 => ?_⟩
 ·obtain ⟨es',t1,m1⟩:=hJ5.tab
  refine ⟨⟨es',⟨k7.cells (hqt t1.t) t1.t,k7.V8.map (hqm t1.m) t1.m⟩,m1⟩,fun i b hi hb hn => ?_⟩
  have hib:=(List.getElem?_eq_some_iff.1 hb).1
  refine k7.V8 i b (by omega) (k6 i b (fun e => ?_) (k5 i b id hb hn) hn) hn
  rcases e with e | e | e
  ·omega
  ·omega
  ·exact hi e
 ·have hnd':((qaR l v p mm S (lvls v (jZ l v))).map fun x=>x.2.id).Nodup:=hnd
  have:=qb3 hnd' hY hsr hp hp2 mm.toNat
  simpa using this
end Go.Proofs.YtnconfggojpkcaaGreat
namespace Go.Proofs.YtnconfggojpkcaaGreat
open Go.RowKit AM
theorem qlp {l:List Ru} (ha:l.all qI=true) {v:Vw} {z:Int} (h:z∈jZ l v):1≤z∧z≤16:=by
 unfold jZ at h
 split at h
 ·rw [(VL _).2] at h
  unfold qcd at h
  obtain ⟨la,_,h⟩:=List.mem_flatMap.1 h
  obtain ⟨q,hq,rfl⟩:=List.mem_map.1 h
  have h1:=Vf.1 ((X4 ha v.ro v.ti la).corner hq).1
  have h2:=QN l v.ro v.ti la ⟨q.x0,q.y0⟩
  omega
 ·cases h
theorem qlQ:∀ {zs:List Int} {a b:Int},zs.Pairwise (· < ·)→(∀ z∈zs,a≤z∧z≤b)→(zs.length:Int)≤max (b - a+1) 0
 | [],_,_,_,_=>by simp; omega
 | z::zs,a,b,h,hr=>by
  rw [List.pairwise_cons] at h
  have ih:=qlQ (a:=z+1) (b:=b) h.2 fun y hy=>⟨by have:=h.1 y hy; omega,(hr y (by simp [hy])).2⟩
  have:=hr z (by simp)
  rw [List.length_cons]
  omega
theorem qe9 {l:List Ru} (ha:l.all qI=true) (v:Vw):(jZ l v).length≤1000:=by
 have hp:(jZ l v).Pairwise (· < ·):=by
  unfold jZ
  split
  ·exact (VL _).1
  ·simp
 have:=qlQ hp fun z hz=>qlp ha hz
 omega
theorem qhI {l:List Ru} (ha:l.all qI=true) {v:Vw} {x:Pr} (h:zmP l v x≠0):zmP l v x∈jZ l v:=by
 unfold zmP at h ⊢
 cases hn:QU v.ro v.ti x.lab with
 | false=>exact absurd (qaJ hn x.at_) h
 | true =>
  have hn0:QU v.ro v.ti 0=true:=by
   simp only [QU,Bool.and_eq_true] at hn ⊢
   exact ⟨hn.1,by decide⟩
  have hla:0≤x.lab∧x.lab≤7:=by
   simp only [QU,Bool.and_eq_true] at hn
   have:=hn.2
   simp only [yA,Bool.and_eq_true,decide_eq_true_eq] at this
   omega
  obtain ⟨q,hq,_,hz⟩:=((X4 ha v.ro v.ti x.lab).iff x.at_.x x.at_.y _).1 (Vf.2 ⟨rfl,h⟩)
  unfold jZ
  rw [if_pos hn0,(VL _).2]
  unfold qcd
  refine List.mem_flatMap.2 ⟨x.lab.toNat,List.mem_range.2 (by omega),List.mem_map.2 ⟨q,?_,hz⟩⟩
  have e:((x.lab.toNat:Nat):Int)=x.lab:=by omega
  rw [e]
  exact hq
theorem qcR {v:Vw} (h:yG v=true) {z:Int} (hl:lvl v z≠0) (hz:0≤z):z≠0:=by
 rintro rfl
 have:=qkx h
 apply hl
 unfold lvl
 split <;> omega
theorem qbu (l:List Ru) (v:Vw) (x:Pr):0≤zmP l v x∧zmP l v x≤16:=QN _ _ _ _ _
theorem see_zs {l:List Ru} (ha:l.all qI=true) {v:Vw} {x:Pr} {s:Se} (h:Zq (zmP l v) v x=some s):zmP l v x∈lvls v (jZ l v):=by
 obtain ⟨h1,h2,h3,h4,h5,h6,h7⟩:=qam (qbu l v x) h
 unfold lvls
 refine List.mem_filter.2 ⟨qhI ha (qcR h1 h5 (qbu l v x).1),by simpa using h5⟩
def qdM (l:List Ru) (v:Vw) (rc:Re) (S:List Pr):List Se:=(S.filterMap (Zq (zmP l v) v)).filter fun s=>qE s.box rc
section
variable {α:Type} {i:α→Int} {see:α→Option Se} {Z:α→Int} {win:Int→List α} {D:List Int} {S:List α}
theorem qo0 {g:Se→Bool} (hw1:∀ z,∀ t∈win z,t∈S) (hw2:∀ t∈S,∀ s,see t=some s→(t∈win (Z t)↔g s=true)) (hZ:∀ t∈S,∀ s,see t=some s→Z t∈D) {x:Int×Se}:x∈J9 see (fun _=>0) (fun z=>(win z).filter fun x=>decide (Z x=z)) D↔x.1=0∧x.2∈(S.filterMap see).filter g:=by
 rw [qgt,List.mem_filter,List.mem_filterMap]
 constructor
 ·rintro ⟨z,hz,t,ht,h1,h2⟩
  obtain ⟨k1,k2⟩:=List.mem_filter.1 ht
  simp only [decide_eq_true_eq] at k2
  subst k2
  exact ⟨h2,⟨t,hw1 _ t k1,h1⟩,(hw2 t (hw1 _ t k1) _ h1).1 k1⟩
 ·rintro ⟨h0,⟨t,ht,h1⟩,h2⟩
  exact ⟨_,hZ t ht _ h1,t,List.mem_filter.2 ⟨(hw2 t ht _ h1).2 h2,by simp⟩,h1,h0⟩
theorem qfD (hi:∀ t s,see t=some s→s.id=i t) (hS:S.Pairwise fun a b=>i a<i b):(S.filterMap see).Pairwise fun a b=>a.id<b.id:=by
 rw [List.pairwise_filterMap]
 exact hS.imp fun {a b} hab s hs s' hs'=>by rw [hi _ _ hs,hi _ _ hs']; exact hab
theorem J8 (hS:S.Pairwise fun a b=>i a<i b):(S.map i).Nodup:=by
 rw [List.Nodup,List.pairwise_map]
 exact hS.imp fun h=>by omega
theorem qhg {X:List (Int×Se)} (h:(X.map fun x=>x.2.id).Nodup):X.Nodup:=List.Pairwise.of_map _ (fun a b (hab:a.2.id≠b.2.id) e=>hab (by rw [e])) h
theorem qkv {g:Se→Bool} (hi:∀ t s,see t=some s→s.id=i t) (hS:S.Pairwise fun a b=>i a<i b) (hw1:∀ z,∀ t∈win z,t∈S) (hwn:∀ z,((win z).map i).Nodup) (hw2:∀ t∈S,∀ s,see t=some s→(t∈win (Z t)↔g s=true)) (hZ:∀ t∈S,∀ s,see t=some s→Z t∈D) (hD:D.Nodup) {R:List Se} {m:Nat}
  (h:∀ Y:List (Int×Se),Y.Perm (J9 see (fun _=>0) (fun z=>(win z).filter fun x=>decide (Z x=z)) D)→Y.Pairwise (fun a b=>(Yd b).lt (Yd a)=false)→R=(Y.take m).map (·.2)):R=((S.filterMap see).filter g).take m:=by
 have hd:((S.filterMap see).filter g).Pairwise fun a b=>a.id<b.id:=List.Pairwise.sublist List.filter_sublist (qfD hi hS)
 have hn:=Yv (Z:=Z) (key:=fun _=>0) (sub:=fun z=>(win z).filter fun x=>decide (Z x=z)) (J8 hS) hi (fun z _=>⟨(hwn z).sublist (List.filter_sublist.map _),fun t ht=>by
  obtain ⟨k1,k2⟩:=List.mem_filter.1 ht
  exact ⟨hw1 _ t k1,by simpa using k2⟩⟩) hD
 have:=h (((S.filterMap see).filter g).map fun s=>(0,s)) ?_ ?_
 ·rw [this,← List.map_take,List.map_map]
  simp [Function.comp_def]
 ·refine (List.perm_ext_iff_of_nodup ?_ (qhg hn)).2 fun x => ?_
  ·refine qhg ?_
   rw [List.map_map,List.Nodup,List.pairwise_map]
   exact hd.imp fun h=>by simp only [Function.comp]; omega
  ·rw [qo0 hw1 hw2 hZ,List.mem_map]
   constructor
   ·rintro ⟨s,hs,rfl⟩; exact ⟨rfl,hs⟩
   ·rintro ⟨h0,hs⟩; exact ⟨x.2,hs,by rw [← h0]⟩
 ·rw [List.pairwise_map]
  refine hd.imp fun {a b} hab => ?_
  rw [Ent.WL]
  simp only [Yd]
  omega
end
theorem qnH {l:List Ru} {v:Vw} {S:List Pr} (hS:(S.map Pr.id).Nodup):((S.filterMap (Zq (zmP l v) v)).map Se.id).Nodup:=ZT (i:=Pr.id) (j:=Se.id) (fun t s h=>qci h) hS
theorem qd5 {S:List Pr} (hS:S.Pairwise fun a b=>a.id<b.id):(S.map Pr.id).Nodup:=J8 hS
theorem qoM {l:List Ru} (ha:l.all qI=true) {v:Vw} {rc:Re} (hr:qd rc=true) {S:List Pr} (hS:S.Pairwise fun a b=>a.id<b.id) {R:List Se} {m:Nat}
  (h:∀ Y:List (Int×Se),Y.Perm (qaQ l v rc S (lvls v (jZ l v)))→Y.Pairwise (fun a b=>(Yd b).lt (Yd a)=false)→R=(Y.take m).map (·.2)):R=(qdM l v rc S).take m:=by
 refine qkv (i:=Pr.id) (Z:=zmP l v) (win:=fun z=>qcb (zW rc (lvl v z)).1 S) (g:=fun s=>qE s.box rc) (D:=lvls v (jZ l v)) (fun t s h=>qci h) hS (fun z t ht=>qlu ht) (fun z=>qhR (qd5 hS)) (fun t ht s hs => ?_) (fun t _ s hs=>see_zs ha hs) ((Zd l v).sublist List.filter_sublist) h
 obtain ⟨h1,h2,h3,h4,h5,h6,h7⟩:=qam (qbu l v t) hs
 have hm:yV (zW rc (lvl v (zmP l v t))).1 t.at_=qE s.box rc:=by
  rw [h6]
  exact qm5 hr h2 h7
 rw [← hm]
 constructor
 ·intro k1
  unfold qcb at k1
  split at k1
  ·exact (List.mem_filter.1 ((KO _).mem_iff.1 k1)).2
  ·cases k1
 ·intro h2
  unfold qcb
  rw [if_pos (ZR.1 h2).1]
  exact (KO _).mem_iff.2 (List.mem_filter.2 ⟨ht,h2⟩)
def Jz (p:Pt) (s:Se):Ent:=⟨Zu s.box p,0,s.id⟩
def qf1 (e:Ent):Ent:=⟨e.k,0,e.i⟩
def Je (l:List Ru) (v:Vw) (S:List Pr):List Se:=S.filterMap (Zq (zmP l v) v)
def qkr (D:List Se) (p:Pt) (m:Nat) (R:List Se):Prop:=R.map (Jz p)=(sort (D.map (Jz p))).take m∧∀ s∈R,s∈D
theorem low_sort {A:List Ent} (h:∀ e∈A,e.t=1):(sort A).map qf1=sort (A.map qf1):=by
 refine qaj ?_ (Ku _) (((ZY A).map qf1).trans (ZY _).symm)
 have h1:∀ e∈sort A,e.t=1:=fun e he=>h e ((ZY A).mem_iff.1 he)
 have h2:=Ku A
 unfold Srt at h2 ⊢
 rw [List.pairwise_map]
 refine List.Pairwise.imp_of_mem (fun {a b} ma mb h3 => ?_) h2
 have ha:=h1 a ma
 have hb:=h1 b mb
 rw [Ent.WL] at h3 ⊢
 simp only [qf1]
 omega
theorem qnz {X:List (Int×Se)} (hn:(X.map fun x=>x.2.id).Nodup) {R:List Se} {m:Nat} (h:∀ Y:List (Int×Se),Y.Perm X→Y.Pairwise (fun a b=>(Yd b).lt (Yd a)=false)→R=(Y.take m).map (·.2)) :
  ∃ Y:List (Int×Se),Y.Perm X∧Y.map Yd=sort (X.map Yd)∧R=(Y.take m).map (·.2):=by
 have hg:∀ x∈X,((Yd x).k,Wh X (Yd x).i)=x:=fun x hx=>by
  have e:(Yd x).i=x.2.id:=rfl
  rw [e,qiw hn hx]
  rfl
 have hgm:∀ A:List Ent,(∀ e∈A,∃ x∈X,e=Yd x)→(A.map fun e=>(e.k,Wh X e.i)).map Yd=A:=by
  intro A
  induction A with
  | nil=>intro _; rfl
  | cons e A ih =>
   intro hA
   obtain ⟨x,hx,rfl⟩:=hA e (by simp)
   rw [List.map_cons,List.map_cons,hg x hx,ih fun e he=>hA e (by simp [he])]
 have hY:=hgm (sort (X.map Yd)) fun e he=>by
  obtain ⟨x,hx,rfl⟩:=List.mem_map.1 ((ZY _).mem_iff.1 he)
  exact ⟨x,hx,rfl⟩
 have hP:((sort (X.map Yd)).map fun e=>(e.k,Wh X e.i)).Perm X:=by
  refine ((ZY _).map _).trans ?_
  rw [List.map_map]
  have e:X.map ((fun e:Ent=>(e.k,Wh X e.i))∘Yd)=X:=by
   have:∀ x∈X,((fun e:Ent=>(e.k,Wh X e.i))∘Yd) x=id x:=fun x hx=>hg x hx
   rw [List.map_congr_left this,List.map_id]
  rw [e]
 refine ⟨_,hP,hY,h _ hP ?_⟩
 have hs:=Ku (X.map Yd)
 rw [← hY] at hs
 exact List.pairwise_map.1 hs
section
variable {α:Type} {i:α→Int} {see:α→Option Se} {Z:α→Int} {ent:Int→α→Ent} {D:List Int} {S:List α}
def clsG (i:α→Int) (Z:α→Int) (S:List α) (e:Ent):Int:=match S.find? fun t=>decide (i t=e.i) with
 | some t=>Z t
 | none=>0
theorem qoA (hi:∀ t s,see t=some s→s.id=i t) (hS:(S.map i).Nodup) (p:Pt) {t:α} {s:Se} (ht:t∈S) (h:see t=some s):clsG i Z S (Jz p s)=Z t:=by
 have e:(Jz p s).i=i t:=hi _ _ h
 unfold clsG
 rw [e,qhC hS ht]
theorem qiS (hi:∀ t s,see t=some s→s.id=i t) {p:Pt} (hf:∀ t s,t∈S→see t=some s→Jz p s=qf1 (ent (Z t) t)) (hS:(S.map i).Nodup) (z:Int):∀ S':List α,(∀ t∈S',t∈S)→((S'.filterMap see).map (Jz p)).filter (fun e=>decide (clsG i Z S e=z))=((S'.filter fun t=>(see t).isSome&&decide (Z t=z)).map (ent z)).map qf1
 | [],_=>rfl
 | t::S',h=>by
  have ih:=qiS hi hf hS z S' fun t ht=>h t (by simp [ht])
  rw [List.filterMap_cons]
  cases hs:see t with
  | none =>
   simp only
   rw [List.filter_cons_of_neg (by simp [hs])]
   exact ih
  | some s =>
   have hc:=qoA (Z:=Z) hi hS p (h t (by simp)) hs
   simp only [List.map_cons]
   by_cases hz:Z t=z
   ·rw [List.filter_cons_of_pos (by simp [hc,hz]),List.filter_cons_of_pos (by simp [hs,hz]),ih]
    simp only [List.map_cons]
    rw [hf t s (h t (by simp)) hs,hz]
   ·rw [List.filter_cons_of_neg (by simp [hc,hz]),List.filter_cons_of_neg (by simp [hz]),ih]
theorem qn5 {p:Pt} (hf:∀ t s,t∈S→see t=some s→Jz p s=qf1 (ent (Z t) t)) (z:Int):∀ A:List α,(∀ t∈A,t∈S∧((see t).isSome&&decide (Z t=z))=true)→((A.filterMap see).map fun s=>Jz p s)=(A.map (ent z)).map qf1
 | [],_=>rfl
 | t::A,h=>by
  have ih:=qn5 hf z A fun t ht=>h t (by simp [ht])
  obtain ⟨hm,ht⟩:=h t (by simp)
  simp only [Bool.and_eq_true,decide_eq_true_eq] at ht
  obtain ⟨s,hs⟩:=Option.isSome_iff_exists.1 ht.1
  rw [List.filterMap_cons,hs]
  simp only [List.map_cons]
  rw [ih,hf t s hm hs,ht.2]
def qkP (i:α→Int) (see:α→Option Se) (Z:α→Int) (ent:Int→α→Ent) (p:Pt) (mm:Int) (S:List α) (D:List Int):List (Int×Se):=J9 see (fun s=>Zu s.box p) (fun z=>qaV i (ent z) S (fun t=>(see t).isSome&&decide (Z t=z)) mm) D
theorem qkO (hi:∀ t s,see t=some s→s.id=i t) (he:∀ z t,(ent z t).i=i t) {p:Pt} {mm:Int} (hS:(S.map i).Nodup) (hD:D.Nodup):((qkP i see Z ent p mm S D).map fun x=>x.2.id).Nodup :=
 Yv (Z:=Z) hS hi (fun z _=>⟨qaU (he z) hS _ _,fun t ht=>by
  obtain ⟨h1,h2⟩:=X0 (he z) hS ht
  simp only [Bool.and_eq_true,decide_eq_true_eq] at h2
  exact ⟨h1,h2.2⟩⟩) hD
theorem qng (hi:∀ t s,see t=some s→s.id=i t) (he:∀ z t,(ent z t).i=i t) (h1:∀ z t,(ent z t).t=1) {p:Pt} {mm:Int} (hf:∀ t s,t∈S→see t=some s→Jz p s=qf1 (ent (Z t) t)) (hS:(S.map i).Nodup) (D:List Int):(qkP i see Z ent p mm S D).map Yd=D.flatMap fun z=>(sort (((S.filterMap see).map (Jz p)).filter fun e=>decide (clsG i Z S e=z))).take mm.toNat:=by
 unfold qkP J9
 rw [List.map_flatMap]
 refine congrArg (fun f=>D.flatMap f) (funext fun z => ?_)
 rw [List.map_map]
 have e:(Yd∘fun s=>(Zu s.box p,s))=Jz p:=funext fun s=>rfl
 rw [e,qn5 hf z _ fun t ht=>X0 (he z) hS ht,qgC (he z) hS,List.map_take,low_sort,qiS hi hf hS z S fun t h=>h]
 intro e he
 obtain ⟨s,_,rfl⟩:=List.mem_map.1 he
 exact h1 z s
theorem qfX (hi:∀ t s,see t=some s→s.id=i t) (he:∀ z t,(ent z t).i=i t) (h1:∀ z t,(ent z t).t=1) {p:Pt} {mm:Int} (hf:∀ t s,t∈S→see t=some s→Jz p s=qf1 (ent (Z t) t)) (hS:(S.map i).Nodup) (hZ:∀ t∈S,∀ s,see t=some s→Z t∈D) (hzn:D.Nodup) {R:List Se}
  (h:∀ Y:List (Int×Se),Y.Perm (qkP i see Z ent p mm S D)→Y.Pairwise (fun a b=>(Yd b).lt (Yd a)=false)→R=(Y.take mm.toNat).map (·.2)):qkr (S.filterMap see) p mm.toNat R:=by
 have hn:=qkO (Z:=Z) (p:=p) (mm:=mm) hi he hS hzn
 obtain ⟨Y,hY1,hY2,rfl⟩:=qnz hn h
 rw [qng hi he h1 hf hS] at hY2
 have hmem:∀ x∈Y,∃ t∈S,see t=some x.2∧x.1=Zu x.2.box p:=fun x hx=>by
  obtain ⟨z,_,t,ht,h1,h2⟩:=qgt.1 (hY1.mem_iff.1 hx)
  exact ⟨t,(X0 (he z) hS ht).1,h1,h2⟩
 have hm:=ql2 (Es:=(S.filterMap see).map (Jz p)) (zs:=D) (c:=clsG i Z S) (m:=mm.toNat) ?_ hzn ?_
 ·refine ⟨?_,fun s hs => ?_⟩
  ·rw [← hm,← hY2,← List.map_take,List.map_map]
   refine List.map_congr_left fun x hx => ?_
   obtain ⟨t,_,_,h2⟩:=hmem x (List.mem_of_mem_take hx)
   simp only [Function.comp,Jz,Yd,h2]
  ·obtain ⟨x,hx,rfl⟩:=List.mem_map.1 hs
   obtain ⟨t,ht,h1,_⟩:=hmem x (List.mem_of_mem_take hx)
   exact List.mem_filterMap.2 ⟨t,ht,h1⟩
 ·have:=ZT (i:=i) (j:=Se.id) hi hS
  refine List.Pairwise.of_map Ent.i (fun a b (hab:a.i≠b.i) e=>hab (by rw [e])) ?_
  rw [List.map_map]
  exact this
 ·intro e he
  obtain ⟨s,hs,rfl⟩:=List.mem_map.1 he
  obtain ⟨t,ht,h1⟩:=List.mem_filterMap.1 hs
  rw [qoA hi hS p ht h1]
  exact hZ t ht s h1
end
theorem see_far {l:List Ru} {v:Vw} {t:Pr} {s:Se} (p:Pt) (h:Zq (zmP l v) v t=some s):Jz p s=qf1 (WE p (lvl v (zmP l v t)) t):=by
 have hid:=qci h
 unfold Zq QE at h
 split at h
 ·split at h
  ·cases h
  ·cases h
   rfl
 ·cases h
theorem qnk {l:List Ru} (ha:l.all qI=true) {v:Vw} {p:Pt} {mm:Int} {S:List Pr} (hS:(S.map Pr.id).Nodup) {R:List Se}
  (h:∀ Y:List (Int×Se),Y.Perm (qaR l v p mm S (lvls v (jZ l v)))→Y.Pairwise (fun a b=>(Yd b).lt (Yd a)=false)→R=(Y.take mm.toNat).map (·.2)):qkr (Je l v S) p mm.toNat R :=
 qfX (i:=Pr.id) (Z:=zmP l v) (ent:=fun z t=>WE p (lvl v z) t) (fun t s h=>qci h) (fun _ _=>rfl) (fun _ _=>rfl) (fun t s _ h=>see_far p h) hS (fun t _ s h=>see_zs ha h) ((Zd l v).sublist List.filter_sublist) h
end Go.Proofs.YtnconfggojpkcaaGreat
namespace Go.Proofs.YtnconfggojpkcaaGreat
open Go.RowKit AM
attribute [local simp] zQ qU jL zT zq zR zS zo jM zu qV Z8 Qm jC Ql yc ZE vZ slF qG Qo zK yx zA shares jh yt ze Qz QI qY ZF qZ qM vX zH yu Qe qL zD zG vU slV jE jG yE zU ZJ jB jF aMM aUn Qp vW jD zC jA qJ vV Qu vY vS Zw y9 qK Qs ZK zJ zI jH jR ZH eval zZ AM.valOf qm vO yR del SV.refers zY vQ jU shift ldV V.exact V.jg V.ofValue V.vP V.vL V.cells V.one Value.oneCell' ZI QY jV Q5 ZM ZC Qa Zy jl jI Qi ZL y8 yX Qr calm Qt Zn Qk feeds shrinks Qx looks isT Qf vK Qd putAt jT jc Zm sliceB isEq Qg zk qH zO zn qR zl zm qQ zP zi qP ZW Qw yB Zl QZ inO y7 Zi Mix.vT Mix.Qc QB QX qz qj qW zh qO ZV Qq yg yh ZG Zb yw yO Q8 jW V.fixed V.vC
attribute [local simp] vE je yL vH jQ vF vG jP yM vk jN V5 Ja yF QT Jb z0 JL VK Vo VU
theorem qbI {xs:List Se} {k:Nat} (h:k<xs.length):AM.rowAt 6 (xs.flatMap Se.cs) (k:Int) = [.sc (.int .i64 xs[k].id),.sc (.int .i64 xs[k].lv),.sc (.int .i64 xs[k].box.x0),.sc (.int .i64 xs[k].box.y0),.sc (.int .i64 xs[k].box.x1),.sc (.int .i64 xs[k].box.y1)]:=WA (enc:=Se.cs) (sz:=6) (fun _=>rfl) h
theorem qk1 (a b c d e f a' b' c' d' e' f':Int):eqT Tryz.prog 10 59 (.agg #[.int .i64 a,.int .i64 b,.int .i64 c,.int .i64 d,.int .i64 e,.int .i64 f]) (.agg #[.int .i64 a',.int .i64 b',.int .i64 c',.int .i64 d',.int .i64 e',.int .i64 f'])=some (a==a'&&(b==b'&&((c==c'&&(d==d'&&(e==e'&&(f==f'&&true))))&&true))):=by kernel_rfl
theorem hGSe:Tryz.prog.eqGuardType Tryz.prog.depth 59=false:=by kernel_rfl
theorem se_eq {a b:Se}:a=b↔a.id=b.id∧a.lv=b.lv∧a.box.x0=b.box.x0∧a.box.y0=b.box.y0∧a.box.x1=b.box.x1∧a.box.y1=b.box.y1:=by
 obtain ⟨ai,al,⟨a0,a1,a2,a3⟩⟩:=a
 obtain ⟨bi,bl,⟨b0,b1,b2,b3⟩⟩:=b
 simp [and_assoc]
theorem hEqSe (p q:Se):eqT Tryz.prog 10 59 (.agg #[.int .i64 p.id,.int .i64 p.lv,.int .i64 p.box.x0,.int .i64 p.box.y0,.int .i64 p.box.x1,.int .i64 p.box.y1]) (.agg #[.int .i64 q.id,.int .i64 q.lv,.int .i64 q.box.x0,.int .i64 q.box.y0,.int .i64 q.box.x1,.int .i64 q.box.y1])=some (decide (p=q)):=by
 rw [qk1]
 congr 1
 rw [Bool.eq_iff_iff,decide_eq_true_iff,se_eq]
 simp [and_assoc]
theorem qff {xs:List Se} {k:Nat} (h:k<xs.length):xs.take (k+1)=xs.take k ++ [xs[k]]:=List.take_succ_eq_append_getElem h
def SmS (xs ys:List Se) (k:Nat) (F:Fr) (H:List Bk):Prop:=xs.take k=ys.take k∧H = []∧F = [(0,.v (QA xs)),(1,.v (QA ys)),(5,.v (.sc (.int .i64 k)))]
theorem qez (xs ys:List Se) (hx:xs.length≤1000000000):PFn Tryz.prog 15 [QA xs,QA ys] (.sc (.bool (decide (xs=ys)))):=by
 refine vwc (fn:=Tryz.f15) rfl (vwb ?_)
 simp only [Tryz.f15,ql]
 simp [QA]
 by_cases hl:xs.length=ys.length
 ·simp [QA,hl]
  refine AW.count xs.length (SmS xs ys) ⟨_,?_,by simp,rfl,rfl⟩ ?_
  ·simp [qz,qj,qm,QA,hl]
  rintro k F H hk ⟨ht,rfl,rfl⟩
  refine vwb ?_
  by_cases hlt:k<xs.length
  ·have hlt':k<ys.length:=by omega
   have w1:IntKind.i64.wrap ((k:Int)+1)=(k:Int)+1:=by rw [wrap_i64] <;> omega
   by_cases he:xs[k]=ys[k]
   ·simp [QA,hlt,hlt',qbI,hEqSe,hGSe,w1,he]
    refine ⟨_,?_,?_,rfl,rfl⟩
    ·simp [qz,qj,qm,QA]
    ·rw [qff hlt,qff hlt',ht,he]
   ·have:¬ xs=ys:=fun e'=>by
     subst e'
     exact he rfl
    simp [QA,hlt,hlt',qbI,hEqSe,hGSe,w1,he,this]
  ·have hk':k=xs.length:=by omega
   have he:xs=ys:=by
    rw [hk',List.take_length,hl,List.take_length] at ht
    exact ht
   simp [QA,hlt]
   exact he
 ·have:¬ xs=ys:=fun e=>hl (by rw [e])
  have hl':((xs.length:Int) != ys.length)=true:=by simp; omega
  simp [hl',this]
end Go.Proofs.YtnconfggojpkcaaGreat
namespace Go.Proofs.YtnconfggojpkcaaGreat
open Go.RowKit AM Can
attribute [local simp] zQ qU jL zT zq zR zS zo jM zu qV Z8 Qm jC Ql yc ZE vZ slF qG Qo zK yx zA shares jh yt ze Qz QI qY ZF qZ qM vX zH yu Qe qL zD zG vU slV jE jG yE zU ZJ jB jF aMM aUn Qp vW jD zC jA qJ vV Qu vY vS Zw y9 qK Qs ZK zJ zI jH jR ZH eval zZ AM.valOf qm vO yR del SV.refers zY vQ jU shift ldV V.exact V.jg V.ofValue V.vP V.vL V.cells V.one Value.oneCell' ZI QY jV Q5 ZM ZC Qa Zy jl jI Qi ZL y8 yX Qr calm Qt Zn Qk feeds shrinks Qx looks isT Qf vK Qd putAt jT jc Zm sliceB isEq Qg zk qH zO zn qR zl zm qQ zP zi qP ZW Qw yB Zl QZ inO y7 Zi Mix.vT Mix.Qc QB QX qz qj qW zh qO ZV Qq yg yh ZG Zb yw yO Q8 jW V.fixed V.vC
attribute [local simp] vE je yL vH jQ vF vG jP yM vk jN V5 Ja yF QT Jb z0 JL VK Vo VU
def newV (e:Int):V := .tup [.sc (.pointer none),.sc (.int .i64 e)]
theorem gnewLong (l:List Ru) (hl:32<l.length):PFn Tryz.prog 40 [slU l] (newV 2):=by
 have n1:(32:Int)<l.length:=by omega
 refine vwc (fn:=Tryz.f40) rfl (vwb ?_)
 simp only [Tryz.f40,ql]
 simp [slU,n1,newV]
theorem gnewArg (l:List Ru) (hl:l.length≤32) (hb:∀ r∈l,r.boxes.length≤9223372036854775807) (hr:l.all qI=false):PFn Tryz.prog 40 [slU l] (newV 1):=by
 have hR:=uRight l (by omega) hb
 rw [hr] at hR
 have c1:=yT l
 unfold slU at c1
 have n1:¬ (32:Int)<l.length:=by omega
 refine vwc (fn:=Tryz.f40) rfl (vwb ?_)
 simp only [Tryz.f40,ql]
 simp [slU,n1]
 refine qc.pure hR (by simp [V.qA,c1]) rfl ?_
 simp [newV]
end Go.Proofs.YtnconfggojpkcaaGreat
namespace Go.Proofs.YtnconfggojpkcaaGreat
open Go.RowKit AM
attribute [local simp] zQ qU jL zT zq zR zS zo jM zu qV Z8 Qm jC Ql yc ZE vZ slF qG Qo zK yx zA shares jh yt ze Qz QI qY ZF qZ qM vX zH yu Qe qL zD zG vU slV jE jG yE zU ZJ jB jF aMM aUn Qp vW jD zC jA qJ vV Qu vY vS Zw y9 qK Qs ZK zJ zI jH jR ZH eval zZ AM.valOf qm vO yR del SV.refers zY vQ jU shift ldV V.exact V.jg V.ofValue V.vP V.vL V.cells V.one Value.oneCell' ZI QY jV Q5 ZM ZC Qa Zy jl jI Qi ZL y8 yX Qr calm Qt Zn Qk feeds shrinks Qx looks isT Qf vK Qd putAt jT jc Zm sliceB isEq Qg zk qH zO zn qR zl zm qQ zP zi qP ZW Qw yB Zl QZ inO y7 Zi Mix.vT Mix.Qc QB QX qz qj qW zh qO ZV Qq yg yh ZG Zb yw yO Q8 jW V.fixed V.vC
theorem qj3 {x y:Operand}:XU Tryz.prog .eql 138 x y (.pointer none) (.pointer none)=some (.bool true):=by kernel_rfl
theorem nfresh (c:Ce) (H:List Bk):AFn Tryz.prog 90 [c.v] H fun y H'=>y = .ptr (H.length+2) 0∧H'=H ++ [ceB c,.map [],.cells (Zc c (fun _=>none) 0 (H.length+1))]:=by
 unfold Ce.v Ce.cs
 refine vwc (fn:=Tryz.f90) rfl (vwb ?_)
 simp only [Tryz.f90,ql]
 simp [setCells,qo,Zc,JC,ceB]
def PutM (H:List Bk) (d:Nat) (c h:Ce) (S:List Sh) (s:Sh) (b m i:Nat) (es:List Sh) (k:Nat→Option Nat) (J:Nat→Nat→Prop) (F:Fr) (H3:List Bk):Prop :=
 ∃ b' J',H3[b]? = some (.cells (Zc c (qcc k i (some b')) (S.length+1) m))∧H3[m]? = some (.map (es.map J5))∧H3[H.length]? = some (ceB h)∧H3[H.length+1]? = some (.cells (s.cs.map .v)) ∧
  Nd H3 d (qD c (i:Nat)) (sub' (qD c (i:Nat)) S) b' J'∧(∀ x,J' x→J i x∨H.length≤x)∧Kp (fun x=>x=b) H H3∧H.length≤H3.length ∧
  F = [(0,.v (.ptr b 0)),(4,.v (.ptr H.length 0)),(5,.v (.ptr (H.length+1) 0)),(6,.v (.sc (.int .i64 i)))]
theorem nput:∀ (d:Nat) (c:Ce) (H:List Bk) (S:List Sh) (b:Nat) (I:Nat→Prop) (s:Sh),Nd H d c S b I→yj c=true→(d:Int)+c.l=17→QH c (hm s)=true→yj (hm s)=true→(∀ t∈S,t.id≠s.id)→S.length<1000000 →
  AFn Tryz.prog 94 [.ptr b 0,(hm s).v,s.v] H fun y H'=>Kp I H H'∧∃ I',Nd H' d c (s::S) b I'∧∀ x,I' x→I x∨H.length≤x:=by
 intro d
 induction d with
 | zero=>intro c H S b I s h; exact h.elim
 | succ d ih =>
  intro c H S b I s hN hc hd hu hr hid hlen
  obtain ⟨m,es,k,J,h1,h2,h3,h4,h5,h6⟩:=id hN
  generalize hh:hm s=h at *
  unfold Ce.v Ce.cs Sh.v Sh.cs
  unfold Zc at h1
  have w1:IntKind.i64.wrap ((S.length:Int)+1)=(S.length:Int)+1:=by rw [wrap_i64] <;> omega
  have h1':=fun L=>hget (L:=L) h1
  refine vwc (fn:=Tryz.f94) rfl ?_
  simp only [Tryz.f94,ql]
  refine AW.seq (vwa [(7,6,[0,6,7])] ?_)
  simp
  refine AW.seq (vwa [(7,6,[0,6,7])] ?_)
  simp [h1',w1]
  have hbl:=(List.getElem?_eq_some_iff.1 h1).1
  have hml:=(List.getElem?_eq_some_iff.1 h2).1
  have hbm:b≠m:=by rintro rfl; rw [h1] at h2; cases h2
  obtain ⟨H1,e1,g1,g2,g3,g4,g5,g6⟩:∃ H1,H1=setCells (H ++ [Bk.cells [.v (.sc (.int .i64 h.l)),.v (.sc (.int .i64 h.x)),.v (.sc (.int .i64 h.y))],Bk.cells [.v (.sc (.int .i64 s.id)),.v (.sc (.int .i64 s.box.x0)),.v (.sc (.int .i64 s.box.y0)),.v (.sc (.int .i64 s.box.x1)),.v (.sc (.int .i64 s.box.y1)),.v (.sc (.int .i64 s.lab))]]) b 7 [.sc (.int .i64 (S.length+1))] ∧
    H1[b]? = some (.cells [.v (.sc (.int .i64 c.l)),.v (.sc (.int .i64 c.x)),.v (.sc (.int .i64 c.y)),.v (JC (k 0)),.v (JC (k 1)),.v (JC (k 2)),.v (JC (k 3)),.v (.sc (.int .i64 (S.length+1))),.v (.map m)])∧H1[m]? = some (.map (es.map J5)) ∧
    H1[H.length]? = some (.cells [.v (.sc (.int .i64 h.l)),.v (.sc (.int .i64 h.x)),.v (.sc (.int .i64 h.y))])∧H1[H.length+1]? = some (.cells [.v (.sc (.int .i64 s.id)),.v (.sc (.int .i64 s.box.x0)),.v (.sc (.int .i64 s.box.y0)),.v (.sc (.int .i64 s.box.x1)),.v (.sc (.int .i64 s.box.y1)),.v (.sc (.int .i64 s.lab))]) ∧
    H1.length=H.length+2∧Kp (fun x=>x=b) H H1:=by
   refine ⟨_,rfl,?_⟩
   simp only [setCells,zF (h1' _)]
   refine ⟨?_,?_,?_,?_,by simp,(Kp.refl.app).set rfl⟩
   ·rw [List.getElem?_set_self (by simp; omega)]
    simp
   ·rw [List.getElem?_set_ne hbm]
    exact hget h2
   ·rw [List.getElem?_set_ne (by omega)]
    simp
   ·rw [List.getElem?_set_ne (by omega)]
    simp
  rw [← e1]
  clear e1
  refine AW.seq (vwa [(7,6,[0,6,7])] ?_)
  by_cases hch:c=h
  ·have hf:XB s.id es 0=none:=qfh fun e he=>hid e (List.mem_filter.1 (h3.mem_iff.1 he)).1
   simp [g1,g2,g3,g4,qpi,qph,hch,KL,hf]
   have hk2:Kp (fun x=>x=b∨x=m) H ((Zk m H1).set m (.map (es.map J5 ++ [J5 s]))):=(g6.weak fun x hx => .inl hx).killed (.inr rfl)
   refine ⟨hk2.weak fun x hx=>(h4 x).2 (hx.imp id .inl),I,?_,fun x hx => .inl hx⟩
   rw [← hch]
   refine Nd.here ?_ ?_ h3 h4 h5 h6 hk2 (hh.trans hch.symm)
   ·rw [List.getElem?_set_ne (Ne.symm hbm)]
    refine qeu g1 fun _ _ _ e=>by cases e
   ·rw [List.getElem?_set_self (by rw [Wn,g5]; omega)]
    simp [J5,Sh.v,Sh.cs]
  ·have hlt:=qhW hu hch
   have hcr:=yI.1 hc
   have hhr:=yI.1 hr
   obtain ⟨i,hi,hw⟩:=qeH c h
   have hW:=cWay c h hr hcr.1.1 hlt
   rw [hw] at hW
   unfold Ce.v Ce.cs at hW
   have hC:=cChild c (i:Nat)
   rw [qkl hc (by omega),if_pos (by omega)] at hC
   have hccr:=Y7 (c:=c) (i:=(i:Nat)) hc (by omega) (by omega)
   have hccl:(qD c (i:Nat)).l=c.l+1:=rfl
   have hucc:QH (qD c (i:Nat)) h=true:=(JK hi hu hch).2 hw
   simp [g1,g3,qpi,qph,hch]
   refine AW.seq (vwa [(7,6,[0,6,7])] ?_)
   simp [g1,g3]
   refine qc.pure hW rfl rfl ?_
   simp [g1,g3]
   refine AW.mid (PutM H d c h S s b m i es k J) (vwa [(7,6,[0,6,7])] ?_) ?_
   ·cases hki:k i with
    | none =>
     generalize hcc:qD c (i:Nat)=cc at *
     have hF:=nfresh cc (H1 ++ [ceB cc])
     have hb1:b<H1.length:=(List.getElem?_eq_some_iff.1 g1).1
     have hm1:m<H1.length:=(List.getElem?_eq_some_iff.1 g2).1
     have hSi:sub' cc S = []:=by
      rcases h6 i hi with ⟨e,_,_⟩ | ⟨_,b2,e,_⟩
      ·rw [hcc] at e; exact e
      ·rw [hki] at e; cases e
     have hPut:PutM H d c h S s b m i es k J [(0,.v (.ptr b 0)),(4,.v (.ptr H.length 0)),(5,.v (.ptr (H.length+1) 0)),(6,.v (.sc (.int .i64 i)))]
       ((H1 ++ [ceB cc,ceB cc,.map [],.cells (Zc cc (fun _=>none) 0 (H1.length+1+1))]).set b (.cells (Zc c (qcc k i (some (H1.length+1+2))) (S.length+1) m))):=by
      refine ⟨H1.length+1+2,fun x=>x=H1.length+1+2∨x=H1.length+1+1,?_,?_,?_,?_,?_,fun x hx => .inr ?_,(g6.app).set rfl,by simp; omega,rfl⟩
      ·rw [List.getElem?_set_self (by simp; omega)]
      ·rw [List.getElem?_set_ne hbm]
       exact hget g2
      ·rw [List.getElem?_set_ne (by omega)]
       exact hget g3
      ·rw [List.getElem?_set_ne (by omega)]
       exact hget (by simpa [Sh.cs] using g4)
      ·rw [hcc,hSi]
       refine Nd.fresh (by omega) ?_ ?_ (by omega)
       ·rw [List.getElem?_set_ne (by omega)]
        rw [List.getElem?_append_right (by omega),show H1.length+1+2 - H1.length=3 by omega]
        rfl
       ·rw [List.getElem?_set_ne (by omega)]
        rw [List.getElem?_append_right (by omega),show H1.length+1+1 - H1.length=2 by omega]
        rfl
      ·omega
     unfold ceB Ce.v Ce.cs at hF
     unfold Ce.v Ce.cs at hC
     have kS:=fun (x:Bk) (L:List Bk)=>Z4 (H:=H1 ++ [x]) (L:=L)
     simp only [List.append_assoc,List.cons_append,List.nil_append] at kS
     rcases (show i=0∨i=1∨i=2∨i=3 by omega) with rfl | rfl | rfl | rfl
     all_goals
      simp [g1,hki,JC,qj3]
      refine qc.pure hC rfl rfl ?_
      simp [setCells,qo]
      refine qc.of hF ?_
      rintro y H2 ⟨rfl,rfl⟩
      simp [hget g1,kS]
      simp only [setCells,zF (hget g1)]
      refine ⟨_,?_,hPut⟩
      simp [qz,qj,qm]
    | some b' =>
     obtain ⟨q1,q2,q3⟩:∃ J',Nd H d (qD c (i:Nat)) (sub' (qD c (i:Nat)) S) b' J'∧J'=J i:=by
      rcases h6 i hi with ⟨_,e,_⟩ | ⟨_,b2,e,hN2⟩
      ·rw [hki] at e; cases e
      ·rw [hki] at e
       cases e
       exact ⟨_,hN2,rfl⟩
     have hup:qcc k i (some b')=k:=by
      funext j
      unfold qcc
      split
      ·rename_i e
       rw [e,hki]
      ·rfl
     have hPut:PutM H d c h S s b m i es k J [(0,.v (.ptr b 0)),(4,.v (.ptr H.length 0)),(5,.v (.ptr (H.length+1) 0)),(6,.v (.sc (.int .i64 i)))] H1:=⟨b',J i,by rw [hup]; simpa [Zc] using g1,g2,g3,by simpa [Sh.cs] using g4,Nd.keep g6 (q3▸q2) fun x hx e=>(h5 i hi).1 (e▸hx),fun x hx => .inl hx,g6,by omega,rfl⟩
     rcases (show i=0∨i=1∨i=2∨i=3 by omega) with rfl | rfl | rfl | rfl
     all_goals
      simp [g1,hki,JC]
      refine ⟨_,?_,hPut⟩
      simp [qz,qj,qm]
   ·rintro F H3 ⟨b',J',m1,m2,m3,m4,m5,m6,m7,m8,rfl⟩
    refine vwa [(7,6,[0,6,7])] ?_
    have hidS:∀ t∈sub' (qD c (i:Nat)) S,t.id≠s.id:=fun t ht=>hid t (List.mem_filter.1 ht).1
    have hlS:(sub' (qD c (i:Nat)) S).length<1000000:=Nat.lt_of_le_of_lt (List.length_filter_le _ _) hlen
    have hR:=ih (qD c (i:Nat)) H3 _ b' J' s m5 hccr (by omega) (by rw [hh]; exact hucc) (by rw [hh]; exact hr) hidS hlS
    rw [hh] at hR
    unfold Ce.v Ce.cs Sh.v Sh.cs at hR
    unfold ceB at m3
    unfold Sh.cs at m4
    have hb':qcc k i (some b') i=some b':=YH
    have fin:∀ H4,Kp J' H3 H4→∀ I4,Nd H4 d (qD c (i:Nat)) (s::sub' (qD c (i:Nat)) S) b' I4→(∀ x,I4 x→J' x∨H3.length≤x)→Kp I H H4∧∃ I',Nd H4 (d+1) c (s::S) b I'∧∀ x,I' x→I x∨H.length≤x:=by
     intro H4 k4 I4 n4 l4
     have nb:¬ J' b:=fun e=>(m6 b e).elim (h5 i hi).1 (by omega)
     have nm:¬ J' m:=fun e=>(m6 m e).elim (h5 i hi).2.1 (by omega)
     have kall:Kp (fun x=>x=b∨J i x) H H4:=by
      refine Kp.new (Kp.trans (m7.weak fun x hx => .inl (.inl hx)) (k4.weak fun x hx => ?_))
      rcases m6 x hx with h | h
      ·exact .inl (.inr h)
      ·exact .inr h
     refine ⟨kall.weak fun x hx=>(h4 x).2 ?_,Nd.below (k4.cells nb m1) (k4.map nm m2) h3 h4 h5 h6 hbl hml kall hi (by rw [hh]; exact hu) (by rw [hh]; exact hch) (by rw [hh]; exact hw) n4 fun x hx => ?_⟩
     ·rcases hx with rfl | hx
      ·exact .inl rfl
      ·exact .inr (.inr ⟨i,hi,hx⟩)
     ·rcases l4 x hx with h | h
      ·exact m6 x h
      ·exact .inr (by omega)
    clear h6 h5 h4
    unfold Zc at m1
    rcases (show i=0∨i=1∨i=2∨i=3 by omega) with rfl | rfl | rfl | rfl
    all_goals
     simp [m1,m3,m4,JC,hb']
     refine qc.of hR ?_
     rintro y H4 ⟨k4,I4,n4,l4⟩
     simp
     exact fin H4 k4 I4 n4 l4
theorem Nd.cell {H:List Bk} {d:Nat} {c:Ce} {S:List Sh} {b:Nat} {I:Nat→Prop} (h:Nd H d c S b I):∃ k m,H[b]? = some (.cells (Zc c k S.length m)):=by
 cases d with
 | zero=>exact h.elim
 | succ d =>
  obtain ⟨m,es,k,J,h1,_⟩:=h
  exact ⟨k,m,h1⟩
def TakeM (H:List Bk) (d:Nat) (c:Ce) (S:List Sh) (s:Sh) (b m i b':Nat) (es:List Sh) (k:Nat→Option Nat) (J:Nat→Nat→Prop) (F:Fr) (H3:List Bk):Prop :=
 ∃ J',H3[b]? = some (.cells (Zc c k (less S s.id).length m))∧H3[m]? = some (.map (es.map J5)) ∧ 
  Nd H3 d (qD c (i:Nat)) (less (sub' (qD c (i:Nat)) S) s.id) b' J'∧(∀ x,J' x→J i x)∧Kp (fun x=>x=b∨J i x) H H3 ∧
  F = [(0,.v (.ptr b 0)),(6,.v (.sc (.int .i64 i)))]
theorem ntake:∀ (d:Nat) (c:Ce) (H:List Bk) (S:List Sh) (b:Nat) (I:Nat→Prop) (s:Sh),Nd H d c S b I→yj c=true→(d:Int)+c.l=17→QH c (hm s)=true→yj (hm s)=true→s∈S→(S.map Sh.id).Nodup→S.length<1000000 →
  AFn Tryz.prog 140 [.ptr b 0,(hm s).v,.sc (.int .i64 s.id)] H fun y H'=>Kp I H H'∧∃ I',Nd H' d c (less S s.id) b I'∧∀ x,I' x→I x:=by
 intro d
 induction d with
 | zero=>intro c H S b I s h; exact h.elim
 | succ d ih =>
  intro c H S b I s hN hc hd hu hr hS hnd hlen
  obtain ⟨m,es,k,J,h1,h2,h3,h4,h5,h6⟩:=id hN
  have hll:=less_len hS hnd
  generalize hh:hm s=h at *
  unfold Ce.v Ce.cs
  unfold Zc at h1
  have w1:IntKind.i64.wrap ((S.length:Int) - 1)=((less S s.id).length:Int):=by rw [wrap_i64] <;> omega
  have h1':=fun L=>hget (L:=L) h1
  have hbl:=(List.getElem?_eq_some_iff.1 h1).1
  have hml:=(List.getElem?_eq_some_iff.1 h2).1
  have hbm:b≠m:=by rintro rfl; rw [h1] at h2; cases h2
  refine vwc (fn:=Tryz.f140) rfl ?_
  simp only [Tryz.f140,ql]
  refine AW.seq (vwb ?_)
  simp
  refine AW.seq (vwb ?_)
  simp [h1',w1]
  obtain ⟨H1,e1,g1,g2,g3,g5,g6⟩:∃ H1,H1=setCells (H ++ [Bk.cells [.v (.sc (.int .i64 h.l)),.v (.sc (.int .i64 h.x)),.v (.sc (.int .i64 h.y))]]) b 7 [.sc (.int .i64 ((less S s.id).length:Nat))] ∧
    H1[b]? = some (.cells [.v (.sc (.int .i64 c.l)),.v (.sc (.int .i64 c.x)),.v (.sc (.int .i64 c.y)),.v (JC (k 0)),.v (JC (k 1)),.v (JC (k 2)),.v (JC (k 3)),.v (.sc (.int .i64 ((less S s.id).length:Nat))),.v (.map m)])∧H1[m]? = some (.map (es.map J5)) ∧
    H1[H.length]? = some (.cells [.v (.sc (.int .i64 h.l)),.v (.sc (.int .i64 h.x)),.v (.sc (.int .i64 h.y))]) ∧
    H1.length=H.length+1∧Kp (fun x=>x=b) H H1:=by
   refine ⟨_,rfl,?_⟩
   simp only [setCells,zF (h1' _)]
   refine ⟨?_,?_,?_,by simp,(Kp.refl.app).set rfl⟩
   ·rw [List.getElem?_set_self (by simp; omega)]
    simp
   ·rw [List.getElem?_set_ne hbm]
    exact hget h2
   ·rw [List.getElem?_set_ne (by omega)]
    simp
  rw [← e1]
  clear e1
  refine AW.seq (vwb ?_)
  by_cases hch:c=h
  ·have hes:s∈es:=h3.mem_iff.2 (List.mem_filter.2 ⟨hS,by simp [hh,hch]⟩)
   have hen:(es.map Sh.id).Nodup:=((h3.map Sh.id).nodup_iff).2 (qcO hnd)
   obtain ⟨j,hf,he⟩:=qdi (i:=0) hes hen
   simp [g1,g2,g3,qpi,qph,hch,KL,hf]
   have hk2:Kp (fun x=>x=b∨x=m) H ((Zk m H1).set m (.map ((es.map J5).eraseIdx j))):=(g6.weak fun x hx => .inl hx).killed (.inr rfl)
   refine ⟨hk2.weak fun x hx=>(h4 x).2 (hx.imp id .inl),I,?_,fun x hx=>hx⟩
   rw [← hch]
   refine Nd.hence (es':=es.eraseIdx j) ?_ ?_ he h3 h4 h5 h6 hk2 (hh.trans hch.symm) hS hnd
   ·rw [List.getElem?_set_ne (Ne.symm hbm)]
    refine qeu g1 fun _ _ _ e=>by cases e
   ·rw [List.getElem?_set_self (by rw [Wn,g5]; omega)]
    have em:∀ (l:List Sh) (j:Nat),(l.eraseIdx j).map J5=(l.map J5).eraseIdx j:=by
     intro l
     induction l with
     | nil=>simp
     | cons a l ih=>intro j; cases j <;> simp [ih]
    rw [em]
  ·have hlt:=qhW hu hch
   have hcr:=yI.1 hc
   have hhr:=yI.1 hr
   obtain ⟨i,hi,hw⟩:=qeH c h
   have hW:=cWay c h hr hcr.1.1 hlt
   rw [hw] at hW
   unfold Ce.v Ce.cs at hW
   have hccr:=Y7 (c:=c) (i:=(i:Nat)) hc (by omega) (by omega)
   have hccl:(qD c (i:Nat)).l=c.l+1:=rfl
   have hucc:QH (qD c (i:Nat)) h=true:=(JK hi hu hch).2 hw
   have hsi:s∈sub' (qD c (i:Nat)) S:=List.mem_filter.2 ⟨hS,by rw [hh]; exact hucc⟩
   obtain ⟨b',hki,hNi⟩:∃ b',k i=some b'∧Nd H d (qD c (i:Nat)) (sub' (qD c (i:Nat)) S) b' (J i):=by
    rcases h6 i hi with ⟨e,_⟩ | ⟨_,b2,e,hN2⟩
    ·rw [e] at hsi; cases hsi
    ·exact ⟨b2,e,hN2⟩
   have hNi1:=Nd.keep g6 hNi fun x hx e=>(h5 i hi).1 (e▸hx)
   have hR:=ih (qD c (i:Nat)) H1 _ b' (J i) s hNi1 hccr (by omega) (by rw [hh]; exact hucc) (by rw [hh]; exact hr) hsi (qcO hnd) (Nat.lt_of_le_of_lt (List.length_filter_le _ _) hlen)
   rw [hh] at hR
   unfold Ce.v Ce.cs at hR
   simp [g1,g3,qpi,qph,hch]
   refine AW.seq (vwb ?_)
   simp [g1,g3]
   refine qc.pure hW rfl rfl ?_
   simp [g1,g3]
   have hMid:∀ H4,Kp (J i) H1 H4→∀ I4,Nd H4 d (qD c (i:Nat)) (less (sub' (qD c (i:Nat)) S) s.id) b' I4→(∀ x,I4 x→J i x)→TakeM H d c S s b m i b' es k J [(0,.v (.ptr b 0)),(6,.v (.sc (.int .i64 i)))] H4:=by
    intro H4 k4 I4 n4 l4
    exact ⟨I4,k4.cells (h5 i hi).1 (by simpa [Zc] using g1),k4.map (h5 i hi).2.1 g2,n4,l4,(g6.weak fun x hx => .inl hx).trans (k4.weak fun x hx => .inr hx),rfl⟩
   have hup:qcc k i (some b')=k:=by
    funext j
    unfold qcc
    split
    ·rename_i e
     rw [e,hki]
    ·rfl
   have hB:∀ H3 J',H3[b]? = some (.cells (Zc c k (less S s.id).length m))→H3[m]? = some (.map (es.map J5))→Nd H3 d (qD c (i:Nat)) (less (sub' (qD c (i:Nat)) S) s.id) b' J'→(∀ x,J' x→J i x)→Kp (fun x=>x=b∨J i x) H H3→less (sub' (qD c (i:Nat)) S) s.id ≠ [] →
     Kp I H H3∧∃ I',Nd H3 (d+1) c (less S s.id) b I'∧∀ x,I' x→I x:=by
    intro H3 J' m1 m2 m3 m4 m5 m6
    refine ⟨m5.weak fun x hx=>(h4 x).2 ?_,Nd.off (i:=i) (ki:=some b') (by rw [hup]; exact m1) m2 h3 h4 h5 h6 m5 hi (by rw [hh]; exact hu) (by rw [hh]; exact hch) (by rw [hh]; exact hw) hS hnd (.inr ⟨m6,b',rfl,m3⟩) m4⟩
    rcases hx with rfl | hx
    ·exact .inl rfl
    ·exact .inr (.inr ⟨i,hi,hx⟩)
   have hA:∀ H3 J',H3[b]? = some (.cells (Zc c k (less S s.id).length m))→H3[m]? = some (.map (es.map J5))→Nd H3 d (qD c (i:Nat)) (less (sub' (qD c (i:Nat)) S) s.id) b' J'→(∀ x,J' x→J i x)→Kp (fun x=>x=b∨J i x) H H3→less (sub' (qD c (i:Nat)) S) s.id = [] →
     Kp I H (H3.set b (.cells (Zc c (qcc k i none) (less S s.id).length m)))∧∃ I',Nd (H3.set b (.cells (Zc c (qcc k i none) (less S s.id).length m))) (d+1) c (less S s.id) b I'∧∀ x,I' x→I x:=by
    intro H3 J' m1 m2 m3 m4 m5 m6
    have m7:Kp (fun x=>x=b∨J i x) H (H3.set b (.cells (Zc c (qcc k i none) (less S s.id).length m))):=m5.set (.inl rfl)
    refine ⟨m7.weak fun x hx=>(h4 x).2 ?_,Nd.off (i:=i) (ki:=none) (J':=fun _=>False) ?_ ?_ h3 h4 h5 h6 m7 hi (by rw [hh]; exact hu) (by rw [hh]; exact hch) (by rw [hh]; exact hw) hS hnd (.inl ⟨m6,rfl,fun _ h=>h⟩) fun x hx=>hx.elim⟩
    ·rcases hx with rfl | hx
     ·exact .inl rfl
     ·exact .inr (.inr ⟨i,hi,hx⟩)
    ·rw [List.getElem?_set_self (List.getElem?_eq_some_iff.1 m1).1]
    ·rw [List.getElem?_set_ne hbm]
     exact m2
   clear h6 h5 h4
   generalize hRR:TakeM H d c S s b m i b' es k J=R at hMid
   refine AW.seq ?_
   refine vwb ?_
   rcases (show i=0∨i=1∨i=2∨i=3 by omega) with rfl | rfl | rfl | rfl
   all_goals
    simp [g1,g3,hki,JC]
    refine AW.mid R (vwb ?_) ?_
    ·simp [g1,g3,hki,JC]
     refine qc.of hR ?_
     rintro y H4 ⟨k4,I4,n4,l4⟩
     simp
     refine ⟨_,?_,hMid H4 k4 I4 n4 l4⟩
     simp [qz,qj,qm]
    ·intro F H3 hm
     rw [← hRR] at hm
     obtain ⟨J',m1,m2,m3,m4,m5,rfl⟩:=hm
     have hA':=hA H3 J' m1 m2 m3 m4 m5
     have hB':=hB H3 J' m1 m2 m3 m4 m5
     obtain ⟨k',m',c1⟩:=m3.cell
     unfold Zc at m1 c1
     refine vwb ?_
     generalize less (sub' (qD c _) S) s.id=S' at *
     by_cases hz:S' = []
     ·simp [m1,c1,hki,JC,hz]
      simp only [setCells,zF m1]
      exact hA' hz
     ·have hz':¬ S'.length=0:=fun e=>hz (List.length_eq_zero_iff.1 e)
      have hz2:((S'.length:Int)==0)=false:=by simpa using hz
      simp [m1,c1,hki,JC,hz2]
      exact hB' hz
def slS (zs:List Sh):V := .sl zs.length 6 (zs.flatMap Sh.cs)
def shB (s:Sh):Bk := .cells [.v (.sc (.int .i64 s.id)),.v (.sc (.int .i64 s.box.x0)),.v (.sc (.int .i64 s.box.y0)),.v (.sc (.int .i64 s.box.x1)),.v (.sc (.int .i64 s.box.y1)),.v (.sc (.int .i64 s.lab))]
def hf (h:Re→Bool) (S:List Sh):List Sh:=S.filter fun s=>h s.box
structure TrB (H:List Bk) (r b m:Nat) (I:Nat→Prop) (es S:List Sh):Prop where
 cr:H[r]? = some (.cells [.v (.ptr b 0),.v (.map m)])
 cm:H[m]? = some (.map (es.map J5))
 es:es.Perm S
 nd:Nd H 17 VQ S b I
 rm:r≠m
 ir:¬ I r
 im:¬ I m
 ids:(S.map Sh.id).Nodup
 right:∀ s∈S,qd s.box=true
 len:S.length≤500000
def TrS (H:List Bk) (r:Nat) (S:List Sh) (T:Nat→Prop):Prop:=∃ b m I es,TrB H r b m I es S∧∀ x,T x↔x=r∨x=m∨I x
theorem TrS.keep {H H':List Bk} {r:Nat} {S:List Sh} {T U:Nat→Prop} (h:TrS H r S T) (hk:Kp U H H') (hd:∀ x,T x→¬ U x):TrS H' r S T:=by
 obtain ⟨b,m,I,es,h,hT⟩:=h
 exact ⟨b,m,I,es,⟨hk.cells (hd _ ((hT _).2 (.inl rfl))) h.cr,hk.map (hd _ ((hT _).2 (.inr (.inl rfl)))) h.cm,h.es,Nd.keep hk h.nd fun x hx=>hd x ((hT x).2 (.inr (.inr hx))),h.rm,h.ir,h.im,h.ids,h.right,h.len⟩,hT⟩
theorem TrS.Vb {H H':List Bk} {r:Nat} {S:List Sh} {T:Nat→Prop} (h:TrS H r S T) (hk:Kp NoB H H'):TrS H' r S T:=h.keep hk fun _ _=>id
theorem TrS.app {H L:List Bk} {r:Nat} {S:List Sh} {T:Nat→Prop} (h:TrS H r S T):TrS (H++L) r S T:=h.Vb Kp.refl.app
theorem TrS.lt {H:List Bk} {r:Nat} {S:List Sh} {T:Nat→Prop} (h:TrS H r S T):∀ x,T x→x<H.length:=by
 obtain ⟨b,m,I,es,h,hT⟩:=h
 intro x hx
 rcases (hT x).1 hx with rfl | rfl | hx
 ·exact (List.getElem?_eq_some_iff.1 h.cr).1
 ·exact (List.getElem?_eq_some_iff.1 h.cm).1
 ·exact (h.nd.lt x hx).1
theorem YD:yj VQ=true:=by decide
theorem KR {s:Sh} (h:qd s.box=true):QH VQ (hm s)=true:=qhV (qfy h)
theorem qg5 {H:List Bk} {r:Nat} {S:List Sh} {T:Nat→Prop} (h:TrS H r S T):AFn Tryz.prog 86 [.ptr r 0] H fun y H'=>y = .sc (.bool true)∧H'=H:=by
 obtain ⟨b,m,I,es,h,hT⟩:=h
 have hr:=h.cr
 refine vwc (fn:=Tryz.f86) rfl (vwb ?_)
 simp only [Tryz.f86,ql]
 simp [hr]
section
variable {H:List Bk} {r:Nat} {S:List Sh} {T:Nat→Prop}
def fnd (S:List Sh) (k:Int):Option Sh:=S.find? fun s=>decide (s.id=k)
theorem qmO:zeroV Tryz.prog 57=some (.agg [.sc (.int .i64 0),.sc (.int .i64 0),.sc (.int .i64 0),.sc (.int .i64 0),.sc (.int .i64 0),.sc (.int .i64 0)]):=by kernel_rfl
theorem qcY {S es:List Sh} (hn:(S.map Sh.id).Nodup) (hp:es.Perm S) (k:Int):(XB k es 0).map (·.2)=fnd S k:=by
 cases hs:XB k es 0 with
 | none =>
  have:=qjA hs
  refine (List.find?_eq_none.2 fun x hx => ?_).symm
  simpa using this x (hp.mem_iff.2 hx)
 | some p =>
  obtain ⟨j,s⟩:=p
  obtain ⟨h1,h2⟩:=qjB hs
  have hS:=hp.mem_iff.1 h1
  unfold fnd
  cases hf:S.find? fun s=>decide (s.id=k) with
  | none =>
   have:=List.find?_eq_none.1 hf s hS
   simp [h2] at this
  | some t =>
   have ht:=List.mem_of_find?_eq_some hf
   have hk:t.id=k:=by simpa using List.find?_some hf
   have:=qcA hn ht hS (hk.trans h2.symm)
   simp [this]
end
theorem tnew (H:List Bk):AFn Tryz.prog 41 [] H fun y H'=>∃ r T,y = .ptr r 0∧TrS H' r [] T∧Kp NoB H H'∧∀ x,T x→H.length≤x:=by
 have hF:=nfresh VQ H
 unfold Ce.v Ce.cs VQ at hF
 refine vwc (fn:=Tryz.f41) rfl (vwb ?_)
 simp only [Tryz.f41,ql]
 simp
 refine qc.of hF ?_
 rintro y H1 ⟨rfl,rfl⟩
 simp
 refine ⟨fun x=>H.length≤x∧x≤H.length+4∧x≠H.length,⟨H.length+2,H.length+3,fun x=>x=H.length+2∨x=H.length+1,[],⟨by simp,by simp,.nil,Nd.fresh (by decide) (by simp; rfl) (by simp) (by omega),by omega,by omega,by omega,by simp,by simp,by simp⟩,fun x=>by omega⟩,Kp.refl.app,fun x hx=>hx.1⟩
section
variable {H:List Bk} {r:Nat} {S:List Sh} {T:Nat→Prop}
theorem qiD {k:Int} {s:Sh} (h:fnd S k=some s):s∈S∧s.id=k:=⟨List.mem_of_find?_eq_some h,by simpa using List.find?_some h⟩
theorem qmf {k:Int} (h:fnd S k=none):∀ t∈S,t.id≠k:=fun t ht=>by simpa using List.find?_eq_none.1 h t ht
def takeE (S:List Sh) (k:Int):Int:=match fnd S k with
 | some _=>0
 | none=>21
theorem ttake (ht:TrS H r S T) (k:Int):AFn Tryz.prog 93 [.ptr r 0,.sc (.int .i64 k)] H fun y H'=>y = .sc (.int .i64 (takeE S k))∧Kp T H H'∧∃ T',TrS H' r (less S k) T'∧∀ x,T' x→T x:=by
 have hM:=qg5 ht
 obtain ⟨b,m,I,es,hb,hT⟩:=id ht
 have hr:=fun L=>hget (L:=L) hb.cr
 have hmm:=fun L=>hget (L:=L) hb.cm
 have hr0:=hb.cr
 have hm0:=hb.cm
 have hfs:=qcY hb.ids hb.es k
 unfold takeE
 refine vwc (fn:=Tryz.f93) rfl ?_
 simp only [Tryz.f93,ql]
 refine AW.seq (vwb ?_)
 simp
 refine AW.seq (vwb ?_)
 simp
 refine qc.of hM ?_
 rintro y H1 ⟨rfl,rfl⟩
 simp
 refine AW.seq (vwb ?_)
 cases hs:XB k es 0 with
 | none =>
  rw [hs] at hfs
  have hfn:fnd S k=none:=hfs.symm
  rw [hfn,qeT (qmf hfn)]
  simp [hr0,hm0,KL,hs,qmO,setCells,qo]
  refine AW.seq (vwb ?_)
  simp
  exact ⟨Kp.refl.app,T,ht.app,fun x hx=>hx⟩
 | some p =>
  obtain ⟨j,s⟩:=p
  rw [hs] at hfs
  have hfn:fnd S k=some s:=hfs.symm
  obtain ⟨hsS,rfl⟩:=qiD hfn
  rw [hfn]
  have hse:s∈es:=hb.es.mem_iff.2 hsS
  have hen:(es.map Sh.id).Nodup:=((hb.es.map Sh.id).nodup_iff).2 hb.ids
  obtain ⟨j',hj1,hj2⟩:=qdi (i:=0) hse hen
  have hjj:j'=j:=by
   rw [hs] at hj1
   simp at hj1
   exact hj1.symm
  subst hjj
  have hrs:=hb.right s hsS
  have hHo:=cHome s.box
  have hho:qes s.box=(hm s,true):=by simp [qes,hrs,hm]
  rw [hho] at hHo
  unfold Re.v Re.cs Ce.v Ce.cs at hHo
  simp [hr0,hm0,KL,hs,qmO,setCells,qo,Sh.v,Sh.cs]
  refine AW.seq (vwb ?_)
  simp
  refine AW.seq (vwb ?_)
  simp
  refine qc.pure hHo rfl rfl ?_
  simp [setCells,qo]
  refine AW.seq (vwb ?_)
  simp [hr,hmm,KL,hs]
  have hrl:=(List.getElem?_eq_some_iff.1 hr0).1
  have hml:=(List.getElem?_eq_some_iff.1 hm0).1
  have em:∀ (l:List Sh) (j:Nat),(l.map J5).eraseIdx j=(l.eraseIdx j).map J5:=by
   intro l
   induction l with
   | nil=>simp
   | cons a l ih=>intro j; cases j <;> simp [ih]
  obtain ⟨H2,eH,p1,p2,p3,p4,p5⟩:∃ H2,H2=(Zk m (H1 ++ [Bk.cells [.v (.sc (.int .i64 s.id)),.v (.sc (.int .i64 s.box.x0)),.v (.sc (.int .i64 s.box.y0)),.v (.sc (.int .i64 s.box.x1)),.v (.sc (.int .i64 s.box.y1)),.v (.sc (.int .i64 s.lab))],Bk.cells [.v (.sc (.int .i64 (hm s).l)),.v (.sc (.int .i64 (hm s).x)),.v (.sc (.int .i64 (hm s).y))]])).set m (Bk.map ((List.map J5 es).eraseIdx j')) ∧
    H2[r]? = some (.cells [.v (.ptr b 0),.v (.map m)])∧H2[m]? = some (.map ((es.eraseIdx j').map J5))∧H2[H1.length+1]? = some (Bk.cells [.v (.sc (.int .i64 (hm s).l)),.v (.sc (.int .i64 (hm s).x)),.v (.sc (.int .i64 (hm s).y))])∧Kp (fun x=>x=m) H1 H2∧H1.length≤H2.length:=by
   refine ⟨_,rfl,?_,?_,?_,(Kp.refl.app).killed rfl,by simp [Zk]⟩
   ·rw [List.getElem?_set_ne (Ne.symm hb.rm)]
    exact qeu (hr _) fun _ _ _ e=>by cases e
   ·rw [List.getElem?_set_self (by rw [Wn]; simp; omega),em]
   ·rw [List.getElem?_set_ne (by omega)]
    exact qeu (by simp) fun _ _ _ e=>by cases e
  rw [← eH]
  have hN:=ntake 17 VQ H2 S b I s (Nd.keep p4 hb.nd fun x hx e=>hb.im (e▸hx)) YD (by decide) (KR hrs) (qfy hrs) hsS hb.ids (by have:=hb.len; omega)
  unfold Ce.v Ce.cs at hN
  refine AW.seq (vwb ?_)
  simp [p1,p3]
  refine qc.of hN ?_
  rintro y H3 ⟨k3,I',n3,l3⟩
  simp
  refine vwb ?_
  simp
  refine ⟨?_,fun x=>x=r∨x=m∨I' x,⟨b,m,I',es.eraseIdx j',⟨k3.cells hb.ir p1,k3.map hb.im p2,?_,n3,hb.rm,fun e=>hb.ir (l3 _ e),fun e=>hb.im (l3 _ e),qcO hb.ids,fun t ht=>hb.right t (List.mem_filter.1 ht).1,Nat.le_trans (List.length_filter_le _ _) hb.len⟩,fun x=>Iff.rfl⟩,?_⟩
  ·refine (p4.weak fun x hx=>(hT x).2 (.inr (.inl hx))).trans (k3.weak fun x hx=>(hT x).2 (.inr (.inr hx)))
  ·rw [hj2]
   exact hb.es.filter _
  ·intro x hx
   exact (hT x).2 (hx.imp id (Or.imp id (l3 x)))
def putE (s:Sh):Int:=if qd s.box then 0 else 1
def Kz (S:List Sh) (s:Sh):List Sh:=if qd s.box then s::less S s.id else S
theorem tput (ht:TrS H r S T) (s:Sh) (hlen:S.length<500000):AFn Tryz.prog 43 [.ptr r 0,s.v] H fun y H'=>y = .sc (.int .i64 (putE s))∧Kp T H H'∧∃ T',TrS H' r (Kz S s) T'∧∀ x,T' x→T x∨H.length≤x:=by
 have hM:=fun L=>qg5 (ht.app (L:=L))
 have hHo:=cHome s.box
 unfold putE Kz
 unfold Re.v Re.cs Ce.v Ce.cs at hHo
 unfold Sh.v Sh.cs
 refine vwc (fn:=Tryz.f43) rfl ?_
 simp only [Tryz.f43,ql]
 refine AW.seq (vwb ?_)
 simp
 refine AW.seq (vwb ?_)
 simp
 refine qc.of (hM _) ?_
 rintro y H1 ⟨rfl,rfl⟩
 simp
 refine AW.seq (vwb ?_)
 simp
 refine qc.pure hHo rfl rfl ?_
 simp [setCells,qo]
 refine AW.seq (vwb ?_)
 cases hrs:qd s.box with
 | false =>
  have hho:qes s.box=(.zero,false):=by simp [qes,hrs]
  simp [hho]
  exact ⟨Kp.refl.app,T,ht.app,fun x hx => .inl hx⟩
 | true =>
  have hho:qes s.box=(hm s,true):=by simp [qes,hrs,hm]
  have hTk:=ttake (ht.app (L := [shB s,ceB (hm s)])) s.id
  unfold shB ceB at hTk
  simp [hho]
  refine AW.seq (vwb ?_)
  simp
  refine qc.of hTk ?_
  rintro y H2 ⟨rfl,k2,T',t2,l2⟩
  have hlt:=ht.lt
  have b1:¬ T H.length:=fun e=>by have:=hlt _ e; omega
  have b2:¬ T (H.length+1):=fun e=>by have:=hlt _ e; omega
  have p1:=k2.cells b1 (by simp; rfl)
  have p2:=k2.cells b2 (by simp; rfl)
  obtain ⟨b,m,I,es,hb,hT⟩:=id t2
  have hr0:=hb.cr
  have hm0:=hb.cm
  have hidn:∀ t∈less S s.id,t.id≠s.id:=fun t ht=>by simpa using (List.mem_filter.1 ht).2
  have hsn:XB s.id es 0=none:=qfh fun e he=>hidn e (hb.es.mem_iff.1 he)
  simp
  refine AW.seq (vwb ?_)
  simp [hr0,hm0,p1,p2,KL,hsn]
  have hml:=(List.getElem?_eq_some_iff.1 hm0).1
  have hrl:=(List.getElem?_eq_some_iff.1 hr0).1
  obtain ⟨H3,eH,q1,q2,q3,q4,q5⟩:∃ H3,H3=(Zk m H2).set m (Bk.map (List.map J5 es ++ [(Value.int IntKind.i64 s.id,V.agg [.sc (.int .i64 s.id),.sc (.int .i64 s.box.x0),.sc (.int .i64 s.box.y0),.sc (.int .i64 s.box.x1),.sc (.int .i64 s.box.y1),.sc (.int .i64 s.lab)])])) ∧
    H3[r]? = some (.cells [.v (.ptr b 0),.v (.map m)])∧H3[m]? = some (.map ((es ++ [s]).map J5))∧H3[H.length]? = some (Bk.cells [.v (.sc (.int .i64 s.id)),.v (.sc (.int .i64 s.box.x0)),.v (.sc (.int .i64 s.box.y0)),.v (.sc (.int .i64 s.box.x1)),.v (.sc (.int .i64 s.box.y1)),.v (.sc (.int .i64 s.lab))]) ∧
    H3[H.length+1]? = some (Bk.cells [.v (.sc (.int .i64 (hm s).l)),.v (.sc (.int .i64 (hm s).x)),.v (.sc (.int .i64 (hm s).y))])∧Kp (fun x=>x=m) H2 H3:=by
   have hmT:T m:=l2 m ((hT m).2 (.inr (.inl rfl)))
   have hml':=hlt m hmT
   refine ⟨_,rfl,?_,?_,?_,?_,Kp.refl.killed rfl⟩
   ·rw [List.getElem?_set_ne (Ne.symm hb.rm)]
    exact qeu hr0 fun _ _ _ e=>by cases e
   ·rw [List.getElem?_set_self (by rw [Wn]; exact hml)]
    simp [J5,Sh.v,Sh.cs]
   ·rw [List.getElem?_set_ne (by omega)]
    exact qeu p1 fun _ _ _ e=>by cases e
   ·rw [List.getElem?_set_ne (by omega)]
    exact qeu p2 fun _ _ _ e=>by cases e
  rw [← eH]
  have hll:(less S s.id).length≤S.length:=List.length_filter_le _ _
  have hN:=nput 17 VQ H3 (less S s.id) b I s (Nd.keep q5 hb.nd fun x hx e=>hb.im (e▸hx)) YD (by decide) (KR hrs) (qfy hrs) hidn (by omega)
  unfold Ce.v Ce.cs Sh.v Sh.cs at hN
  refine AW.seq (vwb ?_)
  simp [q1,q3,q4]
  refine qc.of hN ?_
  rintro y H4 ⟨k4,I',n4,l4⟩
  simp
  refine vwb ?_
  simp
  have hTI:∀ x,I x→T x:=fun x hx=>l2 x ((hT x).2 (.inr (.inr hx)))
  have hTm:T m:=l2 m ((hT m).2 (.inr (.inl rfl)))
  have hTr:T r:=l2 r ((hT r).2 (.inl rfl))
  have h23:H.length≤H3.length:=by
   have:=(List.getElem?_eq_some_iff.1 q3).1
   omega
  refine ⟨?_,fun x=>x=r∨x=m∨I' x,⟨b,m,I',es ++ [s],⟨k4.cells hb.ir q1,k4.map hb.im q2,?_,n4,hb.rm,fun e => ?_,fun e => ?_,?_,?_,?_⟩,fun x=>Iff.rfl⟩,?_⟩
  ·refine Kp.trans (Kp.app (L := []) Kp.refl) ?_
   rw [List.append_nil]
   refine Kp.trans ?_ (k4.weak hTI)
   refine Kp.trans ?_ (q5.weak fun x (hx:x=m)=>hx▸hTm)
   exact Kp.trans (Kp.refl.app) k2
  ·exact List.perm_append_comm.trans (hb.es.cons s)
  ·rcases l4 _ e with h | h
   ·exact hb.ir h
   ·have:=hlt r hTr
    omega
  ·rcases l4 _ e with h | h
   ·exact hb.im h
   ·have:=hlt m hTm
    omega
  ·rw [List.map_cons,List.nodup_cons]
   exact ⟨fun e=>by
    obtain ⟨t,ht1,ht2⟩:=List.mem_map.1 e
    exact hidn t ht1 ht2,hb.ids⟩
  ·intro t ht
   rcases List.mem_cons.1 ht with rfl | ht
   ·exact hrs
   ·exact hb.right t ht
  ·rw [List.length_cons]
   omega
  ·rintro x (rfl | rfl | hx)
   ·exact .inl hTr
   ·exact .inl hTm
   ·rcases l4 x hx with h | h
    ·exact .inl (hTI x h)
    ·exact .inr (by omega)
end
theorem Xo {xs:List Sh} {k:Nat} (h:k<xs.length):AM.rowAt 6 (xs.flatMap Sh.cs) (k:Int) = [.sc (.int .i64 xs[k].id),.sc (.int .i64 xs[k].box.x0),.sc (.int .i64 xs[k].box.y0),.sc (.int .i64 xs[k].box.x1),.sc (.int .i64 xs[k].box.y1),.sc (.int .i64 xs[k].lab)]:=WA (enc:=Sh.cs) (sz:=6) (fun _=>rfl) h
def piS (s:Sh) (a:List Sh×Bool) (x:Sh):List Sh×Bool:=if (!a.2&&decide (s.id<x.id))=true then (a.1 ++ [s] ++ [x],true) else (a.1 ++ [x],a.2)
def piD (s:Sh) (zs:List Sh):List Sh×Bool:=zs.foldl (piS s) ([],false)
def y7 (xs:List Sh) (s:Sh):List Sh:=if (piD s (less xs s.id)).2=true then (piD s (less xs s.id)).1 else (piD s (less xs s.id)).1 ++ [s]
end Go.Proofs.YtnconfggojpkcaaGreat
namespace Go.Proofs.YtnconfggojpkcaaGreat
open Go.RowKit Go.ChangeShapes Go.WideShapes AM
section
variable {H:Type} {enc:TypeId×Value→H} {w:World} {base:Nat} {held:Bool} {r:Reach} {b0:Nat} {v:Value} {d:DataW H} {p:List MemPlace}
namespace Sh
def vals (a:Sh):List Value := [.int .i64 a.id,.int .i64 a.box.x0,.int .i64 a.box.y0,.int .i64 a.box.x1,.int .i64 a.box.y1,.int .i64 a.lab]
end Sh
end
end Go.Proofs.YtnconfggojpkcaaGreat
namespace Go.Proofs.YtnconfggojpkcaaGreat
open Go.RowKit AM
attribute [local simp] zQ qU jL zT zq zR zS zo jM zu qV Z8 Qm jC Ql yc ZE vZ slF qG Qo zK yx zA shares jh yt ze Qz QI qY ZF qZ qM vX zH yu Qe qL zD zG vU slV jE jG yE zU ZJ jB jF aMM aUn Qp vW jD zC jA qJ vV Qu vY vS Zw y9 qK Qs ZK zJ zI jH jR ZH eval zZ AM.valOf qm vO yR del SV.refers zY vQ jU shift ldV V.exact V.jg V.ofValue V.vP V.vL V.cells V.one Value.oneCell' ZI QY jV Q5 ZM ZC Qa Zy jl jI Qi ZL y8 yX Qr calm Qt Zn Qk feeds shrinks Qx looks isT Qf vK Qd putAt jT jc Zm sliceB isEq Qg zk qH zO zn qR zl zm qQ zP zi qP ZW Qw yB Zl QZ inO y7 Zi Mix.vT Mix.Qc QB QX qz qj qW zh qO ZV Qq yg yh ZG Zb yw yO Q8 jW V.fixed V.vC
attribute [local simp] vE je yL vH jQ vF vG jP yM vk jN V5 Ja yF QT Jb z0 JL VK Vo VU
def grB:Re:=⟨0,0,65535,65535⟩
def Zx:Gr:=⟨31,16,grB,false,9⟩
theorem wAll':PFn Tryz.prog 14 [] (.agg Zx.cs):=by
 refine vwc (fn:=Tryz.f14) rfl (vwb ?_)
 simp only [Tryz.f14,ql]
 simp [setCells,qo,Zx,grB,Gr.cs]
def exL:List Ru := [⟨4,255,0,7,255,[grB],14⟩]
theorem wEx:PFn Tryz.prog 44 [] (slU exL):=by
 refine vwc (fn:=Tryz.f44) rfl (vwb ?_)
 simp only [Tryz.f44,ql]
 simp [setCells,qo]
 rfl
theorem qpn:exL.all qI=true:=by decide
def tbR (l:List Ru):Bool:=decide (l.length≤32)&&l.all qI
structure Z9 (H:List Bk) (l:List Ru) (S:List Pr) (C:List Sh) (r c t m:Nat) (Tp Tc:Nat→Prop):Prop where
 tb:∃ es,Tab H t m l es∧VO l es
 tp:TrP H r 2 S Tp
 tc:TrS H c C Tc
 pm:∀ x,Tp x→x≠m
 cm:∀ x,Tc x→x≠m
theorem Z9.kept {H H':List Bk} {l:List Ru} {S:List Pr} {C:List Sh} {r c t m:Nat} {Tp Tc:Nat→Prop} (h:Z9 H l S C r c t m Tp Tc) (k:Kept l t m H H'):Z9 H' l S C r c t m Tp Tc:=by
 have k2:Kp (fun x=>x=m) H H':=fun i b hi hb hn=>k.2 i b hi hb hn
 exact ⟨k.1,h.tp.keep k2 h.pm,h.tc.keep k2 h.cm,h.pm,h.cm⟩
theorem Z9.app {H L:List Bk} {l:List Ru} {S:List Pr} {C:List Sh} {r c t m:Nat} {Tp Tc:Nat→Prop} (h:Z9 H l S C r c t m Tp Tc):Z9 (H++L) l S C r c t m Tp Tc:=by
 obtain ⟨⟨es,h1,h2⟩,h3,h4,h5,h6⟩:=h
 exact ⟨⟨es,h1.stays .app,h2⟩,h3.app,h4.app,h5,h6⟩
def Zr (R:List Pr):List Pr:=R.foldl YA []
def Xr (C:List Sh):List Sh:=C.foldl Kz []
theorem qoZ (R:List Pr):(Zr R).length≤R.length:=by
 unfold Zr
 have:∀ (R S:List Pr),(R.foldl YA S).length≤S.length+R.length:=by
  intro R
  induction R with
  | nil=>intro S; simp
  | cons x R ih =>
   intro S
   have h1:=ih (YA S x)
   have h2:=qbV (a:=S) (s:=x)
   simp only [List.foldl_cons,List.length_cons]
   omega
 have:=this R []
 simpa using this
structure WoJ (H0 H:List Bk) (l:List Ru) (S:List Pr) (C:List Sh) (r c t m:Nat) (Tp Tc:Nat→Prop):Prop where
 ok:Z9 H l S C r c t m Tp Tc
 pt:∀ x,Tp x→x≠t
 ct:∀ x,Tc x→x≠t
 pc:∀ x,Tp x→¬ Tc x
 pn:∀ x,Tp x→H0.length≤x
 cn:∀ x,Tc x→H0.length≤x
 tn:H0.length≤t
 mn:H0.length≤m
 kp:Kp NoB H0 H
theorem qo1 (U:List Sh) (s:Sh):(Kz U s).length≤U.length+1:=by
 unfold Kz less
 have:=List.length_filter_le (fun t:Sh=>decide (t.id≠s.id)) U
 split
 ·simp only [List.length_cons]
  have h2:=List.length_filter_le (fun t:Sh => !decide (t.id=s.id)) U
  first | omega | (simp at *; omega)
 ·omega
theorem shpI_len (R:List Sh):(Xr R).length≤R.length:=by
 unfold Xr
 have:∀ (R S:List Sh),(R.foldl Kz S).length≤S.length+R.length:=by
  intro R
  induction R with
  | nil=>intro S; simp
  | cons x R ih =>
   intro S
   have h1:=ih (Kz S x)
   have h2:=qo1 S x
   simp only [List.foldl_cons,List.length_cons]
   omega
 have:=this R []
 simpa using this
section
variable {H0 H H':List Bk} {l:List Ru} {S S':List Pr} {C C':List Sh} {r c t m:Nat} {Tp Tp' Tc Tc':Nat→Prop}
theorem WoJ.ins (h:WoJ H0 H l S C r c t m Tp Tc) (k:Kp Tp H H') (h1:TrP H' r 2 S' Tp') (h2:∀ x,Tp' x→Tp x∨H.length≤x):WoJ H0 H' l S' C r c t m Tp' Tc:=by
 obtain ⟨⟨⟨es,a1,a2⟩,a3,a4,a5,a6⟩,b1,b2,b3,b4,b5,b6,b7,b8⟩:=h
 have tl:=(List.getElem?_eq_some_iff.1 a1.t).1
 have ml:=(List.getElem?_eq_some_iff.1 a1.m).1
 have hl0:H0.length≤H.length:=by omega
 have cl:=a4.lt
 refine ⟨⟨⟨es,⟨k.cells (fun e=>b1 _ e rfl) a1.t,k.map (fun e=>a5 _ e rfl) a1.m⟩,a2⟩,h1,a4.keep k (fun x hx hp=>b3 x hp hx),fun x hx => ?_,a6⟩,fun x hx => ?_,b2,fun x hx hc => ?_,fun x hx => ?_,b5,b6,b7,fun i b hi hb hn=>k i b (fun e => ?_) (b8 i b id hb hn) hn⟩
 ·rcases h2 x hx with e | e
  ·exact a5 x e
  ·omega
 ·rcases h2 x hx with e | e
  ·exact b1 x e
  ·omega
 ·rcases h2 x hx with e | e
  ·exact b3 x e hc
  ·have:=cl x hc; omega
 ·rcases h2 x hx with e | e
  ·exact b4 x e
  ·omega
 ·have:=b4 _ e
  have:=(List.getElem?_eq_some_iff.1 hb).1
  omega
theorem WoJ.put (h:WoJ H0 H l S C r c t m Tp Tc) (k:Kp Tc H H') (h1:TrS H' c C' Tc') (h2:∀ x,Tc' x→Tc x∨H.length≤x):WoJ H0 H' l S C' r c t m Tp Tc':=by
 obtain ⟨⟨⟨es,a1,a2⟩,a3,a4,a5,a6⟩,b1,b2,b3,b4,b5,b6,b7,b8⟩:=h
 have tl:=(List.getElem?_eq_some_iff.1 a1.t).1
 have ml:=(List.getElem?_eq_some_iff.1 a1.m).1
 have hl0:H0.length≤H.length:=by omega
 have cl:=a3.lt
 refine ⟨⟨⟨es,⟨k.cells (fun e=>b2 _ e rfl) a1.t,k.map (fun e=>a6 _ e rfl) a1.m⟩,a2⟩,a3.keep k (fun x hx hp=>b3 x hx hp),h1,a5,fun x hx => ?_⟩,b1,fun x hx => ?_,fun x hp hx => ?_,b4,fun x hx => ?_,b6,b7,fun i b hi hb hn=>k i b (fun e => ?_) (b8 i b id hb hn) hn⟩
 ·rcases h2 x hx with e | e
  ·exact a6 x e
  ·omega
 ·rcases h2 x hx with e | e
  ·exact b2 x e
  ·omega
 ·rcases h2 x hx with e | e
  ·exact b3 x hp e
  ·have:=cl x hp; omega
 ·rcases h2 x hx with e | e
  ·exact b5 x e
  ·omega
 ·have:=b5 _ e
  have:=(List.getElem?_eq_some_iff.1 hb).1
  omega
theorem WoJ.cells (h:WoJ H0 H l S C r c t m Tp Tc) {i:Nat} {cs:List SV} (hi:H0[i]? = some (.cells cs)):H[i]? = some (.cells cs):=h.kp.cells id hi
end
def wzB:Bk := .cells [.v (.sc (.pointer none)),.v (.sc (.pointer none)),.v (.sc (.pointer none))]
def WdI (H1:List Bk) (l:List Ru) (R:List Pr) (C:List Sh) (i0 r c t m k:Nat) (F:Fr) (H:List Bk):Prop:=∃ Tp Tc,WoJ H1 H l (Zr (R.take k)) [] r c t m Tp Tc∧F = [(1,.v (lV R)),(2,.v (slS C)),(6,.v (.ptr i0 0)),(7,.v (.sc (.bool false))),(8,.v (.ptr r 0)),(10,.v (.ptr t 0)),(12,.v (.ptr c 0)),(13,.v (.sc (.int .i64 k)))]
def WdK (H1:List Bk) (l:List Ru) (R:List Pr) (C:List Sh) (i0 r c t m k:Nat) (F:Fr) (H:List Bk):Prop:=∃ Tp Tc,WoJ H1 H l (Zr R) (Xr (C.take k)) r c t m Tp Tc∧F = [(2,.v (slS C)),(6,.v (.ptr i0 0)),(7,.v (.sc (.bool false))),(8,.v (.ptr r 0)),(10,.v (.ptr t 0)),(12,.v (.ptr c 0)),(14,.v (.sc (.int .i64 k)))]
theorem qdg (l:List Ru) (hl:l.length≤9223372036854775807) (hb:∀ r∈l,r.boxes.length≤4398046511104) (R:List Pr) (hR:R.length≤300000) (C:List Sh) (hC:C.length≤300000) (H:List Bk) :
  AFn Tryz.prog 11 [slU l,lV R,slS C] H fun y H'=>Kp NoB H H'∧(tbR l=false→y = .tup [.agg [.sc (.pointer none),.sc (.pointer none),.sc (.pointer none)],.sc (.bool false)]) ∧
   (tbR l=true→∃ r c t m Tp Tc,y = .tup [wdC r c t,.sc (.bool true)]∧WoJ H H' l (Zr R) (Xr C) r c t m Tp Tc):=by
 have c1:=yT l
 refine vwc (fn:=Tryz.f11) rfl ?_
 simp only [Tryz.f11,ql]
 refine AW.seq (vwb ?_)
 simp
 have k0:Kp NoB H (H ++ [wzB]):=Kp.refl.app
 have g0:(H ++ [wzB])[H.length]? = some wzB:=by simp
 change AW _ _ _ _ ⟨_,H ++ [wzB]⟩
 have hH1l:(H ++ [wzB]).length=H.length+1:=by simp
 generalize H ++ [wzB]=H1 at *
 generalize hi0:H.length=i0 at *
 have hst:∀ H',H'[i0]? = some wzB→∀ a b c,setCells H' i0 0 [a,b,c]=H'.set i0 (.cells [.v a,.v b,.v c]):=fun H' h a b c=>by
  unfold wzB at h
  rw [setCells_eq h (by simp)]
  rfl
 have hgs:∀ (H':List Bk) (b:Bk),H'[i0]? = some b→∀ K,(H'.set i0 K)[i0]? = some K:=fun H' b h K=>List.getElem?_set_self (List.getElem?_eq_some_iff.1 h).1
 refine AW.seq (vwb ?_)
 simp
 refine qc.of (pNew 2 H1) ?_
 rintro y H2 ⟨-,h2⟩
 obtain ⟨r,b,Tp,rfl,hbb,tp2,k2,n2⟩:=h2 (by decide)
 obtain rfl:b=2:=by omega
 simp
 refine AW.seq (vwb ?_)
 simp
 cases hb':tbR l with
 | false =>
  obtain ⟨e,he,hN⟩:∃ e:Int,(e=1∨e=2)∧PFn Tryz.prog 40 [slU l] (newV e):=by
   by_cases h32:32<l.length
   ·exact ⟨2,.inr rfl,gnewLong l h32⟩
   ·refine ⟨1,.inl rfl,gnewArg l (by omega) (fun r hr=>by have:=hb r hr; omega) ?_⟩
    unfold tbR at hb'
    rw [decide_eq_true (by omega)] at hb'
    simpa using hb'
  unfold newV at hN
  refine qc.pure hN (by simp [V.qA,c1]) rfl ?_
  simp
  refine AW.seq (vwb ?_)
  simp
  refine qc.of (tnew H2) ?_
  rintro y H3 ⟨c,Tc,rfl,tc3,k3,n3⟩
  simp
  have g3:=k3.cells id (k2.cells id g0)
  have en:(e==0)=false∧(e != 0)=true:=by rcases he with rfl | rfl <;> decide
  refine AW.seq (vwb ?_)
  have g4:=hgs H3 wzB g3 (.cells [.v (.sc (.pointer none)),.v (.sc (.pointer none)),.v (.sc (.pointer none))])
  simp [en.1,en.2,g3,hst H3 g3,g4]
  intro i b hi hb hn
  have hil:=(List.getElem?_eq_some_iff.1 hb).1
  rw [List.getElem?_set_ne (by omega)]
  exact k3 i b id (k2 i b id (k0 i b id hb hn) hn) hn
 | true =>
  have hbt:=hb'
  unfold tbR at hbt
  simp only [Bool.and_eq_true,decide_eq_true_eq] at hbt
  refine qc.of (gnew l hbt.1 hb hbt.2 H2) ?_
  rintro y H3 ⟨t,m,rfl,hT,ht,hm,hs⟩
  simp
  refine AW.seq (vwb ?_)
  simp
  refine qc.of (tnew H3) ?_
  rintro y H4 ⟨c,Tc,rfl,tc4,k4,n4⟩
  simp
  refine AW.seq (vwb ?_)
  simp
  have q1:WoJ H1 H4 l (Zr (R.take 0)) [] r c t m Tp Tc:=by
   have ks:Kp NoB H2 H3:=fun i b hi hb hn=>hs i b hb hn
   have k24:=ks.trans k4
   have lt2:=tp2.lt
   have l12:=k2
   have h12:H1.length≤H2.length:=by
    obtain ⟨j,hj⟩:∃ j,j=H1.length - 1:=⟨_,rfl⟩
    have hw:=k2.cells id g0
    have:=(List.getElem?_eq_some_iff.1 hw).1
    omega
   have tl:=(List.getElem?_eq_some_iff.1 hT.t).1
   have ml:=(List.getElem?_eq_some_iff.1 hT.m).1
   refine ⟨⟨⟨[],⟨k4.cells id hT.t,k4.map id hT.m⟩,fun e he=>by cases he⟩,tp2.Vb k24,tc4,fun x hx => ?_,fun x hx => ?_⟩,fun x hx => ?_,fun x hx => ?_,fun x hx hc => ?_,n2,fun x hx => ?_,by omega,by omega,k2.trans k24⟩
   ·have:=lt2 x hx; omega
   ·have:=n4 x hx; omega
   ·have:=lt2 x hx; omega
   ·have:=n4 x hx; omega
   ·have:=lt2 x hx; have:=n4 x hc; omega
   ·have:=n4 x hx; omega
  refine AW.seq (vwb ?_)
  simp
  refine AW.count R.length (WdI H1 l R C i0 r c t m) ⟨_,?_,Tp,Tc,q1,rfl⟩ ?_
  ·simp [qz,qj,qm,lV,slS]
  clear q1
  rintro k F H5 hk ⟨Tp5,Tc5,q5,rfl⟩
  refine vwb ?_
  by_cases hlt:k<R.length
  ·have ew:IntKind.i64.wrap ((k:Int)+1)=k+1:=wrap_i64 (by omega) (by omega)
   have htk:Zr (R.take (k+1))=YA (Zr (R.take k)) R[k]:=by
    unfold Zr
    rw [List.take_succ_eq_append_getElem hlt,List.foldl_append]
    rfl
   have hln:=qoZ (R.take k)
   rw [List.length_take] at hln
   have hI:=pInsert q5.ok.tp R[k] (by omega)
   unfold Pr.v Pr.cs at hI
   simp [lV,hlt,J4 hlt]
   refine qc.of hI ?_
   rintro y H6 ⟨rfl,k6,Tp6,t6,u6⟩
   simp [ew]
   refine ⟨_,?_,Tp6,Tc5,?_,rfl⟩
   ·simp [qz,qj,qm,lV,slS]
   ·rw [htk]
    exact q5.ins k6 t6 u6
  have hkR:k=R.length:=by omega
  subst hkR
  rw [List.take_length] at q5
  simp [lV]
  refine vwb ?_
  simp
  refine AW.count C.length (WdK H1 l R C i0 r c t m) ⟨_,?_,Tp5,Tc5,q5,rfl⟩ ?_
  ·simp [qz,qj,qm,lV,slS]
  clear q5
  rintro k F H6 hk ⟨Tp6,Tc6,q6,rfl⟩
  refine vwb ?_
  by_cases hlt:k<C.length
  ·have ew:IntKind.i64.wrap ((k:Int)+1)=k+1:=wrap_i64 (by omega) (by omega)
   have htk:Xr (C.take (k+1))=Kz (Xr (C.take k)) C[k]:=by
    unfold Xr
    rw [List.take_succ_eq_append_getElem hlt,List.foldl_append]
    rfl
   have hln:=shpI_len (C.take k)
   rw [List.length_take] at hln
   have hI:=tput q6.ok.tc C[k] (by omega)
   unfold Sh.v Sh.cs at hI
   simp [slS,hlt,Xo hlt]
   refine qc.of hI ?_
   rintro y H7 ⟨rfl,k7,Tc7,t7,u7⟩
   simp [ew]
   refine ⟨_,?_,Tp6,Tc7,?_,rfl⟩
   ·simp [qz,qj,qm,lV,slS]
   ·rw [htk]
    exact q6.put k7 t7 u7
  have hkR:k=C.length:=by omega
  subst hkR
  rw [List.take_length] at q6
  simp [slS]
  have g6:=q6.cells g0
  have g7:=hgs H6 wzB g6 (.cells [.v (.ptr r 0),.v (.ptr c 0),.v (.ptr t 0)])
  have hkp:Kp (fun x=>x=i0) H6 (H6.set i0 (.cells [.v (.ptr r 0),.v (.ptr c 0),.v (.ptr t 0)])):=Kp.refl.set rfl
  have hkh:Kp NoB H (H6.set i0 (.cells [.v (.ptr r 0),.v (.ptr c 0),.v (.ptr t 0)])):=fun i b hi hb hn=>by
   have hil:=(List.getElem?_eq_some_iff.1 hb).1
   exact hkp i b (by omega) (q6.kp i b id (k0 i b id hb hn) hn) hn
  have g6':=g6
  unfold wzB at g6'
  have e6:=hst H6 g6
  obtain ⟨⟨⟨es,a1,a2⟩,a3,a4,a5,a6⟩,b1,b2,b3,b4,b5,b6,b7,b8⟩:=q6
  have hfin:WoJ H (H6.set i0 (.cells [.v (.ptr r 0),.v (.ptr c 0),.v (.ptr t 0)])) l (Zr R) (Xr C) r c t m Tp6 Tc6 :=
   ⟨⟨⟨es,⟨hkp.cells (by omega) a1.t,hkp.map (by omega) a1.m⟩,a2⟩,a3.keep hkp (fun x hx e=>by have:=b4 x hx; omega),a4.keep hkp (fun x hx e=>by have:=b5 x hx; omega),a5,a6⟩,b1,b2,b3,fun x hx=>by have:=b4 x hx; omega,fun x hx=>by have:=b5 x hx; omega,by omega,by omega,hkh⟩
  generalize hH7:H6.set i0 (.cells [.v (.ptr r 0),.v (.ptr c 0),.v (.ptr t 0)])=H7 at *
  simp [g6',e6,hH7,g7]
  exact ⟨hkh,r,c,t,rfl,m,Tp6,Tc6,hfin⟩
theorem Kept.qoO {l:List Ru} {t m:Nat} {H0 H H':List Bk} (k:Kept l t m H H') (h:Kp NoB H0 H) (hm:H0.length≤m):Kp NoB H0 H':=fun i b hi hb hn=>by
 have hil:=(List.getElem?_eq_some_iff.1 hb).1
 exact k.2 i b (by omega) (h i b id hb hn) hn
def Ju (D:List Se) (p:Pt) (m:Nat):List Se:=((sort (D.map (Jz p))).take m).filterMap fun e=>D.find? fun s=>decide (s.id=e.i)
theorem find_se {D:List Se} (hD:(D.map Se.id).Nodup) {s:Se} (hs:s∈D):(D.find? fun t=>decide (t.id=s.id))=some s:=by
 induction D with
 | nil=>cases hs
 | cons x D ih =>
  rw [List.map_cons,List.nodup_cons] at hD
  rcases List.mem_cons.1 hs with rfl | hs
  ·simp
  ·have hne:¬ x.id=s.id:=fun e=>hD.1 (List.mem_map.2 ⟨s,hs,e.symm⟩)
   rw [List.find?_cons_of_neg (by simpa using hne)]
   exact ih hD.2 hs
theorem qcP {D:List Se} (hD:(D.map Se.id).Nodup) {p:Pt} {m:Nat} {R:List Se} (h:qkr D p m R):R=Ju D p m:=by
 unfold Ju
 rw [← h.1,List.filterMap_map]
 exact (qb4 fun s hs=>find_se hD (h.2 s hs)).symm
section
variable {H:List Bk} {l:List Ru} {S:List Pr} {C:List Sh} {r c t m:Nat} {Tp Tc:Nat→Prop}
def Wu (e:Int) (R:List Se):V := .tup [QA (if e=0 then R else []),.sc (.int .i64 e)]
theorem qfE (v:Vw) (mm:Int) (b:Bool):yN v mm b=0∨yN v mm b=1:=by
 unfold yN
 split
 ·exact .inl rfl
 ·exact .inr rfl
theorem qnL {v:Vw} {mm:Int} {b:Bool} (h:yN v mm b=0):yG v=true∧b=true∧0≤mm∧mm≤64:=by
 unfold yN at h
 split at h
 ·rename_i hc
  simp only [Bool.and_eq_true,decide_eq_true_eq] at hc
  exact ⟨hc.1.1.1,hc.1.1.2,hc.1.2,hc.2⟩
 ·cases h
theorem qaK (h:Z9 H l S C r c t m Tp Tc) (hl:Yk l) (hS:S.Pairwise fun a b=>a.id<b.id) (hSl:S.length≤50) (v:Vw) (rc:Re) (mm:Int) :
  AFn Tryz.prog 18 [wdC r c t,.agg v.cs,rc.v,.sc (.int .i64 mm)] H fun y H'=>y=Wu (yN v mm (qd rc)) ((qdM l v rc S).take mm.toNat)∧Kept l t m H H':=by
 obtain ⟨⟨es,h1,h2⟩,h3,h4,h5,h6⟩:=h
 refine AFn.conv (plWindow hl v h1 h2 h3 h5 hSl (qe9 hl.all v) rc mm) ?_
 rintro y H' ⟨k,a1,a2⟩
 rcases qfE v mm (qd rc) with e | e
 ·obtain ⟨R,rfl,hR⟩:=a2 e
  have hw:=qoM hl.all (qnL e).2.1 hS hR
  refine ⟨_,⟨rfl,k⟩,fun I φ w hw' => ?_⟩
  unfold Wu
  rw [if_pos e,← hw,e]
  exact hw'
 ·have:=a1 (by rw [e]; decide)
  subst this
  refine ⟨_,⟨rfl,k⟩,fun I φ w hw' => ?_⟩
  unfold Wu
  rw [if_neg (by rw [e]; decide),e]
  exact XF hw'
theorem qhP (h:Z9 H l S C r c t m Tp Tc) (hl:Yk l) (hS:S.Pairwise fun a b=>a.id<b.id) (hSl:S.length≤50) (v:Vw) (p:Pt) (mm:Int) :
  AFn Tryz.prog 19 [wdC r c t,.agg v.cs,p.v,.sc (.int .i64 mm)] H fun y H'=>y=Wu (yN v mm (fits p)) (Ju (Je l v S) p mm.toNat)∧Kept l t m H H':=by
 obtain ⟨⟨es,h1,h2⟩,h3,h4,h5,h6⟩:=h
 refine AFn.conv (plNear hl v h1 h2 h3 h5 hSl (qe9 hl.all v) (fun z hz=>by have:=qlp hl.all hz; omega) p mm) ?_
 rintro y H' ⟨k,a1,a2⟩
 rcases qfE v mm (fits p) with e | e
 ·obtain ⟨R,rfl,hR⟩:=a2 e
  have hw:R=Ju (Je l v S) p mm.toNat:=qcP (qnH (qd5 hS)) (qnk hl.all (qd5 hS) hR)
  refine ⟨_,⟨rfl,k⟩,fun I φ w hw' => ?_⟩
  unfold Wu
  rw [if_pos e,← hw,e]
  exact hw'
 ·have:=a1 (by rw [e]; decide)
  subst this
  refine ⟨_,⟨rfl,k⟩,fun I φ w hw' => ?_⟩
  unfold Wu
  rw [if_neg (by rw [e]; decide),e]
  exact XF hw'
end
theorem Z9.set {H:List Bk} {K:Bk} {i:Nat} {l:List Ru} {S:List Pr} {C:List Sh} {r c t m:Nat} {Tp Tc:Nat→Prop} (h:Z9 H l S C r c t m Tp Tc) (h1:∀ x,Tp x→x≠i) (h2:∀ x,Tc x→x≠i) (h3:t≠i) (h4:m≠i):Z9 (H.set i K) l S C r c t m Tp Tc:=by
 have hkp:Kp (fun x=>x=i) H (H.set i K):=Kp.refl.set rfl
 obtain ⟨⟨es,a1,a2⟩,a3,a4,a5,a6⟩:=h
 exact ⟨⟨es,⟨hkp.cells h3 a1.t,hkp.map h4 a1.m⟩,a2⟩,a3.keep hkp h1,a4.keep hkp h2,a5,a6⟩
def W9 (g:Gr):Bk := .cells [.v (.sc (.int .i64 g.ops)),.v (.sc (.int .i64 g.zoom)),.v (.sc (.int .i64 g.box.x0)),.v (.sc (.int .i64 g.box.y0)),.v (.sc (.int .i64 g.box.x1)),.v (.sc (.int .i64 g.box.y1)),.v (.sc (.bool g.void)),.v (.sc (.int .i64 g.til))]
def vwA:Vw:=⟨0,0,Zx⟩
def vwL:Vw:=⟨0,0,{ Zx with zoom:=12 }⟩
def qkL:Pr:=⟨3,⟨5,9⟩,0⟩
theorem know1:qdM exL vwA ⟨0,0,4,8⟩ [qkL] = [⟨3,14,4,8,7,11⟩]:=by decide +kernel
theorem know2:Je exL vwL [qkL] = [⟨3,12,0,0,15,15⟩]:=by decide +kernel
theorem know3:Zr [qkL] = [qkL]:=by decide +kernel
theorem know4:tbR exL=true:=by decide +kernel
theorem know5:yN vwA 3 (qd ⟨0,0,4,8⟩)=0:=by decide +kernel
theorem know6:yN vwL 3 (fits ⟨99,0⟩)=0:=by decide +kernel
theorem exTb:Yk exL:=⟨by decide,by decide,qpn⟩
theorem know7:Ju [⟨3,12,0,0,15,15⟩] ⟨99,0⟩ 3 = [⟨3,12,0,0,15,15⟩]:=by decide +kernel
theorem ans1:Wu (yN vwA 3 (qd ⟨0,0,4,8⟩)) ((qdM exL vwA ⟨0,0,4,8⟩ [qkL]).take (3:Int).toNat) = .tup [QA [⟨3,14,4,8,7,11⟩],.sc (.int .i64 0)]:=by
 rw [know1,know5]
 rfl
theorem ans2:Wu (yN vwL 3 (fits ⟨99,0⟩)) (Ju (Je exL vwL [qkL]) ⟨99,0⟩ (3:Int).toNat) = .tup [QA [⟨3,12,0,0,15,15⟩],.sc (.int .i64 0)]:=by
 rw [know2,know6]
 unfold Wu
 rw [if_pos rfl]
 have:(3:Int).toNat=3:=rfl
 rw [this,know7]
theorem qdS (H:List Bk):AFn Tryz.prog 13 [] H fun y H'=>y = .sc (.bool true)∧Kp NoB H H':=by
 have hE:=wEx
 have hex:=yT exL
 have hA:=wAll'
 have hW:=(qdg exL (by decide) (by decide) [qkL] (by decide) [] (by decide) H).weak (JW.cons (JW.cons (JW.qgA (sz:=6) (JW.refl _))))
 unfold Gr.cs at hA
 refine vwc (fn:=Tryz.f13) rfl ?_
 simp only [Tryz.f13,ql]
 refine AW.seq (vwa [(4,9,[1])] ?_)
 simp
 refine AW.seq (vwa [(4,9,[1])] ?_)
 simp
 refine qc.pure hE rfl hex ?_
 simp
 refine qc.of hW ?_
 rintro y H1 ⟨k1,-,h1⟩
 obtain ⟨r,c,t,m,Tp,Tc,rfl,hJ⟩:=h1 know4
 rw [know3] at hJ
 have hWo:=hJ.ok
 have hmn:=hJ.mn
 have hWi:=fun H' h=>qaK (H:=H') (S := [qkL]) (C := []) (r:=r) (c:=c) (t:=t) (m:=m) (Tp:=Tp) (Tc:=Tc) h exTb (by simp) (by simp) vwA ⟨0,0,4,8⟩ 3
 have hNe:=fun H' h=>qhP (H:=H') (S := [qkL]) (C := []) (r:=r) (c:=c) (t:=t) (m:=m) (Tp:=Tp) (Tc:=Tc) h exTb (by simp) (by simp) vwL ⟨99,0⟩ 3
 simp only [ans1] at hWi
 simp only [ans2] at hNe
 unfold wdC
 simp
 rw [qp rfl]
 have e0:(H1 ++ [wdB r c t])[H1.length]? = some (wdB r c t):=by simp
 have hW2:=hWo.app (L := [wdB r c t])
 have k2:=k1.app (L := [wdB r c t])
 change AW _ _ _ _ ⟨_,H1 ++ [wdB r c t]⟩
 generalize H1 ++ [wdB r c t]=H2 at *
 generalize H1.length=i0 at *
 have e0':=e0
 unfold wdB at e0'
 refine AW.seq (vwa [(4,9,[1])] ?_)
 simp
 refine AW.seq (vwa [(4,9,[1])] ?_)
 simp [e0']
 refine qc.pure hA rfl rfl ?_
 simp
 have hw1:=hWi _ hW2
 unfold Vw.cs Re.v Re.cs vwA wdC at hw1
 obtain ⟨es2,t2,m2⟩:=hW2.tb
 refine qc.of hw1 ?_
 rintro y H3 ⟨rfl,kK⟩
 have kp3:=eq_true (kK.Va t2)
 have hW3:=hW2.kept kK
 have k3:=kK.qoO k2 hmn
 have f0:=kK.2.cells (qh e0 t2.m) e0
 have hs3:=(kK.Va t2)
 clear hw1 kK t2 m2 hW2 hWo hJ k1 h1
 simp [kp3]
 refine AW.seq (vwa [(4,9,[1])] ?_)
 simp
 refine qc.pure hA rfl rfl ?_
 simp
 rw [qp rfl]
 have g0:=hget (L := [W9 Zx]) f0
 have g1:(H3 ++ [W9 Zx])[H3.length]? = some (W9 Zx):=by simp
 have hW4:=hW3.app (L := [W9 Zx])
 have k4:=k3.app (L := [W9 Zx])
 change AW _ _ _ _ ⟨_,H3 ++ [W9 Zx]⟩
 have hne:i0<H3.length:=(List.getElem?_eq_some_iff.1 f0).1
 have hmn3:m<H3.length:=by
  obtain ⟨es3,t3,_⟩:=hW3.tb
  exact (List.getElem?_eq_some_iff.1 t3.m).1
 have htn3:t<H3.length:=by
  obtain ⟨es3,t3,_⟩:=hW3.tb
  exact (List.getElem?_eq_some_iff.1 t3.t).1
 have hlt:=hW3.tp.lt
 have hltc:=hW3.tc.lt
 have hHl:H.length≤H3.length:=by omega
 generalize H3 ++ [W9 Zx]=H4 at *
 generalize H3.length=i1 at *
 have est:∀ x,setCells H4 i1 1 [x]=H4.set i1 (.cells [.v (.sc (.int .i64 31)),.v x,.v (.sc (.int .i64 0)),.v (.sc (.int .i64 0)),.v (.sc (.int .i64 65535)),.v (.sc (.int .i64 65535)),.v (.sc (.bool false)),.v (.sc (.int .i64 9))]):=fun x=>by
  unfold W9 at g1
  rw [setCells_eq g1 (by simp)]
  rfl
 have g1':=g1
 unfold W9 at g1'
 refine AW.seq (vwa [(4,9,[1])] ?_)
 simp [g1',est]
 have hkp:Kp (fun x=>x=i1) H4 (H4.set i1 (W9 { Zx with zoom:=12 })):=Kp.refl.set rfl
 have hW5:=hW4.set (K:=W9 { Zx with zoom:=12 }) (i:=i1) (fun x hx=>by have:=hlt x hx; omega) (fun x hx=>by have:=hltc x hx; omega) (by omega) (by omega)
 have g5:(H4.set i1 (W9 { Zx with zoom:=12 }))[i0]? = some (wdB r c t):=hkp.cells (by omega) g0
 have g6:(H4.set i1 (W9 { Zx with zoom:=12 }))[i1]? = some (W9 { Zx with zoom:=12 }):=List.getElem?_set_self (List.getElem?_eq_some_iff.1 g1).1
 have k5:Kp NoB H (H4.set i1 (W9 { Zx with zoom:=12 })):=fun i b hi hb hn=>by
  have hil:=(List.getElem?_eq_some_iff.1 hb).1
  exact hkp i b (by omega) (k4 i b id hb hn) hn
 change AW _ _ _ _ ⟨_,H4.set i1 (W9 { Zx with zoom:=12 })⟩
 generalize H4.set i1 (W9 { Zx with zoom:=12 })=H5 at *
 unfold wdB at g5
 unfold W9 at g6
 have hw1:=hNe _ hW5
 unfold Vw.cs Pt.v Pt.cs vwL wdC at hw1
 have hgd:({ Zx with zoom:=12 }:Gr).ops=31∧({ Zx with zoom:=12 }:Gr).zoom=12∧({ Zx with zoom:=12 }:Gr).box.x0=0∧({ Zx with zoom:=12 }:Gr).box.y0=0∧({ Zx with zoom:=12 }:Gr).box.x1=65535∧({ Zx with zoom:=12 }:Gr).box.y1=65535∧({ Zx with zoom:=12 }:Gr).void=false∧({ Zx with zoom:=12 }:Gr).til=9:=⟨rfl,rfl,rfl,rfl,rfl,rfl,rfl,rfl⟩
 simp only [hgd] at g6 hw1
 refine AW.seq (vwa [(4,9,[1])] ?_)
 simp [g5,g6]
 refine qc.of hw1 ?_
 rintro y H6 ⟨rfl,kK⟩
 obtain ⟨es5,t5,m5⟩:=hW5.tb
 have kp6:=eq_true (kK.Va t5)
 have k6:=kK.qoO k5 hmn
 simp [kp6]
 have hS1:=qez [⟨3,14,4,8,7,11⟩] [⟨3,14,4,8,7,11⟩] (by decide)
 have hS2:=qez [⟨3,12,0,0,15,15⟩] [⟨3,12,0,0,15,15⟩] (by decide)
 rw [decide_eq_true rfl] at hS1 hS2
 refine AW.seq (vwa [(4,9,[1])] ?_)
 simp
 refine qc.pure hS1 rfl rfl ?_
 simp
 refine qc.pure hS2 rfl rfl ?_
 simp
 refine vwa [(4,9,[1])] ?_
 simp
 exact k6
structure Qv where
 l:List Ru
 v:Vw
 r:Re
 p:Pt
 m:Int
def Qv.cs (q:Qv):List V := [slU q.l,.sc (.int .i64 q.v.ro),.sc (.int .i64 q.v.ti),.sc (.int .i64 q.v.g.ops),.sc (.int .i64 q.v.g.zoom),.sc (.int .i64 q.v.g.box.x0),.sc (.int .i64 q.v.g.box.y0),.sc (.int .i64 q.v.g.box.x1),.sc (.int .i64 q.v.g.box.y1),.sc (.bool q.v.g.void),.sc (.int .i64 q.v.g.til),.sc (.int .i64 q.r.x0),.sc (.int .i64 q.r.y0),.sc (.int .i64 q.r.x1),.sc (.int .i64 q.r.y1),.sc (.int .i64 q.p.x),.sc (.int .i64 q.p.y),.sc (.int .i64 q.m)]
def Qv.w (q:Qv):V := .agg q.cs
def qvB (q:Qv):Bk := .cells [.v (slU q.l),.v (.sc (.int .i64 q.v.ro)),.v (.sc (.int .i64 q.v.ti)),.v (.sc (.int .i64 q.v.g.ops)),.v (.sc (.int .i64 q.v.g.zoom)),.v (.sc (.int .i64 q.v.g.box.x0)),.v (.sc (.int .i64 q.v.g.box.y0)),.v (.sc (.int .i64 q.v.g.box.x1)),.v (.sc (.int .i64 q.v.g.box.y1)),.v (.sc (.bool q.v.g.void)),.v (.sc (.int .i64 q.v.g.til)),.v (.sc (.int .i64 q.r.x0)),.v (.sc (.int .i64 q.r.y0)),.v (.sc (.int .i64 q.r.x1)),.v (.sc (.int .i64 q.r.y1)),.v (.sc (.int .i64 q.p.x)),.v (.sc (.int .i64 q.p.y)),.v (.sc (.int .i64 q.m))]
section
variable {H:List Bk} {l:List Ru} {S:List Pr} {C:List Sh} {r c t m:Nat} {Tp Tc:Nat→Prop}
end
end Go.Proofs.YtnconfggojpkcaaGreat
namespace Go.Proofs.YtnconfggojpkcaaGreat
open Go.RowKit Go.ChangeShapes Go.WideShapes AM
section
variable {H:Type} {enc:TypeId×Value→H} {w:World} {base:Nat} {held:Bool} {r:Reach} {b0:Nat} {v:Value} {d:DataW H} {p:List MemPlace}
theorem cRules:Tryz.prog.cellsOf 22=1:=by kernel_rfl
theorem cVw:Tryz.prog.cellsOf 28=10:=by kernel_rfl
theorem cRe:Tryz.prog.cellsOf 24=4:=by kernel_rfl
theorem cPt:Tryz.prog.cellsOf 30=2:=by kernel_rfl
theorem cInt':Tryz.prog.cellsOf 3=1:=by kernel_rfl
theorem cView:Tryz.prog.cellsOf 32=18:=by kernel_rfl
theorem vwLeaves:VT Tryz.prog 6 28=some [.int .i64,.int .i64,.int .i64,.int .i64,.int .i64,.int .i64,.int .i64,.int .i64,.bool,.int .i64]:=by kernel_rfl
def Gr.vals (g:Gr):List Value := [.int .i64 g.ops,.int .i64 g.zoom,.int .i64 g.box.x0,.int .i64 g.box.y0,.int .i64 g.box.x1,.int .i64 g.box.y1,.bool g.void,.int .i64 g.til]
def Vw.vals (v:Vw):List Value := [.int .i64 v.ro,.int .i64 v.ti,.int .i64 v.g.ops,.int .i64 v.g.zoom,.int .i64 v.g.box.x0,.int .i64 v.g.box.y0,.int .i64 v.g.box.x1,.int .i64 v.g.box.y1,.bool v.g.void,.int .i64 v.g.til]
theorem qf9 {cs:List Value} (h:Leaf.all [.int .i64,.int .i64,.int .i64,.int .i64,.int .i64,.int .i64,.bool,.int .i64] cs):∃ x:Gr,x.vals=cs:=by
 obtain ⟨a,_,rfl,_,h⟩:=Leaf.vB h
 obtain ⟨b,_,rfl,_,h⟩:=Leaf.vB h
 obtain ⟨c,_,rfl,_,h⟩:=Leaf.vB h
 obtain ⟨e,_,rfl,_,h⟩:=Leaf.vB h
 obtain ⟨f,_,rfl,_,h⟩:=Leaf.vB h
 obtain ⟨g,_,rfl,_,h⟩:=Leaf.vB h
 obtain ⟨i,ws,rfl,h1⟩:=Leaf.qpr h
 obtain ⟨j,_,rfl,_,h2⟩:=Leaf.vB h1
 obtain rfl:=Leaf.all_nil h2
 exact ⟨⟨a,b,⟨c,e,f,g⟩,i,j⟩,rfl⟩
theorem qky {cs:List Value} (h:Leaf.all [.int .i64,.int .i64,.int .i64,.int .i64,.int .i64,.int .i64,.int .i64,.int .i64,.bool,.int .i64] cs):∃ x:Vw,x.vals=cs:=by
 obtain ⟨k,_,rfl,_,h⟩:=Leaf.vB h
 obtain ⟨l,_,rfl,_,h⟩:=Leaf.vB h
 obtain ⟨g,rfl⟩:=qf9 h
 exact ⟨⟨k,l,g⟩,rfl⟩
def QvD (q:Qv) (d:DataW H):Prop:=∃ parts e,d = .agg parts∧parts[0]? = some e∧JB (fun (x:Ru) (e:DataW H)=>x.boxes.length≤maxLen∧RuD x e) q.l e
theorem qcg (hv:Value.okWide Tryz.prog w r b0 32 v) (h:DataW.Trod enc Tryz.prog w base (fun _=>true) held 32 v d p):∃ q:Qv,Rel (said w) [] q.w v∧QvD q d:=by
 obtain ⟨arr,rfl,hsz⟩:=okWide_struct Tryz.underlying32 hv
 rw [cView] at hsz
 obtain ⟨n,hn⟩:=h
 have hn:DataW.trod enc Tryz.prog w base (fun _=>true) held n 32 arr.toList=some (d,p):=hn
 obtain ⟨cs,rfl⟩:∃ cs:List Value,arr=cs.toArray:=⟨arr.toList,by simp⟩
 have hl:cs.length=18:=by simpa using hsz
 have hn:DataW.trod enc Tryz.prog w base (fun _=>true) held n 32 cs=some (d,p):=by simpa using hn
 obtain ⟨xs,m,_,hyd,_,hlen,hf⟩:=DataW.trod_struct Tryz.underlying32 hn
 have hlen:xs.length=5:=hlen
 match cs,hl with
 | [c0,c1,c2,c3,c4,c5,c6,c7,c8,c9,c10,c11,c12,c13,c14,c15,c16,c17],_ =>
  have g:∀ i,i<5→∃ y,xs[i]? = some y:=fun i hi=>⟨_,List.getElem?_eq_getElem (by omega)⟩
  obtain ⟨y0,e0⟩:=g 0 (by decide)
  have h0:DataW.trod enc Tryz.prog w base (fun _=>true) held m 22 (([c0,c1,c2,c3,c4,c5,c6,c7,c8,c9,c10,c11,c12,c13,c14,c15,c16,c17].drop 0).take (Tryz.prog.cellsOf 22))=some y0:=(hf 0 _ rfl).trans e0
  rw [cRules] at h0
  simp only [List.drop,List.take] at h0
  obtain ⟨y1,e1⟩:=g 1 (by decide)
  have h1:DataW.trod enc Tryz.prog w base (fun _=>true) held m 28 (([c0,c1,c2,c3,c4,c5,c6,c7,c8,c9,c10,c11,c12,c13,c14,c15,c16,c17].drop 1).take (Tryz.prog.cellsOf 28))=some y1:=(hf 1 _ rfl).trans e1
  rw [cVw] at h1
  simp only [List.drop,List.take] at h1
  obtain ⟨y2,e2⟩:=g 2 (by decide)
  have h2:DataW.trod enc Tryz.prog w base (fun _=>true) held m 24 (([c0,c1,c2,c3,c4,c5,c6,c7,c8,c9,c10,c11,c12,c13,c14,c15,c16,c17].drop 11).take (Tryz.prog.cellsOf 24))=some y2:=(hf 2 _ rfl).trans e2
  rw [cRe] at h2
  simp only [List.drop,List.take] at h2
  obtain ⟨y3,e3⟩:=g 3 (by decide)
  have h3:DataW.trod enc Tryz.prog w base (fun _=>true) held m 30 (([c0,c1,c2,c3,c4,c5,c6,c7,c8,c9,c10,c11,c12,c13,c14,c15,c16,c17].drop 15).take (Tryz.prog.cellsOf 30))=some y3:=(hf 3 _ rfl).trans e3
  rw [cPt] at h3
  simp only [List.drop,List.take] at h3
  obtain ⟨y4,e4⟩:=g 4 (by decide)
  have h4:DataW.trod enc Tryz.prog w base (fun _=>true) held m 3 (([c0,c1,c2,c3,c4,c5,c6,c7,c8,c9,c10,c11,c12,c13,c14,c15,c16,c17].drop 17).take (Tryz.prog.cellsOf 3))=some y4:=(hf 4 _ rfl).trans e4
  rw [cInt'] at h4
  simp only [List.drop,List.take] at h4
  obtain ⟨v0,l,g0,r0,o0,d0⟩:=qdC (fun (x:Ru) (e:DataW H)=>x.boxes.length≤maxLen∧RuD x e) (encV:=Ru.cs) (sz:=7) Tryz.underlying22 (by kernel_rfl) (by decide) (fun _=>rfl) (fun n cs y hy hl=>qoV hy hl) h0
  obtain rfl:c0=v0:=by simpa using g0
  obtain ⟨vw,hvw⟩:=qky (Zz 6 _ _ _ _ _ vwLeaves h1)
  obtain ⟨rc,hrc⟩:=qfO (Zz 6 _ _ _ _ _ qlW h2)
  obtain ⟨pt,hpt⟩:=qkQ (Zz 6 _ _ _ _ _ ptLeaves h3)
  obtain ⟨z4,g4,_⟩:=DataW.trod_int Tryz.underlying3 h4
  simp only [Vw.vals,List.cons.injEq,and_true] at hvw
  simp only [Re.vals,List.cons.injEq,and_true] at hrc
  simp only [Pt.vals,List.cons.injEq,and_true] at hpt
  obtain rfl:c17 = .int .i64 z4:=by simpa using g4
  obtain ⟨rfl,rfl,rfl,rfl,rfl,rfl,rfl,rfl,rfl,rfl⟩:=hvw
  obtain ⟨rfl,rfl,rfl,rfl⟩:=hrc
  obtain ⟨rfl,rfl⟩:=hpt
  exact ⟨⟨l,vw,rc,pt,z4⟩,.agg (.cons r0 (.cons (.sc _) (.cons (.sc _) (.cons (.sc _) (.cons (.sc _) (.cons (.sc _) (.cons (.sc _) (.cons (.sc _) (.cons (.sc _) (.cons (.sc _) (.cons (.sc _) (.cons (.sc _) (.cons (.sc _) (.cons (.sc _) (.cons (.sc _) (.cons (.sc _) (.cons (.sc _) (.cons (.sc _) .nil)))))))))))))))))),_,y0.1,congrArg Prod.fst hyd,by rw [List.getElem?_map,e0]; rfl,d0⟩
end
section
variable {H:Type}
end
end Go.Proofs.YtnconfggojpkcaaGreat
