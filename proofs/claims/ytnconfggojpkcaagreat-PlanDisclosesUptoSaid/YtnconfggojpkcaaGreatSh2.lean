/- Texts that a law rests on, part h2: plain lemmas and what functions of the program do. No condition. -/
import Derived.Test.YtnconfggojpkcaaGreatSh1
set_option linter.all false
set_option maxHeartbeats 16000000
set_option maxRecDepth 100000
namespace Go.Proofs.YtnconfggojpkcaaGreat
open Go.RowKit AM
attribute [local simp] zQ qU jL zT zq zR zS zo jM zu qV Z8 Qm jC Ql yc ZE vZ slF qG Qo zK yx zA shares jh yt ze Qz QI qY ZF qZ qM vX zH yu Qe qL zD zG vU slV jE jG yE zU ZJ jB jF aMM aUn Qp vW jD zC jA qJ vV Qu vY vS Zw y9 qK Qs ZK zJ zI jH jR ZH eval zZ AM.valOf qm vO yR del SV.refers zY vQ jU shift ldV V.exact V.jg V.ofValue V.vP V.vL V.cells V.one Value.oneCell' ZI QY jV Q5 ZM ZC Qa Zy jl jI Qi ZL y8 yX Qr calm Qt Zn Qk feeds shrinks Qx looks isT Qf vK Qd putAt jT jc Zm sliceB isEq Qg zk qH zO zn qR zl zm qQ zP zi qP ZW Qw yB Zl QZ inO y7 Zi Mix.vT Mix.Qc QB QX qz qj qW zh qO ZV Qq yg yh ZG Zb yw yO Q8 jW V.fixed V.vC
attribute [local simp] vE je yL vH jQ vF vG jP yM vk jN V5 Ja yF QT Jb z0 JL VK Vo VU
def Jm (l:List Ru) (v:Vw) (z:Int) (x:Sh):Bool:=(vJ (zmC l v) v x).isSome&&decide (zmC l v x=z)
theorem qfR {l:List Ru} (hl:Yk l) (v:Vw) (z:Int) (x:Sh) {t m r c c1 c2 c3:Nat} {es:List (Value×V)} {H:List Bk} (hT:Tab H t m l es) (hM:VO l es) (h1:H[c1]? = some (wdB r c t)) (h2:H[c2]? = some (vwB v)) (h3:H[c3]? = some (zB z)) :
  AFn Tryz.prog 82 [x.v,.ptr c1 0,.ptr c2 0,.ptr c3 0] H fun y H'=>y = .sc (.bool (Jm l v z x))∧jS l t m H H':=by
 have hR:(vJ (zmC l v) v x).isSome=true→qd x.box=true:=fun h=>by
  unfold vJ at h
  split at h
  ·rename_i hc
   simp only [Bool.and_eq_true] at hc
   exact hc.2
  ·cases h
 have hZ:(vJ (zmC l v) v x).isSome=true→∀ H' es',Tab H' t m l es'→VO l es'→AFn Tryz.prog 71 [.ptr t 0,.sc (.int .i64 v.ro),.sc (.int .i64 v.ti),.sc (.int .i64 x.lab),x.box.v] H' fun y H''=>y = .sc (.int .i64 (zmC l v x))∧jS l t m H' H'':=fun h H' es' hT' hM'=>by
  have:=gOf l v.ro v.ti x.lab x.box hl.len hl.n t m es' H' hT' hM'
  rw [Ko hl.all (hR h)] at this
  exact this
 have hSe:=fun H' es' hT' hM'=>X9 hl v x r c es' H' hT' hM' (t:=t) (m:=m)
 unfold Jm
 unfold wdC Vw.cs Sh.v Sh.cs at hSe
 unfold Sh.v Sh.cs
 unfold Re.v Re.cs at hZ
 have hzz:∀ zz,(zz==z)=decide (zz=z):=fun zz=>rfl
 clear hR
 generalize vJ (zmC l v) v x=o at *
 generalize zmC l v x=zz at *
 simp only [Jf] at hSe
 have hml:=(List.getElem?_eq_some_iff.1 hT.m).1
 refine vwc (fn:=Tryz.f82) rfl ?_
 simp only [Tryz.f82,ql]
 refine AW.seq (vwa [(2,14,[7,1,2,4,3])] ?_)
 simp
 change AW _ _ _ _ ⟨_,H ++ [jJ x]⟩
 have k1:vI m H (H ++ [jJ x]) := .app
 have e1:=hget (L := [jJ x]) h1
 have e2:=hget (L := [jJ x]) h2
 have e3:=hget (L := [jJ x]) h3
 have e4:(H ++ [jJ x])[H.length]? = some (jJ x):=by simp
 have hT1:=hT.stays (.app (L := [jJ x]))
 generalize H ++ [jJ x]=H1 at *
 generalize H.length=i0 at *
 have e1':=e1
 have e2':=e2
 have e4':=e4
 unfold wdB at e1'
 unfold vwB at e2'
 unfold jJ at e4'
 refine AW.seq (vwa [(2,14,[7,1,2,4,3])] ?_)
 simp [e1',e2',e4']
 refine qc.of (hSe _ _ hT1 hM) ?_
 rintro y H2 ⟨rfl,kK⟩
 have f1:=kK.2.cells (qh e1 hT1.m) e1
 have f2:=kK.2.cells (qh e2 hT1.m) e2
 have f3:=kK.2.cells (qh e3 hT1.m) e3
 have f4:=kK.2.cells (qh e4 hT1.m) e4
 have kK2:=jS.trans k1 kK
 clear e1 e2 e3 e4 e1' e2' e4' kK k1
 simp
 rw [qp rfl]
 have hpx:Bk.cells ([V.sc (.int .i64 (o.getD qw).id),V.sc (.int .i64 (o.getD qw).lv),V.sc (.int .i64 (o.getD qw).box.x0),V.sc (.int .i64 (o.getD qw).box.y0),V.sc (.int .i64 (o.getD qw).box.x1),V.sc (.int .i64 (o.getD qw).box.y1)].map SV.v)=seB (o.getD qw):=rfl
 rw [hpx]
 have g1:=hget (L := [seB (o.getD qw)]) f1
 have g2:=hget (L := [seB (o.getD qw)]) f2
 have g3:=hget (L := [seB (o.getD qw)]) f3
 have g4:=hget (L := [seB (o.getD qw)]) f4
 have kK3:=kK2.app (L := [seB (o.getD qw)])
 clear f1 f2 f3 f4 kK2
 generalize H2 ++ [seB (o.getD qw)]=H3 at *
 generalize H2.length=i1 at *
 have g1':=g1
 have g2':=g2
 have g3':=g3
 have g4':=g4
 unfold wdB at g1'
 unfold vwB at g2'
 unfold zB at g3'
 unfold jJ at g4'
 obtain ⟨⟨es3,t3,m3⟩,s3⟩:=kK3
 cases o with
 | none =>
  refine AW.seq (vwa [(2,14,[7,1,2,4,3])] ?_)
  simp
  refine vwa [(2,14,[7,1,2,4,3])] ?_
  simp
  exact ⟨⟨es3,t3,m3⟩,s3⟩
 | some s =>
  refine AW.seq (vwa [(2,14,[7,1,2,4,3])] ?_)
  simp [g1',g2',g3',g4']
  refine qc.of (hZ rfl _ _ t3 m3) ?_
  rintro y H4 ⟨rfl,kK⟩
  have kp4:=eq_true (kK.w.Va t3)
  have c3:=kK.2.cells (qh g3 t3.m) g3
  unfold zB at c3
  simp [g1',g2',g3',g4',kp4,c3]
  refine vwa [(2,14,[7,1,2,4,3])] ?_
  simp [hzz]
  exact jS.trans s3 kK
def Vl (S:List Sh) (kp:Sh→Bool) (p:Pt) (l n:Int):List Sh:=qaV Sh.id (Zp p l) S kp n
theorem qel {S:List Sh} (hS:(S.map Sh.id).Nodup) {kp:Sh→Bool} {p:Pt} {l n:Int} {R:List Sh} (h:qeD S kp p l n R):R=Vl S kp p l n:=qfY (i:=Sh.id) (ent:=Zp p l) (fun _=>rfl) hS h.1 h.2
def NcC (l:List Ru) (v:Vw) (S:List Sh) (Tt:Nat→Prop) (t m r c f q mf c2 c3 c4 c5 c6:Nat) (p:Pt) (mm:Int) (X:List (Int×Se)) (L:List Sh) (H0:List Bk) (k:Nat) (F:Fr) (H:List Bk):Prop :=
 WJC l v S Tt t m r c f q mf (X++yZ (vJ (zmC l v) v) p (L.take k)) H∧H[c2]? = some (wdB r c t)∧H[c3]? = some (vwB v)∧H[c4]? = some (ptB p)∧H[c5]? = some (zB mm)∧H[c6]? = some (.cells [.v (.ptr f 0)])∧Kp (fun x=>x=q∨x=mf∨x=m) H0 H ∧
  F = [(2,.v (.ptr c2 0)),(3,.v (.ptr c3 0)),(4,.v (.ptr c4 0)),(6,.v (.ptr c6 0)),(21,.v (slS L)),(22,.v (.sc (.int .i64 L.length))),(23,.v (.sc (.int .i64 k)))]
theorem qik {l:List Ru} (hl:Yk l) (v:Vw) {S:List Sh} {Tt:Nat→Prop} {t m r c f q mf c2 c3 c4 c5 c6:Nat} {p:Pt} {X:List (Int×Se)} {H:List Bk} (hd:WD Tt m q mf) (h:WJC l v S Tt t m r c f q mf X H)
  (h2:H[c2]? = some (wdB r c t)) (h3:H[c3]? = some (vwB v)) (h4:H[c4]? = some (ptB p)) {mm:Int} (h5:H[c5]? = some (zB mm)) (h6:H[c6]? = some (.cells [.v (.ptr f 0)])) (z lv:Int) (hf:fits p=true) (hlv:vR lv=true) (hS:S.length≤1000)
  (hnd:((X++yZ (vJ (zmC l v) v) p (Vl S (Jm l v z) p lv mm)).map fun x=>x.2.id).Nodup) (hlen:X.length+(Vl S (Jm l v z) p lv mm).length≤100000) :
  AFn Tryz.prog 81 [.sc (.int .i64 z),.sc (.int .i64 lv),.ptr c2 0,.ptr c3 0,.ptr c4 0,.ptr c5 0,.ptr c6 0] H fun y H'=>y = .tup []∧WJC l v S Tt t m r c f q mf (X++yZ (vJ (zmC l v) v) p (Vl S (Jm l v z) p lv mm)) H'∧Kp (fun x=>x=q∨x=mf∨x=m) H H':=by
 have hids:=h.tr.ids
 refine vwc (fn:=Tryz.f81) rfl ?_
 simp only [Tryz.f81,ql]
 refine AW.seq (vwa [(6,6,[6,12,4])] ?_)
 simp
 change AW _ _ _ _ ⟨_,H ++ [zB z]⟩
 have e2:=hget (L := [zB z]) h2
 have e3:=hget (L := [zB z]) h3
 have e4:=hget (L := [zB z]) h4
 have e5:=hget (L := [zB z]) h5
 have e6:=hget (L := [zB z]) h6
 have e7:(H ++ [zB z])[H.length]? = some (zB z):=by simp
 have hJ:=h.app (L := [zB z])
 have kp:Kp (fun x=>x=q∨x=mf∨x=m) H (H ++ [zB z]):=Kp.refl.app
 generalize H ++ [zB z]=H1 at *
 generalize H.length=i0 at *
 refine AW.seq (vwa [(6,6,[6,12,4])] ?_)
 simp
 obtain ⟨es1,t1,m1⟩:=hJ.tab
 have hkp:qeE (.fn (.func 82) [] [.ptr c2 0,.ptr c3 0,.ptr i0 0]) (Jm l v z) (fun Hx=>(∃ es,Tab Hx t m l es∧VO l es)∧Hx[c2]? = some (wdB r c t)∧Hx[c3]? = some (vwB v)∧Hx[i0]? = some (zB z)) (fun x=>x=t∨x=m∨x=c2∨x=c3∨x=i0) m:=by
  refine ⟨fun Hx Hy ⟨⟨es,a1,a2⟩,a3,a4,a5⟩ k=>⟨⟨es,⟨k.cells (fun e=>e (.inl rfl)) a1.t,k.map (fun e=>e (.inr (.inl rfl))) a1.m⟩,a2⟩,k.cells (fun e=>e (.inr (.inr (.inl rfl)))) a3,k.cells (fun e=>e (.inr (.inr (.inr (.inl rfl))))) a4,k.cells (fun e=>e (.inr (.inr (.inr (.inr rfl))))) a5⟩,⟨_,_,rfl,rfl,fun Hx s ⟨⟨es,a1,a2⟩,a3,a4,a5⟩ => ?_⟩⟩
  refine (qfR hl v z s a1 a2 a3 a4 a5).mono' ?_
  rintro y Hy ⟨rfl,kK⟩
  exact ⟨rfl,⟨kK.1,kK.2.cells (qh a3 a1.m) a3,kK.2.cells (qh a4 a1.m) a4,kK.2.cells (qh a5 a1.m) a5⟩,kK.2⟩
 have hlt:=fun {i:Nat} {b:Bk} (h:H1[i]? = some b)=>(List.getElem?_eq_some_iff.1 h).1
 have hN:=qit hJ.tr hS p mm lv _ _ hkp ⟨⟨es1,t1,m1⟩,e2,e3,e7⟩ (fun x hx=>by
  rcases hx with rfl | rfl | rfl | rfl | rfl
  ·exact hlt t1.t
  ·exact hlt t1.m
  ·exact hlt e2
  ·exact hlt e3
  ·exact hlt e7) (hlt t1.m) (fun e=>hd.tm _ e rfl) hf hlv
 unfold Pt.v Pt.cs at hN
 have e2':=e2
 have e4':=e4
 have e5':=e5
 unfold wdB at e2'
 unfold ptB at e4'
 unfold zB at e5'
 refine AW.seq (vwa [(6,6,[6,12,4])] ?_)
 simp [e2',e4',e5']
 refine qc.of hN ?_
 rintro y H2 ⟨R,rfl,hR,⟨tab2,f2,f3,_⟩,k2⟩
 have hRe:=qel hids hR
 rw [← hRe] at hnd hlen ⊢
 have f4:=k2.cells (qh e4 t1.m) e4
 have f5:=k2.cells (qh e5 t1.m) e5
 have f6:=k2.cells (qh e6 t1.m) e6
 have hJ2:=hJ.kept hd ⟨tab2,fun i b hi hb hn=>k2 i b hi hb hn⟩
 have kp2:=kp.trans (k2.weak (J:=fun x=>x=q∨x=mf∨x=m) fun x hx => .inr (.inr hx))
 have hsee:∀ s∈R,∃ o,vJ (zmC l v) v s=some o:=fun s hs=>by
  have h1:=(List.mem_filter.1 (hR.2 s hs)).2
  simp only [Jm,Bool.and_eq_true] at h1
  exact Option.isSome_iff_exists.1 h1.1
 unfold slS
 simp
 clear hN hR hRe hkp hlt e2 e3 e4 e5 e6 e7 e2' e4' e5' kp hJ tab2 t1 m1 k2
 refine AW.block (AW.count R.length (NcC l v S Tt t m r c f q mf c2 c3 c4 c5 c6 p mm X R H) ⟨_,?_,by simpa [yZ] using hJ2,f2,f3,f4,f5,f6,kp2,rfl⟩ ?_)
 ·simp [qz,qj,qm,slS]
 clear hJ2 f2 f3 f4 f5 f6 kp2
 rintro k F H3 hk ⟨hJ3,g2,g3,g4,g5,g6,kp3,rfl⟩
 unfold slS
 refine AW.seq (vwa [(6,6,[6,12,4])] ?_)
 by_cases hlt:k<R.length
 ·have ew:IntKind.i64.wrap ((k:Int)+1)=k+1:=wrap_i64 (by omega) (by omega)
  have htk:R.take (k+1)=R.take k ++ [R[k]]:=List.take_succ_eq_append_getElem hlt
  obtain ⟨o,ho⟩:=hsee _ (List.getElem_mem hlt)
  have hsn:yZ (vJ (zmC l v) v) p (R.take (k+1))=yZ (vJ (zmC l v) v) p (R.take k) ++ [(Zu o.box p,o)]:=by
   rw [htk,Xy]
   simp [yZ,ho]
  have hlast:∀ x∈X++yZ (vJ (zmC l v) v) p (R.take k),x.2.id≠o.id:=by
   refine KT (x:=(Zu o.box p,o)) ?_
   rw [List.append_assoc,← hsn]
   have e:yZ (vJ (zmC l v) v) p R=yZ (vJ (zmC l v) v) p (R.take (k+1))++yZ (vJ (zmC l v) v) p (R.drop (k+1)):=by rw [← Xy,List.take_append_drop]
   rw [e,← List.append_assoc,List.map_append] at hnd
   exact (List.nodup_append.1 hnd).1
  have hlen1:(X++yZ (vJ (zmC l v) v) p (R.take k)).length≤100000:=by
   have:=Xx (vJ (zmC l v) v) p (R.take k)
   rw [List.length_take] at this
   rw [List.length_append]
   omega
  simp [hlt]
  refine vwa [(6,6,[6,12,4])] ?_
  simp [Xo hlt,hlt]
  rw [qp rfl]
  have hpr:Bk.cells ([V.sc (.int .i64 R[k].id),V.sc (.int .i64 R[k].box.x0),V.sc (.int .i64 R[k].box.y0),V.sc (.int .i64 R[k].box.x1),V.sc (.int .i64 R[k].box.y1),V.sc (.int .i64 R[k].lab)].map SV.v)=jJ R[k]:=rfl
  rw [hpr]
  have e2:=hget (L := [jJ R[k]]) g2
  have e3:=hget (L := [jJ R[k]]) g3
  have e4:=hget (L := [jJ R[k]]) g4
  have e5:=hget (L := [jJ R[k]]) g5
  have e6:=hget (L := [jJ R[k]]) g6
  have e7:(H3 ++ [jJ R[k]])[H3.length]? = some (jJ R[k]):=by simp
  have hJ:=hJ3.app (L := [jJ R[k]])
  have kp:=kp3.app (L := [jJ R[k]])
  clear hJ3 g2 g3 g4 g5 g6 kp3
  generalize H3 ++ [jJ R[k]]=H1 at *
  generalize H3.length=i1 at *
  have e2':=e2
  have e3':=e3
  have e7':=e7
  unfold wdB at e2'
  unfold vwB at e3'
  unfold jJ at e7'
  simp [e2',e3',e7']
  obtain ⟨es,t1,m1⟩:=hJ.tab
  have hSe:=X9 hl v R[k] r c es H1 t1 m1
  rw [ho] at hSe
  unfold wdC Vw.cs Sh.v Sh.cs at hSe
  rw [Jf] at hSe
  refine qc.of hSe ?_
  rintro y H5 ⟨rfl,kK⟩
  have kK:=kK.w
  have a2:=kK.2.cells (qh e2 t1.m) e2
  have a3:=kK.2.cells (qh e3 t1.m) e3
  have a4:=kK.2.cells (qh e4 t1.m) e4
  have a5:=kK.2.cells (qh e5 t1.m) e5
  have a6:=kK.2.cells (qh e6 t1.m) e6
  have hJ5:=hJ.kept hd kK
  have kp5:Kp (fun x=>x=q∨x=mf∨x=m) H H5:=kp.trans (fun i b hi hb hn=>kK.2 i b (fun e=>hi (.inr (.inr e))) hb hn)
  clear e2 e3 e4 e5 e6 e7 e2' e3' e7' hJ kp kK hSe t1 m1
  simp
  rw [qp rfl]
  have hpx:Bk.cells ([V.sc (.int .i64 o.id),V.sc (.int .i64 o.lv),V.sc (.int .i64 o.box.x0),V.sc (.int .i64 o.box.y0),V.sc (.int .i64 o.box.x1),V.sc (.int .i64 o.box.y1)].map SV.v)=seB o:=rfl
  rw [hpx]
  have b2:=hget (L := [seB o]) a2
  have b3:=hget (L := [seB o]) a3
  have b4:=hget (L := [seB o]) a4
  have b5:=hget (L := [seB o]) a5
  have b6:=hget (L := [seB o]) a6
  have b7:(H5 ++ [seB o])[H5.length]? = some (seB o):=by simp
  have hJ6:=hJ5.app (L := [seB o])
  have kp6:=kp5.app (L := [seB o])
  clear a2 a3 a4 a5 a6 hJ5 kp5
  generalize H5 ++ [seB o]=H6 at *
  generalize H5.length=i2 at *
  have b4':=b4
  have b7':=b7
  unfold ptB at b4'
  unfold seB at b7'
  have hD:=qhf o.box p
  unfold Re.v Re.cs Pt.v Pt.cs at hD
  have hP:=qiJ hJ6.fd (Zu o.box p) o hlast hlen1
  unfold Se.cs at hP
  generalize Zu o.box p=dd at *
  simp [b4',b6,b7']
  refine qc.pure hD rfl rfl ?_
  simp [b4',b6,b7']
  refine qc.of hP ?_
  rintro y H7 ⟨rfl,hY,k7⟩
  have hJ7:=hJ6.put hd k7 hY
  obtain ⟨hs,hq,_⟩:=hJ6.fd.q
  have kp7:=eq_true (qeU hq hJ6.fd.m k7)
  have n2:∀ {i:Nat} {a:V} {cs:List SV},H6[i]? = some (.cells (.v a::cs))→¬ (i=q∨i=mf):=fun hi e=>e.elim (Ky hi hq) (qh hi hJ6.fd.m)
  have d4:=k7.cells (n2 b4') b4'
  have d6:=k7.cells (n2 b6) b6
  have d7:=k7.cells (n2 b7') b7'
  simp [b4',b6,b7',kp7,d4,d6,d7,ew]
  refine ⟨_,?_,by rw [hsn,← List.append_assoc]; exact hJ7,k7.cells (n2 b2) b2,k7.cells (n2 b3) b3,k7.cells (n2 b4) b4,k7.cells (n2 b5) b5,d6,kp6.trans (k7.weak fun x hx=>hx.elim .inl fun e => .inr (.inl e)),rfl⟩
  simp [qz,qj,qm,slS]
 ·simp [hlt]
  have hkT:k=R.length:=by omega
  refine AW.seq (vwa [(6,6,[6,12,4])] ?_)
  simp
  rw [hkT,List.take_length] at hJ3
  exact ⟨hJ3,kp3⟩
theorem qcQ {S:List Sh} (hS:(S.map Sh.id).Nodup) {kp:Sh→Bool} {p:Pt} {l n:Int} {t:Sh} (h:t∈Vl S kp p l n):t∈S∧kp t=true:=X0 (i:=Sh.id) (ent:=Zp p l) (fun _=>rfl) hS h
theorem qaW {S:List Sh} (hS:(S.map Sh.id).Nodup) (kp:Sh→Bool) (p:Pt) (l n:Int):((Vl S kp p l n).map Sh.id).Nodup:=qaU (i:=Sh.id) (ent:=Zp p l) (fun _=>rfl) hS kp n
theorem K6 (S:List Sh) (kp:Sh→Bool) (p:Pt) (l n:Int):(Vl S kp p l n).length≤S.length:=qeR (i:=Sh.id) (ent:=Zp p l) S kp n
def QM (l:List Ru) (v:Vw) (p:Pt) (mm:Int) (S:List Sh) (D:List Int):List (Int×Se):=J9 (vJ (zmC l v) v) (fun s=>Zu s.box p) (fun z=>Vl S (Jm l v z) p (lvl v z) mm) D
theorem Y4 (l:List Ru) (v:Vw) (p:Pt) (mm:Int) (S:List Sh) (D:List Int) (z:Int):QM l v p mm S (D ++ [z])=QM l v p mm S D++yZ (vJ (zmC l v) v) p (Vl S (Jm l v z) p (lvl v z) mm):=by
 rw [XZ]
 simp [QM,J9]
theorem Yw {l:List Ru} {v:Vw} {p:Pt} {mm:Int} {S:List Sh} {D:List Int} (hS:(S.map Sh.id).Nodup) (hD:D.Nodup):((QM l v p mm S D).map fun x=>x.2.id).Nodup :=
 Yv (Z:=zmC l v) hS (fun t s h=>VX h) (fun z _=>⟨qaW hS _ _ _ _,fun t ht=>by
  obtain ⟨h1,h2⟩:=qcQ hS ht
  simp only [Jm,Bool.and_eq_true,decide_eq_true_eq] at h2
  exact ⟨h1,h2.2⟩⟩) hD
theorem Yb (l:List Ru) (v:Vw) (p:Pt) (mm:Int) (S:List Sh):∀ D:List Int,(QM l v p mm S D).length≤D.length*S.length
 | []=>by simp [QM,J9]
 | z::D=>by
  have h1:=Yb l v p mm S D
  have h2:=Xx (vJ (zmC l v) v) p (Vl S (Jm l v z) p (lvl v z) mm)
  have h3:=K6 S (Jm l v z) p (lvl v z) mm
  have e:QM l v p mm S (z::D)=yZ (vJ (zmC l v) v) p (Vl S (Jm l v z) p (lvl v z) mm)++QM l v p mm S D:=by
   rw [XZ]
   simp [QM,J9]
  rw [e,List.length_append,List.length_cons,Nat.add_mul]
  omega
theorem qfQ {l:List Ru} (hl:Yk l) (v:Vw) {S:List Sh} {Tt:Nat→Prop} {t m r c:Nat} {es:List (Value×V)} {H:List Bk} (hT:Tab H t m l es) (hM:VO l es) (ht:TrS H c S Tt) (htm:∀ x,Tt x→x≠m) (hS:S.length≤50) (hz:(jZ l v).length≤1000) (hzr:∀ z∈jZ l v,0≤z∧z≤16) (p:Pt) (mm:Int) :
  AFn Tryz.prog 32 [wdC r c t,.agg v.cs,p.v,.sc (.int .i64 mm)] H fun y H'=>Kept l t m H H'∧(yN v mm (fits p)≠0→y = .tup [.nil,.sc (.int .i64 1)]) ∧
   (yN v mm (fits p)=0→∃ R,y = .tup [QA R,.sc (.int .i64 0)]∧∀ Y:List (Int×Se),Y.Perm (QM l v p mm S (lvls v (jZ l v)))→Y.Pairwise (fun a b=>(Yd b).lt (Yd a)=false)→R=(Y.take mm.toNat).map (·.2)):=by
 have hA:=fun H=>qim v mm (fits p) r c t H
 have hR:=KG p
 have hml:=(List.getElem?_eq_some_iff.1 hT.m).1
 have htl:=(List.getElem?_eq_some_iff.1 hT.t).1
 have hrl:=ht.lt
 unfold wdC Vw.cs at hA ⊢
 unfold Pt.v Pt.cs at hR ⊢
 refine vwc (fn:=Tryz.f32) rfl ?_
 simp only [Tryz.f32,ql]
 refine AW.seq (vwa [(1,5,[4,5,7,6])] ?_)
 simp
 have k1:Kp NoB H (H ++ [wdB r c t,vwB v,ptB p,zB mm]):=Kp.refl.app
 have e0:(H ++ [wdB r c t,vwB v,ptB p,zB mm])[H.length]? = some (wdB r c t):=by simp
 have e1:(H ++ [wdB r c t,vwB v,ptB p,zB mm])[H.length+1]? = some (vwB v):=by simp
 have e2:(H ++ [wdB r c t,vwB v,ptB p,zB mm])[H.length+2]? = some (ptB p):=by simp
 have e3:(H ++ [wdB r c t,vwB v,ptB p,zB mm])[H.length+3]? = some (zB mm):=by simp
 change AW _ _ _ _ ⟨_,H ++ [wdB r c t,vwB v,ptB p,zB mm]⟩
 generalize H ++ [wdB r c t,vwB v,ptB p,zB mm]=H1 at *
 have n0:H.length≤H.length:=Nat.le_refl _
 have n1:H.length≤H.length+1:=by omega
 have n2:H.length≤H.length+2:=by omega
 generalize H.length+1=i1 at *
 generalize H.length+2=i2 at *
 have n3:H.length≤H.length+3:=by omega
 generalize H.length+3=i4 at *
 have e0':=e0
 have e1':=e1
 have e2':=e2
 have e3':=e3
 unfold wdB at e0'
 unfold vwB at e1'
 unfold ptB at e2'
 unfold zB at e3'
 refine AW.seq (AW.seq (vwa [(1,5,[4,5,7,6])] ?_))
 simp [e0',e1',e2',e3']
 refine qc.pure hR rfl rfl ?_
 simp [e0',e1',e2',e3']
 refine qc.of (hA H1) ?_
 rintro y H2 ⟨rfl,k2⟩
 have kp2:=k2.YF (fun x h=>h)
 have f0:=k2.cells id e0
 have f1:=k2.cells id e1
 have f2:=k2.cells id e2
 have f3:=k2.cells id e3
 have f0':=f0
 have f1':=f1
 have f2':=f2
 have f3':=f3
 unfold wdB at f0'
 unfold vwB at f1'
 unfold ptB at f2'
 unfold zB at f3'
 have k3:=k1.trans k2
 have hKT:Kept l t m H H2:=⟨⟨es,⟨k3.cells id hT.t,k3.map id hT.m⟩,hM⟩,fun i b _ hb hn=>k3 i b id hb hn⟩
 simp [e0',e1',e2',e3',f0',f1',f2',f3',kp2]
 refine vwa [(1,5,[4,5,7,6])] ?_
 by_cases ha:yN v mm (fits p)=0
 rotate_left
 ·have ha1:yN v mm (fits p)=1:=by unfold yN at ha ⊢; split at ha <;> first | exact absurd rfl ha | simp_all
  have ha':(yN v mm (fits p) != 0)=true:=by simpa using ha
  simp [ha,ha',ha1]
  exact hKT
 have ha':(yN v mm (fits p) != 0)=false:=by simpa using ha
 have hvf:yG v=true∧fits p=true:=by
  unfold yN at ha
  split at ha
  ·rename_i h
   simp only [Bool.and_eq_true] at h
   exact ⟨h.1.1.1,h.1.1.2⟩
  ·cases ha
 obtain ⟨hvr,hfp⟩:=hvf
 simp [ha,ha']
 refine AW.seq (vwa [(1,5,[4,5,7,6])] ?_)
 simp
 refine qc.of (qdy H2) ?_
 rintro y H3 ⟨f,q,mf,rfl,hF,l1,l2,l3,k4⟩
 simp
 rw [qp rfl]
 have g0:=hget (L := [Bk.cells ([V.ptr f 0].map SV.v)]) (k4.cells id f0)
 have g1:=hget (L := [Bk.cells ([V.ptr f 0].map SV.v)]) (k4.cells id f1)
 have g2:=hget (L := [Bk.cells ([V.ptr f 0].map SV.v)]) (k4.cells id f2)
 have g4:=hget (L := [Bk.cells ([V.ptr f 0].map SV.v)]) (k4.cells id f3)
 have g3:(H3 ++ [Bk.cells ([V.ptr f 0].map SV.v)])[H3.length]? = some (.cells [.v (.ptr f 0)]):=by simp
 have hF4:=hF.app (L := [Bk.cells ([V.ptr f 0].map SV.v)])
 have k5:Kp NoB H (H3 ++ [Bk.cells ([V.ptr f 0].map SV.v)]):=(k3.trans k4).app
 have hlen2:H.length<H2.length:=(List.getElem?_eq_some_iff.1 f0).1
 generalize H3 ++ [_]=H4 at *
 generalize H3.length=i3 at *
 clear e0 e1 e2 e3 e0' e1' e2' e3' f0 f1 f2 f3 f0' f1' f2' f3' kp2 k2 k4 k3 hF k1 hKT
 have hTb4:Tab H4 t m l es:=⟨k5.cells id hT.t,k5.map id hT.m⟩
 have ht4:=ht.Vb k5
 have hd:WD Tt m q mf:=⟨htm,fun x hx=>by have:=hrl x hx; omega,fun x hx=>by have:=hrl x hx; omega,by omega⟩
 have hJ4:WJC l v S Tt t m r c f q mf (QM l v p mm S []) H4:=⟨⟨es,hTb4,hM⟩,ht4,hF4⟩
 have hTe:qmK l v t m 81 [.ptr H.length 0,.ptr i1 0,.ptr i2 0,.ptr i4 0,.ptr i3 0] (jZ l v) (fun D Hx=>WJC l v S Tt t m r c f q mf (QM l v p mm S D) Hx∧Hx[H.length]? = some (wdB r c t)∧Hx[i1]? = some (vwB v)∧Hx[i2]? = some (ptB p)∧Hx[i4]? = some (zB mm)∧Hx[i3]? = some (.cells [.v (.ptr f 0)])) (fun x=>x=q∨x=mf∨x=m):=by
  refine ⟨fun D Hx hx=>hx.1.tab,fun D Hx Hy ⟨h,a1,a2,a3,a4,a5⟩ k => ?_,rfl,fun k hk Hx h0 ⟨h,a1,a2,a3,a4,a5⟩ => ?_⟩
  ·obtain ⟨es',t1,_⟩:=h.tab
   exact ⟨h.kept hd k,k.2.cells (qh a1 t1.m) a1,k.2.cells (qh a2 t1.m) a2,k.2.cells (qh a3 t1.m) a3,k.2.cells (qh a4 t1.m) a4,k.2.cells (qh a5 t1.m) a5⟩
  ·have hlk:lvls v ((jZ l v).take (k+1))=lvls v ((jZ l v).take k) ++ [(jZ l v)[k]]:=by rw [List.take_succ_eq_append_getElem hk,K9,if_neg h0]
   have hnd:=Yw (l:=l) (v:=v) (p:=p) (mm:=mm) ht.ids (VN (Zd l v) (k+1) (v:=v))
   rw [hlk,Y4] at hnd
   have hln:(QM l v p mm S (lvls v ((jZ l v).take k))).length+(Vl S (Jm l v (jZ l v)[k]) p (lvl v (jZ l v)[k]) mm).length≤100000:=by
    have b1:=Yb l v p mm S (lvls v ((jZ l v).take k))
    have b2:=K6 S (Jm l v (jZ l v)[k]) p (lvl v (jZ l v)[k]) mm
    have b3:=Yz v ((jZ l v).take k)
    rw [List.length_take] at b3
    have b4:(lvls v ((jZ l v).take k)).length*S.length≤1000*50:=Nat.mul_le_mul (by omega) hS
    omega
   refine AFn.conv (qik hl v hd h a1 a2 a3 a4 a5 _ _ hfp (zy.2 (KM hvr (hzr _ (List.getElem_mem hk)))) (by omega) hnd hln) ?_
   rintro y Hy ⟨rfl,h',k'⟩
   obtain ⟨hs,hq,_⟩:=h.fd.q
   obtain ⟨es',t1,_⟩:=h.tab
   have nn:∀ {i:Nat} {a:V} {cs:List SV},Hx[i]? = some (.cells (.v a::cs))→¬ (i=q∨i=mf∨i=m):=fun hi e=>by
    rcases e with e | e | e
    ·exact Ky hi hq e
    ·exact qh hi h.fd.m e
    ·exact qh hi t1.m e
   refine ⟨_,⟨rfl,⟨by rw [Y4]; exact h',k'.cells (nn a1) a1,k'.cells (nn a2) a2,k'.cells (nn a3) a3,k'.cells (nn a4) a4,k'.cells (nn a5) a5⟩,k'⟩,fun _ _ _ h=>h⟩
 have hll:∀ x,x=q∨x=mf∨x=m→x<H4.length:=fun x hx=>by
  obtain ⟨hs,⟨_,hq,_⟩,_⟩:=hF4.q
  rcases hx with rfl | rfl | rfl
  ·exact (List.getElem?_eq_some_iff.1 hq).1
  ·exact (List.getElem?_eq_some_iff.1 hF4.m).1
  ·exact (List.getElem?_eq_some_iff.1 hTb4.m).1
 have hLv:=qbO hl v r c (jZ l v) rfl (by omega) hTe hll (.inr (.inr rfl)) ⟨hJ4,g0,g1,g2,g4,g3⟩
 unfold wdC Vw.cs at hLv
 have g0':=g0
 have g1':=g1
 unfold wdB at g0'
 unfold vwB at g1'
 refine AW.seq (vwa [(1,5,[4,5,7,6])] ?_)
 simp [g0',g1']
 refine qc.of hLv ?_
 rintro y H5 ⟨rfl,⟨hJ5,a1,a2,a3,a5,a4⟩,k6⟩
 obtain ⟨hs,hq,hp⟩:=hJ5.fd.q
 have hnd:=Yw (l:=l) (v:=v) (p:=p) (mm:=mm) ht.ids ((Zd l v).sublist (List.filter_sublist (p:=fun z => !decide (lvl v z=0))))
 have hln:(QM l v p mm S (lvls v (jZ l v))).length≤100000:=by
  have b1:=Yb l v p mm S (lvls v (jZ l v))
  have b3:=Yz v (jZ l v)
  have b4:(lvls v (jZ l v)).length*S.length≤1000*50:=Nat.mul_le_mul (by omega) hS
  omega
 have hFi:=qdx hJ5.fd.f hJ5.fd.m hq hp hnd hln mm
 simp [a4]
 have a5':=a5
 unfold zB at a5'
 refine AW.seq (vwa [(1,5,[4,5,7,6])] ?_)
 simp [a4,a5']
 refine qc.of hFi ?_
 rintro y H6 ⟨rfl,k7⟩
 unfold QA
 simp
 have hsr:Srt hs:=by
  obtain ⟨_,_,_,_,h⟩:=hq
  exact h
 have hqt:∀ {i:Nat} {a:V} {cs:List SV},H5[i]? = some (.cells (.v a::cs))→¬ i=q:=fun hi e=>Ky hi hq e
 have hqm:∀ {i:Nat} {es:List (Value×V)},H5[i]? = some (.map es)→¬ i=q:=fun hi e=>by
  obtain ⟨_,hq1,_⟩:=hq
  exact qh hq1 hi e.symm
 refine vwa [(1,5,[4,5,7,6])] ?_
 simp
 refine ⟨?_,List.take mm.toNat (List.map (fun e=>Wh (QM l v p mm S (lvls v (jZ l v))) e.i) hs),by simp,fun Y hY hp2 => ?_⟩
 ·obtain ⟨es',t1,m1⟩:=hJ5.tab
  refine ⟨⟨es',⟨k7.cells (hqt t1.t) t1.t,k7.V8.map (hqm t1.m) t1.m⟩,m1⟩,fun i b hi hb hn => ?_⟩
  have hib:=(List.getElem?_eq_some_iff.1 hb).1
  refine k7.V8 i b (by omega) (k6 i b (fun e => ?_) (k5 i b id hb hn) hn) hn
  rcases e with e | e | e
  ·omega
  ·omega
  ·exact hi e
 ·have hnd':((QM l v p mm S (lvls v (jZ l v))).map fun x=>x.2.id).Nodup:=hnd
  have:=qb3 hnd' hY hsr hp hp2 mm.toNat
  simpa using this
section
variable {H:List Bk} {l:List Ru} {S:List Pr} {C:List Sh} {r c t m:Nat} {Tp Tc:Nat→Prop}
theorem qd2 {l:List Ru} {v:Vw} {t:Sh} {s:Se} (p:Pt) (h:vJ (zmC l v) v t=some s):Jz p s=qf1 (Zp p (lvl v (zmC l v t)) t):=by
 obtain ⟨_,_,rfl,_⟩:=V4 h
 rfl
theorem qeG (h:Z9 H l S C r c t m Tp Tc) (hl:Yk l) (hC:C.Pairwise fun a b=>a.id<b.id) (hCl:C.length≤50) (v:Vw) (p:Pt) (mm:Int) :
  AFn Tryz.prog 32 [wdC r c t,.agg v.cs,p.v,.sc (.int .i64 mm)] H fun y H'=>y=Wu (yN v mm (fits p)) (Ju (Vp l v C) p mm.toNat)∧Kept l t m H H':=by
 obtain ⟨⟨es,h1,h2⟩,h3,h4,h5,h6⟩:=h
 refine AFn.conv (qfQ hl v h1 h2 h4 h6 hCl (qe9 hl.all v) (fun z hz=>by have:=qlp hl.all hz; omega) p mm) ?_
 rintro y H' ⟨k,a1,a2⟩
 rcases qfE v mm (fits p) with e | e
 ·obtain ⟨R,rfl,hR⟩:=a2 e
  have hn:=J8 hC
  have hw:R=Ju (Vp l v C) p mm.toNat:=qcP (ZT (i:=Sh.id) (j:=Se.id) (fun t s h=>VX h) hn) (qfX (i:=Sh.id) (Z:=zmC l v) (ent:=fun z t=>Zp p (lvl v z) t) (fun t s h=>VX h) (fun _ _=>rfl) (fun _ _=>rfl) (fun t s _ h=>qd2 p h) hn (fun t _ s h=>qch hl.all h) ((Zd l v).sublist List.filter_sublist) hR)
  refine ⟨_,⟨rfl,k⟩,fun I φ w hw' => ?_⟩
  unfold Wu
  rw [if_pos e,← hw,e]
  exact hw'
 ·have:=a1 (by rw [e]; decide)
  subst this
  refine ⟨_,⟨rfl,k⟩,fun I φ w hw' => ?_⟩
  unfold Wu
  rw [if_neg (by rw [e]; decide),e]
  exact XF hw'
end
theorem has_cell {p:Pt} (hf:fits p=true) {l:Int} (hl:vR l=true):yV (jy (cellOf p l)) p=true:=by
 have hl':=zy.1 hl
 have cl:=yU hf hl'.1 hl'.2
 have b:=qcu hf hl'.1 hl'.2 (Int.le_refl _)
 have s16:side 16=1:=rfl
 simp only [jy,cellOf,s16] at b
 refine ZR.2 ⟨Qj cl,?_⟩
 simp only [jy,cellOf]
 omega
theorem in_snap {r:Re} (hr:qd r=true) {l:Int} (hl:vR l=true):inB r (zW r l).1=true:=by
 have hl':=zy.1 hl
 have h:=qkB hr hl'.1 hl'.2 (Int.le_refl _)
 have e:=Wz (r:=r) (l:=16) rfl hr
 have s16:side 16=1:=rfl
 have e2:(zW r 16).1=r:=by
  rw [e,s16]
  simp only [Int.ediv_one,Int.one_mul,Int.add_sub_cancel]
 rwa [e2] at h
def ToP (l:List Ru) (v:Vw) (S:List Pr) (x:Se):Prop:=∃ t,VY S x.id=some t∧Zq (zmP l v) v t=some x∧yV x.box t.at_=true
def ToC (l:List Ru) (v:Vw) (S:List Sh) (x:Se):Prop:=∃ t,fnd S x.id=some t∧vJ (zmC l v) v t=some x∧inB t.box x.box=true
theorem qkh {l:List Ru} {v:Vw} {S:List Pr} (hn:(S.map Pr.id).Nodup) {x:Se} (h:x∈Je l v S):ToP l v S x:=by
 obtain ⟨t,ht,hs⟩:=List.mem_filterMap.1 h
 obtain ⟨h1,h2,h3,h4,h5,h6,h7⟩:=qam (qbu l v t) hs
 refine ⟨t,?_,hs,?_⟩
 ·rw [h3]; exact qok hn ht
 ·rw [h6]; exact has_cell h2 h7
theorem fnd_ofC {S:List Sh} (hn:(S.map Sh.id).Nodup) {s:Sh} (hs:s∈S):fnd S s.id=some s:=by
 cases h:fnd S s.id with
 | none=>exact absurd rfl (qmf h s hs)
 | some t=>rw [qcA hn (qiD h).1 hs (qiD h).2]
theorem qki {l:List Ru} (ha:l.all qI=true) {v:Vw} {S:List Sh} (hn:(S.map Sh.id).Nodup) {x:Se} (h:x∈Vp l v S):ToC l v S x:=by
 obtain ⟨t,ht,hs⟩:=List.mem_filterMap.1 h
 obtain ⟨h1,h2,h3,h5⟩:=V4 hs
 have hl:=KM h1 (Yo ha v t h2)
 subst h3
 refine ⟨t,fnd_ofC hn ht,hs,in_snap h2 (zy.2 hl)⟩
theorem ql1 {D:List Se} (hD:(D.map Se.id).Nodup) (p:Pt) (m:Nat):qkr D p m (Ju D p m):=by
 have e:Ju D p m=qaV Se.id (Jz p) D (fun _=>true) (m:Int):=by
  unfold Ju qaV
  rw [List.filter_eq_self.2 (fun _ _=>rfl)]
  rfl
 have h:=qgC (i:=Se.id) (ent:=Jz p) (fun _=>rfl) hD (fun _=>true) (m:Int)
 rw [List.filter_eq_self.2 (fun _ _=>rfl)] at h
 rw [e]
 exact ⟨h,fun s hs=>(X0 (i:=Se.id) (ent:=Jz p) (fun _=>rfl) hD hs).1⟩
theorem qjQ {D:List Se} (hD:(D.map Se.id).Nodup) {p:Pt} {m:Nat} {x:Se} (h:x∈Ju D p m):x∈D:=(ql1 hD p m).2 x h
theorem qge {e:Int} {R:List Se} {x:Se} (h:x∈Vj e R):x∈R:=by
 unfold Vj at h
 split at h <;> simp_all
def DsA (l:List Ru) (v:Vw) (S:List Pr) (C:List Sh) (q:Qv) (i1 ra ca ta ma:Nat) (Ta Ua:Nat→Prop) (H:List Bk):Prop:=Z9 H l S C ra ca ta ma Ta Ua∧H[0]? = some (qvB q)∧H[i1]? = some (wdB ra ca ta)
def DsF (A B C D:List Se) (i1:Nat) (j:Nat) (k:Int):Fr := [(j,.v (.sc (.int .i64 k))),(3,.v (.ptr 0 0)),(7,.v (.ptr i1 0)),(9,.v (QA A)),(11,.v (QA B)),(13,.v (QA C)),(15,.v (QA D)),(6,.v (.sc (.bool false)))]
def DsP (A B C D:List Se) (j:Nat) (l:List Ru) (v:Vw) (S:List Pr) (CS:List Sh) (q:Qv) (i1 ra ca ta ma:Nat) (Ta Ua:Nat→Prop) (k:Int) (F:Fr) (H:List Bk):Prop:=DsA l v S CS q i1 ra ca ta ma Ta Ua H∧F=DsF A B C D i1 j k
theorem DsA.app {l:List Ru} {v:Vw} {S:List Pr} {C:List Sh} {q:Qv} {i1 ra ca ta ma:Nat} {Ta Ua:Nat→Prop} {H L:List Bk} (h:DsA l v S C q i1 ra ca ta ma Ta Ua H):DsA l v S C q i1 ra ca ta ma Ta Ua (H++L):=⟨h.1.app,hget h.2.1,hget h.2.2⟩
def DsR (k:Int) (A B C D:List Se) (j j2:Nat) (T:Se→Prop) (l:List Ru) (v:Vw) (S:List Pr) (CS:List Sh) (q:Qv) (i1 ra ca ta ma:Nat) (Ta Ua:Nat→Prop) (F:Fr) (H:List Bk):Prop:=∃ x i4,T x∧DsA l v S CS q i1 ra ca ta ma Ta Ua H∧H[i4]? = some (seB x)∧F=(j2,.v (.ptr i4 0))::DsF A B C D i1 j k
theorem qk9 (q:Qv) (r:List Pr) (s:List Sh) (hl:q.l.length≤1048576) (hn:(qg q.l).length≤1048576) (hr:r.length≤300000) (hs:s.length≤300000):AFn Tryz.prog 10 [q.w,lV r,slS s] [] fun y _=>y = .sc (.bool true):=by
 have hb:∀ x∈q.l,x.boxes.length≤4398046511104:=fun x hx=>by have:=qbi x hx; omega
 have hK:=fun H=>qdS H
 have hW:=fun H=>qdg q.l (by omega) hb r hr s hs H
 have hF:=qgj q.l hb r s.length (s.flatMap Sh.cs)
 change PFn Tryz.prog 12 [slU q.l,lV r,slS s] _ at hF
 have c1:=yT q.l
 have c2:=VG r
 have c3:=Y9 s
 unfold Qv.w Qv.cs
 refine vwc (fn:=Tryz.f10) rfl ?_
 simp only [Tryz.f10,ql]
 refine AW.seq (vwb ?_)
 simp [slU]
 have e0 : [qvB q][0]? = some (qvB q):=rfl
 change AW _ _ _ _ ⟨_,[qvB q]⟩
 have hH0 : [qvB q].length=1:=rfl
 generalize [qvB q]=H0 at *
 have e0':=e0
 unfold qvB at e0'
 refine AW.seq (vwb ?_)
 simp [e0']
 refine qc.of (hW H0) ?_
 rintro y H1 ⟨k1,w0,w1⟩
 have f0:=k1.cells id e0
 have kp1:=eq_true (k1.YF (fun x h=>h))
 cases htb:tbR q.l with
 | false =>
  have:=w0 htb
  subst this
  simp [kp1]
  refine AW.seq (vwb ?_)
  simp
  refine qc.of (hK _) ?_
  rintro y H2 ⟨rfl,k2⟩
  simp
 | true =>
 obtain ⟨ra,ca,ta,ma,Ta,Ua,rfl,hJa⟩:=w1 htb
 have hWo:=hJa.ok.recs.qm7
 clear w0 w1 hW k1 hJa e0 e0'
 unfold wdC
 simp [kp1]
 rw [qp rfl]
 change AW _ _ _ _ ⟨_,H1 ++ [wdB ra ca ta]⟩
 have g0:=hget (L := [wdB ra ca ta]) f0
 have g1:(H1 ++ [wdB ra ca ta])[H1.length]? = some (wdB ra ca ta):=by simp
 have hWa:=hWo.app (L := [wdB ra ca ta])
 clear f0 hWo kp1
 generalize H1 ++ [wdB ra ca ta]=H2 at *
 generalize H1.length=i1 at *
 have g0':=g0
 try unfold qvB at g0'
 refine AW.seq (vwb ?_)
 simp [g0']
 refine qc.pure hF (by simp [V.qA,V.closed,c1,c2,c3]) rfl ?_
 cases hfw:ZB q.l r s.length with
 | false =>
  simp
  refine qc.of (hK _) ?_
  rintro y H3 ⟨rfl,k2⟩
  simp
 | true =>
 simp
 obtain ⟨hTb,hl7,hb10,hr30,hs12⟩:=WS htb hfw
 have hsr:=Z7 r
 have hsc:=YS s
 clear g0'
 try unfold wdB at g1
 have hnC:=J8 hsc.1
 have hnP:=J8 (i:=Pr.id) hsr.1
 have hnDC:((Vp q.l q.v (hav s)).map Se.id).Nodup:=ZT (i:=Sh.id) (j:=Se.id) (fun t s h=>VX h) hnC
 have hnDP:((Je q.l q.v (jK r)).map Se.id).Nodup:=ZT (i:=Pr.id) (j:=Se.id) (fun t s h=>qci h) hnP
 have hwa:=fun HH h=>qaK (H:=HH) (S:=jK r) (C:=hav s) (r:=ra) (c:=ca) (t:=ta) (m:=ma) (Tp:=Ta) (Tc:=Ua) h hTb hsr.1 (by omega) q.v q.r q.m
 have hwb:=fun HH h=>qhP (H:=HH) (S:=jK r) (C:=hav s) (r:=ra) (c:=ca) (t:=ta) (m:=ma) (Tp:=Ta) (Tc:=Ua) h hTb hsr.1 (by omega) q.v q.p q.m
 have hwc:=fun HH h=>qhQ (H:=HH) (S:=jK r) (C:=hav s) (r:=ra) (c:=ca) (t:=ta) (m:=ma) (Tp:=Ta) (Tc:=Ua) h hTb hsc.1 (by omega) q.v q.r q.m
 have hwd:=fun HH h=>qeG (H:=HH) (S:=jK r) (C:=hav s) (r:=ra) (c:=ca) (t:=ta) (m:=ma) (Tp:=Ta) (Tc:=Ua) h hTb hsc.1 (by omega) q.v q.p q.m
 simp only [Y3] at hwa hwb hwc hwd
 have hdl:=YZ q.l q.v (jK r)
 have hcl:=WU q.l q.v (hav s)
 have hlw:=List.length_filter_le (fun s:Se=>qE s.box q.r) (Je q.l q.v (jK r))
 rw [← qaG] at hlw
 have hlv:=List.length_filter_le (fun s:Se=>qE s.box q.r) (Vp q.l q.v (hav s))
 have hlb:=X3 (Je q.l q.v (jK r)) q.p q.m.toNat
 have hld:=X3 (Vp q.l q.v (hav s)) q.p q.m.toNat
 have tA:∀ x∈Vj (yN q.v q.m (qd q.r)) ((qdM q.l q.v q.r (jK r)).take q.m.toNat),ToP q.l q.v (jK r) x:=fun x hx=>qkh hnP (by have h:=List.mem_of_mem_take (qge hx); rw [qaG] at h; exact (List.mem_filter.1 h).1)
 have tB:∀ x∈Vj (yN q.v q.m (fits q.p)) (Ju (Je q.l q.v (jK r)) q.p q.m.toNat),ToP q.l q.v (jK r) x:=fun x hx=>qkh hnP (qjQ hnDP (qge hx))
 have tC:∀ x∈Vj (yN q.v q.m (qd q.r)) (((Vp q.l q.v (hav s)).filter fun s=>qE s.box q.r).take q.m.toNat),ToC q.l q.v (hav s) x:=fun x hx=>qki hTb.all hnC (List.mem_filter.1 (List.mem_of_mem_take (qge hx))).1
 have tD:∀ x∈Vj (yN q.v q.m (fits q.p)) (Ju (Vp q.l q.v (hav s)) q.p q.m.toNat),ToC q.l q.v (hav s) x:=fun x hx=>qki hTb.all hnC (qjQ hnDC (qge hx))
 have a1:=KI (yN q.v q.m (qd q.r)) ((qdM q.l q.v q.r (jK r)).take q.m.toNat)
 have a2:=KI (yN q.v q.m (fits q.p)) (Ju (Je q.l q.v (jK r)) q.p q.m.toNat)
 have a3:=KI (yN q.v q.m (qd q.r)) (((Vp q.l q.v (hav s)).filter fun s=>qE s.box q.r).take q.m.toNat)
 have a4:=KI (yN q.v q.m (fits q.p)) (Ju (Vp q.l q.v (hav s)) q.p q.m.toNat)
 rw [List.length_take] at a1 a3
 generalize Vj (yN q.v q.m (qd q.r)) ((qdM q.l q.v q.r (jK r)).take q.m.toNat)=A at *
 generalize Vj (yN q.v q.m (fits q.p)) (Ju (Je q.l q.v (jK r)) q.p q.m.toNat)=B at *
 generalize Vj (yN q.v q.m (qd q.r)) (((Vp q.l q.v (hav s)).filter fun s=>qE s.box q.r).take q.m.toNat)=C at *
 generalize Vj (yN q.v q.m (fits q.p)) (Ju (Vp q.l q.v (hav s)) q.p q.m.toNat)=D at *
 have nA:A.length≤1000:=by omega
 have nB:B.length≤1000:=by omega
 have nC:C.length≤1000:=by omega
 have nD:D.length≤1000:=by omega
 clear a1 a2 a3 a4 hlb hld hlw hlv hdl hcl hnDC hnDP
 generalize yN q.v q.m (qd q.r)=e1 at *
 generalize yN q.v q.m (fits q.p)=e2 at *
 have hFp:=fun (H:List Bk) (h:Z9 H q.l (jK r) (hav s) ra ca ta ma Ta Ua) (k:Int)=>pFind h.tp k
 have hFc:=fun (H:List Bk) (h:Z9 H q.l (jK r) (hav s) ra ca ta ma Ta Ua) (k:Int)=>tfind h.tc k
 have hSp:=fun (H:List Bk) (h:Z9 H q.l (jK r) (hav s) ra ca ta ma Ta Ua) (x:Pr)=>qjr h hTb q.v x
 have hSc:=fun (H:List Bk) (h:Z9 H q.l (jK r) (hav s) ra ca ta ma Ta Ua) (x:Sh)=>qgh h hTb q.v x
 generalize jK r=S at *
 generalize hav s=CS at *
 unfold wdC Vw.cs Re.v Re.cs at hwa hwc
 unfold wdC Vw.cs Pt.v Pt.cs at hwb hwd
 refine AW.seq (vwb ?_)
 simp [g0,g1]
 refine qc.of (hwa _ hWa) ?_
 rintro y H3 ⟨rfl,kK⟩
 obtain ⟨es,t1,m1⟩:=hWa.tb
 have g0:=kK.2.cells (qh g0 t1.m) g0
 have g1:=kK.2.cells (qh g1 t1.m) g1
 have kp:=eq_true (kK.Va t1)
 have hWa:=hWa.kept kK
 clear kK t1 m1
 simp [kp]
 refine AW.seq (vwb ?_)
 simp [g0,g1]
 refine qc.of (hwb _ hWa) ?_
 rintro y H4 ⟨rfl,kK⟩
 obtain ⟨es,t1,m1⟩:=hWa.tb
 have g0:=kK.2.cells (qh g0 t1.m) g0
 have g1:=kK.2.cells (qh g1 t1.m) g1
 have kp:=eq_true (kK.Va t1)
 have hWa:=hWa.kept kK
 clear kK t1 m1
 simp [kp]
 refine AW.seq (vwb ?_)
 simp [g0,g1]
 refine qc.of (hwc _ hWa) ?_
 rintro y H5 ⟨rfl,kK⟩
 obtain ⟨es,t1,m1⟩:=hWa.tb
 have g0:=kK.2.cells (qh g0 t1.m) g0
 have g1:=kK.2.cells (qh g1 t1.m) g1
 have kp:=eq_true (kK.Va t1)
 have hWa:=hWa.kept kK
 clear kK t1 m1
 simp [kp]
 refine AW.seq (vwb ?_)
 simp [g0,g1]
 refine qc.of (hwd _ hWa) ?_
 rintro y H6 ⟨rfl,kK⟩
 obtain ⟨es,t1,m1⟩:=hWa.tb
 have g0:=kK.2.cells (qh g0 t1.m) g0
 have g1:=kK.2.cells (qh g1 t1.m) g1
 have kp:=eq_true (kK.Va t1)
 have hWa:=hWa.kept kK
 clear kK t1 m1
 simp [kp]
 clear hwa hwb hwc hwd kp
 unfold wdC Vw.cs at hSp hSc
 simp only [Jf] at hSp hSc
 have hI6:DsA q.l q.v S CS q i1 ra ca ta ma Ta Ua H6:=⟨hWa,by unfold qvB; exact g0,by unfold wdB; exact g1⟩
 clear hWa g0 g1
 refine AW.seq (AW.seq (vwb ?_))
 simp
 refine AW.block (AW.count (A.length+B.length) (fun k=>DsP A B C D 17 q.l q.v S CS q i1 ra ca ta ma Ta Ua k) ⟨_,?_,hI6,rfl⟩ ?_)
 ·simp [qz,qj,qm,DsF,QA]
 rintro k F H7 hk ⟨hI7,rfl⟩
 unfold DsF
 have u1:IntKind.i64.wrap ((A.length:Int)+B.length)=(A.length:Int)+B.length:=by rw [wrap_i64] <;> omega
 have u2:IntKind.i64.wrap ((k:Int)+1)=(k:Int)+1:=by rw [wrap_i64] <;> omega
 refine AW.seq (vwb ?_)
 by_cases hlt:k<A.length+B.length
 rotate_left
 ·have hlt':¬ (k:Int)<(A.length:Int)+B.length:=by omega
  simp [QA,u1,hlt,hlt']
  refine AW.seq (AW.seq (vwb ?_))
  simp
  refine AW.block (AW.count (C.length+D.length) (fun k=>DsP A B C D 23 q.l q.v S CS q i1 ra ca ta ma Ta Ua k) ⟨_,?_,hI7,rfl⟩ ?_)
  ·simp [qz,qj,qm,DsF,QA]
  rintro k F H8 hk ⟨hI8,rfl⟩
  unfold DsF
  have u1:IntKind.i64.wrap ((C.length:Int)+D.length)=(C.length:Int)+D.length:=by rw [wrap_i64] <;> omega
  have u2:IntKind.i64.wrap ((k:Int)+1)=(k:Int)+1:=by rw [wrap_i64] <;> omega
  refine AW.seq (vwb ?_)
  by_cases hlt:k<C.length+D.length
  rotate_left
  ·have hlt':¬ (k:Int)<(C.length:Int)+D.length:=by omega
   simp [QA,u1,hlt,hlt']
   refine vwb ?_
   simp
   refine qc.of (hK _) ?_
   rintro y HH ⟨rfl,k2⟩
   simp
  have hlt':(k:Int)<(C.length:Int)+D.length:=by omega
  simp [QA,u1,hlt,hlt']
  refine AW.seq (AW.block (AW.seq (vwb ?_)))
  simp
  rw [qp rfl]
  refine AW.mid (DsR k A B C D 23 24 (ToC q.l q.v CS) q.l q.v S CS q i1 ra ca ta ma Ta Ua) ?_ ?_
  ·refine AW.seq (vwb ?_)
   by_cases hA:k<C.length
   ·have r1:=qbI hA
    simp [hA,r1]
    refine vwb ?_
    simp [hA,r1]
    rw [qp rfl]
    refine ⟨_,?_,C[k],H8.length,tC _ (List.getElem_mem hA),hI8.app,by simp [seB],rfl⟩
    simp [qz,qj,qm,DsF,QA]
   ·obtain ⟨j,hj,hjl⟩:∃ j:Nat,(k:Int) - C.length=j∧j<D.length:=⟨k - C.length,by omega,by omega⟩
    have r1:=qbI hjl
    have u3:IntKind.i64.wrap ((k:Int) - C.length)=(j:Int):=by rw [hj,wrap_i64] <;> omega
    simp [hA,r1]
    refine vwb ?_
    simp [hA,r1,u3,hjl]
    rw [qp rfl]
    refine ⟨_,?_,D[j],H8.length,tD _ (List.getElem_mem hjl),hI8.app,by simp [seB],rfl⟩
    simp [qz,qj,qm,DsF,QA]
  clear hI8 hk
  rintro F HA ⟨x,i4,⟨t,hf,hs,hh⟩,⟨hWo,g0,g1⟩,e4,rfl⟩
  have hF1:=hFc _ hWo x.id
  have e:fndV CS x.id = .tup [.agg [.sc (.int .i64 t.id),.sc (.int .i64 t.box.x0),.sc (.int .i64 t.box.y0),.sc (.int .i64 t.box.x1),.sc (.int .i64 t.box.y1),.sc (.int .i64 t.lab)],.sc (.bool true)]:=by unfold fndV; rw [hf]; rfl
  have hH:=qbK t.box x.box
  unfold Re.v Re.cs at hH
  rw [e] at hF1
  rw [hh] at hH
  unfold DsF
  have g0':=g0
  have g1':=g1
  have e4':=e4
  unfold qvB at g0'
  unfold wdB at g1'
  unfold seB at e4'
  refine AW.seq (vwb ?_)
  simp [g1',e4']
  refine qc.of hF1 ?_
  rintro y HB ⟨rfl,kf⟩
  have kp:=eq_true (kf.YF (fun x h=>h))
  simp [kp]
  rw [qp rfl]
  change AW _ _ _ _ ⟨_,HB ++ [jJ t]⟩
  have hWo:=hWo.Vb kf
  have hWo:=hWo.app (L := [jJ t])
  have g0:=hget (L := [jJ t]) (kf.cells id g0)
  have g1:=hget (L := [jJ t]) (kf.cells id g1)
  have e4:=hget (L := [jJ t]) (kf.cells id e4)
  have e5:(HB ++ [jJ t])[HB.length]? = some (jJ t):=by simp
  clear g0' g1' e4' kf kp hF1
  generalize HB ++ [jJ t]=HC at *
  generalize HB.length=i5 at *
  have g0':=g0
  have g1':=g1
  have e5':=e5
  unfold qvB at g0'
  unfold wdB at g1'
  unfold jJ at e5'
  have hS1:=hSc _ hWo t
  rw [hs] at hS1
  unfold Sh.v Sh.cs at hS1
  refine AW.seq (vwb ?_)
  simp [g0',g1',e5']
  refine qc.of hS1 ?_
  rintro y HD ⟨rfl,kK⟩
  obtain ⟨es,t1,m1⟩:=hWo.tb
  have kp:=eq_true (kK.Va t1)
  have g0:=kK.2.cells (qh g0 t1.m) g0
  have g1:=kK.2.cells (qh g1 t1.m) g1
  have e4:=kK.2.cells (qh e4 t1.m) e4
  have e5:=kK.2.cells (qh e5 t1.m) e5
  have hWo:=hWo.kept kK
  clear kK t1 m1 g0' g1' e5' hS1
  simp [kp]
  rw [qp rfl]
  change AW _ _ _ _ ⟨_,HD ++ [seB x]⟩
  have g0:=hget (L := [seB x]) g0
  have g1:=hget (L := [seB x]) g1
  have e4:=hget (L := [seB x]) e4
  have e5:=hget (L := [seB x]) e5
  have e6:(HD ++ [seB x])[HD.length]? = some (seB x):=by simp
  have hWo:=hWo.app (L := [seB x])
  clear kp
  generalize HD ++ [seB x]=HE at *
  generalize HD.length=i6 at *
  have hI:DsA q.l q.v S CS q i1 ra ca ta ma Ta Ua HE:=⟨hWo,g0,g1⟩
  clear hWo g0 g1
  try unfold seB at e4
  try unfold seB at e6
  try unfold jJ at e5
  refine AW.seq (AW.ofz [] mixed (by kernel_rfl) ?_)
  simp [e4,e5,e6,qk1,hGSe,qhF]
  refine qc.pure hH rfl rfl ?_
  simp
  refine vwb ?_
  simp
  refine vwb ?_
  simp [u2]
  refine ⟨_,?_,hI,rfl⟩
  simp [qz,qj,qm,DsF,QA]
 have hlt':(k:Int)<(A.length:Int)+B.length:=by omega
 simp [QA,u1,hlt,hlt']
 refine AW.seq (AW.block (AW.seq (vwb ?_)))
 simp
 rw [qp rfl]
 refine AW.mid (DsR k A B C D 17 18 (ToP q.l q.v S) q.l q.v S CS q i1 ra ca ta ma Ta Ua) ?_ ?_
 ·refine AW.seq (vwb ?_)
  by_cases hA:k<A.length
  ·have r1:=qbI hA
   simp [hA,r1]
   refine vwb ?_
   simp [hA,r1]
   rw [qp rfl]
   refine ⟨_,?_,A[k],H7.length,tA _ (List.getElem_mem hA),hI7.app,by simp [seB],rfl⟩
   simp [qz,qj,qm,DsF,QA]
  ·obtain ⟨j,hj,hjl⟩:∃ j:Nat,(k:Int) - A.length=j∧j<B.length:=⟨k - A.length,by omega,by omega⟩
   have r1:=qbI hjl
   have u3:IntKind.i64.wrap ((k:Int) - A.length)=(j:Int):=by rw [hj,wrap_i64] <;> omega
   simp [hA,r1]
   refine vwb ?_
   simp [hA,r1,u3,hjl]
   rw [qp rfl]
   refine ⟨_,?_,B[j],H7.length,tB _ (List.getElem_mem hjl),hI7.app,by simp [seB],rfl⟩
   simp [qz,qj,qm,DsF,QA]
 clear hI7 hk
 rintro F HA ⟨x,i4,⟨t,hf,hs,hh⟩,⟨hWo,g0,g1⟩,e4,rfl⟩
 have hF1:=hFp _ hWo x.id
 have e:Xp S x.id = .tup [.agg [.sc (.int .i64 t.id),.sc (.int .i64 t.at_.x),.sc (.int .i64 t.at_.y),.sc (.int .i64 t.lab)],.sc (.bool true)]:=by unfold Xp; rw [hf]; rfl
 have hH:=qbc x.box t.at_
 unfold Re.v Re.cs Pt.v Pt.cs at hH
 rw [e] at hF1
 rw [hh] at hH
 unfold DsF
 have g0':=g0
 have g1':=g1
 have e4':=e4
 unfold qvB at g0'
 unfold wdB at g1'
 unfold seB at e4'
 refine AW.seq (vwb ?_)
 simp [g1',e4']
 refine qc.of hF1 ?_
 rintro y HB ⟨rfl,kf⟩
 have kp:=eq_true (kf.YF (fun x h=>h))
 simp [kp]
 rw [qp rfl]
 change AW _ _ _ _ ⟨_,HB ++ [prB t]⟩
 have hWo:=hWo.Vb kf
 have hWo:=hWo.app (L := [prB t])
 have g0:=hget (L := [prB t]) (kf.cells id g0)
 have g1:=hget (L := [prB t]) (kf.cells id g1)
 have e4:=hget (L := [prB t]) (kf.cells id e4)
 have e5:(HB ++ [prB t])[HB.length]? = some (prB t):=by simp
 clear g0' g1' e4' kf kp hF1
 generalize HB ++ [prB t]=HC at *
 generalize HB.length=i5 at *
 have g0':=g0
 have g1':=g1
 have e5':=e5
 unfold qvB at g0'
 unfold wdB at g1'
 unfold prB at e5'
 have hS1:=hSp _ hWo t
 rw [hs] at hS1
 unfold Pr.v Pr.cs at hS1
 refine AW.seq (vwb ?_)
 simp [g0',g1',e5']
 refine qc.of hS1 ?_
 rintro y HD ⟨rfl,kK⟩
 obtain ⟨es,t1,m1⟩:=hWo.tb
 have kp:=eq_true (kK.Va t1)
 have g0:=kK.2.cells (qh g0 t1.m) g0
 have g1:=kK.2.cells (qh g1 t1.m) g1
 have e4:=kK.2.cells (qh e4 t1.m) e4
 have e5:=kK.2.cells (qh e5 t1.m) e5
 have hWo:=hWo.kept kK
 clear kK t1 m1 g0' g1' e5' hS1
 simp [kp]
 rw [qp rfl]
 change AW _ _ _ _ ⟨_,HD ++ [seB x]⟩
 have g0:=hget (L := [seB x]) g0
 have g1:=hget (L := [seB x]) g1
 have e4:=hget (L := [seB x]) e4
 have e5:=hget (L := [seB x]) e5
 have e6:(HD ++ [seB x])[HD.length]? = some (seB x):=by simp
 have hWo:=hWo.app (L := [seB x])
 clear kp
 generalize HD ++ [seB x]=HE at *
 generalize HD.length=i6 at *
 have hI:DsA q.l q.v S CS q i1 ra ca ta ma Ta Ua HE:=⟨hWo,g0,g1⟩
 clear hWo g0 g1
 try unfold seB at e4
 try unfold seB at e6
 try unfold prB at e5
 refine AW.seq (AW.ofz [] mixed (by kernel_rfl) ?_)
 simp [e4,e5,e6,qk1,hGSe,qhF]
 refine qc.pure hH rfl rfl ?_
 simp
 refine vwb ?_
 simp
 refine vwb ?_
 simp [u2]
 refine ⟨_,?_,hI,rfl⟩
 simp [qz,qj,qm,DsF,QA]
end Go.Proofs.YtnconfggojpkcaaGreat
