/- Texts that a law rests on, part e2: plain lemmas and what functions of the program do. No condition. -/
import Derived.Test.YtnconfggojpkcaaGreatSe1
set_option linter.all false
set_option maxHeartbeats 16000000
set_option maxRecDepth 100000
namespace Go.Proofs.YtnconfggojpkcaaGreat
open Go.RowKit AM
attribute [local simp] zQ qU jL zT zq zR zS zo jM zu qV Z8 Qm jC Ql yc ZE vZ slF qG Qo zK yx zA shares jh yt ze Qz QI qY ZF qZ qM vX zH yu Qe qL zD zG vU slV jE jG yE zU ZJ jB jF aMM aUn Qp vW jD zC jA qJ vV Qu vY vS Zw y9 qK Qs ZK zJ zI jH jR ZH eval zZ AM.valOf qm vO yR del SV.refers zY vQ jU shift ldV V.exact V.jg V.ofValue V.vP V.vL V.cells V.one Value.oneCell' ZI QY jV Q5 ZM ZC Qa Zy jl jI Qi ZL y8 yX Qr calm Qt Zn Qk feeds shrinks Qx looks isT Qf vK Qd putAt jT jc Zm sliceB isEq Qg zk qH zO zn qR zl zm qQ zP zi qP ZW Qw yB Zl QZ inO y7 Zi Mix.vT Mix.Qc QB QX qz qj qW zh qO ZV Qq yg yh ZG Zb yw yO Q8 jW V.fixed V.vC
attribute [local simp] vE je yL vH jQ vF vG jP yM vk jN V5 Ja yF QT Jb z0 JL VK Vo VU
def RsI (l:List Pr) (k:Nat) (F:Fr) (H:List Bk):Prop:=F = [(0,.v (lV l)),(3,.v (lV (jK (l.take k)))),(4,.v (.sc (.int .i64 k)))]
theorem qkj (l:List Pr) (hl:l.length≤1000000):PFn Tryz.prog 17 [lV l] (lV (jK l)):=by
 unfold lV
 refine vwc (fn:=Tryz.f17) rfl ?_
 simp only [Tryz.f17,ql]
 refine AW.seq (vwb ?_)
 simp
 refine AW.seq (vwb ?_)
 simp
 refine AW.seq (AW.seq (vwb ?_))
 simp
 refine AW.block (AW.count l.length (RsI l) ⟨_,?_,rfl⟩ ?_)
 ·simp [qz,qj,qm,lV,qW,jK]
 rintro k F H2 hk rfl
 have hsp:=Z7 (l.take k)
 rw [List.length_take,Nat.min_eq_left hk] at hsp
 unfold lV
 refine AW.seq (vwb ?_)
 by_cases hlt:k<l.length
 ·have w1:IntKind.i64.wrap ((k:Int)+1)=(k:Int)+1:=by rw [wrap_i64] <;> omega
  have hsn:=Jg hlt
  have hFd:=qd8 (jK (l.take k)) l[k].id (by omega)
  have hR:=VF l[k].at_
  have hP:=qfN (jK (l.take k)) l[k] (by omega)
  have hdef:ZA (jK (l.take k)) l[k]=if qa2 (jK (l.take k)) l[k]=0 then Vk (jK (l.take k)) l[k] else jK (l.take k):=rfl
  unfold lV at hP hFd
  unfold Pt.v Pt.cs at hR
  simp [hlt]
  refine AW.seq (AW.block (AW.seq (vwb ?_)))
  simp [hlt,J4]
  rw [qeh] at hFd
  refine qc.pure hFd (by simp [V.qA,V.closed,zV (enc:=Pr.cs) (fun _=>rfl)]) rfl ?_
  generalize qcZ (jK (l.take k)) l[k].id=pq at *
  simp
  rw [qp rfl]
  rw [qih] at hP
  generalize H2 ++ [_]=H3 at *
  rw [qf5] at hdef
  cases hh:qf8 (jK (l.take k)) l[k].id with
  | true =>
   have hd2:ZA (jK (l.take k)) l[k]=jK (l.take k):=by
    rw [hdef,hh]
    cases fits l[k].at_ <;> simp
   refine AW.seq (vwb ?_)
   simp
   refine vwb ?_
   simp
   refine vwb ?_
   simp [w1]
   refine ⟨_,?_,rfl⟩
   rw [hsn,hd2]
   simp [qz,qj,qm,lV]
  | false =>
   cases hf:fits l[k].at_ with
   | false =>
    rw [hf] at hR
    simp [hf,hh] at hdef
    refine AW.seq (vwb ?_)
    simp [hlt,J4]
    refine qc.pure hR rfl rfl ?_
    simp
    refine vwb ?_
    simp
    refine vwb ?_
    simp [w1]
    refine ⟨_,?_,rfl⟩
    rw [hsn,hdef]
    simp [qz,qj,qm,lV]
   | true =>
    rw [hf] at hR
    simp [hf,hh] at hdef
    refine AW.seq (vwb ?_)
    simp [hlt,J4]
    refine qc.pure hR rfl rfl ?_
    simp [hlt,J4]
    refine vwb ?_
    simp [hlt,J4]
    refine qc.pure hP (by simp [V.qA,V.closed,zV (enc:=Pr.cs) (fun _=>rfl)]) (by simp [V.closed,zV (enc:=Pr.cs) (fun _=>rfl)]) ?_
    simp
    refine vwb ?_
    simp [w1]
    refine ⟨_,?_,rfl⟩
    rw [hsn,hdef]
    simp [qz,qj,qm,lV]
 ·have hk':k=l.length:=by omega
  subst hk'
  rw [List.take_length]
  simp
  refine vwb ?_
  simp
theorem YR {a b:List Pr} (h:a.Perm b) (hn:(b.map Pr.id).Nodup) (s:Pr):(YA a s).Perm (YA b s):=by
 unfold YA
 rw [qas hn h]
 split
 ·exact h.cons s
 ·exact h
theorem Ya (R:List Pr):(Zr R).Perm (jK R):=by
 have go:∀ n,n≤R.length→(Zr (R.take n)).Perm (jK (R.take n)):=by
  intro n
  induction n with
  | zero=>intro _; simp [Zr,jK]
  | succ n ih =>
   intro hn
   have ih:=ih (by omega)
   have hi:=(Z7 (R.take n)).1
   have e:Zr (R.take (n+1))=YA (Zr (R.take n)) (R[n]'(by omega)):=by
    unfold Zr
    rw [List.take_succ_eq_append_getElem (by omega),List.foldl_append]
    rfl
   rw [e,Jg (by omega)]
   exact (YR ih hi.nodup _).trans (Jw hi).symm
 have:=go R.length (Nat.le_refl _)
 rwa [List.take_length] at this
section
variable {H H':List Bk} {l l':List Ru} {S:List Pr} {C:List Sh} {r c t m r' c' t' m':Nat} {Tp Tc Tp' Tc':Nat→Prop}
theorem Z9.recs {R:List Pr} (h:Z9 H l (Zr R) C r c t m Tp Tc):Z9 H l (jK R) C r c t m Tp Tc:=⟨h.tb,h.tp.perm (Ya R),h.tc,h.pm,h.cm⟩
end
theorem qaG (l:List Ru) (v:Vw) (rc:Re) (S:List Pr):qdM l v rc S=(Je l v S).filter fun s=>qE s.box rc:=rfl
theorem qbi {l:List Ru}:∀ r∈l,r.boxes.length≤(qg l).length:=by
 induction l with
 | nil=>intro r hr; cases hr
 | cons x l ih =>
  intro r hr
  have e:qg (x::l)=x.boxes++qg l:=by simp [qg]
  rw [e,List.length_append]
  rcases List.mem_cons.1 hr with rfl | hr
  ·omega
  ·have:=ih r hr
   omega
theorem VG (xs:List Pr):V.closed (lV xs)=true:=by simp [lV,V.closed,zV (enc:=Pr.cs) (fun _=>rfl)]
theorem XP {x y:Operand} {u v:Int}:XU Tryz.prog .eql 49 x y (.int .i64 u) (.int .i64 v)=some (.bool (u==v)):=rfl
def Vj (e:Int) (R:List Se):List Se:=if e=0 then R else []
theorem Y3 (e:Int) (R:List Se):Wu e R = .tup [QA (Vj e R),.sc (.int .i64 e)]:=rfl
theorem TrS.right {H:List Bk} {r:Nat} {S:List Sh} {T:Nat→Prop} (h:TrS H r S T):∀ s∈S,qd s.box=true:=by
 obtain ⟨b,m,I,es,h,_⟩:=h
 exact h.right
theorem TrS.ids {H:List Bk} {r:Nat} {S:List Sh} {T:Nat→Prop} (h:TrS H r S T):(S.map Sh.id).Nodup:=by
 obtain ⟨b,m,I,es,h,_⟩:=h
 exact h.ids
theorem KX {h:Re→Bool} {rc:Re} {S:List Sh} {x:Sh} (hx:x∈QG h rc S):x∈S:=by
 unfold QG at hx
 split at hx
 ·exact (List.mem_filter.1 ((JN _).mem_iff.1 hx)).1
 ·cases hx
structure WJC (l:List Ru) (v:Vw) (S:List Sh) (Tt:Nat→Prop) (t m r c f q mf:Nat) (X:List (Int×Se)) (H:List Bk):Prop where
 tab:∃ es,Tab H t m l es∧VO l es
 tr:TrS H c S Tt
 fd:Fnd H f q mf X
section
variable {l:List Ru} {v:Vw} {S:List Sh} {Tt:Nat→Prop} {t m r c f q mf:Nat} {X:List (Int×Se)} {H H':List Bk}
theorem WJC.kept (hd:WD Tt m q mf) (h:WJC l v S Tt t m r c f q mf X H) (k:Kept l t m H H'):WJC l v S Tt t m r c f q mf X H':=by
 obtain ⟨⟨es,h1,h2⟩,h3,h4⟩:=h
 obtain ⟨hs,hq,_⟩:=h4.q
 obtain ⟨es',hq1,_⟩:=hq
 have k2:Kp (fun x=>x=m) H H':=fun i b hi hb hn=>k.2 i b hi hb hn
 exact ⟨k.1,h3.keep k2 hd.tm,h4.keep k2 (qh h4.f h1.m) (qh hq1 h1.m) hd.mm.symm⟩
theorem WJC.app {L:List Bk} (h:WJC l v S Tt t m r c f q mf X H):WJC l v S Tt t m r c f q mf X (H++L):=by
 obtain ⟨⟨es,h1,h2⟩,h3,h4⟩:=h
 exact ⟨⟨es,h1.stays .app,h2⟩,h3.app,h4.app⟩
theorem WJC.Vb (h:WJC l v S Tt t m r c f q mf X H) (k:Kp NoB H H'):WJC l v S Tt t m r c f q mf X H':=by
 obtain ⟨⟨es,h1,h2⟩,h3,h4⟩:=h
 exact ⟨⟨es,⟨k.cells id h1.t,k.map id h1.m⟩,h2⟩,h3.Vb k,h4.keep k id id id⟩
theorem WJC.put {Y:List (Int×Se)} (hd:WD Tt m q mf) (h:WJC l v S Tt t m r c f q mf X H) (k:Kp (fun x=>x=q∨x=mf) H H') (hY:Fnd H' f q mf Y):WJC l v S Tt t m r c f q mf Y H':=by
 obtain ⟨⟨es,h1,h2⟩,h3,h4⟩:=h
 obtain ⟨hs,hq,_⟩:=h4.q
 have n1:t≠q:=by
  rintro rfl
  obtain ⟨es',hq,_⟩:=hq
  have:=h1.t.symm.trans hq
  cases this
 obtain ⟨es',hq1,_⟩:=hq
 exact ⟨⟨es,⟨k.cells (fun e=>e.elim n1 (fun e=>qh h1.t h4.m e)) h1.t,k.map (fun e=>e.elim (fun e=>qh hq1 h1.m e.symm) hd.mm) h1.m⟩,h2⟩,h3.keep k fun x hx e=>e.elim (hd.tq x hx) (hd.tf x hx),hY⟩
end
def WcC (l:List Ru) (v:Vw) (S:List Sh) (Tt:Nat→Prop) (t m r c f q mf c2 c3 c4 c5:Nat) (rc:Re) (X:List (Int×Se)) (z:Int) (L:List Sh) (H0:List Bk) (k:Nat) (F:Fr) (H:List Bk):Prop :=
 WJC l v S Tt t m r c f q mf (X++QS (vJ (zmC l v) v) (zmC l v) z (L.take k)) H∧H[c2]? = some (reB rc)∧H[c3]? = some (wdB r c t)∧H[c4]? = some (vwB v)∧H[c5]? = some (.cells [.v (.ptr f 0)])∧Kp (fun x=>x=q∨x=mf∨x=m) H0 H ∧
  F = [(0,.v (.sc (.int .i64 z))),(2,.v (.ptr c2 0)),(3,.v (.ptr c3 0)),(4,.v (.ptr c4 0)),(5,.v (.ptr c5 0)),(23,.v (slS L)),(24,.v (.sc (.int .i64 L.length))),(25,.v (.sc (.int .i64 k)))]
theorem qni {l:List Ru} (hl:Yk l) (v:Vw) {S:List Sh} {Tt:Nat→Prop} {t m r c f q mf c2 c3 c4 c5:Nat} {rc:Re} {X:List (Int×Se)} {H:List Bk} (hd:WD Tt m q mf) (h:WJC l v S Tt t m r c f q mf X H)
  (h2:H[c2]? = some (reB rc)) (h3:H[c3]? = some (wdB r c t)) (h4:H[c4]? = some (vwB v)) (h5:H[c5]? = some (.cells [.v (.ptr f 0)])) (z lv:Int)
  (hnd:((X++QS (vJ (zmC l v) v) (zmC l v) z (QG (fun b=>qE b (zW rc lv).1) (zW rc lv).1 S)).map fun x=>x.2.id).Nodup) (hlen:X.length+(QG (fun b=>qE b (zW rc lv).1) (zW rc lv).1 S).length≤100000) :
  AFn Tryz.prog 76 [.sc (.int .i64 z),.sc (.int .i64 lv),.ptr c2 0,.ptr c3 0,.ptr c4 0,.ptr c5 0] H fun y H'=>y = .tup []∧WJC l v S Tt t m r c f q mf (X++QS (vJ (zmC l v) v) (zmC l v) z (QG (fun b=>qE b (zW rc lv).1) (zW rc lv).1 S)) H'∧Kp (fun x=>x=q∨x=mf∨x=m) H H':=by
 have hS:=qdE rc lv
 have h2':=h2
 unfold reB at h2'
 unfold Re.v Re.cs at hS
 generalize zW rc lv=wd at *
 obtain ⟨w,wok⟩:=wd
 simp only at hS hnd hlen ⊢
 refine vwc (fn:=Tryz.f76) rfl ?_
 simp only [Tryz.f76,ql]
 refine AW.seq (vwb ?_)
 simp [h2']
 refine qc.pure hS rfl rfl ?_
 simp
 rw [qp rfl]
 have hpr:Bk.cells ([V.sc (.int .i64 w.x0),V.sc (.int .i64 w.y0),V.sc (.int .i64 w.x1),V.sc (.int .i64 w.y1)].map SV.v)=reB w:=rfl
 rw [hpr]
 have e2:=hget (L := [reB w]) h2
 have e3:=hget (L := [reB w]) h3
 have e4:=hget (L := [reB w]) h4
 have e5:=hget (L := [reB w]) h5
 have e6:(H ++ [reB w])[H.length]? = some (reB w):=by simp
 have hJ:=h.app (L := [reB w])
 have kp:Kp (fun x=>x=q∨x=mf∨x=m) H (H ++ [reB w]):=Kp.refl.app
 generalize H ++ [reB w]=H1 at *
 generalize H.length=i0 at *
 have hW:=qm0 hJ.tr w
 have hRt:∀ s∈QG (fun b=>qE b w) w S,qd s.box=true:=fun s hs=>hJ.tr.right s (KX hs)
 unfold Re.v Re.cs at hW
 generalize QG (fun b=>qE b w) w S=L at *
 have e3':=e3
 unfold wdB at e3'
 unfold reB at e6
 refine AW.seq (vwb ?_)
 simp [e3',e6]
 refine qc.of hW ?_
 rintro y H2 ⟨rfl,k2⟩
 have f2:=k2.cells id e2
 have f3:=k2.cells id e3
 have f4:=k2.cells id e4
 have f5:=k2.cells id e5
 have hJ2:=hJ.Vb k2
 have kp2:=kp.trans (k2.weak (J:=fun x=>x=q∨x=mf∨x=m) fun x hx=>hx.elim)
 unfold slS
 simp
 refine AW.block (AW.count L.length (WcC l v S Tt t m r c f q mf c2 c3 c4 c5 rc X z L H) ⟨_,?_,by simpa [QS] using hJ2,f2,f3,f4,f5,kp2,rfl⟩ ?_)
 ·simp [qz,qj,qm,slS]
 clear hJ hJ2 e2 e3 e3' e4 e5 e6 f2 f3 f4 f5 kp kp2 k2 hW hS h2 h3 h4 h5 h2' hpr
 rintro k F H3 hk ⟨hJ3,g2,g3,g4,g5,kp3,rfl⟩
 unfold slS
 refine AW.seq (vwb ?_)
 by_cases hlt:k<L.length
 ·have ew:IntKind.i64.wrap ((k:Int)+1)=k+1:=wrap_i64 (by omega) (by omega)
  have htk:L.take (k+1)=L.take k ++ [L[k]]:=List.take_succ_eq_append_getElem hlt
  simp [hlt]
  refine vwb ?_
  simp [Xo hlt,hlt]
  rw [qp rfl]
  have hpr:Bk.cells ([V.sc (.int .i64 L[k].id),V.sc (.int .i64 L[k].box.x0),V.sc (.int .i64 L[k].box.y0),V.sc (.int .i64 L[k].box.x1),V.sc (.int .i64 L[k].box.y1),V.sc (.int .i64 L[k].lab)].map SV.v)=jJ L[k]:=rfl
  rw [hpr]
  have e2:=hget (L := [jJ L[k]]) g2
  have e3:=hget (L := [jJ L[k]]) g3
  have e4:=hget (L := [jJ L[k]]) g4
  have e5:=hget (L := [jJ L[k]]) g5
  have e6:(H3 ++ [jJ L[k]])[H3.length]? = some (jJ L[k]):=by simp
  have hJ:=hJ3.app (L := [jJ L[k]])
  have kp:=kp3.app (L := [jJ L[k]])
  clear hJ3 g2 g3 g4 g5 kp3
  generalize H3 ++ [jJ L[k]]=H1 at *
  generalize H3.length=i0 at *
  have e3':=e3
  have e4':=e4
  have e6':=e6
  unfold wdB at e3'
  unfold vwB at e4'
  unfold jJ at e6'
  simp [e3',e4',e6']
  obtain ⟨es,t1,m1⟩:=hJ.tab
  have hz1:=gOf l v.ro v.ti L[k].lab L[k].box hl.len hl.n t m es H1 t1 m1
  rw [Ko hl.all (hRt _ (List.getElem_mem hlt))] at hz1
  have hzz:Vi l v.ro v.ti L[k].lab L[k].box=zmC l v L[k]:=rfl
  rw [hzz] at hz1
  unfold Re.v Re.cs at hz1
  refine qc.of hz1 ?_
  rintro y H4 ⟨rfl,kK⟩
  have kK:=kK.w
  have f2:=kK.2.cells (qh e2 t1.m) e2
  have f3:=kK.2.cells (qh e3 t1.m) e3
  have f4:=kK.2.cells (qh e4 t1.m) e4
  have f5:=kK.2.cells (qh e5 t1.m) e5
  have f6:=kK.2.cells (qh e6 t1.m) e6
  have hJ4:=hJ.kept hd kK
  have kp4:Kp (fun x=>x=q∨x=mf∨x=m) H H4:=kp.trans (fun i b hi hb hn=>kK.2 i b (fun e=>hi (.inr (.inr e))) hb hn)
  clear hJ e2 e3 e4 e5 e6 kp e3' e4' e6' kK hz1 t1 m1
  have hsn:=qdT (vJ (zmC l v) v) (zmC l v) z (L.take k) L[k]
  rw [← htk] at hsn
  by_cases hz:zmC l v L[k]=z
  rotate_left
  ·have hz':(zmC l v L[k] != z)=true:=by simpa using hz
   have hz2:(zmC l v L[k]==z)=false:=by simpa using hz
   rw [if_neg hz,List.append_nil] at hsn
   simp [hz,hz',hz2,ew]
   refine ⟨_,?_,by rw [hsn]; exact hJ4,f2,f3,f4,f5,kp4,rfl⟩
   simp [qz,qj,qm,slS]
  have hz':(zmC l v L[k] != z)=false:=by simpa using hz
  have hz2:(zmC l v L[k]==z)=true:=by simpa using hz
  rw [if_pos hz] at hsn
  have f3':=f3
  have f4':=f4
  have f6':=f6
  unfold wdB at f3'
  unfold vwB at f4'
  unfold jJ at f6'
  simp [hz,hz',hz2,ew,f3',f4',f6']
  obtain ⟨es,t1,m1⟩:=hJ4.tab
  have hSe:=X9 hl v L[k] r c es H4 t1 m1
  have hlast:∀ s,vJ (zmC l v) v L[k]=some s→∀ x∈X++QS (vJ (zmC l v) v) (zmC l v) z (L.take k),x.2.id≠s.id:=fun s hs=>by
   rw [hs] at hsn
   simp only at hsn
   refine KT (x:=(0,s)) ?_
   rw [List.append_assoc,← hsn]
   have e:QS (vJ (zmC l v) v) (zmC l v) z L=QS (vJ (zmC l v) v) (zmC l v) z (L.take (k+1))++QS (vJ (zmC l v) v) (zmC l v) z (L.drop (k+1)):=by rw [← qfe,List.take_append_drop]
   rw [e,← List.append_assoc,List.map_append] at hnd
   exact (List.nodup_append.1 hnd).1
  have hlen1:(X++QS (vJ (zmC l v) v) (zmC l v) z (L.take k)).length≤100000:=by
   have:=qai (vJ (zmC l v) v) (zmC l v) z (L.take k)
   rw [List.length_take] at this
   rw [List.length_append]
   omega
  generalize vJ (zmC l v) v L[k]=o at *
  unfold wdC Vw.cs Sh.v Sh.cs at hSe
  rw [Jf] at hSe
  refine qc.of hSe ?_
  rintro y H5 ⟨rfl,kK⟩
  have kK:=kK.w
  have e2:=kK.2.cells (qh f2 t1.m) f2
  have e3:=kK.2.cells (qh f3 t1.m) f3
  have e4:=kK.2.cells (qh f4 t1.m) f4
  have e5:=kK.2.cells (qh f5 t1.m) f5
  have hJ5:=hJ4.kept hd kK
  have kp5:Kp (fun x=>x=q∨x=mf∨x=m) H H5:=kp4.trans (fun i b hi hb hn=>kK.2 i b (fun e=>hi (.inr (.inr e))) hb hn)
  clear f2 f3 f4 f5 f6 f3' f4' f6' hJ4 kp4 kK hSe
  simp
  rw [qp rfl]
  have hpx:Bk.cells ([V.sc (.int .i64 (o.getD qw).id),V.sc (.int .i64 (o.getD qw).lv),V.sc (.int .i64 (o.getD qw).box.x0),V.sc (.int .i64 (o.getD qw).box.y0),V.sc (.int .i64 (o.getD qw).box.x1),V.sc (.int .i64 (o.getD qw).box.y1)].map SV.v)=seB (o.getD qw):=rfl
  rw [hpx]
  have f2:=hget (L := [seB (o.getD qw)]) e2
  have f3:=hget (L := [seB (o.getD qw)]) e3
  have f4:=hget (L := [seB (o.getD qw)]) e4
  have f5:=hget (L := [seB (o.getD qw)]) e5
  have f6:(H5 ++ [seB (o.getD qw)])[H5.length]? = some (seB (o.getD qw)):=by simp
  have hJ6:=hJ5.app (L := [seB (o.getD qw)])
  have kp6:=kp5.app (L := [seB (o.getD qw)])
  clear e2 e3 e4 e5 hJ5 kp5
  generalize H5 ++ [seB (o.getD qw)]=H6 at *
  generalize H5.length=i1 at *
  cases o with
  | none =>
   simp [ew]
   simp only [List.append_nil] at hsn
   refine ⟨_,?_,by rw [hsn]; exact hJ6,f2,f3,f4,f5,kp6,rfl⟩
   simp [qz,qj,qm,slS]
  | some s =>
   have f6':=f6
   unfold seB at f6'
   simp [ew,f5,f6']
   have hP:=qiJ hJ6.fd 0 s (hlast s rfl) hlen1
   unfold Se.cs at hP
   refine qc.of hP ?_
   rintro y H7 ⟨rfl,hY,k7⟩
   have hJ7:=hJ6.put hd k7 hY
   have n2:∀ {i:Nat} {a:V} {cs:List SV},H6[i]? = some (.cells (.v a::cs))→¬ (i=q∨i=mf):=fun hi e=>by
    obtain ⟨hs,hq,_⟩:=hJ6.fd.q
    exact e.elim (Ky hi hq) (qh hi hJ6.fd.m)
   simp only at hsn
   simp [ew]
   refine ⟨_,?_,by rw [hsn,← List.append_assoc]; exact hJ7,k7.cells (n2 f2) f2,k7.cells (n2 f3) f3,k7.cells (n2 f4) f4,k7.cells (n2 f5) f5,kp6.trans (k7.weak fun x hx=>hx.elim .inl fun e => .inr (.inl e)),rfl⟩
   simp [qz,qj,qm,slS]
 ·simp [hlt]
  have hkT:k=L.length:=by omega
  refine AW.seq (vwb ?_)
  simp
  rw [hkT,List.take_length] at hJ3
  exact ⟨hJ3,kp3⟩
def qm2 (Z:Sh→Int) (v:Vw) (rc:Re) (S:List Sh) (z:Int):List Sh:=(QG (fun b=>qE b (zW rc (lvl v z)).1) (zW rc (lvl v z)).1 S).filter fun x=>decide (Z x=z)
def VR (l:List Ru) (v:Vw) (rc:Re) (S:List Sh) (D:List Int):List (Int×Se):=J9 (vJ (zmC l v) v) (fun _=>0) (qm2 (zmC l v) v rc S) D
theorem qbM (l:List Ru) (v:Vw) (rc:Re) (S:List Sh) (D:List Int) (z:Int):VR l v rc S (D ++ [z])=VR l v rc S D++QS (vJ (zmC l v) v) (zmC l v) z (QG (fun b=>qE b (zW rc (lvl v z)).1) (zW rc (lvl v z)).1 S):=by
 simp [VR,J9,QS,qm2]
theorem WR {h:Re→Bool} {rc:Re} {S:List Sh} (hS:(S.map Sh.id).Nodup):((QG h rc S).map Sh.id).Nodup:=by
 unfold QG
 split
 ·exact (((JN _).map Sh.id).nodup_iff).2 (hS.sublist (List.filter_sublist.map _))
 ·simp
theorem qb0 (h:Re→Bool) (rc:Re) (S:List Sh):(QG h rc S).length≤S.length:=by
 unfold QG
 split
 ·rw [(JN _).length_eq]; exact List.length_filter_le _ _
 ·simp
theorem VX {Z:Sh→Int} {v:Vw} {t:Sh} {s:Se} (h:vJ Z v t=some s):s.id=t.id:=by
 unfold vJ QE at h
 split at h
 ·split at h
  ·cases h
  ·cases h; rfl
 ·cases h
theorem qaS {l:List Ru} {v:Vw} {rc:Re} {S:List Sh} {D:List Int} (hS:(S.map Sh.id).Nodup) (hD:D.Nodup):((VR l v rc S D).map fun x=>x.2.id).Nodup :=
 Yv hS (fun t s h=>VX h) (fun z _=>⟨(WR hS).sublist (List.filter_sublist.map _),fun t ht=>by
  obtain ⟨h1,h2⟩:=List.mem_filter.1 ht
  exact ⟨KX h1,by simpa using h2⟩⟩) hD
theorem qap (l:List Ru) (v:Vw) (rc:Re) (S:List Sh):∀ D:List Int,(VR l v rc S D).length≤D.length*S.length
 | []=>by simp [VR,J9]
 | z::D=>by
  have h1:=qap l v rc S D
  have h2:=qai (vJ (zmC l v) v) (zmC l v) z (QG (fun b=>qE b (zW rc (lvl v z)).1) (zW rc (lvl v z)).1 S)
  have h3:=qb0 (fun b=>qE b (zW rc (lvl v z)).1) (zW rc (lvl v z)).1 S
  have e:VR l v rc S (z::D)=QS (vJ (zmC l v) v) (zmC l v) z (QG (fun b=>qE b (zW rc (lvl v z)).1) (zW rc (lvl v z)).1 S)++VR l v rc S D:=by simp [VR,J9,QS,qm2]
  rw [e,List.length_append,List.length_cons,Nat.add_mul]
  omega
theorem qil {l:List Ru} (hl:Yk l) (v:Vw) {S:List Sh} {Tt:Nat→Prop} {t m r c:Nat} {es:List (Value×V)} {H:List Bk} (hT:Tab H t m l es) (hM:VO l es) (ht:TrS H c S Tt) (htm:∀ x,Tt x→x≠m) (hS:S.length≤50) (hz:(jZ l v).length≤1000) (rc:Re) (mm:Int) :
  AFn Tryz.prog 27 [wdC r c t,.agg v.cs,rc.v,.sc (.int .i64 mm)] H fun y H'=>Kept l t m H H'∧(yN v mm (qd rc)≠0→y = .tup [.nil,.sc (.int .i64 1)]) ∧
   (yN v mm (qd rc)=0→∃ R,y = .tup [QA R,.sc (.int .i64 0)]∧∀ Y:List (Int×Se),Y.Perm (VR l v rc S (lvls v (jZ l v)))→Y.Pairwise (fun a b=>(Yd b).lt (Yd a)=false)→R=(Y.take mm.toNat).map (·.2)):=by
 have hA:=fun H=>qim v mm (qd rc) r c t H
 have hR:=Jc rc
 have hml:=(List.getElem?_eq_some_iff.1 hT.m).1
 have htl:=(List.getElem?_eq_some_iff.1 hT.t).1
 have hrl:=ht.lt
 unfold wdC Vw.cs at hA ⊢
 unfold Re.v Re.cs at hR ⊢
 refine vwc (fn:=Tryz.f27) rfl ?_
 simp only [Tryz.f27,ql]
 refine AW.seq (vwa [(1,5,[4,5,3,6])] ?_)
 simp
 have k1:Kp NoB H (H ++ [wdB r c t,vwB v,reB rc]):=Kp.refl.app
 have e0:(H ++ [wdB r c t,vwB v,reB rc])[H.length]? = some (wdB r c t):=by simp
 have e1:(H ++ [wdB r c t,vwB v,reB rc])[H.length+1]? = some (vwB v):=by simp
 have e2:(H ++ [wdB r c t,vwB v,reB rc])[H.length+2]? = some (reB rc):=by simp
 change AW _ _ _ _ ⟨_,H ++ [wdB r c t,vwB v,reB rc]⟩
 generalize H ++ [wdB r c t,vwB v,reB rc]=H1 at *
 have n0:H.length≤H.length:=Nat.le_refl _
 have n1:H.length≤H.length+1:=by omega
 have n2:H.length≤H.length+2:=by omega
 generalize H.length+1=i1 at *
 generalize H.length+2=i2 at *
 have e0':=e0
 have e1':=e1
 have e2':=e2
 unfold wdB at e0'
 unfold vwB at e1'
 unfold reB at e2'
 refine AW.seq (AW.seq (vwa [(1,5,[4,5,3,6])] ?_))
 simp [e0',e1',e2']
 refine qc.pure hR rfl rfl ?_
 simp [e0',e1',e2']
 refine qc.of (hA H1) ?_
 rintro y H2 ⟨rfl,k2⟩
 have kp2:=k2.YF (fun x h=>h)
 have f0:=k2.cells id e0
 have f1:=k2.cells id e1
 have f2:=k2.cells id e2
 have f0':=f0
 have f1':=f1
 have f2':=f2
 unfold wdB at f0'
 unfold vwB at f1'
 unfold reB at f2'
 have k3:=k1.trans k2
 have hKT:Kept l t m H H2:=⟨⟨es,⟨k3.cells id hT.t,k3.map id hT.m⟩,hM⟩,fun i b _ hb hn=>k3 i b id hb hn⟩
 simp [e0',e1',e2',f0',f1',f2',kp2]
 refine vwa [(1,5,[4,5,3,6])] ?_
 by_cases ha:yN v mm (qd rc)=0
 rotate_left
 ·have ha1:yN v mm (qd rc)=1:=by unfold yN at ha ⊢; split at ha <;> first | exact absurd rfl ha | simp_all
  have ha':(yN v mm (qd rc) != 0)=true:=by simpa using ha
  simp [ha,ha',ha1]
  exact hKT
 have ha':(yN v mm (qd rc) != 0)=false:=by simpa using ha
 simp [ha,ha']
 refine AW.seq (vwa [(1,5,[4,5,3,6])] ?_)
 simp
 refine qc.of (qdy H2) ?_
 rintro y H3 ⟨f,q,mf,rfl,hF,l1,l2,l3,k4⟩
 simp
 rw [qp rfl]
 have g0:=hget (L := [Bk.cells ([V.ptr f 0].map SV.v)]) (k4.cells id f0)
 have g1:=hget (L := [Bk.cells ([V.ptr f 0].map SV.v)]) (k4.cells id f1)
 have g2:=hget (L := [Bk.cells ([V.ptr f 0].map SV.v)]) (k4.cells id f2)
 have g3:(H3 ++ [Bk.cells ([V.ptr f 0].map SV.v)])[H3.length]? = some (.cells [.v (.ptr f 0)]):=by simp
 have hF4:=hF.app (L := [Bk.cells ([V.ptr f 0].map SV.v)])
 have k5:Kp NoB H (H3 ++ [Bk.cells ([V.ptr f 0].map SV.v)]):=(k3.trans k4).app
 have hlen2:H.length<H2.length:=(List.getElem?_eq_some_iff.1 f0).1
 generalize H3 ++ [_]=H4 at *
 generalize H3.length=i3 at *
 clear e0 e1 e2 e0' e1' e2' f0 f1 f2 f0' f1' f2' kp2 k2 k4 k3 hF k1 hKT
 have hTb4:Tab H4 t m l es:=⟨k5.cells id hT.t,k5.map id hT.m⟩
 have ht4:=ht.Vb k5
 have hd:WD Tt m q mf:=⟨htm,fun x hx=>by have:=hrl x hx; omega,fun x hx=>by have:=hrl x hx; omega,by omega⟩
 have hJ4:WJC l v S Tt t m r c f q mf (VR l v rc S []) H4:=⟨⟨es,hTb4,hM⟩,ht4,hF4⟩
 have hTe:qmK l v t m 76 [.ptr i2 0,.ptr H.length 0,.ptr i1 0,.ptr i3 0] (jZ l v) (fun D Hx=>WJC l v S Tt t m r c f q mf (VR l v rc S D) Hx∧Hx[i2]? = some (reB rc)∧Hx[H.length]? = some (wdB r c t)∧Hx[i1]? = some (vwB v)∧Hx[i3]? = some (.cells [.v (.ptr f 0)])) (fun x=>x=q∨x=mf∨x=m):=by
  refine ⟨fun D Hx hx=>hx.1.tab,fun D Hx Hy ⟨h,a1,a2,a3,a4⟩ k => ?_,rfl,fun k hk Hx h0 ⟨h,a1,a2,a3,a4⟩ => ?_⟩
  ·obtain ⟨es',t1,_⟩:=h.tab
   exact ⟨h.kept hd k,k.2.cells (qh a1 t1.m) a1,k.2.cells (qh a2 t1.m) a2,k.2.cells (qh a3 t1.m) a3,k.2.cells (qh a4 t1.m) a4⟩
  ·have hlk:lvls v ((jZ l v).take (k+1))=lvls v ((jZ l v).take k) ++ [(jZ l v)[k]]:=by rw [List.take_succ_eq_append_getElem hk,K9,if_neg h0]
   have hnd:=qaS (l:=l) (v:=v) (rc:=rc) ht.ids (VN (Zd l v) (k+1) (v:=v))
   rw [hlk,qbM] at hnd
   have hln:(VR l v rc S (lvls v ((jZ l v).take k))).length+(QG (fun b=>qE b (zW rc (lvl v (jZ l v)[k])).1) (zW rc (lvl v (jZ l v)[k])).1 S).length≤100000:=by
    have b1:=qap l v rc S (lvls v ((jZ l v).take k))
    have b2:=qb0 (fun b=>qE b (zW rc (lvl v (jZ l v)[k])).1) (zW rc (lvl v (jZ l v)[k])).1 S
    have b3:=Yz v ((jZ l v).take k)
    rw [List.length_take] at b3
    have b4:(lvls v ((jZ l v).take k)).length*S.length≤1000*50:=Nat.mul_le_mul (by omega) hS
    omega
   refine AFn.conv (qni hl v hd h a1 a2 a3 a4 _ _ hnd hln) ?_
   rintro y Hy ⟨rfl,h',k'⟩
   obtain ⟨hs,hq,_⟩:=h.fd.q
   obtain ⟨es',t1,_⟩:=h.tab
   have nn:∀ {i:Nat} {a:V} {cs:List SV},Hx[i]? = some (.cells (.v a::cs))→¬ (i=q∨i=mf∨i=m):=fun hi e=>by
    rcases e with e | e | e
    ·exact Ky hi hq e
    ·exact qh hi h.fd.m e
    ·exact qh hi t1.m e
   refine ⟨_,⟨rfl,⟨by rw [qbM]; exact h',k'.cells (nn a1) a1,k'.cells (nn a2) a2,k'.cells (nn a3) a3,k'.cells (nn a4) a4⟩,k'⟩,fun _ _ _ h=>h⟩
 have hll:∀ x,x=q∨x=mf∨x=m→x<H4.length:=fun x hx=>by
  obtain ⟨hs,⟨_,hq,_⟩,_⟩:=hF4.q
  rcases hx with rfl | rfl | rfl
  ·exact (List.getElem?_eq_some_iff.1 hq).1
  ·exact (List.getElem?_eq_some_iff.1 hF4.m).1
  ·exact (List.getElem?_eq_some_iff.1 hTb4.m).1
 have hLv:=qbO hl v r c (jZ l v) rfl (by omega) hTe hll (.inr (.inr rfl)) ⟨hJ4,g2,g0,g1,g3⟩
 unfold wdC Vw.cs at hLv
 have g0':=g0
 have g1':=g1
 unfold wdB at g0'
 unfold vwB at g1'
 refine AW.seq (vwa [(1,5,[4,5,3,6])] ?_)
 simp [g0',g1']
 refine qc.of hLv ?_
 rintro y H5 ⟨rfl,⟨hJ5,a1,a2,a3,a4⟩,k6⟩
 obtain ⟨hs,hq,hp⟩:=hJ5.fd.q
 have hnd:=qaS (l:=l) (v:=v) (rc:=rc) ht.ids ((Zd l v).sublist (List.filter_sublist (p:=fun z => !decide (lvl v z=0))))
 have hln:(VR l v rc S (lvls v (jZ l v))).length≤100000:=by
  have b1:=qap l v rc S (lvls v (jZ l v))
  have b3:=Yz v (jZ l v)
  have b4:(lvls v (jZ l v)).length*S.length≤1000*50:=Nat.mul_le_mul (by omega) hS
  omega
 have hFi:=qdx hJ5.fd.f hJ5.fd.m hq hp hnd hln mm
 simp [a4]
 refine AW.seq (vwa [(1,5,[4,5,3,6])] ?_)
 simp [a4]
 refine qc.of hFi ?_
 rintro y H6 ⟨rfl,k7⟩
 unfold QA
 simp
 have hsr:Srt hs:=by
  obtain ⟨_,_,_,_,h⟩:=hq
  exact h
 have hqt:∀ {i:Nat} {a:V} {cs:List SV},H5[i]? = some (.cells (.v a::cs))→¬ i=q:=fun hi e=>Ky hi hq e
 have hqm:∀ {i:Nat} {es:List (Value×V)},H5[i]? = some (.map es)→¬ i=q:=fun hi e=>by
  obtain ⟨_,hq1,_⟩:=hq
  exact qh hq1 hi e.symm
 refine vwa [(1,5,[4,5,3,6])] ?_
 simp
 refine ⟨?_,List.take mm.toNat (List.map (fun e=>Wh (VR l v rc S (lvls v (jZ l v))) e.i) hs),by simp,fun Y hY hp2 => ?_⟩
 ·obtain ⟨es',t1,m1⟩:=hJ5.tab
  refine ⟨⟨es',⟨k7.cells (hqt t1.t) t1.t,k7.V8.map (hqm t1.m) t1.m⟩,m1⟩,fun i b hi hb hn => ?_⟩
  have hib:=(List.getElem?_eq_some_iff.1 hb).1
  refine k7.V8 i b (by omega) (k6 i b (fun e => ?_) (k5 i b id hb hn) hn) hn
  rcases e with e | e | e
  ·omega
  ·omega
  ·exact hi e
 ·have hnd':((VR l v rc S (lvls v (jZ l v))).map fun x=>x.2.id).Nodup:=hnd
  have:=qb3 hnd' hY hsr hp hp2 mm.toNat
  simpa using this
def Vp (l:List Ru) (v:Vw) (S:List Sh):List Se:=S.filterMap (vJ (zmC l v) v)
def ScI (l:List Ru) (v:Vw) (xs:List Sh) (k:Nat) (F:Fr) (H:List Bk):Prop:=∃ L,H=vwB v::L∧F = [(0,.v (slU l)),(2,.v (slS xs)),(4,.v (.ptr 0 0)),(7,Qy (Vp l v (xs.take k))),(8,.v (.sc (.int .i64 k)))]
def ScM (l:List Ru) (v:Vw) (xs:List Sh) (k:Nat) (o:Option Se) (F:Fr) (H:List Bk):Prop:=∃ L z,H=vwB v::L∧H[z]? = some (seB (o.getD qw))∧F = [(0,.v (slU l)),(2,.v (slS xs)),(4,.v (.ptr 0 0)),(7,Qy (Vp l v (xs.take k))),(8,.v (.sc (.int .i64 k))),(9,.v (.ptr z 0)),(10,.v (.sc (.bool o.isSome)))]
theorem WU (l:List Ru) (v:Vw) (xs:List Sh):(Vp l v xs).length≤xs.length:=List.length_filterMap_le _ _
theorem qgR (l:List Ru) (v:Vw) (xs:List Sh) (x:Sh):Vp l v (xs ++ [x])=Vp l v xs++(match vJ (zmC l v) v x with | some s => [s] | none => []):=by
 unfold Vp
 rw [List.filterMap_append]
 cases h:vJ (zmC l v) v x <;> simp [h]
theorem qla {l:List Ru} (hl:l.length≤1000) (hn:(qg l).length≤1000) (hbr:∀ b∈qg l,qd b=true) (v:Vw) (xs:List Sh) (hx:xs.length≤1000000):PFn Tryz.prog 30 [slU l,.agg v.cs,slS xs] (QA (Vp l v xs)):=by
 have hS:=fun x=>qmq hl hn hbr v x
 have hcl:=yT l
 unfold Vw.cs at hS ⊢
 refine vwc (fn:=Tryz.f30) rfl ?_
 simp only [Tryz.f30,ql]
 refine AW.seq (vwb ?_)
 simp [slS,slU]
 refine AW.seq (vwb ?_)
 simp
 refine AW.seq (AW.seq (vwb ?_))
 simp
 refine AW.block (AW.count xs.length (ScI l v xs) ⟨_,?_,[],by simp [vwB],rfl⟩ ?_)
 ·simp [qz,qj,qm,slS,slU,Qy,qW,Vp]
 rintro k F H hk ⟨L,rfl,rfl⟩
 refine AW.seq (vwb ?_)
 by_cases hlt:k<xs.length
 ·have w1:IntKind.i64.wrap ((k:Int)+1)=(k:Int)+1:=by rw [wrap_i64] <;> omega
  have htk:xs.take (k+1)=xs.take k ++ [xs[k]]:=List.take_succ_eq_append_getElem hlt
  have hd:=qgR l v (xs.take k) xs[k]
  rw [← htk] at hd
  have hSk:=hS xs[k]
  have hdl:=WU l v (xs.take k)
  rw [List.length_take] at hdl
  generalize vJ (zmC l v) v xs[k]=o at *
  rw [Jf] at hSk
  unfold Sh.v Sh.cs at hSk
  unfold slU at hSk hcl
  simp [slS,slU,Qy,hlt]
  refine AW.seq (AW.block ?_)
  refine AW.mid (ScM l v xs k o) (AW.off [] [(5,10,12,[0,4,2,8])] mixed (by kernel_rfl) ?_) ?_
  ·unfold vwB
   have hp:∀ x y:Bk,(x::(L ++ [y]))[L.length+1]? = some y:=fun x y=>by simp
   have k3:∀ x y:Bk,Xi (x::L) (x::(L ++ [y]))=True:=fun x y=>by
    have:=Z4 (H:=x::L) (L := [y])
    simpa using this
   have k4:∀ (x:Bk) (z0 z1 z2 z3 z4 z5:SV) (a b c d e f:V),setCells (x::(L ++ [.cells [z0,z1,z2,z3,z4,z5]])) (L.length+1) 0 [a,b,c,d,e,f]=x::(L ++ [.cells [.v a,.v b,.v c,.v d,.v e,.v f]]):=fun x z0 z1 z2 z3 z4 z5 a b c d e f=>by
    simp [setCells,qo]
   simp [jq,zx,jX,jw,zN,jr,jv,zM,jY,flK,yK,zL,zw,QC,slS,slU,hlt,Xo,k3]
   refine ⟨qc.pure hSk (by simpa [V.qA,V.closed] using hcl) rfl ?_,qc.pure hSk (by simpa [V.qA,V.closed] using hcl) rfl ?_⟩
   all_goals
    simp [jq,zx,jX,jw,zN,jr,jv,zM,jY,flK,yK,zL,zw,QC,slS,slU,hlt,Xo,hp,k3,k4]
    refine ⟨_,?_,_,L.length+1,rfl,by simp [seB],rfl⟩
    simp [qz,qj,qm,slS,slU,Qy]
  ·rintro F1 H1 ⟨L1,z,rfl,hz,rfl⟩
   refine vwb ?_
   unfold slS slU Qy
   generalize Vp l v (xs.take k)=zs at *
   unfold seB at hz
   cases o with
   | none =>
    simp only [List.append_nil] at hd
    simp
    refine vwb ?_
    simp [w1]
    refine ⟨_,?_,L1,rfl,rfl⟩
    rw [hd]
    simp [qz,qj,qm,slS,slU,Qy]
   | some s =>
    simp only at hd
    have hz':=hz
    simp only [Option.getD_some] at hz'
    simp [hz']
    refine ⟨by omega,?_⟩
    refine vwb ?_
    simp [w1]
    refine ⟨_,?_,L1,rfl,rfl⟩
    rw [hd]
    simp [qz,qj,qm,slS,slU,Qy,Se.cs]
 ·have hk':k=xs.length:=by omega
  subst hk'
  simp [slS,slU,Qy]
  refine vwb ?_
  simp
  rfl
theorem qkC (s:Sh):s.v = .agg [.sc (.int .i64 s.id),.sc (.int .i64 s.box.x0),.sc (.int .i64 s.box.y0),.sc (.int .i64 s.box.x1),.sc (.int .i64 s.box.y1),.sc (.int .i64 s.lab)]:=rfl
def ShI (l:List Sh) (k:Nat) (F:Fr) (H:List Bk):Prop:=F = [(0,.v (slS l)),(3,.v (slS (hav (l.take k)))),(4,.v (.sc (.int .i64 k)))]
theorem dShps (l:List Sh) (hl:l.length≤1000000):PFn Tryz.prog 31 [slS l] (slS (hav l)):=by
 unfold slS
 refine vwc (fn:=Tryz.f31) rfl ?_
 simp only [Tryz.f31,ql]
 refine AW.seq (vwb ?_)
 simp
 refine AW.seq (vwb ?_)
 simp
 refine AW.seq (AW.seq (vwb ?_))
 simp
 refine AW.block (AW.count l.length (ShI l) ⟨_,?_,rfl⟩ ?_)
 ·simp [qz,qj,qm,slS,qW,hav]
 rintro k F H2 hk rfl
 have hsp:=YS (l.take k)
 rw [List.length_take,Nat.min_eq_left hk] at hsp
 unfold slS
 refine AW.seq (vwb ?_)
 by_cases hlt:k<l.length
 ·have w1:IntKind.i64.wrap ((k:Int)+1)=(k:Int)+1:=by rw [wrap_i64] <;> omega
  have hsn:=YT hlt
  have hR:=yC l[k].box
  have hP:=qne (hav (l.take k)) l[k] (by omega)
  have hdef:Xm (hav (l.take k)) l[k]=if qd l[k].box then y7 (hav (l.take k)) l[k] else hav (l.take k):=rfl
  unfold slS at hP
  rw [qkC] at hP
  unfold Re.v Re.cs at hR
  simp [hlt]
  refine vwb ?_
  simp [hlt,Xo]
  refine qc.pure hR rfl rfl ?_
  cases hr:qd l[k].box with
  | false =>
   rw [hr] at hdef
   simp [w1]
   refine ⟨_,?_,rfl⟩
   rw [hsn,hdef]
   simp [qz,qj,qm,slS]
  | true =>
   rw [hr] at hdef
   simp [hlt,Xo]
   refine qc.pure hP (by simp [V.qA,V.closed,zV (enc:=Sh.cs) (fun _=>rfl)]) (by simp [V.closed,zV (enc:=Sh.cs) (fun _=>rfl)]) ?_
   simp [w1]
   refine ⟨_,?_,rfl⟩
   rw [hsn,hdef]
   simp [qz,qj,qm,slS]
 ·have hk':k=l.length:=by omega
  subst hk'
  rw [List.take_length]
  simp
  refine vwb ?_
  simp
theorem KW {a b:List Sh} (h:a.Perm b) (k:Int):(less a k).Perm (less b k):=h.filter _
theorem qaq {a b:List Sh} (h:a.Perm b) (s:Sh):(Kz a s).Perm (Kz b s):=by
 unfold Kz
 split
 ·exact (KW h _).cons s
 ·exact h
theorem qak (R:List Sh):(Xr R).Perm (hav R):=by
 have go:∀ n,n≤R.length→(Xr (R.take n)).Perm (hav (R.take n)):=by
  intro n
  induction n with
  | zero=>intro _; simp [Xr,hav]
  | succ n ih =>
   intro hn
   have ih:=ih (by omega)
   have hi:=(YS (R.take n)).1
   have e:Xr (R.take (n+1))=Kz (Xr (R.take n)) (R[n]'(by omega)):=by
    unfold Xr
    rw [List.take_succ_eq_append_getElem (by omega),List.foldl_append]
    rfl
   rw [e,YT (by omega)]
   exact (qaq ih _).trans (qau hi).symm
 have:=go R.length (Nat.le_refl _)
 rwa [List.take_length] at this
section
variable {H:List Bk} {l:List Ru} {S:List Pr} {C:List Sh} {r c t m:Nat} {Tp Tc:Nat→Prop}
theorem Z9.qm7 {R:List Sh} (h:Z9 H l S (Xr R) r c t m Tp Tc):Z9 H l S (hav R) r c t m Tp Tc:=⟨h.tb,h.tp,h.tc.perm (qak R),h.pm,h.cm⟩
theorem V4 {Z:Sh→Int} {v:Vw} {t:Sh} {s:Se} (h:vJ Z v t=some s):yG v=true∧qd t.box=true∧s=⟨t.id,lvl v (Z t),(zW t.box (lvl v (Z t))).1⟩∧lvl v (Z t)≠0:=by
 unfold vJ at h
 split at h
 ·rename_i hc
  simp only [Bool.and_eq_true] at hc
  obtain ⟨h5,rfl⟩:=Xa h
  exact ⟨hc.1,hc.2,rfl,h5⟩
 ·cases h
theorem qdf {l:List Ru} (ha:l.all qI=true) {v:Vw} {x:Sh} (hr:qd x.box=true) (h:zmC l v x≠0):zmC l v x∈jZ l v:=by
 obtain ⟨_,a,b,_,e⟩:=Vz ha (ro:=v.ro) (ti:=v.ti) (la:=x.lab) hr
 have e2:zmC l v x=zmP l v ⟨0,⟨a,b⟩,x.lab⟩:=e.symm
 rw [e2] at h ⊢
 exact qhI ha h
theorem qch {l:List Ru} (ha:l.all qI=true) {v:Vw} {x:Sh} {s:Se} (h:vJ (zmC l v) v x=some s):zmC l v x∈lvls v (jZ l v):=by
 obtain ⟨h1,h2,_,h5⟩:=V4 h
 have hz:=Yo ha v x h2
 unfold lvls
 exact List.mem_filter.2 ⟨qdf ha h2 (qcR h1 h5 hz.1),by simpa using h5⟩
theorem qdY {a r:Re} {l:Int} (ha:qd a=true) (hr:qd r=true) (hl:vR l=true):qE a (zW r l).1=qE (zW a l).1 r:=by
 have hl':=zy.1 hl
 have hs:=Jl hl'.1 hl'.2
 have h1:=Ze ha hl
 have h2:=Ze hr hl
 have e1:=Jk ha hl
 have e2:=Jk hr hl
 have b:∀ q:Pt,jy (cellOf q l)=⟨side l*(q.x/side l),side l*(q.y/side l),side l*(q.x/side l)+side l - 1,side l*(q.y/side l)+side l - 1⟩:=fun _=>rfl
 simp only [b,Re.lo,Re.hi] at e1 e2
 unfold qE
 rw [ha,hr,h1,h2,e1,e2]
 simp only [Bool.and_self,Bool.true_and]
 have key:∀ x y:Int,x≤side l*(y/side l)+side l - 1↔side l*(x/side l)≤y:=by
  intro x y
  have h0:=hs.1
  have qy:=Int.emod_add_mul_ediv y (side l)
  have ny:=Int.emod_nonneg y (Int.ne_of_gt h0)
  have ly:=Int.emod_lt_of_pos y h0
  have qx:=Int.emod_add_mul_ediv x (side l)
  have nx:=Int.emod_nonneg x (Int.ne_of_gt h0)
  have lx:=Int.emod_lt_of_pos x h0
  have c2:x/side l≤y/side l↔side l*(x/side l)≤y:=by
   rw [Int.le_ediv_iff_mul_le h0,Int.mul_comm]
  have c3:x/side l≤y/side l↔x≤side l*(y/side l)+side l - 1:=by
   constructor
   ·intro h
    have:=Int.mul_le_mul_of_nonneg_left h (show 0≤side l by omega)
    omega
   ·intro h
    have:x/side l<y/side l+1:=by
     rw [Int.ediv_lt_iff_lt_mul h0,Int.add_mul,Int.one_mul,Int.mul_comm]
     omega
    omega
  rw [← c3,c2]
 rw [Bool.eq_iff_iff]
 simp only [decide_eq_true_eq]
 have k1:=key a.x0 r.x1
 have k2:=key r.x0 a.x1
 have k3:=key a.y0 r.y1
 have k4:=key r.y0 a.y1
 constructor
 ·rintro ⟨g1,g2,g3,g4⟩
  have:=k1.1 g1
  have:=k2.2 g2
  have:=k3.1 g3
  have:=k4.2 g4
  omega
 ·rintro ⟨g1,g2,g3,g4⟩
  have:=k1.2 g1
  have:=k2.1 g2
  have:=k3.2 g3
  have:=k4.1 g4
  omega
theorem qhQ (h:Z9 H l S C r c t m Tp Tc) (hl:Yk l) (hC:C.Pairwise fun a b=>a.id<b.id) (hCl:C.length≤50) (v:Vw) (rc:Re) (mm:Int) :
  AFn Tryz.prog 27 [wdC r c t,.agg v.cs,rc.v,.sc (.int .i64 mm)] H fun y H'=>y=Wu (yN v mm (qd rc)) (((Vp l v C).filter fun s=>qE s.box rc).take mm.toNat)∧Kept l t m H H':=by
 have hrt:=h.tc.right
 obtain ⟨⟨es,h1,h2⟩,h3,h4,h5,h6⟩:=h
 refine AFn.conv (qil hl v h1 h2 h4 h6 hCl (qe9 hl.all v) rc mm) ?_
 rintro y H' ⟨k,a1,a2⟩
 rcases qfE v mm (qd rc) with e | e
 ·obtain ⟨R,rfl,hR⟩:=a2 e
  have hr:=(qnL e).2.1
  have hw:R=((C.filterMap (vJ (zmC l v) v)).filter fun s=>qE s.box rc).take mm.toNat:=by
   refine qkv (i:=Sh.id) (Z:=zmC l v) (win:=fun z=>QG (fun b=>qE b (zW rc (lvl v z)).1) (zW rc (lvl v z)).1 C) (g:=fun s=>qE s.box rc) (D:=lvls v (jZ l v)) (fun t s h=>VX h) hC (fun z t ht=>KX ht) (fun z=>WR (J8 hC)) (fun t ht s hs => ?_) (fun t _ s hs=>qch hl.all hs) ((Zd l v).sublist List.filter_sublist) hR
   obtain ⟨g1,g2,g3,g5⟩:=V4 hs
   have hz:=zy.2 (KM g1 (Yo hl.all v t g2))
   have hm:=qdY g2 hr hz
   rw [g3]
   simp only
   rw [← hm]
   unfold QG
   rw [if_pos (Ze hr hz)]
   constructor
   ·intro hx
    exact (List.mem_filter.1 ((JN _).mem_iff.1 hx)).2
   ·intro hx
    exact (JN _).mem_iff.2 (List.mem_filter.2 ⟨ht,hx⟩)
  refine ⟨_,⟨rfl,k⟩,fun I φ w hw' => ?_⟩
  unfold Wu Vp
  rw [if_pos e,← hw,e]
  exact hw'
 ·have:=a1 (by rw [e]; decide)
  subst this
  refine ⟨_,⟨rfl,k⟩,fun I φ w hw' => ?_⟩
  unfold Wu
  rw [if_neg (by rw [e]; decide),e]
  exact XF hw'
end
theorem qmT (q:Qv) (r:List Pr) (s:List Sh) (hl:q.l.length≤1048576) (hn:(qg q.l).length≤1048576) (hr:r.length≤300000) (hs:s.length≤300000):AFn Tryz.prog 6 [q.w,lV r,slS s] [] fun y _=>y = .sc (.bool true):=by
 have hb:∀ x∈q.l,x.boxes.length≤4398046511104:=fun x hx=>by have:=qbi x hx; omega
 have hK:=fun H=>qdS H
 have hW:=fun H=>qdg q.l (by omega) hb r hr s hs H
 have hF:=qgj q.l hb r s.length (s.flatMap Sh.cs)
 change PFn Tryz.prog 12 [slU q.l,lV r,slS s] _ at hF
 have c1:=yT q.l
 have c2:=VG r
 have c3:=Y9 s
 unfold Qv.w Qv.cs
 refine vwc (fn:=Tryz.f6) rfl ?_
 simp only [Tryz.f6,ql]
 refine AW.seq (vwa [(9,34,[10,12,9,3,13,1,11,2])] ?_)
 simp [slU]
 have e0 : [qvB q][0]? = some (qvB q):=rfl
 change AW _ _ _ _ ⟨_,[qvB q]⟩
 have hH0 : [qvB q].length=1:=rfl
 generalize [qvB q]=H0 at *
 have e0':=e0
 unfold qvB at e0'
 refine AW.seq (vwa [(9,34,[10,12,9,3,13,1,11,2])] ?_)
 simp [e0']
 refine qc.of (hW H0) ?_
 rintro y H1 ⟨k1,w0,w1⟩
 have f0:=k1.cells id e0
 have kp1:=eq_true (k1.YF (fun x h=>h))
 cases htb:tbR q.l with
 | false =>
  have:=w0 htb
  subst this
  simp [kp1]
  refine AW.seq (vwa [(9,34,[10,12,9,3,13,1,11,2])] ?_)
  simp
  refine qc.of (hK _) ?_
  rintro y H2 ⟨rfl,k2⟩
  simp
 | true =>
 obtain ⟨ra,ca,ta,ma,Ta,Ua,rfl,hJa⟩:=w1 htb
 have hWo:=hJa.ok.recs.qm7
 clear w0 w1 hW k1 hJa e0 e0'
 unfold wdC
 simp [kp1]
 rw [qp rfl]
 change AW _ _ _ _ ⟨_,H1 ++ [wdB ra ca ta]⟩
 have g0:=hget (L := [wdB ra ca ta]) f0
 have g1:(H1 ++ [wdB ra ca ta])[H1.length]? = some (wdB ra ca ta):=by simp
 have hWa:=hWo.app (L := [wdB ra ca ta])
 clear f0 hWo kp1
 generalize H1 ++ [wdB ra ca ta]=H2 at *
 generalize H1.length=i1 at *
 have g0':=g0
 try unfold qvB at g0'
 refine AW.seq (vwa [(9,34,[10,12,9,3,13,1,11,2])] ?_)
 simp [g0']
 refine qc.pure hF (by simp [V.qA,V.closed,c1,c2,c3]) rfl ?_
 cases hfw:ZB q.l r s.length with
 | false =>
  simp
  refine qc.of (hK _) ?_
  rintro y H3 ⟨rfl,k2⟩
  simp
 | true =>
 simp
 obtain ⟨hTb,hl7,hb10,hr30,hs12⟩:=WS htb hfw
 have hsr:=Z7 r
 have hsc:=YS s
 clear g0'
 try unfold wdB at g1
 have hwa:=fun HH h=>qaK (H:=HH) (S:=jK r) (C:=hav s) (r:=ra) (c:=ca) (t:=ta) (m:=ma) (Tp:=Ta) (Tc:=Ua) h hTb hsr.1 (by omega) q.v q.r q.m
 have hca:=fun HH h=>qhQ (H:=HH) (S:=jK r) (C:=hav s) (r:=ra) (c:=ca) (t:=ta) (m:=ma) (Tp:=Ta) (Tc:=Ua) h hTb hsc.1 (by omega) q.v q.r q.m
 simp only [qaG] at hwa
 have hdl:=YZ q.l q.v (jK r)
 have hcl:=WU q.l q.v (hav s)
 have hRa:=qkj r (by omega)
 have hRb:=dShps s (by omega)
 have hDa:=qdc (l:=q.l) (by omega) (fun x hx=>by have:=hb x hx; omega) q.v (jK r) (by omega)
 have hDb:=qla (l:=q.l) (by omega) (by omega) (WY hTb.all) q.v (hav s) (by omega)
 have hWr:=qoz (Je q.l q.v (jK r)) q.r q.m (by omega)
 have hWc:=qoz (Vp q.l q.v (hav s)) q.r q.m (by omega)
 have c4:=VG (jK r)
 have c5:=Y9 (hav s)
 have c6:=Q9 (Je q.l q.v (jK r))
 have c7:=Q9 (Vp q.l q.v (hav s))
 have hlw:=List.length_filter_le (fun s:Se=>qE s.box q.r) (Je q.l q.v (jK r))
 have hlc:=List.length_filter_le (fun s:Se=>qE s.box q.r) (Vp q.l q.v (hav s))
 generalize hD1:Je q.l q.v (jK r)=D1 at *
 generalize hD2:Vp q.l q.v (hav s)=D2 at *
 have hl1:((D1.filter fun s=>qE s.box q.r).take q.m.toNat).length≤1000:=by rw [List.length_take]; omega
 have hl2:((D2.filter fun s=>qE s.box q.r).take q.m.toNat).length≤1000:=by rw [List.length_take]; omega
 generalize hA1:(D1.filter fun s=>qE s.box q.r).take q.m.toNat=A1 at *
 generalize hA2:(D2.filter fun s=>qE s.box q.r).take q.m.toNat=A2 at *
 have hS1:=qez A1 A1 (by omega)
 have hS2:=qez A2 A2 (by omega)
 rw [decide_eq_true rfl] at hS1 hS2
 have c8:=Q9 A1
 have c9:=Q9 A2
 simp only [Y3] at hwa hca
 unfold wdC Vw.cs Re.v Re.cs at hwa hca
 unfold Vw.cs at hDa hDb
 unfold Re.v Re.cs at hWr hWc
 have hRv:=qay q.v
 unfold Vw.cs at hRv
 have hRr:=yC q.r
 unfold Re.v Re.cs at hRr
 refine AW.seq (vwa [(9,34,[10,12,9,3,13,1,11,2])] ?_)
 simp [g0,g1]
 refine qc.of (hwa _ hWa) ?_
 rintro y H3 ⟨rfl,kK⟩
 obtain ⟨es,t1,m1⟩:=hWa.tb
 have g0:=kK.2.cells (qh g0 t1.m) g0
 have g1:=kK.2.cells (qh g1 t1.m) g1
 have kp:=eq_true (kK.Va t1)
 have hWa:=hWa.kept kK
 clear kK t1 m1
 simp [kp]
 refine AW.seq (vwa [(9,34,[10,12,9,3,13,1,11,2])] ?_)
 simp [g0,g1]
 refine qc.of (hca _ hWa) ?_
 rintro y H4 ⟨rfl,kK⟩
 obtain ⟨es,t1,m1⟩:=hWa.tb
 have g0:=kK.2.cells (qh g0 t1.m) g0
 have g1:=kK.2.cells (qh g1 t1.m) g1
 have kp:=eq_true (kK.Va t1)
 have hWa:=hWa.kept kK
 clear kK t1 m1
 simp [kp]
 refine AW.seq (vwa [(9,34,[10,12,9,3,13,1,11,2])] ?_)
 simp [g0]
 rw [qp rfl]
 change AW _ _ _ _ ⟨_,H4 ++ [vwB q.v]⟩
 have g0:=hget (L := [vwB q.v]) g0
 have g2:(H4 ++ [vwB q.v])[H4.length]? = some (vwB q.v):=by simp
 generalize H4 ++ [vwB q.v]=H5 at *
 generalize H4.length=i2 at *
 unfold vwB at g2
 refine AW.sub [(3,.v (.ptr 0 0)),(1,.v (lV r)),(2,.v (slS s)),(9,.v (QA (Vj (yN q.v q.m (qd q.r)) A1))),(10,.v (.sc (.int .i64 (yN q.v q.m (qd q.r))))),(11,.v (QA (Vj (yN q.v q.m (qd q.r)) A2))),(12,.v (.sc (.int .i64 (yN q.v q.m (qd q.r))))),(13,.v (.ptr i2 0)),(6,.v (.sc (.bool false)))] (by simp [qbh,qm]) ?_
 cases hv:yG q.v with
 | false =>
  have e1:yN q.v q.m (qd q.r)=1:=by simp [yN,hv]
  have hw0:IntKind.i64.wrap 0=0:=rfl
  have e2:∀ R,Vj 1 R = []:=fun R=>rfl
  rw [e1,e2,e2]
  refine AW.seq (vwa [(9,34,[10,12,9,3,13,1,11,2])] ?_)
  simp [g2]
  refine qc.pure hRv rfl rfl ?_
  simp [hv,QA,XP,hw0]
  refine qc.of (hK _) ?_
  rintro y HH ⟨rfl,k2⟩
  simp
 | true =>
 rw [hv] at hRv
 cases hrr:qd q.r with
 | false =>
  have e1:yN q.v q.m false=1:=by simp [yN,hrr]
  have hw0:IntKind.i64.wrap 0=0:=rfl
  have e2:∀ R,Vj 1 R = []:=fun R=>rfl
  rw [e1,e2,e2]
  rw [hrr] at hRr
  refine AW.seq (vwa [(9,34,[10,12,9,3,13,1,11,2])] ?_)
  simp [g2]
  refine qc.pure hRv rfl rfl ?_
  simp [g0]
  refine qc.pure hRr rfl rfl ?_
  simp [QA,XP,hw0]
  refine qc.of (hK _) ?_
  rintro y HH ⟨rfl,k2⟩
  simp
 | true =>
 rw [hrr] at hRr
 by_cases h0:0≤q.m
 rotate_left
 ·have d0:q.m<0:=by omega
  have e1:yN q.v q.m true=1:=by simp [yN,h0]
  have hw0:IntKind.i64.wrap 0=0:=rfl
  have e2:∀ R,Vj 1 R = []:=fun R=>rfl
  rw [e1,e2,e2]
  refine AW.seq (vwa [(9,34,[10,12,9,3,13,1,11,2])] ?_)
  simp [g2]
  refine qc.pure hRv rfl rfl ?_
  simp [g0]
  refine qc.pure hRr rfl rfl ?_
  simp [g0,h0,d0,QA,XP,hw0]
  refine qc.of (hK _) ?_
  rintro y HH ⟨rfl,k2⟩
  simp
 have d0:¬ q.m<0:=by omega
 by_cases h64:q.m≤64
 rotate_left
 ·have d1:64<q.m:=by omega
  have e1:yN q.v q.m true=1:=by simp [yN,h64]
  have hw0:IntKind.i64.wrap 0=0:=rfl
  have e2:∀ R,Vj 1 R = []:=fun R=>rfl
  rw [e1,e2,e2]
  refine AW.seq (vwa [(9,34,[10,12,9,3,13,1,11,2])] ?_)
  simp [g2]
  refine qc.pure hRv rfl rfl ?_
  simp [g0]
  refine qc.pure hRr rfl rfl ?_
  simp [g0,h0,d0,h64,d1,QA,XP,hw0]
  refine qc.of (hK _) ?_
  rintro y HH ⟨rfl,k2⟩
  simp
 have d1:¬ 64<q.m:=by omega
 have e1:yN q.v q.m true=0:=by simp [yN,hv,h0,h64]
 have e2:∀ R,Vj 0 R=R:=fun R=>rfl
 rw [e1,e2,e2]
 refine AW.seq (vwa [(9,34,[10,12,9,3,13,1,11,2])] ?_)
 simp [g2]
 refine qc.pure hRv rfl rfl ?_
 simp [g0]
 refine qc.pure hRr rfl rfl ?_
 simp [g0,h0,d0,h64,d1]
 refine AW.ofz [(9,34,[10,12,9,3,13,1,11,2])] mixed (by kernel_rfl) ?_
 simp [g0,g2,XP]
 refine Zj.of hRa (by simp [V.qA,V.closed,c2]) c4 ?_
 simp [g0,g2]
 refine Zj.of hDa (by simp [V.qA,V.closed,c1,c4]) c6 ?_
 simp [g0,g2]
 refine Zj.of hWr (by simp [V.qA,V.closed,c6]) c8 ?_
 simp [g0,g2]
 refine Zj.of hS1 (by simp [V.qA,c8]) rfl ?_
 simp [g0,g2]
 refine Zj.of hRb (by simp [V.qA,V.closed,c3]) c5 ?_
 simp [g0,g2]
 refine Zj.of hDb (by simp [V.qA,V.closed,c1,c5]) c7 ?_
 simp [g0,g2]
 refine Zj.of hWc (by simp [V.qA,V.closed,c7]) c9 ?_
 simp [g0,g2]
 refine qc.pure hS2 (by simp [V.qA,c9]) rfl ?_
 simp
 refine qc.of (hK _) ?_
 rintro y HH ⟨rfl,k2⟩
 simp
end Go.Proofs.YtnconfggojpkcaaGreat
