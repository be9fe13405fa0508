/- Texts that a law rests on, part f2: plain lemmas and what functions of the program do. No condition. -/
import Derived.Test.YtnconfggojpkcaaGreatSf1
set_option linter.all false
set_option maxHeartbeats 16000000
set_option maxRecDepth 100000
namespace Go.Proofs.YtnconfggojpkcaaGreat
open Go.RowKit AM
attribute [local simp] zQ qU jL zT zq zR zS zo jM zu qV Z8 Qm jC Ql yc ZE vZ slF qG Qo zK yx zA shares jh yt ze Qz QI qY ZF qZ qM vX zH yu Qe qL zD zG vU slV jE jG yE zU ZJ jB jF aMM aUn Qp vW jD zC jA qJ vV Qu vY vS Zw y9 qK Qs ZK zJ zI jH jR ZH eval zZ AM.valOf qm vO yR del SV.refers zY vQ jU shift ldV V.exact V.jg V.ofValue V.vP V.vL V.cells V.one Value.oneCell' ZI QY jV Q5 ZM ZC Qa Zy jl jI Qi ZL y8 yX Qr calm Qt Zn Qk feeds shrinks Qx looks isT Qf vK Qd putAt jT jc Zm sliceB isEq Qg zk qH zO zn qR zl zm qQ zP zi qP ZW Qw yB Zl QZ inO y7 Zi Mix.vT Mix.Qc QB QX qz qj qW zh qO ZV Qq yg yh ZG Zb yw yO Q8 jW V.fixed V.vC
attribute [local simp] vE je yL vH jQ vF vG jP yM vk jN V5 Ja yF QT Jb z0 JL VK Vo VU
def Vp (l:List Ru) (v:Vw) (S:List Sh):List Se:=S.filterMap (vJ (zmC l v) v)
def ScI (l:List Ru) (v:Vw) (xs:List Sh) (k:Nat) (F:Fr) (H:List Bk):Prop:=∃ L,H=vwB v::L∧F = [(0,.v (slU l)),(2,.v (slS xs)),(4,.v (.ptr 0 0)),(7,Qy (Vp l v (xs.take k))),(8,.v (.sc (.int .i64 k)))]
def ScM (l:List Ru) (v:Vw) (xs:List Sh) (k:Nat) (o:Option Se) (F:Fr) (H:List Bk):Prop:=∃ L z,H=vwB v::L∧H[z]? = some (seB (o.getD qw))∧F = [(0,.v (slU l)),(2,.v (slS xs)),(4,.v (.ptr 0 0)),(7,Qy (Vp l v (xs.take k))),(8,.v (.sc (.int .i64 k))),(9,.v (.ptr z 0)),(10,.v (.sc (.bool o.isSome)))]
theorem WU (l:List Ru) (v:Vw) (xs:List Sh):(Vp l v xs).length≤xs.length:=List.length_filterMap_le _ _
theorem qgR (l:List Ru) (v:Vw) (xs:List Sh) (x:Sh):Vp l v (xs ++ [x])=Vp l v xs++(match vJ (zmC l v) v x with | some s => [s] | none => []):=by
 unfold Vp
 rw [List.filterMap_append]
 cases h:vJ (zmC l v) v x <;> simp [h]
theorem qla {l:List Ru} (hl:l.length≤1000) (hn:(qg l).length≤1000) (hbr:∀ b∈qg l,qd b=true) (v:Vw) (xs:List Sh) (hx:xs.length≤1000000):PFn Tryz.prog 30 [slU l,.agg v.cs,slS xs] (QA (Vp l v xs)):=by
 have hS:=fun x=>qmq hl hn hbr v x
 have hcl:=yT l
 unfold Vw.cs at hS ⊢
 refine vwc (fn:=Tryz.f30) rfl ?_
 simp only [Tryz.f30,ql]
 refine AW.seq (vwb ?_)
 simp [slS,slU]
 refine AW.seq (vwb ?_)
 simp
 refine AW.seq (AW.seq (vwb ?_))
 simp
 refine AW.block (AW.count xs.length (ScI l v xs) ⟨_,?_,[],by simp [vwB],rfl⟩ ?_)
 ·simp [qz,qj,qm,slS,slU,Qy,qW,Vp]
 rintro k F H hk ⟨L,rfl,rfl⟩
 refine AW.seq (vwb ?_)
 by_cases hlt:k<xs.length
 ·have w1:IntKind.i64.wrap ((k:Int)+1)=(k:Int)+1:=by rw [wrap_i64] <;> omega
  have htk:xs.take (k+1)=xs.take k ++ [xs[k]]:=List.take_succ_eq_append_getElem hlt
  have hd:=qgR l v (xs.take k) xs[k]
  rw [← htk] at hd
  have hSk:=hS xs[k]
  have hdl:=WU l v (xs.take k)
  rw [List.length_take] at hdl
  generalize vJ (zmC l v) v xs[k]=o at *
  rw [Jf] at hSk
  unfold Sh.v Sh.cs at hSk
  unfold slU at hSk hcl
  simp [slS,slU,Qy,hlt]
  refine AW.seq (AW.block ?_)
  refine AW.mid (ScM l v xs k o) (AW.off [] [(5,10,12,[0,4,2,8])] mixed (by kernel_rfl) ?_) ?_
  ·unfold vwB
   have hp:∀ x y:Bk,(x::(L ++ [y]))[L.length+1]? = some y:=fun x y=>by simp
   have k3:∀ x y:Bk,Xi (x::L) (x::(L ++ [y]))=True:=fun x y=>by
    have:=Z4 (H:=x::L) (L := [y])
    simpa using this
   have k4:∀ (x:Bk) (z0 z1 z2 z3 z4 z5:SV) (a b c d e f:V),setCells (x::(L ++ [.cells [z0,z1,z2,z3,z4,z5]])) (L.length+1) 0 [a,b,c,d,e,f]=x::(L ++ [.cells [.v a,.v b,.v c,.v d,.v e,.v f]]):=fun x z0 z1 z2 z3 z4 z5 a b c d e f=>by
    simp [setCells,qo]
   simp [jq,zx,jX,jw,zN,jr,jv,zM,jY,flK,yK,zL,zw,QC,slS,slU,hlt,Xo,k3]
   refine ⟨qc.pure hSk (by simpa [V.qA,V.closed] using hcl) rfl ?_,qc.pure hSk (by simpa [V.qA,V.closed] using hcl) rfl ?_⟩
   all_goals
    simp [jq,zx,jX,jw,zN,jr,jv,zM,jY,flK,yK,zL,zw,QC,slS,slU,hlt,Xo,hp,k3,k4]
    refine ⟨_,?_,_,L.length+1,rfl,by simp [seB],rfl⟩
    simp [qz,qj,qm,slS,slU,Qy]
  ·rintro F1 H1 ⟨L1,z,rfl,hz,rfl⟩
   refine vwb ?_
   unfold slS slU Qy
   generalize Vp l v (xs.take k)=zs at *
   unfold seB at hz
   cases o with
   | none =>
    simp only [List.append_nil] at hd
    simp
    refine vwb ?_
    simp [w1]
    refine ⟨_,?_,L1,rfl,rfl⟩
    rw [hd]
    simp [qz,qj,qm,slS,slU,Qy]
   | some s =>
    simp only at hd
    have hz':=hz
    simp only [Option.getD_some] at hz'
    simp [hz']
    refine ⟨by omega,?_⟩
    refine vwb ?_
    simp [w1]
    refine ⟨_,?_,L1,rfl,rfl⟩
    rw [hd]
    simp [qz,qj,qm,slS,slU,Qy,Se.cs]
 ·have hk':k=xs.length:=by omega
  subst hk'
  simp [slS,slU,Qy]
  refine vwb ?_
  simp
  rfl
theorem qkC (s:Sh):s.v = .agg [.sc (.int .i64 s.id),.sc (.int .i64 s.box.x0),.sc (.int .i64 s.box.y0),.sc (.int .i64 s.box.x1),.sc (.int .i64 s.box.y1),.sc (.int .i64 s.lab)]:=rfl
def ShI (l:List Sh) (k:Nat) (F:Fr) (H:List Bk):Prop:=F = [(0,.v (slS l)),(3,.v (slS (hav (l.take k)))),(4,.v (.sc (.int .i64 k)))]
theorem dShps (l:List Sh) (hl:l.length≤1000000):PFn Tryz.prog 31 [slS l] (slS (hav l)):=by
 unfold slS
 refine vwc (fn:=Tryz.f31) rfl ?_
 simp only [Tryz.f31,ql]
 refine AW.seq (vwb ?_)
 simp
 refine AW.seq (vwb ?_)
 simp
 refine AW.seq (AW.seq (vwb ?_))
 simp
 refine AW.block (AW.count l.length (ShI l) ⟨_,?_,rfl⟩ ?_)
 ·simp [qz,qj,qm,slS,qW,hav]
 rintro k F H2 hk rfl
 have hsp:=YS (l.take k)
 rw [List.length_take,Nat.min_eq_left hk] at hsp
 unfold slS
 refine AW.seq (vwb ?_)
 by_cases hlt:k<l.length
 ·have w1:IntKind.i64.wrap ((k:Int)+1)=(k:Int)+1:=by rw [wrap_i64] <;> omega
  have hsn:=YT hlt
  have hR:=yC l[k].box
  have hP:=qne (hav (l.take k)) l[k] (by omega)
  have hdef:Xm (hav (l.take k)) l[k]=if qd l[k].box then y7 (hav (l.take k)) l[k] else hav (l.take k):=rfl
  unfold slS at hP
  rw [qkC] at hP
  unfold Re.v Re.cs at hR
  simp [hlt]
  refine vwb ?_
  simp [hlt,Xo]
  refine qc.pure hR rfl rfl ?_
  cases hr:qd l[k].box with
  | false =>
   rw [hr] at hdef
   simp [w1]
   refine ⟨_,?_,rfl⟩
   rw [hsn,hdef]
   simp [qz,qj,qm,slS]
  | true =>
   rw [hr] at hdef
   simp [hlt,Xo]
   refine qc.pure hP (by simp [V.qA,V.closed,zV (enc:=Sh.cs) (fun _=>rfl)]) (by simp [V.closed,zV (enc:=Sh.cs) (fun _=>rfl)]) ?_
   simp [w1]
   refine ⟨_,?_,rfl⟩
   rw [hsn,hdef]
   simp [qz,qj,qm,slS]
 ·have hk':k=l.length:=by omega
  subst hk'
  rw [List.take_length]
  simp
  refine vwb ?_
  simp
theorem KW {a b:List Sh} (h:a.Perm b) (k:Int):(less a k).Perm (less b k):=h.filter _
theorem qaq {a b:List Sh} (h:a.Perm b) (s:Sh):(Kz a s).Perm (Kz b s):=by
 unfold Kz
 split
 ·exact (KW h _).cons s
 ·exact h
theorem qak (R:List Sh):(Xr R).Perm (hav R):=by
 have go:∀ n,n≤R.length→(Xr (R.take n)).Perm (hav (R.take n)):=by
  intro n
  induction n with
  | zero=>intro _; simp [Xr,hav]
  | succ n ih =>
   intro hn
   have ih:=ih (by omega)
   have hi:=(YS (R.take n)).1
   have e:Xr (R.take (n+1))=Kz (Xr (R.take n)) (R[n]'(by omega)):=by
    unfold Xr
    rw [List.take_succ_eq_append_getElem (by omega),List.foldl_append]
    rfl
   rw [e,YT (by omega)]
   exact (qaq ih _).trans (qau hi).symm
 have:=go R.length (Nat.le_refl _)
 rwa [List.take_length] at this
section
variable {H:List Bk} {l:List Ru} {S:List Pr} {C:List Sh} {r c t m:Nat} {Tp Tc:Nat→Prop}
theorem Z9.qm7 {R:List Sh} (h:Z9 H l S (Xr R) r c t m Tp Tc):Z9 H l S (hav R) r c t m Tp Tc:=⟨h.tb,h.tp,h.tc.perm (qak R),h.pm,h.cm⟩
theorem V4 {Z:Sh→Int} {v:Vw} {t:Sh} {s:Se} (h:vJ Z v t=some s):yG v=true∧qd t.box=true∧s=⟨t.id,lvl v (Z t),(zW t.box (lvl v (Z t))).1⟩∧lvl v (Z t)≠0:=by
 unfold vJ at h
 split at h
 ·rename_i hc
  simp only [Bool.and_eq_true] at hc
  obtain ⟨h5,rfl⟩:=Xa h
  exact ⟨hc.1,hc.2,rfl,h5⟩
 ·cases h
theorem qdf {l:List Ru} (ha:l.all qI=true) {v:Vw} {x:Sh} (hr:qd x.box=true) (h:zmC l v x≠0):zmC l v x∈jZ l v:=by
 obtain ⟨_,a,b,_,e⟩:=Vz ha (ro:=v.ro) (ti:=v.ti) (la:=x.lab) hr
 have e2:zmC l v x=zmP l v ⟨0,⟨a,b⟩,x.lab⟩:=e.symm
 rw [e2] at h ⊢
 exact qhI ha h
theorem qch {l:List Ru} (ha:l.all qI=true) {v:Vw} {x:Sh} {s:Se} (h:vJ (zmC l v) v x=some s):zmC l v x∈lvls v (jZ l v):=by
 obtain ⟨h1,h2,_,h5⟩:=V4 h
 have hz:=Yo ha v x h2
 unfold lvls
 exact List.mem_filter.2 ⟨qdf ha h2 (qcR h1 h5 hz.1),by simpa using h5⟩
end
structure qeE (kv:V) (kp:Sh→Bool) (Jp:List Bk→Prop) (D:Nat→Prop) (mm:Nat):Prop where
 stab:∀ H H',Jp H→Kp (fun x=>¬ D x) H H'→Jp H'
 how:∃ g cap,kv = .fn (.func g) [] cap∧V.jg cap=none∧∀ (H:List Bk) (s:Sh),Jp H→AFn Tryz.prog g (s.v::cap) H fun y H'=>y = .sc (.bool (kp s))∧Jp H'∧vI mm H H'
def SoJ (Jp:List Bk→Prop) (mm:Nat) (H0:List Bk) (k r q b m it:Nat) (p:Pt) (l:Int) (kv:V) (kp:Sh→Bool) (ws:List Nat) (hs:List Ent) (es:List Sh) (n:Nat) (F:Fr) (H1:List Bk):Prop :=
 ∃ (left done:List Sh) (cu:Option (Value×V)) (hs1:List Ent),n=left.length∧H1[it]? = some (.iter m (left.map J5) cu)∧H1[k]? = some (skB r p l kv ws q)∧QQ H1 q hs1∧Kp (fun x=>x=k∨x=q∨x=mm) H0 H1∧H0.length≤it ∧
  hs1.Perm (done.map (Zp p l)++hs)∧(done++left.filter kp).Perm (es.filter kp)∧done.length+left.length≤es.length∧Jp H1∧F = [(0,.v (.ptr k 0)),(1,.v (.ptr b 0)),(12,.v (.ptr it 0))]
def SoL (Jp:List Bk→Prop) (mm:Nat) (H:List Bk) (k r q b m z:Nat) (p:Pt) (l:Int) (kv:V) (kp:Sh→Bool) (ws:List Nat) (hs1:List Ent) (lf:List Sh) (s:Sh) (F:Fr) (H5:List Bk):Prop :=
 ∃ b0:Bool,b0=kp s∧H5[H.length]? = some (.iter m (lf.map J5) (some (.int .i64 s.id,s.v)))∧H5[k]? = some (skB r p l kv ws q)∧QQ H5 q hs1∧Kp (fun x=>x=k∨x=q∨x=mm) H H5∧H5[z]? = some (shB s)∧Jp H5 ∧
  F = [(0,.v (.ptr k 0)),(1,.v (.ptr b 0)),(12,.v (.ptr H.length 0)),(5,.v (.ptr z 0)),(29,.v (.sc (.bool b0)))]
def KoJ (Jp:List Bk→Prop) (mm:Nat) (H0:List Bk) (k r q:Nat) (p:Pt) (l:Int) (kv:V) (kp:Sh→Bool) (ws:List Nat) (hs:List Ent) (c:Ce) (S:List Sh) (d:Nat) (T:Nat→Prop) (ks:Nat→Option Nat) (j:Nat) (F:Fr) (H1:List Bk):Prop :=
 ∃ (new:List It) (L:List Nat) (hs1:List Ent),H1[k]? = some (skB r p l kv (ws++L) q)∧QQ H1 q hs1∧Kp (fun x=>x=k∨x=q∨x=mm) H0 H1∧hs1.Perm (new.map (It.ent p l)++hs)∧(∀ it∈new,it.ok H1 T (ws++L)) ∧
  (new.flatMap (It.shs kp)).Perm ((at' c S++subs c S j).filter kp)∧L.length≤(subs c S j).length∧wts new≤(at' c S).length+(subs c S j).length*(d+1)∧Jp H1 ∧
  F = [(0,.v (.ptr k 0)),(45,.v (.agg [JC (ks 0),JC (ks 1),JC (ks 2),JC (ks 3)])),(46,.v (.sc (.int .i64 j)))]
theorem qfK {H:List Bk} {k r q b d mm:Nat} {p:Pt} {l:Int} {kv:V} {ws:List Nat} {hs:List Ent} {c:Ce} {S:List Sh} {I T:Nat→Prop} {kp:Sh→Bool} {Jp:List Bk→Prop} {D:Nat→Prop}
  (hk:H[k]? = some (skB r p l kv ws q)) (hq:QQ H q hs) (hN:Nd H d c S b I) (hc:yj c=true) (hd:(d:Int)+c.l=17) (hS:∀ s∈S,QH c (hm s)=true∧qd s.box=true)
  (hT:∀ x,I x→T x) (hTk:¬ T k) (hTq:¬ T q) (hkp:qeE kv kp Jp D mm) (hJp:Jp H) (hDl:∀ x,D x→x<H.length) (hDk:¬ D k) (hDq:¬ D q) (hmk:mm≠k) (hmq:mm≠q) (hmT:¬ T mm) (hmml:mm<H.length) (hw:ws.length+S.length≤100000) (hh:hs.length+S.length*20≤1000000) :
  AFn Tryz.prog 135 [.ptr k 0,.ptr b 0] H fun y H'=>Kp (fun x=>x=k∨x=q∨x=mm) H H'∧Jp H'∧∃ (new:List It) (L:List Nat) (hs':List Ent),H'[k]? = some (skB r p l kv (ws++L) q)∧QQ H' q hs'∧hs'.Perm (new.map (It.ent p l)++hs) ∧
   (∀ it∈new,it.ok H' T (ws++L))∧(new.flatMap (It.shs kp)).Perm (S.filter kp)∧L.length≤S.length∧wts new≤S.length*d:=by
 cases d with
 | zero=>exact hN.elim
 | succ d =>
 obtain ⟨m,es,ks,J,h1,h2,h3,h4,h5,h6⟩:=id hN
 have hkq:k≠q:=by
  rintro rfl
  obtain ⟨es,h1,_⟩:=hq
  rw [hk] at h1
  cases h1
 have hbT:=hT b ((h4 b).2 (.inl rfl))
 have hmTm:=hT m ((h4 m).2 (.inr (.inl rfl)))
 have hbk:b≠k:=fun e=>hTk (e▸hbT)
 have hbq:b≠q:=fun e=>hTq (e▸hbT)
 have hmm:m≠mm:=fun e=>hmT (e▸hmTm)
 unfold Zc at h1
 refine vwc (fn:=Tryz.f135) rfl ?_
 simp only [Tryz.f135,ql]
 refine AW.seq (AW.seq (vwa [(4,11,[0,5])] ?_))
 simp [h1,h2]
 refine AW.block (AW.qaZ (SoJ Jp mm H k r q b m H.length p l kv kp ws hs es) ⟨es.length,_,?_,es,[],none,hs,rfl,by simp,hget hk,hq.keep (Kp.refl.app (I:=NoB)) (fun h=>h),Kp.refl.app,Nat.le_refl _,by simp,by simp,by simp,hkp.stab _ _ hJp Kp.refl.app,rfl⟩ ?_)
 ·simp [qz,qj,qm]
 rintro n F H1 ⟨left,done,cu,hs1,rfl,q1,q2,q3,q4,q5,q6,q7,q8,q9,rfl⟩
 refine AW.seq (vwa [(4,11,[0,5])] ?_)
 simp [q1]
 refine ⟨fun e => ?_,fun i kk v s e1 e2 => ?_⟩
 rotate_left
 ·obtain ⟨rfl,rfl⟩:Value.int .i64 s.id=kk∧s.v=v:=by simpa [J5] using e2
  have hil:i<left.length:=(List.getElem?_eq_some_iff.1 e1).1
  have hitl:H.length<H1.length:=(List.getElem?_eq_some_iff.1 q1).1
  have hkl:k<H.length:=(List.getElem?_eq_some_iff.1 hk).1
  have hql:q<H.length:=by
   obtain ⟨es0,hq0,_⟩:=hq
   exact (List.getElem?_eq_some_iff.1 hq0).1
  obtain ⟨H2,eH,p1,p2,p3,p4,p6⟩:∃ H2,H2=H1.set H.length (Bk.iter m ((List.map J5 left).eraseIdx i) (some (Value.int IntKind.i64 s.id,s.v)))∧H2[H.length]? = some (.iter m ((left.eraseIdx i).map J5) (some (.int .i64 s.id,s.v)))∧H2[k]? = some (skB r p l kv ws q)∧QQ H2 q hs1∧Kp (fun x=>x=k∨x=q∨x=mm) H H2∧Jp H2:=by
   refine ⟨_,rfl,?_,?_,?_,?_,hkp.stab _ _ q9 ((Kp.refl.set rfl:Kp (fun x=>x=H.length) _ _).weak fun x hx hd=>by have:=hDl x hd; omega)⟩
   ·rw [List.getElem?_set_self hitl]
    have em:∀ (l:List Sh) (j:Nat),(l.eraseIdx j).map J5=(l.map J5).eraseIdx j:=by
     intro l
     induction l with
     | nil=>simp
     | cons a l ih=>intro j; cases j <;> simp [ih]
    rw [em]
   ·rw [List.getElem?_set_ne (by omega)]
    exact q2
   ·obtain ⟨es0,hq0,hq1⟩:=q3
    exact ⟨es0,by rw [List.getElem?_set_ne (by omega)]; exact hq0,hq1⟩
   ·exact Kp.new ((q4.weak fun x hx => .inl hx).set (.inr (Nat.le_refl _)))
  rw [← eH]
  clear eH q1 q2 q3 q4 q9
  rw [qbB] at p1 ⊢
  refine AW.seq (vwa [(4,11,[0,5])] ?_)
  simp
  refine AW.block (AW.seq (vwa [(4,11,[0,5])] ?_))
  simp [p1,setCells,qo]
  have p1':=hget (L := [shB s]) p1
  have p2':=hget (L := [shB s]) p2
  have p3':=p3.keep (Kp.refl.app (L := [shB s]) (I:=NoB)) (fun h=>h)
  have p4':=p4.app (L := [shB s])
  have p5':(H2 ++ [shB s])[H2.length]? = some (shB s):=by simp
  have p6':Jp (H2 ++ [shB s]):=hkp.stab _ _ p6 Kp.refl.app
  have hl2:H.length<H2.length:=(List.getElem?_eq_some_iff.1 p1).1
  unfold shB at p1' p2' p3' p4' p5' p6'
  generalize H2 ++ [Bk.cells [.v (.sc (.int .i64 s.id)),.v (.sc (.int .i64 s.box.x0)),.v (.sc (.int .i64 s.box.y0)),.v (.sc (.int .i64 s.box.x1)),.v (.sc (.int .i64 s.box.y1)),.v (.sc (.int .i64 s.lab))]]=H3 at *
  generalize hz:H2.length=z at *
  clear p1 p2 p3 p4 p6
  have hep:=qew e1
  have hll:(left.eraseIdx i).length=left.length - 1:=List.length_eraseIdx_of_lt hil
  have hsk:=p2'
  unfold skB at hsk
  refine AW.mid (SoL Jp mm H k r q b m z p l kv kp ws hs1 (left.eraseIdx i) s) (vwa [(4,11,[0,5])] ?_) ?_
  ·obtain ⟨g,cap,rfl,hkx,hkf⟩:=hkp.how
   have hA:=hkf H3 s p6'
   rw [qbB] at hA
   simp [hsk,p5',hkx]
   refine qc.of hA ?_
   rintro y H4 ⟨rfl,hJ4,hA4⟩
   have hA5:Kp (fun x=>x=mm) H3 H4:=fun i b hi hb hn=>hA4 i b hi hb (hn mm)
   simp
   refine ⟨_,?_,kp s,rfl,hA4 _ _ (by omega) p1' (fun l cu e=>by cases e; exact hmm rfl),hA4.cells (Ne.symm hmk) p2',p3'.keep hA5 (Ne.symm hmq),p4'.trans (hA5.weak fun x hx => .inr (.inr hx)),hA4.cells (by omega) p5',hJ4,rfl⟩
   simp [qz,qj,qm]
  ·clear p1' p2' p3' p4' p5' p6' hsk
   rintro F H5 ⟨b0,hb0,p1,p2,p3,p4,p5,p6,rfl⟩
   have hsk:=p2
   unfold skB at hsk
   cases b0 with
   | false =>
    refine vwa [(4,11,[0,5])] ?_
    simp
    refine ⟨(left.eraseIdx i).length,by omega,_,?_,left.eraseIdx i,done,_,hs1,rfl,p1,p2,p3,p4,Nat.le_refl _,q6,?_,by omega,p6,rfl⟩
    ·simp [qz,qj,qm]
    ·have:=hep.filter kp
     rw [List.filter_cons,← hb0] at this
     exact (List.Perm.append_left done this).trans q7
   | true =>
    have hM:=qd0 p2
    have hlen1:=q6.length_eq
    rw [List.length_append,List.length_map] at hlen1
    have hesS:es.length≤S.length:=by
     have e1:=h3.length_eq
     have e2:(at' c S).length≤S.length:=List.length_filter_le _ _
     omega
    have hF:=qg6 s.box p l
    unfold Re.v Re.cs at hF
    have hP:=qfG p3 (by omega) ⟨WT s.box p l,1,s.id⟩
    rw [JX] at hP
    have hsh:(⟨WT s.box p l,1,s.id⟩:Ent)=Zp p l s:=rfl
    unfold shB at p5
    refine AW.ofz [(4,11,[0,5])] mixed (by kernel_rfl) ?_
    simp [hsk,p5]
    refine Zj.look hF rfl rfl hM ?_
    simp [hsk,p5]
    refine qc.of hP ?_
    rintro y H6 ⟨rfl,k6,hq6⟩
    simp
    have hzq:z≠q:=by
     rintro rfl
     obtain ⟨es0,hq0,_⟩:=p3
     rw [p5] at hq0
     cases hq0
    refine ⟨(left.eraseIdx i).length,by omega,_,?_,left.eraseIdx i,done ++ [s],_,_,rfl,k6 _ _ (by omega) p1,k6.cells hkq p2,hq6,p4.trans (k6.V8.weak fun x hx => .inr (.inl hx)),Nat.le_refl _,?_,?_,?_,hkp.stab _ _ p6 (k6.V8.weak fun x (hx:x=q)=>by rw [hx]; exact hDq),rfl⟩
    ·simp [qz,qj,qm]
    ·rw [hsh,List.map_append,List.append_assoc]
     refine (Xg _ _).trans ((q6.cons _).trans ?_)
     exact List.perm_middle.symm
    ·have:=hep.filter kp
     rw [List.filter_cons,← hb0,if_pos rfl] at this
     rw [List.append_assoc]
     exact (List.Perm.append_left done this).trans q7
    ·rw [List.length_append,List.length_singleton]
     omega
 ·subst e
  refine vwa [(4,11,[0,5])] ?_
  simp
  have hU:∀ x,T x→¬ (x=k∨x=q):=fun x hx e=>e.elim (fun e=>hTk (e▸hx)) (fun e=>hTq (e▸hx))
  have hU2:∀ x,T x→¬ (x=k∨x=q∨x=mm):=fun x hx e=>e.elim (fun e=>hTk (e▸hx)) (fun e=>e.elim (fun e=>hTq (e▸hx)) (fun e=>hmT (e▸hx)))
  have hb1:=q4.cells (hU2 b hbT) h1
  have hSl:=fun (j:Nat) (hj:j≤4)=>qfJ (c:=c) (S:=S) (j:=j) (fun s hs=>(hS s hs).1) hj
  have hatl:(at' c S).length≤S.length:=List.length_filter_le _ _
  have hel:=h3.length_eq
  rw [List.filter_nil,List.append_nil] at q7
  have hdn:done.length≤(at' c S).length:=by
   have:=q7.length_eq
   have e2:(es.filter kp).length≤es.length:=List.length_filter_le _ _
   omega
  refine AW.seq (vwa [(4,11,[0,5])] ?_)
  simp [hb1]
  refine AW.block (AW.count 4 (KoJ Jp mm H k r q p l kv kp ws hs c S d T ks) ⟨_,?_,done.map It.sh,[],hs1,by rw [List.append_nil]; exact q2,q3,q4,?_,?_,?_,Nat.zero_le _,?_,q9,rfl⟩ ?_)
  ·simp [qz,qj,qm]
  ·rw [List.map_map]
   exact q6
  ·intro it hit
   obtain ⟨s,_,rfl⟩:=List.mem_map.1 hit
   trivial
  ·rw [qh2]
   have:=q7.trans (h3.filter kp)
   simpa [subs] using this
  ·rw [qhL]
   omega
  clear q1 q2 q3 q4 q5 q6 q7 q8 q9 hb1
  rintro j F H3 hj ⟨new,L,hs2,r1,r2,r3,r4,r5,r6,r7,r8,r9,rfl⟩
  refine AW.seq (vwa [(4,11,[0,5])] ?_)
  by_cases hlt:j<4
  ·have hlt':(j:Int)<4:=by omega
   have w1:IntKind.i64.wrap ((j:Int)+1)=(j:Int)+1:=by rw [wrap_i64] <;> omega
   have hget' : [JC (ks 0),JC (ks 1),JC (ks 2),JC (ks 3)][j]? = some (JC (ks j)):=by
    rcases (show j=0∨j=1∨j=2∨j=3 by omega) with rfl | rfl | rfl | rfl <;> rfl
   have hsj:=hSl j (by omega)
   have hsj1:=hSl (j+1) (by omega)
   have hnl:=Wv r5
   have hhl:=r4.length_eq
   rw [List.length_append,List.length_map] at hhl
   have hd17:d+1≤17:=by
    have:=(yI.1 hc).1
    omega
   have hmul:(subs c S j).length*(d+1)≤S.length*17:=Nat.mul_le_mul (by omega) hd17
   have hK:AFn Tryz.prog 134 [.ptr k 0,JC (ks j)] H3 fun y H'=>y = .tup []∧∃ (new':List It) (L':List Nat) (hs3:List Ent),H'[k]? = some (skB r p l kv (ws++L') q)∧QQ H' q hs3∧Kp (fun x=>x=k∨x=q∨x=mm) H H'∧hs3.Perm (new'.map (It.ent p l)++hs)∧(∀ it∈new',it.ok H' T (ws++L')) ∧
     (new'.flatMap (It.shs kp)).Perm ((at' c S++subs c S (j+1)).filter kp)∧L'.length≤(subs c S (j+1)).length∧wts new'≤(at' c S).length+(subs c S (j+1)).length*(d+1)∧Jp H':=by
    rcases h6 j hlt with ⟨e,hkj,_⟩ | ⟨hne,b',hkj,hN'⟩
    ·rw [hkj]
     refine (qcG k).mono' fun y H' hy=>⟨hy.1,new,L,hs2,?_⟩
     rw [hy.2,JQ,e,List.append_nil]
     exact ⟨r1,r2,r3,r4,r5,r6,r7,r8,r9⟩
    ·rw [hkj]
     have hJT:∀ x,J j x→T x:=fun x hx=>hT x ((h4 x).2 (.inr (.inr ⟨j,hlt,hx⟩)))
     have hN3:=Nd.keep r3 hN' fun x hx=>hU2 x (hJT x hx)
     have hd0:0<d:=by
      cases d with
      | zero=>exact hN'.elim
      | succ d=>omega
     have hcr:yj (qD c (j:Nat))=true:=Y7 hc (by omega) (by omega)
     obtain ⟨m',ks',hb'⟩:∃ m' ks',H3[b']? = some (.cells (Zc (qD c (j:Nat)) ks' (sub' (qD c (j:Nat)) S).length m')):=by
      cases d with
      | zero=>omega
      | succ d =>
       obtain ⟨m',_,ks',_,g1,_⟩:=hN3
       exact ⟨m',ks',g1⟩
     have hNo:=qdZ r1 r2 hb' hcr (by rw [List.length_append]; omega) (by omega)
     have hn0:(sub' (qD c (j:Nat)) S).length≠0:=fun e=>hne (List.length_eq_zero_iff.1 e)
     simp only [if_neg hn0] at hNo
     refine hNo.mono' fun y H' hy=>⟨hy.1,.nd (ws++L).length d (qD c (j:Nat)) (sub' (qD c (j:Nat)) S)::new,L ++ [b'],put hs2 (Y5 (qD c (j:Nat)) p l (ws++L).length),?_⟩
     obtain ⟨k5,g1,g2⟩:=hy.2
     refine ⟨by rw [← List.append_assoc]; exact g1,g2,r3.trans (k5.weak fun x hx=>hx.elim .inl fun e => .inr (.inl e)),?_,?_,?_,?_,?_,hkp.stab _ _ r9 (k5.weak fun x hx=>hx.elim (fun e=>by rw [e]; exact hDk) (fun e=>by rw [e]; exact hDq))⟩
     ·exact (Xg _ _).trans (r4.cons _)
     ·intro it hit
      rcases List.mem_cons.1 hit with rfl | hit
      ·refine ⟨hne,hcr,?_,fun s hs=>⟨(List.mem_filter.1 hs).2,(hS s (List.mem_filter.1 hs).1).2⟩,b',J j,by rw [← List.append_assoc,List.getElem?_append_right (Nat.le_refl _)]; simp,?_,hJT⟩
       ·show (d:Int)+(c.l+1)=17
        omega
       ·exact Nd.keep k5 hN3 fun x hx=>hU x (hJT x hx)
      ·rw [← List.append_assoc]
       exact It.WI k5 hU (r5 it hit)
     ·rw [JQ,List.flatMap_cons,← List.append_assoc,List.filter_append]
      exact (List.Perm.append_left _ r6).trans List.perm_append_comm
     ·rw [JQ,List.length_append,List.length_append,List.length_singleton]
      omega
     ·have e1:(subs c S (j+1)).length=(subs c S j).length+(sub' (qD c (j:Nat)) S).length:=by rw [JQ,List.length_append]
      have e2:wts (It.nd (ws++L).length d (qD c (j:Nat)) (sub' (qD c (j:Nat)) S)::new)=(sub' (qD c (j:Nat)) S).length*(d+1)+wts new:=by
       simp only [wts,List.map_cons,List.sum_cons,It.wt]
      rw [e1,e2,Nat.add_mul]
      omega
   simp [hlt']
   refine AW.seq (vwa [(4,11,[0,5])] ?_)
   simp
   refine AW.seq (AW.block (vwa [(4,11,[0,5])] ?_))
   simp [hlt',hget']
   refine qc.of hK ?_
   rintro y H4 ⟨rfl,new',L',hs3,g1,g2,g3,g4,g5,g6,g7,g8,g9⟩
   simp
   refine vwa [(4,11,[0,5])] ?_
   simp [w1]
   refine ⟨hlt,_,?_,new',L',hs3,g1,g2,g3,g4,g5,g6,g7,g8,g9,rfl⟩
   simp [qz,qj,qm]
  ·have hlt':¬ (j:Int)<4:=by omega
   have hj4:j=4:=by omega
   subst hj4
   simp [hlt']
   refine vwa [(4,11,[0,5])] ?_
   simp
   have hpp:=Vh fun s hs=>(hS s hs).1
   have h44:=hSl 4 (Nat.le_refl _)
   refine ⟨r3,r9,new,L,r1,hs2,r2,r4,r5,r6.trans (hpp.filter kp),by omega,?_⟩
   have e1:(at' c S).length≤(at' c S).length*(d+1):=Nat.le_mul_of_pos_right _ (Nat.succ_pos d)
   have e2:(at' c S).length*(d+1)+(subs c S 4).length*(d+1)≤S.length*(d+1):=by
    rw [← Nat.add_mul]
    exact Nat.mul_le_mul_right _ h44
   omega
theorem Wz {r:Re} {l:Int} (hl:vR l=true) (h:qd r=true):(zW r l).1=⟨side l*(r.x0/side l),side l*(r.y0/side l),side l*(r.x1/side l)+side l - 1,side l*(r.y1/side l)+side l - 1⟩:=by
 have hs:=Jl (zy.1 hl).1 (zy.1 hl).2
 simp [zW,hl,h,qaD hs.1]
theorem qey {a b:Re} {l:Int} (p:Pt) (hl:vR l=true) (ha:qd a=true) (hb:qd b=true) (h:b.x0≤a.x0∧b.y0≤a.y0∧a.x1≤b.x1∧a.y1≤b.y1):WT b p l≤WT a p l:=by
 have hl':=zy.1 hl
 have hs:=Jl hl'.1 hl'.2
 refine qeV p (Ze ha hl) (Ze hb hl) ?_
 rw [Wz hl ha,Wz hl hb]
 have m1:side l*(b.x0/side l)≤side l*(a.x0/side l):=Int.mul_le_mul_of_nonneg_left (Int.ediv_le_ediv hs.1 h.1) (by omega)
 have m2:side l*(b.y0/side l)≤side l*(a.y0/side l):=Int.mul_le_mul_of_nonneg_left (Int.ediv_le_ediv hs.1 h.2.1) (by omega)
 have m3:side l*(a.x1/side l)≤side l*(b.x1/side l):=Int.mul_le_mul_of_nonneg_left (Int.ediv_le_ediv hs.1 h.2.2.1) (by omega)
 have m4:side l*(a.y1/side l)≤side l*(b.y1/side l):=Int.mul_le_mul_of_nonneg_left (Int.ediv_le_ediv hs.1 h.2.2.2) (by omega)
 simp only
 omega
theorem qfW {c:Ce} {s:Sh} {l:Int} (p:Pt) (hl:vR l=true) (hc:yj c=true) (hs:QH c (hm s)=true∧qd s.box=true):WT (jy c) p l≤qmi s p l :=
 qey p hl hs.2 (Qj hc) (qcr hs.2 (yI.1 hc).1.1 hs.1)
theorem qb7 {H:List Bk} {T:Nat→Prop} {ws:List Nat} {p:Pt} {l:Int} {kp:Sh→Bool} {s:Sh} {its:List It} (hl:vR l=true) (hok:∀ it∈its,it.ok H T ws) (hmin:∀ it∈its,(it.ent p l).lt (Zp p l s)=false) :
  ∀ y∈(its.flatMap (It.shs kp)).map (Zp p l),y.lt (Zp p l s)=false:=by
 intro y hy
 obtain ⟨t,ht,rfl⟩:=List.mem_map.1 hy
 obtain ⟨it,hit,hti⟩:=List.mem_flatMap.1 ht
 have hm:=hmin it hit
 cases it with
 | sh t' =>
  simp only [It.shs,List.mem_singleton] at hti
  subst hti
  exact hm
 | nd i d c S =>
  obtain ⟨h1,h2,h3,h4,_⟩:=hok _ hit
  simp only [It.shs] at hti
  have htS:=(List.mem_filter.1 hti).1
  have hle:=qfW p hl h2 (h4 t htS)
  rw [Ent.WL] at hm ⊢
  simp only [It.ent,Y5,Zp] at hm ⊢
  omega
def qeD (S:List Sh) (kp:Sh→Bool) (p:Pt) (l n:Int) (R:List Sh):Prop:=R.map (Zp p l)=(sort ((S.filter kp).map (Zp p l))).take n.toNat∧∀ s∈R,s∈S.filter kp
def NsM (H0:List Bk) (k r q:Nat) (p:Pt) (l:Int) (kv:V) (n:Int) (F:Fr) (H1:List Bk):Prop :=
 H1[k]? = some (.cells [.v (.ptr r 0),.v (.sc (.int .i64 p.x)),.v (.sc (.int .i64 p.y)),.v (.sc (.int .i64 l)),.v kv,.v .nil,.v (.ptr q 0)])∧H1[q]? = some (qB [])∧Kp NoB H0 H1 ∧
  F = [(0,.v (.ptr r 0)),(2,.v (.sc (.int .i64 n))),(11,.v (.ptr k 0))]
def NsI (Jp:List Bk→Prop) (mm:Nat) (H0:List Bk) (k r q:Nat) (p:Pt) (l:Int) (kv:V) (n:Int) (S:List Sh) (T:Nat→Prop) (kp:Sh→Bool) (z:Nat) (F:Fr) (H1:List Bk):Prop :=
 ∃ (out:List Sh) (its:List It) (ws:List Nat) (hs:List Ent),z=wts its∧H1[k]? = some (skB r p l kv ws q)∧QQ H1 q hs∧Kp (fun x=>x=mm) H0 H1∧TrS H1 r S T∧hs.Perm (its.map (It.ent p l))∧(∀ it∈its,it.ok H1 T ws) ∧
  (out++its.flatMap (It.shs kp)).Perm (S.filter kp)∧out.map (Zp p l)++sort ((its.flatMap (It.shs kp)).map (Zp p l))=sort ((S.filter kp).map (Zp p l))∧ws.length+wts its≤S.length*18+1∧(out.length:Int)≤max n 0∧Jp H1 ∧
  F = [(0,.v (.ptr r 0)),(2,.v (.sc (.int .i64 n))),(11,.v (.ptr k 0)),(12,Q7 out)]
theorem qit {H:List Bk} {r:Nat} {S:List Sh} {T:Nat→Prop} (ht:TrS H r S T) (hS:S.length≤1000) (p:Pt) (n l:Int) (kv:V) (kp:Sh→Bool) {Jp:List Bk→Prop} {D:Nat→Prop} {mm:Nat} (hkp:qeE kv kp Jp D mm) (hJp:Jp H) (hDl:∀ x,D x→x<H.length) (hmml:mm<H.length) (hmT:¬ T mm) (hf:fits p=true) (hl:vR l=true) :
  AFn Tryz.prog 83 [.ptr r 0,p.v,.sc (.int .i64 n),.sc (.int .i64 l),kv] H fun y H'=>∃ R,y=slS R∧qeD S kp p l n R∧Jp H'∧Kp (fun x=>x=mm) H H':=by
 have hM:=fun L=>qg5 (ht.app (L:=L))
 have hF:=KG p
 rw [hf] at hF
 have hl':=zy.1 hl
 have h0:¬ l<0:=by omega
 have h16:¬ 16<l:=by omega
 have hTl:=ht.lt
 unfold Pt.v Pt.cs at hF ⊢
 refine vwc (fn:=Tryz.f83) rfl ?_
 simp only [Tryz.f83,ql]
 refine AW.seq (vwa [(3,5,[0,6,3,4])] ?_)
 simp
 refine AW.seq (AW.seq (vwa [(3,5,[0,6,3,4])] ?_))
 simp
 refine qc.of (hM _) ?_
 rintro y H1 ⟨rfl,rfl⟩
 simp
 refine qc.pure hF rfl rfl ?_
 simp [h0,h16]
 refine vwa [(3,5,[0,6,3,4])] ?_
 simp
 have ht1:=ht.app (L := [.cells [.v (.sc (.int .i64 p.x)),.v (.sc (.int .i64 p.y))]])
 have kp1:Kp NoB H (H ++ [.cells [.v (.sc (.int .i64 p.x)),.v (.sc (.int .i64 p.y))]]):=Kp.refl.app
 have hp1:(H ++ [Bk.cells [.v (.sc (.int .i64 p.x)),.v (.sc (.int .i64 p.y))]])[H.length]? = some (.cells [.v (.sc (.int .i64 p.x)),.v (.sc (.int .i64 p.y))]):=by simp
 have hll:H.length<(H ++ [Bk.cells [.v (.sc (.int .i64 p.x)),.v (.sc (.int .i64 p.y))]]).length:=by simp
 generalize H ++ [Bk.cells [.v (.sc (.int .i64 p.x)),.v (.sc (.int .i64 p.y))]]=H1 at *
 generalize hhl:H.length=hl0 at *
 have hkS:=fun (x:Bk)=>Z4 (H:=H1) (L := [x])
 have hkS2:=fun (x y:Bk)=>Z4 (H:=H1) (L := [x,y])
 refine AW.mid (NsM H (H1.length+1) r H1.length p l kv n) (vwa [(3,5,[0,6,3,4])] ?_) ?_
 ·obtain ⟨g,cap,rfl,_⟩:=hkp.how
  simp [hp1]
  refine qc.of (znew H1) ?_
  rintro y H2 ⟨rfl,rfl⟩
  simp [hkS,hkS2]
  refine ⟨_,?_,by simp,by simp,kp1.app,rfl⟩
  simp [qz,qj,qm]
 rintro F H2 ⟨hk2,hq2,kp2,rfl⟩
 have hkq:H1.length+1≠H1.length:=by omega
 have hkH:hl0≤H1.length+1:=by omega
 have hqH:hl0≤H1.length:=by omega
 generalize H1.length+1=k at *
 generalize H1.length=q at *
 clear hkS hkS2 hp1 ht1 kp1 hM
 refine AW.qaL (.own true 138 0 1 []) (id:=k) (off:=5) hk2 rfl ⟨rfl,rfl,by decide⟩ rfl ?_
 rw [zF hk2]
 have hk3:(H2.set k (Bk.cells (List.set [.v (.ptr r 0),.v (.sc (.int .i64 p.x)),.v (.sc (.int .i64 p.y)),.v (.sc (.int .i64 l)),.v kv,.v .nil,.v (.ptr q 0)] 5 (.own true 138 0 1 []))))[k]? = some (skB r p l kv [] q):=List.getElem?_set_self (List.getElem?_eq_some_iff.1 hk2).1
 have hq3:QQ (H2.set k (Bk.cells (List.set [.v (.ptr r 0),.v (.sc (.int .i64 p.x)),.v (.sc (.int .i64 p.y)),.v (.sc (.int .i64 l)),.v kv,.v .nil,.v (.ptr q 0)] 5 (.own true 138 0 1 [])))) q []:=⟨[],by rw [List.getElem?_set_ne hkq]; exact hq2,Held.nil⟩
 have kp3:Kp NoB H (H2.set k (Bk.cells (List.set [.v (.ptr r 0),.v (.sc (.int .i64 p.x)),.v (.sc (.int .i64 p.y)),.v (.sc (.int .i64 l)),.v kv,.v .nil,.v (.ptr q 0)] 5 (.own true 138 0 1 [])))):=Kp.new ((kp2.weak fun _ h=>h.elim).set (.inr (by rw [hhl]; exact hkH)))
 generalize H2.set k (Bk.cells (List.set [.v (.ptr r 0),.v (.sc (.int .i64 p.x)),.v (.sc (.int .i64 p.y)),.v (.sc (.int .i64 l)),.v kv,.v .nil,.v (.ptr q 0)] 5 (.own true 138 0 1 [])))=H3 at *
 have hJ3:Jp _:=hkp.stab _ _ hJp (kp3.weak fun x h=>h.elim)
 clear hk2 hq2 kp2
 have ht3:=ht.Vb kp3
 obtain ⟨b,m,I,es,hb,hT⟩:=id ht3
 have hTk:∀ x,T x→¬ (x=k∨x=q):=fun x hx e=>by
  have:=hTl x hx
  omega
 obtain ⟨m',ks',hb'⟩:∃ m' ks',H3[b]? = some (.cells (Zc VQ ks' S.length m')):=by
  obtain ⟨m',_,ks',_,g1,_⟩:=hb.nd
  exact ⟨m',ks',g1⟩
 have hNo:=qdZ hk3 hq3 hb' YD (by simp) (by simp)
 have hr3:=hb.cr
 refine AW.seq (vwa [(3,5,[0,6,3,4])] ?_)
 simp [hr3]
 refine qc.of hNo ?_
 rintro y H4 ⟨rfl,hnq⟩
 simp
 have hst:∃ (its:List It) (ws:List Nat) (hs:List Ent),H4[k]? = some (skB r p l kv ws q)∧QQ H4 q hs∧Kp NoB H H4∧hs.Perm (its.map (It.ent p l))∧(∀ it∈its,it.ok H4 T ws)∧(its.flatMap (It.shs kp))=S.filter kp∧ws.length+wts its≤S.length*18+1:=by
  by_cases hz:S.length=0
  ·rw [if_pos hz] at hnq
   obtain ⟨g1,g2,g3⟩:=hnq
   have:S = []:=List.length_eq_zero_iff.1 hz
   exact ⟨[],[],[],g2,g3,Kp.new ((kp3.weak fun _ h=>h.elim).trans (g1.weak fun x hx => .inr (by omega))),.nil,fun _ h=>(by cases h),by simp [this],by simp [wts]⟩
  ·rw [if_neg hz] at hnq
   obtain ⟨g1,g2,g3⟩:=hnq
   refine ⟨[.nd 0 17 VQ S],[b],_,g2,g3,Kp.new ((kp3.weak fun _ h=>h.elim).trans (g1.weak fun x hx => .inr (by omega))),.refl _,fun it hit => ?_,by simp [It.shs],by simp [wts,It.wt]; omega⟩
   rw [List.mem_singleton] at hit
   subst hit
   refine ⟨fun e=>hz (by rw [e]; rfl),YD,by decide,fun s hs=>⟨KR (hb.right s hs),hb.right s hs⟩,b,I,rfl,Nd.keep g1 hb.nd fun x hx=>hTk x ((hT x).2 (.inr (.inr hx))),fun x hx=>(hT x).2 (.inr (.inr hx))⟩
 obtain ⟨its,ws,hs,s1,s2,s3,s4,s5,s6,s7⟩:=hst
 have hJ4:Jp H4:=hkp.stab _ _ hJp (s3.weak fun x h=>h.elim)
 clear hnq hk3 hq3 kp3 ht3 hNo hr3 hb' hb hT hJ3
 refine vwa [(3,5,[0,6,3,4])] ?_
 simp
 refine (AW.qaZ (NsI Jp mm H k r q p l kv n S T kp) ⟨wts its,_,?_,[],its,ws,hs,rfl,s1,s2,s3.weak fun x h=>h.elim,ht.Vb s3,s4,s5,by rw [s6]; exact .refl _,by rw [s6]; rfl,s7,by simp; omega,hJ4,rfl⟩ ?_)
 ·simp [qz,qj,qm,qW,Q7]
 clear s1 s2 s3 s4 s5 s6 s7 hJ4 its ws hs
 have hDk:¬ D k:=fun e=>by have:=hDl _ e; omega
 have hDq:¬ D q:=fun e=>by have:=hDl _ e; omega
 rintro zz F H5 ⟨out,its,ws,hs,rfl,s1,s2,s3,s4,s5,s6,s7,s8,s9,s10,s11,rfl⟩
 have hTkk:¬ T k:=fun e=>hTk k e (.inl rfl)
 have hTqq:¬ T q:=fun e=>hTk q e (.inr rfl)
 have hnl:=Wv s6
 have hhl2:=s5.length_eq
 rw [List.length_map] at hhl2
 unfold Q7
 have hout:∀ s∈out,s∈S.filter kp:=fun s hs=>s7.mem_iff.1 (List.mem_append_left _ hs)
 refine AW.seq (AW.seq (vwa [(3,5,[0,6,3,4])] ?_))
 simp
 by_cases hlt:(out.length:Int)<n
 ·refine vwa [(3,5,[0,6,3,4])] ?_
  simp [hlt]
  have hP:=zpop s2 (by omega)
  have hsk:=s1
  unfold skB at hsk
  have hfin:its = []→qeD S kp p l n out:=fun e=>by
   subst e
   refine ⟨?_,hout⟩
   rw [List.flatMap_nil,List.map_nil] at s8
   have e1:sort ([]:List Ent) = []:=rfl
   rw [e1,List.append_nil] at s8
   rw [← s8,List.take_of_length_le]
   rw [List.length_map]
   omega
  refine AW.block (AW.seq (vwa [(3,5,[0,6,3,4])] ?_))
  simp [hsk]
  refine qc.of hP ?_
  rintro y H6 ⟨rfl,k6,hq6⟩
  cases hs with
  | nil =>
   have hits:its = []:=by
    have:=s5.length_eq
    simp at this
    exact List.length_eq_zero_iff.1 this.symm
   simp [qgw,setCells,qo]
   have kfin:Kp (fun x=>x=mm) H (H6 ++ [Bk.cells [.v (.sc (.int .u64 0)),.v (.sc (.int .u64 0)),.v (.sc (.int .i64 0))]]):=(Kp.new ((s3.weak fun _ h => .inl h).trans (k6.V8.weak fun x hx => .inr (by omega)))).app
   have hJ6:Jp (H6 ++ [Bk.cells [.v (.sc (.int .u64 0)),.v (.sc (.int .u64 0)),.v (.sc (.int .i64 0))]]):=hkp.stab _ _ (hkp.stab _ _ s11 (k6.V8.weak fun x (hx:x=q)=>by rw [hx]; exact hDq)) Kp.refl.app
   refine AW.seq (AW.seq (vwa [(3,5,[0,6,3,4])] ?_))
   simp
   refine vwa [(3,5,[0,6,3,4])] ?_
   simp
   exact ⟨out,rfl,hfin hits,hJ6,kfin⟩
  | cons x tl =>
   obtain ⟨it,its',hx,hpi,htl⟩:=qeP s5
   have hsr:Srt (x::tl):=by
    obtain ⟨_,_,hh⟩:=s2
    exact hh.2.2
   have hlx:∀ y∈tl,y.lt x=false:=(List.pairwise_cons.1 hsr).1
   have hqk:¬ k=q:=hkq
   have g1:=hget (L := [.cells [.v (.sc (.int .u64 x.k)),.v (.sc (.int .u64 x.t)),.v (.sc (.int .i64 x.i))]]) (k6.cells hqk s1)
   have g2:=hq6.keep (Kp.refl.app (L := [.cells [.v (.sc (.int .u64 x.k)),.v (.sc (.int .u64 x.t)),.v (.sc (.int .i64 x.i))]]) (I:=NoB)) (fun h=>h)
   have k7:Kp (fun x=>x=q) H5 (H6 ++ [.cells [.v (.sc (.int .u64 x.k)),.v (.sc (.int .u64 x.t)),.v (.sc (.int .i64 x.i))]]):=k6.V8.app
   have g3:Kp (fun x=>x=mm) H (H6 ++ [.cells [.v (.sc (.int .u64 x.k)),.v (.sc (.int .u64 x.t)),.v (.sc (.int .i64 x.i))]]):=Kp.new ((s3.weak fun _ h => .inl h).trans (k7.weak fun x hx => .inr (by omega)))
   have g4:=ht.keep g3 (fun x hx e=>hmT (e▸hx))
   have g8:=hkp.stab _ _ s11 (k7.weak fun x (hx:x=q)=>by rw [hx]; exact hDq)
   have g6:∀ it∈its,it.ok (H6 ++ [.cells [.v (.sc (.int .u64 x.k)),.v (.sc (.int .u64 x.t)),.v (.sc (.int .i64 x.i))]]) T ws:=fun it hit=>by
    have:=It.WI (L := []) k7 (fun x hx e=>hTqq (e▸hx)) (s6 it hit)
    rwa [List.append_nil] at this
   have g7:(H6 ++ [Bk.cells [.v (.sc (.int .u64 x.k)),.v (.sc (.int .u64 x.t)),.v (.sc (.int .i64 x.i))]])[H6.length]? = some (.cells [.v (.sc (.int .u64 x.k)),.v (.sc (.int .u64 x.t)),.v (.sc (.int .i64 x.i))]):=by simp
   have hkz:k<H6.length:=(List.getElem?_eq_some_iff.1 (k6.cells hqk s1)).1
   simp [qgw,JX,setCells,qo]
   simp only [List.tail_cons] at g2 hq6
   generalize H6 ++ [Bk.cells [.v (.sc (.int .u64 x.k)),.v (.sc (.int .u64 x.t)),.v (.sc (.int .i64 x.i))]]=H7 at *
   generalize H6.length=z at *
   clear s1 s2 s3 s4 s6 s11 k6 k7 hq6 hP hsk
   have hsk:=g1
   unfold skB at hsk
   have hwt:wts its=it.wt+wts its':=by rw [qdP hpi]; simp [wts]
   have hfm:(its.flatMap (It.shs kp)).Perm (it.shs kp++its'.flatMap (It.shs kp)):=by
    have:=hpi.flatMap_right (It.shs kp)
    simpa using this
   refine AW.seq (AW.seq (vwa [(3,5,[0,6,3,4])] ?_))
   simp
   refine vwa [(3,5,[0,6,3,4])] ?_
   simp
   cases it with
   | sh s =>
    obtain rfl:Zp p l s=x:=hx
    have e_t:(Zp p l s).t=1:=rfl
    have e_i:(Zp p l s).i=s.id:=rfl
    rw [e_t,e_i] at g7
    have hsk':s∈S.filter kp:=s7.mem_iff.1 (List.mem_append_right _ (hfm.mem_iff.2 (List.mem_append_left _ (List.mem_singleton.2 rfl))))
    have hsS:=(List.mem_filter.1 hsk').1
    obtain ⟨b,m,I,es,hb,hT⟩:=id g4
    have hr7:=hb.cr
    have hm7:=hb.cm
    have hfn:=qcY hb.ids hb.es s.id
    have hfs:fnd S s.id=some s:=by
     unfold fnd
     cases hc:S.find? fun t=>decide (t.id=s.id) with
     | none =>
      have:=List.find?_eq_none.1 hc s hsS
      simp at this
     | some t =>
      have h1:=List.mem_of_find?_eq_some hc
      have h2:t.id=s.id:=by simpa using List.find?_some hc
      rw [qcA hb.ids h1 hsS h2]
    rw [hfs] at hfn
    obtain ⟨j,hsf⟩:∃ j,XB s.id es 0=some (j,s):=by
     cases hc:XB s.id es 0 with
     | none=>rw [hc] at hfn; cases hfn
     | some pp =>
      obtain ⟨j,t⟩:=pp
      rw [hc] at hfn
      cases hfn
      exact ⟨j,rfl⟩
    refine AW.seq (AW.seq (vwa [(3,5,[0,6,3,4])] ?_))
    simp [g7]
    refine vwa [(3,5,[0,6,3,4])] ?_
    simp
    refine vwa [(3,5,[0,6,3,4])] ?_
    simp [g7,hr7,hm7,KL,hsf,qmO,qbB]
    have hmn:∀ it∈its',(it.ent p l).lt (Zp p l s)=false:=fun it hit=>hlx _ (htl.mem_iff.2 (List.mem_map_of_mem hit))
    have hok':∀ it∈its',it.ok H7 T ws:=fun it hit=>g6 it (hpi.mem_iff.2 (List.mem_cons_of_mem _ hit))
    have holen:out.length≤S.length:=by
     have e1:=s7.length_eq
     rw [List.length_append] at e1
     have e2:(S.filter kp).length≤S.length:=List.length_filter_le _ _
     omega
    have hw1:(It.sh s).wt=1:=rfl
    refine ⟨by omega,wts its',by omega,_,?_,out ++ [s],its',ws,tl,rfl,g1,g2,g3,g4,htl,hok',?_,?_,by omega,?_,g8,rfl⟩
    ·simp [qz,qj,qm,Q7,Sh.cs]
    ·rw [List.append_assoc]
     exact (List.Perm.append_left out hfm.symm).trans s7
    ·have e1:sort ((its.flatMap (It.shs kp)).map (Zp p l))=Zp p l s::sort ((its'.flatMap (It.shs kp)).map (Zp p l)):=by
      rw [VW (hfm.map _)]
      exact qdV (qb7 hl hok' hmn)
     rw [e1] at s8
     rw [← s8,List.map_append,List.append_assoc]
     rfl
    ·rw [List.length_append,List.length_singleton]
     omega
   | nd i d c Sn =>
    obtain rfl:Y5 c p l i=x:=hx
    have e_t:(Y5 c p l i).t=0:=rfl
    have e_i:(Y5 c p l i).i=i:=rfl
    rw [e_t,e_i] at g7
    obtain ⟨o1,o2,o3,o4,b,I,o5,o6,o7⟩:=g6 _ (hpi.mem_iff.2 (List.mem_cons_self ..))
    have hiw:i<ws.length:=(List.getElem?_eq_some_iff.1 o5).1
    refine AW.seq (AW.seq (vwa [(3,5,[0,6,3,4])] ?_))
    simp [g7]
    refine vwa [(3,5,[0,6,3,4])] ?_
    simp [g7,hsk,hiw]
    have hwb:ws[i]=b:=by
     rw [List.getElem?_eq_getElem hiw] at o5
     exact Option.some.inj o5
    rw [hwb]
    have hSn:0<Sn.length:=List.length_pos_iff.2 o1
    have hw1:(It.nd i d c Sn).wt=Sn.length*(d+1):=rfl
    have hw2:Sn.length*(d+1)=Sn.length*d+Sn.length:=Nat.mul_succ _ _
    have htll:tl.length≤its.length:=by
     have:=s5.length_eq
     simp at this
     omega
    have hz7:=(List.getElem?_eq_some_iff.1 g7).1
    have hl7:H.length≤H7.length:=by omega
    have hOp:=qfK g1 g2 o6 o2 o3 o4 o7 hTkk hTqq hkp g8 (fun x hx=>by have:=hDl x hx; omega) hDk hDq (by omega) (by omega) hmT (by omega) (by omega) (by omega)
    refine qc.of hOp ?_
    rintro y H8 ⟨kp8,hJ8,new,L,hs',w1,w2,w3,w4,w5,w6,w7⟩
    have kp8':Kp (fun x=>x=mm) H H8:=Kp.new ((g3.weak fun _ h => .inl h).trans (kp8.weak fun x hx=>hx.elim (fun e => .inr (by omega)) (fun e=>e.elim (fun e => .inr (by omega)) .inl)))
    have hTk3:∀ x,T x→¬ (x=k∨x=q∨x=mm):=fun x hx e=>e.elim (fun e=>hTkk (e▸hx)) (fun e=>e.elim (fun e=>hTqq (e▸hx)) (fun e=>hmT (e▸hx)))
    simp
    have hwa:=qbx new its'
    refine ⟨wts (new++its'),by omega,_,?_,out,new++its',ws++L,hs',rfl,w1,w2,kp8',ht.keep kp8' (fun x hx e=>hmT (e▸hx)),?_,?_,?_,?_,?_,s10,hJ8,rfl⟩
    ·simp [qz,qj,qm,Q7]
    ·rw [List.map_append]
     exact w3.trans (List.Perm.append_left _ htl)
    ·intro it hit
     rcases List.mem_append.1 hit with hit | hit
     ·exact w4 it hit
     ·exact It.WI kp8 hTk3 (g6 it (hpi.mem_iff.2 (List.mem_cons_of_mem _ hit)))
    ·rw [List.flatMap_append]
     exact (List.Perm.append_left out ((w5.append_right _).trans hfm.symm)).trans s7
    ·rw [← s8]
     congr 1
     refine VW (List.Perm.map _ ?_)
     rw [List.flatMap_append]
     exact (w5.append_right _).trans hfm.symm
    ·rw [List.length_append]
     omega
 ·refine vwa [(3,5,[0,6,3,4])] ?_
  simp [hlt]
  refine ⟨out,rfl,⟨?_,hout⟩,s11,s3⟩
  have hol:n.toNat=(out.map (Zp p l)).length:=by
   rw [List.length_map]
   omega
  rw [← s8,hol,List.take_left]
def Jm (l:List Ru) (v:Vw) (z:Int) (x:Sh):Bool:=(vJ (zmC l v) v x).isSome&&decide (zmC l v x=z)
theorem qfR {l:List Ru} (hl:Yk l) (v:Vw) (z:Int) (x:Sh) {t m r c c1 c2 c3:Nat} {es:List (Value×V)} {H:List Bk} (hT:Tab H t m l es) (hM:VO l es) (h1:H[c1]? = some (wdB r c t)) (h2:H[c2]? = some (vwB v)) (h3:H[c3]? = some (zB z)) :
  AFn Tryz.prog 82 [x.v,.ptr c1 0,.ptr c2 0,.ptr c3 0] H fun y H'=>y = .sc (.bool (Jm l v z x))∧jS l t m H H':=by
 have hR:(vJ (zmC l v) v x).isSome=true→qd x.box=true:=fun h=>by
  unfold vJ at h
  split at h
  ·rename_i hc
   simp only [Bool.and_eq_true] at hc
   exact hc.2
  ·cases h
 have hZ:(vJ (zmC l v) v x).isSome=true→∀ H' es',Tab H' t m l es'→VO l es'→AFn Tryz.prog 71 [.ptr t 0,.sc (.int .i64 v.ro),.sc (.int .i64 v.ti),.sc (.int .i64 x.lab),x.box.v] H' fun y H''=>y = .sc (.int .i64 (zmC l v x))∧jS l t m H' H'':=fun h H' es' hT' hM'=>by
  have:=gOf l v.ro v.ti x.lab x.box hl.len hl.n t m es' H' hT' hM'
  rw [Ko hl.all (hR h)] at this
  exact this
 have hSe:=fun H' es' hT' hM'=>X9 hl v x r c es' H' hT' hM' (t:=t) (m:=m)
 unfold Jm
 unfold wdC Vw.cs Sh.v Sh.cs at hSe
 unfold Sh.v Sh.cs
 unfold Re.v Re.cs at hZ
 have hzz:∀ zz,(zz==z)=decide (zz=z):=fun zz=>rfl
 clear hR
 generalize vJ (zmC l v) v x=o at *
 generalize zmC l v x=zz at *
 simp only [Jf] at hSe
 have hml:=(List.getElem?_eq_some_iff.1 hT.m).1
 refine vwc (fn:=Tryz.f82) rfl ?_
 simp only [Tryz.f82,ql]
 refine AW.seq (vwa [(2,14,[7,1,2,4,3])] ?_)
 simp
 change AW _ _ _ _ ⟨_,H ++ [jJ x]⟩
 have k1:vI m H (H ++ [jJ x]) := .app
 have e1:=hget (L := [jJ x]) h1
 have e2:=hget (L := [jJ x]) h2
 have e3:=hget (L := [jJ x]) h3
 have e4:(H ++ [jJ x])[H.length]? = some (jJ x):=by simp
 have hT1:=hT.stays (.app (L := [jJ x]))
 generalize H ++ [jJ x]=H1 at *
 generalize H.length=i0 at *
 have e1':=e1
 have e2':=e2
 have e4':=e4
 unfold wdB at e1'
 unfold vwB at e2'
 unfold jJ at e4'
 refine AW.seq (vwa [(2,14,[7,1,2,4,3])] ?_)
 simp [e1',e2',e4']
 refine qc.of (hSe _ _ hT1 hM) ?_
 rintro y H2 ⟨rfl,kK⟩
 have f1:=kK.2.cells (qh e1 hT1.m) e1
 have f2:=kK.2.cells (qh e2 hT1.m) e2
 have f3:=kK.2.cells (qh e3 hT1.m) e3
 have f4:=kK.2.cells (qh e4 hT1.m) e4
 have kK2:=jS.trans k1 kK
 clear e1 e2 e3 e4 e1' e2' e4' kK k1
 simp
 rw [qp rfl]
 have hpx:Bk.cells ([V.sc (.int .i64 (o.getD qw).id),V.sc (.int .i64 (o.getD qw).lv),V.sc (.int .i64 (o.getD qw).box.x0),V.sc (.int .i64 (o.getD qw).box.y0),V.sc (.int .i64 (o.getD qw).box.x1),V.sc (.int .i64 (o.getD qw).box.y1)].map SV.v)=seB (o.getD qw):=rfl
 rw [hpx]
 have g1:=hget (L := [seB (o.getD qw)]) f1
 have g2:=hget (L := [seB (o.getD qw)]) f2
 have g3:=hget (L := [seB (o.getD qw)]) f3
 have g4:=hget (L := [seB (o.getD qw)]) f4
 have kK3:=kK2.app (L := [seB (o.getD qw)])
 clear f1 f2 f3 f4 kK2
 generalize H2 ++ [seB (o.getD qw)]=H3 at *
 generalize H2.length=i1 at *
 have g1':=g1
 have g2':=g2
 have g3':=g3
 have g4':=g4
 unfold wdB at g1'
 unfold vwB at g2'
 unfold zB at g3'
 unfold jJ at g4'
 obtain ⟨⟨es3,t3,m3⟩,s3⟩:=kK3
 cases o with
 | none =>
  refine AW.seq (vwa [(2,14,[7,1,2,4,3])] ?_)
  simp
  refine vwa [(2,14,[7,1,2,4,3])] ?_
  simp
  exact ⟨⟨es3,t3,m3⟩,s3⟩
 | some s =>
  refine AW.seq (vwa [(2,14,[7,1,2,4,3])] ?_)
  simp [g1',g2',g3',g4']
  refine qc.of (hZ rfl _ _ t3 m3) ?_
  rintro y H4 ⟨rfl,kK⟩
  have kp4:=eq_true (kK.w.Va t3)
  have c3:=kK.2.cells (qh g3 t3.m) g3
  unfold zB at c3
  simp [g1',g2',g3',g4',kp4,c3]
  refine vwa [(2,14,[7,1,2,4,3])] ?_
  simp [hzz]
  exact jS.trans s3 kK
def Vl (S:List Sh) (kp:Sh→Bool) (p:Pt) (l n:Int):List Sh:=qaV Sh.id (Zp p l) S kp n
theorem qel {S:List Sh} (hS:(S.map Sh.id).Nodup) {kp:Sh→Bool} {p:Pt} {l n:Int} {R:List Sh} (h:qeD S kp p l n R):R=Vl S kp p l n:=qfY (i:=Sh.id) (ent:=Zp p l) (fun _=>rfl) hS h.1 h.2
def NcC (l:List Ru) (v:Vw) (S:List Sh) (Tt:Nat→Prop) (t m r c f q mf c2 c3 c4 c5 c6:Nat) (p:Pt) (mm:Int) (X:List (Int×Se)) (L:List Sh) (H0:List Bk) (k:Nat) (F:Fr) (H:List Bk):Prop :=
 WJC l v S Tt t m r c f q mf (X++yZ (vJ (zmC l v) v) p (L.take k)) H∧H[c2]? = some (wdB r c t)∧H[c3]? = some (vwB v)∧H[c4]? = some (ptB p)∧H[c5]? = some (zB mm)∧H[c6]? = some (.cells [.v (.ptr f 0)])∧Kp (fun x=>x=q∨x=mf∨x=m) H0 H ∧
  F = [(2,.v (.ptr c2 0)),(3,.v (.ptr c3 0)),(4,.v (.ptr c4 0)),(6,.v (.ptr c6 0)),(21,.v (slS L)),(22,.v (.sc (.int .i64 L.length))),(23,.v (.sc (.int .i64 k)))]
theorem qik {l:List Ru} (hl:Yk l) (v:Vw) {S:List Sh} {Tt:Nat→Prop} {t m r c f q mf c2 c3 c4 c5 c6:Nat} {p:Pt} {X:List (Int×Se)} {H:List Bk} (hd:WD Tt m q mf) (h:WJC l v S Tt t m r c f q mf X H)
  (h2:H[c2]? = some (wdB r c t)) (h3:H[c3]? = some (vwB v)) (h4:H[c4]? = some (ptB p)) {mm:Int} (h5:H[c5]? = some (zB mm)) (h6:H[c6]? = some (.cells [.v (.ptr f 0)])) (z lv:Int) (hf:fits p=true) (hlv:vR lv=true) (hS:S.length≤1000)
  (hnd:((X++yZ (vJ (zmC l v) v) p (Vl S (Jm l v z) p lv mm)).map fun x=>x.2.id).Nodup) (hlen:X.length+(Vl S (Jm l v z) p lv mm).length≤100000) :
  AFn Tryz.prog 81 [.sc (.int .i64 z),.sc (.int .i64 lv),.ptr c2 0,.ptr c3 0,.ptr c4 0,.ptr c5 0,.ptr c6 0] H fun y H'=>y = .tup []∧WJC l v S Tt t m r c f q mf (X++yZ (vJ (zmC l v) v) p (Vl S (Jm l v z) p lv mm)) H'∧Kp (fun x=>x=q∨x=mf∨x=m) H H':=by
 have hids:=h.tr.ids
 refine vwc (fn:=Tryz.f81) rfl ?_
 simp only [Tryz.f81,ql]
 refine AW.seq (vwa [(6,6,[6,12,4])] ?_)
 simp
 change AW _ _ _ _ ⟨_,H ++ [zB z]⟩
 have e2:=hget (L := [zB z]) h2
 have e3:=hget (L := [zB z]) h3
 have e4:=hget (L := [zB z]) h4
 have e5:=hget (L := [zB z]) h5
 have e6:=hget (L := [zB z]) h6
 have e7:(H ++ [zB z])[H.length]? = some (zB z):=by simp
 have hJ:=h.app (L := [zB z])
 have kp:Kp (fun x=>x=q∨x=mf∨x=m) H (H ++ [zB z]):=Kp.refl.app
 generalize H ++ [zB z]=H1 at *
 generalize H.length=i0 at *
 refine AW.seq (vwa [(6,6,[6,12,4])] ?_)
 simp
 obtain ⟨es1,t1,m1⟩:=hJ.tab
 have hkp:qeE (.fn (.func 82) [] [.ptr c2 0,.ptr c3 0,.ptr i0 0]) (Jm l v z) (fun Hx=>(∃ es,Tab Hx t m l es∧VO l es)∧Hx[c2]? = some (wdB r c t)∧Hx[c3]? = some (vwB v)∧Hx[i0]? = some (zB z)) (fun x=>x=t∨x=m∨x=c2∨x=c3∨x=i0) m:=by
  refine ⟨fun Hx Hy ⟨⟨es,a1,a2⟩,a3,a4,a5⟩ k=>⟨⟨es,⟨k.cells (fun e=>e (.inl rfl)) a1.t,k.map (fun e=>e (.inr (.inl rfl))) a1.m⟩,a2⟩,k.cells (fun e=>e (.inr (.inr (.inl rfl)))) a3,k.cells (fun e=>e (.inr (.inr (.inr (.inl rfl))))) a4,k.cells (fun e=>e (.inr (.inr (.inr (.inr rfl))))) a5⟩,⟨_,_,rfl,rfl,fun Hx s ⟨⟨es,a1,a2⟩,a3,a4,a5⟩ => ?_⟩⟩
  refine (qfR hl v z s a1 a2 a3 a4 a5).mono' ?_
  rintro y Hy ⟨rfl,kK⟩
  exact ⟨rfl,⟨kK.1,kK.2.cells (qh a3 a1.m) a3,kK.2.cells (qh a4 a1.m) a4,kK.2.cells (qh a5 a1.m) a5⟩,kK.2⟩
 have hlt:=fun {i:Nat} {b:Bk} (h:H1[i]? = some b)=>(List.getElem?_eq_some_iff.1 h).1
 have hN:=qit hJ.tr hS p mm lv _ _ hkp ⟨⟨es1,t1,m1⟩,e2,e3,e7⟩ (fun x hx=>by
  rcases hx with rfl | rfl | rfl | rfl | rfl
  ·exact hlt t1.t
  ·exact hlt t1.m
  ·exact hlt e2
  ·exact hlt e3
  ·exact hlt e7) (hlt t1.m) (fun e=>hd.tm _ e rfl) hf hlv
 unfold Pt.v Pt.cs at hN
 have e2':=e2
 have e4':=e4
 have e5':=e5
 unfold wdB at e2'
 unfold ptB at e4'
 unfold zB at e5'
 refine AW.seq (vwa [(6,6,[6,12,4])] ?_)
 simp [e2',e4',e5']
 refine qc.of hN ?_
 rintro y H2 ⟨R,rfl,hR,⟨tab2,f2,f3,_⟩,k2⟩
 have hRe:=qel hids hR
 rw [← hRe] at hnd hlen ⊢
 have f4:=k2.cells (qh e4 t1.m) e4
 have f5:=k2.cells (qh e5 t1.m) e5
 have f6:=k2.cells (qh e6 t1.m) e6
 have hJ2:=hJ.kept hd ⟨tab2,fun i b hi hb hn=>k2 i b hi hb hn⟩
 have kp2:=kp.trans (k2.weak (J:=fun x=>x=q∨x=mf∨x=m) fun x hx => .inr (.inr hx))
 have hsee:∀ s∈R,∃ o,vJ (zmC l v) v s=some o:=fun s hs=>by
  have h1:=(List.mem_filter.1 (hR.2 s hs)).2
  simp only [Jm,Bool.and_eq_true] at h1
  exact Option.isSome_iff_exists.1 h1.1
 unfold slS
 simp
 clear hN hR hRe hkp hlt e2 e3 e4 e5 e6 e7 e2' e4' e5' kp hJ tab2 t1 m1 k2
 refine AW.block (AW.count R.length (NcC l v S Tt t m r c f q mf c2 c3 c4 c5 c6 p mm X R H) ⟨_,?_,by simpa [yZ] using hJ2,f2,f3,f4,f5,f6,kp2,rfl⟩ ?_)
 ·simp [qz,qj,qm,slS]
 clear hJ2 f2 f3 f4 f5 f6 kp2
 rintro k F H3 hk ⟨hJ3,g2,g3,g4,g5,g6,kp3,rfl⟩
 unfold slS
 refine AW.seq (vwa [(6,6,[6,12,4])] ?_)
 by_cases hlt:k<R.length
 ·have ew:IntKind.i64.wrap ((k:Int)+1)=k+1:=wrap_i64 (by omega) (by omega)
  have htk:R.take (k+1)=R.take k ++ [R[k]]:=List.take_succ_eq_append_getElem hlt
  obtain ⟨o,ho⟩:=hsee _ (List.getElem_mem hlt)
  have hsn:yZ (vJ (zmC l v) v) p (R.take (k+1))=yZ (vJ (zmC l v) v) p (R.take k) ++ [(Zu o.box p,o)]:=by
   rw [htk,Xy]
   simp [yZ,ho]
  have hlast:∀ x∈X++yZ (vJ (zmC l v) v) p (R.take k),x.2.id≠o.id:=by
   refine KT (x:=(Zu o.box p,o)) ?_
   rw [List.append_assoc,← hsn]
   have e:yZ (vJ (zmC l v) v) p R=yZ (vJ (zmC l v) v) p (R.take (k+1))++yZ (vJ (zmC l v) v) p (R.drop (k+1)):=by rw [← Xy,List.take_append_drop]
   rw [e,← List.append_assoc,List.map_append] at hnd
   exact (List.nodup_append.1 hnd).1
  have hlen1:(X++yZ (vJ (zmC l v) v) p (R.take k)).length≤100000:=by
   have:=Xx (vJ (zmC l v) v) p (R.take k)
   rw [List.length_take] at this
   rw [List.length_append]
   omega
  simp [hlt]
  refine vwa [(6,6,[6,12,4])] ?_
  simp [Xo hlt,hlt]
  rw [qp rfl]
  have hpr:Bk.cells ([V.sc (.int .i64 R[k].id),V.sc (.int .i64 R[k].box.x0),V.sc (.int .i64 R[k].box.y0),V.sc (.int .i64 R[k].box.x1),V.sc (.int .i64 R[k].box.y1),V.sc (.int .i64 R[k].lab)].map SV.v)=jJ R[k]:=rfl
  rw [hpr]
  have e2:=hget (L := [jJ R[k]]) g2
  have e3:=hget (L := [jJ R[k]]) g3
  have e4:=hget (L := [jJ R[k]]) g4
  have e5:=hget (L := [jJ R[k]]) g5
  have e6:=hget (L := [jJ R[k]]) g6
  have e7:(H3 ++ [jJ R[k]])[H3.length]? = some (jJ R[k]):=by simp
  have hJ:=hJ3.app (L := [jJ R[k]])
  have kp:=kp3.app (L := [jJ R[k]])
  clear hJ3 g2 g3 g4 g5 g6 kp3
  generalize H3 ++ [jJ R[k]]=H1 at *
  generalize H3.length=i1 at *
  have e2':=e2
  have e3':=e3
  have e7':=e7
  unfold wdB at e2'
  unfold vwB at e3'
  unfold jJ at e7'
  simp [e2',e3',e7']
  obtain ⟨es,t1,m1⟩:=hJ.tab
  have hSe:=X9 hl v R[k] r c es H1 t1 m1
  rw [ho] at hSe
  unfold wdC Vw.cs Sh.v Sh.cs at hSe
  rw [Jf] at hSe
  refine qc.of hSe ?_
  rintro y H5 ⟨rfl,kK⟩
  have kK:=kK.w
  have a2:=kK.2.cells (qh e2 t1.m) e2
  have a3:=kK.2.cells (qh e3 t1.m) e3
  have a4:=kK.2.cells (qh e4 t1.m) e4
  have a5:=kK.2.cells (qh e5 t1.m) e5
  have a6:=kK.2.cells (qh e6 t1.m) e6
  have hJ5:=hJ.kept hd kK
  have kp5:Kp (fun x=>x=q∨x=mf∨x=m) H H5:=kp.trans (fun i b hi hb hn=>kK.2 i b (fun e=>hi (.inr (.inr e))) hb hn)
  clear e2 e3 e4 e5 e6 e7 e2' e3' e7' hJ kp kK hSe t1 m1
  simp
  rw [qp rfl]
  have hpx:Bk.cells ([V.sc (.int .i64 o.id),V.sc (.int .i64 o.lv),V.sc (.int .i64 o.box.x0),V.sc (.int .i64 o.box.y0),V.sc (.int .i64 o.box.x1),V.sc (.int .i64 o.box.y1)].map SV.v)=seB o:=rfl
  rw [hpx]
  have b2:=hget (L := [seB o]) a2
  have b3:=hget (L := [seB o]) a3
  have b4:=hget (L := [seB o]) a4
  have b5:=hget (L := [seB o]) a5
  have b6:=hget (L := [seB o]) a6
  have b7:(H5 ++ [seB o])[H5.length]? = some (seB o):=by simp
  have hJ6:=hJ5.app (L := [seB o])
  have kp6:=kp5.app (L := [seB o])
  clear a2 a3 a4 a5 a6 hJ5 kp5
  generalize H5 ++ [seB o]=H6 at *
  generalize H5.length=i2 at *
  have b4':=b4
  have b7':=b7
  unfold ptB at b4'
  unfold seB at b7'
  have hD:=qhf o.box p
  unfold Re.v Re.cs Pt.v Pt.cs at hD
  have hP:=qiJ hJ6.fd (Zu o.box p) o hlast hlen1
  unfold Se.cs at hP
  generalize Zu o.box p=dd at *
  simp [b4',b6,b7']
  refine qc.pure hD rfl rfl ?_
  simp [b4',b6,b7']
  refine qc.of hP ?_
  rintro y H7 ⟨rfl,hY,k7⟩
  have hJ7:=hJ6.put hd k7 hY
  obtain ⟨hs,hq,_⟩:=hJ6.fd.q
  have kp7:=eq_true (qeU hq hJ6.fd.m k7)
  have n2:∀ {i:Nat} {a:V} {cs:List SV},H6[i]? = some (.cells (.v a::cs))→¬ (i=q∨i=mf):=fun hi e=>e.elim (Ky hi hq) (qh hi hJ6.fd.m)
  have d4:=k7.cells (n2 b4') b4'
  have d6:=k7.cells (n2 b6) b6
  have d7:=k7.cells (n2 b7') b7'
  simp [b4',b6,b7',kp7,d4,d6,d7,ew]
  refine ⟨_,?_,by rw [hsn,← List.append_assoc]; exact hJ7,k7.cells (n2 b2) b2,k7.cells (n2 b3) b3,k7.cells (n2 b4) b4,k7.cells (n2 b5) b5,d6,kp6.trans (k7.weak fun x hx=>hx.elim .inl fun e => .inr (.inl e)),rfl⟩
  simp [qz,qj,qm,slS]
 ·simp [hlt]
  have hkT:k=R.length:=by omega
  refine AW.seq (vwa [(6,6,[6,12,4])] ?_)
  simp
  rw [hkT,List.take_length] at hJ3
  exact ⟨hJ3,kp3⟩
theorem qcQ {S:List Sh} (hS:(S.map Sh.id).Nodup) {kp:Sh→Bool} {p:Pt} {l n:Int} {t:Sh} (h:t∈Vl S kp p l n):t∈S∧kp t=true:=X0 (i:=Sh.id) (ent:=Zp p l) (fun _=>rfl) hS h
theorem qaW {S:List Sh} (hS:(S.map Sh.id).Nodup) (kp:Sh→Bool) (p:Pt) (l n:Int):((Vl S kp p l n).map Sh.id).Nodup:=qaU (i:=Sh.id) (ent:=Zp p l) (fun _=>rfl) hS kp n
theorem K6 (S:List Sh) (kp:Sh→Bool) (p:Pt) (l n:Int):(Vl S kp p l n).length≤S.length:=qeR (i:=Sh.id) (ent:=Zp p l) S kp n
def QM (l:List Ru) (v:Vw) (p:Pt) (mm:Int) (S:List Sh) (D:List Int):List (Int×Se):=J9 (vJ (zmC l v) v) (fun s=>Zu s.box p) (fun z=>Vl S (Jm l v z) p (lvl v z) mm) D
theorem Y4 (l:List Ru) (v:Vw) (p:Pt) (mm:Int) (S:List Sh) (D:List Int) (z:Int):QM l v p mm S (D ++ [z])=QM l v p mm S D++yZ (vJ (zmC l v) v) p (Vl S (Jm l v z) p (lvl v z) mm):=by
 rw [XZ]
 simp [QM,J9]
theorem Yw {l:List Ru} {v:Vw} {p:Pt} {mm:Int} {S:List Sh} {D:List Int} (hS:(S.map Sh.id).Nodup) (hD:D.Nodup):((QM l v p mm S D).map fun x=>x.2.id).Nodup :=
 Yv (Z:=zmC l v) hS (fun t s h=>VX h) (fun z _=>⟨qaW hS _ _ _ _,fun t ht=>by
  obtain ⟨h1,h2⟩:=qcQ hS ht
  simp only [Jm,Bool.and_eq_true,decide_eq_true_eq] at h2
  exact ⟨h1,h2.2⟩⟩) hD
theorem Yb (l:List Ru) (v:Vw) (p:Pt) (mm:Int) (S:List Sh):∀ D:List Int,(QM l v p mm S D).length≤D.length*S.length
 | []=>by simp [QM,J9]
 | z::D=>by
  have h1:=Yb l v p mm S D
  have h2:=Xx (vJ (zmC l v) v) p (Vl S (Jm l v z) p (lvl v z) mm)
  have h3:=K6 S (Jm l v z) p (lvl v z) mm
  have e:QM l v p mm S (z::D)=yZ (vJ (zmC l v) v) p (Vl S (Jm l v z) p (lvl v z) mm)++QM l v p mm S D:=by
   rw [XZ]
   simp [QM,J9]
  rw [e,List.length_append,List.length_cons,Nat.add_mul]
  omega
theorem qfQ {l:List Ru} (hl:Yk l) (v:Vw) {S:List Sh} {Tt:Nat→Prop} {t m r c:Nat} {es:List (Value×V)} {H:List Bk} (hT:Tab H t m l es) (hM:VO l es) (ht:TrS H c S Tt) (htm:∀ x,Tt x→x≠m) (hS:S.length≤50) (hz:(jZ l v).length≤1000) (hzr:∀ z∈jZ l v,0≤z∧z≤16) (p:Pt) (mm:Int) :
  AFn Tryz.prog 32 [wdC r c t,.agg v.cs,p.v,.sc (.int .i64 mm)] H fun y H'=>Kept l t m H H'∧(yN v mm (fits p)≠0→y = .tup [.nil,.sc (.int .i64 1)]) ∧
   (yN v mm (fits p)=0→∃ R,y = .tup [QA R,.sc (.int .i64 0)]∧∀ Y:List (Int×Se),Y.Perm (QM l v p mm S (lvls v (jZ l v)))→Y.Pairwise (fun a b=>(Yd b).lt (Yd a)=false)→R=(Y.take mm.toNat).map (·.2)):=by
 have hA:=fun H=>qim v mm (fits p) r c t H
 have hR:=KG p
 have hml:=(List.getElem?_eq_some_iff.1 hT.m).1
 have htl:=(List.getElem?_eq_some_iff.1 hT.t).1
 have hrl:=ht.lt
 unfold wdC Vw.cs at hA ⊢
 unfold Pt.v Pt.cs at hR ⊢
 refine vwc (fn:=Tryz.f32) rfl ?_
 simp only [Tryz.f32,ql]
 refine AW.seq (vwa [(1,5,[4,5,7,6])] ?_)
 simp
 have k1:Kp NoB H (H ++ [wdB r c t,vwB v,ptB p,zB mm]):=Kp.refl.app
 have e0:(H ++ [wdB r c t,vwB v,ptB p,zB mm])[H.length]? = some (wdB r c t):=by simp
 have e1:(H ++ [wdB r c t,vwB v,ptB p,zB mm])[H.length+1]? = some (vwB v):=by simp
 have e2:(H ++ [wdB r c t,vwB v,ptB p,zB mm])[H.length+2]? = some (ptB p):=by simp
 have e3:(H ++ [wdB r c t,vwB v,ptB p,zB mm])[H.length+3]? = some (zB mm):=by simp
 change AW _ _ _ _ ⟨_,H ++ [wdB r c t,vwB v,ptB p,zB mm]⟩
 generalize H ++ [wdB r c t,vwB v,ptB p,zB mm]=H1 at *
 have n0:H.length≤H.length:=Nat.le_refl _
 have n1:H.length≤H.length+1:=by omega
 have n2:H.length≤H.length+2:=by omega
 generalize H.length+1=i1 at *
 generalize H.length+2=i2 at *
 have n3:H.length≤H.length+3:=by omega
 generalize H.length+3=i4 at *
 have e0':=e0
 have e1':=e1
 have e2':=e2
 have e3':=e3
 unfold wdB at e0'
 unfold vwB at e1'
 unfold ptB at e2'
 unfold zB at e3'
 refine AW.seq (AW.seq (vwa [(1,5,[4,5,7,6])] ?_))
 simp [e0',e1',e2',e3']
 refine qc.pure hR rfl rfl ?_
 simp [e0',e1',e2',e3']
 refine qc.of (hA H1) ?_
 rintro y H2 ⟨rfl,k2⟩
 have kp2:=k2.YF (fun x h=>h)
 have f0:=k2.cells id e0
 have f1:=k2.cells id e1
 have f2:=k2.cells id e2
 have f3:=k2.cells id e3
 have f0':=f0
 have f1':=f1
 have f2':=f2
 have f3':=f3
 unfold wdB at f0'
 unfold vwB at f1'
 unfold ptB at f2'
 unfold zB at f3'
 have k3:=k1.trans k2
 have hKT:Kept l t m H H2:=⟨⟨es,⟨k3.cells id hT.t,k3.map id hT.m⟩,hM⟩,fun i b _ hb hn=>k3 i b id hb hn⟩
 simp [e0',e1',e2',e3',f0',f1',f2',f3',kp2]
 refine vwa [(1,5,[4,5,7,6])] ?_
 by_cases ha:yN v mm (fits p)=0
 rotate_left
 ·have ha1:yN v mm (fits p)=1:=by unfold yN at ha ⊢; split at ha <;> first | exact absurd rfl ha | simp_all
  have ha':(yN v mm (fits p) != 0)=true:=by simpa using ha
  simp [ha,ha',ha1]
  exact hKT
 have ha':(yN v mm (fits p) != 0)=false:=by simpa using ha
 have hvf:yG v=true∧fits p=true:=by
  unfold yN at ha
  split at ha
  ·rename_i h
   simp only [Bool.and_eq_true] at h
   exact ⟨h.1.1.1,h.1.1.2⟩
  ·cases ha
 obtain ⟨hvr,hfp⟩:=hvf
 simp [ha,ha']
 refine AW.seq (vwa [(1,5,[4,5,7,6])] ?_)
 simp
 refine qc.of (qdy H2) ?_
 rintro y H3 ⟨f,q,mf,rfl,hF,l1,l2,l3,k4⟩
 simp
 rw [qp rfl]
 have g0:=hget (L := [Bk.cells ([V.ptr f 0].map SV.v)]) (k4.cells id f0)
 have g1:=hget (L := [Bk.cells ([V.ptr f 0].map SV.v)]) (k4.cells id f1)
 have g2:=hget (L := [Bk.cells ([V.ptr f 0].map SV.v)]) (k4.cells id f2)
 have g4:=hget (L := [Bk.cells ([V.ptr f 0].map SV.v)]) (k4.cells id f3)
 have g3:(H3 ++ [Bk.cells ([V.ptr f 0].map SV.v)])[H3.length]? = some (.cells [.v (.ptr f 0)]):=by simp
 have hF4:=hF.app (L := [Bk.cells ([V.ptr f 0].map SV.v)])
 have k5:Kp NoB H (H3 ++ [Bk.cells ([V.ptr f 0].map SV.v)]):=(k3.trans k4).app
 have hlen2:H.length<H2.length:=(List.getElem?_eq_some_iff.1 f0).1
 generalize H3 ++ [_]=H4 at *
 generalize H3.length=i3 at *
 clear e0 e1 e2 e3 e0' e1' e2' e3' f0 f1 f2 f3 f0' f1' f2' f3' kp2 k2 k4 k3 hF k1 hKT
 have hTb4:Tab H4 t m l es:=⟨k5.cells id hT.t,k5.map id hT.m⟩
 have ht4:=ht.Vb k5
 have hd:WD Tt m q mf:=⟨htm,fun x hx=>by have:=hrl x hx; omega,fun x hx=>by have:=hrl x hx; omega,by omega⟩
 have hJ4:WJC l v S Tt t m r c f q mf (QM l v p mm S []) H4:=⟨⟨es,hTb4,hM⟩,ht4,hF4⟩
 have hTe:qmK l v t m 81 [.ptr H.length 0,.ptr i1 0,.ptr i2 0,.ptr i4 0,.ptr i3 0] (jZ l v) (fun D Hx=>WJC l v S Tt t m r c f q mf (QM l v p mm S D) Hx∧Hx[H.length]? = some (wdB r c t)∧Hx[i1]? = some (vwB v)∧Hx[i2]? = some (ptB p)∧Hx[i4]? = some (zB mm)∧Hx[i3]? = some (.cells [.v (.ptr f 0)])) (fun x=>x=q∨x=mf∨x=m):=by
  refine ⟨fun D Hx hx=>hx.1.tab,fun D Hx Hy ⟨h,a1,a2,a3,a4,a5⟩ k => ?_,rfl,fun k hk Hx h0 ⟨h,a1,a2,a3,a4,a5⟩ => ?_⟩
  ·obtain ⟨es',t1,_⟩:=h.tab
   exact ⟨h.kept hd k,k.2.cells (qh a1 t1.m) a1,k.2.cells (qh a2 t1.m) a2,k.2.cells (qh a3 t1.m) a3,k.2.cells (qh a4 t1.m) a4,k.2.cells (qh a5 t1.m) a5⟩
  ·have hlk:lvls v ((jZ l v).take (k+1))=lvls v ((jZ l v).take k) ++ [(jZ l v)[k]]:=by rw [List.take_succ_eq_append_getElem hk,K9,if_neg h0]
   have hnd:=Yw (l:=l) (v:=v) (p:=p) (mm:=mm) ht.ids (VN (Zd l v) (k+1) (v:=v))
   rw [hlk,Y4] at hnd
   have hln:(QM l v p mm S (lvls v ((jZ l v).take k))).length+(Vl S (Jm l v (jZ l v)[k]) p (lvl v (jZ l v)[k]) mm).length≤100000:=by
    have b1:=Yb l v p mm S (lvls v ((jZ l v).take k))
    have b2:=K6 S (Jm l v (jZ l v)[k]) p (lvl v (jZ l v)[k]) mm
    have b3:=Yz v ((jZ l v).take k)
    rw [List.length_take] at b3
    have b4:(lvls v ((jZ l v).take k)).length*S.length≤1000*50:=Nat.mul_le_mul (by omega) hS
    omega
   refine AFn.conv (qik hl v hd h a1 a2 a3 a4 a5 _ _ hfp (zy.2 (KM hvr (hzr _ (List.getElem_mem hk)))) (by omega) hnd hln) ?_
   rintro y Hy ⟨rfl,h',k'⟩
   obtain ⟨hs,hq,_⟩:=h.fd.q
   obtain ⟨es',t1,_⟩:=h.tab
   have nn:∀ {i:Nat} {a:V} {cs:List SV},Hx[i]? = some (.cells (.v a::cs))→¬ (i=q∨i=mf∨i=m):=fun hi e=>by
    rcases e with e | e | e
    ·exact Ky hi hq e
    ·exact qh hi h.fd.m e
    ·exact qh hi t1.m e
   refine ⟨_,⟨rfl,⟨by rw [Y4]; exact h',k'.cells (nn a1) a1,k'.cells (nn a2) a2,k'.cells (nn a3) a3,k'.cells (nn a4) a4,k'.cells (nn a5) a5⟩,k'⟩,fun _ _ _ h=>h⟩
 have hll:∀ x,x=q∨x=mf∨x=m→x<H4.length:=fun x hx=>by
  obtain ⟨hs,⟨_,hq,_⟩,_⟩:=hF4.q
  rcases hx with rfl | rfl | rfl
  ·exact (List.getElem?_eq_some_iff.1 hq).1
  ·exact (List.getElem?_eq_some_iff.1 hF4.m).1
  ·exact (List.getElem?_eq_some_iff.1 hTb4.m).1
 have hLv:=qbO hl v r c (jZ l v) rfl (by omega) hTe hll (.inr (.inr rfl)) ⟨hJ4,g0,g1,g2,g4,g3⟩
 unfold wdC Vw.cs at hLv
 have g0':=g0
 have g1':=g1
 unfold wdB at g0'
 unfold vwB at g1'
 refine AW.seq (vwa [(1,5,[4,5,7,6])] ?_)
 simp [g0',g1']
 refine qc.of hLv ?_
 rintro y H5 ⟨rfl,⟨hJ5,a1,a2,a3,a5,a4⟩,k6⟩
 obtain ⟨hs,hq,hp⟩:=hJ5.fd.q
 have hnd:=Yw (l:=l) (v:=v) (p:=p) (mm:=mm) ht.ids ((Zd l v).sublist (List.filter_sublist (p:=fun z => !decide (lvl v z=0))))
 have hln:(QM l v p mm S (lvls v (jZ l v))).length≤100000:=by
  have b1:=Yb l v p mm S (lvls v (jZ l v))
  have b3:=Yz v (jZ l v)
  have b4:(lvls v (jZ l v)).length*S.length≤1000*50:=Nat.mul_le_mul (by omega) hS
  omega
 have hFi:=qdx hJ5.fd.f hJ5.fd.m hq hp hnd hln mm
 simp [a4]
 have a5':=a5
 unfold zB at a5'
 refine AW.seq (vwa [(1,5,[4,5,7,6])] ?_)
 simp [a4,a5']
 refine qc.of hFi ?_
 rintro y H6 ⟨rfl,k7⟩
 unfold QA
 simp
 have hsr:Srt hs:=by
  obtain ⟨_,_,_,_,h⟩:=hq
  exact h
 have hqt:∀ {i:Nat} {a:V} {cs:List SV},H5[i]? = some (.cells (.v a::cs))→¬ i=q:=fun hi e=>Ky hi hq e
 have hqm:∀ {i:Nat} {es:List (Value×V)},H5[i]? = some (.map es)→¬ i=q:=fun hi e=>by
  obtain ⟨_,hq1,_⟩:=hq
  exact qh hq1 hi e.symm
 refine vwa [(1,5,[4,5,7,6])] ?_
 simp
 refine ⟨?_,List.take mm.toNat (List.map (fun e=>Wh (QM l v p mm S (lvls v (jZ l v))) e.i) hs),by simp,fun Y hY hp2 => ?_⟩
 ·obtain ⟨es',t1,m1⟩:=hJ5.tab
  refine ⟨⟨es',⟨k7.cells (hqt t1.t) t1.t,k7.V8.map (hqm t1.m) t1.m⟩,m1⟩,fun i b hi hb hn => ?_⟩
  have hib:=(List.getElem?_eq_some_iff.1 hb).1
  refine k7.V8 i b (by omega) (k6 i b (fun e => ?_) (k5 i b id hb hn) hn) hn
  rcases e with e | e | e
  ·omega
  ·omega
  ·exact hi e
 ·have hnd':((QM l v p mm S (lvls v (jZ l v))).map fun x=>x.2.id).Nodup:=hnd
  have:=qb3 hnd' hY hsr hp hp2 mm.toNat
  simpa using this
section
variable {H:List Bk} {l:List Ru} {S:List Pr} {C:List Sh} {r c t m:Nat} {Tp Tc:Nat→Prop}
theorem qd2 {l:List Ru} {v:Vw} {t:Sh} {s:Se} (p:Pt) (h:vJ (zmC l v) v t=some s):Jz p s=qf1 (Zp p (lvl v (zmC l v t)) t):=by
 obtain ⟨_,_,rfl,_⟩:=V4 h
 rfl
theorem qeG (h:Z9 H l S C r c t m Tp Tc) (hl:Yk l) (hC:C.Pairwise fun a b=>a.id<b.id) (hCl:C.length≤50) (v:Vw) (p:Pt) (mm:Int) :
  AFn Tryz.prog 32 [wdC r c t,.agg v.cs,p.v,.sc (.int .i64 mm)] H fun y H'=>y=Wu (yN v mm (fits p)) (Ju (Vp l v C) p mm.toNat)∧Kept l t m H H':=by
 obtain ⟨⟨es,h1,h2⟩,h3,h4,h5,h6⟩:=h
 refine AFn.conv (qfQ hl v h1 h2 h4 h6 hCl (qe9 hl.all v) (fun z hz=>by have:=qlp hl.all hz; omega) p mm) ?_
 rintro y H' ⟨k,a1,a2⟩
 rcases qfE v mm (fits p) with e | e
 ·obtain ⟨R,rfl,hR⟩:=a2 e
  have hn:=J8 hC
  have hw:R=Ju (Vp l v C) p mm.toNat:=qcP (ZT (i:=Sh.id) (j:=Se.id) (fun t s h=>VX h) hn) (qfX (i:=Sh.id) (Z:=zmC l v) (ent:=fun z t=>Zp p (lvl v z) t) (fun t s h=>VX h) (fun _ _=>rfl) (fun _ _=>rfl) (fun t s _ h=>qd2 p h) hn (fun t _ s h=>qch hl.all h) ((Zd l v).sublist List.filter_sublist) hR)
  refine ⟨_,⟨rfl,k⟩,fun I φ w hw' => ?_⟩
  unfold Wu
  rw [if_pos e,← hw,e]
  exact hw'
 ·have:=a1 (by rw [e]; decide)
  subst this
  refine ⟨_,⟨rfl,k⟩,fun I φ w hw' => ?_⟩
  unfold Wu
  rw [if_neg (by rw [e]; decide),e]
  exact XF hw'
end
theorem dNearP (K:List Se) (hK:K.length≤1000) (hid:K.Pairwise fun a b=>a.id<b.id) (p:Pt) (n:Int):PFn Tryz.prog 34 [QA K,p.v,.sc (.int .i64 n)] (QA (Ju K p n.toNat)):=by
 refine (dNear K hK hid p n []).mono' ?_
 rintro y H' ⟨R,rfl,hR,_⟩
 rw [qcP (J8 (i:=Se.id) hid) hR]
theorem nearsLaw (q:Qv) (r:List Pr) (s:List Sh) (hl:q.l.length≤1048576) (hn:(qg q.l).length≤1048576) (hr:r.length≤300000) (hs:s.length≤300000):AFn Tryz.prog 7 [q.w,lV r,slS s] [] fun y _=>y = .sc (.bool true):=by
 have hb:∀ x∈q.l,x.boxes.length≤4398046511104:=fun x hx=>by have:=qbi x hx; omega
 have hK:=fun H=>qdS H
 have hW:=fun H=>qdg q.l (by omega) hb r hr s hs H
 have hF:=qgj q.l hb r s.length (s.flatMap Sh.cs)
 change PFn Tryz.prog 12 [slU q.l,lV r,slS s] _ at hF
 have c1:=yT q.l
 have c2:=VG r
 have c3:=Y9 s
 unfold Qv.w Qv.cs
 refine vwc (fn:=Tryz.f7) rfl ?_
 simp only [Tryz.f7,ql]
 refine AW.seq (vwa [(9,34,[10,12,9,3,13,1,11,2])] ?_)
 simp [slU]
 have e0 : [qvB q][0]? = some (qvB q):=rfl
 change AW _ _ _ _ ⟨_,[qvB q]⟩
 have hH0 : [qvB q].length=1:=rfl
 generalize [qvB q]=H0 at *
 have e0':=e0
 unfold qvB at e0'
 refine AW.seq (vwa [(9,34,[10,12,9,3,13,1,11,2])] ?_)
 simp [e0']
 refine qc.of (hW H0) ?_
 rintro y H1 ⟨k1,w0,w1⟩
 have f0:=k1.cells id e0
 have kp1:=eq_true (k1.YF (fun x h=>h))
 cases htb:tbR q.l with
 | false =>
  have:=w0 htb
  subst this
  simp [kp1]
  refine AW.seq (vwa [(9,34,[10,12,9,3,13,1,11,2])] ?_)
  simp
  refine qc.of (hK _) ?_
  rintro y H2 ⟨rfl,k2⟩
  simp
 | true =>
 obtain ⟨ra,ca,ta,ma,Ta,Ua,rfl,hJa⟩:=w1 htb
 have hWo:=hJa.ok.recs.qm7
 clear w0 w1 hW k1 hJa e0 e0'
 unfold wdC
 simp [kp1]
 rw [qp rfl]
 change AW _ _ _ _ ⟨_,H1 ++ [wdB ra ca ta]⟩
 have g0:=hget (L := [wdB ra ca ta]) f0
 have g1:(H1 ++ [wdB ra ca ta])[H1.length]? = some (wdB ra ca ta):=by simp
 have hWa:=hWo.app (L := [wdB ra ca ta])
 clear f0 hWo kp1
 generalize H1 ++ [wdB ra ca ta]=H2 at *
 generalize H1.length=i1 at *
 have g0':=g0
 try unfold qvB at g0'
 refine AW.seq (vwa [(9,34,[10,12,9,3,13,1,11,2])] ?_)
 simp [g0']
 refine qc.pure hF (by simp [V.qA,V.closed,c1,c2,c3]) rfl ?_
 cases hfw:ZB q.l r s.length with
 | false =>
  simp
  refine qc.of (hK _) ?_
  rintro y H3 ⟨rfl,k2⟩
  simp
 | true =>
 simp
 obtain ⟨hTb,hl7,hb10,hr30,hs12⟩:=WS htb hfw
 have hsr:=Z7 r
 have hsc:=YS s
 clear g0'
 try unfold wdB at g1
 have hwa:=fun HH h=>qhP (H:=HH) (S:=jK r) (C:=hav s) (r:=ra) (c:=ca) (t:=ta) (m:=ma) (Tp:=Ta) (Tc:=Ua) h hTb hsr.1 (by omega) q.v q.p q.m
 have hca:=fun HH h=>qeG (H:=HH) (S:=jK r) (C:=hav s) (r:=ra) (c:=ca) (t:=ta) (m:=ma) (Tp:=Ta) (Tc:=Ua) h hTb hsc.1 (by omega) q.v q.p q.m
 have hdl:=YZ q.l q.v (jK r)
 have hcl:=WU q.l q.v (hav s)
 have hRa:=qkj r (by omega)
 have hRb:=dShps s (by omega)
 have hDa:=qdc (l:=q.l) (by omega) (fun x hx=>by have:=hb x hx; omega) q.v (jK r) (by omega)
 have hDb:=qla (l:=q.l) (by omega) (by omega) (WY hTb.all) q.v (hav s) (by omega)
 have hWr:=dNearP (Je q.l q.v (jK r)) (by omega) (qfD (fun t s h=>qci h) hsr.1) q.p q.m
 have hWc:=dNearP (Vp q.l q.v (hav s)) (by omega) (qfD (fun t s h=>VX h) hsc.1) q.p q.m
 have c4:=VG (jK r)
 have c5:=Y9 (hav s)
 have c6:=Q9 (Je q.l q.v (jK r))
 have c7:=Q9 (Vp q.l q.v (hav s))
 have hlw:=X3 (Je q.l q.v (jK r)) q.p q.m.toNat
 have hlc:=X3 (Vp q.l q.v (hav s)) q.p q.m.toNat
 generalize hD1:Je q.l q.v (jK r)=D1 at *
 generalize hD2:Vp q.l q.v (hav s)=D2 at *
 have hl1:(Ju D1 q.p q.m.toNat).length≤1000:=by omega
 have hl2:(Ju D2 q.p q.m.toNat).length≤1000:=by omega
 generalize hA1:Ju D1 q.p q.m.toNat=A1 at *
 generalize hA2:Ju D2 q.p q.m.toNat=A2 at *
 have hS1:=qez A1 A1 (by omega)
 have hS2:=qez A2 A2 (by omega)
 rw [decide_eq_true rfl] at hS1 hS2
 have c8:=Q9 A1
 have c9:=Q9 A2
 simp only [Y3] at hwa hca
 unfold wdC Vw.cs Pt.v Pt.cs at hwa hca
 unfold Vw.cs at hDa hDb
 unfold Pt.v Pt.cs at hWr hWc
 have hRv:=qay q.v
 unfold Vw.cs at hRv
 have hRr:=VF q.p
 unfold Pt.v Pt.cs at hRr
 refine AW.seq (vwa [(9,34,[10,12,9,3,13,1,11,2])] ?_)
 simp [g0,g1]
 refine qc.of (hwa _ hWa) ?_
 rintro y H3 ⟨rfl,kK⟩
 obtain ⟨es,t1,m1⟩:=hWa.tb
 have g0:=kK.2.cells (qh g0 t1.m) g0
 have g1:=kK.2.cells (qh g1 t1.m) g1
 have kp:=eq_true (kK.Va t1)
 have hWa:=hWa.kept kK
 clear kK t1 m1
 simp [kp]
 refine AW.seq (vwa [(9,34,[10,12,9,3,13,1,11,2])] ?_)
 simp [g0,g1]
 refine qc.of (hca _ hWa) ?_
 rintro y H4 ⟨rfl,kK⟩
 obtain ⟨es,t1,m1⟩:=hWa.tb
 have g0:=kK.2.cells (qh g0 t1.m) g0
 have g1:=kK.2.cells (qh g1 t1.m) g1
 have kp:=eq_true (kK.Va t1)
 have hWa:=hWa.kept kK
 clear kK t1 m1
 simp [kp]
 refine AW.seq (vwa [(9,34,[10,12,9,3,13,1,11,2])] ?_)
 simp [g0]
 rw [qp rfl]
 change AW _ _ _ _ ⟨_,H4 ++ [vwB q.v]⟩
 have g0:=hget (L := [vwB q.v]) g0
 have g2:(H4 ++ [vwB q.v])[H4.length]? = some (vwB q.v):=by simp
 generalize H4 ++ [vwB q.v]=H5 at *
 generalize H4.length=i2 at *
 unfold vwB at g2
 refine AW.sub [(3,.v (.ptr 0 0)),(1,.v (lV r)),(2,.v (slS s)),(9,.v (QA (Vj (yN q.v q.m (fits q.p)) A1))),(10,.v (.sc (.int .i64 (yN q.v q.m (fits q.p))))),(11,.v (QA (Vj (yN q.v q.m (fits q.p)) A2))),(12,.v (.sc (.int .i64 (yN q.v q.m (fits q.p))))),(13,.v (.ptr i2 0)),(6,.v (.sc (.bool false)))] (by simp [qbh,qm]) ?_
 cases hv:yG q.v with
 | false =>
  have e1:yN q.v q.m (fits q.p)=1:=by simp [yN,hv]
  have hw0:IntKind.i64.wrap 0=0:=rfl
  have e2:∀ R,Vj 1 R = []:=fun R=>rfl
  rw [e1,e2,e2]
  refine AW.seq (vwa [(9,34,[10,12,9,3,13,1,11,2])] ?_)
  simp [g2]
  refine qc.pure hRv rfl rfl ?_
  simp [hv,QA,XP,hw0]
  refine qc.of (hK _) ?_
  rintro y HH ⟨rfl,k2⟩
  simp
 | true =>
 rw [hv] at hRv
 cases hrr:fits q.p with
 | false =>
  have e1:yN q.v q.m false=1:=by simp [yN,hrr]
  have hw0:IntKind.i64.wrap 0=0:=rfl
  have e2:∀ R,Vj 1 R = []:=fun R=>rfl
  rw [e1,e2,e2]
  rw [hrr] at hRr
  refine AW.seq (vwa [(9,34,[10,12,9,3,13,1,11,2])] ?_)
  simp [g2]
  refine qc.pure hRv rfl rfl ?_
  simp [g0]
  refine qc.pure hRr rfl rfl ?_
  simp [QA,XP,hw0]
  refine qc.of (hK _) ?_
  rintro y HH ⟨rfl,k2⟩
  simp
 | true =>
 rw [hrr] at hRr
 by_cases h0:0≤q.m
 rotate_left
 ·have d0:q.m<0:=by omega
  have e1:yN q.v q.m true=1:=by simp [yN,h0]
  have hw0:IntKind.i64.wrap 0=0:=rfl
  have e2:∀ R,Vj 1 R = []:=fun R=>rfl
  rw [e1,e2,e2]
  refine AW.seq (vwa [(9,34,[10,12,9,3,13,1,11,2])] ?_)
  simp [g2]
  refine qc.pure hRv rfl rfl ?_
  simp [g0]
  refine qc.pure hRr rfl rfl ?_
  simp [g0,h0,d0,QA,XP,hw0]
  refine qc.of (hK _) ?_
  rintro y HH ⟨rfl,k2⟩
  simp
 have d0:¬ q.m<0:=by omega
 by_cases h64:q.m≤64
 rotate_left
 ·have d1:64<q.m:=by omega
  have e1:yN q.v q.m true=1:=by simp [yN,h64]
  have hw0:IntKind.i64.wrap 0=0:=rfl
  have e2:∀ R,Vj 1 R = []:=fun R=>rfl
  rw [e1,e2,e2]
  refine AW.seq (vwa [(9,34,[10,12,9,3,13,1,11,2])] ?_)
  simp [g2]
  refine qc.pure hRv rfl rfl ?_
  simp [g0]
  refine qc.pure hRr rfl rfl ?_
  simp [g0,h0,d0,h64,d1,QA,XP,hw0]
  refine qc.of (hK _) ?_
  rintro y HH ⟨rfl,k2⟩
  simp
 have d1:¬ 64<q.m:=by omega
 have e1:yN q.v q.m true=0:=by simp [yN,hv,h0,h64]
 have e2:∀ R,Vj 0 R=R:=fun R=>rfl
 rw [e1,e2,e2]
 refine AW.seq (vwa [(9,34,[10,12,9,3,13,1,11,2])] ?_)
 simp [g2]
 refine qc.pure hRv rfl rfl ?_
 simp [g0]
 refine qc.pure hRr rfl rfl ?_
 simp [g0,h0,d0,h64,d1]
 refine AW.ofz [(9,34,[10,12,9,3,13,1,11,2])] mixed (by kernel_rfl) ?_
 simp [g0,g2,XP]
 refine Zj.of hRa (by simp [V.qA,V.closed,c2]) c4 ?_
 simp [g0,g2]
 refine Zj.of hDa (by simp [V.qA,V.closed,c1,c4]) c6 ?_
 simp [g0,g2]
 refine Zj.of hWr (by simp [V.qA,V.closed,c6]) c8 ?_
 simp [g0,g2]
 refine Zj.of hS1 (by simp [V.qA,c8]) rfl ?_
 simp [g0,g2]
 refine Zj.of hRb (by simp [V.qA,V.closed,c3]) c5 ?_
 simp [g0,g2]
 refine Zj.of hDb (by simp [V.qA,V.closed,c1,c5]) c7 ?_
 simp [g0,g2]
 refine Zj.of hWc (by simp [V.qA,V.closed,c7]) c9 ?_
 simp [g0,g2]
 refine qc.pure hS2 (by simp [V.qA,c9]) rfl ?_
 simp
 refine qc.of (hK _) ?_
 rintro y HH ⟨rfl,k2⟩
 simp
end Go.Proofs.YtnconfggojpkcaaGreat
