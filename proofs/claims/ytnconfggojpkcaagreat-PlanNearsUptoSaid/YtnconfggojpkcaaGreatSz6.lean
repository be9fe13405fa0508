/- Texts that a law rests on, part z6: plain lemmas and what functions of the program do. No condition. -/
import Derived.JoinedCond
import Derived.Lib.AppendZeros
import Derived.Shelf.Slices.CompactI
import Derived.Shelf.Slices.In.SortNone
import Derived.Shelf.Sort.Plain
import Derived.Test.YtnconfggojpkcaaGreatSz5
set_option linter.all false
set_option maxHeartbeats 16000000
set_option maxRecDepth 100000
namespace Go.Proofs.YtnconfggojpkcaaGreat
open Go.RowKit AM
theorem qjM {S:List Pr} {k:Int} {s:Pr} (h:VY S k=some s):s∈S∧s.id=k:=⟨List.mem_of_find?_eq_some h,by simpa using List.find?_some h⟩
theorem qgx {S:List Pr} {k:Int} (h:VY S k=none):∀ t∈S,t.id≠k:=fun t ht=>by simpa using List.find?_eq_none.1 h t ht
theorem qok {S:List Pr} (hn:(S.map Pr.id).Nodup) {s:Pr} (hs:s∈S):VY S s.id=some s:=by
 cases h:VY S s.id with
 | none=>exact absurd rfl (qgx h s hs)
 | some t =>
  obtain ⟨h1,h2⟩:=qjM h
  rw [qoi hn h1 hs h2]
theorem pfnd_no {S:List Pr} {k:Int} (h:∀ t∈S,t.id≠k):VY S k=none:=List.find?_eq_none.2 fun t ht=>by simpa using h t ht
theorem qjN {S S':List Pr} (hn:(S'.map Pr.id).Nodup) (hp:S.Perm S') (k:Int):VY S k=VY S' k:=by
 cases h:VY S k with
 | none=>exact (pfnd_no fun t ht=>qgx h t (hp.mem_iff.2 ht)).symm
 | some s =>
  obtain ⟨h1,rfl⟩:=qjM h
  exact (qok hn (hp.mem_iff.1 h1)).symm
def qlE (S:List Pr):List Pr:=S.mergeSort fun p q=>decide (p.id≤q.id)
theorem KO (S:List Pr):(qlE S).Perm S:=List.mergeSort_perm _ _
theorem qlD (S:List Pr):(qlE S).Pairwise fun p q=>p.id≤q.id:=by
 have:=List.pairwise_mergeSort (le:=fun p q:Pr=>decide (p.id≤q.id)) (fun a b c h1 h2=>by simp at *; omega) (fun a b=>by simp; omega) S
 simpa [qlE] using this
theorem qkA {S L:List Pr} (hn:(S.map Pr.id).Nodup) (hp:L.Perm S) (hr:L.Pairwise fun p q=>p.id≤q.id):L=qlE S :=
 List.Perm.eq_of_pairwise (le:=fun p q:Pr=>p.id≤q.id) (fun x y hx hy h1 h2=>qoi hn (hp.mem_iff.1 hx) ((KO S).mem_iff.1 hy) (Int.le_antisymm h1 h2)) hr (qlD S) (hp.trans (KO S).symm)
structure TrQ (H:List Bk) (r b nb mb cap:Nat) (s:Ar) (es:List Pr) (I:List Nat) (S:List Pr):Prop where
 tr:TrA H r b nb mb cap s es
 rep:Rep b s.A 16 0 VQ S I
 fit:Fit s I []
 ok:Ok 16 VQ S
 ids:(S.map Pr.id).Nodup
 es:es.Perm S
def TrP (H:List Bk) (r b:Nat) (S:List Pr) (T:Nat→Prop):Prop:=∃ nb mb cap s es I,TrQ H r b nb mb cap s es I S∧∀ x,T x↔x=r∨x=nb∨x=mb
theorem TrQ.pos {H:List Bk} {r b nb mb cap:Nat} {s:Ar} {es:List Pr} {I:List Nat} {S:List Pr} (h:TrQ H r b nb mb cap s es I S):0<s.A.length:=by
 obtain ⟨q,J,h1,_⟩:=h.rep.head
 exact (List.getElem?_eq_some_iff.1 h1).1
theorem TrQ.keep {H H':List Bk} {r b nb mb cap:Nat} {s:Ar} {es:List Pr} {I:List Nat} {S:List Pr} {U:Nat→Prop} (h:TrQ H r b nb mb cap s es I S) (hk:Kp U H H') (h1:¬ U r) (h2:¬ U nb) (h3:¬ U mb):TrQ H' r b nb mb cap s es I S:=⟨h.tr.kp3 hk h1 (fun _=>h2) h3,h.rep,h.fit,h.ok,h.ids,h.es⟩
theorem TrP.keep {H H':List Bk} {r b:Nat} {S:List Pr} {T U:Nat→Prop} (h:TrP H r b S T) (hk:Kp U H H') (hd:∀ x,T x→¬ U x):TrP H' r b S T:=by
 obtain ⟨nb,mb,cap,s,es,I,h,hT⟩:=h
 exact ⟨nb,mb,cap,s,es,I,h.keep hk (hd _ ((hT _).2 (.inl rfl))) (hd _ ((hT _).2 (.inr (.inl rfl)))) (hd _ ((hT _).2 (.inr (.inr rfl)))),hT⟩
theorem TrP.Vb {H H':List Bk} {r b:Nat} {S:List Pr} {T:Nat→Prop} (h:TrP H r b S T) (hk:Kp NoB H H'):TrP H' r b S T:=h.keep hk fun _ _=>id
theorem TrP.app {H L:List Bk} {r b:Nat} {S:List Pr} {T:Nat→Prop} (h:TrP H r b S T):TrP (H++L) r b S T:=h.Vb Kp.refl.app
theorem TrP.lt {H:List Bk} {r b:Nat} {S:List Pr} {T:Nat→Prop} (h:TrP H r b S T):∀ x,T x→x<H.length:=by
 obtain ⟨nb,mb,cap,s,es,I,h,hT⟩:=h
 intro x hx
 rcases (hT x).1 hx with rfl | rfl | rfl
 ·exact h.tr.rl
 ·exact (List.getElem?_eq_some_iff.1 (h.tr.cn (by have:=h.tr.le; have:=h.pos; omega))).1
 ·exact (List.getElem?_eq_some_iff.1 h.tr.cm).1
theorem TrP.ids {H:List Bk} {r b:Nat} {S:List Pr} {T:Nat→Prop} (h:TrP H r b S T):(S.map Pr.id).Nodup:=by
 obtain ⟨nb,mb,cap,s,es,I,h,hT⟩:=h
 exact h.ids
theorem un_root {p:Pt} (h:fits p=true):Un VQ p:=⟨h,qhV (yU h (by omega) (by omega))⟩
theorem qha:yj VQ=true:=by decide
theorem cap_big:0+qiT 16≤big:=by decide
theorem qoO {H H':List Bk} (h:KpA (fun _=>False) H H'):Kp NoB H H':=h.V8
theorem pNew (v:Int) (H:List Bk):AFn Tryz.prog 39 [.sc (.int .i64 v)] H fun y H'=>(newE v=false→y = .tup [.sc (.pointer none),.sc (.int .i64 1)]∧H'=H)∧(newE v=true→∃ r b T,y = .tup [.ptr r 0,.sc (.int .i64 0)]∧v=(b:Nat)∧TrP H' r b [] T∧Kp NoB H H'∧∀ x,T x→H.length≤x):=by
 refine AFn.conv (wNew v H) ?_
 rintro y H' ⟨h1,h2⟩
 refine ⟨y,⟨h1,fun hv => ?_⟩,fun _ _ _ h=>h⟩
 obtain ⟨r,nb,mb,cap,b,s,rfl,hb,hl,hT,k1,k2,k3,k4⟩:=h2 hv
 have hs:s=⟨[Wi VQ],[]⟩:=by
  simp [qcq,big] at hl
  exact hl.symm
 subst hs
 have hlf:LfR [Wi VQ] 0 VQ [] [0]:=⟨_,rfl,rfl,rfl,List.Perm.refl _,rfl,rfl⟩
 exact ⟨r,b,fun x=>x=r∨x=nb∨x=mb,rfl,hb,⟨nb,mb,cap,_,[],[0],⟨hT,.inl ⟨Nat.zero_le _,hlf⟩,⟨List.Perm.refl _,by simp [big]⟩,⟨qha,by decide,fun r hr=>(by cases hr),by simp⟩,List.nodup_nil,List.Perm.refl _⟩,fun x=>Iff.rfl⟩,qoO k4,fun x hx=>by omega⟩
section
variable {H:List Bk} {r b:Nat} {S:List Pr} {T:Nat→Prop}
theorem TrQ.b1 {nb mb cap:Nat} {s:Ar} {es:List Pr} {I:List Nat} (h:TrQ H r b nb mb cap s es I S):1≤b:=h.tr.b0.1
theorem qpx.to {nb mb nb':Nat} {H':List Bk} (h:qpx r nb mb H H' nb') (hT:∀ x,T x↔x=r∨x=nb∨x=mb):Kp T H H'∧∀ x,(x=r∨x=nb'∨x=mb)→T x∨H.length≤x:=by
 refine ⟨h.kp.weak fun x hx=>(hT x).2 hx,?_⟩
 rintro x (rfl | rfl | rfl)
 ·exact .inl ((hT _).2 (.inl rfl))
 ·rcases h.nb with e | e
  ·exact .inl ((hT _).2 (.inr (.inl e)))
  ·exact .inr e
 ·exact .inl ((hT _).2 (.inr (.inr rfl)))
def YA (S:List Pr) (rc:Pr):List Pr:=if qa2 S rc=0 then rc::S else S
theorem qas {S':List Pr} (hn:(S'.map Pr.id).Nodup) (hp:S.Perm S') (rc:Pr):qa2 S rc=qa2 S' rc:=by
 unfold qa2
 rw [qjN hn hp]
theorem VH {rc:Pr} (h:qa2 S rc=0):fits rc.at_=true∧∀ t∈S,t.id≠rc.id:=by
 unfold qa2 at h
 split at h
 ·rename_i hf
  split at h
  ·cases h
  ·rename_i hp
   refine ⟨hf,qgx ?_⟩
   simpa using hp
 ·cases h
theorem TrQ.put {nb mb cap:Nat} {s:Ar} {es:List Pr} {I:List Nat} (h:TrQ H r b nb mb cap s es I S) {rc:Pr} (hf:fits rc.at_=true) (hi:∀ t∈S,t.id≠rc.id) (hl:S.length<1000000):∃ s' I',qjf b 18 s 0 rc=some s'∧Rep b s'.A 16 0 VQ (rc::S) I'∧Fit s' I' []∧Ok 16 VQ (rc::S)∧((rc::S).map Pr.id).Nodup:=by
 have hO:Ok 16 VQ (rc::S):=⟨qha,by decide,fun t ht=>by
  rcases List.mem_cons.1 ht with rfl | ht
  ·exact un_root hf
  ·exact h.ok.u t ht,by simp; omega⟩
 obtain ⟨s',I',p1,p2,p3,p4⟩:=put_ok h.b1 16 (Nat.le_refl _) 17 18 0 VQ S I [] s rc (by omega) (by omega) hO h.rep h.fit cap_big
 refine ⟨s',I',p1,p2,p3,hO,?_⟩
 rw [List.map_cons,List.nodup_cons]
 exact ⟨fun e=>by
  obtain ⟨t,ht1,ht2⟩:=List.mem_map.1 e
  exact hi t ht1 ht2,h.ids⟩
theorem pInsert (ht:TrP H r b S T) (rc:Pr) (hl:S.length<1000000):AFn Tryz.prog 42 [.ptr r 0,rc.v] H fun y H'=>y = .sc (.int .i64 (qa2 S rc))∧Kp T H H'∧∃ T',TrP H' r b (YA S rc) T'∧∀ x,T' x→T x∨H.length≤x:=by
 obtain ⟨nb,mb,cap,s,es,I,h,hT⟩:=ht
 have he:=qas h.ids h.es rc
 have hW:=wInsert h.tr h.pos rc (fun e=>by
  obtain ⟨e1,e2⟩:=VH (he▸e)
  obtain ⟨s',I',p1,_⟩:=h.put e1 e2 hl
  exact ⟨s',p1⟩)
 refine AFn.conv hW ?_
 rintro y H' ⟨rfl,nb',cap',s',es',t1,t2,t3,t4⟩
 rw [he] at t3 t4 ⊢
 obtain ⟨k1,k2⟩:=t2.to hT
 refine ⟨_,⟨rfl,k1,fun x=>x=r∨x=nb'∨x=mb,?_,k2⟩,fun _ _ _ h=>h⟩
 unfold YA
 by_cases e:qa2 S rc=0
 ·rw [if_pos e]
  obtain ⟨p1,rfl⟩:=t3 e
  obtain ⟨e1,e2⟩:=VH e
  obtain ⟨s2,I',q1,q2,q3,q4,q5⟩:=h.put e1 e2 hl
  rw [p1] at q1
  cases q1
  exact ⟨nb',mb,cap',s',_,I',⟨t1,q2,q3,q4,q5,(List.perm_append_singleton _ _).trans (h.es.cons rc)⟩,fun x=>Iff.rfl⟩
 ·rw [if_neg e]
  obtain ⟨rfl,rfl⟩:=t4 e
  exact ⟨nb',mb,cap',s',es',I,⟨t1,h.rep,h.fit,h.ok,h.ids,h.es⟩,fun x=>Iff.rfl⟩
def qcb (rc:Re) (S:List Pr):List Pr:=if qd rc then qlE (S.filter fun x=>yV rc x.at_) else []
theorem TrQ.wind {nb mb cap:Nat} {s:Ar} {es:List Pr} {I:List Nat} (h:TrQ H r b nb mb cap s es I S) {rc:Re} (hrc:qd rc=true):∃ L,qcD s.A rc 18 0=some L∧L.Perm (S.filter fun x=>yV rc x.at_)∧L.length≤1000000000000:=by
 obtain ⟨L,h1,h2⟩:=wind_ok hrc 16 18 0 VQ S I (by omega) (Nat.le_refl _) h.ok h.rep
 refine ⟨L,h1,h2,?_⟩
 rw [h2.length_eq]
 have:(S.filter fun x=>yV rc x.at_).length≤S.length:=List.length_filter_le _ _
 have:=h.ok.len
 omega
theorem qmV {rc:Re} {L ys:List Pr} (hn:(S.map Pr.id).Nodup) (hL:L.Perm (S.filter fun x=>yV rc x.at_)) (hs:qgg L ys) (hrc:qd rc=true):ys=qcb rc S:=by
 rw [qcb,if_pos hrc]
 exact qkA (List.Nodup.sublist (List.Sublist.map _ List.filter_sublist) hn) (hs.1.trans hL) hs.2
theorem pWindow (ht:TrP H r b S T) (rc:Re):AFn Tryz.prog 53 [.ptr r 0,rc.v] H fun y H'=>y=lV (qcb rc S)∧Kp NoB H H':=by
 obtain ⟨nb,mb,cap,s,es,I,h,hT⟩:=ht
 refine AFn.conv (wWindow h.tr h.pos rc fun hrc=>by
  obtain ⟨L,h1,_,h3⟩:=h.wind hrc
  exact ⟨L,h1,h3⟩) ?_
 rintro y H' ⟨ys,rfl,k1,k2,k3⟩
 refine ⟨_,⟨?_,qoO k3⟩,fun _ _ _ h=>h⟩
 cases hrc:qd rc with
 | false=>rw [k1 hrc,qcb,if_neg (by simp [hrc])]
 | true =>
  obtain ⟨L,h1,h2,_⟩:=h.wind hrc
  obtain ⟨L',h3,h4⟩:=k2 hrc
  rw [h1] at h3
  cases h3
  rw [qmV h.ids h2 h4 hrc]
end
theorem qmd {n a0 a1 b0 b1:Int} (h0:b0≤a0) (h1:a1≤b1) (h2:a0≤a1):qbY n b0 b1≤qbY n a0 a1:=by
 unfold qbY
 split <;> split <;> (try split) <;> (try split) <;> omega
theorem qn6 {x y:Int} (h0:0≤x) (h:x≤y):x*x≤y*y:=Int.mul_le_mul h h h0 (by omega)
theorem qeV {a b:Re} (p:Pt) (ha:qd a=true) (hb:qd b=true) (h:b.x0≤a.x0∧b.y0≤a.y0∧a.x1≤b.x1∧a.y1≤b.y1):Zu b p≤Zu a p:=by
 unfold Zu
 rw [ha,hb]
 cases hp:fits p with
 | false=>simp
 | true =>
  have ra:=Z0 ha
  have rb:=Z0 hb
  have rp:=qc0 hp
  have g1:=qdv rp.1 rb.1 rb.2.2.1
  have g2:=qdv rp.2 rb.2.1 rb.2.2.2.1
  have m1:=qmd (n:=p.x) h.1 h.2.2.1 ra.2.2.2.2.1
  have m2:=qmd (n:=p.y) h.2.1 h.2.2.2 ra.2.2.2.2.2
  have s1:=qn6 g1.1 m1
  have s2:=qn6 g2.1 m2
  simp only [Bool.and_self,if_true]
  omega
theorem qeP {α β:Type} {f:α→β} {x:β} {tl:List β}:∀ {its:List α},(x::tl).Perm (its.map f)→∃ it its',f it=x∧its.Perm (it::its')∧tl.Perm (its'.map f):=by
 intro its h
 have hx:x∈its.map f:=h.mem_iff.1 (List.mem_cons_self ..)
 obtain ⟨it,hit,rfl⟩:=List.mem_map.1 hx
 obtain ⟨a,b,rfl⟩:=List.append_of_mem hit
 refine ⟨it,a++b,rfl,List.perm_middle,?_⟩
 have h2:((a++it::b).map f).Perm (f it::(a++b).map f):=List.perm_middle.map f
 exact List.Perm.cons_inv (h.trans h2)
theorem qdV {x:Ent} {m:List Ent} (h:∀ y∈m,y.lt x=false):sort (x::m)=x::sort m:=by
 refine qaj (Ku _) (List.pairwise_cons.2 ⟨fun y hy=>h y ((ZY m).mem_iff.1 hy),Ku m⟩) ?_
 exact (ZY _).trans ((ZY m).symm.cons x)
end Go.Proofs.YtnconfggojpkcaaGreat
namespace Go.Proofs.YtnconfggojpkcaaGreat
open Go.RowKit AM
attribute [local simp] zQ qU jL zT zq zR zS zo jM zu qV Z8 Qm jC Ql yc ZE vZ slF qG Qo zK yx zA shares jh yt ze Qz QI qY ZF qZ qM vX zH yu Qe qL zD zG vU slV jE jG yE zU ZJ jB jF aMM aUn Qp vW jD zC jA qJ vV Qu vY vS Zw y9 qK Qs ZK zJ zI jH jR ZH eval zZ AM.valOf qm vO yR del SV.refers zY vQ jU shift ldV V.exact V.jg V.ofValue V.vP V.vL V.cells V.one Value.oneCell' ZI QY jV Q5 ZM ZC Qa Zy jl jI Qi ZL y8 yX Qr calm Qt Zn Qk feeds shrinks Qx looks isT Qf vK Qd putAt jT jc Zm sliceB isEq Qg zk qH zO zn qR zl zm qQ zP zi qP ZW Qw yB Zl QZ inO y7 Zi Mix.vT Mix.Qc QB QX qz qj qW zh qO ZV Qq yg yh ZG Zb yw yO Q8 jW V.fixed V.vC
attribute [local simp] vE je yL vH jQ vF vG jP yM vk jN V5 Ja yF QT Jb z0 JL VK Vo VU
theorem J4 {xs:List Pr} {k:Nat} (h:k<xs.length):AM.rowAt 4 (xs.flatMap Pr.cs) (k:Int) = [.sc (.int .i64 xs[k].id),.sc (.int .i64 xs[k].at_.x),.sc (.int .i64 xs[k].at_.y),.sc (.int .i64 xs[k].lab)]:=WA (enc:=Pr.cs) (sz:=4) (fun _=>rfl) h
theorem Q0 {α:Type} {xs:List α} {k:Nat} (h:k<xs.length):xs.take (k+1)=xs.take k ++ [xs[k]]:=List.take_succ_eq_append_getElem h
theorem qbV {a:List Pr} {s:Pr}:(YA a s).length≤a.length+1:=by
 unfold YA
 split <;> simp
def q1:Pr:=⟨1,⟨0,0⟩,0⟩
def q2:Pr:=⟨2,⟨65535,0⟩,0⟩
def q3:Pr:=⟨3,⟨1,0⟩,0⟩
theorem Kp.YF {I:Nat→Prop} {H H1:List Bk} (h:Kp I H H1) (hI:∀ x,¬ I x):Xi H H1=True:=eq_true fun id ks hk _=>h.cells (hI id) hk
end Go.Proofs.YtnconfggojpkcaaGreat
namespace Go.Proofs.YtnconfggojpkcaaGreat
open Go.RowKit AM
def qkM (c:Ce) (l:Int):Ce:=if l<c.l then (qbe c l).1 else c
def qnA (c:Ce) (p:Pt) (l:Int):Int:=Zu (JD (qkM c l)).1 p
def farP (t:Pr) (p:Pt) (l:Int):Int:=Zu (JD (ofR t.at_ l).1).1 p
theorem qcu {p:Pt} {k l:Int} (hf:fits p=true) (h0:0≤k) (hk:k≤l) (hl:l≤16):(jy (cellOf p k)).x0≤(jy (cellOf p l)).x0∧(jy (cellOf p k)).y0≤(jy (cellOf p l)).y0∧(jy (cellOf p l)).x1≤(jy (cellOf p k)).x1∧(jy (cellOf p l)).y1≤(jy (cellOf p k)).y1:=by
 have ck:=yU hf h0 (show k≤16 by omega)
 have cl:=yU hf (show 0≤l by omega) hl
 have rl:=qF.1 (Qj cl)
 have key:∀ q:Pt,yV (jy (cellOf p l)) q=true→yV (jy (cellOf p k)) q=true:=fun q hq=>by
  have hu:=(Un.box cl).1 hq
  refine (Un.box ck).2 ⟨hu.1,JM.2 ⟨by simp [cellOf]; omega,?_⟩⟩
  have h1:=(JM.1 hu.2).2
  have e1:(cellOf p l).l=l:=rfl
  have e2:(cellOf p k).l=k:=rfl
  rw [e1,Zf hl (Int.le_refl _)] at h1
  rw [e2,Zf (by omega) (Int.le_refl _),← Zf hk hl,h1,Zf hk hl]
 have a:=ZR.1 (key ⟨(jy (cellOf p l)).x0,(jy (cellOf p l)).y0⟩ (ZR.2 ⟨Qj cl,by simp only; omega⟩))
 have b:=ZR.1 (key ⟨(jy (cellOf p l)).x1,(jy (cellOf p l)).y1⟩ (ZR.2 ⟨Qj cl,by simp only; omega⟩))
 simp only at a b
 omega
theorem node_leP {c:Ce} {t:Pr} {l:Int} (p:Pt) (hl:vR l=true) (hc:yj c=true) (hu:Un c t.at_):qnA c p l≤farP t p l:=by
 have hl':=zy.1 hl
 have hc':=yI.1 hc
 have hof:ofR t.at_ l=(cellOf t.at_ l,true):=by simp [ofR,hl,hu.1]
 have hcl:=yU hu.1 hl'.1 hl'.2
 have hbl:JD (cellOf t.at_ l)=(jy (cellOf t.at_ l),true):=by simp [JD,hcl]
 have hcc:cellOf t.at_ c.l=c:=by
  have:=(JM.1 hu.2).2
  rwa [Zf hc'.1.2 (Int.le_refl _)] at this
 unfold qnA farP qkM
 rw [hof]
 simp only
 rw [hbl]
 by_cases hlc:l<c.l
 ·have ha:qbe c l=(Zv c l,true):=by
   have:(decide (0≤l)&&decide (l≤c.l))=true:=by simp; omega
   simp [qbe,hc,this]
  have e:Zv c l=cellOf t.at_ l:=by rw [← hcc]; exact Zf (by omega) hc'.1.2
  rw [if_pos hlc,ha]
  simp only
  rw [e,hbl]
  exact Int.le_refl _
 ·have hbc:JD c=(jy c,true):=by simp [JD,hc]
  rw [if_neg hlc,hbc]
  have:=qcu hu.1 hc'.1.1 (show c.l≤l by omega) hl'.2
  rw [hcc] at this
  exact qeV p (Qj hcl) (Qj hc) this
def WE (p:Pt) (l:Int) (t:Pr):Ent:=⟨farP t p l,1,t.id⟩
def qlZ (c:Ce) (p:Pt) (l:Int) (a:Nat):Ent:=⟨qnA c p l,0,a⟩
inductive Itp where
 | rc (t:Pr)
 | nd (a:Nat) (d:Nat) (c:Ce) (S:List Pr)
def Itp.ent (p:Pt) (l:Int):Itp→Ent
 | .rc t=>WE p l t
 | .nd a _ c _=>qlZ c p l a
def Itp.rcs (kp:Pr→Bool):Itp→List Pr
 | .rc t => [t]
 | .nd _ _ _ S=>S.filter kp
def Itp.wt:Itp→Nat
 | .rc _=>1
 | .nd _ d _ S=>S.length*(d+2)
def Itp.ok (b:Nat) (A:List Qn):Itp→Prop
 | .rc _=>True
 | .nd a d c S=>S ≠ []∧Ok d c S∧∃ I,Rep b A d a c S I
def wtp (its:List Itp):Nat:=(its.map Itp.wt).sum
theorem Itp.qfb {b:Nat} {A:List Qn}:∀ {it:Itp},it.ok b A→1≤it.wt
 | .rc _,_=>Nat.le_refl _
 | .nd a d c S,⟨h1,_⟩=>by
  have:0<S.length:=List.length_pos_iff.2 h1
  exact Nat.mul_pos this (by omega)
theorem qkt {b:Nat} {A:List Qn}:∀ {its:List Itp},(∀ it∈its,it.ok b A)→its.length≤wtp its
 | [],_=>Nat.le_refl _
 | it::its,h=>by
  have h1:=Itp.qfb (h it (List.mem_cons_self ..))
  have h2:=qkt (its:=its) fun x hx=>h x (List.mem_cons_of_mem _ hx)
  simp only [wtp,List.map_cons,List.sum_cons,List.length_cons] at h2 ⊢
  omega
theorem qmS (a b:List Itp):wtp (a++b)=wtp a+wtp b:=by simp [wtp]
theorem wtp_perm {a b:List Itp} (h:a.Perm b):wtp a=wtp b:=(h.map Itp.wt).sum_nat
theorem wtp_rc (S:List Pr):wtp (S.map Itp.rc)=S.length:=by
 induction S with
 | nil=>rfl
 | cons s S ih =>
  simp only [wtp,List.map_cons,List.sum_cons,List.length_cons] at ih ⊢
  rw [ih]
  simp only [Itp.wt]
  omega
theorem rcs_rc (kp:Pr→Bool) (S:List Pr):(S.map Itp.rc).flatMap (Itp.rcs kp)=S:=by
 induction S with
 | nil=>rfl
 | cons s S ih =>
  rw [List.map_cons,List.flatMap_cons,ih]
  rfl
theorem qmA {b:Nat} {A:List Qn} {p:Pt} {l:Int} {kp:Pr→Bool} {t:Pr} {its:List Itp} (hl:vR l=true) (hok:∀ it∈its,it.ok b A) (hmin:∀ it∈its,(it.ent p l).lt (WE p l t)=false) :
  ∀ y∈(its.flatMap (Itp.rcs kp)).map (WE p l),y.lt (WE p l t)=false:=by
 intro y hy
 obtain ⟨u,hu,rfl⟩:=List.mem_map.1 hy
 obtain ⟨it,hit,hti⟩:=List.mem_flatMap.1 hu
 have hm:=hmin it hit
 cases it with
 | rc t' =>
  simp only [Itp.rcs,List.mem_singleton] at hti
  subst hti
  exact hm
 | nd a d c S =>
  obtain ⟨h1,h2,_⟩:=hok _ hit
  simp only [Itp.rcs] at hti
  have htS:=(List.mem_filter.1 hti).1
  have hle:=node_leP p hl h2.r (h2.u u htS)
  rw [Ent.WL] at hm ⊢
  simp only [Itp.ent,qlZ,WE] at hm ⊢
  omega
end Go.Proofs.YtnconfggojpkcaaGreat
namespace Go.Proofs.YtnconfggojpkcaaGreat
open Go.RowKit AM
attribute [local simp] zQ qU jL zT zq zR zS zo jM zu qV Z8 Qm jC Ql yc ZE vZ slF qG Qo zK yx zA shares jh yt ze Qz QI qY ZF qZ qM vX zH yu Qe qL zD zG vU slV jE jG yE zU ZJ jB jF aMM aUn Qp vW jD zC jA qJ vV Qu vY vS Zw y9 qK Qs ZK zJ zI jH jR ZH eval zZ AM.valOf qm vO yR del SV.refers zY vQ jU shift ldV V.exact V.jg V.ofValue V.vP V.vL V.cells V.one Value.oneCell' ZI QY jV Q5 ZM ZC Qa Zy jl jI Qi ZL y8 yX Qr calm Qt Zn Qk feeds shrinks Qx looks isT Qf vK Qd putAt jT jc Zm sliceB isEq Qg zk qH zO zn qR zl zm qQ zP zi qP ZW Qw yB Zl QZ inO y7 Zi Mix.vT Mix.Qc QB QX qz qj qW zh qO ZV Qq yg yh ZG Zb yw yO Q8 jW V.fixed V.vC
attribute [local simp] vE je yL vH jQ vF vG jP yM vk jN V5 Ja yF QT Jb z0 JL VK Vo VU
def skMP (p:Pt) (l:Int):List (Option V) := [none,some (.sc (.int .i64 p.x)),some (.sc (.int .i64 p.y)),some (.sc (.int .i64 l))]
theorem skfarP (c:Ce) (p:Pt) (l:Int):qfF Tryz.prog 157 (skMP p l) [c.v] (.sc (.int .u64 (qnA c p l))):=by
 intro us hus
 obtain ⟨u1,u2,u3,u4,rfl⟩:∃ u1 u2 u3 u4,us = [u1,u2,u3,u4]:=by
  match us,hus with
  | [a,b,c,d],_=>exact ⟨a,b,c,d,rfl⟩
 unfold qnA qkM
 have hA:=cAbove c l
 have hB:=fun c=>qiV c
 have hD:=fun r=>qhf r p
 unfold Pt.v Pt.cs at hD
 unfold Ce.v Ce.cs at hA hB ⊢
 unfold Re.v Re.cs at hB hD
 simp only [skMP,qc8]
 refine vwc (fn:=Tryz.f157) rfl ?_
 simp only [Tryz.f157,ql]
 refine AW.seq (vwb ?_)
 simp
 by_cases hl:l<c.l
 ·rw [if_pos hl]
  generalize qbe c l=ab at *
  obtain ⟨a,ok⟩:=ab
  simp only at hA ⊢
  have hB:=hB a
  have hD:=hD (JD a).1
  generalize JD a=bx at *
  obtain ⟨bx,bok⟩:=bx
  simp only at hB hD ⊢
  generalize Zu bx p=dd at *
  refine AW.seq (AW.seq (vwb ?_))
  simp [hl]
  refine vwb ?_
  simp
  refine qc.pure hA rfl rfl ?_
  simp [setCells,qo]
  refine AW.seq (vwb ?_)
  simp
  refine qc.pure hB rfl rfl ?_
  simp [setCells,qo]
  refine vwb ?_
  simp
  refine qc.pure hD rfl rfl ?_
  simp
 ·rw [if_neg hl]
  have hB:=hB c
  have hD:=hD (JD c).1
  generalize JD c=bx at *
  obtain ⟨bx,bok⟩:=bx
  simp only at hB hD ⊢
  generalize Zu bx p=dd at *
  refine AW.seq (AW.seq (vwb ?_))
  simp [hl]
  refine vwb ?_
  simp
  refine AW.seq (vwb ?_)
  simp
  refine qc.pure hB rfl rfl ?_
  simp [setCells,qo]
  refine vwb ?_
  simp
  refine qc.pure hD rfl rfl ?_
  simp
def qdL (r:Nat) (p:Pt) (l:Int) (kv:V) (q:Nat):Bk := .cells [.v (.ptr r 0),.v (.sc (.int .i64 p.x)),.v (.sc (.int .i64 p.y)),.v (.sc (.int .i64 l)),.v kv,.v (.ptr q 0)]
theorem qn8 {H:List Bk} {k r:Nat} {p:Pt} {l:Int} {kv:V} {q:Nat} (h:H[k]? = some (qdL r p l kv q)):qfu H k (skMP p l):=by
 refine ⟨_,h,by simp [skMP],fun j z hz => ?_⟩
 match j,hz with
 | 0,hz=>cases hz
 | 1,hz=>cases hz; exact ⟨rfl,rfl⟩
 | 2,hz=>cases hz; exact ⟨rfl,rfl⟩
 | 3,hz=>cases hz; exact ⟨rfl,rfl⟩
 | j+4,hz=>simp [skMP] at hz
theorem qn7 {H:List Bk} {k r q b nb mb cap:Nat} {p:Pt} {l:Int} {kv:V} {hs:List Ent} {s:Ar} {es:List Pr} {a:Nat} {n:Qn} (hk:H[k]? = some (qdL r p l kv q)) (hq:QQ H q hs) (hT:TrA H r b nb mb cap s es) (hn:s.A[a]? = some n) (hh:hs.length≤1000000) (hm:0≤n.many) :
  AFn Tryz.prog 109 [.ptr k 0,.sc (.int .i64 a)] H fun y H'=>y = .tup []∧KpA (fun x=>x=q) H H'∧QQ H' q (if n.many=0 then hs else put hs (qlZ n.c p l a)):=by
 have hc0:=hT.cap0 hn
 have hr:=hT.cr
 have hnb:=hT.cn hc0
 have hal:=(List.getElem?_eq_some_iff.1 hn).1
 unfold trC at hr
 have hk':=hk
 unfold qdL at hk'
 obtain ⟨t0,d0⟩:=qbs hn ((cap - s.A.length)*10)
 refine vwc (fn:=Tryz.f109) rfl ?_
 simp only [Tryz.f109,ql]
 refine AW.mid (fun F H1=>F = [(0,.v (.ptr k 0)),(1,.v (.sc (.int .i64 a))),(4,.v (.ptr H.length 0))]∧Wk H1 (H ++ [ndB n])) (vwb ?_) ?_
 ·by_cases hql:n.full=true
  ·simp only [hql,qjW] at d0
   simp [hk',hr,hnb,hal,d0]
   rw [qp rfl]
   refine ⟨_,?_,rfl,qkX⟩
   simp [qz,qj,qm]
  ·have hql:n.full=false:=by simpa using hql
   simp only [hql,qep] at d0
   simp [hk',hr,hnb,hal,d0]
   rw [qp rfl]
   refine ⟨_,?_,rfl,Wk.refl _⟩
   simp [qz,qj,qm]
 ·rintro F H1 ⟨rfl,hwk⟩
  refine AW.wk hwk ?_
  have hnd:(H ++ [ndB n])[H.length]? = some (ndB n):=by simp
  have hk1:KpA (fun x=>x=q) H (H ++ [ndB n]):=KpA.refl.app
  have hq1:QQ (H ++ [ndB n]) q hs:=hq.keep (Kp.refl.app (I:=NoB)) (fun h=>h)
  have hk2:=hget (L := [ndB n]) hk
  clear hwk
  generalize H ++ [ndB n]=H1 at *
  have hk2':=hk2
  unfold qdL at hk2'
  unfold ndB lV at hnd
  refine AW.seq (vwa [(2,10,[0,4,1])] ?_)
  simp [hnd]
  by_cases h0:n.many=0
  ·rw [if_pos h0]
   simp [h0]
   refine vwa [(2,10,[0,4,1])] ?_
   simp
   exact ⟨hk1,hq1⟩
  ·rw [if_neg h0]
   have hM:=qn8 hk2
   have hF:=skfarP n.c p l
   have hP:=qfG hq1 hh (qlZ n.c p l a)
   unfold Ce.v Ce.cs at hF
   rw [JX] at hP
   simp only [qlZ] at hP
   have hpos:0<n.many:=by omega
   simp [hpos]
   refine AW.ofz [(2,10,[0,4,1])] mixed (by kernel_rfl) ?_
   simp [hk2',hnd]
   refine Zj.look hF rfl rfl hM ?_
   simp [hk2',hnd]
   refine qc.of hP ?_
   rintro y H3 ⟨rfl,k3,hq3⟩
   simp
   exact ⟨hk1.trans k3,hq3⟩
structure qoH (kv:V) (kp:Pr→Bool) (J:List Bk→Prop) (D M:Nat→Prop):Prop where
 fix:kv.fixed=true
 stab:∀ H H',J H→Kp (fun x=>¬ D x) H H'→J H'
 how:(kv = .sc .nilFunc∧∀ s,kp s=true)∨∃ g cap,kv = .fn (.func g) [] cap∧V.jg cap=none∧∀ (H:List Bk) (s:Pr),J H→AFn Tryz.prog g (s.v::cap) H fun y H'=>y = .sc (.bool (kp s))∧J H'∧Kp M H H'
theorem hNilFnP {x y:Operand}:XU Tryz.prog .eql 111 x y .nilFunc .nilFunc=some (.bool true):=by kernel_rfl
theorem farC_of (t:Pr) (p:Pt) {l:Int} (hl:vR l=true):qnA (ofR t.at_ l).1 p l=farP t p l:=by
 have hl':=zy.1 hl
 unfold qnA farP qkM
 rw [if_neg]
 unfold ofR
 split
 ·simp [cellOf]
 ·simp [Ce.zero]; omega
def SkrP (J:List Bk→Prop) (M:Nat→Prop) (H:List Bk) (k r q z:Nat) (p:Pt) (l:Int) (kv:V) (hs:List Ent) (t:Pr) (b0:Bool) (F:Fr) (H1:List Bk):Prop :=
 H1[k]? = some (qdL r p l kv q)∧QQ H1 q hs∧Kp (fun x=>x=q∨M x) H H1∧H1[z]? = some (prB t)∧J H1∧F = [(0,.v (.ptr k 0)),(3,.v (.ptr z 0)),(18,.v (.sc (.bool b0)))]
theorem skrecP {H:List Bk} {k r q:Nat} {p:Pt} {l:Int} {kv:V} {hs:List Ent} {kp:Pr→Bool} {J:List Bk→Prop} {D M:Nat→Prop} (hk:H[k]? = some (qdL r p l kv q)) (hq:QQ H q hs) (hkp:qoH kv kp J D M) (hJ:J H) (hDq:¬ D q) (hMq:¬ M q) (hMk:¬ M k) (hMl:∀ x,M x→x<H.length) (hl:vR l=true) (hh:hs.length≤1000000) (t:Pr) :
  AFn Tryz.prog 159 [.ptr k 0,t.v] H fun y H'=>y = .tup []∧Kp (fun x=>x=q∨M x) H H'∧QQ H' q (if kp t=true then put hs (WE p l t) else hs)∧J H':=by
 have hkv:=hkp.fix
 have hk1:=hget (L := [prB t]) hk
 have hq1:QQ (H ++ [prB t]) q hs:=hq.keep (Kp.refl.app (I:=NoB)) (fun h=>h)
 have kp1:Kp (fun x=>x=q∨M x) H (H ++ [prB t]):=Kp.refl.app
 have hJ1:J (H ++ [prB t]):=hkp.stab _ _ hJ Kp.refl.app
 have hz1:(H ++ [prB t])[H.length]? = some (prB t):=by simp
 have hMz:¬ M H.length:=fun e=>by have:=hMl _ e; omega
 unfold Pr.v Pr.cs
 refine vwc (fn:=Tryz.f159) rfl ?_
 simp only [Tryz.f159,ql]
 refine AW.seq (vwa [(3,10,[0,4,3])] ?_)
 simp
 have hpx:Bk.cells [.v (.sc (.int .i64 t.id)),.v (.sc (.int .i64 t.at_.x)),.v (.sc (.int .i64 t.at_.y)),.v (.sc (.int .i64 t.lab))]=prB t:=rfl
 rw [hpx]
 generalize H ++ [prB t]=H1 at *
 generalize H.length=z at *
 have hk1':=hk1
 have hz1':=hz1
 unfold qdL at hk1'
 unfold prB at hz1'
 refine AW.mid (SkrP J M H k r q z p l kv hs t (kp t)) (vwb ?_) ?_
 ·rcases hkp.how with ⟨rfl,hkt⟩ | ⟨g,cap,rfl,hkx,hkf⟩
  ·simp [hk1',hNilFnP]
   refine ⟨_,?_,hk1,hq1,kp1,hz1,hJ1,rfl⟩
   simp [qz,qj,qm,hkt]
  ·have hA:=hkf H1 t hJ1
   rw [Pr.v_eq] at hA
   simp [hk1',hz1',hkx]
   refine qc.of hA ?_
   rintro y H4 ⟨rfl,hJ4,k4⟩
   simp
   refine ⟨_,?_,k4.cells hMk hk1,hq1.keep k4 hMq,kp1.trans (k4.weak fun x hx => .inr hx),k4.cells hMz hz1,hJ4,rfl⟩
   simp [qz,qj,qm]
 ·clear hk1 hq1 kp1 hz1 hk1' hz1' hJ1
  rintro F H5 ⟨hk5,hq5,kp5,hz5,hJ5,rfl⟩
  have hk5':=hk5
  have hz5':=hz5
  unfold qdL at hk5'
  unfold prB at hz5'
  cases hb:kp t with
  | false =>
   refine AW.cond false (by simp) (fun e=>by cases e) (fun _ => ?_)
   refine vwb ?_
   simp
   exact ⟨kp5,hq5,hJ5⟩
  | true =>
   have hO:=cOf t.at_ l
   have hfc:=farC_of t p hl
   generalize ofR t.at_ l=oc at *
   obtain ⟨oc,ok⟩:=oc
   simp only at hO hfc
   unfold Pt.v Pt.cs Ce.v Ce.cs at hO
   have k1:=fun x:Bk=>Z4 (H:=H5) (L := [x])
   refine AW.cond true (by simp) (fun _ => ?_) (fun e=>by cases e)
   refine AW.midE [(0,.v (.ptr k 0)),(3,.v (.ptr z 0)),(4,.v (.ptr H5.length 0))] (H5 ++ [ceB oc]) (AW.off [(3,10,[0,4,3])] [(2,10,12,[3,0])] mixed (by kernel_rfl) ?_) ?_
   ·have hs4:∀ z0 z1 z2 a b d,setCells (H5 ++ [Bk.cells [z0,z1,z2]]) H5.length 0 [a,b,d]=H5 ++ [.cells [.v a,.v b,.v d]]:=fun z0 z1 z2 a b d=>by simp [setCells,qo]
    simp [jq,zx,jX,jw,zN,jr,jv,zM,jY,flK,yK,zL,zw,QC,hk5',hz5',hkv]
    refine ⟨qc.pure hO rfl rfl ?_,qc.pure hO rfl rfl ?_⟩
    ·simp [jq,zx,jX,jw,zN,jr,jv,zM,jY,flK,yK,zL,zw,QC,hk5',hz5',hkv,hs4,ceB]
    ·simp [jq,zx,jX,jw,zN,jr,jv,zM,jY,flK,yK,zL,zw,QC,hk5',hz5',hkv,hs4,ceB]
   ·skip
    have hk6:=hget (L := [ceB oc]) hk5
    have hz6:=hget (L := [ceB oc]) hz5
    have hc6:(H5 ++ [ceB oc])[H5.length]? = some (ceB oc):=by simp
    have kp6:=kp5.app (L := [ceB oc])
    have hJ6:J (H5 ++ [ceB oc]):=hkp.stab _ _ hJ5 Kp.refl.app
    have hq6:QQ (H5 ++ [ceB oc]) q hs:=hq5.keep (Kp.refl.app (I:=NoB)) (fun h=>h)
    generalize H5 ++ [ceB oc]=H6 at *
    have hM:=qn8 hk6
    have hF:=skfarP oc p l
    rw [hfc] at hF
    have hP:=qfG hq6 hh (WE p l t)
    unfold qdL at hk6
    unfold prB at hz6
    unfold ceB at hc6
    unfold Ce.v Ce.cs at hF
    rw [JX] at hP
    simp only [WE] at hP
    refine AW.ofz [(3,10,[0,4,3])] mixed (by kernel_rfl) ?_
    simp [hk6,hz6,hc6]
    refine Zj.look hF rfl rfl hM ?_
    simp [hk6,hz6,hc6]
    refine qc.of hP ?_
    rintro y H7 ⟨rfl,k7,hq7⟩
    simp
    exact ⟨kp6.trans (k7.V8.weak fun x hx => .inl hx),hq7,hkp.stab _ _ hJ6 (k7.V8.weak fun x (hx:x=q)=>by rw [hx]; exact hDq)⟩
def SoP (J:List Bk→Prop) (M:Nat→Prop) (H0:List Bk) (k q z:Nat) (p:Pt) (l:Int) (kp:Pr→Bool) (hs:List Ent) (n:Qn) (j:Nat) (F:Fr) (H1:List Bk):Prop :=
 ∃ hs1,QQ H1 q hs1∧Kp (fun x=>x=q∨M x) H0 H1∧H1[z]? = some (ndB n)∧J H1∧hs1.Perm (((n.l.take j).filter kp).map (WE p l)++hs)∧F = [(0,.v (.ptr k 0)),(4,.v (.ptr z 0)),(20,.v (lV n.l)),(21,.v (.sc (.int .i64 n.l.length))),(22,.v (.sc (.int .i64 j)))]
def KoP (J:List Bk→Prop) (M:Nat→Prop) (H0:List Bk) (k q b:Nat) (A:List Qn) (p:Pt) (l:Int) (kp:Pr→Bool) (hs:List Ent) (n:Qn) (d:Nat) (c:Ce) (S:List Pr) (j:Nat) (F:Fr) (H1:List Bk):Prop :=
 ∃ new hs1,QQ H1 q hs1∧Kp (fun x=>x=q∨M x) H0 H1∧J H1∧hs1.Perm (new.map (Itp.ent p l)++hs)∧(∀ it∈new,it.ok b A)∧(new.flatMap (Itp.rcs kp)).Perm ((qa0 c S j).filter kp)∧wtp new≤(qa0 c S j).length*(d+2) ∧
  F = [(0,.v (.ptr k 0)),(33,.v (.agg [.sc (.int .i64 n.k0),.sc (.int .i64 n.k1),.sc (.int .i64 n.k2),.sc (.int .i64 n.k3)])),(34,.v (.sc (.int .i64 j)))]
theorem kidsU_le {c:Ce} {S:List Pr} {j:Nat} (hj:j≤4):(qa0 c S j).length≤S.length:=by
 have h4:=(qfx (c:=c) (S:=S)).length_eq
 have:∀ {i k:Nat},i≤k→(qa0 c S i).length≤(qa0 c S k).length:=by
  intro i k hik
  induction hik with
  | refl=>exact Nat.le_refl _
  | step _ ih =>
   simp only [qa0,List.length_append]
   omega
 have:=this hj
 omega
theorem skopenP {H:List Bk} {k r q b nb mb cap a d:Nat} {p:Pt} {l:Int} {kv:V} {hs:List Ent} {s:Ar} {es:List Pr} {c:Ce} {S:List Pr} {I:List Nat} {kp:Pr→Bool} {J:List Bk→Prop} {D M:Nat→Prop}
  (hk:H[k]? = some (qdL r p l kv q)) (hq:QQ H q hs) (hT:TrA H r b nb mb cap s es) (hqr:q≠r) (hqn:q≠nb) (hqm:q≠mb) (hqk:q≠k) (hR:Rep b s.A d a c S I) (hO:Ok d c S) (hl:vR l=true) (hkp:qoH kv kp J D M) (hJ:J H) (hDq:¬ D q) (hMq:¬ M q) (hMk:¬ M k) (hMl:∀ x,M x→x<H.length) (hMr:¬ M r) (hMn:¬ M nb) (hMm:¬ M mb) (hd16:d≤16) (hh:hs.length+S.length*18≤1000000) :
  AFn Tryz.prog 111 [.ptr k 0,.sc (.int .i64 a)] H fun y H'=>Kp (fun x=>x=q∨M x) H H'∧J H'∧∃ new hs',QQ H' q hs'∧hs'.Perm (new.map (Itp.ent p l)++hs)∧(∀ it∈new,it.ok b s.A)∧(new.flatMap (Itp.rcs kp)).Perm (S.filter kp)∧wtp new≤S.length*(d+1):=by
 obtain ⟨n,hn,hnc,hnm,hcase⟩:∃ n,s.A[a]? = some n∧n.c=c∧n.many=S.length∧((n.split=false∧n.l.Perm S)∨(n.split=true∧n.l = []∧∃ d',d=d'+1∧∃ (J:Nat→List Nat) (kk:Nat→Nat),(∀ i,i<4→n.kid i=(kk i:Int))∧∀ i,i<4→Rep b s.A d' (kk i) (qD c i) (KF c S i) (J i))):=by
  cases d with
  | zero =>
   obtain ⟨n,h1,h2,h3,h4,h5,_⟩:=hR
   exact ⟨n,h1,h2,h5,.inl ⟨h3,h4⟩⟩
  | succ d =>
   rcases hR with ⟨_,n,h1,h2,h3,h4,h5,_⟩ | ⟨_,n,J,kk,h1,h2,h3,h4,h5,h6,h7,_⟩
   ·exact ⟨n,h1,h2,h5,.inl ⟨h3,h4⟩⟩
   ·exact ⟨n,h1,h2,h5,.inr ⟨h3,h4,d,rfl,J,kk,h6,h7⟩⟩
 have hc0:=hT.cap0 hn
 have hr:=hT.cr
 have hnb:=hT.cn hc0
 have hal:=(List.getElem?_eq_some_iff.1 hn).1
 have hnl:n.l.length≤S.length:=by
  rcases hcase with ⟨_,h⟩ | ⟨_,h,_⟩
  ·rw [h.length_eq]; exact Nat.le_refl _
  ·rw [h]; simp
 unfold trC at hr
 have hk':=hk
 unfold qdL at hk'
 have hql:q<H.length:=by
  obtain ⟨es0,hq0,_⟩:=hq
  exact (List.getElem?_eq_some_iff.1 hq0).1
 obtain ⟨t0,d0⟩:=qbs hn ((cap - s.A.length)*10)
 refine vwc (fn:=Tryz.f111) rfl ?_
 simp only [Tryz.f111,ql]
 refine AW.mid (fun F H1=>F = [(0,.v (.ptr k 0)),(4,.v (.ptr H.length 0))]∧Wk H1 (H ++ [ndB n])) (vwb ?_) ?_
 ·by_cases hql:n.full=true
  ·simp only [hql,qjW] at d0
   simp [hk',hr,hnb,hal,d0]
   rw [qp rfl]
   refine ⟨_,?_,rfl,qkX⟩
   simp [qz,qj,qm]
  ·have hql:n.full=false:=by simpa using hql
   simp only [hql,qep] at d0
   simp [hk',hr,hnb,hal,d0]
   rw [qp rfl]
   refine ⟨_,?_,rfl,Wk.refl _⟩
   simp [qz,qj,qm]
 ·rintro F H1 ⟨rfl,hwk⟩
  refine AW.wk hwk ?_
  have hnd:(H ++ [ndB n])[H.length]? = some (ndB n):=by simp
  have hk1:Kp (fun x=>x=q∨M x) H (H ++ [ndB n]):=Kp.refl.app
  have hJ1:J (H ++ [ndB n]):=hkp.stab _ _ hJ Kp.refl.app
  have hMz:¬ M H.length:=fun e=>by have:=hMl _ e; omega
  have hlz:H.length<(H ++ [ndB n]).length:=by simp
  have hq1:QQ (H ++ [ndB n]) q hs:=hq.keep (Kp.refl.app (I:=NoB)) (fun h=>h)
  have hzq:¬ H.length=q:=by omega
  clear hwk
  generalize H ++ [ndB n]=H1 at *
  have hMl':∀ x,M x→x<H.length:=hMl
  generalize H.length=z at *
  have hnd':=hnd
  unfold ndB lV at hnd'
  refine AW.seq (vwb ?_)
  simp [hnd']
  refine AW.count n.l.length (SoP J M H k q z p l kp hs n) ⟨_,?_,hs,hq1,hk1,hnd,hJ1,by simp,rfl⟩ ?_
  ·simp [qz,qj,qm,lV]
  clear hnd hnd' hk1 hq1 hJ1
  rintro j F H2 hj ⟨hs1,hq2,hk2,hnd2,hJ2,hp2,rfl⟩
  unfold lV
  refine AW.seq (vwb ?_)
  by_cases hlt:j<n.l.length
  ·have w1:IntKind.i64.wrap ((j:Int)+1)=(j:Int)+1:=by rw [wrap_i64] <;> omega
   have hr1:=J4 hlt
   have hrec:=fun {Hx} (h1:Hx[k]? = some (qdL r p l kv q)) (h2:QQ Hx q hs1) (h3:J Hx) (h4:∀ x,M x→x<Hx.length)=>skrecP h1 h2 hkp h3 hDq hMq hMk h4 hl (by
    have e:=hp2.length_eq
    rw [List.length_append,List.length_map] at e
    have e2:((n.l.take j).filter kp).length≤(n.l.take j).length:=List.length_filter_le _ _
    have e3:=List.length_take_le' j n.l
    omega) n.l[j]
   have hk2k:=hk2.cells (fun e=>e.elim (fun e=>hqk e.symm) hMk) hk
   have hzl2:z<H2.length:=(List.getElem?_eq_some_iff.1 hnd2).1
   simp [hlt]
   refine AW.seq (vwb ?_)
   simp
   refine AW.seq (AW.block (AW.seq (vwb ?_)))
   simp [hlt,hr1]
   rw [qp rfl]
   have hpx:∀ x:Pr,Bk.cells ([.sc (.int .i64 x.id),.sc (.int .i64 x.at_.x),.sc (.int .i64 x.at_.y),.sc (.int .i64 x.lab)].map SV.v)=prB x:=fun _=>rfl
   rw [hpx]
   have hrec:=hrec (hget (L := [prB n.l[j]]) hk2k) (hq2.keep (Kp.refl.app (I:=NoB)) (fun h=>h)) (hkp.stab _ _ hJ2 Kp.refl.app) (fun x hx=>by have:=hMl' x hx; simp; omega)
   have hx3:(H2 ++ [prB n.l[j]])[H2.length]? = some (prB n.l[j]):=by simp
   have hk3:Kp (fun x=>x=q∨M x) H (H2 ++ [prB n.l[j]]):=hk2.app
   have hnd3:=hget (L := [prB n.l[j]]) hnd2
   rw [Pr.v_eq] at hrec
   generalize H2 ++ [prB n.l[j]]=H3 at *
   unfold prB at hx3
   refine vwb ?_
   simp [hx3]
   refine qc.of hrec ?_
   rintro y H4 ⟨rfl,hk4,hq4,hJ4⟩
   have hnd4:=hk4.cells (fun e=>e.elim hzq hMz) hnd3
   simp
   refine vwb ?_
   simp [w1]
   refine ⟨_,?_,_,hq4,hk3.trans hk4,hnd4,hJ4,?_,rfl⟩
   ·simp [qz,qj,qm,lV]
   ·rw [Q0 hlt,List.filter_append,List.map_append]
    cases hb:kp n.l[j] with
    | false=>simpa [hb] using hp2
    | true =>
     simp only [if_true]
     refine (Xg _ _).trans ((hp2.cons _).trans ?_)
     simp only [hb,List.filter_cons,List.filter_nil,if_true,List.map_cons,List.map_nil,List.append_assoc]
     exact List.perm_middle.symm
  ·have hje:j=n.l.length:=by omega
   subst hje
   rw [List.take_length] at hp2
   have hpl:hs1.length≤hs.length+S.length:=by
    have e:=hp2.length_eq
    rw [List.length_append,List.length_map] at e
    have e2:(n.l.filter kp).length≤n.l.length:=List.length_filter_le _ _
    omega
   simp
   refine vwb ?_
   simp
   have hnd2':=hnd2
   unfold ndB lV at hnd2'
   refine AW.seq (vwb ?_)
   simp [hnd2']
   rcases hcase with ⟨hs0,hlp⟩ | ⟨hs0,hl0,d',rfl,J2,kk,hkid,hkR⟩
   ·refine AW.cond false (by simp [hs0]) (fun e=>by cases e) (fun _ => ?_)
    refine vwb ?_
    simp
    refine ⟨hk2,hJ2,(n.l.filter kp).map Itp.rc,hs1,hq2,?_,?_,?_,?_⟩
    ·rw [List.map_map]
     exact hp2
    ·intro it hit
     obtain ⟨t,_,rfl⟩:=List.mem_map.1 hit
     trivial
    ·rw [rcs_rc]
     exact hlp.filter kp
    ·rw [wtp_rc]
     have e2:(n.l.filter kp).length≤n.l.length:=List.length_filter_le _ _
     have:S.length*1≤S.length*(d+1):=Nat.mul_le_mul_left _ (by omega)
     omega
   ·refine AW.cond true (by simp [hs0]) (fun _ => ?_) (fun e=>by cases e)
    refine AW.seq (vwb ?_)
    simp [hnd2']
    rw [hl0] at hp2
    simp only [List.filter_nil,List.map_nil,List.nil_append] at hp2
    refine AW.block (AW.count 4 (KoP J M H k q b s.A p l kp hs n d' c S) ⟨_,?_,[],hs1,hq2,hk2,hJ2,by simpa using hp2,by simp,by simp [qa0],by simp [wtp],rfl⟩ ?_)
    ·simp [qz,qj,qm]
    clear hq2 hk2 hp2 hnd2 hnd2' hpl hJ2
    rintro j F H3 hj ⟨new,hs2,hq3,hk3,hJ3,hp3,hok3,hrc3,hwt3,rfl⟩
    refine AW.seq (vwb ?_)
    by_cases hlt:j<4
    ·have hlt':(j:Int)<4:=by omega
     have w1:IntKind.i64.wrap ((j:Int)+1)=(j:Int)+1:=by rw [wrap_i64] <;> omega
     have hget' : [V.sc (.int .i64 n.k0),V.sc (.int .i64 n.k1),V.sc (.int .i64 n.k2),V.sc (.int .i64 n.k3)][j]? = some (.sc (.int .i64 (kk j))):=by
      rw [← hkid j hlt]
      rcases (show j=0∨j=1∨j=2∨j=3 by omega) with rfl | rfl | rfl | rfl <;> rfl
     obtain ⟨nj,J0,hnj1,hnj2,hnj3,_⟩:=(hkR j hlt).head
     have hTj:=hT.kp3 hk3 (fun e=>e.elim (fun e=>hqr e.symm) hMr) (fun _ e=>e.elim (fun e=>hqn e.symm) hMn) (fun e=>e.elim (fun e=>hqm e.symm) hMm)
     have hk3k:=hk3.cells (fun e=>e.elim (fun e=>hqk e.symm) hMk) hk
     have hul:=kidsU_le (c:=c) (S:=S) (j:=j) (by omega)
     have hnl:=qkt hok3
     have hhl:=hp3.length_eq
     rw [List.length_append,List.length_map] at hhl
     have hmul:(qa0 c S j).length*(d'+2)≤S.length*18:=Nat.mul_le_mul hul (by omega)
     have hNo:=qn7 hk3k hq3 hTj hnj1 (by omega) (by rw [hnj3]; omega)
     rw [hnj2,hnj3] at hNo
     simp [hlt']
     refine AW.seq (vwb ?_)
     simp
     refine AW.seq (AW.block (AW.seq (vwb ?_)))
     simp [hlt',hget']
     refine vwb ?_
     simp
     refine qc.of hNo ?_
     rintro y H4 ⟨rfl,hk4,hq4⟩
     have hJ4:J H4:=hkp.stab _ _ hJ3 (hk4.V8.weak fun x (hx:x=q)=>by rw [hx]; exact hDq)
     have hk4:=hk4.V8.weak (J:=fun x=>x=q∨M x) fun x hx => .inl hx
     simp
     refine vwb ?_
     simp [w1]
     by_cases hz:KF c S j = []
     ·rw [if_pos (by simp [hz])] at hq4
      refine ⟨hlt,_,?_,new,hs2,hq4,hk3.trans hk4,hJ4,hp3,hok3,?_,?_,rfl⟩
      ·simp [qz,qj,qm]
      ·simpa [qa0,hz] using hrc3
      ·simpa [qa0,hz] using hwt3
     ·have hz':¬ ((KF c S j).length:Int)=0:=fun e=>hz (List.length_eq_zero_iff.1 (by omega))
      rw [if_neg hz'] at hq4
      refine ⟨hlt,_,?_,.nd (kk j) d' (qD c j) (KF c S j)::new,_,hq4,hk3.trans hk4,hJ4,?_,?_,?_,?_,rfl⟩
      ·simp [qz,qj,qm]
      ·exact (Xg _ _).trans (hp3.cons _)
      ·intro it hit
       rcases List.mem_cons.1 hit with rfl | hit
       ·exact ⟨hz,hO.kid hlt,J2 j,hkR j hlt⟩
       ·exact hok3 it hit
      ·rw [qa0,List.filter_append,List.flatMap_cons]
       exact (List.Perm.append_left _ hrc3).trans List.perm_append_comm
      ·rw [qa0,List.length_append,Nat.add_mul]
       simp only [wtp,List.map_cons,List.sum_cons,Itp.wt] at hwt3 ⊢
       omega
    ·have hj4:j=4:=by omega
     subst hj4
     simp
     refine vwb ?_
     simp
     have hpm:=qfx (c:=c) (S:=S)
     refine ⟨hk3,hJ3,new,hs2,hq3,hp3,hok3,hrc3.trans (hpm.filter kp),?_⟩
     rw [hpm.length_eq] at hwt3
     exact hwt3
def NearP (S:List Pr) (kp:Pr→Bool) (p:Pt) (l n:Int) (R:List Pr):Prop:=R.map (WE p l)=(sort ((S.filter kp).map (WE p l))).take n.toNat∧∀ s∈R,s∈S.filter kp
def NrMP (H0:List Bk) (k r q:Nat) (p:Pt) (l:Int) (kv:V) (n:Int) (F:Fr) (H1:List Bk):Prop :=
 H1[k]? = some (qdL r p l kv q)∧H1[q]? = some (qB [])∧KpA (fun _=>False) H0 H1∧F = [(0,.v (.ptr r 0)),(2,.v (.sc (.int .i64 n))),(11,.v (.ptr k 0))]
def NrIP (J:List Bk→Prop) (M:Nat→Prop) (H0:List Bk) (k r q b:Nat) (A:List Qn) (p:Pt) (l:Int) (kv:V) (n:Int) (S:List Pr) (kp:Pr→Bool) (z:Nat) (F:Fr) (H1:List Bk):Prop :=
 ∃ (out:List Pr) (its:List Itp) (hs:List Ent),z=wtp its∧H1[k]? = some (qdL r p l kv q)∧QQ H1 q hs∧Kp M H0 H1∧J H1∧hs.Perm (its.map (Itp.ent p l))∧(∀ it∈its,it.ok b A) ∧
  (out++its.flatMap (Itp.rcs kp)).Perm (S.filter kp)∧out.map (WE p l)++sort ((its.flatMap (Itp.rcs kp)).map (WE p l))=sort ((S.filter kp).map (WE p l))∧wtp its≤S.length*18+1∧(out.length:Int)≤max n 0 ∧
  F = [(0,.v (.ptr r 0)),(2,.v (.sc (.int .i64 n))),(11,.v (.ptr k 0)),(12,Vx out)]
theorem near1P {H:List Bk} {r b:Nat} {S:List Pr} {T:Nat→Prop} (ht:TrP H r b S T) (hS:S.length≤1000) (p:Pt) (n l:Int) (kv:V) (kp:Pr→Bool) {J:List Bk→Prop} {D M:Nat→Prop} (hkp:qoH kv kp J D M) (hJ:J H) (hDl:∀ x,D x→x<H.length) (hMl:∀ x,M x→x<H.length) (hMT:∀ x,T x→¬ M x) (hf:fits p=true) (hl:vR l=true) :
  AFn Tryz.prog 60 [.ptr r 0,p.v,.sc (.int .i64 n),.sc (.int .i64 l),kv] H fun y H'=>∃ R,y=lV R∧NearP S kp p l n R∧J H'∧Kp M H H':=by
 obtain ⟨nb,mb,cap,s,es,I,h,hT⟩:=ht
 have hM:=fun L=>qnZ (h.tr.app (L:=L))
 have h0s:=h.pos
 have hF:=KG p
 rw [hf] at hF
 have hl':=zy.1 hl
 have h0:¬ l<0:=by omega
 have h16:¬ 16<l:=by omega
 have hkv:=hkp.fix
 have hMr:=hMT r ((hT _).2 (.inl rfl))
 have hMn:=hMT nb ((hT _).2 (.inr (.inl rfl)))
 have hMm:=hMT mb ((hT _).2 (.inr (.inr rfl)))
 unfold Pt.v Pt.cs at hF ⊢
 refine vwc (fn:=Tryz.f60) rfl ?_
 simp only [Tryz.f60,ql]
 refine AW.seq (vwb ?_)
 simp
 refine AW.scope ?_
 refine AW.seq ?_
 refine AW.seq (vwb ?_)
 simp [ZN,Zh,ZO]
 refine qc.of (hM _) ?_
 rintro y H1 ⟨rfl,rfl⟩
 simp [h0s,ZN,Zh,ZO]
 refine qc.pure hF rfl rfl ?_
 simp [h0,h16,ZN,Zh,ZO]
 refine AW.cond false (by simp) (fun e=>by cases e) (fun _ => ?_)
 refine vwb ?_
 simp [ZN,Zh,ZO]
 have hT1:=h.tr.app (L := [.cells [.v (.sc (.int .i64 p.x)),.v (.sc (.int .i64 p.y))]])
 have kp1:KpA (fun _=>False) H (H ++ [.cells [.v (.sc (.int .i64 p.x)),.v (.sc (.int .i64 p.y))]]):=KpA.refl.app
 have hp1:(H ++ [Bk.cells [.v (.sc (.int .i64 p.x)),.v (.sc (.int .i64 p.y))]])[H.length]? = some (.cells [.v (.sc (.int .i64 p.x)),.v (.sc (.int .i64 p.y))]):=by simp
 have hll:(H ++ [Bk.cells [.v (.sc (.int .i64 p.x)),.v (.sc (.int .i64 p.y))]]).length=H.length+1:=by simp
 generalize H ++ [Bk.cells [.v (.sc (.int .i64 p.x)),.v (.sc (.int .i64 p.y))]]=H1 at *
 refine AW.mid (NrMP H (H1.length+1) r H1.length p l kv n) (vwa [(3,5,[0,6,3,4])] ?_) ?_
 ·have hkS:=fun (x:Bk)=>Z4 (H:=H1) (L := [x])
  have hkS2:=fun (x y:Bk)=>Z4 (H:=H1) (L := [x,y])
  simp [hp1]
  refine qc.of (znew H1) ?_
  rintro y H2 ⟨rfl,rfl⟩
  rcases hkp.how with ⟨rfl,_⟩ | ⟨g,cap,rfl,_⟩
  ·simp [hkS,hkS2]
   refine ⟨_,?_,by simp [qdL],by simp,kp1.app,rfl⟩
   simp [qz,qj,qm]
  ·simp [hkS,hkS2]
   refine ⟨_,?_,by simp [qdL],by simp,kp1.app,rfl⟩
   simp [qz,qj,qm]
 rintro F H2 ⟨hk2,hq2,kp2,rfl⟩
 have hkH:H.length<H1.length+1:=by omega
 have hqH:H.length≤H1.length:=by omega
 have hkq:¬ H1.length=H1.length+1:=by omega
 generalize H1.length+1=k at *
 generalize H1.length=q at *
 clear hp1 hT1 kp1 hM hll
 have hq3:QQ H2 q []:=⟨[],hq2,Held.nil⟩
 have hcn:nb<H.length:=(List.getElem?_eq_some_iff.1 (h.tr.cn (by have:=h.tr.le; have:=h.pos; omega))).1
 have hrl:=h.tr.rl
 have hml:=(List.getElem?_eq_some_iff.1 h.tr.cm).1
 have hTk:∀ {Hx},Kp M H Hx→TrA Hx r b nb mb cap s es:=fun hx=>h.tr.kp3 hx hMr (fun _=>hMn) hMm
 have hDq:¬ D q:=fun e=>by have:=hDl _ e; omega
 have hMq:¬ M q:=fun e=>by have:=hMl _ e; omega
 have hMk:¬ M k:=fun e=>by have:=hMl _ e; omega
 have hJ2:J H2:=hkp.stab _ _ hJ (kp2.V8.weak fun _ h=>h.elim)
 have kp2:=kp2.V8.weak (J:=M) fun _ h=>h.elim
 obtain ⟨n0,J0,hn1,hn2,hn3,_⟩:=h.rep.head
 have hNo:=qn7 hk2 hq3 (hTk kp2) hn1 (by simp) (by rw [hn3]; omega)
 rw [hn2,hn3] at hNo
 refine AW.seq (vwa [(3,5,[0,6,3,4])] ?_)
 simp [ZN,Zh,ZO]
 refine qc.of hNo ?_
 rintro y H4 ⟨rfl,hk4,hq4⟩
 have hk4':=hk4
 simp [ZN,Zh,ZO]
 have hkn:∀ {Hx Hy:List Bk},Kp M H Hx→Kp (fun x=>x=q∨M x) Hx Hy→Kp M H Hy:=fun h1 h2=>Kp.new ((h1.weak fun _ h => .inl h).trans (h2.weak fun x (hx:x=q∨M x)=>hx.elim (fun e => .inr (by omega)) .inl))
 have hk4:=hk4.V8.weak (J:=fun x=>x=q∨M x) fun x hx => .inl hx
 have hJ4:J H4:=hkp.stab _ _ hJ2 (hk4'.V8.weak fun x (hx:x=q)=>by rw [hx]; exact hDq)
 have hst:∃ (its:List Itp) (hs:List Ent),H4[k]? = some (qdL r p l kv q)∧QQ H4 q hs∧Kp M H H4∧hs.Perm (its.map (Itp.ent p l))∧(∀ it∈its,it.ok b s.A)∧(its.flatMap (Itp.rcs kp))=S.filter kp∧wtp its≤S.length*18+1:=by
  have k4:=hkn kp2 hk4
  have hk4k:=hk4.cells (fun e=>e.elim (fun e=>hkq e.symm) hMk) hk2
  by_cases hz:S = []
  ·rw [if_pos (by simp [hz])] at hq4
   exact ⟨[],[],hk4k,hq4,k4,.nil,fun _ h=>(by cases h),by simp [hz],by simp [wtp]⟩
  ·have hz':¬ ((S.length:Nat):Int)=0:=fun e=>hz (List.length_eq_zero_iff.1 (by omega))
   rw [if_neg hz'] at hq4
   refine ⟨[.nd 0 16 VQ S],_,hk4k,hq4,k4,.refl _,fun it hit => ?_,by simp [Itp.rcs],by simp [wtp,Itp.wt]⟩
   rw [List.mem_singleton] at hit
   subst hit
   exact ⟨hz,h.ok,I,h.rep⟩
 obtain ⟨its,hs,s1,s2,s3,s4,s5,s6,s7⟩:=hst
 clear hk2 hq2 hq3 kp2 hNo hk4 hk4' hq4
 refine AW.seq (vwa [(3,5,[0,6,3,4])] ?_)
 simp [ZN,Zh,ZO]
 refine AW.seq (vwa [(3,5,[0,6,3,4])] ?_)
 simp [ZN,Zh,ZO]
 refine AW.seq (AW.block (AW.qaZ (NrIP J M H k r q b s.A p l kv n S kp) ⟨wtp its,_,?_,[],its,hs,rfl,s1,s2,s3,hJ4,s4,s5,by rw [s6]; exact .refl _,by rw [s6]; rfl,s7,by simp; omega,rfl⟩ ?_))
 ·simp [qz,qj,qm,qW,Vx]
 clear s1 s2 s3 s4 s5 s6 s7 its hs
 rintro zz F H5 ⟨out,its,hs,rfl,s1,s2,s3,hJ5,s4,s5,s6,s7,s8,s9,rfl⟩
 have hnl:=qkt s5
 have hhl2:=s4.length_eq
 rw [List.length_map] at hhl2
 unfold Vx
 have hout:∀ s∈out,s∈S.filter kp:=fun s hs=>s6.mem_iff.1 (List.mem_append_left _ hs)
 have holen:out.length≤S.length:=by
  have e1:=s6.length_eq
  rw [List.length_append] at e1
  have e2:(S.filter kp).length≤S.length:=List.length_filter_le _ _
  omega
 refine AW.seq (AW.seq (vwa [(3,5,[0,6,3,4])] ?_))
 by_cases hlt:(out.length:Int)<n
 ·simp [hlt,ZN,Zh,ZO]
  refine vwa [(3,5,[0,6,3,4])] ?_
  simp [ZN,Zh,ZO]
  have hP:=zpop s2 (by omega)
  have hsk:=s1
  unfold qdL at hsk
  have hfin:its = []→NearP S kp p l n out:=fun e=>by
   subst e
   refine ⟨?_,hout⟩
   rw [List.flatMap_nil,List.map_nil] at s7
   have e1:sort ([]:List Ent) = []:=rfl
   rw [e1,List.append_nil] at s7
   rw [← s7,List.take_of_length_le]
   rw [List.length_map]
   omega
  refine AW.block (AW.seq (vwa [(3,5,[0,6,3,4])] ?_))
  simp [hsk,ZN,Zh,ZO]
  refine qc.of hP ?_
  rintro y H6 ⟨rfl,k6,hq6⟩
  have hJ6:J H6:=hkp.stab _ _ hJ5 (k6.V8.weak fun x (hx:x=q)=>by rw [hx]; exact hDq)
  have k6:=k6.V8.weak (J:=fun x=>x=q∨M x) fun x hx => .inl hx
  cases hs with
  | nil =>
   have hits:its = []:=by
    have:=s4.length_eq
    simp at this
    exact List.length_eq_zero_iff.1 this.symm
   simp [qgw,setCells,qo,ZN,Zh,ZO]
   have kfin:Kp M H (H6 ++ [Bk.cells [.v (.sc (.int .u64 0)),.v (.sc (.int .u64 0)),.v (.sc (.int .i64 0))]]):=(hkn s3 k6).app
   refine AW.block (AW.seq (vwa [(3,5,[0,6,3,4])] ?_))
   simp [ZN,Zh,ZO]
   refine AW.cond true (by simp) (fun _ => ?_) (fun e=>by cases e)
   refine vwb ?_
   simp [ZN,Zh,ZO]
   refine vwa [(3,5,[0,6,3,4])] ?_
   simp [ZN,Zh,ZO,lV]
   exact ⟨out,⟨rfl,rfl⟩,hfin hits,hkp.stab _ _ hJ6 Kp.refl.app,kfin⟩
  | cons x tl =>
   obtain ⟨it,its',hx,hpi,htl⟩:=qeP s4
   have hsr:Srt (x::tl):=by
    obtain ⟨_,_,hh⟩:=s2
    exact hh.2.2
   have hlx:∀ y∈tl,y.lt x=false:=(List.pairwise_cons.1 hsr).1
   have g1:=hget (L := [.cells [.v (.sc (.int .u64 x.k)),.v (.sc (.int .u64 x.t)),.v (.sc (.int .i64 x.i))]]) (k6.cells (fun e=>e.elim (fun e=>hkq e.symm) hMk) s1)
   have g2:=hq6.keep (Kp.refl.app (L := [.cells [.v (.sc (.int .u64 x.k)),.v (.sc (.int .u64 x.t)),.v (.sc (.int .i64 x.i))]]) (I:=NoB)) (fun h=>h)
   have hJ7:J (H6 ++ [.cells [.v (.sc (.int .u64 x.k)),.v (.sc (.int .u64 x.t)),.v (.sc (.int .i64 x.i))]]):=hkp.stab _ _ hJ6 Kp.refl.app
   have g3:Kp M H (H6 ++ [.cells [.v (.sc (.int .u64 x.k)),.v (.sc (.int .u64 x.t)),.v (.sc (.int .i64 x.i))]]):=(hkn s3 k6).app
   have g7:(H6 ++ [Bk.cells [.v (.sc (.int .u64 x.k)),.v (.sc (.int .u64 x.t)),.v (.sc (.int .i64 x.i))]])[H6.length]? = some (.cells [.v (.sc (.int .u64 x.k)),.v (.sc (.int .u64 x.t)),.v (.sc (.int .i64 x.i))]):=by simp
   simp [qgw,JX,setCells,qo,ZN,Zh,ZO]
   simp only [List.tail_cons] at g2 hq6
   generalize H6 ++ [Bk.cells [.v (.sc (.int .u64 x.k)),.v (.sc (.int .u64 x.t)),.v (.sc (.int .i64 x.i))]]=H7 at *
   generalize H6.length=z at *
   clear s1 s2 s3 k6 hq6 hP hsk
   have g4:=hTk g3
   have hwt:wtp its=it.wt+wtp its':=by rw [wtp_perm hpi]; simp [wtp]
   have hfm:(its.flatMap (Itp.rcs kp)).Perm (it.rcs kp++its'.flatMap (Itp.rcs kp)):=by
    have:=hpi.flatMap_right (Itp.rcs kp)
    simpa using this
   have hok':∀ it∈its',it.ok b s.A:=fun it hit=>s5 it (hpi.mem_iff.2 (List.mem_cons_of_mem _ hit))
   refine AW.block (AW.seq (vwa [(3,5,[0,6,3,4])] ?_))
   simp [ZN,Zh,ZO]
   refine AW.cond false (by simp) (fun e=>by cases e) (fun _ => ?_)
   cases it with
   | rc t =>
    obtain rfl:WE p l t=x:=hx
    have e_t:(WE p l t).t=1:=rfl
    have e_i:(WE p l t).i=t.id:=rfl
    rw [e_t,e_i] at g7
    have htk:t∈S.filter kp:=s6.mem_iff.1 (List.mem_append_right _ (hfm.mem_iff.2 (List.mem_append_left _ (List.mem_singleton.2 rfl))))
    have htS:=(List.mem_filter.1 htk).1
    have hr7:=g4.cr
    have hm7:=g4.cm
    unfold trC at hr7
    obtain ⟨j,hsf,_⟩:=qio (i:=0) (h.es.mem_iff.2 htS) ((h.es.map Pr.id).nodup_iff.2 h.ids)
    refine AW.seq (vwa [(3,5,[0,6,3,4])] ?_)
    simp [g7,ZN,Zh,ZO]
    refine AW.cond false (by simp) (fun e=>by cases e) (fun _ => ?_)
    refine vwa [(3,5,[0,6,3,4])] ?_
    simp [g7,hr7,hm7,qdr,hsf,zvPr,Pr.v_eq,ZN,Zh,ZO]
    have hmn:∀ it∈its',(it.ent p l).lt (WE p l t)=false:=fun it hit=>hlx _ (htl.mem_iff.2 (List.mem_map_of_mem hit))
    have hw1:(Itp.rc t).wt=1:=rfl
    refine ⟨by omega,wtp its',by omega,_,?_,out ++ [t],its',tl,rfl,g1,g2,g3,hJ7,htl,hok',?_,?_,by omega,?_,rfl⟩
    ·simp [qz,qj,qm,Vx,Pr.cs]
    ·rw [List.append_assoc]
     exact (List.Perm.append_left out hfm.symm).trans s6
    ·have e1:sort ((its.flatMap (Itp.rcs kp)).map (WE p l))=WE p l t::sort ((its'.flatMap (Itp.rcs kp)).map (WE p l)):=by
      rw [VW (hfm.map _)]
      exact qdV (qmA hl hok' hmn)
     rw [e1] at s7
     rw [← s7,List.map_append,List.append_assoc]
     rfl
    ·rw [List.length_append,List.length_singleton]
     omega
   | nd a d c Sn =>
    obtain rfl:qlZ c p l a=x:=hx
    have e_t:(qlZ c p l a).t=0:=rfl
    have e_i:(qlZ c p l a).i=a:=rfl
    rw [e_t,e_i] at g7
    obtain ⟨o1,o2,In,o3⟩:=s5 _ (hpi.mem_iff.2 (List.mem_cons_self ..))
    have hd16:d≤16:=by
     have e1:=o2.l
     have e2:=(yI.1 o2.r).1
     omega
    have hSn:0<Sn.length:=List.length_pos_iff.2 o1
    have hw1:(Itp.nd a d c Sn).wt=Sn.length*(d+2):=rfl
    have hw2:Sn.length*(d+2)=Sn.length*(d+1)+Sn.length:=Nat.mul_succ _ _
    have hSnS:Sn.length≤Sn.length*(d+2):=Nat.le_mul_of_pos_right _ (by omega)
    have htll:tl.length≤its.length:=by
     have:=s4.length_eq
     simp at this
     omega
    have hOp:=skopenP g1 g2 g4 (by omega) (by omega) (by omega) (by omega) o3 o2 hl hkp hJ7 hDq hMq hMk (fun x hx=>by have:=hMl x hx; have:=(List.getElem?_eq_some_iff.1 g1).1; omega) hMr hMn hMm hd16 (by omega)
    refine AW.seq (vwa [(3,5,[0,6,3,4])] ?_)
    simp [g7,ZN,Zh,ZO]
    refine AW.cond true (by simp) (fun _ => ?_) (fun e=>by cases e)
    refine vwa [(3,5,[0,6,3,4])] ?_
    simp [g7,ZN,Zh,ZO]
    refine qc.of hOp ?_
    rintro y H8 ⟨kp8,hJ8,new,hs',w1,w3,w4,w5,w7⟩
    have kp8':=hkn g3 kp8
    have g18:=kp8.cells (fun e=>e.elim (fun e=>hkq e.symm) hMk) g1
    simp [ZN,Zh,ZO]
    have hwa:=qmS new its'
    refine ⟨wtp (new++its'),by omega,_,?_,out,new++its',hs',rfl,g18,w1,kp8',hJ8,?_,?_,?_,?_,?_,s9,rfl⟩
    ·simp [qz,qj,qm,Vx]
    ·rw [List.map_append]
     exact w3.trans (List.Perm.append_left _ htl)
    ·intro it hit
     rcases List.mem_append.1 hit with hit | hit
     ·exact w4 it hit
     ·exact hok' it hit
    ·rw [List.flatMap_append]
     exact (List.Perm.append_left out ((w5.append_right _).trans hfm.symm)).trans s6
    ·rw [← s7]
     congr 1
     refine VW (List.Perm.map _ ?_)
     rw [List.flatMap_append]
     exact (w5.append_right _).trans hfm.symm
    ·omega
 ·simp [hlt,ZN,Zh,ZO]
  refine vwa [(3,5,[0,6,3,4])] ?_
  simp [ZN,Zh,ZO]
  refine vwa [(3,5,[0,6,3,4])] ?_
  simp [ZN,Zh,ZO,lV]
  refine ⟨out,⟨rfl,rfl⟩,⟨?_,hout⟩,hJ5,s3⟩
  have hol:n.toNat=(out.map (WE p l)).length:=by
   rw [List.length_map]
   omega
  rw [← s7,hol,List.take_left]
end Go.Proofs.YtnconfggojpkcaaGreat
namespace Go.Proofs.YtnconfggojpkcaaGreat
open Go.RowKit AM
attribute [local simp] zQ qU jL zT zq zR zS zo jM zu qV Z8 Qm jC Ql yc ZE vZ slF qG Qo zK yx zA shares jh yt ze Qz QI qY ZF qZ qM vX zH yu Qe qL zD zG vU slV jE jG yE zU ZJ jB jF aMM aUn Qp vW jD zC jA qJ vV Qu vY vS Zw y9 qK Qs ZK zJ zI jH jR ZH eval zZ AM.valOf qm vO yR del SV.refers zY vQ jU shift ldV V.exact V.jg V.ofValue V.vP V.vL V.cells V.one Value.oneCell' ZI QY jV Q5 ZM ZC Qa Zy jl jI Qi ZL y8 yX Qr calm Qt Zn Qk feeds shrinks Qx looks isT Qf vK Qd putAt jT jc Zm sliceB isEq Qg zk qH zO zn qR zl zm qQ zP zi qP ZW Qw yB Zl QZ inO y7 Zi Mix.vT Mix.Qc QB QX qz qj qW zh qO ZV Qq yg yh ZG Zb yw yO Q8 jW V.fixed V.vC
attribute [local simp] vE je yL vH jQ vF vG jP yM vk jN V5 Ja yF QT Jb z0 JL VK Vo VU
structure Ru where
 kind:Int
 roles:Int
 lo:Int
 hi:Int
 labels:Int
 boxes:List Re
 zoom:Int
 deriving DecidableEq,Inhabited
namespace Ru
def cs (r:Ru):List V := [.sc (.int .i64 r.kind),.sc (.int .i64 r.roles),.sc (.int .i64 r.lo),.sc (.int .i64 r.hi),.sc (.int .i64 r.labels),slR r.boxes,.sc (.int .i64 r.zoom)]
def v (r:Ru):V := .agg r.cs
end Ru
def slU (xs:List Ru):V := .sl xs.length 7 (xs.flatMap Ru.cs)
def qkU (xs:List Ru):SV := .own true 95 xs.length 7 (xs.flatMap Ru.cs)
theorem YL (r:Ru):V.qA r.cs=true:=by simp [Ru.cs,V.qA,V.closed,slR,zV (enc:=Re.cs) (fun _=>rfl)]
theorem yT (xs:List Ru):V.closed (slU xs)=true:=by simp [slU,V.closed,zV (enc:=Ru.cs) YL]
theorem qan {xs:List Ru} {k:Nat} (h:k<xs.length):AM.rowAt 7 (xs.flatMap Ru.cs) (k:Int) = [.sc (.int .i64 xs[k].kind),.sc (.int .i64 xs[k].roles),.sc (.int .i64 xs[k].lo),.sc (.int .i64 xs[k].hi),.sc (.int .i64 xs[k].labels),slR xs[k].boxes,.sc (.int .i64 xs[k].zoom)]:=WA (enc:=Ru.cs) (sz:=7) (fun _=>rfl) h
def yA (n most:Int):Bool:=decide (0≤n∧n≤most)
def qI (r:Ru):Bool:=if r.kind=6 then yA r.roles 255&&decide (r.lo=0)&&decide (r.hi=0)&&decide (r.labels=0)&&decide (r.boxes = [])&&decide (r.zoom=0)
 else decide (r.kind=4∨r.kind=5)&&yA r.roles 255&&decide (0≤r.lo)&&decide (r.lo≤r.hi)&&decide (r.hi≤7)&&yA r.labels 255&&r.boxes.all qd&&yA r.zoom 16
def inS (sum n:Int):Bool:=decide (sum/2 ^ n.toNat%2=1)
def QU (ro ti la:Int):Bool:=yA ro 7&&yA ti 7&&yA la 7
def XO (r:Ru) (ro ti la:Int):Bool:=qI r && !decide (r.kind=6)&&QU ro ti la&&inS r.roles ro&&decide (r.lo≤ti)&&decide (ti≤r.hi)&&inS r.labels la
def hasB (l:List Re) (p:Pt):Bool:=l.any fun b=>yV b p
theorem qgl (n most:Int):PFn Tryz.prog 171 [.sc (.int .i64 n),.sc (.int .i64 most)] (.sc (.bool (yA n most))):=by
 unfold yA
 refine vwc (fn:=Tryz.f171) rfl (vwb ?_)
 simp only [Tryz.f171,ql]
 by_cases h1:0≤n
 ·by_cases h2:n≤most
  ·simp [h1,h2]
  ·simp [h1,h2]
 ·simp [h1]
theorem uin (sum n:Int) (h1:0≤sum∧sum≤255) (h2:0≤n∧n≤7):PFn Tryz.prog 181 [.sc (.int .i64 sum),.sc (.int .i64 n)] (.sc (.bool (inS sum n))):=by
 obtain ⟨s,rfl⟩:∃ s:Nat,sum=s:=⟨sum.toNat,by omega⟩
 obtain ⟨m,rfl⟩:∃ m:Nat,n=m:=⟨n.toNat,by omega⟩
 have e1:qkD .i64 (s:Int) (m:Int)=((s/2 ^ m:Nat):Int):=qh3 s m (by simp [IntKind.bits]; omega)
 have hle:s/2 ^ m≤s:=Nat.div_le_self _ _
 have hm:¬ (m:Int)<0:=by omega
 have e3:inS (s:Int) (m:Int)=((((s/2 ^ m)%2:Nat):Int)==1):=by
  unfold inS
  rw [Bool.eq_iff_iff]
  simp
 rw [e3]
 generalize s/2 ^ m=q at *
 have e2:andI .i64 (q:Int) 1=((q%2:Nat):Int):=by
  have:=andI_nat (k := .i64) q 1 (.inl rfl) (by omega) (by omega)
  rw [show ((1:Nat):Int)=1 from rfl] at this
  rw [this,Nat.and_one_is_mod]
 refine vwc (fn:=Tryz.f181) rfl (vwb ?_)
 simp only [Tryz.f181,ql]
 simp [qiX,binR_and,e1,e2,hm]
theorem unumbers (ro ti la:Int):PFn Tryz.prog 180 [.sc (.int .i64 ro),.sc (.int .i64 ti),.sc (.int .i64 la)] (.sc (.bool (QU ro ti la))):=by
 have h1:=qgl ro 7
 have h2:=qgl ti 7
 have h3:=qgl la 7
 unfold QU
 generalize yA ro 7=a at *
 generalize yA ti 7=b at *
 generalize yA la 7=c at *
 refine vwc (fn:=Tryz.f180) rfl (vwb ?_)
 simp only [Tryz.f180,ql]
 simp
 refine qc.pure h1 rfl rfl ?_
 cases a with
 | false=>simp
 | true =>
  simp
  refine qc.pure h2 rfl rfl ?_
  cases b with
  | false=>simp
  | true =>
   simp
   refine qc.pure h3 rfl rfl ?_
   simp
end Go.Proofs.YtnconfggojpkcaaGreat
namespace Go.Proofs.YtnconfggojpkcaaGreat
def Xc (q:Ru→Bool) (s:Int×Int) (r:Ru):Int×Int:=if q r then (if r.kind=4 then (max s.1 r.zoom,s.2) else (s.1,min s.2 r.zoom)) else s
def V7 (q:Ru→Bool) (l:List Ru):Int:=min (l.foldl (Xc q) (0,16)).1 (l.foldl (Xc q) (0,16)).2
def QD (q:Ru→Bool) (z:Int) (r:Ru):Int:=if r.kind=4∧z<r.zoom∧q r=true then r.zoom else z
def VB (q:Ru→Bool) (z:Int) (r:Ru):Int:=if r.kind=5∧r.zoom<z∧q r=true then r.zoom else z
def qe3 (q:Ru→Bool) (l:List Ru):Int:=l.foldl (VB q) (l.foldl (QD q) 0)
theorem qlr {q:Ru→Bool}:∀ (l:List Ru) (s:Int×Int),(∀ r∈l,q r=true→r.kind=4∨r.kind=5)→(l.foldl (Xc q) s).1=l.foldl (QD q) s.1
 | [],s,_=>rfl
 | r::l,s,h=>by
  rw [List.foldl_cons,List.foldl_cons,qlr l _ fun r hr=>h r (by simp [hr])]
  congr 1
  unfold Xc QD
  cases hq:q r with
  | false=>simp
  | true =>
   by_cases h4:r.kind=4
   ·simp [h4]
    omega
   ·simp [h4]
theorem qlq {q:Ru→Bool}:∀ (l:List Ru) (s:Int×Int),(∀ r∈l,q r=true→r.kind=4∨r.kind=5)→(l.foldl (Xc q) s).2=l.foldl (VB q) s.2
 | [],s,_=>rfl
 | r::l,s,h=>by
  rw [List.foldl_cons,List.foldl_cons,qlq l _ fun r hr=>h r (by simp [hr])]
  congr 1
  have hr:=h r (by simp)
  unfold Xc VB
  cases hq:q r with
  | false=>simp
  | true =>
   rcases hr hq with h4 | h5
   ·simp [h4]
   ·simp [h5]
    omega
theorem qoB {q:Ru→Bool}:∀ (l:List Ru) (x y:Int),l.foldl (VB q) (min x y)=min x (l.foldl (VB q) y)
 | [],x,y=>rfl
 | r::l,x,y=>by
  rw [List.foldl_cons,List.foldl_cons,← qoB l]
  congr 1
  unfold VB
  by_cases h:r.kind=5∧q r=true
  ·simp only [h,true_and,and_true]
   split <;> split <;> omega
  ·have h1:∀ z,¬ (r.kind=5∧r.zoom<z∧q r=true):=fun z k=>h ⟨k.1,k.2.2⟩
   rw [if_neg (h1 _),if_neg (h1 _)]
theorem qi3 {q:Ru→Bool} {M:Int}:∀ (l:List Ru) (z:Int),(∀ r∈l,q r=true→r.zoom≤M)→z≤M→l.foldl (QD q) z≤M
 | [],z,_,h=>h
 | r::l,z,hr,h=>by
  rw [List.foldl_cons]
  refine qi3 l _ (fun r h=>hr r (by simp [h])) ?_
  unfold QD
  split
  ·rename_i k
   exact hr r (by simp) k.2.2
  ·exact h
theorem zoom_doc {q:Ru→Bool} {l:List Ru} (hk:∀ r∈l,q r=true→r.kind=4∨r.kind=5) (hz:∀ r∈l,q r=true→r.zoom≤16):V7 q l=qe3 q l:=by
 unfold V7 qe3
 rw [qlr l _ hk,qlq l _ hk]
 have h:=qi3 l 0 hz (by decide)
 simp only
 generalize l.foldl (QD q) 0=a at *
 rw [← qoB,show min a 16=a by omega]
end Go.Proofs.YtnconfggojpkcaaGreat
namespace Go.Proofs.YtnconfggojpkcaaGreat
open Go.RowKit AM
attribute [local simp] zQ qU jL zT zq zR zS zo jM zu qV Z8 Qm jC Ql yc ZE vZ slF qG Qo zK yx zA shares jh yt ze Qz QI qY ZF qZ qM vX zH yu Qe qL zD zG vU slV jE jG yE zU ZJ jB jF aMM aUn Qp vW jD zC jA qJ vV Qu vY vS Zw y9 qK Qs ZK zJ zI jH jR ZH eval zZ AM.valOf qm vO yR del SV.refers zY vQ jU shift ldV V.exact V.jg V.ofValue V.vP V.vL V.cells V.one Value.oneCell' ZI QY jV Q5 ZM ZC Qa Zy jl jI Qi ZL y8 yX Qr calm Qt Zn Qk feeds shrinks Qx looks isT Qf vK Qd putAt jT jc Zm sliceB isEq Qg zk qH zO zn qR zl zm qQ zP zi qP ZW Qw yB Zl QZ inO y7 Zi Mix.vT Mix.Qc QB QX qz qj qW zh qO ZV Qq yg yh ZG Zb yw yO Q8 jW V.fixed V.vC
attribute [local simp] vE je yL vH jQ vF vG jP yM vk jN V5 Ja yF QT Jb z0 JL VK Vo VU
theorem Kt {α:Type} {q:α→Bool} {l:List α} {k:Nat} (h:∀ r∈l.take k,q r=true) (hk:k<l.length) (hr:q l[k]=true):∀ r∈l.take (k+1),q r=true:=by
 rw [List.take_succ_eq_append_getElem hk]
 intro r hm
 rcases List.mem_append.1 hm with hm | hm
 ·exact h r hm
 ·simp at hm; subst hm; exact hr
theorem KJ {α:Type} {q:α→Bool} {l:List α} (h:∀ r∈l,q r=true):l.all q=true:=List.all_eq_true.2 h
theorem qaI {α:Type} {q:α→Bool} {l:List α} {k:Nat} (hk:k<l.length) (hr:q l[k]=false):l.all q=false:=by
 rw [Bool.eq_false_iff]
 intro h
 have:=List.all_eq_true.1 h _ (List.getElem_mem hk)
 rw [hr] at this
 cases this
def BbI (l:List Re) (k:Nat) (F:Fr) (H:List Bk):Prop:=(∀ r∈l.take k,qd r=true)∧F = [(5,.v (slR l)),(6,.v (.sc (.int .i64 l.length))),(7,.v (.sc (.int .i64 k)))]
theorem uboxes (l:List Re) (hl:l.length≤9223372036854775807):PFn Tryz.prog 172 [slR l] (.sc (.bool (l.all qd))):=by
 have hR:=Jc
 unfold Re.v Re.cs at hR
 refine vwc (fn:=Tryz.f172) rfl (vwb ?_)
 simp only [Tryz.f172,ql]
 simp [slR]
 refine AW.count l.length (BbI l) ⟨_,?_,by simp,rfl⟩ ?_
 ·simp [qz,qj,qm,slR]
 rintro k F H hk ⟨ht,rfl⟩
 refine vwb ?_
 by_cases hlt:k<l.length
 ·have w1:IntKind.i64.wrap ((k:Int)+1)=(k:Int)+1:=by rw [wrap_i64] <;> omega
  have hRk:=hR l[k]
  simp [slR,hlt,qcH,JZ]
  refine qc.pure hRk rfl rfl ?_
  cases e:qd l[k] with
  | false=>simp [qaI hlt e]
  | true =>
   simp [w1,slR,hlt]
   refine ⟨_,?_,Kt ht hlt e,rfl⟩
   simp [qz,qj,qm,slR]
 ·have hk':k=l.length:=by omega
  subst hk'
  rw [List.take_length] at ht
  simp [slR,KJ ht]
theorem uright (r:Ru) (hl:r.boxes.length≤9223372036854775807):PFn Tryz.prog 137 [r.v] (.sc (.bool (qI r))):=by
 have s1:=qgl r.roles 255
 have s2:=qgl r.labels 255
 have s3:=qgl r.zoom 16
 have hb:=uboxes r.boxes hl
 have cb:=qbA r.boxes
 have eb:(r.boxes = [])↔r.boxes.length=0:=by simp
 unfold qI
 simp only [eb]
 unfold Ru.v Ru.cs
 generalize yA r.roles 255=b1 at *
 generalize yA r.labels 255=b2 at *
 generalize yA r.zoom 16=b3 at *
 generalize r.boxes.all qd=b4 at *
 refine vwc (fn:=Tryz.f137) rfl ?_
 simp only [Tryz.f137,ql]
 by_cases h6:r.kind=6
 ·rw [if_pos h6]
  refine vwb ?_
  simp [slR,h6]
  refine qc.pure s1 rfl rfl ?_
  have hz:∀ n:Int,(n=0∧(n==0)=true)∨(n≠0∧(n==0)=false):=fun n=>by
   by_cases h:n=0
   ·exact .inl ⟨h,by simpa using h⟩
   ·exact .inr ⟨h,by simpa using h⟩
  have hy:(r.boxes = []∧((r.boxes.length:Int)==0)=true)∨(r.boxes ≠ []∧((r.boxes.length:Int)==0)=false):=by
   by_cases h:r.boxes = []
   ·exact .inl ⟨h,by simp [h]⟩
   ·exact .inr ⟨h,by simp [h]⟩
  cases b1 with
  | false=>simp
  | true =>
   simp [slR]
   rcases hz r.lo with ⟨a1,x1⟩ | ⟨a1,x1⟩ <;> rcases hz r.hi with ⟨a2,x2⟩ | ⟨a2,x2⟩ <;> rcases hz r.labels with ⟨a3,x3⟩ | ⟨a3,x3⟩ <;> rcases hy with ⟨a4,x4⟩ | ⟨a4,x4⟩ <;> rcases hz r.zoom with ⟨a5,x5⟩ | ⟨a5,x5⟩ <;> simp [a1,a2,a3,a4,a5,x1,x2,x3,x4,x5]
 ·rw [if_neg h6]
  have n6:(r.kind==6)=false:=by simpa using h6
  by_cases h45:r.kind=4∨r.kind=5
  ·refine vwb ?_
   rcases h45 with h4 | h4
   all_goals
    simp [slR,h6,h4]
    refine qc.pure s1 rfl rfl ?_
    cases b1 with
    | false=>simp
    | true =>
     by_cases a1:0≤r.lo
     ·by_cases a2:r.lo≤r.hi
      ·by_cases a3:r.hi≤7
       ·simp [slR,a1,a2,a3]
        refine qc.pure s2 rfl rfl ?_
        cases b2 with
        | false=>simp
        | true =>
         simp [slR]
         refine qc.pure hb (by simp [V.qA,V.closed,zV (enc:=Re.cs) (fun _=>rfl)]) rfl ?_
         cases b4 with
         | false=>simp
         | true =>
          simp [slR]
          refine qc.pure s3 rfl rfl ?_
          simp
       ·simp [slR,a1,a2,a3]
      ·simp [slR,a1,a2]
     ·simp [slR,a1]
  ·have n4:(r.kind==4)=false:=by simp; omega
   have n5:(r.kind==5)=false:=by simp; omega
   refine vwb ?_
   simp [slR,n6,n4,n5,h45]
def UrI (l:List Ru) (k:Nat) (F:Fr) (H:List Bk):Prop:=(∀ r∈l.take k,qI r=true)∧F = [(5,.v (slU l)),(6,.v (.sc (.int .i64 l.length))),(7,.v (.sc (.int .i64 k)))]
theorem uRight (l:List Ru) (hl:l.length≤9223372036854775807) (hb:∀ r∈l,r.boxes.length≤9223372036854775807):PFn Tryz.prog 88 [slU l] (.sc (.bool (l.all qI))):=by
 have hR:=fun r h=>uright r (hb r h)
 unfold Ru.v Ru.cs at hR
 refine vwc (fn:=Tryz.f88) rfl (vwb ?_)
 simp only [Tryz.f88,ql]
 simp [slU]
 refine AW.count l.length (UrI l) ⟨_,?_,by simp,rfl⟩ ?_
 ·simp [qz,qj,qm,slU]
 rintro k F H hk ⟨ht,rfl⟩
 refine vwb ?_
 by_cases hlt:k<l.length
 ·have w1:IntKind.i64.wrap ((k:Int)+1)=(k:Int)+1:=by rw [wrap_i64] <;> omega
  have hRk:=hR l[k] (List.getElem_mem hlt)
  have hrow:=qan hlt
  unfold slR at hrow hRk
  simp [slU,hlt,hrow,JZ]
  refine qc.pure hRk (by simp [V.qA,V.closed,zV (enc:=Re.cs) (fun _=>rfl)]) rfl ?_
  cases e:qI l[k] with
  | false=>simp [qaI hlt e]
  | true =>
   simp [w1,slU,hlt]
   refine ⟨_,?_,Kt ht hlt e,rfl⟩
   simp [qz,qj,qm,slU]
 ·have hk':k=l.length:=by omega
  subst hk'
  rw [List.take_length] at ht
  simp [slU,KJ ht]
theorem Kv {r:Ru} (h:qI r=true):0≤r.roles∧r.roles≤255:=by
 unfold qI yA at h
 split at h
 ·simp at h
  omega
 ·simp at h
  omega
theorem XD {r:Ru} (h:qI r=true):0≤r.labels∧r.labels≤255:=by
 unfold qI yA at h
 split at h
 ·simp at h
  omega
 ·simp at h
  omega
theorem ufor (r:Ru) (ro ti la:Int) (hl:r.boxes.length≤9223372036854775807):PFn Tryz.prog 151 [r.v,.sc (.int .i64 ro),.sc (.int .i64 ti),.sc (.int .i64 la)] (.sc (.bool (XO r ro ti la))):=by
 have h1:=uright r hl
 have h2:=unumbers ro ti la
 have cv:V.qA [r.v]=true:=by simp [V.qA,V.closed,Ru.v,YL]
 unfold XO
 unfold Ru.v Ru.cs at h1 cv ⊢
 cases e1:qI r with
 | false =>
  rw [e1] at h1
  refine vwc (fn:=Tryz.f151) rfl (vwb ?_)
  simp only [Tryz.f151,ql]
  simp [slR]
  refine qc.pure h1 cv rfl ?_
  simp
 | true =>
  rw [e1] at h1
  by_cases h6:r.kind=6
  ·have n6:(r.kind != 6)=false:=by simpa using h6
   refine vwc (fn:=Tryz.f151) rfl (vwb ?_)
   simp only [Tryz.f151,ql]
   simp [slR]
   refine qc.pure h1 cv rfl ?_
   simp [n6,h6]
  ·have n6:(r.kind != 6)=true:=by simpa using h6
   cases e2:QU ro ti la with
   | false =>
    rw [e2] at h2
    refine vwc (fn:=Tryz.f151) rfl (vwb ?_)
    simp only [Tryz.f151,ql]
    simp [slR]
    refine qc.pure h1 cv rfl ?_
    simp [n6,h6]
    refine qc.pure h2 rfl rfl ?_
    simp
   | true =>
    rw [e2] at h2
    have hn:(0≤ro∧ro≤7)∧(0≤la∧la≤7):=by
     unfold QU yA at e2
     simp at e2
     omega
    have h3:=uin r.roles ro (Kv e1) hn.1
    have h4:=uin r.labels la (XD e1) hn.2
    generalize inS r.roles ro=b3 at *
    generalize inS r.labels la=b4 at *
    refine vwc (fn:=Tryz.f151) rfl (vwb ?_)
    simp only [Tryz.f151,ql]
    simp [slR]
    refine qc.pure h1 cv rfl ?_
    simp [n6,h6]
    refine qc.pure h2 rfl rfl ?_
    simp
    refine qc.pure h3 rfl rfl ?_
    cases b3 with
    | false=>simp
    | true =>
     by_cases a1:r.lo≤ti
     ·by_cases a2:ti≤r.hi
      ·simp [a1,a2]
       refine qc.pure h4 rfl rfl ?_
       simp
      ·simp [a1,a2]
     ·simp [a1]
def pw (k:Nat):Nat:=2 ^ k
def yQ (ro ti la:Int) (p:Pt) (r:Ru):Bool:=XO r ro ti la&&hasB r.boxes p
theorem qcX {l:List Re} {p:Pt} (h:hasB l p=true):fits p=true:=by
 unfold hasB at h
 obtain ⟨b,_,h⟩:=List.any_eq_true.1 h
 obtain ⟨h1,h2,h3⟩:=ZR.1 h
 have:=qF.1 h1
 unfold fits inside
 simp
 omega
theorem qi1 {α:Type} {q:α→Bool} {l:List α} (h:∀ r∈l,q r=false):l.any q=false:=by
 rw [Bool.eq_false_iff]
 intro e
 obtain ⟨r,hr,k⟩:=List.any_eq_true.1 e
 rw [h r hr] at k
 cases k
theorem qeK {α:Type} {q:α→Bool} {l:List α} {k:Nat} (h:∀ r∈l.take k,q r=false) (hk:k<l.length) (hr:q l[k]=false):∀ r∈l.take (k+1),q r=false:=by
 rw [List.take_succ_eq_append_getElem hk]
 intro r hm
 rcases List.mem_append.1 hm with hm | hm
 ·exact h r hm
 ·simp at hm; subst hm; exact hr
def YN (p:Pt):Bk := .cells [.v (.sc (.int .i64 p.x)),.v (.sc (.int .i64 p.y))]
def vN (l:List Ru) (ro ti la:Int) (p:Pt):Int:=if l.all qI then qe3 (yQ ro ti la p) l else 0
theorem yD {α β:Type} {f:β→α→β} {b:β} {xs:List α} {k:Nat} (h:k<xs.length):(xs.take (k+1)).foldl f b=f ((xs.take k).foldl f b) xs[k]:=by
 rw [List.take_succ_eq_append_getElem h,List.foldl_append]
 rfl
end Go.Proofs.YtnconfggojpkcaaGreat
namespace Go.Proofs.YtnconfggojpkcaaGreat
theorem qcW {l:List Re} {p:Pt}:hasB l p=true↔∃ b∈l,qd b=true∧(b.x0≤p.x∧p.x≤b.x1)∧b.y0≤p.y∧p.y≤b.y1:=by
 unfold hasB
 rw [List.any_eq_true]
 constructor
 ·rintro ⟨r,hr,h⟩; exact ⟨r,hr,ZR.1 h⟩
 ·rintro ⟨r,hr,h⟩; exact ⟨r,hr,ZR.2 h⟩
theorem qnt {l:List Re} {xs:List Int} (hx:∀ r∈l,r.x0∈xs∧r.x1+1∈xs) {x x':Int} (h:∀ c∈xs,c≤x↔c≤x') (y:Int):hasB l ⟨x,y⟩=hasB l ⟨x',y⟩:=by
 rw [Bool.eq_iff_iff,qcW,qcW]
 constructor
 ·rintro ⟨r,hr,h1,h2,h3⟩
  have a1:=h _ (hx r hr).1
  have a2:=h _ (hx r hr).2
  simp only at h2 h3
  exact ⟨r,hr,h1,by simp only; omega,h3⟩
 ·rintro ⟨r,hr,h1,h2,h3⟩
  have a1:=h _ (hx r hr).1
  have a2:=h _ (hx r hr).2
  simp only at h2 h3
  exact ⟨r,hr,h1,by simp only; omega,h3⟩
theorem qns {l:List Re} {ys:List Int} (hy:∀ r∈l,r.y0∈ys∧r.y1+1∈ys) {y y':Int} (h:∀ c∈ys,c≤y↔c≤y') (x:Int):hasB l ⟨x,y⟩=hasB l ⟨x,y'⟩:=by
 rw [Bool.eq_iff_iff,qcW,qcW]
 constructor
 ·rintro ⟨r,hr,h1,h2,h3⟩
  have a1:=h _ (hy r hr).1
  have a2:=h _ (hy r hr).2
  simp only at h2 h3
  exact ⟨r,hr,h1,h2,by simp only; omega⟩
 ·rintro ⟨r,hr,h1,h2,h3⟩
  have a1:=h _ (hy r hr).1
  have a2:=h _ (hy r hr).2
  simp only at h2 h3
  exact ⟨r,hr,h1,h2,by simp only; omega⟩
theorem qg1 {q q':Ru→Bool} {l:List Ru} (h:∀ r∈l,q r=q' r):V7 q l=V7 q' l:=by
 have go:∀ (l:List Ru) (s:Int×Int),(∀ r∈l,q r=q' r)→l.foldl (Xc q) s=l.foldl (Xc q') s:=by
  intro l
  induction l with
  | nil=>intro s _; rfl
  | cons r l ih =>
   intro s h
   rw [List.foldl_cons,List.foldl_cons,ih _ fun r hr=>h r (by simp [hr])]
   unfold Xc
   rw [h r (by simp)]
 unfold V7
 rw [go l _ h]
end Go.Proofs.YtnconfggojpkcaaGreat
namespace Go.Proofs.YtnconfggojpkcaaGreat
open Go.RowKit AM Can
attribute [local simp] zQ qU jL zT zq zR zS zo jM zu qV Z8 Qm jC Ql yc ZE vZ slF qG Qo zK yx zA shares jh yt ze Qz QI qY ZF qZ qM vX zH yu Qe qL zD zG vU slV jE jG yE zU ZJ jB jF aMM aUn Qp vW jD zC jA qJ vV Qu vY vS Zw y9 qK Qs ZK zJ zI jH jR ZH eval zZ AM.valOf qm vO yR del SV.refers zY vQ jU shift ldV V.exact V.jg V.ofValue V.vP V.vL V.cells V.one Value.oneCell' ZI QY jV Q5 ZM ZC Qa Zy jl jI Qi ZL y8 yX Qr calm Qt Zn Qk feeds shrinks Qx looks isT Qf vK Qd putAt jT jc Zm sliceB isEq Qg zk qH zO zn qR zl zm qQ zP zi qP ZW Qw yB Zl QZ inO y7 Zi Mix.vT Mix.Qc QB QX qz qj qW zh qO ZV Qq yg yh ZG Zb yw yO Q8 jW V.fixed V.vC
def lo (down:Bool) (r:Re):Int:=if down then r.y0 else r.x0
def hi (down:Bool) (r:Re):Int:=if down then r.y1 else r.x1
end Go.Proofs.YtnconfggojpkcaaGreat
namespace Go.Proofs.YtnconfggojpkcaaGreat
open Go.RowKit AM Can
attribute [local simp] zQ qU jL zT zq zR zS zo jM zu qV Z8 Qm jC Ql yc ZE vZ slF qG Qo zK yx zA shares jh yt ze Qz QI qY ZF qZ qM vX zH yu Qe qL zD zG vU slV jE jG yE zU ZJ jB jF aMM aUn Qp vW jD zC jA qJ vV Qu vY vS Zw y9 qK Qs ZK zJ zI jH jR ZH eval zZ AM.valOf qm vO yR del SV.refers zY vQ jU shift ldV V.exact V.jg V.ofValue V.vP V.vL V.cells V.one Value.oneCell' ZI QY jV Q5 ZM ZC Qa Zy jl jI Qi ZL y8 yX Qr calm Qt Zn Qk feeds shrinks Qx looks isT Qf vK Qd putAt jT jc Zm sliceB isEq Qg zk qH zO zn qR zl zm qQ zP zi qP ZW Qw yB Zl QZ inO y7 Zi Mix.vT Mix.Qc QB QX qz qj qW zh qO ZV Qq yg yh ZG Zb yw yO Q8 jW V.fixed V.vC
namespace Can
theorem qeM {L:Type} [DecidableEq L] {f:Int→Option L} {xs:List Int}:∀ k,(JI f xs k).length≤k
 | 0=>by simp [JI]
 | k+1=>by
  have h1:=qeM (f:=f) (xs:=xs) k
  rw [JI]
  split
  ·unfold step
   split
   ·unfold push
    split
    ·split
     ·simp; omega
     ·simp; omega
    ·simp
   ·omega
  ·omega
theorem qjE {L:Type} [DecidableEq L] {f:Int→Option L} {xs:List Int}:∀ k,∀ r∈JI f xs k,∃ y,f y=some r.z
 | 0,r,hr=>by simp [JI] at hr
 | k+1,r,hr=>by
  have h1:=qjE (f:=f) (xs:=xs) k
  rw [JI] at hr
  split at hr
  ·rename_i n m _ _
   unfold step at hr
   split at hr
   ·rename_i z hz
    rcases List.eq_nil_or_concat (JI f xs k) with e | ⟨R',r',e⟩
    ·rw [e] at hr
     simp [push] at hr
     subst hr
     exact ⟨_,hz⟩
    ·simp only [List.concat_eq_append] at e
     rw [e] at hr h1
     unfold push at hr
     simp only [List.getLast?_append,List.getLast?_singleton,Option.some_or,List.dropLast_concat] at hr
     split at hr
     ·rcases List.mem_append.1 hr with hr | hr
      ·exact h1 r (by simp [hr])
      ·simp at hr
       subst hr
       exact ⟨_,hz⟩
     ·rcases List.mem_append.1 hr with hr | hr
      ·exact h1 r hr
      ·simp at hr
       subst hr
       exact ⟨_,hz⟩
   ·exact h1 r hr
  ·exact h1 r hr
theorem qmn {L:Type} [DecidableEq L] {R:Int→List (Run L)} {ys:List Int} {M:Nat} (hM:∀ y,(R y).length≤M) (k:Nat):(emit (JI (Xq R) ys k)).length≤k*M:=by
 have h1:=qeM (f:=Xq R) (xs:=ys) k
 have h2:=qjE (f:=Xq R) (xs:=ys) k
 generalize JI (Xq R) ys k=B at *
 have go:∀ B:List (Run (List (Run L))),(∀ r∈B,∃ y,Xq R y=some r.z)→(emit B).length≤B.length*M:=by
  intro B
  induction B with
  | nil=>simp [emit]
  | cons b B ih =>
   intro h
   have e:emit (b::B)=qhx b++emit B:=by simp [emit]
   have h3:=ih (fun r hr=>h r (by simp [hr]))
   obtain ⟨y,hy⟩:=h b (by simp)
   have h4:(qhx b).length≤M:=by
    unfold Xq at hy
    split at hy
    ·cases hy
    ·have:=Option.some.inj hy
     unfold qhx
     rw [List.length_map,← this]
     exact hM y
   rw [e,List.length_append,List.length_cons,Nat.succ_mul]
   omega
 have h3:=go B h2
 have h4:=Nat.mul_le_mul_right M h1
 omega
end Can
end Go.Proofs.YtnconfggojpkcaaGreat
namespace Go.Proofs.YtnconfggojpkcaaGreat
open Go.Shelf Go.RowKit Go.Lib Go.Sort
def ql4:Go.Shelf.Ren:=⟨fun | 189=>145 | 125=>175 | 257=>174 | 128=>201 | 129=>202 | 294=>192 | 295=>193 | 296=>194 | 297=>195 | 298=>196 | 299=>197 | 216=>198 | 300=>199 | 301=>200 | 328=>222 | 329=>223 | 330=>224 | 331=>225 | 332=>226 | 215=>227 | 343=>235 | n=>n,fun | 28=>134 | 3=>3 | 46=>244 | 0=>0 | 51=>273 | 53=>108 | 4=>4 | 183=>266 | 182=>265 | 131=>270 | 5=>5 | 9=>9 | 218=>286 | 222=>290 | 228=>296 | 229=>184 | n=>n,fun | n=>n⟩
theorem qoq:Go.Proofs.Lays.n189 Tryz.prog ql4 := {
 mixed:=by kernel_rfl
 f125:=Tryz.func175.trans (congrArg some (by kernel_rfl))
 f128:=Tryz.func201.trans (congrArg some (by kernel_rfl))
 f129:=Tryz.func202.trans (congrArg some (by kernel_rfl))
 f189:=Tryz.func145.trans (congrArg some (by kernel_rfl))
 f215:=Tryz.func227.trans (congrArg some (by kernel_rfl))
 f216:=Tryz.func198.trans (congrArg some (by kernel_rfl))
 f257:=Tryz.func174.trans (congrArg some (by kernel_rfl))
 f294:=Tryz.func192.trans (congrArg some (by kernel_rfl))
 f295:=Tryz.func193.trans (congrArg some (by kernel_rfl))
 f296:=Tryz.func194.trans (congrArg some (by kernel_rfl))
 f297:=Tryz.func195.trans (congrArg some (by kernel_rfl))
 f298:=Tryz.func196.trans (congrArg some (by kernel_rfl))
 f299:=Tryz.func197.trans (congrArg some (by kernel_rfl))
 f300:=Tryz.func199.trans (congrArg some (by kernel_rfl))
 f301:=Tryz.func200.trans (congrArg some (by kernel_rfl))
 f328:=Tryz.func222.trans (congrArg some (by kernel_rfl))
 f329:=Tryz.func223.trans (congrArg some (by kernel_rfl))
 f330:=Tryz.func224.trans (congrArg some (by kernel_rfl))
 f331:=Tryz.func225.trans (congrArg some (by kernel_rfl))
 f332:=Tryz.func226.trans (congrArg some (by kernel_rfl))
 f343:=Tryz.func235.trans (congrArg some (by kernel_rfl))
 t0:=Tryz.underlying0
 a0:=Tryz.isAgg0
 z0:=Tryz.sizeOf0
 v0:=Tryz.zeroValue0
 t3:=Tryz.underlying3
 a3:=Tryz.isAgg3
 z3:=Tryz.sizeOf3
 v3:=Tryz.zeroValue3
 t4:=Tryz.underlying4
 a4:=Tryz.isAgg4
 z4:=Tryz.sizeOf4
 v4:=Tryz.zeroValue4
 t5:=Tryz.underlying5
 a5:=Tryz.isAgg5
 z5:=Tryz.sizeOf5
 v5:=Tryz.zeroValue5
 t9:=Tryz.underlying9
 a9:=Tryz.isAgg9
 z9:=Tryz.sizeOf9
 v9:=Tryz.zeroValue9
 t28:=Tryz.underlying134
 a28:=Tryz.isAgg134
 z28:=Tryz.sizeOf134
 v28:=Tryz.zeroValue134
 t46:=Tryz.underlying244
 a46:=Tryz.isAgg244
 z46:=Tryz.sizeOf244
 v46:=Tryz.zeroValue244
 t51:=Tryz.underlying273
 a51:=Tryz.isAgg273
 z51:=Tryz.sizeOf273
 v51:=Tryz.zeroValue273
 t53:=Tryz.underlying108
 a53:=Tryz.isAgg108
 z53:=Tryz.sizeOf108
 v53:=Tryz.zeroValue108
 t131:=Tryz.underlying270
 a131:=Tryz.isAgg270
 z131:=Tryz.sizeOf270
 v131:=Tryz.zeroValue270
 t182:=Tryz.underlying265
 a182:=Tryz.isAgg265
 z182:=Tryz.sizeOf265
 v182:=Tryz.zeroValue265
 t183:=Tryz.underlying266
 a183:=Tryz.isAgg266
 z183:=Tryz.sizeOf266
 v183:=Tryz.zeroValue266
 t218:=Tryz.underlying286
 a218:=Tryz.isAgg286
 z218:=Tryz.sizeOf286
 v218:=Tryz.zeroValue286
 t222:=Tryz.underlying290
 a222:=Tryz.isAgg290
 z222:=Tryz.sizeOf290
 v222:=Tryz.zeroValue290
 t228:=Tryz.underlying296
 a228:=Tryz.isAgg296
 z228:=Tryz.sizeOf296
 v228:=Tryz.zeroValue296
 t229:=Tryz.underlying184
 a229:=Tryz.isAgg184
 z229:=Tryz.sizeOf184
 v229:=Tryz.zeroValue184 }
def qnq:Go.Shelf.Ren:=⟨fun | 20=>146 | n=>n,fun | 22=>134 | 3=>3 | 4=>4 | 0=>0 | n=>n,fun | n=>n⟩
theorem lays20:Go.Proofs.Lays2.n20 Tryz.prog qnq := {
 mixed:=by kernel_rfl
 f20:=Tryz.func146.trans (congrArg some (by kernel_rfl))
 t0:=Tryz.underlying0
 a0:=Tryz.isAgg0
 z0:=Tryz.sizeOf0
 v0:=Tryz.zeroValue0
 t3:=Tryz.underlying3
 a3:=Tryz.isAgg3
 z3:=Tryz.sizeOf3
 v3:=Tryz.zeroValue3
 t4:=Tryz.underlying4
 a4:=Tryz.isAgg4
 z4:=Tryz.sizeOf4
 v4:=Tryz.zeroValue4
 t22:=Tryz.underlying134
 a22:=Tryz.isAgg134
 z22:=Tryz.sizeOf134
 v22:=Tryz.zeroValue134
 i3:=by kernel_rfl }
namespace AM
section
variable {α:Type} [Inhabited α] {enc:α→Value}
theorem qoP (cur:Array Value) (ts rest:List α) (h:(ts++rest).length≤cur.size):(putCells enc 0 (ts++rest).toArray cur).toList.take ts.length=ts.map enc:=by
 rw [List.length_append] at h
 apply List.ext_getElem?
 intro j
 by_cases hj:j<ts.length
 ·rw [List.getElem?_take_of_lt hj,Array.getElem?_toList]
  have h1:j<ts.length+rest.length:=by omega
  simp [putCells,hj,h1,show j<cur.size by omega,List.getElem_append_left hj]
 ·rw [List.getElem?_take_eq_none (by omega),List.getElem?_eq_none (by simp; omega)]
theorem qna {w:World} {g cap n:Nat} {e:TypeId} {cur:Array Value} {ys rest:List α} (hl:(ys++rest).length≤cur.size) (hb:w.heap[g]? = some (.cells cur e (0,0)))
  (h1:ys.length≤cap) (h2:cap≤maxLen) (h3:cur.size=cap*1):qe1 w (putRow enc (Sort.ahead w n) g 0 (ys++rest).toArray) g e 1 ys.length cap (ys.map enc):=by
 have e0:grow (putRow enc (Sort.ahead w n) g 0 (ys++rest).toArray) #[]=putRow enc (Sort.ahead w n) g 0 (ys++rest).toArray:=grow_empty _
 have hh:=heap_put (enc:=enc) (os := #[]) (n:=n) (ys++rest).toArray hb
 rw [e0] at hh
 refine ⟨rfl,rfl,rfl,by simp [putRow,mapBlock,Sort.ahead],fun k hne hk => ?_,by simp,.inr ⟨g,cap,_,rfl,Nat.zero_le _,hh,h1,h2,by simp [putCells,h3],by rw [Nat.mul_one]; exact qoP cur ys rest hl⟩⟩
 simp [putRow,mapBlock,Sort.ahead,Array.getElem?_modify,Ne.symm hne]
end
end AM
theorem sortI:AM.qoG Tryz.prog 145 [] 3 1 (fun z:Int => [Value.int .i64 z]) false (fun zs ys=>ys=AM.sorted' zs):=by
 have hfm:∀ ys:List Int,ys.flatMap (fun z => [Value.int .i64 z])=ys.map (Value.int .i64):=fun ys=>by induction ys <;> simp_all
 refine ⟨fun blk cap zs w hsz hrow => ?_,fun w => ?_⟩
 ·rcases hrow.2 with ⟨h,_⟩ | ⟨g',cap',cur,hv,_,hb,h1,h2,h3,h4⟩
  ·cases h
  cases hv
  rw [hfm,Nat.mul_one] at h4
  simp only [hfm]
  have hH:=AM.WO (enc:=Value.int .i64) (ss:=zs) hb h4
  have hblk:blk<w.heap.size:=(Array.getElem?_eq_some_iff.1 hb).1
  have hS:=Any.slices_Sort_int qoq blk 0 cap zs w hH hblk hsz
  refine Calls.mono (show Calls Tryz.prog 145 #[.slice (some ⟨blk,0,none⟩) zs.length cap] _ _ from hS) fun e w' he => ?_
  obtain ⟨rfl,n,os,rfl⟩:=he
  have hl:(AM.sorted' zs).length=zs.length:=by simp [AM.sorted']
  exact ⟨_,rfl,rfl,fun _=>hl,by rw [hl]; exact AM.qoW hl hb h1 h2 h3⟩
 ·have hS:=Any.slices_Sort_int_none qoq none 0 w
  refine Calls.mono (show Calls Tryz.prog 145 #[.slice none 0 0] _ _ from hS) fun e w' he => ?_
  obtain ⟨rfl,rfl⟩:=he
  exact ⟨by simp [AM.sorted'],rfl,Go.RowKit.Below.refl _ _⟩
theorem qmr:AM.qoG Tryz.prog 146 [] 3 1 (fun z:Int => [Value.int .i64 z]) true (fun zs ys=>ys=Lib.compact zs):=by
 have hfm:∀ ys:List Int,ys.flatMap (fun z => [Value.int .i64 z])=ys.map (Value.int .i64):=fun ys=>by induction ys <;> simp_all
 refine ⟨fun blk cap zs w hsz hrow => ?_,fun w => ?_⟩
 ·rcases hrow.2 with ⟨h,_⟩ | ⟨g',cap',cur,hv,_,hb,h1,h2,h3,h4⟩
  ·cases h
  cases hv
  rw [hfm,Nat.mul_one] at h4
  simp only [hfm]
  have hH:=AM.WO (enc:=Value.int .i64) (ss:=zs) hb h4
  have hS:=Any.slices_Compact_int lays20 blk 0 cap zs w hH (by omega) h1
  refine Calls.mono (show Calls Tryz.prog 146 #[.slice (some ⟨blk,0,none⟩) zs.length cap] _ _ from hS) fun e w' he => ?_
  obtain ⟨rfl,q,rfl⟩:=he
  have hc:(Lib.compact zs).length≤zs.length:=by
   unfold Lib.compact Lib.compactUpTo
   rw [List.length_map]
   have:=List.length_filter_le (Lib.keeps zs.toArray) (List.range zs.length)
   simpa using this
  exact ⟨_,rfl,rfl,(fun h=>by cases h),AM.qna (by simp; omega) hb (by omega) h2 h3⟩
 ·have hS:=Any.slices_Compact_int_empty lays20 none 0 w
  refine Calls.mono (show Calls Tryz.prog 146 #[.slice none 0 0] _ _ from hS) fun e w' he => ?_
  obtain ⟨rfl,rfl⟩:=he
  exact ⟨by simp [Lib.compact,Lib.compactUpTo],rfl,Go.RowKit.Below.refl _ _⟩
end Go.Proofs.YtnconfggojpkcaaGreat
namespace Go.Proofs.YtnconfggojpkcaaGreat
open Go.RowKit AM Can
theorem qb1 {α β:Type} {f:α→List β} {xs:List α} {k:Nat} (h:k<xs.length):(xs.take (k+1)).flatMap f=(xs.take k).flatMap f++f xs[k]:=by
 rw [List.take_succ_eq_append_getElem h,List.flatMap_append]
 simp
theorem qkf {α:Type} {f g:α→Int}:∀ xs:List α,(xs.flatMap fun r => [f r,g r]).length=2*xs.length
 | []=>rfl
 | x::xs=>by
  rw [List.flatMap_cons,List.length_append,qkf xs]
  simp
  omega
theorem qcj (zs:List Int):scs (fun z:Int => [Value.int .i64 z]) zs=ints zs:=by
 unfold scs ints
 induction zs with
 | nil=>rfl
 | cons z zs ih =>
  rw [List.flatMap_cons,ih]
  rfl
end Go.Proofs.YtnconfggojpkcaaGreat
namespace Go.Proofs.YtnconfggojpkcaaGreat
open Go.RowKit AM Can
attribute [local simp] zQ qU jL zT zq zR zS zo jM zu qV Z8 Qm jC Ql yc ZE vZ slF qG Qo zK yx zA shares jh yt ze Qz QI qY ZF qZ qM vX zH yu Qe qL zD zG vU slV jE jG yE zU ZJ jB jF aMM aUn Qp vW jD zC jA qJ vV Qu vY vS Zw y9 qK Qs ZK zJ zI jH jR ZH eval zZ AM.valOf qm vO yR del SV.refers zY vQ jU shift ldV V.exact V.jg V.ofValue V.vP V.vL V.cells V.one Value.oneCell' ZI QY jV Q5 ZM ZC Qa Zy jl jI Qi ZL y8 yX Qr calm Qt Zn Qk feeds shrinks Qx looks isT Qf vK Qd putAt jT jc Zm sliceB isEq Qg zk qH zO zn qR zl zm qQ zP zi qP ZW Qw yB Zl QZ inO y7 Zi Mix.vT Mix.Qc QB QX qz qj qW zh qO ZV Qq yg yh ZG Zb yw yO Q8 jW V.fixed V.vC
attribute [local simp] vE je yL vH jQ vF vG jP yM vk jN V5 Ja yF QT Jb z0 JL VK Vo VU
def qg (l:List Ru):List Re:=l.flatMap Ru.boxes
def Wp (d:Bool) (l:List Re):List Int:=l.flatMap fun r => [lo d r,hi d r+1]
theorem qgP (d:Bool) (l:List Re):(Wp d l).length=2*l.length:=qkf l
theorem qgO {d:Bool} {l:List Re} {z:Int}:z∈Wp d l↔∃ r∈l,z=lo d r∨z=hi d r+1:=by simp [Wp]
theorem qk6 (d:Bool) (a b:List Re):Wp d (a++b)=Wp d a++Wp d b:=by simp [Wp]
def OfD (P:Program) (f:FuncId) (d:Bool):Prop:=∀ b:Re,PFn P f [b.v] (.tup [.sc (.int .i64 (lo d b)),.sc (.int .i64 (hi d b))])
theorem gbX:OfD Tryz.prog 183 false:=fun b=>by
 unfold Re.v Re.cs
 refine vwc (fn:=Tryz.f183) rfl (vwb ?_)
 simp only [Tryz.f183,ql]
 simp [lo,hi]
theorem gbY:OfD Tryz.prog 184 true:=fun b=>by
 unfold Re.v Re.cs
 refine vwc (fn:=Tryz.f184) rfl (vwb ?_)
 simp only [Tryz.f184,ql]
 simp [lo,hi]
def EgA (f:FuncId) (d:Bool) (l:List Ru) (k:Nat) (F:Fr) (H:List Bk):Prop:=F = [(1,.v (.fn (.func f) [] [])),(5,JE (Wp d (qg (l.take k)))),(12,.v (slU l)),(13,.v (.sc (.int .i64 l.length))),(14,.v (.sc (.int .i64 k)))]
def EgB (f:FuncId) (d:Bool) (l:List Ru) (k:Nat) (c:List Re) (j:Nat) (F:Fr) (H:List Bk):Prop:=F = [(1,.v (.fn (.func f) [] [])),(5,JE (Wp d (qg (l.take k))++Wp d (c.take j))),(12,.v (slU l)),(13,.v (.sc (.int .i64 l.length))),(14,.v (.sc (.int .i64 k))),(19,.v (slR c)),(20,.v (.sc (.int .i64 c.length))),(21,.v (.sc (.int .i64 j)))]
theorem VD {l:List Ru} {k:Nat} (h:k<l.length):qg (l.take (k+1))=qg (l.take k)++l[k].boxes:=qb1 h
theorem ZU (l:List Ru) (k:Nat):(qg (l.take k)).length≤(qg l).length:=by
 have:=congrArg (fun x=>(qg x).length) (List.take_append_drop k l)
 simp only [qg,List.flatMap_append,List.length_append] at this ⊢
 omega
theorem qiW {l:List Ru} {r:Ru} (h:r∈l) {b:Re} (hb:b∈r.boxes):b∈qg l:=List.mem_flatMap.2 ⟨r,h,hb⟩
theorem gedges (f:FuncId) (d:Bool) (hf:OfD Tryz.prog f d) (l:List Ru) (hl:l.length≤1000000) (hn:(qg l).length≤1048576) (hr:∀ b∈qg l,qd b=true) :
  PFn Tryz.prog 182 [slU l,.fn (.func f) [] []] (slI (qek (Wp d (qg l)))):=by
 unfold OfD Re.v Re.cs at hf
 refine vwc (fn:=Tryz.f182) rfl ?_
 simp only [Tryz.f182,ql]
 refine AW.seq (AW.ofz [] mixed (by kernel_rfl) ?_)
 simp
 refine AW.seq (AW.ofz [] mixed (by kernel_rfl) ?_)
 simp
 refine AW.seq (AW.ofz [] mixed (by kernel_rfl) ?_)
 simp [slU]
 refine AW.count l.length (EgA f d l) ⟨_,?_,rfl⟩ ?_
 ·simp [qz,qj,qm,JE,qW,Wp,qg,ints,slU]
 rintro k F H hk rfl
 refine AW.ofz [] mixed (by kernel_rfl) ?_
 have w1:IntKind.i64.wrap ((k:Int)+1)=(k:Int)+1:=by rw [wrap_i64] <;> omega
 by_cases hlt:k<l.length
 ·have hrow:=qan hlt
  have hcm:∀ b∈l[k].boxes,qd b=true:=fun b hb=>hr b (qiW (List.getElem_mem hlt) hb)
  have hst:=VD hlt
  have hpre:=ZU l (k+1)
  rw [hst,List.length_append] at hpre
  have hel:=qgP d (qg (l.take k))
  have hnx:Wp d (qg (l.take (k+1)))=Wp d (qg (l.take k))++Wp d l[k].boxes:=by rw [hst,qk6]
  generalize hc:l[k].boxes=c at *
  unfold slR at hrow
  simp [slU,JE,hlt,hrow,JZ]
  refine AW.count c.length (EgB f d l k c) ⟨_,?_,rfl⟩ ?_
  ·simp [qz,qj,qm,JE,Wp,slU,slR]
  rintro j F H2 hj rfl
  refine AW.ofz [] mixed (by kernel_rfl) ?_
  have hlj:=qgP d (c.take j)
  rw [List.length_take] at hlj
  by_cases hjl:j<c.length
  ·have w2:IntKind.i64.wrap ((j:Int)+1)=(j:Int)+1:=by rw [wrap_i64] <;> omega
   have hrj:=qcH hjl
   have hbj:=qF.1 (hcm _ (List.getElem_mem hjl))
   have w3:IntKind.i64.wrap (hi d c[j]+1)=hi d c[j]+1:=by
    unfold hi
    rw [wrap_i64] <;> split <;> omega
   have hn:=hf c[j]
   have hst:Wp d (c.take (j+1))=Wp d (c.take j) ++ [lo d c[j],hi d c[j]+1]:=qb1 hjl
   simp [slU,hjl,hrj,slR,JE,JZ,w2]
   refine qc.pure hn rfl rfl ?_
   simp [slU,slR,w2,w3,JE]
   refine ⟨by omega,_,?_,rfl⟩
   rw [hst]
   simp [qz,qj,qm,JE,slU,slR,ints]
   omega
  ·have hjj:j=c.length:=by omega
   subst hjj
   rw [List.take_length,← hnx]
   simp [slU,slR,JE,w1]
   refine ⟨_,?_,rfl⟩
   simp [qz,qj,qm,JE,slU]
 ·have hk2:k=l.length:=by omega
  subst hk2
  rw [List.take_length]
  have hz:=qgP d (qg l)
  simp [slU,JE]
  generalize Wp d (qg l)=zs at *
  refine AW.seq (AW.qob (u:=5) (e:=3) (sz:=1) (n:=zs.length) (zs:=zs) (xs := []) sortI ⟨_,Tryz.func145,rfl,by kernel_rfl⟩ (fun x v hv=>by simp at hv; subst hv; rfl) rfl rfl rfl rfl rfl rfl (fun a=>rfl) rfl rfl (by decide) (by decide) (by decide) (by decide) (by simp [qm,qcj]) rfl rfl (by omega) ?_)
  rintro ys rfl hyl
  rw [qcj]
  have hN:qek zs=Go.Lib.compact (sorted' zs):=rfl
  rw [← hyl]
  rw [hN]
  generalize sorted' zs=qs at *
  simp
  refine AW.seq (AW.qoc (u:=5) (e:=3) (sz:=1) (n:=qs.length) (zs:=qs) (xs := []) qmr ⟨_,Tryz.func146,rfl,by kernel_rfl⟩ (fun x v hv=>by simp at hv; subst hv; rfl) rfl rfl rfl rfl rfl rfl (fun a=>rfl) rfl rfl (by decide) (by decide) (by decide) (by simp [qm,qcj]) rfl (by omega) ?_)
  rintro ys rfl
  rw [qcj]
  generalize Go.Lib.compact qs=rs at *
  simp
  refine AW.ofz [] mixed (by kernel_rfl) ?_
  simp [slI]
def AskB (P:Program) (g:FuncId) (cap:List V) (q:Re→Bool) (H:List Bk):Prop:=∀ H',VI H H'→∀ b:Re,AFn P g (b.v::cap) H' fun y H''=>y = .sc (.bool (q b))∧VI H' H''
def IxI (H0:List Bk) (g:FuncId) (cap:List V) (q:Re→Bool) (l:List Re) (k:Nat) (F:Fr) (H:List Bk):Prop:=(∀ b∈l.take k,q b=false)∧VI H0 H∧F = [(0,.v (slR l)),(1,.v (.fn (.func g) [] cap)),(7,.v (.sc (.int .i64 l.length))),(8,.v (.sc (.int .i64 k)))]
theorem gindex (l:List Re) (g:FuncId) (cap:List V) (q:Re→Bool) (H:List Bk) (hl:l.length≤9223372036854775807) (hq:AskB Tryz.prog g cap q H):AFn Tryz.prog 237 [slR l,.fn (.func g) [] cap] H fun y H'=>∃ n:Int,y = .sc (.int .i64 n)∧decide (0≤n)=l.any q∧VI H H':=by
 unfold AskB Re.v Re.cs at hq
 refine vwc (fn:=Tryz.f237) rfl (vwb ?_)
 simp only [Tryz.f237,ql]
 simp [slR]
 refine AW.count l.length (IxI H g cap q l) ⟨_,?_,by simp,.refl,rfl⟩ ?_
 ·simp [qz,qj,qm,slR]
 rintro k F H1 hk ⟨ht,hs,rfl⟩
 refine vwb ?_
 by_cases hlt:k<l.length
 ·have w1:IntKind.i64.wrap ((k:Int)+1)=(k:Int)+1:=by rw [wrap_i64] <;> omega
  have hrow:=qcH hlt
  simp [slR,hlt,hrow]
  refine qc.of (hq H1 hs l[k]) ?_
  rintro y H2 ⟨rfl,h2⟩
  cases e:q l[k] with
  | true =>
   have:l.any q=true:=List.any_eq_true.2 ⟨_,List.getElem_mem hlt,e⟩
   simp [this,slR]
   exact hs.trans h2
  | false =>
   simp [w1,slR,hlt]
   refine ⟨_,?_,qeK ht hlt e,hs.trans h2,rfl⟩
   simp [qz,qj,qm,slR]
 ·have hk':k=l.length:=by omega
  subst hk'
  rw [List.take_length] at ht
  have hall:l.any q=false:=qi1 ht
  simp [slR,hall]
  exact hs
theorem qpj (l:List Re) (g:FuncId) (cap:List V) (q:Re→Bool) (H:List Bk) (hl:l.length≤9223372036854775807) (hq:AskB Tryz.prog g cap q H):AFn Tryz.prog 233 [slR l,.fn (.func g) [] cap] H fun y H'=>y = .sc (.bool (l.any q))∧VI H H':=by
 have h1:=gindex l g cap q H hl hq
 refine vwc (fn:=Tryz.f233) rfl (vwb ?_)
 simp only [Tryz.f233,ql]
 simp [slR]
 refine qc.of (by simpa [slR] using h1) ?_
 rintro y H2 ⟨n,rfl,hn,h2⟩
 simp [hn]
 exact h2
theorem gask (p:Pt) (id:Nat) (H:List Bk) (h:H[id]? = some (YN p)):AskB Tryz.prog 234 [.ptr id 0] (fun b=>yV b p) H:=fun H1 h1 b=>by
 have hid:H1[id]? = some (YN p):=h1.cells h
 have hR:=gHas b p
 unfold Re.v Re.cs Pt.v Pt.cs at hR
 unfold YN at hid
 unfold Re.v Re.cs
 refine vwc (fn:=Tryz.f234) rfl (vwb ?_)
 simp only [Tryz.f234,ql]
 have hid':=fun L=>qce (L:=L) hid
 simp [hid,hid']
 refine qc.pure hR rfl rfl ?_
 simp
 exact .app
def qbT (n:Int):Option Int:=if n=0 then none else some n
def qfA (p:Pt) (r:Ru):Bool:=hasB r.boxes p
def GzI (p:Pt) (l:List Ru) (k:Nat) (F:Fr) (H:List Bk):Prop:=VI [YN p] H∧F = [(3,.v (.ptr 0 0)),(5,.v (.sc (.int .i64 ((l.take k).foldl (Xc (qfA p)) (0,16)).1))),(6,.v (.sc (.int .i64 ((l.take k).foldl (Xc (qfA p)) (0,16)).2))),(9,.v (slU l)),(10,.v (.sc (.int .i64 l.length))),(11,.v (.sc (.int .i64 k)))]
theorem gzoom (l:List Ru) (p:Pt) (hl:l.length≤9223372036854775807) (hb:∀ r∈l,r.boxes.length≤9223372036854775807):PFn Tryz.prog 220 [slU l,p.v] (.sc (.int .i64 (V7 (qfA p) l))):=by
 unfold Pt.v Pt.cs
 refine vwc (fn:=Tryz.f220) rfl (vwb ?_)
 simp only [Tryz.f220,ql]
 simp [slU]
 refine AW.count l.length (GzI p l) ⟨_,?_,.refl,rfl⟩ ?_
 ·simp [qz,qj,qm,slU]
 rintro k F H hk ⟨hs,rfl⟩
 refine vwb ?_
 have h0:H[0]? = some (YN p):=hs.cells rfl
 have hst:=fun h=>yD (f:=Xc (qfA p)) (b:=((0:Int),(16:Int))) (xs:=l) (k:=k) h
 by_cases hlt:k<l.length
 ·have w1:IntKind.i64.wrap ((k:Int)+1)=(k:Int)+1:=by rw [wrap_i64] <;> omega
  have hrow:=qan hlt
  have hst:=hst hlt
  have hc:=qpj l[k].boxes 234 [.ptr 0 0] (fun b=>yV b p)
  have hbl:=hb _ (List.getElem_mem hlt)
  generalize hgs:(l.take k).foldl (Xc (qfA p)) (0,16)=s at *
  unfold slR at hrow hc
  simp [slU,hlt,hrow,JZ]
  have hs1:VI [YN p] (H ++ [.cells [.v (.sc (.int .i64 l[k].kind)),.v (.sc (.int .i64 l[k].roles)),.v (.sc (.int .i64 l[k].lo)),.v (.sc (.int .i64 l[k].hi)),.v (.sc (.int .i64 l[k].labels)),.v (.sl l[k].boxes.length 4 (l[k].boxes.flatMap Re.cs)),.v (.sc (.int .i64 l[k].zoom))]]):=hs.append
  have hid:=qab (H:=H) (b := .cells [.v (.sc (.int .i64 l[k].kind)),.v (.sc (.int .i64 l[k].roles)),.v (.sc (.int .i64 l[k].lo)),.v (.sc (.int .i64 l[k].hi)),.v (.sc (.int .i64 l[k].labels)),.v (.sl l[k].boxes.length 4 (l[k].boxes.flatMap Re.cs)),.v (.sc (.int .i64 l[k].zoom))])
  refine qc.of (hc _ hbl (gask p 0 _ (hs1.cells rfl))) ?_
  rintro y H2 ⟨rfl,h2⟩
  have hid2:=h2.cells hid
  have hany:(l[k].boxes.any fun b=>yV b p)=qfA p l[k]:=rfl
  rw [hany]
  cases e:qfA p l[k] with
  | false =>
   have e1:Xc (qfA p) s l[k]=s:=by simp [Xc,e]
   rw [e1] at hst
   simp [w1,hlt,slU]
   refine ⟨_,?_,hs1.trans h2,rfl⟩
   rw [hst]
   simp [qz,qj,qm,slU]
  | true =>
   by_cases h4:l[k].kind=4
   ·have e1:Xc (qfA p) s l[k]=(if s.1<l[k].zoom then l[k].zoom else s.1,s.2):=by
     simp [Xc,e,h4]
     split <;> omega
    rw [e1] at hst
    simp [w1,hlt,slU,hid2,h4]
    refine ⟨_,?_,hs1.trans h2,rfl⟩
    rw [hst]
    simp [qz,qj,qm,slU]
   ·have n4:(l[k].kind==4)=false:=by simpa using h4
    have e1:Xc (qfA p) s l[k]=(s.1,if l[k].zoom<s.2 then l[k].zoom else s.2):=by
     simp [Xc,e,h4]
     split <;> omega
    rw [e1] at hst
    simp [w1,hlt,slU,hid2,n4]
    refine ⟨_,?_,hs1.trans h2,rfl⟩
    rw [hst]
    simp [qz,qj,qm,slU]
 ·have hk':k=l.length:=by omega
  subst hk'
  simp [slU]
  unfold V7
  generalize l.foldl (Xc (qfA p)) (0,16)=s at *
  split <;> omega
def spn (r:Run Int):List V := [.sc (.int .i64 r.a),.sc (.int .i64 r.b),.sc (.int .i64 r.z)]
def qbz (rs:List (Run Int)):V := .sl rs.length 3 (rs.flatMap spn)
def qco (rs:List (Run Int)):SV := .own true 227 rs.length 3 (rs.flatMap spn)
theorem qlF (rs:List (Run Int)):V.closed (qbz rs)=true:=by simp [qbz,V.closed,zV (enc:=spn) (fun _=>rfl)]
theorem rowS {rs:List (Run Int)} {k:Nat} (h:k<rs.length):AM.rowAt 3 (rs.flatMap spn) (k:Int) = [.sc (.int .i64 rs[k].a),.sc (.int .i64 rs[k].b),.sc (.int .i64 rs[k].z)]:=WA (enc:=spn) (sz:=3) (fun _=>rfl) h
def qgG (l:List Ru) (y x:Int):Option Int:=qbT (V7 (qfA ⟨x,y⟩) l)
def Ws (l:List Ru) (xs:List Int) (y:Int):List (Run Int):=JI (qgG l y) xs (xs.length - 1)
theorem qlN (l:List Ru) (xs:List Int) (y:Int):(Ws l xs y).length≤xs.length:=by
 have:=qeM (f:=qgG l y) (xs:=xs) (xs.length - 1)
 unfold Ws
 omega
def setEnd (v:Int) (r:Run Int):Run Int := { r with b:=v }
theorem poke_end {R:List (Run Int)} {r:Run Int} {v:Int}:((R ++ [r]).flatMap spn).set (R.length*3+1) (.sc (.int .i64 v))=(R ++ [(⟨r.a,v,r.z⟩:Run Int)]).flatMap spn:=by
 have:=qmg (enc:=spn) (sz:=3) (o:=1) (v := .sc (.int .i64 v)) (f:=setEnd v) (fun _=>rfl) (by decide) (fun _=>rfl) (k:=R.length) (xs:=R ++ [r]) (by simp)
 rw [this,qo8]
 rfl
theorem lastAt {R:List (Run Int)} {r:Run Int} (o:Nat) (ho:o<3):((R ++ [r]).flatMap spn)[R.length*3+o]? = (spn r)[o]? := by
 have hl:=qav (enc:=spn) (sz:=3) (fun _=>rfl) R
 rw [List.flatMap_append,List.getElem?_append_right (by omega),hl]
 simp
theorem qjD {L:Type} [DecidableEq L] {f:Int→Option L} {xs:List Int}:∀ k,∀ r∈JI f xs k,r.a∈xs∧r.b+1∈xs
 | 0,r,h=>by simp [JI] at h
 | k+1,r,h=>by
  have ih:=qjD (f:=f) (xs:=xs) k
  rw [JI] at h
  split at h
  ·rename_i n m hn hm
   have hn:=List.mem_of_getElem? hn
   have hm:=List.mem_of_getElem? hm
   unfold Can.step at h
   split at h
   ·unfold push at h
    split at h
    ·rename_i q hq
     split at h
     ·rcases List.mem_append.1 h with h | h
      ·exact ih r (List.dropLast_subset _ h)
      ·simp at h
       subst h
       exact ⟨(ih q (List.mem_of_getLast? hq)).1,by simpa using hm⟩
     ·rcases List.mem_append.1 h with h | h
      ·exact ih r h
      ·simp at h
       subst h
       exact ⟨hn,by simpa using hm⟩
    ·simp at h
     subst h
     exact ⟨hn,by simpa using hm⟩
   ·exact ih r h
  ·exact ih r h
theorem qm9 {L:Type} [DecidableEq L] {f:Int→Option L} {xs:List Int} (hx:∀ x∈xs,0≤x∧x≤65536) (k:Nat):∀ r∈JI f xs k,-1≤r.b∧r.b≤65535:=fun r hr=>by
 have:=hx _ (qjD k r hr).2
 omega
def GrI (l:List Ru) (xs:List Int) (y:Int) (k:Nat) (F:Fr) (H:List Bk):Prop:=F = [(0,.v (slU l)),(1,.v (slI xs)),(2,.v (.sc (.int .i64 y))),(7,qco (JI (qgG l y) xs k)),(8,.v (.sc (.int .i64 k)))]
theorem labZ_no {n:Int} (h:qbT n=none):n=0:=by
 unfold qbT at h
 split at h
 ·assumption
 ·cases h
theorem grow' (l:List Ru) (xs:List Int) (y:Int) (hl:l.length≤9223372036854775807) (hb:∀ r∈l,r.boxes.length≤9223372036854775807) (hx:xs.length≤10000000) (hxr:∀ x∈xs,0≤x∧x≤65536) :
  PFn Tryz.prog 185 [slU l,slI xs,.sc (.int .i64 y)] (qbz (Ws l xs y)):=by
 have hZ:=fun p=>gzoom l p hl hb
 have c1:=yT l
 unfold Pt.v Pt.cs at hZ
 refine vwc (fn:=Tryz.f185) rfl (vwb ?_)
 simp only [Tryz.f185,ql]
 simp
 refine AW.count (xs.length - 1) (GrI l xs y) ⟨_,?_,rfl⟩ ?_
 ·simp [qz,qj,qm,JI,qco,qW]
 rintro k F H hk rfl
 refine vwb ?_
 have w1:IntKind.i64.wrap ((k:Int)+1)=(k:Int)+1:=by rw [wrap_i64] <;> omega
 by_cases hlt:k+1<xs.length
 ·have hlt1:k<xs.length:=by omega
  have hlt2:(k:Int)+1<xs.length:=by omega
  have hlt3:(k:Int)<xs.length:=by omega
  have hn:=qbE (f:=qgG l y) hlt
  have l1:=qeM (f:=qgG l y) (xs:=xs) k
  have hr1:=Kw hlt1
  have hr2:=Kw hlt
  have hr2':AM.rowAt 1 (ints xs) ((k:Int)+1) = [.sc (.int .i64 xs[k+1])]:=by simpa using hr2
  have hb2:=hxr _ (List.getElem_mem hlt)
  have wm:IntKind.i64.wrap (xs[k+1] - 1)=xs[k+1] - 1:=by rw [wrap_i64] <;> omega
  have hfin:∀ s,JI (qgG l y) xs (k+1)=s→GrI l xs y (k+1) [(0,.v (slU l)),(1,.v (slI xs)),(2,.v (.sc (.int .i64 y))),(7,qco s),(8,.v (.sc (.int .i64 (k+1:Nat))))] H:=fun s e=>by
   rw [GrI,e]
  have hbs:∀ r∈JI (qgG l y) xs k,-1≤r.b∧r.b≤65535:=qm9 hxr k
  generalize JI (qgG l y) xs k=R at *
  simp [slI,qco,w1,hlt2,hlt3,hlt1,hr1]
  refine qc.pure (hZ ⟨xs[k],y⟩) (by simp [V.qA,V.closed,c1]) rfl ?_
  unfold Can.step at hn
  cases hc:qgG l y xs[k] with
  | none =>
   rw [hc] at hn
   have hz:V7 (qfA ⟨xs[k],y⟩) l=0:=labZ_no hc
   simp [w1,hz]
   refine ⟨by omega,_,?_,hfin _ hn⟩
   simp [qz,qj,qm,slI,qco]
  | some z =>
   rw [hc] at hn
   have hz:V7 (qfA ⟨xs[k],y⟩) l=z∧z≠0:=by
    unfold qgG qbT at hc
    split at hc
    ·cases hc
    ·cases hc; exact ⟨rfl,by assumption⟩
   obtain ⟨hz,hz0⟩:=hz
   have hz0':(z==0)=false:=by simpa using hz0
   rw [hz]
   simp only at hn
   rcases List.eq_nil_or_concat R with rfl | ⟨R',r,rfl⟩
   ·have e:push ([]:List (Run Int)) xs[k] xs[k+1] z = [⟨xs[k],xs[k+1] - 1,z⟩]:=rfl
    rw [e] at hn
    have wm1:IntKind.i64.wrap (-1) = -1:=by decide
    simp [slI,qco,w1,hz0',wm1,hlt2,hlt3,hlt1,hr1,hr2',wm]
    refine ⟨by omega,by omega,_,?_,hfin _ hn⟩
    simp [qz,qj,qm,slI,qco,spn]
   ·rw [List.concat_eq_append] at *
    have hrb:=hbs r (by simp)
    rw [List.length_append,List.length_singleton] at l1
    have wl:IntKind.i64.wrap (((R' ++ [r]).length:Int) - 1)=(R'.length:Int):=by
     rw [List.length_append,List.length_singleton,wrap_i64] <;> omega
    have wb:IntKind.i64.wrap (r.b+1)=r.b+1:=by rw [wrap_i64] <;> omega
    have hr_1:((R' ++ [r]).flatMap spn)[R'.length*3+1]? = some (.sc (.int .i64 r.b)):=lastAt 1 (by decide)
    have hr_2:((R' ++ [r]).flatMap spn)[R'.length*3+2]? = some (.sc (.int .i64 r.z)):=lastAt 2 (by decide)
    have hlen:R'.length<(R' ++ [r]).length:=by simp
    have hlen0:(R' ++ [r]).length=R'.length+1:=by simp
    have hpk:=poke_end (R:=R') (r:=r) (v:=xs[k+1] - 1)
    have hfl:=qav (enc:=spn) (sz:=3) (fun _=>rfl) (R' ++ [r])
    by_cases hp:r.b+1=xs[k]∧r.z=z
    ·rw [qjK hp.1 hp.2] at hn
     rw [hp.2] at hr_2 hpk
     rw [hp.1] at wb
     have hp1:=hp.1
     clear hp hbs
     have hnl:(R' ++ [(⟨r.a,xs[k+1] - 1,z⟩:Run Int)]).length=(R' ++ [r]).length:=by simp
     generalize R' ++ [r]=R at *
     generalize R' ++ [(⟨r.a,xs[k+1] - 1,z⟩:Run Int)]=R2 at *
     simp [slI,qco,w1,wl,hp1,wb,hz0',hr_1,hr_2,hlen,hlt2,hlt3,hlt1,hr1,hr2',wm]
     refine ⟨by omega,by simp at hfl; omega,by omega,_,?_,hfin _ hn⟩
     simp [qz,qj,qm,slI,qco,← hpk,hnl]
     rw [List.set_eq_take_append_cons_drop,if_pos (by rw [hfl]; omega)]
     first | exact .inl rfl | skip
    ·have hq:push (R' ++ [r]) xs[k] xs[k+1] z=R' ++ [r] ++ [⟨xs[k],xs[k+1] - 1,z⟩]:=qig fun A q e h1 h2=>by
      obtain ⟨_,rfl⟩:=qmy e
      exact hp ⟨h1,h2⟩
     rw [hq] at hn
     clear hbs hpk
     by_cases hz1:r.z=z
     ·have hz2:r.b+1≠xs[k]:=fun h=>hp ⟨h,hz1⟩
      have hz2':(r.b+1==xs[k])=false:=by simpa using hz2
      rw [hz1] at hr_2
      generalize R' ++ [r]=R at *
      simp [slI,qco,w1,wl,wb,hz2',hz0',hr_1,hr_2,hlen,hlt2,hlt3,hlt1,hr1,hr2',wm]
      refine ⟨by omega,by omega,by omega,_,?_,hfin _ hn⟩
      simp [qz,qj,qm,slI,qco,spn]
     ·have hz1':(r.z==z)=false:=by simpa using hz1
      generalize R' ++ [r]=R at *
      simp [slI,qco,w1,wl,hz1',hz0',hr_1,hr_2,hlen,hlt2,hlt3,hlt1,hr1,hr2',wm]
      refine ⟨by omega,by omega,by omega,_,?_,hfin _ hn⟩
      simp [qz,qj,qm,slI,qco,spn]
 ·have hk':k=xs.length - 1:=by omega
  have hlt2:¬ (k:Int)+1<xs.length:=by omega
  simp [slI,w1,hlt2,qco]
  unfold Ws qbz
  rw [← hk']
theorem eqSp (a b c a' b' c':Int):eqT Tryz.prog 10 227 (.agg #[.int .i64 a,.int .i64 b,.int .i64 c]) (.agg #[.int .i64 a',.int .i64 b',.int .i64 c'])=some (a==a'&&(b==b'&&(c==c'&&true))):=by kernel_rfl
theorem gSp:Tryz.prog.eqGuardType Tryz.prog.depth 227=false:=by kernel_rfl
theorem sp_eq {a b:Run Int}:a=b↔a.a=b.a∧a.b=b.b∧a.z=b.z:=by
 cases a; cases b; simp
def EsI (xs ys:List (Run Int)) (k:Nat) (F:Fr) (H:List Bk):Prop:=xs.take k=ys.take k∧H = []∧F = [(0,.v (qbz xs)),(1,.v (qbz ys)),(12,.v (.sc (.int .i64 xs.length))),(13,.v (.sc (.int .i64 k)))]
theorem eqSpans (xs ys:List (Run Int)) (hx:xs.length≤1000000000):PFn Tryz.prog 186 [qbz xs,qbz ys] (.sc (.bool (decide (xs=ys)))):=by
 refine vwc (fn:=Tryz.f186) rfl (vwb ?_)
 simp only [Tryz.f186,ql]
 simp [qbz]
 by_cases hl:xs.length=ys.length
 ·simp [qbz,hl]
  refine AW.count xs.length (EsI xs ys) ⟨_,?_,by simp,rfl,rfl⟩ ?_
  ·simp [qz,qj,qm,qbz,hl]
  rintro k F H hk ⟨ht,rfl,rfl⟩
  refine vwb ?_
  by_cases hlt:k<xs.length
  ·have hlt':k<ys.length:=by omega
   have w1:IntKind.i64.wrap ((k:Int)+1)=(k:Int)+1:=by rw [wrap_i64] <;> omega
   simp [qbz,hlt,hlt',rowS,eqSp,gSp,w1]
   refine gd.intro (fun e => ?_) (fun e => ?_)
   ·have:¬ xs=ys:=fun e'=>by
     subst e'
     simp at e
    simp [this]
   ·have he:xs[k]=ys[k]:=by
     rw [sp_eq]
     simpa using e
    refine ⟨_,?_,?_,rfl,rfl⟩
    ·simp [qz,qj,qm,qbz,hl]
    ·rw [List.take_succ_eq_append_getElem hlt,List.take_succ_eq_append_getElem hlt',ht,he]
  ·have hk':k=xs.length:=by omega
   have he:xs=ys:=by
    rw [hk',List.take_length,hl,List.take_length] at ht
    exact ht
   simp [qbz,hlt]
   exact he
 ·have:¬ xs=ys:=fun e=>hl (by rw [e])
  have hl':((xs.length:Int) != ys.length)=true:=by simp; omega
  simp [hl',this]
def pcs (q:Rc Int):List V := [.sc (.int .i64 q.x0),.sc (.int .i64 q.y0),.sc (.int .i64 q.x1),.sc (.int .i64 q.y1),.sc (.int .i64 q.z)]
def slP (qs:List (Rc Int)):V := .sl qs.length 5 (qs.flatMap pcs)
def qdG (qs:List (Rc Int)):SV := .own true 168 qs.length 5 (qs.flatMap pcs)
theorem qm6 (qs:List (Rc Int)):V.closed (slP qs)=true:=by simp [slP,V.closed,zV (enc:=pcs) (fun _=>rfl)]
theorem qg9 {qs:List (Rc Int)} {k:Nat} (h:k<qs.length):AM.rowAt 5 (qs.flatMap pcs) (k:Int) = [.sc (.int .i64 qs[k].x0),.sc (.int .i64 qs[k].y0),.sc (.int .i64 qs[k].x1),.sc (.int .i64 qs[k].y1),.sc (.int .i64 qs[k].z)]:=WA (enc:=pcs) (sz:=5) (fun _=>rfl) h
theorem qoa {H:List Bk} {id:Nat} {x y:SV} (h:H[id]? = some (.cells [x])):qo H id 0 y=H.set id (.cells [y]):=by rw [qgo h]; rfl
def TeI (y0 y1:Int) (R:List (Run Int)) (out:List (Rc Int)) (id:Nat) (H0:List Bk) (k:Nat) (F:Fr) (H:List Bk):Prop:=H[id]? = some (.cells [qdG (out++(R.take k).map (qhv y0 y1))])∧YE id H0 H ∧
 F = [(0,.v (.sc (.int .i64 y0))),(1,.v (.sc (.int .i64 y1))),(3,.v (.ptr id 0)),(9,.v (qbz R)),(10,.v (.sc (.int .i64 R.length))),(11,.v (.sc (.int .i64 k)))]
theorem gtell (y0 y1:Int) (R:List (Run Int)) (out:List (Rc Int)) (id:Nat) (H:List Bk) (h:H[id]? = some (.cells [qdG out])) (hn:out.length+R.length≤1000000000000) :
  AFn Tryz.prog 153 [.sc (.int .i64 y0),.sc (.int .i64 y1),qbz R,.ptr id 0] H fun y H'=>H'[id]? = some (.cells [qdG (out++R.map (qhv y0 y1))])∧YE id H H':=by
 refine vwc (fn:=Tryz.f153) rfl (vwb ?_)
 simp only [Tryz.f153,ql]
 simp [qbz]
 refine AW.count R.length (TeI y0 y1 R out id H) ⟨_,?_,by simpa using h,.refl,rfl⟩ ?_
 ·simp [qz,qj,qm,qbz]
 rintro k F H1 hk ⟨hid,hs,rfl⟩
 refine vwb ?_
 by_cases hlt:k<R.length
 ·have w1:IntKind.i64.wrap ((k:Int)+1)=(k:Int)+1:=by rw [wrap_i64] <;> omega
  have hrow:=rowS hlt
  have hst:out++(R.take (k+1)).map (qhv y0 y1)=out++(R.take k).map (qhv y0 y1) ++ [qhv y0 y1 R[k]]:=by rw [List.take_succ_eq_append_getElem hlt,List.map_append,← List.append_assoc]; rfl
  have hlo:(out++(R.take k).map (qhv y0 y1)).length≤1000000000000:=by
   rw [List.length_append,List.length_map,List.length_take]
   omega
  unfold TeI
  rw [hst]
  generalize out++(R.take k).map (qhv y0 y1)=o at *
  have hne:id≠H1.length:=Nat.ne_of_lt (List.getElem?_eq_some_iff.1 hid).1
  have hb:=qab (H:=H1) (b := .cells [.v (.sc (.int .i64 R[k].a)),.v (.sc (.int .i64 R[k].b)),.v (.sc (.int .i64 R[k].z))])
  have hid2:=qce (L := [.cells [.v (.sc (.int .i64 R[k].a)),.v (.sc (.int .i64 R[k].b)),.v (.sc (.int .i64 R[k].z))]]) hid
  have hs2:=hs.append (L := [.cells [.v (.sc (.int .i64 R[k].a)),.v (.sc (.int .i64 R[k].b)),.v (.sc (.int .i64 R[k].z))]])
  have q1:=qoa (y := .any) hid2
  have q2:=fun X=>setSelf (k:=X) hid2
  have q3:=setOther hb hne
  have q3':=fun X h=>(List.getElem_eq_iff (i:=H1.length) h).2 (q3 X)
  have q4:=fun y=>(qoa (y:=y) (q2 (.cells [.any]))).trans (List.set_set ..)
  unfold qdG at hid2
  simp [qbz,hlt,hrow,JZ,hid2,qdG,q1,q2,q3,q3',q4,w1]
  refine ⟨by omega,_,?_,rfl,hs2.trans .set,rfl⟩
  simp [qz,qj,qm]
 ·have hk':k=R.length:=by omega
  subst hk'
  rw [List.take_length] at hid
  simp [qbz]
  exact ⟨hid,hs⟩
theorem qlP {xs:List Int} (h:xs.Pairwise (· < ·)) (h0:∀ x∈xs,0≤x):∀ (i:Nat) (hi:i<xs.length),(i:Int)≤xs[i]
 | 0,hi=>by have:=h0 _ (List.getElem_mem hi); simpa using this
 | i+1,hi=>by
  have h1:=qlP h h0 i (by omega)
  have h2:=qcm h (i:=i) (j:=i+1) (by omega) hi (by omega)
  omega
theorem qoX {xs:List Int} {n:Nat} (h:xs.Pairwise (· < ·)) (h0:∀ x∈xs,0≤x∧x≤n):xs.length≤n+1:=by
 by_cases hl:xs.length=0
 ·omega
 have h1:=qlP h (fun x hx=>(h0 x hx).1) (xs.length - 1) (by omega)
 have h2:=(h0 _ (List.getElem_mem (l:=xs) (n:=xs.length - 1) (by omega))).2
 omega
def XQ (l:List Ru) (d:Bool):List Int:=qek (Wp d (qg l))
theorem qiR {l:List Ru} (hr:∀ b∈qg l,qd b=true) (d:Bool):∀ x∈XQ l d,0≤x∧x≤65536:=fun x hx=>by
 obtain ⟨b,hb,h⟩:=qgO.1 (((VL _).2 x).1 hx)
 have:=qF.1 (hr b hb)
 unfold lo hi at h
 cases d <;> simp at h <;> omega
theorem qeW {l:List Ru} (hr:∀ b∈qg l,qd b=true) (d:Bool):(XQ l d).length≤65537:=qoX (n:=65536) (VL _).1 (qiR hr d)
def qlY (R:Int→List (Run Int)) (ys:List Int) (k:Nat):List (Rc Int):=emit (JI (Xq R) ys k)
def qo6 (l:List Ru):List (Rc Int):=qlY (Ws l (XQ l false)) (XQ l true) ((XQ l true).length - 1)
def BoI (l:List Ru) (xs ys:List Int) (id:Nat) (H0:List Bk) (n:Nat) (F:Fr) (H:List Bk):Prop:=∃ i,(∀ hi:i<ys.length,∀ j,∀ hj:j<ys.length,i=j+1→i+1<ys.length→Ws l xs ys[j]≠Ws l xs ys[i])∧i≤ys.length - 1∧n=ys.length - i ∧
 H[id]? = some (.cells [qdG (qlY (Ws l xs) ys i)])∧YE id H0 H ∧
 F = [(0,.v (slU l)),(1,.v (.fn (.func 153) [] [.ptr id 0])),(4,.v (slI xs)),(5,.v (slI ys)),(6,.v (.sc (.int .i64 i)))]
def BkI (l:List Ru) (xs ys:List Int) (id:Nat) (H1:List Bk) (i:Nat) (hi:i<ys.length) (n:Nat) (F:Fr) (H:List Bk):Prop:=∃ k,∃ hk:k<ys.length,n=ys.length - k∧i<k∧(∀ j,∀ hj:j<ys.length,i≤j→j<k→Ws l xs ys[j]=Ws l xs ys[i])∧H=H1 ∧
 F = [(0,.v (slU l)),(1,.v (.fn (.func 153) [] [.ptr id 0])),(4,.v (slI xs)),(5,.v (slI ys)),(6,.v (.sc (.int .i64 i))),(7,.v (qbz (Ws l xs ys[i]))),(8,.v (.sc (.int .i64 k)))]
theorem gbands (l:List Ru) (hl:l.length≤1000000) (hn:(qg l).length≤1048576) (hr:∀ b∈qg l,qd b=true) (id:Nat) (H:List Bk) (h:H[id]? = some (.cells [qdG []])) :
  AFn Tryz.prog 152 [slU l,.fn (.func 153) [] [.ptr id 0]] H fun y H'=>H'[id]? = some (.cells [qdG (qo6 l)])∧YE id H H':=by
 have hb:∀ r∈l,r.boxes.length≤9223372036854775807:=fun r hr=>by
  have h1:r.boxes.length≤(qg l).length:=by
   obtain ⟨s,t,rfl⟩:=List.append_of_mem hr
   simp [qg]
   omega
  omega
 have hEx:=gedges _ _ gbX l hl hn hr
 have hEy:=gedges _ _ gbY l hl hn hr
 have c1:=yT l
 have hinx:=qiR hr false
 have hiny:=qiR hr true
 have hlx:=qeW hr false
 have hly:=qeW hr true
 have hsx:(XQ l false).Pairwise (· < ·):=(VL _).1
 have hsy:(XQ l true).Pairwise (· < ·):=(VL _).1
 unfold qo6
 change PFn _ _ _ (slI (XQ l false)) at hEx
 change PFn _ _ _ (slI (XQ l true)) at hEy
 have cx:=J6 (XQ l false)
 have cy:=J6 (XQ l true)
 refine vwc (fn:=Tryz.f152) rfl (vwb ?_)
 simp only [Tryz.f152,ql]
 simp
 refine qc.pure hEx (by simp [V.qA,V.closed,c1]) cx ?_
 simp
 refine qc.pure hEy (by simp [V.qA,V.closed,c1]) cy ?_
 clear hEx hEy
 generalize XQ l false=xs at *
 generalize XQ l true=ys at *
 have hR:=fun y=>grow' l xs y (by omega) hb (by omega) hinx
 have hRl:=fun y=>qlN l xs y
 have cR:=fun y=>qlF (Ws l xs y)
 have hOl:=fun k=>qmn (R:=Ws l xs) (ys:=ys) hRl k
 have hmul:∀ k,k≤ys.length→k*xs.length≤5000000000:=fun k hk=>Nat.le_trans (Nat.mul_le_mul (show k≤65537 by omega) hlx) (by omega)
 simp
 refine AW.qaZ (BoI l xs ys id H) ⟨_,_,?_,0,fun hi j hj e=>by omega,by omega,rfl,?_,.refl,rfl⟩ ?_
 ·simp [qz,qj,qm]
 ·simpa [qlY,JI,emit] using h
 rintro n F H1 ⟨i,hnew,hi0,rfl,hid,hst,rfl⟩
 refine vwb ?_
 have w1:IntKind.i64.wrap ((i:Int)+1)=((i+1:Nat):Int):=by rw [wrap_i64] <;> omega
 by_cases hlt:i+1<ys.length
 rotate_left
 ·have hii:i=ys.length - 1:=by omega
  have hlt':¬ (i:Int)+1<ys.length:=by omega
  simp [slI,w1,hlt',hlt]
  rw [← hii]
  exact ⟨hid,hst⟩
 have hi:i<ys.length:=by omega
 have hlt':(i:Int)+1<ys.length:=by omega
 have hri:=Kw hi
 simp [slI,w1,hlt',hlt,hi,hri]
 refine qc.pure (hR _) (by simp [V.qA,V.closed,c1,slI,qa6]) (cR _) ?_
 simp [slI,w1,hlt',hlt,hi,hri]
 refine AW.qaZ (BkI l xs ys id H1 i hi) ⟨_,_,?_,i+1,hlt,rfl,by omega,fun j hj h1 h2=>by
  have:j=i:=by omega
  subst this
  rfl,rfl,rfl⟩ ?_
 ·simp [qz,qj,qm,slI,w1]
 rintro n F H2 ⟨k,hk,rfl,hik,hsame,rfl,rfl⟩
 refine vwb ?_
 have wk:IntKind.i64.wrap ((k:Int)+1)=((k+1:Nat):Int):=by rw [wrap_i64] <;> omega
 have hrk:=Kw hk
 have hbk:=hiny _ (List.getElem_mem hk)
 have wv:IntKind.i64.wrap (ys[k] - 1)=ys[k] - 1:=by rw [wrap_i64] <;> omega
 have hal:=fun y y'=>eqSpans (Ws l xs y) (Ws l xs y') (Nat.le_trans (hRl y) (by omega))
 have cLs:=fun y y'=>(show V.qA [qbz (Ws l xs y),qbz (Ws l xs y')]=true by simp [V.qA,cR])
 by_cases hgo:k+1<ys.length∧Ws l xs ys[i]=Ws l xs ys[k]
 ·obtain ⟨hg1,hg2⟩:=hgo
  have hg1':(k:Int)+1<ys.length:=by omega
  have halk:=hal ys[i] ys[k]
  rw [decide_eq_true hg2] at halk
  simp [slI,wk,hg1,hg1',hk,hrk]
  refine qc.pure (hR _) (by simp [V.qA,V.closed,c1,slI,qa6]) (cR _) ?_
  simp
  refine qc.pure halk (cLs _ _) rfl ?_
  simp [wk]
  refine ⟨ys.length - (k+1),by omega,_,?_,k+1,hg1,rfl,by omega,fun j hj h1 h2 => ?_,rfl,rfl⟩
  ·simp [qz,qj,qm,slI]
  ·by_cases e:j=k
   ·subst e; exact hg2.symm
   ·exact hsame j hj h1 (by omega)
 have hfin:qlY (Ws l xs) ys k=qlY (Ws l xs) ys i++(Ws l xs ys[i]).map (qhv ys[i] (ys[k] - 1)) :=
  qk7 hsy hik hk (fun j hj e=>hnew hi j hj e hlt) (fun j hj h1 h2=>hsame j hj h1 h2)
 have hnew2:∀ hk:k<ys.length,∀ j,∀ hj:j<ys.length,k=j+1→k+1<ys.length→Ws l xs ys[j]≠Ws l xs ys[k]:=fun _ j hj e h1 e2=>hgo ⟨h1,by rw [← e2]; exact (hsame j hj (by omega) (by omega)).symm⟩
 have hT:=gtell ys[i] (ys[k] - 1) (Ws l xs ys[i]) (qlY (Ws l xs) ys i) id _ hid (by
  have h1:=hOl i
  have h2:=hmul i (by omega)
  have h3:=hRl ys[i]
  unfold qlY
  omega)
 rw [← hfin] at hT
 by_cases hk1:k+1<ys.length
 case' pos =>
  have hg1':(k:Int)+1<ys.length:=by omega
  have halk:=hal ys[i] ys[k]
  rw [decide_eq_false (fun e=>hgo ⟨hk1,e⟩)] at halk
  simp [slI,wk,hk1,hg1',hk,hrk]
  refine qc.pure (hR _) (by simp [V.qA,V.closed,c1,slI,qa6]) (cR _) ?_
  simp
  refine qc.pure halk (cLs _ _) rfl ?_
  simp [wk,slI,hi,hk,hri,hrk,wv]
 case' neg =>
  have hg1':¬ (k:Int)+1<ys.length:=by omega
  simp [slI,wk,hk1,hg1',hi,hk,hri,hrk,wv]
 all_goals
  refine qc.of hT ?_
  rintro y H3 ⟨hid3,hst3⟩
  simp [slI]
  refine ⟨ys.length - k,by omega,_,?_,k,hnew2,by omega,rfl,hid3,hst.trans hst3,rfl⟩
  simp [qz,qj,qm,slI]
theorem gcloneB (bs:List Re) (hl:bs.length≤4398046511104):PFn Tryz.prog 89 [slR bs] (slR bs):=by
 have h:AFn Tryz.prog 89 [slR bs] [] fun y _=>y=slR bs∨(y = .nil∧bs = []):=by
  refine vwc (fn:=Tryz.f89) rfl (vwb ?_)
  simp only [Tryz.f89,ql]
  simp [slR]
  exact ⟨by omega,by omega⟩
 refine h.conv fun y H' hy=>⟨_,rfl,fun I φ v hv => ?_⟩
 rcases hy with rfl | ⟨rfl,rfl⟩
 ·exact hv
 ·exact qaO hv
structure Tab (H:List Bk) (t m:Nat) (l:List Ru) (es:List (Value×V)):Prop where
 t:H[t]? = some (.cells [.v (slU l),.v (.map m)])
 m:H[m]? = some (.map es)
theorem Tab.ne {H:List Bk} {t m:Nat} {l:List Ru} {es:List (Value×V)} (h:Tab H t m l es):t≠m:=by
 rintro rfl
 have:=h.t.symm.trans h.m
 simp at this
theorem Tab.stays {H H':List Bk} {t m:Nat} {l:List Ru} {es:List (Value×V)} (h:Tab H t m l es) (hs:VI H H'):Tab H' t m l es:=⟨hs.cells h.t,hs.map h.m⟩
def zcU:List V := [.sc (.int .i64 0),.sc (.int .i64 0),.sc (.int .i64 0),.sc (.int .i64 0),.sc (.int .i64 0),.nil,.sc (.int .i64 0)]
def qkR (l:List Ru) (k:Nat):List V:=(l.take k).flatMap Ru.cs++jT (l.length - k) zcU
theorem preU_len {l:List Ru} {k:Nat} (h:k≤l.length):(qkR l k).length=l.length*7:=by
 have h1:=qav (enc:=Ru.cs) (sz:=7) (fun _=>rfl) (l.take k)
 have h2:(jT (l.length - k) zcU).length=(l.length - k)*7:=by simp [jT,zcU]
 unfold qkR
 rw [List.length_append,h1,h2,List.length_take]
 omega
theorem preU_put {l:List Ru} {k:Nat} (h:k<l.length):(qkR l k).take (k*7)++l[k].cs++(qkR l k).drop (k*7+7)=qkR l (k+1):=by
 have h1:=qav (enc:=Ru.cs) (sz:=7) (fun _=>rfl) (l.take k)
 have e:l.length - k=(l.length - (k+1))+1:=by omega
 unfold qkR
 rw [e,qls,qb1 h,List.append_assoc ((l.take k).flatMap Ru.cs)]
 exact putRowV (A:=(l.take k).flatMap Ru.cs) (x:=l[k].cs) (z:=zcU) (B:=jT (l.length - (k+1)) zcU) (k:=k*7) (by rw [h1,List.length_take]; congr 1; omega) rfl
def NwI (l:List Ru) (H0:List Bk) (k:Nat) (F:Fr) (H:List Bk):Prop:=(VI H0 H∧H0.length≤H.length)∧F = [(4,.own true 95 l.length 7 (qkR l k)),(18,.v (slU l)),(19,.v (.sc (.int .i64 l.length))),(20,.v (.sc (.int .i64 k)))]
theorem gnew (l:List Ru) (hl:l.length≤32) (hb:∀ r∈l,r.boxes.length≤4398046511104) (hr:l.all qI=true) (H:List Bk) :
  AFn Tryz.prog 40 [slU l] H fun y H'=>∃ t m,y = .tup [.ptr t 0,.sc (.int .i64 0)]∧Tab H' t m l []∧H.length≤t∧H.length≤m∧VI H H':=by
 have hR:=uRight l (by omega) (fun r h=>by have:=hb r h; omega)
 rw [hr] at hR
 have c1:=yT l
 unfold slU at c1
 have n1:¬ (l.length:Int)>32:=by omega
 refine vwc (fn:=Tryz.f40) rfl (vwb ?_)
 simp only [Tryz.f40,ql]
 simp [slU,n1]
 refine qc.pure hR (by simp [V.qA,c1]) rfl ?_
 simp [slU]
 refine ⟨⟨by omega,by omega⟩,?_⟩
 refine AW.count l.length (NwI l H) ⟨_,?_,⟨.refl,Nat.le_refl _⟩,rfl⟩ ?_
 ·simp [qz,qj,qm,slU,zcU,jT,qkR]
 rintro k F H1 hk ⟨⟨hs,hsl⟩,rfl⟩
 refine vwb ?_
 have hpl:=preU_len hk
 by_cases hlt:k<l.length
 ·have w1:IntKind.i64.wrap ((k:Int)+1)=(k:Int)+1:=by rw [wrap_i64] <;> omega
  have hrow:=qan hlt
  have hput:=preU_put hlt
  have hC:=gcloneB l[k].boxes (hb _ (List.getElem_mem hlt))
  have hc:=qbA l[k].boxes
  unfold slR at hrow hC hc
  simp [slU,hlt,hrow,JZ]
  refine qc.pure hC (by simp [V.qA,hc]) hc ?_
  simp [Ru.cs,slR] at hput
  simp [slU,hlt,setP,w1,hpl]
  refine ⟨by omega,_,?_,⟨hs.append,by simp; omega⟩,rfl⟩
  rw [← hput]
  simp [qz,qj,qm,slU]
 ·have hk':k=l.length:=by omega
  subst hk'
  simp [slU,qkR,jT]
  refine ⟨H1.length,⟨by simp [slU],by simp⟩,by omega,hsl,hs.append⟩
def keyW (ro ti la:Int):Value := .agg #[.int .i64 ro,.int .i64 ti,.int .i64 la]
def qaa (l:List Ru) (ro ti la:Int):List Ru:=l.filter fun r=>XO r ro ti la
def Vq (l:List Ru) (ro ti la:Int):List (Rc Int):=qo6 (qaa l ro ti la)
def VO (l:List Ru) (es:List (Value×V)):Prop:=∀ e∈es,∃ ro ti la,e=(keyW ro ti la,slP (Vq l ro ti la))
theorem wsame3 (a b c a' b' c':Int):KY [.int .i64 a,.int .i64 b,.int .i64 c] [.int .i64 a',.int .i64 b',.int .i64 c']=some (a==a'&&(b==b'&&(c==c'&&true))):=by simp [KY]
theorem qlw {l:List Ru} {ro ti la:Int}:∀ {es:List (Value×V)} {i:Nat},VO l es→wgo [.int .i64 ro,.int .i64 ti,.int .i64 la] es i=some none∨∃ j,wgo [.int .i64 ro,.int .i64 ti,.int .i64 la] es i=some (some (j,slP (Vq l ro ti la)))
 | [],_,_ => .inl rfl
 | e::es,i,h=>by
  obtain ⟨a,b,c,rfl⟩:=h e (by simp)
  have ih:=qlw (l:=l) (ro:=ro) (ti:=ti) (la:=la) (es:=es) (i:=i+1) fun e he=>h e (by simp [he])
  unfold keyW
  simp only [wgo,wsame3]
  cases hb:(ro==a&&(ti==b&&(la==c&&true))) with
  | true =>
   simp at hb
   obtain ⟨rfl,rfl,rfl⟩:=hb
   exact .inr ⟨_,rfl⟩
  | false=>exact ih
theorem wideKey:qg2 Tryz.prog 221=some 3:=by kernel_rfl
theorem qoU {l:List Ru} {ro ti la:Int} {es:List (Value×V)} (h:VO l es):qjs Tryz.prog 221 (.agg #[.int .i64 ro,.int .i64 ti,.int .i64 la]) es=some none∨∃ j,qjs Tryz.prog 221 (.agg #[.int .i64 ro,.int .i64 ti,.int .i64 la]) es=some (some (j,slP (Vq l ro ti la))):=by
 have e:qjs Tryz.prog 221 (.agg #[.int .i64 ro,.int .i64 ti,.int .i64 la]) es=wgo [.int .i64 ro,.int .i64 ti,.int .i64 la] es 0:=by
  unfold qjs
  rw [wideKey]
  rfl
 rw [e]
 exact qlw h
theorem qmh {α:Type} {q:α→Bool} {xs:List α} {k:Nat} (h:k<xs.length):(xs.take (k+1)).filter q=if q xs[k]=true then (xs.take k).filter q ++ [xs[k]] else (xs.take k).filter q:=by
 rw [List.take_succ_eq_append_getElem h,List.filter_append]
 cases hq:q xs[k] <;> simp [hq]
def kcs (ro ti la:Int):Bk := .cells [.v (.sc (.int .i64 ro)),.v (.sc (.int .i64 ti)),.v (.sc (.int .i64 la))]
def PtI (l:List Ru) (ro ti la:Int) (t:Nat) (H0:List Bk) (k:Nat) (F:Fr) (H:List Bk):Prop:=VE (H0 ++ [kcs ro ti la]) H∧F = [(0,.v (.ptr t 0)),(1,.v (.sc (.int .i64 ro))),(2,.v (.sc (.int .i64 ti))),(3,.v (.sc (.int .i64 la))),(9,.v (.ptr H0.length 0)),(12,qkU ((l.take k).filter fun r=>XO r ro ti la)),(34,.v (slU l)),(35,.v (.sc (.int .i64 l.length))),(36,.v (.sc (.int .i64 k)))]
theorem qfB {l:List Ru} {ro ti la:Int}:∀ b∈qg (qaa l ro ti la),qd b=true:=fun b hb=>by
 obtain ⟨r,hr,hb⟩:=List.mem_flatMap.1 hb
 have h:=(List.mem_filter.1 hr).2
 unfold XO qI at h
 split at h
 ·rename_i h6
  simp [h6] at h
 ·simp at h
  exact h.1.1.1.1.1.1.1.2 b hb
theorem qhw {l:List Ru} {q:Ru→Bool}:(qg (l.filter q)).length≤(qg l).length:=by
 induction l with
 | nil=>simp [qg]
 | cons r l ih =>
  unfold qg at ih ⊢
  rw [List.filter_cons]
  split
  ·simp only [List.flatMap_cons,List.length_append]; omega
  ·simp only [List.flatMap_cons,List.length_append]; omega
theorem qoK:zeroV Tryz.prog 165=some .nil:=by kernel_rfl
theorem qa3 (l:List Ru) (ro ti la:Int) (hl:l.length≤1000000) (hn:(qg l).length≤1048576) (t m:Nat) (es:List (Value×V)) (H:List Bk) (hT:Tab H t m l es) (hM:VO l es) :
  AFn Tryz.prog 105 [.ptr t 0,.sc (.int .i64 ro),.sc (.int .i64 ti),.sc (.int .i64 la)] H fun y H'=>y=slP (Vq l ro ti la)∧∃ es',Tab H' t m l es'∧VO l es'∧vI m H H':=by
 have ht:=hT.t
 have hm:=hT.m
 have ht':=fun L=>qce (L:=L) ht
 have hm':=fun L=>qce (L:=L) hm
 have hbl:∀ r∈l,r.boxes.length≤9223372036854775807:=fun r hr=>by
  have h1:r.boxes.length≤(qg l).length:=by
   obtain ⟨s,t,rfl⟩:=List.append_of_mem hr
   simp [qg]
   omega
  omega
 rcases qoU (ro:=ro) (ti:=ti) (la:=la) hM with hs | ⟨j,hs⟩
 rotate_left
 ·
  refine vwc (fn:=Tryz.f105) rfl (vwb ?_)
  simp only [Tryz.f105,ql]
  simp [JZ,ht,hm,ht',hm',hs,slP,qoK]
  exact ⟨es,⟨ht' _,hm' _⟩,hM,.app⟩
 ·
  refine vwc (fn:=Tryz.f105) rfl ?_
  simp only [Tryz.f105,ql]
  refine AW.seq (vwb ?_)
  simp [JZ,ht,hm,ht',hm',hs,slU,qoK]
  refine AW.seq (vwb ?_)
  simp [JZ,ht,hm,ht',hm',hs,slU,qoK]
  refine AW.seq (vwb ?_)
  simp [JZ,ht,hm,ht',hm',hs,slU,qoK]
  refine AW.seq (vwb ?_)
  simp [JZ,ht,hm,ht',hm',hs,slU,qoK]
  refine AW.seq (vwb ?_)
  simp [JZ,ht,hm,ht',hm',hs,slU,qoK]
  refine AW.count l.length (PtI l ro ti la t H) ⟨_,?_,.refl,rfl⟩ ?_
  ·simp [qz,qj,qm,slU,qkU,qW]
  rintro k F H1 hk ⟨hst,rfl⟩
  refine vwb ?_
  by_cases hlt:k<l.length
  ·have w1:IntKind.i64.wrap ((k:Int)+1)=(k:Int)+1:=by rw [wrap_i64] <;> omega
   have hrow:=qan hlt
   have hF:=ufor l[k] ro ti la (hbl _ (List.getElem_mem hlt))
   have hsc:=qmh (q:=fun r=>XO r ro ti la) hlt
   have cv:V.qA [l[k].v]=true:=by simp [V.qA,V.closed,Ru.v,YL]
   have hfl:((l.take k).filter fun r=>XO r ro ti la).length≤1000000:=by
    have h1:=List.length_filter_le (fun r=>XO r ro ti la) (l.take k)
    rw [List.length_take] at h1
    omega
   generalize (l.take k).filter (fun r=>XO r ro ti la)=ms at *
   unfold Ru.v Ru.cs at hF cv
   unfold slR at hrow hF cv
   have hb:=qab (H:=H1) (b := .cells [.v (.sc (.int .i64 l[k].kind)),.v (.sc (.int .i64 l[k].roles)),.v (.sc (.int .i64 l[k].lo)),.v (.sc (.int .i64 l[k].hi)),.v (.sc (.int .i64 l[k].labels)),.v (.sl l[k].boxes.length 4 (l[k].boxes.flatMap Re.cs)),.v (.sc (.int .i64 l[k].zoom))])
   simp [slU,hlt,hrow,JZ,qkU]
   refine qc.pure hF (by simpa [V.qA,V.closed] using cv) rfl ?_
   cases hq:XO l[k] ro ti la with
   | true =>
    simp [slU,qkU,w1,hb]
    refine ⟨by omega,_,?_,hst.append,rfl⟩
    rw [hsc,if_pos hq]
    simp [qz,qj,qm,slU,qkU,Ru.cs,slR]
   | false =>
    simp [slU,qkU,w1]
    refine ⟨_,?_,hst.append,rfl⟩
    rw [hsc,if_neg (by rw [hq]; decide)]
    simp [qz,qj,qm,slU,qkU]
  ·have hk':k=l.length:=by omega
   subst hk'
   rw [List.take_length]
   have e:(l.filter fun r=>XO r ro ti la)=qaa l ro ti la:=rfl
   rw [e]
   simp [slU,qkU]
   refine AW.seq (vwb ?_)
   simp
   refine AW.seq (vwb ?_)
   simp [slU,qkU]
   have hb1:=qab (H:=H1) (b := .cells [.v .nil])
   have hlt1:H1.length<(H1 ++ [Bk.cells [.v .nil]]).length:=by simp
   have hB:=gbands (qaa l ro ti la) (by have:=List.length_filter_le (fun r=>XO r ro ti la) l; unfold qaa; omega) (Nat.le_trans qhw hn) qfB H1.length (qo (H1 ++ [Bk.cells [.v .nil]]) H1.length 0 (qdG [])) (by
    rw [zF hb1]
    exact List.getElem?_set_self hlt1)
   have hB:=hB.qaL (qdG []) hb1 rfl (by simp [qdG,qW]) rfl
   rw [zF hb1] at hB
   have hs1:VE (H ++ [kcs ro ti la]) (H1 ++ [Bk.cells [.v .nil]]):=hst.append
   have hlH:H.length<H1.length:=(List.getElem?_eq_some_iff.1 (hst.cells (i:=H.length) (by simp [kcs]; rfl))).1
   unfold slU at hB
   refine qc.of hB ?_
   rintro y H2 ⟨hid,hs2⟩
   have hs2:=YE.trans .set hs2
   have hs3:VE (H ++ [kcs ro ti la]) (H2.set H1.length (.cells [.v (slP (Vq l ro ti la))])):=(hst.x.trans (.app (L := [Bk.cells [.v .nil]]))).trans (hs2.trans .set) |>.new (by simp; omega)
   simp
   refine AW.asSlCell (off:=0) hid (by unfold qdG; rfl) ?_
   simp only [List.set_cons_zero]
   have hP:V.sl (qo6 (qaa l ro ti la)).length 5 ((qo6 (qaa l ro ti la)).flatMap pcs)=slP (Vq l ro ti la):=rfl
   rw [hP]
   have hlt2:H1.length<H2.length:=(List.getElem?_eq_some_iff.1 hid).1
   have ht3:=hs3.cells (ht' _)
   have hm3:=hs3.map (hm' _)
   have hk3:=hs3.cells (i:=H.length) (cs := [.v (.sc (.int .i64 ro)),.v (.sc (.int .i64 ti)),.v (.sc (.int .i64 la))]) (by simp [kcs])
   have hr3:=List.getElem?_set_self (a:=Bk.cells [.v (slP (Vq l ro ti la))]) hlt2
   generalize H2.set H1.length (.cells [.v (slP (Vq l ro ti la))])=H3 at *
   have hmH:m<H.length:=(List.getElem?_eq_some_iff.1 hm).1
   have htH:t<H.length:=(List.getElem?_eq_some_iff.1 ht).1
   have hne:t≠m:=hT.ne
   have hq:∀ X,((Zk m H3).set m X)[H1.length]? = some (.cells [.v (slP (Vq l ro ti la))]):=fun X=>setOther (killA hr3 (by simp)) (by omega) X
   refine vwb ?_
   simp [ht3,hm3,hk3,hr3,hs,hq]
   refine ⟨_,⟨setOther (killA ht3 (by simp)) (Ne.symm hne) _,killSelf hm3⟩,fun e he => ?_,((VE.app (L := [kcs ro ti la])).trans hs3).a.killed⟩
   rcases List.mem_append.1 he with he | he
   ·exact hM e he
   ·exact ⟨ro,ti,la,by simpa [keyW] using he⟩
def Kept (l:List Ru) (t m:Nat) (H0 H:List Bk):Prop:=(∃ es,Tab H t m l es∧VO l es)∧JG m H0 H
theorem Kept.trans {l:List Ru} {t m:Nat} {H0 H1 H2:List Bk} (h:JG m H0 H1) (k:Kept l t m H1 H2):Kept l t m H0 H2:=⟨k.1,h.trans k.2⟩
theorem Kept.app {l:List Ru} {t m:Nat} {H0 H1 L:List Bk} (k:Kept l t m H0 H1):Kept l t m H0 (H1++L):=by
 obtain ⟨⟨es,h1,h2⟩,h3⟩:=k
 exact ⟨⟨es,h1.stays .app,h2⟩,h3.append⟩
theorem qhj (t m:Nat) (l:List Ru) (es:List (Value×V)) (H:List Bk) (h:Tab H t m l es):AFn Tryz.prog 103 [.ptr t 0] H fun y H'=>y = .sc (.bool true)∧H'=H:=by
 have ht:=h.t
 refine vwc (fn:=Tryz.f103) rfl (vwb ?_)
 simp only [Tryz.f103,ql]
 simp [ht]
theorem qcs (ro ti la:Int):PFn Tryz.prog 104 [.sc (.int .i64 ro),.sc (.int .i64 ti),.sc (.int .i64 la)] (.sc (.bool (QU ro ti la))):=by
 refine vwc (fn:=Tryz.f104) rfl (vwb ?_)
 simp only [Tryz.f104,ql]
 simp
 simp [gd,QU,yA]
 grind
theorem WH (l:List Ru) (ro ti la:Int):(Vq l ro ti la).length≤5000000000:=by
 have hR:∀ y,(Ws (qaa l ro ti la) (XQ (qaa l ro ti la) false) y).length≤(XQ (qaa l ro ti la) false).length:=fun y=>qlN _ _ y
 have h1:=qmn (R:=Ws (qaa l ro ti la) (XQ (qaa l ro ti la) false)) (ys:=XQ (qaa l ro ti la) true) hR ((XQ (qaa l ro ti la) true).length - 1)
 have h2:=qeW (l:=qaa l ro ti la) qfB false
 have h3:=qeW (l:=qaa l ro ti la) qfB true
 have h4:((XQ (qaa l ro ti la) true).length - 1)*(XQ (qaa l ro ti la) false).length≤65537*65537:=Nat.mul_le_mul (by omega) h2
 unfold Vq qo6 qlY
 omega
def jo (q:Rc Int):Re:=⟨q.x0,q.y0,q.x1,q.y1⟩
def qg0 (qs:List (Rc Int)) (p:Pt):Int:=match qs.find? fun q=>yV (jo q) p with
 | some q=>q.z
 | none=>0
theorem qpm {α:Type} {q:α→Bool} {xs:List α} {k:Nat} (h:k<xs.length) (hn:∀ x∈xs.take k,q x=false) (hq:q xs[k]=true):xs.find? q=some xs[k]:=by
 have e:xs.find? q=(xs.take k++xs.drop k).find? q:=by rw [List.take_append_drop]
 rw [e,List.find?_append,List.find?_eq_none.2 (fun x hx=>by rw [hn x hx]; decide),Option.none_or]
 have e2:=List.drop_eq_getElem_cons h
 have e3:(xs[k]::xs.drop (k+1)).find? q=some xs[k]:=List.find?_cons_of_pos hq
 rw [← e2] at e3
 exact e3
theorem find_no {α:Type} {q:α→Bool} {xs:List α} (hn:∀ x∈xs,q x=false):xs.find? q=none:=List.find?_eq_none.2 (fun x hx=>by rw [hn x hx]; decide)
def ZmI (l:List Ru) (qs:List (Rc Int)) (p:Pt) (b:Nat) (t m:Nat) (H0:List Bk) (k:Nat) (F:Fr) (H:List Bk):Prop:=((∀ q∈qs.take k,yV (jo q) p=false)∧Kept l t m H0 H∧H[b]? = some (YN p))∧F = [(9,.v (.ptr b 0)),(27,.v (slP qs)),(28,.v (.sc (.int .i64 qs.length))),(29,.v (.sc (.int .i64 k)))]
theorem gZoom (l:List Ru) (ro ti la:Int) (p:Pt) (hl:l.length≤1000000) (hn:(qg l).length≤1048576) (t m:Nat) (es:List (Value×V)) (H:List Bk) (hT:Tab H t m l es) (hM:VO l es) :
  AFn Tryz.prog 54 [.ptr t 0,.sc (.int .i64 ro),.sc (.int .i64 ti),.sc (.int .i64 la),p.v] H fun y H'=>y = .sc (.int .i64 (if QU ro ti la then qg0 (Vq l ro ti la) p else 0))∧Kept l t m H H':=by
 have hTm:=(List.getElem?_eq_some_iff.1 hT.m).1
 have hT1:=hT.stays (.app (L := [YN p]))
 have hb1:=qab (H:=H) (b:=YN p)
 have h1:=qhj t m l es _ hT1
 have h2:=qcs ro ti la
 have h3:=qa3 l ro ti la hl hn t m es _ hT1 hM
 have hq:=WH l ro ti la
 unfold YN at h1 h3
 unfold Pt.v Pt.cs
 refine vwc (fn:=Tryz.f54) rfl (vwb ?_)
 simp only [Tryz.f54,ql]
 simp
 refine qc.of h1 ?_
 rintro y H1 ⟨rfl,rfl⟩
 simp
 refine qc.pure h2 rfl rfl ?_
 cases e:QU ro ti la with
 | false =>
  simp
  exact ⟨⟨es,hT1,hM⟩,.app⟩
 | true =>
  simp
  refine qc.of h3 ?_
  rintro y H2 ⟨rfl,es',hT',hM',hs⟩
  have hb2:=hs.cells (by omega) hb1
  generalize Vq l ro ti la=qs at *
  simp [slP]
  refine AW.count qs.length (ZmI l qs p H.length t m H) ⟨_,?_,⟨by simp,⟨⟨es',hT',hM'⟩,JG.trans .app hs.w⟩,hb2⟩,rfl⟩ ?_
  ·simp [qz,qj,qm,slP]
  rintro k F H3 hk ⟨⟨hno,hK,hb3⟩,rfl⟩
  refine vwb ?_
  by_cases hlt:k<qs.length
  ·have w1:IntKind.i64.wrap ((k:Int)+1)=(k:Int)+1:=by rw [wrap_i64] <;> omega
   have hrow:=qg9 hlt
   have hH:=gHas (jo qs[k]) p
   have hb3':=fun L=>qce (L:=L) hb3
   have hbq:=qab (H:=H3) (b := .cells [.v (.sc (.int .i64 qs[k].x0)),.v (.sc (.int .i64 qs[k].y0)),.v (.sc (.int .i64 qs[k].x1)),.v (.sc (.int .i64 qs[k].y1)),.v (.sc (.int .i64 qs[k].z))])
   unfold Re.v Re.cs Pt.v Pt.cs at hH
   unfold YN at hb3'
   simp [slP,hlt,hrow,JZ,hb3',hbq]
   refine qc.pure hH rfl rfl ?_
   cases e1:yV (jo qs[k]) p with
   | true =>
    have hz:qg0 qs p=qs[k].z:=by
     unfold qg0
     rw [qpm hlt hno e1]
    simp [hbq,hz]
    exact hK.app
   | false =>
    simp [w1]
    refine ⟨_,?_,⟨qeK hno hlt e1,hK.app,hb3' _⟩,rfl⟩
    simp [qz,qj,qm,slP]
  ·have hk':k=qs.length:=by omega
   subst hk'
   rw [List.take_length] at hno
   have hz:qg0 qs p=0:=by
    unfold qg0
    rw [find_no hno]
   simp [slP,hz]
   exact hK
def qcd (l:List Ru) (ro ti:Int) (n:Nat):List Int:=(List.range n).flatMap fun la:Nat=>(Vq l ro ti la).map (·.z)
theorem qix (l:List Ru) (ro ti:Int):∀ n,(qcd l ro ti n).length≤n*5000000000
 | 0=>by simp [qcd]
 | n+1=>by
  have h1:=qix l ro ti n
  have h2:=WH l ro ti n
  have e:qcd l ro ti (n+1)=qcd l ro ti n++(Vq l ro ti n).map (·.z):=by simp [qcd,List.range_succ]
  rw [e,List.length_append,List.length_map]
  omega
theorem qpc (l:List Ru) (ro ti:Int) (n:Nat):qcd l ro ti (n+1)=qcd l ro ti n++(Vq l ro ti n).map (·.z):=by simp [qcd,List.range_succ]
def LvI (l:List Ru) (ro ti:Int) (t m:Nat) (H0:List Bk) (n:Nat) (F:Fr) (H:List Bk):Prop:=Kept l t m H0 H ∧
 F = [(0,.v (.ptr t 0)),(1,.v (.sc (.int .i64 ro))),(2,.v (.sc (.int .i64 ti))),(7,JE (qcd l ro ti n)),(20,.v (.sc (.int .i64 n)))]
def LwI (l:List Ru) (ro ti:Int) (t m:Nat) (H0:List Bk) (n:Nat) (qs:List (Rc Int)) (k:Nat) (F:Fr) (H:List Bk):Prop:=Kept l t m H0 H ∧
 F = [(0,.v (.ptr t 0)),(1,.v (.sc (.int .i64 ro))),(2,.v (.sc (.int .i64 ti))),(7,JE (qcd l ro ti n++(qs.take k).map (·.z))),(20,.v (.sc (.int .i64 n))),(27,.v (slP qs)),(28,.v (.sc (.int .i64 qs.length))),(29,.v (.sc (.int .i64 k)))]
theorem gLevels (l:List Ru) (ro ti:Int) (hl:l.length≤1000000) (hn:(qg l).length≤1048576) (t m:Nat) (es:List (Value×V)) (H:List Bk) (hT:Tab H t m l es) (hM:VO l es) :
  AFn Tryz.prog 97 [.ptr t 0,.sc (.int .i64 ro),.sc (.int .i64 ti)] H fun y H'=>y=slI (if QU ro ti 0 then qek (qcd l ro ti 8) else [])∧Kept l t m H H':=by
 have h1:=qhj t m l es H hT
 have h2:=qcs ro ti 0
 suffices h:AFn Tryz.prog 97 [.ptr t 0,.sc (.int .i64 ro),.sc (.int .i64 ti)] H fun y H'=>(if QU ro ti 0 then y=slI (qek (qcd l ro ti 8)) else y = .nil)∧Kept l t m H H' by
  refine h.conv fun y H' ⟨hy,hk⟩=>⟨_,⟨rfl,hk⟩,fun I φ v hv => ?_⟩
  cases e:QU ro ti 0 with
  | false =>
   rw [e] at hy
   simp at hy
   subst hy
   exact qaO hv
  | true =>
   rw [e] at hy
   simp at hy
   subst hy
   exact hv
 refine vwc (fn:=Tryz.f97) rfl ?_
 simp only [Tryz.f97,ql]
 refine AW.seq (vwb ?_)
 simp
 refine AW.seq (vwb ?_)
 simp
 refine AW.seq (vwb ?_)
 simp
 refine qc.of h1 ?_
 rintro y H1 ⟨rfl,rfl⟩
 simp
 refine qc.pure h2 rfl rfl ?_
 cases e:QU ro ti 0 with
 | false =>
  simp
  exact ⟨⟨es,hT,hM⟩,.refl⟩
 | true =>
  simp
  refine AW.seq (vwb ?_)
  simp
  refine AW.count 8 (LvI l ro ti t m H1) ⟨_,?_,⟨⟨es,hT,hM⟩,.refl⟩,rfl⟩ ?_
  ·simp [qz,qj,qm,qcd,JE,qW,ints]
  rintro n F H2 hn8 ⟨hK,rfl⟩
  refine vwb ?_
  by_cases hlt:n<8
  ·have w1:IntKind.i64.wrap ((n:Int)+1)=(n:Int)+1:=by rw [wrap_i64] <;> omega
   have hlt':(n:Int)<8:=by omega
   obtain ⟨⟨es2,hT2,hM2⟩,hs2⟩:=hK
   have h3:=qa3 l ro ti n hl hn t m es2 H2 hT2 hM2
   have hq:=WH l ro ti n
   have hll:=qix l ro ti n
   have hsu:=qpc l ro ti n
   have hcl:=qm6 (Vq l ro ti n)
   simp [hlt',JE]
   refine qc.of h3 ?_
   rintro y H3 ⟨rfl,es3,hT3,hM3,hs3⟩
   generalize Vq l ro ti n=qs at *
   simp [slP]
   refine AW.count qs.length (LwI l ro ti t m H1 n qs) ⟨_,?_,⟨⟨es3,hT3,hM3⟩,hs2.trans hs3.w⟩,rfl⟩ ?_
   ·simp [qz,qj,qm,slP,JE]
   rintro k F H4 hk ⟨hK4,rfl⟩
   refine vwb ?_
   by_cases hkl:k<qs.length
   ·have w2:IntKind.i64.wrap ((k:Int)+1)=(k:Int)+1:=by rw [wrap_i64] <;> omega
    have hrow:=qg9 hkl
    have hbq:=qab (H:=H4) (b := .cells [.v (.sc (.int .i64 qs[k].x0)),.v (.sc (.int .i64 qs[k].y0)),.v (.sc (.int .i64 qs[k].x1)),.v (.sc (.int .i64 qs[k].y1)),.v (.sc (.int .i64 qs[k].z))])
    have hst:qcd l ro ti n++(qs.take (k+1)).map (·.z)=qcd l ro ti n++(qs.take k).map (·.z) ++ [qs[k].z]:=by rw [List.take_succ_eq_append_getElem hkl,List.map_append,← List.append_assoc]; rfl
    have hlo:(qcd l ro ti n++(qs.take k).map (·.z)).length≤50000000000:=by
     rw [List.length_append,List.length_map,List.length_take]
     omega
    generalize hgo:qcd l ro ti n++(qs.take k).map (·.z)=o at *
    simp [slP,hkl,hrow,JZ,hbq,JE,w2]
    refine ⟨by omega,_,?_,hK4.app,rfl⟩
    rw [hst]
    simp [qz,qj,qm,slP,JE,ints]
   ·have hk':k=qs.length:=by omega
    subst hk'
    rw [List.take_length,← hsu]
    simp [slP,w1,JE]
    refine ⟨by omega,_,?_,hK4,rfl⟩
    simp [qz,qj,qm,JE]
  ·have hk':n=8:=by omega
   subst hk'
   have hz:=qix l ro ti 8
   simp [JE]
   generalize qcd l ro ti 8=zs at *
   refine AW.seq (AW.qob (u:=7) (e:=3) (sz:=1) (n:=zs.length) (zs:=zs) (xs := []) sortI ⟨_,Tryz.func145,rfl,by kernel_rfl⟩ (fun x v hv=>by simp at hv; subst hv; rfl) rfl rfl rfl rfl rfl rfl (fun a=>rfl) rfl rfl (by decide) (by decide) (by decide) (by decide) (by simp [qm,qcj]) rfl rfl (by omega) ?_)
   rintro ys rfl hyl
   rw [qcj]
   have hN:qek zs=Go.Lib.compact (sorted' zs):=rfl
   rw [← hyl]
   rw [hN]
   generalize sorted' zs=qs at *
   simp
   refine AW.seq (AW.qoc (u:=7) (e:=3) (sz:=1) (n:=qs.length) (zs:=qs) (xs := []) qmr ⟨_,Tryz.func146,rfl,by kernel_rfl⟩ (fun x v hv=>by simp at hv; subst hv; rfl) rfl rfl rfl rfl rfl rfl (fun a=>rfl) rfl rfl (by decide) (by decide) (by decide) (by simp [qm,qcj]) rfl (by omega) ?_)
   rintro ys rfl
   rw [qcj]
   generalize Go.Lib.compact qs=rs at *
   simp
   refine vwb ?_
   simp [slI]
   exact hK
theorem qmz {q:Ru→Bool}:∀ (l:List Ru) (z:Int),0≤z→0≤l.foldl (QD q) z
 | [],z,h=>h
 | r::l,z,h=>by
  rw [List.foldl_cons]
  apply qmz l
  unfold QD
  split
  ·omega
  ·exact h
theorem qkn {q:Ru→Bool}:∀ (l:List Ru) (z:Int),(∀ r∈l,q r=true→0≤r.zoom)→0≤z→z≤16→0≤l.foldl (VB q) z∧l.foldl (VB q) z≤16
 | [],z,_,h0,h1=>⟨h0,h1⟩
 | r::l,z,h,h0,h1=>by
  rw [List.foldl_cons]
  have hz:=h r (by simp)
  apply qkn l _ fun r hr=>h r (by simp [hr])
  all_goals
   unfold VB
   split
   ·rename_i hc
    have:=hz hc.2.2
    omega
   ·assumption
theorem qdl {r:Ru} (h:qI r=true):0≤r.zoom∧r.zoom≤16:=by
 unfold qI yA at h
 split at h
 ·simp at h
  omega
 ·simp at h
  omega
theorem qdw {r:Ru} {ro ti la:Int} {p:Pt} (h:yQ ro ti la p r=true):qI r=true:=by
 unfold yQ XO at h
 simp at h
 exact h.1.1.1.1.1.1.1
theorem QN (l:List Ru) (ro ti la:Int) (p:Pt):0≤vN l ro ti la p∧vN l ro ti la p≤16:=by
 unfold vN
 split
 ·unfold qe3
  have h1:=qmz (q:=yQ ro ti la p) l 0 (by decide)
  have h2:=qi3 (q:=yQ ro ti la p) l 0 (M:=16) (fun r _ hq=>(qdl (qdw hq)).2) (by decide)
  exact qkn l _ (fun r _ hq=>(qdl (qdw hq)).1) h1 h2
 ·omega
end Go.Proofs.YtnconfggojpkcaaGreat
namespace Go.Proofs.YtnconfggojpkcaaGreat
open Go.RowKit AM Can
theorem qiC {α β:Type} {f:β→α→β}:∀ {l:List α} {s:β},(∀ x∈l,∀ s,f s x=s)→l.foldl f s=s
 | [],_,_=>rfl
 | x::l,s,h=>by
  rw [List.foldl_cons,h x (by simp),qiC fun y hy=>h y (by simp [hy])]
theorem qag {q:Ru→Bool} {l:List Ru} (h:∀ r∈l,q r=false):V7 q l=0:=by
 unfold V7
 rw [qiC fun r hr s=>by simp [Xc,h r hr]]
 rfl
theorem qks {q b:Ru→Bool} (l:List Ru):V7 q (l.filter b)=V7 (fun r=>b r&&q r) l:=by
 have go:∀ (l:List Ru) (s:Int×Int),(l.filter b).foldl (Xc q) s=l.foldl (Xc fun r=>b r&&q r) s:=by
  intro l
  induction l with
  | nil=>intro s; rfl
  | cons r l ih =>
   intro s
   rw [List.filter_cons,List.foldl_cons]
   cases hb:b r with
   | true =>
    rw [if_pos rfl,List.foldl_cons,ih]
    congr 1
    simp [Xc,hb]
   | false =>
    rw [if_neg (by decide),ih]
    congr 1
    simp [Xc,hb]
 unfold V7
 rw [go]
theorem qpl {r:Ru} {ro ti la:Int} {p:Pt} (h:yQ ro ti la p r=true):r.kind=4∨r.kind=5:=by
 have h1:=qdw h
 unfold yQ XO at h
 simp at h
 unfold qI at h1
 split at h1
 ·rename_i h6
  exact absurd h6 h.1.1.1.1.1.1.2
 ·simp at h1
  exact h1.1.1.1.1.1.1.1
theorem qbg {l:List Ru} (ha:l.all qI=true) (ro ti la:Int) (p:Pt):vN l ro ti la p=V7 (yQ ro ti la p) l:=by
 unfold vN
 rw [if_pos ha]
 exact (zoom_doc (fun r _ h=>qpl h) fun r _ h=>(qdl (qdw h)).2).symm
theorem qnW {l:List Ru} (ha:l.all qI=true) (ro ti la:Int) (p:Pt):vN l ro ti la p=V7 (qfA p) (qaa l ro ti la):=by
 rw [qbg ha]
 unfold qaa
 rw [qks]
 rfl
def F2 (l:List Ru) (ro ti la:Int) (x y:Int):Option Int:=qbT (vN l ro ti la ⟨x,y⟩)
theorem Vf {l:List Ru} {ro ti la x y z:Int}:F2 l ro ti la x y=some z↔vN l ro ti la ⟨x,y⟩=z∧z≠0:=by
 unfold F2 qbT
 constructor
 ·intro h
  split at h
  ·cases h
  ·cases h; exact ⟨rfl,by assumption⟩
 ·rintro ⟨rfl,h⟩
  rw [if_neg h]
theorem VZ {l:List Ru} {ro ti la x y:Int}:F2 l ro ti la x y=none↔vN l ro ti la ⟨x,y⟩=0:=by
 unfold F2 qbT
 split
 ·simpa
 ·simpa
theorem qma {l:List Re} {xs:List Int} (hx:∀ r∈l,r.x0∈xs∧r.x1+1∈xs) {x y:Int} (h:(∀ c∈xs,¬ c≤x)∨∀ c∈xs,c≤x):hasB l ⟨x,y⟩=false:=by
 rw [Bool.eq_false_iff]
 intro e
 obtain ⟨r,hr,h1,h2,h3⟩:=qcW.1 e
 simp only at h2
 rcases h with h | h
 ·exact h _ (hx r hr).1 h2.1
 ·have:=h _ (hx r hr).2
  omega
theorem qj2 {l:List Re} {ys:List Int} (hy:∀ r∈l,r.y0∈ys∧r.y1+1∈ys) {x y:Int} (h:(∀ c∈ys,¬ c≤y)∨∀ c∈ys,c≤y):hasB l ⟨x,y⟩=false:=by
 rw [Bool.eq_false_iff]
 intro e
 obtain ⟨r,hr,h1,h2,h3⟩:=qcW.1 e
 simp only at h3
 rcases h with h | h
 ·exact h _ (hy r hr).1 h3.1
 ·have:=h _ (hy r hr).2
  omega
section
variable {l:List Ru} {b:Ru→Bool} {G:Int→Int→Option Int} (hG:∀ x y,G x y=qbT (V7 (fun r=>b r&&hasB r.boxes ⟨x,y⟩) l))
include hG
theorem qiQ {xs:List Int} (hs:xs.Pairwise (· < ·)) (hx:∀ r∈l,∀ c∈r.boxes,c.x0∈xs∧c.x1+1∈xs) (y:Int):qmN (fun x=>G x y) xs:=by
 have e0:qbT 0=none:=rfl
 refine ⟨hs,fun x x' h => ?_,fun x h => ?_,fun x h => ?_⟩
 ·simp only [hG]
  rw [qg1 fun r hr=>by rw [qnt (hx r hr) h]]
 ·simp only [hG]
  rw [qag fun r hr=>by rw [qma (hx r hr) (.inl h)]; simp,e0]
 ·simp only [hG]
  rw [qag fun r hr=>by rw [qma (hx r hr) (.inr h)]; simp,e0]
theorem qiP {ys:List Int} (hs:ys.Pairwise (· < ·)) (hy:∀ r∈l,∀ c∈r.boxes,c.y0∈ys∧c.y1+1∈ys):qmM G ys:=by
 have e0:qbT 0=none:=rfl
 refine ⟨hs,fun x y y' h => ?_,fun x y h => ?_,fun x y h => ?_⟩
 ·rw [hG,hG,qg1 fun r hr=>by rw [qns (hy r hr) h]]
 ·rw [hG,qag fun r hr=>by rw [qj2 (hy r hr) (.inl h)]; simp,e0]
 ·rw [hG,qag fun r hr=>by rw [qj2 (hy r hr) (.inr h)]; simp,e0]
end
theorem K7 {l:List Ru} {r:Ru} (hr:r∈l) {c:Re} (hc:c∈r.boxes):c∈qg l:=qiW hr hc
theorem F2_prog {l:List Ru} (ha:l.all qI=true) (ro ti la x y:Int):F2 l ro ti la x y=qbT (V7 (fun r=>true&&hasB r.boxes ⟨x,y⟩) (qaa l ro ti la)):=by
 unfold F2
 rw [qnW ha]
 rfl
theorem X4 {l:List Ru} (ha:l.all qI=true) (ro ti la:Int):Can.Form (F2 l ro ti la) (Vq l ro ti la):=by
 have hG:=F2_prog ha ro ti la
 have mx:∀ d,∀ c∈qg (qaa l ro ti la),lo d c∈XQ (qaa l ro ti la) d∧hi d c+1∈XQ (qaa l ro ti la) d:=fun d c hc=>⟨((VL _).2 _).2 (qgO.2 ⟨c,hc,.inl rfl⟩),((VL _).2 _).2 (qgO.2 ⟨c,hc,.inr rfl⟩)⟩
 have hl:∀ y x,qgG (qaa l ro ti la) y x=F2 l ro ti la x y:=fun y x=>by
  unfold F2 qgG
  rw [qnW ha]
 have hR:Can.Rows (F2 l ro ti la) (Ws (qaa l ro ti la) (XQ (qaa l ro ti la) false)):=fun y=>by
  have e:qgG (qaa l ro ti la) y=fun x=>F2 l ro ti la x y:=funext fun x=>hl y x
  unfold Ws
  rw [e]
  exact (qiQ hG (VL _).1 (fun r hr c hc=>mx false c (K7 hr hc)) y).can
 exact (qiP hG (VL _).1 (fun r hr c hc=>mx true c (K7 hr hc))).form hR
theorem qjq {l:List Ru} {ro ti la:Int} {p:Pt} (h:vN l ro ti la p≠0):fits p=true:=by
 by_cases ha:l.all qI=true
 ·rw [qbg ha] at h
  by_cases hn:∀ r∈l,yQ ro ti la p r=false
  ·exact absurd (qag hn) h
  ·simp only [Classical.not_forall] at hn
   obtain ⟨r,hr,hf⟩:=hn
   have hf:yQ ro ti la p r=true:=by simpa using hf
   unfold yQ at hf
   simp at hf
   exact qcX hf.2
 ·unfold vN at h
  rw [if_neg ha] at h
  exact absurd rfl h
theorem K4 {l:List Ru} {ro ti la:Int} {o:List (Rc Int)} (h:Can.Form (F2 l ro ti la) o):∀ q∈o,qd (jo q)=true∧1≤q.z∧q.z≤16:=fun q hq=>by
 obtain ⟨h1,h2⟩:=h.corner hq
 have h3:=h.le hq
 obtain ⟨e1,hz⟩:=Vf.1 h1
 obtain ⟨e2,_⟩:=Vf.1 h2
 have f1:=qjq (l:=l) (ro:=ro) (ti:=ti) (la:=la) (p:=⟨q.x0,q.y0⟩) (by rw [e1]; exact hz)
 have f2:=qjq (l:=l) (ro:=ro) (ti:=ti) (la:=la) (p:=⟨q.x1,q.y1⟩) (by rw [e2]; exact hz)
 have hr:=QN l ro ti la ⟨q.x0,q.y0⟩
 rw [e1] at hr
 unfold fits inside at f1 f2
 simp at f1 f2
 refine ⟨qF.2 ?_,by omega,hr.2⟩
 simp only [jo]
 omega
theorem has_at {q:Rc Int} (hr:qd (jo q)=true) {p:Pt}:yV (jo q) p=true↔atR q p.x p.y:=by
 rw [ZR]
 unfold atR jo at *
 simp only [hr,true_and]
 omega
theorem zoomP_eq {l:List Ru} {ro ti la:Int} {o:List (Rc Int)} (h:Can.Form (F2 l ro ti la) o) (p:Pt):qg0 o p=vN l ro ti la p:=by
 unfold qg0
 cases hf:o.find? fun q=>yV (jo q) p with
 | some q =>
  have hq:=List.mem_of_find?_eq_some hf
  have hh:=List.find?_some hf
  simp only at hh ⊢
  have:=(h.iff p.x p.y q.z).2 ⟨q,hq,(has_at (K4 h q hq).1).1 hh,rfl⟩
  exact (Vf.1 this).1.symm
 | none =>
  have hn:=List.find?_eq_none.1 hf
  simp only
  cases hz:F2 l ro ti la p.x p.y with
  | none=>exact (VZ.1 hz).symm
  | some z =>
   obtain ⟨q,hq,ha,_⟩:=(h.iff p.x p.y z).1 hz
   exact absurd ((has_at (K4 h q hq).1).2 ha) (hn q hq)
theorem forU_no {r:Ru} {ro ti la:Int} (h:QU ro ti la=false):XO r ro ti la=false:=by
 simp [XO,h]
theorem qaJ {l:List Ru} {ro ti la:Int} (h:QU ro ti la=false) (p:Pt):vN l ro ti la p=0:=by
 by_cases ha:l.all qI=true
 ·rw [qbg ha]
  exact qag fun r _=>by simp [yQ,forU_no h]
 ·unfold vN
  rw [if_neg ha]
end Go.Proofs.YtnconfggojpkcaaGreat
namespace Go.Proofs.YtnconfggojpkcaaGreat
open Go.RowKit AM
structure Gr where
 ops:Int
 zoom:Int
 box:Re
 void:Bool
 til:Int
def Gr.cs (g:Gr):List V := [.sc (.int .i64 g.ops),.sc (.int .i64 g.zoom),.sc (.int .i64 g.box.x0),.sc (.int .i64 g.box.y0),.sc (.int .i64 g.box.x1),.sc (.int .i64 g.box.y1),.sc (.bool g.void),.sc (.int .i64 g.til)]
structure Vw where
 ro:Int
 ti:Int
 g:Gr
def Vw.cs (v:Vw):List V := [.sc (.int .i64 v.ro),.sc (.int .i64 v.ti),.sc (.int .i64 v.g.ops),.sc (.int .i64 v.g.zoom),.sc (.int .i64 v.g.box.x0),.sc (.int .i64 v.g.box.y0),.sc (.int .i64 v.g.box.x1),.sc (.int .i64 v.g.box.y1),.sc (.bool v.g.void),.sc (.int .i64 v.g.til)]
structure Se where
 id:Int
 lv:Int
 box:Re
 deriving DecidableEq,Inhabited
def Se.cs (s:Se):List V := [.sc (.int .i64 s.id),.sc (.int .i64 s.lv),.sc (.int .i64 s.box.x0),.sc (.int .i64 s.box.y0),.sc (.int .i64 s.box.x1),.sc (.int .i64 s.box.y1)]
def qw:Se:=⟨0,0,0,0,0,0⟩
def seW (o:Option Se):V := .tup [.agg (o.getD qw).cs,.sc (.bool o.isSome)]
def KN (g:Gr):Bool:=decide (0≤g.ops∧g.ops≤31)&&decide (0≤g.zoom∧g.zoom≤16)&&decide (0≤g.til∧g.til≤4294967295)&&(if g.void then decide (g.box=⟨0,0,0,0⟩) else qd g.box)
def yG (v:Vw):Bool:=decide (0≤v.ro∧v.ro≤7)&&decide (0≤v.ti∧v.ti≤7)&&KN v.g
def lvl (v:Vw) (z:Int):Int:=if v.g.zoom<z then v.g.zoom else z
def QE (v:Vw) (id lv:Int) (b:Re):Option Se:=if lv=0∨v.g.void=true∨inB b v.g.box=false then none else some ⟨id,lv,b⟩
def Zq (Z:Pr→Int) (v:Vw) (t:Pr):Option Se:=if yG v&&fits t.at_ then QE v t.id (lvl v (Z t)) (JD (ofR t.at_ (lvl v (Z t))).1).1 else none
theorem qkx {v:Vw} (h:yG v=true):0≤v.g.zoom∧v.g.zoom≤16:=by
 simp only [yG,KN,Bool.and_eq_true,decide_eq_true_eq] at h
 omega
theorem KM {v:Vw} {z:Int} (h:yG v=true) (hz:0≤z∧z≤16):0≤lvl v z∧lvl v z≤16:=by
 have:=qkx h
 unfold lvl
 split <;> omega
theorem qam {Z:Pr→Int} {v:Vw} {t:Pr} {s:Se} (hZ:0≤Z t∧Z t≤16) (h:Zq Z v t=some s):yG v=true∧fits t.at_=true∧s.id=t.id∧s.lv=lvl v (Z t)∧lvl v (Z t)≠0∧s.box=jy (cellOf t.at_ (lvl v (Z t)))∧vR (lvl v (Z t))=true:=by
 unfold Zq at h
 split at h
 ·rename_i hc
  simp only [Bool.and_eq_true] at hc
  have hl:=KM hc.1 hZ
  have hr:vR (lvl v (Z t))=true:=zy.2 hl
  unfold QE at h
  split at h
  ·cases h
  ·rename_i h0
   simp only [not_or] at h0
   cases h
   refine ⟨hc.1,hc.2,rfl,rfl,h0.1,?_,hr⟩
   have e:ofR t.at_ (lvl v (Z t))=(cellOf t.at_ (lvl v (Z t)),true):=by simp [ofR,hr,hc.2]
   have e2:JD (cellOf t.at_ (lvl v (Z t)))=(jy (cellOf t.at_ (lvl v (Z t))),true):=by simp [JD,yU hc.2 hl.1 hl.2]
   simp only [e,e2]
 ·cases h
theorem qm5 {r:Re} {p:Pt} {l:Int} (hr:qd r=true) (hp:fits p=true) (hl:vR l=true):yV (zW r l).1 p=qE (jy (cellOf p l)) r:=by
 have hl':=zy.1 hl
 have hs:=Jl hl'.1 hl'.2
 have hb:=Qj (yU hp hl'.1 hl'.2)
 have rp:=qc0 hp
 have rr:=qF.1 hr
 have e:(zW r l).1=⟨side l*(r.x0/side l),side l*(r.y0/side l),side l*(r.x1/side l)+side l - 1,side l*(r.y1/side l)+side l - 1⟩:=by simp [zW,hl,hr,qaD hs.1]
 have hsr:qd (zW r l).1=true:=by
  have hf:=JH hr
  have b1:=Z0 (Qj (yU hf.1 hl'.1 hl'.2))
  have b2:=Z0 (Qj (yU hf.2 hl'.1 hl'.2))
  have e1:jy (cellOf r.lo l)=⟨side l*(r.x0/side l),side l*(r.y0/side l),side l*(r.x0/side l)+side l - 1,side l*(r.y0/side l)+side l - 1⟩:=rfl
  have e2:jy (cellOf r.hi l)=⟨side l*(r.x1/side l),side l*(r.y1/side l),side l*(r.x1/side l)+side l - 1,side l*(r.y1/side l)+side l - 1⟩:=rfl
  rw [e1] at b1
  rw [e2] at b2
  simp only at b1 b2
  have m1:side l*(r.x0/side l)≤side l*(r.x1/side l):=Int.mul_le_mul_of_nonneg_left (Int.ediv_le_ediv hs.1 rr.1.2.1) (by omega)
  have m2:side l*(r.y0/side l)≤side l*(r.y1/side l):=Int.mul_le_mul_of_nonneg_left (Int.ediv_le_ediv hs.1 rr.2.2.1) (by omega)
  rw [e]
  refine qF.2 ?_
  simp only
  omega
 have key:∀ a b x:Int,(side l*(a/side l)≤x∧x≤side l*(b/side l)+side l - 1)↔(side l*(x/side l)≤b∧a≤side l*(x/side l)+side l - 1):=by
  intro a b x
  have h0:=hs.1
  have qa:=Int.emod_add_mul_ediv a (side l)
  have qb:=Int.emod_add_mul_ediv b (side l)
  have qx:=Int.emod_add_mul_ediv x (side l)
  have na:=Int.emod_nonneg a (Int.ne_of_gt h0)
  have nb:=Int.emod_nonneg b (Int.ne_of_gt h0)
  have nx:=Int.emod_nonneg x (Int.ne_of_gt h0)
  have la:=Int.emod_lt_of_pos a h0
  have lb:=Int.emod_lt_of_pos b h0
  have lx:=Int.emod_lt_of_pos x h0
  have c1:a/side l≤x/side l↔side l*(a/side l)≤x:=by
   rw [Int.le_ediv_iff_mul_le h0,Int.mul_comm]
  have c2:x/side l≤b/side l↔side l*(x/side l)≤b:=by
   rw [Int.le_ediv_iff_mul_le h0,Int.mul_comm]
  have c3:x/side l≤b/side l↔x≤side l*(b/side l)+side l - 1:=by
   constructor
   ·intro h
    have:=Int.mul_le_mul_of_nonneg_left h (show 0≤side l by omega)
    omega
   ·intro h
    have:x/side l<b/side l+1:=by
     rw [Int.ediv_lt_iff_lt_mul h0,Int.add_mul,Int.one_mul,Int.mul_comm]
     omega
    omega
  have c4:a/side l≤x/side l↔a≤side l*(x/side l)+side l - 1:=by
   constructor
   ·intro h
    have:=Int.mul_le_mul_of_nonneg_left h (show 0≤side l by omega)
    omega
   ·intro h
    have:a/side l<x/side l+1:=by
     rw [Int.ediv_lt_iff_lt_mul h0,Int.add_mul,Int.one_mul,Int.mul_comm]
     omega
    omega
  rw [← c1,← c3,← c2,← c4,And.comm]
 have hm:qE (jy (cellOf p l)) r=true↔(side l*(p.x/side l)≤r.x1∧r.x0≤side l*(p.x/side l)+side l - 1∧side l*(p.y/side l)≤r.y1∧r.y0≤side l*(p.y/side l)+side l - 1):=by
  unfold qE
  rw [hb,hr]
  simp only [Bool.and_self,Bool.true_and,decide_eq_true_iff]
  exact Iff.rfl
 rw [Bool.eq_iff_iff,ZR,hsr,e,hm]
 simp only [true_and]
 have k1:=key r.x0 r.x1 p.x
 have k2:=key r.y0 r.y1 p.y
 constructor
 ·rintro ⟨h1,h2⟩
  have h1:=k1.1 h1
  have h2:=k2.1 h2
  omega
 ·rintro ⟨h1,h2,h3,h4⟩
  exact ⟨k1.2 ⟨h1,h2⟩,k2.2 ⟨h3,h4⟩⟩
def Yd (x:Int×Se):Ent:=⟨x.1,0,x.2.id⟩
def lvls (v:Vw) (zs:List Int):List Int:=zs.filter fun z => !decide (lvl v z=0)
theorem ZT {α β γ:Type} {f:α→Option β} {i:α→γ} {j:β→γ} (hf:∀ a b,f a=some b→j b=i a):∀ {l:List α},(l.map i).Nodup→((l.filterMap f).map j).Nodup
 | [],_=>by simp
 | a::l,h=>by
  rw [List.map_cons,List.nodup_cons] at h
  have ih:=ZT hf h.2
  rw [List.filterMap_cons]
  cases hfa:f a with
  | none=>exact ih
  | some b =>
   simp only
   rw [List.map_cons,List.nodup_cons]
   refine ⟨fun hm => ?_,ih⟩
   obtain ⟨c,hc,e⟩:=List.mem_map.1 hm
   obtain ⟨a',ha',hfa'⟩:=List.mem_filterMap.1 hc
   exact h.1 (List.mem_map.2 ⟨a',ha',by rw [← hf _ _ hfa',e,hf _ _ hfa]⟩)
theorem map_inj {α γ:Type} {i:α→γ} {S:List α} (hn:(S.map i).Nodup) {x y:α} (hx:x∈S) (hy:y∈S) (h:i x=i y):x=y:=by
 induction S with
 | nil=>cases hx
 | cons a l ih =>
  rw [List.map_cons,List.nodup_cons] at hn
  rcases List.mem_cons.1 hx with hx | hx
  ·rcases List.mem_cons.1 hy with hy | hy
   ·rw [hx,hy]
   ·exact absurd (List.mem_map.2 ⟨y,hy,by rw [← h,hx]⟩) hn.1
  ·rcases List.mem_cons.1 hy with hy | hy
   ·exact absurd (List.mem_map.2 ⟨x,hx,by rw [h,hy]⟩) hn.1
   ·exact ih hn.2 hx hy
def J9 {α:Type} (see:α→Option Se) (key:Se→Int) (sub:Int→List α) (zs:List Int):List (Int×Se):=zs.flatMap fun z=>((sub z).filterMap see).map fun s=>(key s,s)
section
variable {α:Type} {i:α→Int} {see:α→Option Se} {key:Se→Int} {sub:Int→List α} {zs:List Int} {S:List α} {Z:α→Int}
theorem qgt {x:Int×Se}:x∈J9 see key sub zs↔∃ z∈zs,∃ t∈sub z,see t=some x.2∧x.1=key x.2:=by
 unfold J9
 simp only [List.mem_flatMap,List.mem_map,List.mem_filterMap]
 constructor
 ·rintro ⟨z,hz,s,⟨t,ht,h1⟩,rfl⟩
  exact ⟨z,hz,t,ht,h1,rfl⟩
 ·rintro ⟨z,hz,t,ht,h1,h2⟩
  exact ⟨z,hz,x.2,⟨t,ht,h1⟩,by rw [← h2]⟩
theorem Yv (hS:(S.map i).Nodup) (hs:∀ t s,see t=some s→s.id=i t) (hsub:∀ z∈zs,((sub z).map i).Nodup∧∀ t∈sub z,t∈S∧Z t=z) (hz:zs.Nodup):((J9 see key sub zs).map fun x=>x.2.id).Nodup:=by
 induction zs with
 | nil=>simp [J9]
 | cons z zs ih =>
  rw [List.nodup_cons] at hz
  have ih:=ih (fun z hz=>hsub z (List.mem_cons_of_mem _ hz)) hz.2
  have e:J9 see key sub (z::zs)=(((sub z).filterMap see).map fun s=>(key s,s))++J9 see key sub zs:=by simp [J9]
  rw [e,List.map_append,List.map_map]
  refine List.nodup_append.2 ⟨?_,ih,?_⟩
  ·exact ZT (i:=i) (j:=fun s:Se=>s.id) hs (hsub z (List.mem_cons_self ..)).1
  ·intro a ha b hb hab
   subst hab
   obtain ⟨s,hs1,rfl⟩:=List.mem_map.1 ha
   obtain ⟨t,ht,hst⟩:=List.mem_filterMap.1 hs1
   obtain ⟨x,hx,e2⟩:=List.mem_map.1 hb
   obtain ⟨z',hz',t',ht',h1,_⟩:=qgt.1 hx
   obtain ⟨m1,m2⟩:=(hsub z (List.mem_cons_self ..)).2 t ht
   obtain ⟨n1,n2⟩:=(hsub z' (List.mem_cons_of_mem _ hz')).2 t' ht'
   have e3:t=t':=map_inj hS m1 n1 (by rw [← hs _ _ hst,← hs _ _ h1]; exact e2.symm)
   subst e3
   rw [m2] at n2
   subst n2
   exact hz.1 hz'
end
def Wh (X:List (Int×Se)) (i:Int):Se:=((X.find? fun x=>decide (x.2.id=i)).map (·.2)).getD qw
theorem qiw {X:List (Int×Se)} (hn:(X.map fun x=>x.2.id).Nodup) {x:Int×Se} (hx:x∈X):Wh X x.2.id=x.2:=by
 unfold Wh
 induction X with
 | nil=>cases hx
 | cons y X ih =>
  rw [List.map_cons,List.nodup_cons] at hn
  rcases List.mem_cons.1 hx with rfl | hx
  ·simp
  ·have hne:¬ y.2.id=x.2.id:=fun e=>hn.1 (List.mem_map.2 ⟨x,hx,e.symm⟩)
   rw [List.find?_cons_of_neg (by simpa using hne)]
   exact ih hn.2 hx
theorem qb3 {X Y:List (Int×Se)} {hs:List Ent} (hn:(X.map fun x=>x.2.id).Nodup) (hY:Y.Perm X) (hs1:Srt hs) (hs2:hs.Perm (X.map Yd)) (hp:Y.Pairwise fun a b=>(Yd b).lt (Yd a)=false) (m:Nat):(hs.take m).map (fun e=>Wh X e.i)=(Y.take m).map (·.2):=by
 have e:hs=Y.map Yd:=qaj hs1 (List.pairwise_map.2 hp) (hs2.trans (hY.map Yd).symm)
 rw [e,← List.map_take,List.map_map]
 refine List.map_congr_left fun x hx => ?_
 exact qiw hn (hY.mem_iff.1 (List.mem_of_mem_take hx))
theorem qiH {l:List Ent} (h:Srt l) (p:Ent→Bool):Srt (l.filter p):=List.Pairwise.sublist List.filter_sublist h
theorem qht {α:Type} {l:List α} {p:α→Bool} {m:Nat} {x:α} (hx:x∈l.take m) (hp:p x=true):x∈(l.filter p).take m:=by
 have e:l.filter p=(l.take m).filter p++(l.drop m).filter p:=by rw [← List.filter_append,List.take_append_drop]
 rw [e,List.take_append]
 refine List.mem_append_left _ ?_
 rw [List.take_of_length_le]
 ·exact List.mem_filter.2 ⟨hx,hp⟩
 ·exact Nat.le_trans (List.length_filter_le _ _) (List.length_take_le _ _)
theorem ql2 {Es:List Ent} {zs:List Int} {c:Ent→Int} {m:Nat} (hn:Es.Nodup) (hz:zs.Nodup) (hc:∀ e∈Es,c e∈zs) :
  (sort (zs.flatMap fun z=>(sort (Es.filter fun e=>decide (c e=z))).take m)).take m=(sort Es).take m:=by
 have hT:=Ku Es
 have hTp:=ZY Es
 generalize sort Es=T at *
 have hTn:T.Nodup:=hTp.nodup_iff.2 hn
 have hcl:∀ z,sort (Es.filter fun e=>decide (c e=z))=T.filter fun e=>decide (c e=z):=fun z=>qaj (Ku _) (qiH hT _) ((ZY _).trans (hTp.symm.filter _))
 simp only [hcl]
 generalize hU:(zs.flatMap fun z=>(T.filter fun e=>decide (c e=z)).take m)=U
 have hmem:∀ e,e∈U↔∃ z∈zs,e∈(T.filter fun e=>decide (c e=z)).take m:=fun e=>by rw [← hU,List.mem_flatMap]
 have hUT:∀ e∈U,e∈T:=fun e he=>by
  obtain ⟨z,_,h⟩:=(hmem e).1 he
  exact (List.mem_filter.1 (List.mem_of_mem_take h)).1
 have hUn:U.Nodup:=by
  rw [← hU]
  clear hU hmem hUT hc
  induction zs with
  | nil=>simp
  | cons z zs ih =>
   rw [List.nodup_cons] at hz
   rw [List.flatMap_cons]
   refine List.nodup_append.2 ⟨((hTn.filter _).sublist (List.take_sublist _ _)),ih hz.2,fun a ha b hb hab => ?_⟩
   subst hab
   have h1:=(List.mem_filter.1 (List.mem_of_mem_take ha)).2
   obtain ⟨z',hz',h2⟩:=List.mem_flatMap.1 hb
   have h3:=(List.mem_filter.1 (List.mem_of_mem_take h2)).2
   simp only [decide_eq_true_eq] at h1 h3
   rw [h1] at h3
   subst h3
   exact hz.1 hz'
 have hq:sort U=T.filter fun e=>decide (e∈U):=by
  refine qaj (Ku _) (qiH hT _) ((ZY U).trans ?_)
  rw [List.perm_ext_iff_of_nodup hUn (hTn.filter _)]
  intro e
  rw [List.mem_filter,decide_eq_true_eq]
  exact ⟨fun h=>⟨hUT e h,h⟩,fun h=>h.2⟩
 have hall:(T.take m).filter (fun e=>decide (e∈U))=T.take m:=List.filter_eq_self.2 fun e he=>by
  rw [decide_eq_true_eq]
  refine (hmem e).2 ⟨c e,hc e (hTp.mem_iff.1 (List.mem_of_mem_take he)),qht he (by simp)⟩
 have e:T.filter (fun e=>decide (e∈U))=T.take m++(T.drop m).filter fun e=>decide (e∈U):=by
  have h:=List.filter_append (p:=fun e=>decide (e∈U)) (T.take m) (T.drop m)
  rw [List.take_append_drop,hall] at h
  exact h
 rw [hq,e,List.take_append,List.take_take,Nat.min_self]
 by_cases hm:m≤T.length
 ·rw [List.length_take,Nat.min_eq_left hm,Nat.sub_self,List.take_zero,List.append_nil]
 ·rw [List.drop_eq_nil_of_le (by omega)]
  simp
end Go.Proofs.YtnconfggojpkcaaGreat
namespace Go.Proofs.YtnconfggojpkcaaGreat
open Go.RowKit
open Go.ChangeShapes Go.WideShapes Go.Deep
namespace AM
theorem rel_len {I:Nat→Nat→Option Value} {φ:List Nat} {n sz:Nat} {cs:List V} {v:Value} (h:Rel I φ (.sl n sz cs) v):n≤maxLen:=by
 cases h with
 | sl _ _ _ h1 h2=>exact Nat.le_trans h1 h2
 | sl0=>exact Nat.zero_le _
theorem qh9 {β:Type} {I:Nat→Nat→Option Value} {φ:List Nat} {f:β→List V} {g:β→List Value}:∀ {qs:List β},(∀ q∈qs,vM I φ (f q) (g q))→vM I φ (qs.flatMap f) (qs.flatMap g)
 | [],_ => .nil
 | q::qs,h=>by
  rw [List.flatMap_cons,List.flatMap_cons]
  exact vM.append (h q (by simp)) (qh9 fun r hr=>h r (by simp [hr]))
end AM
section
variable {H:Type} {enc:TypeId×Value→H} {P:Program} {w:World} {base:Nat} {held:Bool}
end
end Go.Proofs.YtnconfggojpkcaaGreat
namespace Go.Proofs.YtnconfggojpkcaaGreat
open Go.RowKit
open Go.ChangeShapes Go.WideShapes Go.Deep
section
variable {H:Type} {enc:TypeId×Value→H} {P:Program} {w:World} {base:Nat} {held:Bool}
def JB {α:Type} (pr:α→DataW H→Prop) (xs:List α) (d:DataW H):Prop:=xs = []∨∃ es sp,d = .slice es sp∧es.length=xs.length∧∀ (i:Nat) (x:α) (e:DataW H),xs[i]? = some x→es[i]? = some e→pr x e
theorem YM {α:Type} [Inhabited α] {t e:TypeId} {v:Value} {d:DataW H} {p:List MemPlace} {encV:α→List AM.V} {sz:Nat} (pr:α→DataW H→Prop) (ht:P.underlying t=some (.slice e)) (hsz:P.cellsOf e=sz) (h0:0<sz) (hlen:∀ x,(encV x).length=sz)
  (hα:∀ n cs y,DataW.trod enc P w base (fun _=>true) held n e cs=some y→cs.length=sz→∃ x:α,AM.vM (AM.said w) [] (encV x) cs∧(∀ u∈cs,u.oneCell'=true)∧pr x y.1)
  (hone:∃ a l c,v = .slice a l c) (h:DataW.Trod enc P w base (fun _=>true) held t v d p):∃ xs:List α,AM.Rel (AM.said w) [] (.sl xs.length sz (xs.flatMap encV)) v∧JB pr xs d:=by
 obtain ⟨n,hn⟩:=h
 obtain ⟨A,L,C,rfl⟩:=hone
 rcases open_slice ht hn with ⟨h0',_⟩ | ⟨a,len,cap,m,n,D,Pl,hv,hb,hlc,hcm,hm,hxd,hx⟩
 ·simp [Value.cells] at h0'
  obtain ⟨rfl,rfl,rfl⟩:=h0'
  exact ⟨[],.sl0,.inl rfl⟩
 ·simp [Value.cells] at hv
  obtain ⟨rfl,rfl,rfl⟩:=hv
  have hlm:L≤m:=by rw [hm]; split <;> omega
  by_cases hC:C=0
  ·subst hC
   have:L=0:=by omega
   subst this
   exact ⟨[],.sl0,.inl rfl⟩
  have ha:∃ b o,a=⟨b,o,none⟩:=by
   obtain ⟨cs',q1,_⟩:=hx 0 (by rw [hm]; simp; omega)
   obtain ⟨_,hln,hci⟩:=World.cells?_some q1
   have:=hci 0 (by rw [hsz]; exact h0)
   rw [List.getElem?_eq_getElem (by omega)] at this
   obtain ⟨_,hsp⟩:=qjj (show w.cell? a=some _ by simpa [Addr.add] using this)
   obtain ⟨b,o,s⟩:=a
   cases hsp
   exact ⟨b,o,rfl⟩
  obtain ⟨b,o,rfl⟩:=ha
  haveI:Inhabited {q:α×List Value // q.2.length=sz}:=⟨⟨(default,List.replicate sz (.bool false)),by simp⟩⟩
  obtain ⟨f,hf⟩:=choose_lt (α := {q:α×List Value // q.2.length=sz}) (n:=L) (p:=fun i q=>w.cells? base (Addr.add ⟨b,o,none⟩ (i*P.cellsOf e)) (P.cellsOf e)=some q.1.2∧AM.vM (AM.said w) [] (encV q.1.1) q.1.2∧(∀ u∈q.1.2,u.oneCell'=true)∧pr q.1.1 (D i)) (fun i hi=>by
   obtain ⟨cs',h1,h2⟩:=hx i (by omega)
   have hcl:cs'.length=sz:=by rw [← hsz]; exact (World.cells?_some h1).2.1
   obtain ⟨x,h3,h4⟩:=hα _ _ _ h2 hcl
   exact ⟨⟨(x,cs'),hcl⟩,h1,h3,h4⟩)
  let qs:List {q:α×List Value // q.2.length=sz}:=(List.range L).map f
  have hq:∀ i q,qs[i]? = some q→i<L∧q=f i:=fun i q h=>by
   have hi:i<L:=by
    have:=(List.getElem?_eq_some_iff.1 h).1
    simpa [qs] using this
   simp [qs,hi] at h
   exact ⟨hi,h.symm⟩
  have hql:qs.length=L:=by simp [qs]
  have hmem:∀ q∈qs,AM.vM (AM.said w) [] (encV q.1.1) q.1.2∧(∀ u∈q.1.2,u.oneCell'=true):=fun q hm=>by
   obtain ⟨i,hi⟩:=List.getElem?_of_mem hm
   obtain ⟨h1,rfl⟩:=hq i q hi
   exact ⟨(hf i h1).2.1,(hf i h1).2.2.1⟩
  have hd:d = .slice ((List.range L).map D) ((List.range (m - L)).map fun j=>D (L+j)):=congrArg Prod.fst hxd
  refine ⟨qs.map fun q=>q.1.1,?_,.inr ⟨_,_,hd,by simp [hql],fun i x e hx he=>by
   rw [List.getElem?_map] at hx
   cases hqi:qs[i]? with
   | none=>rw [hqi] at hx; cases hx
   | some q =>
    rw [hqi] at hx
    obtain ⟨h1,rfl⟩:=hq i q hqi
    simp [h1] at hx he
    subst hx he
    exact (hf i h1).2.2.2⟩⟩
  rw [List.flatMap_map,List.length_map,hql]
  refine .sl (vs:=qs.flatMap fun q=>q.1.2) (AM.qh9 fun q hm=>(hmem q hm).1) (fun j u hu => ?_) ?_ hlc hcm (fun u hu => ?_)
  ·obtain ⟨i,q,j',hi,hj',e'⟩:=qj9 (cells:=fun q : {q:α×List Value // q.2.length=sz}=>q.1.2) (sz:=sz) (fun q=>q.2) hu
   subst e'
   obtain ⟨h1,rfl⟩:=hq i q hi
   obtain ⟨_,hln,hci⟩:=World.cells?_some (hf i h1).1
   have hj:j'<P.cellsOf e:=by
    have:=(List.getElem?_eq_some_iff.1 hj').1
    rw [(f i).2] at this
    omega
   have:=hci j' hj
   rw [hj',show Addr.add ⟨b,o,none⟩ (i*P.cellsOf e)=⟨b,o+i*P.cellsOf e,none⟩ from addr_add rfl _,addr_add rfl,hsz,Nat.add_assoc] at this
   exact this
  ·rw [AM.qav (enc:=fun q : {q:α×List Value // q.2.length=sz}=>encV q.1.1) (fun q=>hlen _),hql]
  ·obtain ⟨q,hm2,hu2⟩:=List.mem_flatMap.1 hu
   exact (hmem q hm2).2 u hu2
theorem qdC {α:Type} [Inhabited α] {t e:TypeId} {cs:List Value} {y:DataW H×List MemPlace} {n:Nat} {encV:α→List AM.V} {sz:Nat} (pr:α→DataW H→Prop) (ht:P.underlying t=some (.slice e)) (hsz:P.cellsOf e=sz) (h0:0<sz) (hlen:∀ x,(encV x).length=sz)
  (hα:∀ n cs y,DataW.trod enc P w base (fun _=>true) held n e cs=some y→cs.length=sz→∃ x:α,AM.vM (AM.said w) [] (encV x) cs∧(∀ u∈cs,u.oneCell'=true)∧pr x y.1)
  (h:DataW.trod enc P w base (fun _=>true) held n t cs=some y):∃ v,∃ xs:List α,cs = [v]∧AM.Rel (AM.said w) [] (.sl xs.length sz (xs.flatMap encV)) v∧v.oneCell'=true∧JB pr xs y.1:=by
 rcases open_slice ht h with ⟨rfl,_⟩ | ⟨a,len,cap,m,n',D,Pl,rfl,_⟩
 ·exact ⟨_,[],rfl,.sl0,rfl,.inl rfl⟩
 ·obtain ⟨xs,hx,hp⟩:=YM pr (v := .slice (some a) len cap) (d:=y.1) (p:=y.2) ht hsz h0 hlen hα ⟨_,_,_,rfl⟩ ⟨n,by simpa [Value.cells] using h⟩
  exact ⟨_,xs,rfl,hx,rfl,hp⟩
end
end Go.Proofs.YtnconfggojpkcaaGreat
namespace Go.Proofs.YtnconfggojpkcaaGreat
open Go.RowKit Go.ChangeShapes Go.WideShapes AM
section
variable {H:Type} {enc:TypeId×Value→H} {w:World} {base:Nat} {held:Bool} {r:Reach} {b0:Nat} {v:Value} {d:DataW H} {p:List MemPlace}
theorem qpq:Tryz.prog.cellsOf 3=1:=by kernel_rfl
theorem cRects:Tryz.prog.cellsOf 93=1:=by kernel_rfl
theorem re_rel {cs:List Value} {x:Re} (h:x.vals=cs):vM (said w) [] x.cs cs∧∀ u∈cs,u.oneCell'=true:=by
 subst h
 exact ⟨Yr (vs:=x.vals),fun u hu=>by
  simp only [Re.vals,List.mem_cons,List.not_mem_nil,or_false] at hu
  rcases hu with rfl | rfl | rfl | rfl <;> rfl⟩
end
section
variable {H:Type} {enc:TypeId×Value→H} {w:World} {base:Nat} {held:Bool} {r:Reach} {b0:Nat} {v:Value} {d:DataW H} {p:List MemPlace}
def RuD (x:Ru) (d:DataW H):Prop:=∃ parts e,d = .agg parts∧parts[5]? = some e∧JB (fun (_:Re) (_:DataW H)=>True) x.boxes e
theorem qnf {n:Nat} {cs:List Value} {y:DataW H×List MemPlace} (h:DataW.trod enc Tryz.prog w base (fun _=>true) held n 93 cs=some y):∃ v,∃ xs:List Re,cs = [v]∧Rel (said w) [] (slR xs) v∧v.oneCell'=true∧JB (fun (_:Re) (_:DataW H)=>True) xs y.1 :=
 qdC (fun _ _=>True) (encV:=Re.cs) (sz:=4) Tryz.underlying93 (by kernel_rfl) (by decide) (fun _=>rfl) (fun n cs y hy hl=>by
  obtain ⟨x,hx⟩:=qfO (Zz 6 _ _ _ _ _ qlW hy)
  exact ⟨x,(re_rel (w:=w) hx).1,(re_rel (w:=w) hx).2,trivial⟩) h
theorem qoV {n:Nat} {cs:List Value} {y:DataW H×List MemPlace} (h:DataW.trod enc Tryz.prog w base (fun _=>true) held n 95 cs=some y) (hl:cs.length=7):∃ x:Ru,vM (said w) [] x.cs cs∧(∀ u∈cs,u.oneCell'=true)∧x.boxes.length≤maxLen∧RuD x y.1:=by
 obtain ⟨xs,m,_,hyd,_,hlen,hf⟩:=DataW.trod_struct Tryz.underlying95 h
 have hlen:xs.length=7:=hlen
 match cs,hl with
 | [c0,c1,c2,c3,c4,c5,c6],_ =>
  have g:∀ i,i<7→∃ y,xs[i]? = some y:=fun i hi=>⟨_,List.getElem?_eq_getElem (by omega)⟩
  obtain ⟨y0,e0⟩:=g 0 (by decide)
  have h0:DataW.trod enc Tryz.prog w base (fun _=>true) held m 3 (([c0,c1,c2,c3,c4,c5,c6].drop 0).take (Tryz.prog.cellsOf 3))=some y0:=(hf 0 _ rfl).trans e0
  rw [qpq] at h0
  simp only [List.drop,List.take] at h0
  obtain ⟨y1,e1⟩:=g 1 (by decide)
  have h1:DataW.trod enc Tryz.prog w base (fun _=>true) held m 3 (([c0,c1,c2,c3,c4,c5,c6].drop 1).take (Tryz.prog.cellsOf 3))=some y1:=(hf 1 _ rfl).trans e1
  rw [qpq] at h1
  simp only [List.drop,List.take] at h1
  obtain ⟨y2,e2⟩:=g 2 (by decide)
  have h2:DataW.trod enc Tryz.prog w base (fun _=>true) held m 3 (([c0,c1,c2,c3,c4,c5,c6].drop 2).take (Tryz.prog.cellsOf 3))=some y2:=(hf 2 _ rfl).trans e2
  rw [qpq] at h2
  simp only [List.drop,List.take] at h2
  obtain ⟨y3,e3⟩:=g 3 (by decide)
  have h3:DataW.trod enc Tryz.prog w base (fun _=>true) held m 3 (([c0,c1,c2,c3,c4,c5,c6].drop 3).take (Tryz.prog.cellsOf 3))=some y3:=(hf 3 _ rfl).trans e3
  rw [qpq] at h3
  simp only [List.drop,List.take] at h3
  obtain ⟨y4,e4⟩:=g 4 (by decide)
  have h4:DataW.trod enc Tryz.prog w base (fun _=>true) held m 3 (([c0,c1,c2,c3,c4,c5,c6].drop 4).take (Tryz.prog.cellsOf 3))=some y4:=(hf 4 _ rfl).trans e4
  rw [qpq] at h4
  simp only [List.drop,List.take] at h4
  obtain ⟨y5,e5⟩:=g 5 (by decide)
  have h5:DataW.trod enc Tryz.prog w base (fun _=>true) held m 93 (([c0,c1,c2,c3,c4,c5,c6].drop 5).take (Tryz.prog.cellsOf 93))=some y5:=(hf 5 _ rfl).trans e5
  rw [cRects] at h5
  simp only [List.drop,List.take] at h5
  obtain ⟨y6,e6⟩:=g 6 (by decide)
  have h6:DataW.trod enc Tryz.prog w base (fun _=>true) held m 3 (([c0,c1,c2,c3,c4,c5,c6].drop 6).take (Tryz.prog.cellsOf 3))=some y6:=(hf 6 _ rfl).trans e6
  rw [qpq] at h6
  simp only [List.drop,List.take] at h6
  obtain ⟨z0,g0,_⟩:=DataW.trod_int Tryz.underlying3 h0
  obtain rfl:c0 = .int .i64 z0:=by simpa using g0
  obtain ⟨z1,g1,_⟩:=DataW.trod_int Tryz.underlying3 h1
  obtain rfl:c1 = .int .i64 z1:=by simpa using g1
  obtain ⟨z2,g2,_⟩:=DataW.trod_int Tryz.underlying3 h2
  obtain rfl:c2 = .int .i64 z2:=by simpa using g2
  obtain ⟨z3,g3,_⟩:=DataW.trod_int Tryz.underlying3 h3
  obtain rfl:c3 = .int .i64 z3:=by simpa using g3
  obtain ⟨z4,g4,_⟩:=DataW.trod_int Tryz.underlying3 h4
  obtain rfl:c4 = .int .i64 z4:=by simpa using g4
  obtain ⟨v5,bs,g5,r5,o5,d5⟩:=qnf h5
  obtain rfl:c5=v5:=by simpa using g5
  obtain ⟨z6,g6,_⟩:=DataW.trod_int Tryz.underlying3 h6
  obtain rfl:c6 = .int .i64 z6:=by simpa using g6
  refine ⟨⟨z0,z1,z2,z3,z4,bs,z6⟩,.cons (.sc _) (.cons (.sc _) (.cons (.sc _) (.cons (.sc _) (.cons (.sc _) (.cons r5 (.cons (.sc _) .nil)))))),fun u hu => ?_,rel_len r5,_,y5.1,congrArg Prod.fst hyd,by rw [List.getElem?_map,e5]; rfl,d5⟩
  simp only [List.mem_cons,List.not_mem_nil,or_false] at hu
  rcases hu with rfl | rfl | rfl | rfl | rfl | rfl | rfl <;> first | rfl | exact o5
end
end Go.Proofs.YtnconfggojpkcaaGreat
namespace Go.Proofs.YtnconfggojpkcaaGreat
open Go.RowKit AM
attribute [local simp] zQ qU jL zT zq zR zS zo jM zu qV Z8 Qm jC Ql yc ZE vZ slF qG Qo zK yx zA shares jh yt ze Qz QI qY ZF qZ qM vX zH yu Qe qL zD zG vU slV jE jG yE zU ZJ jB jF aMM aUn Qp vW jD zC jA qJ vV Qu vY vS Zw y9 qK Qs ZK zJ zI jH jR ZH eval zZ AM.valOf qm vO yR del SV.refers zY vQ jU shift ldV V.exact V.jg V.ofValue V.vP V.vL V.cells V.one Value.oneCell' ZI QY jV Q5 ZM ZC Qa Zy jl jI Qi ZL y8 yX Qr calm Qt Zn Qk feeds shrinks Qx looks isT Qf vK Qd putAt jT jc Zm sliceB isEq Qg zk qH zO zn qR zl zm qQ zP zi qP ZW Qw yB Zl QZ inO y7 Zi Mix.vT Mix.Qc QB QX qz qj qW zh qO ZV Qq yg yh ZG Zb yw yO Q8 jW V.fixed V.vC
attribute [local simp] vE je yL vH jQ vF vG jP yM vk jN V5 Ja yF QT Jb z0 JL VK Vo VU
theorem zvSe:zeroV Tryz.prog 59=some (.agg [.sc (.int .i64 0),.sc (.int .i64 0),.sc (.int .i64 0),.sc (.int .i64 0),.sc (.int .i64 0),.sc (.int .i64 0)]):=by kernel_rfl
def seB (s:Se):Bk := .cells [.v (.sc (.int .i64 s.id)),.v (.sc (.int .i64 s.lv)),.v (.sc (.int .i64 s.box.x0)),.v (.sc (.int .i64 s.box.y0)),.v (.sc (.int .i64 s.box.x1)),.v (.sc (.int .i64 s.box.y1))]
def qiO (x:Int×Se):Value×V:=(.int .i64 x.2.id,.agg x.2.cs)
theorem qjT {k:Int}:∀ {X:List (Int×Se)} {i:Nat},(∀ x∈X,x.2.id≠k)→qcp (.int .i64) (.int .i64 k) (X.map qiO) i=some none
 | [],_,_=>rfl
 | x::X,i,h=>by
  have e:Instr.sameNow (.int .i64) (.int .i64 k) (.int .i64 x.2.id)=some (k==x.2.id):=rfl
  have hne:(k==x.2.id)=false:=by simpa using Ne.symm (h x (by simp))
  simp only [List.map_cons,qiO,qcp,e,hne]
  exact qjT fun y hy=>h y (by simp [hy])
theorem qom {x:Int×Se}:∀ {X:List (Int×Se)} {i:Nat},(X.map fun x=>x.2.id).Nodup→x∈X→∃ j,qcp (.int .i64) (.int .i64 x.2.id) (X.map qiO) i=some (some (j,.agg x.2.cs))
 | y::X,i,hn,hx=>by
  rw [List.map_cons,List.nodup_cons] at hn
  have e:Instr.sameNow (.int .i64) (.int .i64 x.2.id) (.int .i64 y.2.id)=some (x.2.id==y.2.id):=rfl
  rcases List.mem_cons.1 hx with rfl | hx
  ·exact ⟨i,by simp only [List.map_cons,qiO,qcp,e,beq_self_eq_true]⟩
  ·have hne:(x.2.id==y.2.id)=false:=by
    rw [beq_eq_false_iff_ne]
    exact fun e=>hn.1 (List.mem_map.2 ⟨x,hx,e⟩)
   obtain ⟨j,hj⟩:=qom (i:=i+1) hn.2 hx
   exact ⟨j,by simp only [List.map_cons,qiO,qcp,e,hne]; exact hj⟩
structure Fnd (H:List Bk) (f q m:Nat) (X:List (Int×Se)):Prop where
 f:H[f]? = some (.cells [.v (.ptr q 0),.v (.map m)])
 m:H[m]? = some (.map (X.map qiO))
 q:∃ hs,QQ H q hs∧hs.Perm (X.map Yd)
theorem Fnd.fm {H:List Bk} {f q m:Nat} {X:List (Int×Se)} (h:Fnd H f q m X):f≠m∧q≠m∧f≠q:=by
 obtain ⟨h1,h2,hs,⟨es,h3,_⟩,_⟩:=h
 refine ⟨?_,?_,?_⟩
 ·rintro rfl; rw [h1] at h2; cases h2
 ·rintro rfl; rw [h2] at h3; cases h3
 ·rintro rfl; rw [h1] at h3; cases h3
theorem Fnd.keep {H H':List Bk} {f q m:Nat} {X:List (Int×Se)} {I:Nat→Prop} (h:Fnd H f q m X) (k:Kp I H H') (hf:¬ I f) (hq:¬ I q) (hm:¬ I m):Fnd H' f q m X:=by
 obtain ⟨h1,h2,hs,h3,h4⟩:=h
 exact ⟨k.cells hf h1,k.map hm h2,hs,h3.keep k hq,h4⟩
theorem Fnd.app {H L:List Bk} {f q m:Nat} {X:List (Int×Se)} (h:Fnd H f q m X):Fnd (H++L) f q m X:=h.keep (Kp.refl.app (I:=NoB)) (fun h=>h) (fun h=>h) (fun h=>h)
theorem qdy (H:List Bk):AFn Tryz.prog 49 [] H fun y H'=>∃ f q m,y = .ptr f 0∧Fnd H' f q m []∧H.length≤f∧H.length≤q∧H.length≤m∧Kp NoB H H':=by
 refine vwc (fn:=Tryz.f49) rfl ?_
 simp only [Tryz.f49,ql]
 refine AW.seq (vwb ?_)
 simp
 refine vwb ?_
 simp
 refine qc.of (znew H) ?_
 rintro y H1 ⟨rfl,rfl⟩
 simp
 refine ⟨H.length,H.length+1,⟨by simp,by simp,[],⟨[],by simp,Held.nil⟩,by simp⟩,by omega,by omega,Kp.refl.app⟩
theorem qiJ {H:List Bk} {f q m:Nat} {X:List (Int×Se)} (h:Fnd H f q m X) (k:Int) (s:Se) (hno:∀ x∈X,x.2.id≠s.id) (hl:X.length≤100000):AFn Tryz.prog 55 [.ptr f 0,.sc (.int .u64 k),.agg s.cs] H fun y H'=>y = .tup []∧Fnd H' f q m (X ++ [(k,s)])∧Kp (fun x=>x=q∨x=m) H H':=by
 obtain ⟨d1,d2,d3⟩:=h.fm
 obtain ⟨h1,h2,hs,h3,h4⟩:=h
 have hg1:=fun L=>hget (L:=L) h1
 have hg2:=fun L=>hget (L:=L) h2
 have hmf:=qjT (k:=s.id) (i:=0) hno
 unfold Se.cs
 refine vwc (fn:=Tryz.f55) rfl ?_
 simp only [Tryz.f55,ql]
 refine AW.seq (vwa [(1,12,[0,5])] ?_)
 simp
 refine AW.seq (vwb ?_)
 simp [hg1,hg2,hmf,zvSe]
 rw [XC rfl]
 have hsb:(H ++ [seB s,seB qw])[H.length]? = some (seB s):=by simp
 have e1:=hg1 [seB s,seB qw]
 have e2:=hg2 [seB s,seB qw]
 have hq1:QQ (H ++ [seB s,seB qw]) q hs:=h3.keep (Kp.refl.app (I:=NoB)) (fun h=>h)
 have kp1:Kp (fun x=>x=q∨x=m) H (H ++ [seB s,seB qw]):=Kp.refl.app
 change AW _ _ _ _ ⟨_,H ++ [seB s,seB qw]⟩
 have hml:=(List.getElem?_eq_some_iff.1 h2).1
 have hne:¬ H.length=m:=by omega
 generalize H ++ [seB s,seB qw]=H1 at *
 generalize H.length=z at *
 have hsb':=hsb
 unfold seB at hsb'
 refine AW.seq (vwb ?_)
 simp [hsb',e1,e2,hmf]
 have hm1:m<H1.length:=(List.getElem?_eq_some_iff.1 e2).1
 obtain ⟨H2,eH,c1,c2,c3,c4,c5⟩:∃ H2,H2=(Zk m H1).set m (.map (X.map qiO ++ [(.int .i64 s.id,.agg [.sc (.int .i64 s.id),.sc (.int .i64 s.lv),.sc (.int .i64 s.box.x0),.sc (.int .i64 s.box.y0),.sc (.int .i64 s.box.x1),.sc (.int .i64 s.box.y1)])]))∧H2[f]? = some (.cells [.v (.ptr q 0),.v (.map m)])∧H2[m]? = some (.map ((X ++ [(k,s)]).map qiO))∧H2[z]? = some (seB s)∧QQ H2 q hs∧Kp (fun x=>x=q∨x=m) H1 H2:=by
  have kk:Kp (fun x=>x=m) H1 ((Zk m H1).set m (.map (X.map qiO ++ [(.int .i64 s.id,.agg [.sc (.int .i64 s.id),.sc (.int .i64 s.lv),.sc (.int .i64 s.box.x0),.sc (.int .i64 s.box.y0),.sc (.int .i64 s.box.x1),.sc (.int .i64 s.box.y1)])]))):=Kp.killed Kp.refl rfl
  refine ⟨_,rfl,kk.cells d1 e1,?_,kk.cells hne hsb,hq1.keep kk d2,kk.weak fun x hx => .inr hx⟩
  rw [List.getElem?_set_self (by rw [Wn]; exact hm1),List.map_append]
  rfl
 rw [← eH]
 clear eH
 have c1':=c1
 have c3':=c3
 unfold seB at c3'
 have hlen:hs.length=X.length:=by rw [h4.length_eq,List.length_map]
 have hP:=qfG c4 (by omega) ⟨k,0,s.id⟩
 rw [JX] at hP
 refine vwa [(1,12,[0,5])] ?_
 simp [c1',c3']
 refine qc.of hP ?_
 rintro y H3 ⟨rfl,k3,hq3⟩
 simp
 refine ⟨⟨k3.V8.cells (fun e=>d3 e) c1,k3.V8.map (fun e=>d2 e.symm) c2,_,hq3,?_⟩,(kp1.trans c5).trans (k3.V8.weak fun x hx => .inl hx)⟩
 rw [List.map_append]
 exact (Xg _ _).trans ((h4.cons _).trans (List.perm_append_singleton _ _).symm)
def qjc (es:List Ent):V := .sl es.length 3 (es.flatMap Kq)
def TkI (H0:List Bk) (q:Nat) (hs:List Ent) (m:Int) (z:Nat) (F:Fr) (H:List Bk):Prop :=
 ∃ j,j≤hs.length∧z=hs.length - j∧(j:Int)≤max m 0∧QQ H q (hs.drop j)∧KpA (fun x=>x=q) H0 H∧F = [(0,.v (.ptr q 0)),(1,.v (.sc (.int .i64 m))),(2,.v (.fn (.func 110) [] [])),(7,qcM (hs.take j))]
theorem zTaken {H:List Bk} {q:Nat} {hs:List Ent} (hq:QQ H q hs) (hl:hs.length≤100000) (m:Int):AFn Tryz.prog 156 [.ptr q 0,.sc (.int .i64 m),.fn (.func 110) [] []] H fun y H'=>y=qjc (hs.take m.toNat)∧KpA (fun x=>x=q) H H':=by
 refine vwc (fn:=Tryz.f156) rfl ?_
 simp only [Tryz.f156,ql]
 refine AW.seq (vwb ?_)
 simp
 refine AW.seq (vwb ?_)
 simp
 refine AW.seq (AW.block (AW.qaZ (TkI H q hs m) ⟨hs.length,_,?_,0,by omega,by omega,by omega,by simpa using hq,KpA.refl,rfl⟩ ?_))
 ·simp [qz,qj,qm,qW,qcM]
 rintro z F H1 ⟨j,hj,rfl,hjm,q1,k1,rfl⟩
 have hjl:(hs.take j).length=j:=by rw [List.length_take]; omega
 unfold qcM
 refine AW.seq (AW.seq (vwb ?_))
 by_cases hlt:(j:Int)<m
 ·simp [hjl,hlt]
  refine vwb ?_
  simp
  have hP:=zpop q1 (by rw [List.length_drop]; omega)
  refine AW.block (AW.seq (vwb ?_))
  simp
  refine qc.of hP ?_
  rintro y H2 ⟨rfl,k2,q2⟩
  cases hd:hs.drop j with
  | nil =>
   have hjl2:hs.length≤j:=by
    have:=congrArg List.length hd
    rw [List.length_drop] at this
    simp at this
    omega
   simp [qgw]
   rw [qp rfl]
   refine AW.seq (vwb ?_)
   simp
   refine vwb ?_
   simp [qjc]
   have e1:hs.take j=hs:=List.take_of_length_le hjl2
   have e2:hs.take m.toNat=hs:=List.take_of_length_le (by omega)
   rw [e1,e2]
   exact ⟨⟨by omega,rfl⟩,(k1.trans k2).app⟩
  | cons e tl =>
   have hjl2:j<hs.length:=by
    have:=congrArg List.length hd
    rw [List.length_drop] at this
    simp at this
    omega
   have hej:hs[j]=e:=by
    have:=List.drop_eq_getElem_cons hjl2
    rw [hd] at this
    injection this with a b
    exact a.symm
   have htl:tl=hs.drop (j+1):=by
    have:=List.drop_eq_getElem_cons hjl2
    rw [hd] at this
    injection this with a b
   have htk:hs.take (j+1)=hs.take j ++ [e]:=by rw [← hej]; exact List.take_succ_eq_append_getElem hjl2
   simp [qgw,JX]
   rw [qp rfl]
   have hb:(H2 ++ [Bk.cells ([V.sc (.int .u64 e.k),V.sc (.int .u64 e.t),V.sc (.int .i64 e.i)].map SV.v)])[H2.length]? = some (.cells [.v (.sc (.int .u64 e.k)),.v (.sc (.int .u64 e.t)),.v (.sc (.int .i64 e.i))]):=by simp
   have q3:QQ (H2 ++ [Bk.cells ([V.sc (.int .u64 e.k),V.sc (.int .u64 e.t),V.sc (.int .i64 e.i)].map SV.v)]) q (hs.drop (j+1)):=by
    rw [hd,List.tail_cons,htl] at q2
    exact q2.keep (Kp.refl.app (I:=NoB)) (fun h=>h)
   have k3:KpA (fun x=>x=q) H (H2 ++ [Bk.cells ([V.sc (.int .u64 e.k),V.sc (.int .u64 e.t),V.sc (.int .i64 e.i)].map SV.v)]):=(k1.trans k2).app
   generalize H2 ++ [_]=H3 at *
   refine AW.seq (vwb ?_)
   simp
   refine vwb ?_
   simp [hb]
   refine ⟨⟨by omega,by omega⟩,hs.length - (j+1),by omega,_,?_,j+1,by omega,rfl,by omega,q3,k3,rfl⟩
   rw [htk]
   simp [qz,qj,qm,qcM,hjl,qbm]
 ·simp [hjl,hlt]
  refine vwb ?_
  simp
  refine vwb ?_
  simp [qjc]
  have hjm2:m.toNat=j:=by omega
  rw [hjm2]
  exact ⟨⟨by omega,rfl⟩,k1⟩
theorem zDrain {H:List Bk} {q:Nat} {hs:List Ent} (hq:QQ H q hs) (hl:hs.length≤100000) (m:Int):AFn Tryz.prog 108 [.ptr q 0,.sc (.int .i64 m)] H fun y H'=>y=qjc (hs.take m.toNat)∧KpA (fun x=>x=q) H H':=by
 have hT:=zTaken hq hl m
 refine vwc (fn:=Tryz.f108) rfl ?_
 simp only [Tryz.f108,ql]
 refine AW.seq (vwb ?_)
 simp
 refine vwb ?_
 simp
 refine qc.of hT ?_
 rintro y H1 ⟨rfl,k1⟩
 unfold qjc
 simp
 exact k1
theorem qeC (g:Gr):(g.box.x0==0&&(g.box.y0==0&&(g.box.x1==0&&g.box.y1==0)))=decide (g.box=⟨0,0,0,0⟩):=by
 obtain ⟨o,z,⟨a,b,c,d⟩,vo,t⟩:=g
 rw [Bool.eq_iff_iff]
 simp
theorem tokRight (g:Gr):PFn Tryz.prog 74 [.agg g.cs] (.sc (.bool (KN g))):=by
 have hR:=Jc g.box
 have hbe:=qeC g
 unfold Re.v Re.cs at hR
 unfold Gr.cs KN
 refine vwc (fn:=Tryz.f74) rfl ?_
 simp only [Tryz.f74,ql]
 refine AW.seq (vwb ?_)
 simp
 refine AW.seq (vwb ?_)
 simp
 refine qc.pure hR rfl rfl ?_
 simp
 generalize qd g.box=rb at *
 cases hv:g.void with
 | true =>
  refine AW.seq (vwb ?_)
  simp [hv,qk4,hbe]
  generalize decide (g.box=⟨0,0,0,0⟩)=bb at *
  by_cases c0:0≤g.ops
  rotate_left
  ·have d0:g.ops<0:=by omega
   refine vwb ?_
   simp [c0,d0]
  have d0:¬ (g.ops<0):=by omega
  by_cases c1:g.ops≤31
  rotate_left
  ·have d1:31<g.ops:=by omega
   refine vwb ?_
   simp [c0,d0,c1,d1]
  have d1:¬ (31<g.ops):=by omega
  by_cases c2:0≤g.zoom
  rotate_left
  ·have d2:g.zoom<0:=by omega
   refine vwb ?_
   simp [c0,d0,c1,d1,c2,d2]
  have d2:¬ (g.zoom<0):=by omega
  by_cases c3:g.zoom≤16
  rotate_left
  ·have d3:16<g.zoom:=by omega
   refine vwb ?_
   simp [c0,d0,c1,d1,c2,d2,c3,d3]
  have d3:¬ (16<g.zoom):=by omega
  by_cases c4:0≤g.til
  rotate_left
  ·have d4:g.til<0:=by omega
   refine vwb ?_
   simp [c0,d0,c1,d1,c2,d2,c3,d3,c4,d4]
  have d4:¬ (g.til<0):=by omega
  by_cases c5:g.til≤4294967295
  rotate_left
  ·have d5:4294967295<g.til:=by omega
   refine vwb ?_
   simp [c0,d0,c1,d1,c2,d2,c3,d3,c4,d4,c5,d5]
  have d5:¬ (4294967295<g.til):=by omega
  refine vwb ?_
  simp [c0,d0,c1,d1,c2,d2,c3,d3,c4,d4,c5,d5]
 | false =>
  refine AW.seq (vwb ?_)
  simp [hv]
  by_cases c0:0≤g.ops
  rotate_left
  ·have d0:g.ops<0:=by omega
   refine vwb ?_
   simp [c0,d0]
  have d0:¬ (g.ops<0):=by omega
  by_cases c1:g.ops≤31
  rotate_left
  ·have d1:31<g.ops:=by omega
   refine vwb ?_
   simp [c0,d0,c1,d1]
  have d1:¬ (31<g.ops):=by omega
  by_cases c2:0≤g.zoom
  rotate_left
  ·have d2:g.zoom<0:=by omega
   refine vwb ?_
   simp [c0,d0,c1,d1,c2,d2]
  have d2:¬ (g.zoom<0):=by omega
  by_cases c3:g.zoom≤16
  rotate_left
  ·have d3:16<g.zoom:=by omega
   refine vwb ?_
   simp [c0,d0,c1,d1,c2,d2,c3,d3]
  have d3:¬ (16<g.zoom):=by omega
  by_cases c4:0≤g.til
  rotate_left
  ·have d4:g.til<0:=by omega
   refine vwb ?_
   simp [c0,d0,c1,d1,c2,d2,c3,d3,c4,d4]
  have d4:¬ (g.til<0):=by omega
  by_cases c5:g.til≤4294967295
  rotate_left
  ·have d5:4294967295<g.til:=by omega
   refine vwb ?_
   simp [c0,d0,c1,d1,c2,d2,c3,d3,c4,d4,c5,d5]
  have d5:¬ (4294967295<g.til):=by omega
  refine vwb ?_
  simp [c0,d0,c1,d1,c2,d2,c3,d3,c4,d4,c5,d5]
theorem qbk (v:Vw) (z:Int):PFn Tryz.prog 62 [.agg v.cs,.sc (.int .i64 z)] (.sc (.int .i64 (lvl v z))):=by
 unfold Vw.cs lvl
 refine vwc (fn:=Tryz.f62) rfl (vwb ?_)
 simp only [Tryz.f62,ql]
 simp
theorem qaF (v:Vw):PFn Tryz.prog 24 [.agg v.cs] (.sc (.bool (yG v))):=by
 have hR:=tokRight v.g
 unfold Gr.cs at hR
 unfold Vw.cs yG
 refine vwc (fn:=Tryz.f24) rfl ?_
 simp only [Tryz.f24,ql]
 refine AW.seq (vwb ?_)
 simp
 by_cases c0:0≤v.ro
 rotate_left
 ·have d0:v.ro<0:=by omega
  refine vwb ?_
  simp [c0,d0]
 have d0:¬ (v.ro<0):=by omega
 by_cases c1:v.ro≤7
 rotate_left
 ·have d1:7<v.ro:=by omega
  refine vwb ?_
  simp [c0,d0,c1,d1]
 have d1:¬ (7<v.ro):=by omega
 by_cases c2:0≤v.ti
 rotate_left
 ·have d2:v.ti<0:=by omega
  refine vwb ?_
  simp [c0,d0,c1,d1,c2,d2]
 have d2:¬ (v.ti<0):=by omega
 by_cases c3:v.ti≤7
 rotate_left
 ·have d3:7<v.ti:=by omega
  refine vwb ?_
  simp [c0,d0,c1,d1,c2,d2,c3,d3]
 have d3:¬ (7<v.ti):=by omega
 refine vwb ?_
 simp [c0,d0,c1,d1,c2,d2,c3,d3]
 refine qc.pure hR rfl rfl ?_
 simp
end Go.Proofs.YtnconfggojpkcaaGreat
