/- Texts that a law rests on, part 8: plain lemmas and what functions of the program do. No condition. -/
import Derived.Test.YtnconfggojpkcaaGreatPa7
namespace Go.Proofs.YtnconfggojpkcaaGreat
set_option linter.all false
open Go.RowKit AM
theorem zs_of {l:List Ru} (ha:l.all qK=true) {v:Vw} {z:Int} (h:z∈vB l v):1≤z∧z≤16:=by
 unfold vB at h
 split at h
 ·rw [(vN _).2] at h
  unfold VT at h
  obtain ⟨la,_,h⟩:=List.mem_flatMap.1 h
  obtain ⟨q,hq,rfl⟩:=List.mem_map.1 h
  have h1:=Yf.1 ((KG ha v.ro v.ti la).corner hq).1
  have h2:=JB l v.ro v.ti la ⟨q.x0,q.y0⟩
  omega
 ·cases h
theorem qgk:∀ {zs:List Int} {a b:Int},zs.Pairwise (· < ·)→(∀ z∈zs,a≤z∧z≤b)→(zs.length:Int)≤max (b - a+1) 0
 | [],_,_,_,_=>by simp; omega
 | z::zs,a,b,h,hr=>by
  rw [List.pairwise_cons] at h
  have ih:=qgk (a:=z+1) (b:=b) h.2 fun y hy=>⟨by have:=h.1 y hy; omega,(hr y (by simp [hy])).2⟩
  have:=hr z (by simp)
  rw [List.length_cons]
  omega
theorem zs_len {l:List Ru} (ha:l.all qK=true) (v:Vw):(vB l v).length≤1000:=by
 have hp:(vB l v).Pairwise (· < ·):=by
  unfold vB
  split
  ·exact (vN _).1
  ·simp
 have:=qgk hp fun z hz=>zs_of ha hz
 omega
theorem zs_has {l:List Ru} (ha:l.all qK=true) {v:Vw} {x:Pr} (h:zmP l v x≠0):zmP l v x∈vB l v:=by
 unfold zmP at h ⊢
 cases hn:yC v.ro v.ti x.lab with
 | false=>exact absurd (qbL hn x.at_) h
 | true =>
  have hn0:yC v.ro v.ti 0=true:=by
   simp only [yC,Bool.and_eq_true] at hn ⊢
   exact ⟨hn.1,by decide⟩
  have hla:0≤x.lab∧x.lab≤7:=by
   simp only [yC,Bool.and_eq_true] at hn
   have:=hn.2
   simp only [zR,Bool.and_eq_true,decide_eq_true_eq] at this
   omega
  obtain ⟨q,hq,_,hz⟩:=((KG ha v.ro v.ti x.lab).iff x.at_.x x.at_.y _).1 (Yf.2 ⟨rfl,h⟩)
  unfold vB
  rw [if_pos hn0,(vN _).2]
  unfold VT
  refine List.mem_flatMap.2 ⟨x.lab.toNat,List.mem_range.2 (by omega),List.mem_map.2 ⟨q,?_,hz⟩⟩
  have e:((x.lab.toNat:Nat):Int)=x.lab:=by omega
  rw [e]
  exact hq
theorem lvl_zero {v:Vw} (h:vC v=true) {z:Int} (hl:lvl v z≠0) (hz:0≤z):z≠0:=by
 rintro rfl
 have:=qeO h
 apply hl
 unfold lvl
 split <;> omega
theorem qbM (l:List Ru) (v:Vw) (x:Pr):0≤zmP l v x∧zmP l v x≤16:=JB _ _ _ _ _
theorem see_zs {l:List Ru} (ha:l.all qK=true) {v:Vw} {x:Pr} {s:Se} (h:vR (zmP l v) v x=some s):zmP l v x∈lvls v (vB l v):=by
 obtain ⟨h1,h2,h3,h4,h5,h6,h7⟩:=qdQ (qbM l v x) h
 unfold lvls
 refine List.mem_filter.2 ⟨zs_has ha (lvl_zero h1 h5 (qbM l v x).1),by simpa using h5⟩
def docW (l:List Ru) (v:Vw) (rc:Re) (S:List Pr):List Se:=(S.filterMap (vR (zmP l v) v)).filter fun s=>zx s.box rc
section
variable {α:Type} {i:α→Int} {see:α→Option Se} {Z:α→Int} {win:Int→List α} {D:List Int} {S:List α}
theorem qjH {g:Se→Bool} (hw1:∀ z,∀ t∈win z,t∈S) (hw2:∀ t∈S,∀ s,see t=some s→(t∈win (Z t)↔g s=true)) (hZ:∀ t∈S,∀ s,see t=some s→Z t∈D) {x:Int×Se}:x∈ZX see (fun _=>0) (fun z=>(win z).filter fun x=>decide (Z x=z)) D↔x.1=0∧x.2∈(S.filterMap see).filter g:=by
 rw [qat,List.mem_filter,List.mem_filterMap]
 constructor
 ·rintro ⟨z,hz,t,ht,h1,h2⟩
  obtain ⟨k1,k2⟩:=List.mem_filter.1 ht
  simp only [decide_eq_true_eq] at k2
  subst k2
  exact ⟨h2,⟨t,hw1 _ t k1,h1⟩,(hw2 t (hw1 _ t k1) _ h1).1 k1⟩
 ·rintro ⟨h0,⟨t,ht,h1⟩,h2⟩
  exact ⟨_,hZ t ht _ h1,t,List.mem_filter.2 ⟨(hw2 t ht _ h1).2 h2,by simp⟩,h1,h0⟩
theorem qie (hi:∀ t s,see t=some s→s.id=i t) (hS:S.Pairwise fun a b=>i a<i b):(S.filterMap see).Pairwise fun a b=>a.id<b.id:=by
 rw [List.pairwise_filterMap]
 exact hS.imp fun {a b} hab s hs s' hs'=>by rw [hi _ _ hs,hi _ _ hs']; exact hab
theorem Wz (hS:S.Pairwise fun a b=>i a<i b):(S.map i).Nodup:=by
 rw [List.Nodup,List.pairwise_map]
 exact hS.imp fun h=>by omega
theorem qbb {X:List (Int×Se)} (h:(X.map fun x=>x.2.id).Nodup):X.Nodup:=List.Pairwise.of_map _ (fun a b (hab:a.2.id≠b.2.id) e=>hab (by rw [e])) h
theorem win_gen {g:Se→Bool} (hi:∀ t s,see t=some s→s.id=i t) (hS:S.Pairwise fun a b=>i a<i b) (hw1:∀ z,∀ t∈win z,t∈S) (hwn:∀ z,((win z).map i).Nodup) (hw2:∀ t∈S,∀ s,see t=some s→(t∈win (Z t)↔g s=true)) (hZ:∀ t∈S,∀ s,see t=some s→Z t∈D) (hD:D.Nodup) {R:List Se} {m:Nat}
  (h:∀ Y:List (Int×Se),Y.Perm (ZX see (fun _=>0) (fun z=>(win z).filter fun x=>decide (Z x=z)) D)→Y.Pairwise (fun a b=>(QK b).lt (QK a)=false)→R=(Y.take m).map (·.2)):R=((S.filterMap see).filter g).take m:=by
 have hd:((S.filterMap see).filter g).Pairwise fun a b=>a.id<b.id:=List.Pairwise.sublist List.filter_sublist (qie hi hS)
 have hn:=V3 (Z:=Z) (key:=fun _=>0) (sub:=fun z=>(win z).filter fun x=>decide (Z x=z)) (Wz hS) hi (fun z _=>⟨(hwn z).sublist (List.filter_sublist.map _),fun t ht=>by
  obtain ⟨k1,k2⟩:=List.mem_filter.1 ht
  exact ⟨hw1 _ t k1,by simpa using k2⟩⟩) hD
 have:=h (((S.filterMap see).filter g).map fun s=>(0,s)) ?_ ?_
 ·rw [this,← List.map_take,List.map_map]
  simp [Function.comp_def]
 ·refine (List.perm_ext_iff_of_nodup ?_ (qbb hn)).2 fun x => ?_
  ·refine qbb ?_
   rw [List.map_map,List.Nodup,List.pairwise_map]
   exact hd.imp fun h=>by simp only [Function.comp]; omega
  ·rw [qjH hw1 hw2 hZ,List.mem_map]
   constructor
   ·rintro ⟨s,hs,rfl⟩; exact ⟨rfl,hs⟩
   ·rintro ⟨h0,hs⟩; exact ⟨x.2,hs,by rw [← h0]⟩
 ·rw [List.pairwise_map]
  refine hd.imp fun {a b} hab => ?_
  rw [Ent.Y7]
  simp only [QK]
  omega
end
theorem qid {l:List Ru} {v:Vw} {S:List Pr} (hS:(S.map Pr.id).Nodup):((S.filterMap (vR (zmP l v) v)).map Se.id).Nodup:=QC (i:=Pr.id) (j:=Se.id) (fun t s h=>Kv h) hS
theorem XG {S:List Pr} (hS:S.Pairwise fun a b=>a.id<b.id):(S.map Pr.id).Nodup:=Wz hS
theorem qjr {l:List Ru} (ha:l.all qK=true) {v:Vw} {rc:Re} (hr:qo rc=true) {S:List Pr} (hS:S.Pairwise fun a b=>a.id<b.id) {R:List Se} {m:Nat}
  (h:∀ Y:List (Int×Se),Y.Perm (JG l v rc S (lvls v (vB l v)))→Y.Pairwise (fun a b=>(QK b).lt (QK a)=false)→R=(Y.take m).map (·.2)):R=(docW l v rc S).take m:=by
 refine win_gen (i:=Pr.id) (Z:=zmP l v) (win:=fun z=>VN (vV rc (lvl v z)).1 S) (g:=fun s=>zx s.box rc) (D:=lvls v (vB l v)) (fun t s h=>Kv h) hS (fun z t ht=>qfQ ht) (fun z=>qbT (XG hS)) (fun t ht s hs => ?_) (fun t _ s hs=>see_zs ha hs) ((Ji l v).sublist List.filter_sublist) h
 obtain ⟨h1,h2,h3,h4,h5,h6,h7⟩:=qdQ (qbM l v t) hs
 have hm:zU (vV rc (lvl v (zmP l v t))).1 t.at_=zx s.box rc:=by
  rw [h6]
  exact qhF hr h2 h7
 rw [← hm]
 constructor
 ·intro k1
  unfold VN at k1
  split at k1
  ·exact (List.mem_filter.1 ((Zy _).mem_iff.1 k1)).2
  ·cases k1
 ·intro h2
  unfold VN
  rw [if_pos (jT.1 h2).1]
  exact (Zy _).mem_iff.2 (List.mem_filter.2 ⟨ht,h2⟩)
def J9 (p:Pt) (s:Se):Ent:=⟨QZ s.box p,0,s.id⟩
def qcC (e:Ent):Ent:=⟨e.k,0,e.i⟩
def docS (l:List Ru) (v:Vw) (S:List Pr):List Se:=S.filterMap (vR (zmP l v) v)
def NearS (D:List Se) (p:Pt) (m:Nat) (R:List Se):Prop:=R.map (J9 p)=(sort (D.map (J9 p))).take m∧∀ s∈R,s∈D
theorem low_sort {A:List Ent} (h:∀ e∈A,e.t=1):(sort A).map qcC=sort (A.map qcC):=by
 refine Jl ?_ (Zn _) (((jD A).map qcC).trans (jD _).symm)
 have h1:∀ e∈sort A,e.t=1:=fun e he=>h e ((jD A).mem_iff.1 he)
 have h2:=Zn A
 unfold Srt at h2 ⊢
 rw [List.pairwise_map]
 refine List.Pairwise.imp_of_mem (fun {a b} ma mb h3 => ?_) h2
 have ha:=h1 a ma
 have hb:=h1 b mb
 rw [Ent.Y7] at h3 ⊢
 simp only [qcC]
 omega
theorem qh5 {X:List (Int×Se)} (hn:(X.map fun x=>x.2.id).Nodup) {R:List Se} {m:Nat} (h:∀ Y:List (Int×Se),Y.Perm X→Y.Pairwise (fun a b=>(QK b).lt (QK a)=false)→R=(Y.take m).map (·.2)) :
  ∃ Y:List (Int×Se),Y.Perm X∧Y.map QK=sort (X.map QK)∧R=(Y.take m).map (·.2):=by
 have hg:∀ x∈X,((QK x).k,VA X (QK x).i)=x:=fun x hx=>by
  have e:(QK x).i=x.2.id:=rfl
  rw [e,qcD hn hx]
  rfl
 have hgm:∀ A:List Ent,(∀ e∈A,∃ x∈X,e=QK x)→(A.map fun e=>(e.k,VA X e.i)).map QK=A:=by
  intro A
  induction A with
  | nil=>intro _; rfl
  | cons e A ih =>
   intro hA
   obtain ⟨x,hx,rfl⟩:=hA e (by simp)
   rw [List.map_cons,List.map_cons,hg x hx,ih fun e he=>hA e (by simp [he])]
 have hY:=hgm (sort (X.map QK)) fun e he=>by
  obtain ⟨x,hx,rfl⟩:=List.mem_map.1 ((jD _).mem_iff.1 he)
  exact ⟨x,hx,rfl⟩
 have hP:((sort (X.map QK)).map fun e=>(e.k,VA X e.i)).Perm X:=by
  refine ((jD _).map _).trans ?_
  rw [List.map_map]
  have e:X.map ((fun e:Ent=>(e.k,VA X e.i))∘QK)=X:=by
   have:∀ x∈X,((fun e:Ent=>(e.k,VA X e.i))∘QK) x=id x:=fun x hx=>hg x hx
   rw [List.map_congr_left this,List.map_id]
  rw [e]
 refine ⟨_,hP,hY,h _ hP ?_⟩
 have hs:=Zn (X.map QK)
 rw [← hY] at hs
 exact List.pairwise_map.1 hs
section
variable {α:Type} {i:α→Int} {see:α→Option Se} {Z:α→Int} {ent:Int→α→Ent} {D:List Int} {S:List α}
def clsG (i:α→Int) (Z:α→Int) (S:List α) (e:Ent):Int:=match S.find? fun t=>decide (i t=e.i) with
 | some t=>Z t
 | none=>0
theorem qje (hi:∀ t s,see t=some s→s.id=i t) (hS:(S.map i).Nodup) (p:Pt) {t:α} {s:Se} (ht:t∈S) (h:see t=some s):clsG i Z S (J9 p s)=Z t:=by
 have e:(J9 p s).i=i t:=hi _ _ h
 unfold clsG
 rw [e,qbE hS ht]
theorem qcY (hi:∀ t s,see t=some s→s.id=i t) {p:Pt} (hf:∀ t s,t∈S→see t=some s→J9 p s=qcC (ent (Z t) t)) (hS:(S.map i).Nodup) (z:Int):∀ S':List α,(∀ t∈S',t∈S)→((S'.filterMap see).map (J9 p)).filter (fun e=>decide (clsG i Z S e=z))=((S'.filter fun t=>(see t).isSome&&decide (Z t=z)).map (ent z)).map qcC
 | [],_=>rfl
 | t::S',h=>by
  have ih:=qcY hi hf hS z S' fun t ht=>h t (by simp [ht])
  rw [List.filterMap_cons]
  cases hs:see t with
  | none =>
   simp only
   rw [List.filter_cons_of_neg (by simp [hs])]
   exact ih
  | some s =>
   have hc:=qje (Z:=Z) hi hS p (h t (by simp)) hs
   simp only [List.map_cons]
   by_cases hz:Z t=z
   ·rw [List.filter_cons_of_pos (by simp [hc,hz]),List.filter_cons_of_pos (by simp [hs,hz]),ih]
    simp only [List.map_cons]
    rw [hf t s (h t (by simp)) hs,hz]
   ·rw [List.filter_cons_of_neg (by simp [hc,hz]),List.filter_cons_of_neg (by simp [hz]),ih]
theorem qiD {p:Pt} (hf:∀ t s,t∈S→see t=some s→J9 p s=qcC (ent (Z t) t)) (z:Int):∀ A:List α,(∀ t∈A,t∈S∧((see t).isSome&&decide (Z t=z))=true)→((A.filterMap see).map fun s=>J9 p s)=(A.map (ent z)).map qcC
 | [],_=>rfl
 | t::A,h=>by
  have ih:=qiD hf z A fun t ht=>h t (by simp [ht])
  obtain ⟨hm,ht⟩:=h t (by simp)
  simp only [Bool.and_eq_true,decide_eq_true_eq] at ht
  obtain ⟨s,hs⟩:=Option.isSome_iff_exists.1 ht.1
  rw [List.filterMap_cons,hs]
  simp only [List.map_cons]
  rw [ih,hf t s hm hs,ht.2]
def qe7 (i:α→Int) (see:α→Option Se) (Z:α→Int) (ent:Int→α→Ent) (p:Pt) (mm:Int) (S:List α) (D:List Int):List (Int×Se):=ZX see (fun s=>QZ s.box p) (fun z=>KR i (ent z) S (fun t=>(see t).isSome&&decide (Z t=z)) mm) D
theorem qe6 (hi:∀ t s,see t=some s→s.id=i t) (he:∀ z t,(ent z t).i=i t) {p:Pt} {mm:Int} (hS:(S.map i).Nodup) (hD:D.Nodup):((qe7 i see Z ent p mm S D).map fun x=>x.2.id).Nodup :=
 V3 (Z:=Z) hS hi (fun z _=>⟨qbc (he z) hS _ _,fun t ht=>by
  obtain ⟨h1,h2⟩:=KC (he z) hS ht
  simp only [Bool.and_eq_true,decide_eq_true_eq] at h2
  exact ⟨h1,h2.2⟩⟩) hD
theorem qhP (hi:∀ t s,see t=some s→s.id=i t) (he:∀ z t,(ent z t).i=i t) (h1:∀ z t,(ent z t).t=1) {p:Pt} {mm:Int} (hf:∀ t s,t∈S→see t=some s→J9 p s=qcC (ent (Z t) t)) (hS:(S.map i).Nodup) (D:List Int):(qe7 i see Z ent p mm S D).map QK=D.flatMap fun z=>(sort (((S.filterMap see).map (J9 p)).filter fun e=>decide (clsG i Z S e=z))).take mm.toNat:=by
 unfold qe7 ZX
 rw [List.map_flatMap]
 refine congrArg (fun f=>D.flatMap f) (funext fun z => ?_)
 rw [List.map_map]
 have e:(QK∘fun s=>(QZ s.box p,s))=J9 p:=funext fun s=>rfl
 rw [e,qiD hf z _ fun t ht=>KC (he z) hS ht,qjQ (he z) hS,List.map_take,low_sort,qcY hi hf hS z S fun t h=>h]
 intro e he
 obtain ⟨s,_,rfl⟩:=List.mem_map.1 he
 exact h1 z s
theorem near_gen (hi:∀ t s,see t=some s→s.id=i t) (he:∀ z t,(ent z t).i=i t) (h1:∀ z t,(ent z t).t=1) {p:Pt} {mm:Int} (hf:∀ t s,t∈S→see t=some s→J9 p s=qcC (ent (Z t) t)) (hS:(S.map i).Nodup) (hZ:∀ t∈S,∀ s,see t=some s→Z t∈D) (hzn:D.Nodup) {R:List Se}
  (h:∀ Y:List (Int×Se),Y.Perm (qe7 i see Z ent p mm S D)→Y.Pairwise (fun a b=>(QK b).lt (QK a)=false)→R=(Y.take mm.toNat).map (·.2)):NearS (S.filterMap see) p mm.toNat R:=by
 have hn:=qe6 (Z:=Z) (p:=p) (mm:=mm) hi he hS hzn
 obtain ⟨Y,hY1,hY2,rfl⟩:=qh5 hn h
 rw [qhP hi he h1 hf hS] at hY2
 have hmem:∀ x∈Y,∃ t∈S,see t=some x.2∧x.1=QZ x.2.box p:=fun x hx=>by
  obtain ⟨z,_,t,ht,h1,h2⟩:=qat.1 (hY1.mem_iff.1 hx)
  exact ⟨t,(KC (he z) hS ht).1,h1,h2⟩
 have hm:=qgB (Es:=(S.filterMap see).map (J9 p)) (zs:=D) (c:=clsG i Z S) (m:=mm.toNat) ?_ hzn ?_
 ·refine ⟨?_,fun s hs => ?_⟩
  ·rw [← hm,← hY2,← List.map_take,List.map_map]
   refine List.map_congr_left fun x hx => ?_
   obtain ⟨t,_,_,h2⟩:=hmem x (List.mem_of_mem_take hx)
   simp only [Function.comp,J9,QK,h2]
  ·obtain ⟨x,hx,rfl⟩:=List.mem_map.1 hs
   obtain ⟨t,ht,h1,_⟩:=hmem x (List.mem_of_mem_take hx)
   exact List.mem_filterMap.2 ⟨t,ht,h1⟩
 ·have:=QC (i:=i) (j:=Se.id) hi hS
  refine List.Pairwise.of_map Ent.i (fun a b (hab:a.i≠b.i) e=>hab (by rw [e])) ?_
  rw [List.map_map]
  exact this
 ·intro e he
  obtain ⟨s,hs,rfl⟩:=List.mem_map.1 he
  obtain ⟨t,ht,h1⟩:=List.mem_filterMap.1 hs
  rw [qje hi hS p ht h1]
  exact hZ t ht s h1
end
theorem see_far {l:List Ru} {v:Vw} {t:Pr} {s:Se} (p:Pt) (h:vR (zmP l v) v t=some s):J9 p s=qcC (ZW p (lvl v (zmP l v t)) t):=by
 have hid:=Kv h
 unfold vR Zz at h
 split at h
 ·split at h
  ·cases h
  ·cases h
   rfl
 ·cases h
theorem qhV {l:List Ru} (ha:l.all qK=true) {v:Vw} {p:Pt} {mm:Int} {S:List Pr} (hS:(S.map Pr.id).Nodup) {R:List Se}
  (h:∀ Y:List (Int×Se),Y.Perm (JH l v p mm S (lvls v (vB l v)))→Y.Pairwise (fun a b=>(QK b).lt (QK a)=false)→R=(Y.take mm.toNat).map (·.2)):NearS (docS l v S) p mm.toNat R :=
 near_gen (i:=Pr.id) (Z:=zmP l v) (ent:=fun z t=>ZW p (lvl v z) t) (fun t s h=>Kv h) (fun _ _=>rfl) (fun _ _=>rfl) (fun t s _ h=>see_far p h) hS (fun t _ s h=>see_zs ha h) ((Ji l v).sublist List.filter_sublist) h
end Go.Proofs.YtnconfggojpkcaaGreat
namespace Go.Proofs.YtnconfggojpkcaaGreat
set_option linter.all false
open Go.RowKit AM
set_option maxRecDepth 10000
attribute [local simp] jW zL yA jZ jq jX jY jo yB jr zM Xw Zf jQ Ze yP VX yO slF qU Zg jE Ql zN shares jF Qd zP ZM yt zo VY zq q8 yM jA Qe QN qZ zY jy yJ slV vD vF QM vg Yo jP vE aMM aUn Zh yL jR zX jO qX yK Zv yN yI VD Qo qY Zr Yp jC jB vG qM Yk eval qL AM.valOf qp qO zT del SV.refers zC yG jv shift ldV V.exact V.zh V.ofValue V.yh V.vT V.cells V.one Value.oneCell' Ym Q9 jH Zj Xf VW Qz VP jK zn QY Yt Qm Qg Zo calm Zu JN Zc feeds shrinks ZG looks isT QO vS QD putAt zV zQ JK sliceB isEq QS jg zi jU jm zK jh jl zJ jV jf zH Xt ZE QI JA Za inO yg Z9 Mix.qR Mix.QA Z5 Q7 qD qm q9 je zG Xr Zm y7 y8 Yg ZA zS vZ Zp jL V.fixed V.vO
attribute [local simp] yT jN QE yX vQ yU yV vP QF yR vL qbo Vk vY JX Vl z0 Z0 KN VQ Ws
theorem rowSe {xs:List Se} {k:Nat} (h:k<xs.length):AM.rowAt 6 (xs.flatMap Se.cs) (k:Int) = [.sc (.int .i64 xs[k].id),.sc (.int .i64 xs[k].lv),.sc (.int .i64 xs[k].box.x0),.sc (.int .i64 xs[k].box.y0),.sc (.int .i64 xs[k].box.x1),.sc (.int .i64 xs[k].box.y1)]:=ZV (enc:=Se.cs) (sz:=6) (fun _=>rfl) h
theorem hEqSe0 (a b c d e f a' b' c' d' e' f':Int):eqT Tryz.prog 10 59 (.agg #[.int .i64 a,.int .i64 b,.int .i64 c,.int .i64 d,.int .i64 e,.int .i64 f]) (.agg #[.int .i64 a',.int .i64 b',.int .i64 c',.int .i64 d',.int .i64 e',.int .i64 f'])=some (a==a'&&(b==b'&&((c==c'&&(d==d'&&(e==e'&&(f==f'&&true))))&&true))):=by kernel_rfl
theorem hGSe:Tryz.prog.eqGuardType Tryz.prog.depth 59=false:=by kernel_rfl
theorem se_eq {a b:Se}:a=b↔a.id=b.id∧a.lv=b.lv∧a.box.x0=b.box.x0∧a.box.y0=b.box.y0∧a.box.x1=b.box.x1∧a.box.y1=b.box.y1:=by
 obtain ⟨ai,al,⟨a0,a1,a2,a3⟩⟩:=a
 obtain ⟨bi,bl,⟨b0,b1,b2,b3⟩⟩:=b
 simp [and_assoc]
theorem hEqSe (p q:Se):eqT Tryz.prog 10 59 (.agg #[.int .i64 p.id,.int .i64 p.lv,.int .i64 p.box.x0,.int .i64 p.box.y0,.int .i64 p.box.x1,.int .i64 p.box.y1]) (.agg #[.int .i64 q.id,.int .i64 q.lv,.int .i64 q.box.x0,.int .i64 q.box.y0,.int .i64 q.box.x1,.int .i64 q.box.y1])=some (decide (p=q)):=by
 rw [hEqSe0]
 congr 1
 rw [Bool.eq_iff_iff,decide_eq_true_iff,se_eq]
 simp [and_assoc]
theorem qb1 {xs:List Se} {k:Nat} (h:k<xs.length):xs.take (k+1)=xs.take k ++ [xs[k]]:=List.take_succ_eq_append_getElem h
def SmS (xs ys:List Se) (k:Nat) (F:Fr) (H:List Bk):Prop:=xs.take k=ys.take k∧H = []∧F = [(0,.v (Yi xs)),(1,.v (Yi ys)),(5,.v (.sc (.int .i64 k)))]
theorem dSame (xs ys:List Se) (hx:xs.length≤1000000000):PFn Tryz.prog 15 [Yi xs,Yi ys] (.sc (.bool (decide (xs=ys)))):=by
 refine AFn.intro (fn:=Tryz.f15) (by kernel_rfl) rfl (by kernel_rfl) (by simp) (AW.ofx [] mixed (by kernel_rfl) ?_)
 simp only [Tryz.f15,qj]
 simp [Yi]
 by_cases hl:xs.length=ys.length
 ·simp [Yi,hl]
  refine AW.count xs.length (SmS xs ys) ⟨_,?_,by simp,rfl,rfl⟩ ?_
  ·simp [qD,qm,qp,Yi,hl]
  rintro k F H hk ⟨ht,rfl,rfl⟩
  refine AW.ofx [] mixed (by kernel_rfl) ?_
  by_cases hlt:k<xs.length
  ·have hlt':k<ys.length:=by omega
   have w1:IntKind.i64.wrap ((k:Int)+1)=(k:Int)+1:=by rw [wrap_i64] <;> omega
   by_cases he:xs[k]=ys[k]
   ·simp [Yi,hlt,hlt',rowSe,hEqSe,hGSe,w1,he]
    refine ⟨_,?_,?_,rfl,rfl⟩
    ·simp [qD,qm,qp,Yi]
    ·rw [qb1 hlt,qb1 hlt',ht,he]
   ·have:¬ xs=ys:=fun e'=>by
     subst e'
     exact he rfl
    simp [Yi,hlt,hlt',rowSe,hEqSe,hGSe,w1,he,this]
  ·have hk':k=xs.length:=by omega
   have he:xs=ys:=by
    rw [hk',List.take_length,hl,List.take_length] at ht
    exact ht
   simp [Yi,hlt]
   exact he
 ·have:¬ xs=ys:=fun e=>hl (by rw [e])
  have hl':((xs.length:Int) != ys.length)=true:=by simp; omega
  simp [hl',this]
end Go.Proofs.YtnconfggojpkcaaGreat
namespace Go.Proofs.YtnconfggojpkcaaGreat
set_option linter.all false
open Go.RowKit AM Can
set_option maxRecDepth 10000
attribute [local simp] jW zL yA jZ jq jX jY jo yB jr zM Xw Zf jQ Ze yP VX yO slF qU Zg jE Ql zN shares jF Qd zP ZM yt zo VY zq q8 yM jA Qe QN qZ zY jy yJ slV vD vF QM vg Yo jP vE aMM aUn Zh yL jR zX jO qX yK Zv yN yI VD Qo qY Zr Yp jC jB vG qM Yk eval qL AM.valOf qp qO zT del SV.refers zC yG jv shift ldV V.exact V.zh V.ofValue V.yh V.vT V.cells V.one Value.oneCell' Ym Q9 jH Zj Xf VW Qz VP jK zn QY Yt Qm Qg Zo calm Zu JN Zc feeds shrinks ZG looks isT QO vS QD putAt zV zQ JK sliceB isEq QS jg zi jU jm zK jh jl zJ jV jf zH Xt ZE QI JA Za inO yg Z9 Mix.qR Mix.QA Z5 Q7 qD qm q9 je zG Xr Zm y7 y8 Yg ZA zS vZ Zp jL V.fixed V.vO
attribute [local simp] yT jN QE yX vQ yU yV vP QF yR vL qbo Vk vY JX Vl z0 Z0 KN VQ Ws
def newV (e:Int):V := .tup [.sc (.pointer none),.sc (.int .i64 e)]
theorem gnewLong (l:List Ru) (hl:32<l.length):PFn Tryz.prog 40 [slU l] (newV 2):=by
 have n1:(32:Int)<l.length:=by omega
 refine AFn.intro (fn:=Tryz.f40) (by kernel_rfl) rfl (by kernel_rfl) (by simp) (AW.ofx [] mixed (by kernel_rfl) ?_)
 simp only [Tryz.f40,qj]
 simp [slU,n1,newV]
theorem gnewArg (l:List Ru) (hl:l.length≤32) (hb:∀ r∈l,r.boxes.length≤9223372036854775807) (hr:l.all qK=false):PFn Tryz.prog 40 [slU l] (newV 1):=by
 have hR:=uRight l (by omega) hb
 rw [hr] at hR
 have c1:=yc l
 unfold slU at c1
 have n1:¬ (32:Int)<l.length:=by omega
 refine AFn.intro (fn:=Tryz.f40) (by kernel_rfl) rfl (by kernel_rfl) (by simp) (AW.ofx [] mixed (by kernel_rfl) ?_)
 simp only [Tryz.f40,qj]
 simp [slU,n1]
 refine qc.pure hR (by simp [V.qC,c1]) rfl ?_
 simp [newV]
end Go.Proofs.YtnconfggojpkcaaGreat
namespace Go.Proofs.YtnconfggojpkcaaGreat
set_option linter.all false
open Go.RowKit AM
set_option maxRecDepth 10000
attribute [local simp] jW zL yA jZ jq jX jY jo yB jr zM Xw Zf jQ Ze yP VX yO slF qU Zg jE Ql zN shares jF Qd zP ZM yt zo VY zq q8 yM jA Qe QN qZ zY jy yJ slV vD vF QM vg Yo jP vE aMM aUn Zh yL jR zX jO qX yK Zv yN yI VD Qo qY Zr Yp jC jB vG qM Yk eval qL AM.valOf qp qO zT del SV.refers zC yG jv shift ldV V.exact V.zh V.ofValue V.yh V.vT V.cells V.one Value.oneCell' Ym Q9 jH Zj Xf VW Qz VP jK zn QY Yt Qm Qg Zo calm Zu JN Zc feeds shrinks ZG looks isT QO vS QD putAt zV zQ JK sliceB isEq QS jg zi jU jm zK jh jl zJ jV jf zH Xt ZE QI JA Za inO yg Z9 Mix.qR Mix.QA Z5 Q7 qD qm q9 je zG Xr Zm y7 y8 Yg ZA zS vZ Zp jL V.fixed V.vO
theorem hNilN {x y:Operand}:Jb Tryz.prog .eql 138 x y (.pointer none) (.pointer none)=some (.bool true):=by kernel_rfl
theorem nfresh (c:Ce) (H:List Bk):AFn Tryz.prog 90 [c.v] H fun y H'=>y = .ptr (H.length+2) 0∧H'=H ++ [ceB c,.map [],.cells (vU c (fun _=>none) 0 (H.length+1))]:=by
 unfold Ce.v Ce.cs
 refine AFn.intro (fn:=Tryz.f90) (by kernel_rfl) rfl (by kernel_rfl) (by simp) (AW.ofx [] mixed (by kernel_rfl) ?_)
 simp only [Tryz.f90,qj]
 simp [setCells,qh,vU,YC,ceB]
def PutM (H:List Bk) (d:Nat) (c h:Ce) (S:List Sh) (s:Sh) (b m i:Nat) (es:List Sh) (k:Nat→Option Nat) (J:Nat→Nat→Prop) (F:Fr) (H3:List Bk):Prop :=
 ∃ b' J',H3[b]? = some (.cells (vU c (VO k i (some b')) (S.length+1) m))∧H3[m]? = some (.map (es.map Ju))∧H3[H.length]? = some (ceB h)∧H3[H.length+1]? = some (.cells (s.cs.map .v)) ∧
  Nd H3 d (qA c (i:Nat)) (sub' (qA c (i:Nat)) S) b' J'∧(∀ x,J' x→J i x∨H.length≤x)∧Kp (fun x=>x=b) H H3∧H.length≤H3.length ∧
  F = [(0,.v (.ptr b 0)),(4,.v (.ptr H.length 0)),(5,.v (.ptr (H.length+1) 0)),(6,.v (.sc (.int .i64 i)))]
theorem nput:∀ (d:Nat) (c:Ce) (H:List Bk) (S:List Sh) (b:Nat) (I:Nat→Prop) (s:Sh),Nd H d c S b I→zk c=true→(d:Int)+c.l=17→yE c (hm s)=true→zk (hm s)=true→(∀ t∈S,t.id≠s.id)→S.length<1000000 →
  AFn Tryz.prog 94 [.ptr b 0,(hm s).v,s.v] H fun y H'=>Kp I H H'∧∃ I',Nd H' d c (s::S) b I'∧∀ x,I' x→I x∨H.length≤x:=by
 intro d
 induction d with
 | zero=>intro c H S b I s h; exact h.elim
 | succ d ih =>
  intro c H S b I s hN hc hd hu hr hid hlen
  obtain ⟨m,es,k,J,h1,h2,h3,h4,h5,h6⟩:=id hN
  generalize hh:hm s=h at *
  unfold Ce.v Ce.cs Sh.v Sh.cs
  unfold vU at h1
  have w1:IntKind.i64.wrap ((S.length:Int)+1)=(S.length:Int)+1:=by rw [wrap_i64] <;> omega
  have h1':=fun L=>hget (L:=L) h1
  refine AFn.intro (fn:=Tryz.f94) (by kernel_rfl) rfl (by kernel_rfl) (by simp) ?_
  simp only [Tryz.f94,qj]
  refine AW.seq (AW.ofx [(7,6,[0,6,7])] mixed (by kernel_rfl) ?_)
  simp
  refine AW.seq (AW.ofx [(7,6,[0,6,7])] mixed (by kernel_rfl) ?_)
  simp [h1',w1]
  have hbl:=(List.getElem?_eq_some_iff.1 h1).1
  have hml:=(List.getElem?_eq_some_iff.1 h2).1
  have hbm:b≠m:=by rintro rfl; rw [h1] at h2; cases h2
  obtain ⟨H1,e1,g1,g2,g3,g4,g5,g6⟩:∃ H1,H1=setCells (H ++ [Bk.cells [.v (.sc (.int .i64 h.l)),.v (.sc (.int .i64 h.x)),.v (.sc (.int .i64 h.y))],Bk.cells [.v (.sc (.int .i64 s.id)),.v (.sc (.int .i64 s.box.x0)),.v (.sc (.int .i64 s.box.y0)),.v (.sc (.int .i64 s.box.x1)),.v (.sc (.int .i64 s.box.y1)),.v (.sc (.int .i64 s.lab))]]) b 7 [.sc (.int .i64 (S.length+1))] ∧
    H1[b]? = some (.cells [.v (.sc (.int .i64 c.l)),.v (.sc (.int .i64 c.x)),.v (.sc (.int .i64 c.y)),.v (YC (k 0)),.v (YC (k 1)),.v (YC (k 2)),.v (YC (k 3)),.v (.sc (.int .i64 (S.length+1))),.v (.map m)])∧H1[m]? = some (.map (es.map Ju)) ∧
    H1[H.length]? = some (.cells [.v (.sc (.int .i64 h.l)),.v (.sc (.int .i64 h.x)),.v (.sc (.int .i64 h.y))])∧H1[H.length+1]? = some (.cells [.v (.sc (.int .i64 s.id)),.v (.sc (.int .i64 s.box.x0)),.v (.sc (.int .i64 s.box.y0)),.v (.sc (.int .i64 s.box.x1)),.v (.sc (.int .i64 s.box.y1)),.v (.sc (.int .i64 s.lab))]) ∧
    H1.length=H.length+2∧Kp (fun x=>x=b) H H1:=by
   refine ⟨_,rfl,?_⟩
   simp only [setCells,qF (h1' _)]
   refine ⟨?_,?_,?_,?_,by simp,(Kp.refl.app).set rfl⟩
   ·rw [List.getElem?_set_self (by simp; omega)]
    simp
   ·rw [List.getElem?_set_ne hbm]
    exact hget h2
   ·rw [List.getElem?_set_ne (by omega)]
    simp
   ·rw [List.getElem?_set_ne (by omega)]
    simp
  rw [← e1]
  clear e1
  refine AW.seq (AW.ofx [(7,6,[0,6,7])] mixed (by kernel_rfl) ?_)
  by_cases hch:c=h
  ·have hf:J7 s.id es 0=none:=K4 fun e he=>hid e (List.mem_filter.1 (h3.mem_iff.1 he)).1
   simp [g1,g2,g3,g4,qj3,qj2,hch,Y9,hf]
   have hk2:Kp (fun x=>x=b∨x=m) H ((zf m H1).set m (.map (es.map Ju ++ [Ju s]))):=(g6.weak fun x hx => .inl hx).killed (.inr rfl)
   refine ⟨hk2.weak fun x hx=>(h4 x).2 (hx.imp id .inl),I,?_,fun x hx => .inl hx⟩
   rw [← hch]
   refine Nd.here ?_ ?_ h3 h4 h5 h6 hk2 (hh.trans hch.symm)
   ·rw [List.getElem?_set_ne (Ne.symm hbm)]
    refine X4 g1 fun _ _ _ e=>by cases e
   ·rw [List.getElem?_set_self (by rw [ZO,g5]; omega)]
    simp [Ju,Sh.v,Sh.cs]
  ·have hlt:=qbX hu hch
   have hcr:=qQ.1 hc
   have hhr:=qQ.1 hr
   obtain ⟨i,hi,hw⟩:=qix c h
   have hW:=cWay c h hr hcr.1.1 hlt
   rw [hw] at hW
   unfold Ce.v Ce.cs at hW
   have hC:=cChild c (i:Nat)
   rw [qeE hc (by omega),if_pos (by omega)] at hC
   have hccr:=X7 (c:=c) (i:=(i:Nat)) hc (by omega) (by omega)
   have hccl:(qA c (i:Nat)).l=c.l+1:=rfl
   have hucc:yE (qA c (i:Nat)) h=true:=(Qw hi hu hch).2 hw
   simp [g1,g3,qj3,qj2,hch]
   refine AW.seq (AW.ofx [(7,6,[0,6,7])] mixed (by kernel_rfl) ?_)
   simp [g1,g3]
   refine qc.pure hW rfl rfl ?_
   simp [g1,g3]
   refine AW.mid (PutM H d c h S s b m i es k J) (AW.ofx [(7,6,[0,6,7])] mixed (by kernel_rfl) ?_) ?_
   ·cases hki:k i with
    | none =>
     generalize hcc:qA c (i:Nat)=cc at *
     have hF:=nfresh cc (H1 ++ [ceB cc])
     have hb1:b<H1.length:=(List.getElem?_eq_some_iff.1 g1).1
     have hm1:m<H1.length:=(List.getElem?_eq_some_iff.1 g2).1
     have hSi:sub' cc S = []:=by
      rcases h6 i hi with ⟨e,_,_⟩ | ⟨_,b2,e,_⟩
      ·rw [hcc] at e; exact e
      ·rw [hki] at e; cases e
     have hPut:PutM H d c h S s b m i es k J [(0,.v (.ptr b 0)),(4,.v (.ptr H.length 0)),(5,.v (.ptr (H.length+1) 0)),(6,.v (.sc (.int .i64 i)))]
       ((H1 ++ [ceB cc,ceB cc,.map [],.cells (vU cc (fun _=>none) 0 (H1.length+1+1))]).set b (.cells (vU c (VO k i (some (H1.length+1+2))) (S.length+1) m))):=by
      refine ⟨H1.length+1+2,fun x=>x=H1.length+1+2∨x=H1.length+1+1,?_,?_,?_,?_,?_,fun x hx => .inr ?_,(g6.app).set rfl,by simp; omega,rfl⟩
      ·rw [List.getElem?_set_self (by simp; omega)]
      ·rw [List.getElem?_set_ne hbm]
       exact hget g2
      ·rw [List.getElem?_set_ne (by omega)]
       exact hget g3
      ·rw [List.getElem?_set_ne (by omega)]
       exact hget (by simpa [Sh.cs] using g4)
      ·rw [hcc,hSi]
       refine Nd.fresh (by omega) ?_ ?_ (by omega)
       ·rw [List.getElem?_set_ne (by omega)]
        rw [List.getElem?_append_right (by omega),show H1.length+1+2 - H1.length=3 by omega]
        rfl
       ·rw [List.getElem?_set_ne (by omega)]
        rw [List.getElem?_append_right (by omega),show H1.length+1+1 - H1.length=2 by omega]
        rfl
      ·omega
     unfold ceB Ce.v Ce.cs at hF
     unfold Ce.v Ce.cs at hC
     have kS:=fun (x:Bk) (L:List Bk)=>YD (H:=H1 ++ [x]) (L:=L)
     simp only [List.append_assoc,List.cons_append,List.nil_append] at kS
     rcases (show i=0∨i=1∨i=2∨i=3 by omega) with rfl | rfl | rfl | rfl
     all_goals
      simp [g1,hki,YC,hNilN]
      refine qc.pure hC rfl rfl ?_
      simp [setCells,qh]
      refine qc.of hF ?_
      rintro y H2 ⟨rfl,rfl⟩
      simp [hget g1,kS]
      simp only [setCells,qF (hget g1)]
      refine ⟨_,?_,hPut⟩
      simp [qD,qm,qp]
    | some b' =>
     obtain ⟨q1,q2,q3⟩:∃ J',Nd H d (qA c (i:Nat)) (sub' (qA c (i:Nat)) S) b' J'∧J'=J i:=by
      rcases h6 i hi with ⟨_,e,_⟩ | ⟨_,b2,e,hN2⟩
      ·rw [hki] at e; cases e
      ·rw [hki] at e
       cases e
       exact ⟨_,hN2,rfl⟩
     have hup:VO k i (some b')=k:=by
      funext j
      unfold VO
      split
      ·rename_i e
       rw [e,hki]
      ·rfl
     have hPut:PutM H d c h S s b m i es k J [(0,.v (.ptr b 0)),(4,.v (.ptr H.length 0)),(5,.v (.ptr (H.length+1) 0)),(6,.v (.sc (.int .i64 i)))] H1:=⟨b',J i,by rw [hup]; simpa [vU] using g1,g2,g3,by simpa [Sh.cs] using g4,Nd.keep g6 (q3▸q2) fun x hx e=>(h5 i hi).1 (e▸hx),fun x hx => .inl hx,g6,by omega,rfl⟩
     rcases (show i=0∨i=1∨i=2∨i=3 by omega) with rfl | rfl | rfl | rfl
     all_goals
      simp [g1,hki,YC]
      refine ⟨_,?_,hPut⟩
      simp [qD,qm,qp]
   ·rintro F H3 ⟨b',J',m1,m2,m3,m4,m5,m6,m7,m8,rfl⟩
    refine AW.ofx [(7,6,[0,6,7])] mixed (by kernel_rfl) ?_
    have hidS:∀ t∈sub' (qA c (i:Nat)) S,t.id≠s.id:=fun t ht=>hid t (List.mem_filter.1 ht).1
    have hlS:(sub' (qA c (i:Nat)) S).length<1000000:=Nat.lt_of_le_of_lt (List.length_filter_le _ _) hlen
    have hR:=ih (qA c (i:Nat)) H3 _ b' J' s m5 hccr (by omega) (by rw [hh]; exact hucc) (by rw [hh]; exact hr) hidS hlS
    rw [hh] at hR
    unfold Ce.v Ce.cs Sh.v Sh.cs at hR
    unfold ceB at m3
    unfold Sh.cs at m4
    have hb':VO k i (some b') i=some b':=Qi
    have fin:∀ H4,Kp J' H3 H4→∀ I4,Nd H4 d (qA c (i:Nat)) (s::sub' (qA c (i:Nat)) S) b' I4→(∀ x,I4 x→J' x∨H3.length≤x)→Kp I H H4∧∃ I',Nd H4 (d+1) c (s::S) b I'∧∀ x,I' x→I x∨H.length≤x:=by
     intro H4 k4 I4 n4 l4
     have nb:¬ J' b:=fun e=>(m6 b e).elim (h5 i hi).1 (by omega)
     have nm:¬ J' m:=fun e=>(m6 m e).elim (h5 i hi).2.1 (by omega)
     have kall:Kp (fun x=>x=b∨J i x) H H4:=by
      refine Kp.new (Kp.trans (m7.weak fun x hx => .inl (.inl hx)) (k4.weak fun x hx => ?_))
      rcases m6 x hx with h | h
      ·exact .inl (.inr h)
      ·exact .inr h
     refine ⟨kall.weak fun x hx=>(h4 x).2 ?_,Nd.below (k4.cells nb m1) (k4.map nm m2) h3 h4 h5 h6 hbl hml kall hi (by rw [hh]; exact hu) (by rw [hh]; exact hch) (by rw [hh]; exact hw) n4 fun x hx => ?_⟩
     ·rcases hx with rfl | hx
      ·exact .inl rfl
      ·exact .inr (.inr ⟨i,hi,hx⟩)
     ·rcases l4 x hx with h | h
      ·exact m6 x h
      ·exact .inr (by omega)
    clear h6 h5 h4
    unfold vU at m1
    rcases (show i=0∨i=1∨i=2∨i=3 by omega) with rfl | rfl | rfl | rfl
    all_goals
     simp [m1,m3,m4,YC,hb']
     refine qc.of hR ?_
     rintro y H4 ⟨k4,I4,n4,l4⟩
     simp
     exact fin H4 k4 I4 n4 l4
theorem Nd.cell {H:List Bk} {d:Nat} {c:Ce} {S:List Sh} {b:Nat} {I:Nat→Prop} (h:Nd H d c S b I):∃ k m,H[b]? = some (.cells (vU c k S.length m)):=by
 cases d with
 | zero=>exact h.elim
 | succ d =>
  obtain ⟨m,es,k,J,h1,_⟩:=h
  exact ⟨k,m,h1⟩
def TakeM (H:List Bk) (d:Nat) (c:Ce) (S:List Sh) (s:Sh) (b m i b':Nat) (es:List Sh) (k:Nat→Option Nat) (J:Nat→Nat→Prop) (F:Fr) (H3:List Bk):Prop :=
 ∃ J',H3[b]? = some (.cells (vU c k (less S s.id).length m))∧H3[m]? = some (.map (es.map Ju)) ∧ 
  Nd H3 d (qA c (i:Nat)) (less (sub' (qA c (i:Nat)) S) s.id) b' J'∧(∀ x,J' x→J i x)∧Kp (fun x=>x=b∨J i x) H H3 ∧
  F = [(0,.v (.ptr b 0)),(6,.v (.sc (.int .i64 i)))]
theorem ntake:∀ (d:Nat) (c:Ce) (H:List Bk) (S:List Sh) (b:Nat) (I:Nat→Prop) (s:Sh),Nd H d c S b I→zk c=true→(d:Int)+c.l=17→yE c (hm s)=true→zk (hm s)=true→s∈S→(S.map Sh.id).Nodup→S.length<1000000 →
  AFn Tryz.prog 140 [.ptr b 0,(hm s).v,.sc (.int .i64 s.id)] H fun y H'=>Kp I H H'∧∃ I',Nd H' d c (less S s.id) b I'∧∀ x,I' x→I x:=by
 intro d
 induction d with
 | zero=>intro c H S b I s h; exact h.elim
 | succ d ih =>
  intro c H S b I s hN hc hd hu hr hS hnd hlen
  obtain ⟨m,es,k,J,h1,h2,h3,h4,h5,h6⟩:=id hN
  have hll:=less_len hS hnd
  generalize hh:hm s=h at *
  unfold Ce.v Ce.cs
  unfold vU at h1
  have w1:IntKind.i64.wrap ((S.length:Int) - 1)=((less S s.id).length:Int):=by rw [wrap_i64] <;> omega
  have h1':=fun L=>hget (L:=L) h1
  have hbl:=(List.getElem?_eq_some_iff.1 h1).1
  have hml:=(List.getElem?_eq_some_iff.1 h2).1
  have hbm:b≠m:=by rintro rfl; rw [h1] at h2; cases h2
  refine AFn.intro (fn:=Tryz.f140) (by kernel_rfl) rfl (by kernel_rfl) (by simp) ?_
  simp only [Tryz.f140,qj]
  refine AW.seq (AW.ofx [] mixed (by kernel_rfl) ?_)
  simp
  refine AW.seq (AW.ofx [] mixed (by kernel_rfl) ?_)
  simp [h1',w1]
  obtain ⟨H1,e1,g1,g2,g3,g5,g6⟩:∃ H1,H1=setCells (H ++ [Bk.cells [.v (.sc (.int .i64 h.l)),.v (.sc (.int .i64 h.x)),.v (.sc (.int .i64 h.y))]]) b 7 [.sc (.int .i64 ((less S s.id).length:Nat))] ∧
    H1[b]? = some (.cells [.v (.sc (.int .i64 c.l)),.v (.sc (.int .i64 c.x)),.v (.sc (.int .i64 c.y)),.v (YC (k 0)),.v (YC (k 1)),.v (YC (k 2)),.v (YC (k 3)),.v (.sc (.int .i64 ((less S s.id).length:Nat))),.v (.map m)])∧H1[m]? = some (.map (es.map Ju)) ∧
    H1[H.length]? = some (.cells [.v (.sc (.int .i64 h.l)),.v (.sc (.int .i64 h.x)),.v (.sc (.int .i64 h.y))]) ∧
    H1.length=H.length+1∧Kp (fun x=>x=b) H H1:=by
   refine ⟨_,rfl,?_⟩
   simp only [setCells,qF (h1' _)]
   refine ⟨?_,?_,?_,by simp,(Kp.refl.app).set rfl⟩
   ·rw [List.getElem?_set_self (by simp; omega)]
    simp
   ·rw [List.getElem?_set_ne hbm]
    exact hget h2
   ·rw [List.getElem?_set_ne (by omega)]
    simp
  rw [← e1]
  clear e1
  refine AW.seq (AW.ofx [] mixed (by kernel_rfl) ?_)
  by_cases hch:c=h
  ·have hes:s∈es:=h3.mem_iff.2 (List.mem_filter.2 ⟨hS,by simp [hh,hch]⟩)
   have hen:(es.map Sh.id).Nodup:=((h3.map Sh.id).nodup_iff).2 (qay hnd)
   obtain ⟨j,hf,he⟩:=YZ (i:=0) hes hen
   simp [g1,g2,g3,qj3,qj2,hch,Y9,hf]
   have hk2:Kp (fun x=>x=b∨x=m) H ((zf m H1).set m (.map ((es.map Ju).eraseIdx j))):=(g6.weak fun x hx => .inl hx).killed (.inr rfl)
   refine ⟨hk2.weak fun x hx=>(h4 x).2 (hx.imp id .inl),I,?_,fun x hx=>hx⟩
   rw [← hch]
   refine Nd.hence (es':=es.eraseIdx j) ?_ ?_ he h3 h4 h5 h6 hk2 (hh.trans hch.symm) hS hnd
   ·rw [List.getElem?_set_ne (Ne.symm hbm)]
    refine X4 g1 fun _ _ _ e=>by cases e
   ·rw [List.getElem?_set_self (by rw [ZO,g5]; omega)]
    have em:∀ (l:List Sh) (j:Nat),(l.eraseIdx j).map Ju=(l.map Ju).eraseIdx j:=by
     intro l
     induction l with
     | nil=>simp
     | cons a l ih=>intro j; cases j <;> simp [ih]
    rw [em]
  ·have hlt:=qbX hu hch
   have hcr:=qQ.1 hc
   have hhr:=qQ.1 hr
   obtain ⟨i,hi,hw⟩:=qix c h
   have hW:=cWay c h hr hcr.1.1 hlt
   rw [hw] at hW
   unfold Ce.v Ce.cs at hW
   have hccr:=X7 (c:=c) (i:=(i:Nat)) hc (by omega) (by omega)
   have hccl:(qA c (i:Nat)).l=c.l+1:=rfl
   have hucc:yE (qA c (i:Nat)) h=true:=(Qw hi hu hch).2 hw
   have hsi:s∈sub' (qA c (i:Nat)) S:=List.mem_filter.2 ⟨hS,by rw [hh]; exact hucc⟩
   obtain ⟨b',hki,hNi⟩:∃ b',k i=some b'∧Nd H d (qA c (i:Nat)) (sub' (qA c (i:Nat)) S) b' (J i):=by
    rcases h6 i hi with ⟨e,_⟩ | ⟨_,b2,e,hN2⟩
    ·rw [e] at hsi; cases hsi
    ·exact ⟨b2,e,hN2⟩
   have hNi1:=Nd.keep g6 hNi fun x hx e=>(h5 i hi).1 (e▸hx)
   have hR:=ih (qA c (i:Nat)) H1 _ b' (J i) s hNi1 hccr (by omega) (by rw [hh]; exact hucc) (by rw [hh]; exact hr) hsi (qay hnd) (Nat.lt_of_le_of_lt (List.length_filter_le _ _) hlen)
   rw [hh] at hR
   unfold Ce.v Ce.cs at hR
   simp [g1,g3,qj3,qj2,hch]
   refine AW.seq (AW.ofx [] mixed (by kernel_rfl) ?_)
   simp [g1,g3]
   refine qc.pure hW rfl rfl ?_
   simp [g1,g3]
   have hMid:∀ H4,Kp (J i) H1 H4→∀ I4,Nd H4 d (qA c (i:Nat)) (less (sub' (qA c (i:Nat)) S) s.id) b' I4→(∀ x,I4 x→J i x)→TakeM H d c S s b m i b' es k J [(0,.v (.ptr b 0)),(6,.v (.sc (.int .i64 i)))] H4:=by
    intro H4 k4 I4 n4 l4
    exact ⟨I4,k4.cells (h5 i hi).1 (by simpa [vU] using g1),k4.map (h5 i hi).2.1 g2,n4,l4,(g6.weak fun x hx => .inl hx).trans (k4.weak fun x hx => .inr hx),rfl⟩
   have hup:VO k i (some b')=k:=by
    funext j
    unfold VO
    split
    ·rename_i e
     rw [e,hki]
    ·rfl
   have hB:∀ H3 J',H3[b]? = some (.cells (vU c k (less S s.id).length m))→H3[m]? = some (.map (es.map Ju))→Nd H3 d (qA c (i:Nat)) (less (sub' (qA c (i:Nat)) S) s.id) b' J'→(∀ x,J' x→J i x)→Kp (fun x=>x=b∨J i x) H H3→less (sub' (qA c (i:Nat)) S) s.id ≠ [] →
     Kp I H H3∧∃ I',Nd H3 (d+1) c (less S s.id) b I'∧∀ x,I' x→I x:=by
    intro H3 J' m1 m2 m3 m4 m5 m6
    refine ⟨m5.weak fun x hx=>(h4 x).2 ?_,Nd.off (i:=i) (ki:=some b') (by rw [hup]; exact m1) m2 h3 h4 h5 h6 m5 hi (by rw [hh]; exact hu) (by rw [hh]; exact hch) (by rw [hh]; exact hw) hS hnd (.inr ⟨m6,b',rfl,m3⟩) m4⟩
    rcases hx with rfl | hx
    ·exact .inl rfl
    ·exact .inr (.inr ⟨i,hi,hx⟩)
   have hA:∀ H3 J',H3[b]? = some (.cells (vU c k (less S s.id).length m))→H3[m]? = some (.map (es.map Ju))→Nd H3 d (qA c (i:Nat)) (less (sub' (qA c (i:Nat)) S) s.id) b' J'→(∀ x,J' x→J i x)→Kp (fun x=>x=b∨J i x) H H3→less (sub' (qA c (i:Nat)) S) s.id = [] →
     Kp I H (H3.set b (.cells (vU c (VO k i none) (less S s.id).length m)))∧∃ I',Nd (H3.set b (.cells (vU c (VO k i none) (less S s.id).length m))) (d+1) c (less S s.id) b I'∧∀ x,I' x→I x:=by
    intro H3 J' m1 m2 m3 m4 m5 m6
    have m7:Kp (fun x=>x=b∨J i x) H (H3.set b (.cells (vU c (VO k i none) (less S s.id).length m))):=m5.set (.inl rfl)
    refine ⟨m7.weak fun x hx=>(h4 x).2 ?_,Nd.off (i:=i) (ki:=none) (J':=fun _=>False) ?_ ?_ h3 h4 h5 h6 m7 hi (by rw [hh]; exact hu) (by rw [hh]; exact hch) (by rw [hh]; exact hw) hS hnd (.inl ⟨m6,rfl,fun _ h=>h⟩) fun x hx=>hx.elim⟩
    ·rcases hx with rfl | hx
     ·exact .inl rfl
     ·exact .inr (.inr ⟨i,hi,hx⟩)
    ·rw [List.getElem?_set_self (List.getElem?_eq_some_iff.1 m1).1]
    ·rw [List.getElem?_set_ne hbm]
     exact m2
   clear h6 h5 h4
   generalize hRR:TakeM H d c S s b m i b' es k J=R at hMid
   refine AW.seq ?_
   refine AW.ofx [] mixed (by kernel_rfl) ?_
   rcases (show i=0∨i=1∨i=2∨i=3 by omega) with rfl | rfl | rfl | rfl
   all_goals
    simp [g1,g3,hki,YC]
    refine AW.mid R (AW.ofx [] mixed (by kernel_rfl) ?_) ?_
    ·simp [g1,g3,hki,YC]
     refine qc.of hR ?_
     rintro y H4 ⟨k4,I4,n4,l4⟩
     simp
     refine ⟨_,?_,hMid H4 k4 I4 n4 l4⟩
     simp [qD,qm,qp]
    ·intro F H3 hm
     rw [← hRR] at hm
     obtain ⟨J',m1,m2,m3,m4,m5,rfl⟩:=hm
     have hA':=hA H3 J' m1 m2 m3 m4 m5
     have hB':=hB H3 J' m1 m2 m3 m4 m5
     obtain ⟨k',m',c1⟩:=m3.cell
     unfold vU at m1 c1
     refine AW.ofx [] mixed (by kernel_rfl) ?_
     generalize less (sub' (qA c _) S) s.id=S' at *
     by_cases hz:S' = []
     ·simp [m1,c1,hki,YC,hz]
      simp only [setCells,qF m1]
      exact hA' hz
     ·have hz':¬ S'.length=0:=fun e=>hz (List.length_eq_zero_iff.1 e)
      have hz2:((S'.length:Int)==0)=false:=by simpa using hz
      simp [m1,c1,hki,YC,hz2]
      exact hB' hz
def slS (zs:List Sh):V := .sl zs.length 6 (zs.flatMap Sh.cs)
def shB (s:Sh):Bk := .cells [.v (.sc (.int .i64 s.id)),.v (.sc (.int .i64 s.box.x0)),.v (.sc (.int .i64 s.box.y0)),.v (.sc (.int .i64 s.box.x1)),.v (.sc (.int .i64 s.box.y1)),.v (.sc (.int .i64 s.lab))]
def hf (h:Re→Bool) (S:List Sh):List Sh:=S.filter fun s=>h s.box
structure TrB (H:List Bk) (r b m:Nat) (I:Nat→Prop) (es S:List Sh):Prop where
 cr:H[r]? = some (.cells [.v (.ptr b 0),.v (.map m)])
 cm:H[m]? = some (.map (es.map Ju))
 es:es.Perm S
 nd:Nd H 17 Qy S b I
 rm:r≠m
 ir:¬ I r
 im:¬ I m
 ids:(S.map Sh.id).Nodup
 right:∀ s∈S,qo s.box=true
 len:S.length≤500000
def TrS (H:List Bk) (r:Nat) (S:List Sh) (T:Nat→Prop):Prop:=∃ b m I es,TrB H r b m I es S∧∀ x,T x↔x=r∨x=m∨I x
theorem TrS.keep {H H':List Bk} {r:Nat} {S:List Sh} {T U:Nat→Prop} (h:TrS H r S T) (hk:Kp U H H') (hd:∀ x,T x→¬ U x):TrS H' r S T:=by
 obtain ⟨b,m,I,es,h,hT⟩:=h
 exact ⟨b,m,I,es,⟨hk.cells (hd _ ((hT _).2 (.inl rfl))) h.cr,hk.map (hd _ ((hT _).2 (.inr (.inl rfl)))) h.cm,h.es,Nd.keep hk h.nd fun x hx=>hd x ((hT x).2 (.inr (.inr hx))),h.rm,h.ir,h.im,h.ids,h.right,h.len⟩,hT⟩
theorem TrS.YE {H H':List Bk} {r:Nat} {S:List Sh} {T:Nat→Prop} (h:TrS H r S T) (hk:Kp NoB H H'):TrS H' r S T:=h.keep hk fun _ _=>id
theorem TrS.app {H L:List Bk} {r:Nat} {S:List Sh} {T:Nat→Prop} (h:TrS H r S T):TrS (H++L) r S T:=h.YE Kp.refl.app
theorem TrS.lt {H:List Bk} {r:Nat} {S:List Sh} {T:Nat→Prop} (h:TrS H r S T):∀ x,T x→x<H.length:=by
 obtain ⟨b,m,I,es,h,hT⟩:=h
 intro x hx
 rcases (hT x).1 hx with rfl | rfl | hx
 ·exact (List.getElem?_eq_some_iff.1 h.cr).1
 ·exact (List.getElem?_eq_some_iff.1 h.cm).1
 ·exact (h.nd.lt x hx).1
theorem qch:zk Qy=true:=by decide
theorem qcg {s:Sh} (h:qo s.box=true):yE Qy (hm s)=true:=qbW (Wh h)
theorem tmade {H:List Bk} {r:Nat} {S:List Sh} {T:Nat→Prop} (h:TrS H r S T):AFn Tryz.prog 86 [.ptr r 0] H fun y H'=>y = .sc (.bool true)∧H'=H:=by
 obtain ⟨b,m,I,es,h,hT⟩:=h
 have hr:=h.cr
 refine AFn.intro (fn:=Tryz.f86) (by kernel_rfl) rfl (by kernel_rfl) (by simp) (AW.ofx [] mixed (by kernel_rfl) ?_)
 simp only [Tryz.f86,qj]
 simp [hr]
section
variable {H:List Bk} {r:Nat} {S:List Sh} {T:Nat→Prop}
def fnd (S:List Sh) (k:Int):Option Sh:=S.find? fun s=>decide (s.id=k)
theorem zvSh:zeroV Tryz.prog 57=some (.agg [.sc (.int .i64 0),.sc (.int .i64 0),.sc (.int .i64 0),.sc (.int .i64 0),.sc (.int .i64 0),.sc (.int .i64 0)]):=by kernel_rfl
theorem qj7 {S es:List Sh} (hn:(S.map Sh.id).Nodup) (hp:es.Perm S) (k:Int):(J7 k es 0).map (·.2)=fnd S k:=by
 cases hs:J7 k es 0 with
 | none =>
  have:=qdN hs
  refine (List.find?_eq_none.2 fun x hx => ?_).symm
  simpa using this x (hp.mem_iff.2 hx)
 | some p =>
  obtain ⟨j,s⟩:=p
  obtain ⟨h1,h2⟩:=qdO hs
  have hS:=hp.mem_iff.1 h1
  unfold fnd
  cases hf:S.find? fun s=>decide (s.id=k) with
  | none =>
   have:=List.find?_eq_none.1 hf s hS
   simp [h2] at this
  | some t =>
   have ht:=List.mem_of_find?_eq_some hf
   have hk:t.id=k:=by simpa using List.find?_some hf
   have:=qfi hn ht hS (hk.trans h2.symm)
   simp [this]
end
theorem tnew (H:List Bk):AFn Tryz.prog 41 [] H fun y H'=>∃ r T,y = .ptr r 0∧TrS H' r [] T∧Kp NoB H H'∧∀ x,T x→H.length≤x:=by
 have hF:=nfresh Qy H
 unfold Ce.v Ce.cs Qy at hF
 refine AFn.intro (fn:=Tryz.f41) (by kernel_rfl) rfl (by kernel_rfl) (by simp) (AW.ofx [] mixed (by kernel_rfl) ?_)
 simp only [Tryz.f41,qj]
 simp
 refine qc.of hF ?_
 rintro y H1 ⟨rfl,rfl⟩
 simp
 refine ⟨fun x=>H.length≤x∧x≤H.length+4∧x≠H.length,⟨H.length+2,H.length+3,fun x=>x=H.length+2∨x=H.length+1,[],⟨by simp,by simp,.nil,Nd.fresh (by decide) (by simp; rfl) (by simp) (by omega),by omega,by omega,by omega,by simp,by simp,by simp⟩,fun x=>by omega⟩,Kp.refl.app,fun x hx=>hx.1⟩
section
variable {H:List Bk} {r:Nat} {S:List Sh} {T:Nat→Prop}
theorem fnd_some {k:Int} {s:Sh} (h:fnd S k=some s):s∈S∧s.id=k:=⟨List.mem_of_find?_eq_some h,by simpa using List.find?_some h⟩
theorem fnd_none {k:Int} (h:fnd S k=none):∀ t∈S,t.id≠k:=fun t ht=>by simpa using List.find?_eq_none.1 h t ht
def takeE (S:List Sh) (k:Int):Int:=match fnd S k with
 | some _=>0
 | none=>21
theorem ttake (ht:TrS H r S T) (k:Int):AFn Tryz.prog 93 [.ptr r 0,.sc (.int .i64 k)] H fun y H'=>y = .sc (.int .i64 (takeE S k))∧Kp T H H'∧∃ T',TrS H' r (less S k) T'∧∀ x,T' x→T x:=by
 have hM:=tmade ht
 obtain ⟨b,m,I,es,hb,hT⟩:=id ht
 have hr:=fun L=>hget (L:=L) hb.cr
 have hmm:=fun L=>hget (L:=L) hb.cm
 have hr0:=hb.cr
 have hm0:=hb.cm
 have hfs:=qj7 hb.ids hb.es k
 unfold takeE
 refine AFn.intro (fn:=Tryz.f93) (by kernel_rfl) rfl (by kernel_rfl) (by simp) ?_
 simp only [Tryz.f93,qj]
 refine AW.seq (AW.ofx [] mixed (by kernel_rfl) ?_)
 simp
 refine AW.seq (AW.ofx [] mixed (by kernel_rfl) ?_)
 simp
 refine qc.of hM ?_
 rintro y H1 ⟨rfl,rfl⟩
 simp
 refine AW.seq (AW.ofx [] mixed (by kernel_rfl) ?_)
 cases hs:J7 k es 0 with
 | none =>
  rw [hs] at hfs
  have hfn:fnd S k=none:=hfs.symm
  rw [hfn,KE (fnd_none hfn)]
  simp [hr0,hm0,Y9,hs,zvSh,setCells,qh]
  refine AW.seq (AW.ofx [] mixed (by kernel_rfl) ?_)
  simp
  exact ⟨Kp.refl.app,T,ht.app,fun x hx=>hx⟩
 | some p =>
  obtain ⟨j,s⟩:=p
  rw [hs] at hfs
  have hfn:fnd S k=some s:=hfs.symm
  obtain ⟨hsS,rfl⟩:=fnd_some hfn
  rw [hfn]
  have hse:s∈es:=hb.es.mem_iff.2 hsS
  have hen:(es.map Sh.id).Nodup:=((hb.es.map Sh.id).nodup_iff).2 hb.ids
  obtain ⟨j',hj1,hj2⟩:=YZ (i:=0) hse hen
  have hjj:j'=j:=by
   rw [hs] at hj1
   simp at hj1
   exact hj1.symm
  subst hjj
  have hrs:=hb.right s hsS
  have hHo:=cHome s.box
  have hho:X3 s.box=(hm s,true):=by simp [X3,hrs,hm]
  rw [hho] at hHo
  unfold Re.v Re.cs Ce.v Ce.cs at hHo
  simp [hr0,hm0,Y9,hs,zvSh,setCells,qh,Sh.v,Sh.cs]
  refine AW.seq (AW.ofx [] mixed (by kernel_rfl) ?_)
  simp
  refine AW.seq (AW.ofx [] mixed (by kernel_rfl) ?_)
  simp
  refine qc.pure hHo rfl rfl ?_
  simp [setCells,qh]
  refine AW.seq (AW.ofx [] mixed (by kernel_rfl) ?_)
  simp [hr,hmm,Y9,hs]
  have hrl:=(List.getElem?_eq_some_iff.1 hr0).1
  have hml:=(List.getElem?_eq_some_iff.1 hm0).1
  have em:∀ (l:List Sh) (j:Nat),(l.map Ju).eraseIdx j=(l.eraseIdx j).map Ju:=by
   intro l
   induction l with
   | nil=>simp
   | cons a l ih=>intro j; cases j <;> simp [ih]
  obtain ⟨H2,eH,p1,p2,p3,p4,p5⟩:∃ H2,H2=(zf m (H1 ++ [Bk.cells [.v (.sc (.int .i64 s.id)),.v (.sc (.int .i64 s.box.x0)),.v (.sc (.int .i64 s.box.y0)),.v (.sc (.int .i64 s.box.x1)),.v (.sc (.int .i64 s.box.y1)),.v (.sc (.int .i64 s.lab))],Bk.cells [.v (.sc (.int .i64 (hm s).l)),.v (.sc (.int .i64 (hm s).x)),.v (.sc (.int .i64 (hm s).y))]])).set m (Bk.map ((List.map Ju es).eraseIdx j')) ∧
    H2[r]? = some (.cells [.v (.ptr b 0),.v (.map m)])∧H2[m]? = some (.map ((es.eraseIdx j').map Ju))∧H2[H1.length+1]? = some (Bk.cells [.v (.sc (.int .i64 (hm s).l)),.v (.sc (.int .i64 (hm s).x)),.v (.sc (.int .i64 (hm s).y))])∧Kp (fun x=>x=m) H1 H2∧H1.length≤H2.length:=by
   refine ⟨_,rfl,?_,?_,?_,(Kp.refl.app).killed rfl,by simp [zf]⟩
   ·rw [List.getElem?_set_ne (Ne.symm hb.rm)]
    exact X4 (hr _) fun _ _ _ e=>by cases e
   ·rw [List.getElem?_set_self (by rw [ZO]; simp; omega),em]
   ·rw [List.getElem?_set_ne (by omega)]
    exact X4 (by simp) fun _ _ _ e=>by cases e
  rw [← eH]
  have hN:=ntake 17 Qy H2 S b I s (Nd.keep p4 hb.nd fun x hx e=>hb.im (e▸hx)) qch (by decide) (qcg hrs) (Wh hrs) hsS hb.ids (by have:=hb.len; omega)
  unfold Ce.v Ce.cs at hN
  refine AW.seq (AW.ofx [] mixed (by kernel_rfl) ?_)
  simp [p1,p3]
  refine qc.of hN ?_
  rintro y H3 ⟨k3,I',n3,l3⟩
  simp
  refine AW.ofx [] mixed (by kernel_rfl) ?_
  simp
  refine ⟨?_,fun x=>x=r∨x=m∨I' x,⟨b,m,I',es.eraseIdx j',⟨k3.cells hb.ir p1,k3.map hb.im p2,?_,n3,hb.rm,fun e=>hb.ir (l3 _ e),fun e=>hb.im (l3 _ e),qay hb.ids,fun t ht=>hb.right t (List.mem_filter.1 ht).1,Nat.le_trans (List.length_filter_le _ _) hb.len⟩,fun x=>Iff.rfl⟩,?_⟩
  ·refine (p4.weak fun x hx=>(hT x).2 (.inr (.inl hx))).trans (k3.weak fun x hx=>(hT x).2 (.inr (.inr hx)))
  ·rw [hj2]
   exact hb.es.filter _
  ·intro x hx
   exact (hT x).2 (hx.imp id (Or.imp id (l3 x)))
def putE (s:Sh):Int:=if qo s.box then 0 else 1
def qgu (S:List Sh) (s:Sh):List Sh:=if qo s.box then s::less S s.id else S
theorem tput (ht:TrS H r S T) (s:Sh) (hlen:S.length<500000):AFn Tryz.prog 43 [.ptr r 0,s.v] H fun y H'=>y = .sc (.int .i64 (putE s))∧Kp T H H'∧∃ T',TrS H' r (qgu S s) T'∧∀ x,T' x→T x∨H.length≤x:=by
 have hM:=fun L=>tmade (ht.app (L:=L))
 have hHo:=cHome s.box
 unfold putE qgu
 unfold Re.v Re.cs Ce.v Ce.cs at hHo
 unfold Sh.v Sh.cs
 refine AFn.intro (fn:=Tryz.f43) (by kernel_rfl) rfl (by kernel_rfl) (by simp) ?_
 simp only [Tryz.f43,qj]
 refine AW.seq (AW.ofx [] mixed (by kernel_rfl) ?_)
 simp
 refine AW.seq (AW.ofx [] mixed (by kernel_rfl) ?_)
 simp
 refine qc.of (hM _) ?_
 rintro y H1 ⟨rfl,rfl⟩
 simp
 refine AW.seq (AW.ofx [] mixed (by kernel_rfl) ?_)
 simp
 refine qc.pure hHo rfl rfl ?_
 simp [setCells,qh]
 refine AW.seq (AW.ofx [] mixed (by kernel_rfl) ?_)
 cases hrs:qo s.box with
 | false =>
  have hho:X3 s.box=(.zero,false):=by simp [X3,hrs]
  simp [hho]
  exact ⟨Kp.refl.app,T,ht.app,fun x hx => .inl hx⟩
 | true =>
  have hho:X3 s.box=(hm s,true):=by simp [X3,hrs,hm]
  have hTk:=ttake (ht.app (L := [shB s,ceB (hm s)])) s.id
  unfold shB ceB at hTk
  simp [hho]
  refine AW.seq (AW.ofx [] mixed (by kernel_rfl) ?_)
  simp
  refine qc.of hTk ?_
  rintro y H2 ⟨rfl,k2,T',t2,l2⟩
  have hlt:=ht.lt
  have b1:¬ T H.length:=fun e=>by have:=hlt _ e; omega
  have b2:¬ T (H.length+1):=fun e=>by have:=hlt _ e; omega
  have p1:=k2.cells b1 (by simp; rfl)
  have p2:=k2.cells b2 (by simp; rfl)
  obtain ⟨b,m,I,es,hb,hT⟩:=id t2
  have hr0:=hb.cr
  have hm0:=hb.cm
  have hidn:∀ t∈less S s.id,t.id≠s.id:=fun t ht=>by simpa using (List.mem_filter.1 ht).2
  have hsn:J7 s.id es 0=none:=K4 fun e he=>hidn e (hb.es.mem_iff.1 he)
  simp
  refine AW.seq (AW.ofx [] mixed (by kernel_rfl) ?_)
  simp [hr0,hm0,p1,p2,Y9,hsn]
  have hml:=(List.getElem?_eq_some_iff.1 hm0).1
  have hrl:=(List.getElem?_eq_some_iff.1 hr0).1
  obtain ⟨H3,eH,q1,q2,q3,q4,q5⟩:∃ H3,H3=(zf m H2).set m (Bk.map (List.map Ju es ++ [(Value.int IntKind.i64 s.id,V.agg [.sc (.int .i64 s.id),.sc (.int .i64 s.box.x0),.sc (.int .i64 s.box.y0),.sc (.int .i64 s.box.x1),.sc (.int .i64 s.box.y1),.sc (.int .i64 s.lab)])])) ∧
    H3[r]? = some (.cells [.v (.ptr b 0),.v (.map m)])∧H3[m]? = some (.map ((es ++ [s]).map Ju))∧H3[H.length]? = some (Bk.cells [.v (.sc (.int .i64 s.id)),.v (.sc (.int .i64 s.box.x0)),.v (.sc (.int .i64 s.box.y0)),.v (.sc (.int .i64 s.box.x1)),.v (.sc (.int .i64 s.box.y1)),.v (.sc (.int .i64 s.lab))]) ∧
    H3[H.length+1]? = some (Bk.cells [.v (.sc (.int .i64 (hm s).l)),.v (.sc (.int .i64 (hm s).x)),.v (.sc (.int .i64 (hm s).y))])∧Kp (fun x=>x=m) H2 H3:=by
   have hmT:T m:=l2 m ((hT m).2 (.inr (.inl rfl)))
   have hml':=hlt m hmT
   refine ⟨_,rfl,?_,?_,?_,?_,Kp.refl.killed rfl⟩
   ·rw [List.getElem?_set_ne (Ne.symm hb.rm)]
    exact X4 hr0 fun _ _ _ e=>by cases e
   ·rw [List.getElem?_set_self (by rw [ZO]; exact hml)]
    simp [Ju,Sh.v,Sh.cs]
   ·rw [List.getElem?_set_ne (by omega)]
    exact X4 p1 fun _ _ _ e=>by cases e
   ·rw [List.getElem?_set_ne (by omega)]
    exact X4 p2 fun _ _ _ e=>by cases e
  rw [← eH]
  have hll:(less S s.id).length≤S.length:=List.length_filter_le _ _
  have hN:=nput 17 Qy H3 (less S s.id) b I s (Nd.keep q5 hb.nd fun x hx e=>hb.im (e▸hx)) qch (by decide) (qcg hrs) (Wh hrs) hidn (by omega)
  unfold Ce.v Ce.cs Sh.v Sh.cs at hN
  refine AW.seq (AW.ofx [] mixed (by kernel_rfl) ?_)
  simp [q1,q3,q4]
  refine qc.of hN ?_
  rintro y H4 ⟨k4,I',n4,l4⟩
  simp
  refine AW.ofx [] mixed (by kernel_rfl) ?_
  simp
  have hTI:∀ x,I x→T x:=fun x hx=>l2 x ((hT x).2 (.inr (.inr hx)))
  have hTm:T m:=l2 m ((hT m).2 (.inr (.inl rfl)))
  have hTr:T r:=l2 r ((hT r).2 (.inl rfl))
  have h23:H.length≤H3.length:=by
   have:=(List.getElem?_eq_some_iff.1 q3).1
   omega
  refine ⟨?_,fun x=>x=r∨x=m∨I' x,⟨b,m,I',es ++ [s],⟨k4.cells hb.ir q1,k4.map hb.im q2,?_,n4,hb.rm,fun e => ?_,fun e => ?_,?_,?_,?_⟩,fun x=>Iff.rfl⟩,?_⟩
  ·refine Kp.trans (Kp.app (L := []) Kp.refl) ?_
   rw [List.append_nil]
   refine Kp.trans ?_ (k4.weak hTI)
   refine Kp.trans ?_ (q5.weak fun x (hx:x=m)=>hx▸hTm)
   exact Kp.trans (Kp.refl.app) k2
  ·exact List.perm_append_comm.trans (hb.es.cons s)
  ·rcases l4 _ e with h | h
   ·exact hb.ir h
   ·have:=hlt r hTr
    omega
  ·rcases l4 _ e with h | h
   ·exact hb.im h
   ·have:=hlt m hTm
    omega
  ·rw [List.map_cons,List.nodup_cons]
   exact ⟨fun e=>by
    obtain ⟨t,ht1,ht2⟩:=List.mem_map.1 e
    exact hidn t ht1 ht2,hb.ids⟩
  ·intro t ht
   rcases List.mem_cons.1 ht with rfl | ht
   ·exact hrs
   ·exact hb.right t ht
  ·rw [List.length_cons]
   omega
  ·rintro x (rfl | rfl | hx)
   ·exact .inl hTr
   ·exact .inl hTm
   ·rcases l4 x hx with h | h
    ·exact .inl (hTI x h)
    ·exact .inr (by omega)
end
theorem rowSh {xs:List Sh} {k:Nat} (h:k<xs.length):AM.rowAt 6 (xs.flatMap Sh.cs) (k:Int) = [.sc (.int .i64 xs[k].id),.sc (.int .i64 xs[k].box.x0),.sc (.int .i64 xs[k].box.y0),.sc (.int .i64 xs[k].box.x1),.sc (.int .i64 xs[k].box.y1),.sc (.int .i64 xs[k].lab)]:=ZV (enc:=Sh.cs) (sz:=6) (fun _=>rfl) h
def piS (s:Sh) (a:List Sh×Bool) (x:Sh):List Sh×Bool:=if (!a.2&&decide (s.id<x.id))=true then (a.1 ++ [s] ++ [x],true) else (a.1 ++ [x],a.2)
def piD (s:Sh) (zs:List Sh):List Sh×Bool:=zs.foldl (piS s) ([],false)
def yg (xs:List Sh) (s:Sh):List Sh:=if (piD s (less xs s.id)).2=true then (piD s (less xs s.id)).1 else (piD s (less xs s.id)).1 ++ [s]
end Go.Proofs.YtnconfggojpkcaaGreat
namespace Go.Proofs.YtnconfggojpkcaaGreat
set_option linter.all false
open Go.RowKit Go.ChangeShapes Go.WideShapes AM
set_option maxRecDepth 100000
section
variable {H:Type} {enc:TypeId×Value→H} {w:World} {base:Nat} {held:Bool} {r:Reach} {b0:Nat} {v:Value} {d:DataW H} {p:List MemPlace}
namespace Sh
def vals (a:Sh):List Value := [.int .i64 a.id,.int .i64 a.box.x0,.int .i64 a.box.y0,.int .i64 a.box.x1,.int .i64 a.box.y1,.int .i64 a.lab]
end Sh
theorem shLeaves:Z4 Tryz.prog 6 57=some [.int .i64,.int .i64,.int .i64,.int .i64,.int .i64,.int .i64]:=by kernel_rfl
theorem qeV {cs:List Value} (h:Leaf.all [.int .i64,.int .i64,.int .i64,.int .i64,.int .i64,.int .i64] cs):∃ x:Sh,x.vals=cs:=by
 obtain ⟨a,_,rfl,_,h⟩:=Leaf.zy h
 obtain ⟨b,_,rfl,_,h⟩:=Leaf.zy h
 obtain ⟨c,_,rfl,_,h⟩:=Leaf.zy h
 obtain ⟨e,_,rfl,_,h⟩:=Leaf.zy h
 obtain ⟨f,_,rfl,_,h⟩:=Leaf.zy h
 obtain ⟨g,_,rfl,_,h⟩:=Leaf.zy h
 obtain rfl:=Leaf.all_nil h
 exact ⟨⟨a,⟨b,c,e,f⟩,g⟩,rfl⟩
theorem shArg (hv:Value.okWide Tryz.prog w r b0 57 v) (h:DataW.Trod enc Tryz.prog w base (fun _=>true) held 57 v d p):∃ x:Sh,Rel (said w) [] x.v v:=by
 obtain ⟨cs,rfl,hc⟩:=qd2 Tryz.underlying57 shLeaves hv h
 obtain ⟨x,rfl⟩:=qeV hc
 exact ⟨x,.agg (qbB (vs:=x.vals))⟩
end
end Go.Proofs.YtnconfggojpkcaaGreat
namespace Go.Proofs.YtnconfggojpkcaaGreat
set_option linter.all false
open Go.RowKit AM
set_option maxRecDepth 10000
attribute [local simp] jW zL yA jZ jq jX jY jo yB jr zM Xw Zf jQ Ze yP VX yO slF qU Zg jE Ql zN shares jF Qd zP ZM yt zo VY zq q8 yM jA Qe QN qZ zY jy yJ slV vD vF QM vg Yo jP vE aMM aUn Zh yL jR zX jO qX yK Zv yN yI VD Qo qY Zr Yp jC jB vG qM Yk eval qL AM.valOf qp qO zT del SV.refers zC yG jv shift ldV V.exact V.zh V.ofValue V.yh V.vT V.cells V.one Value.oneCell' Ym Q9 jH Zj Xf VW Qz VP jK zn QY Yt Qm Qg Zo calm Zu JN Zc feeds shrinks ZG looks isT QO vS QD putAt zV zQ JK sliceB isEq QS jg zi jU jm zK jh jl zJ jV jf zH Xt ZE QI JA Za inO yg Z9 Mix.qR Mix.QA Z5 Q7 qD qm q9 je zG Xr Zm y7 y8 Yg ZA zS vZ Zp jL V.fixed V.vO
attribute [local simp] yT jN QE yX vQ yU yV vP QF yR vL qbo Vk vY JX Vl z0 Z0 KN VQ Ws
def qcS (l:List Ru) (r:List Pr) (s:Nat):Bool:=decide (l.length≤7∧(qz l).length≤10)&&decide (r.length≤30)&&decide (s≤12)
def grB:Re:=⟨0,0,65535,65535⟩
def Jz:Gr:=⟨31,16,grB,false,9⟩
theorem wAll':PFn Tryz.prog 14 [] (.agg Jz.cs):=by
 refine AFn.intro (fn:=Tryz.f14) (by kernel_rfl) rfl (by kernel_rfl) (by simp) (AW.ofx [] mixed (by kernel_rfl) ?_)
 simp only [Tryz.f14,qj]
 simp [setCells,qh,Jz,grB,Gr.cs]
def exL:List Ru := [⟨4,255,0,7,255,[grB],14⟩]
theorem wEx:PFn Tryz.prog 44 [] (slU exL):=by
 refine AFn.intro (fn:=Tryz.f44) (by kernel_rfl) rfl (by kernel_rfl) (by simp) (AW.ofx [] mixed (by kernel_rfl) ?_)
 simp only [Tryz.f44,qj]
 simp [setCells,qh]
 rfl
theorem qj9:exL.all qK=true:=by decide
def FwI (l:List Ru) (r:List Pr) (n:Nat) (cs:List V) (k:Nat) (F:Fr) (H:List Bk):Prop:=(k≤7∧∀ j,j<k→(qz (l.take j)).length≤10)∧H = []∧F = [(0,.v (slU l)),(1,.v (lV r)),(2,.v (.sl n 6 cs)),(7,.v (.sc (.int .i64 (qz (l.take k)).length))),(8,.v (.sc (.int .i64 k)))]
set_option maxHeartbeats 2000000 in
theorem wFew (l:List Ru) (hb:∀ r∈l,r.boxes.length≤4398046511104) (r:List Pr) (n:Nat) (cs:List V):PFn Tryz.prog 12 [slU l,lV r,.sl n 6 cs] (.sc (.bool (qcS l r n))):=by
 refine AFn.intro (fn:=Tryz.f12) (by kernel_rfl) rfl (by kernel_rfl) (by simp) ?_
 simp only [Tryz.f12,qj]
 refine AW.seq (AW.ofx [] mixed (by kernel_rfl) ?_)
 simp [slU,lV]
 refine AW.seq (AW.ofx [] mixed (by kernel_rfl) ?_)
 simp
 refine AW.seq (AW.seq (AW.ofx [] mixed (by kernel_rfl) ?_))
 simp
 refine AW.block (AW.count l.length (FwI l r n cs) ⟨_,?_,⟨by omega,by omega⟩,rfl,rfl⟩ ?_)
 ·simp [qD,qm,qp,slU,lV,qz]
 rintro k F H hk ⟨⟨hk7,hpre⟩,rfl,rfl⟩
 have hle:=J5 l k
 refine AW.ofx [] mixed (by kernel_rfl) ?_
 by_cases hlt:k<l.length
 ·by_cases h6:6<k
  ·have h6':(6:Int)<k:=by omega
   have e:qcS l r n=false:=by
    unfold qcS
    rw [decide_eq_false (by omega)]
    rfl
   simp [slU,lV,hlt,h6',h6,e]
  ·have h6':¬ (6:Int)<k:=by omega
   by_cases h10:10<(qz (l.take k)).length
   ·have h10':(10:Int)<(qz (l.take k)).length:=by omega
    have e:qcS l r n=false:=by
     unfold qcS
     rw [decide_eq_false (by omega)]
     rfl
    generalize (qz (l.take k)).length=nn at *
    simp [slU,lV,hlt,h6',h6,h10,h10',e]
   ·have h10':¬ (10:Int)<(qz (l.take k)).length:=by omega
    have hrow:=qdp hlt
    have hst:(qz (l.take (k+1))).length=(qz (l.take k)).length+l[k].boxes.length:=by rw [X8 hlt,List.length_append]
    have hbl:=hb _ (List.getElem_mem hlt)
    have w1:IntKind.i64.wrap ((k:Int)+1)=(k:Int)+1:=by rw [wrap_i64] <;> omega
    have w2:IntKind.i64.wrap (((qz (l.take k)).length:Int)+l[k].boxes.length)=((qz (l.take (k+1))).length:Int):=by rw [hst,wrap_i64] <;> omega
    have hp:∀ j,j<k+1→(qz (l.take j)).length≤10:=fun j hj=>by
     by_cases e:j=k
     ·subst e; omega
     ·exact hpre j (by omega)
    unfold slR at hrow
    generalize hn1:(qz (l.take k)).length=nn at *
    generalize hn2:(qz (l.take (k+1))).length=n2 at *
    simp [slU,lV,hlt,h6',h6,h10,h10',hrow,w1,w2]
    refine ⟨_,?_,⟨by omega,hp⟩,rfl,rfl⟩
    simp [qD,qm,qp,slU,lV,hn2]
 ·have hk':k=l.length:=by omega
  subst hk'
  rw [List.take_length]
  have e:qcS l r n=(decide ((qz l).length≤10)&&decide (r.length≤30)&&decide (n≤12)):=by
   unfold qcS
   congr 2
   rw [decide_eq_decide]
   omega
  simp [slU,lV,e]
  by_cases c1:(qz l).length≤10
  rotate_left
  ·have c1':¬ ((qz l).length:Int)≤10:=by omega
   refine AW.ofx [] mixed (by kernel_rfl) ?_
   simp [c1,c1']
  have c1':((qz l).length:Int)≤10:=by omega
  by_cases c2:r.length≤30
  rotate_left
  ·have c2':¬ (r.length:Int)≤30:=by omega
   refine AW.ofx [] mixed (by kernel_rfl) ?_
   simp [c1,c1',c2,c2']
  have c2':(r.length:Int)≤30:=by omega
  by_cases c3:n≤12
  ·have c3':(n:Int)≤12:=by omega
   refine AW.ofx [] mixed (by kernel_rfl) ?_
   simp [c1,c1',c2,c2',c3,c3']
  ·have c3':¬ (n:Int)≤12:=by omega
   refine AW.ofx [] mixed (by kernel_rfl) ?_
   simp [c1,c1',c2,c2',c3,c3']
def tbR (l:List Ru):Bool:=decide (l.length≤32)&&l.all qK
structure Xg (H:List Bk) (l:List Ru) (S:List Pr) (C:List Sh) (r c t m:Nat) (Tp Tc:Nat→Prop):Prop where
 tb:∃ es,Tab H t m l es∧Xx l es
 tp:TrP H r 2 S Tp
 tc:TrS H c C Tc
 pm:∀ x,Tp x→x≠m
 cm:∀ x,Tc x→x≠m
theorem Xg.kept {H H':List Bk} {l:List Ru} {S:List Pr} {C:List Sh} {r c t m:Nat} {Tp Tc:Nat→Prop} (h:Xg H l S C r c t m Tp Tc) (k:Kept l t m H H'):Xg H' l S C r c t m Tp Tc:=by
 have k2:Kp (fun x=>x=m) H H':=fun i b hi hb hn=>k.2 i b hi hb hn
 exact ⟨k.1,h.tp.keep k2 h.pm,h.tc.keep k2 h.cm,h.pm,h.cm⟩
theorem Xg.app {H L:List Bk} {l:List Ru} {S:List Pr} {C:List Sh} {r c t m:Nat} {Tp Tc:Nat→Prop} (h:Xg H l S C r c t m Tp Tc):Xg (H++L) l S C r c t m Tp Tc:=by
 obtain ⟨⟨es,h1,h2⟩,h3,h4,h5,h6⟩:=h
 exact ⟨⟨es,h1.stays .app,h2⟩,h3.app,h4.app,h5,h6⟩
theorem Xg.YE {H H':List Bk} {l:List Ru} {S:List Pr} {C:List Sh} {r c t m:Nat} {Tp Tc:Nat→Prop} (h:Xg H l S C r c t m Tp Tc) (k:Kp NoB H H'):Xg H' l S C r c t m Tp Tc:=by
 obtain ⟨⟨es,h1,h2⟩,h3,h4,h5,h6⟩:=h
 exact ⟨⟨es,⟨k.cells id h1.t,k.map id h1.m⟩,h2⟩,h3.YE k,h4.YE k,h5,h6⟩
def XK (R:List Pr):List Pr:=R.foldl qgJ []
def qf6 (C:List Sh):List Sh:=C.foldl qgu []
theorem qjG (R:List Pr):(XK R).length≤R.length:=by
 unfold XK
 have:∀ (R S:List Pr),(R.foldl qgJ S).length≤S.length+R.length:=by
  intro R
  induction R with
  | nil=>intro S; simp
  | cons x R ih =>
   intro S
   have h1:=ih (qgJ S x)
   have h2:=insS_len (a:=S) (s:=x)
   simp only [List.foldl_cons,List.length_cons]
   omega
 have:=this R []
 simpa using this
structure WoJ (H0 H:List Bk) (l:List Ru) (S:List Pr) (C:List Sh) (r c t m:Nat) (Tp Tc:Nat→Prop):Prop where
 ok:Xg H l S C r c t m Tp Tc
 pt:∀ x,Tp x→x≠t
 ct:∀ x,Tc x→x≠t
 pc:∀ x,Tp x→¬ Tc x
 pn:∀ x,Tp x→H0.length≤x
 cn:∀ x,Tc x→H0.length≤x
 tn:H0.length≤t
 mn:H0.length≤m
 kp:Kp NoB H0 H
theorem qjI (U:List Sh) (s:Sh):(qgu U s).length≤U.length+1:=by
 unfold qgu less
 have:=List.length_filter_le (fun t:Sh=>decide (t.id≠s.id)) U
 split
 ·simp only [List.length_cons]
  have h2:=List.length_filter_le (fun t:Sh => !decide (t.id=s.id)) U
  first | omega | (simp at *; omega)
 ·omega
theorem shpI_len (R:List Sh):(qf6 R).length≤R.length:=by
 unfold qf6
 have:∀ (R S:List Sh),(R.foldl qgu S).length≤S.length+R.length:=by
  intro R
  induction R with
  | nil=>intro S; simp
  | cons x R ih =>
   intro S
   have h1:=ih (qgu S x)
   have h2:=qjI S x
   simp only [List.foldl_cons,List.length_cons]
   omega
 have:=this R []
 simpa using this
section
variable {H0 H H':List Bk} {l:List Ru} {S S':List Pr} {C C':List Sh} {r c t m:Nat} {Tp Tp' Tc Tc':Nat→Prop}
theorem WoJ.ins (h:WoJ H0 H l S C r c t m Tp Tc) (k:Kp Tp H H') (h1:TrP H' r 2 S' Tp') (h2:∀ x,Tp' x→Tp x∨H.length≤x):WoJ H0 H' l S' C r c t m Tp' Tc:=by
 obtain ⟨⟨⟨es,a1,a2⟩,a3,a4,a5,a6⟩,b1,b2,b3,b4,b5,b6,b7,b8⟩:=h
 have tl:=(List.getElem?_eq_some_iff.1 a1.t).1
 have ml:=(List.getElem?_eq_some_iff.1 a1.m).1
 have hl0:H0.length≤H.length:=by omega
 have cl:=a4.lt
 refine ⟨⟨⟨es,⟨k.cells (fun e=>b1 _ e rfl) a1.t,k.map (fun e=>a5 _ e rfl) a1.m⟩,a2⟩,h1,a4.keep k (fun x hx hp=>b3 x hp hx),fun x hx => ?_,a6⟩,fun x hx => ?_,b2,fun x hx hc => ?_,fun x hx => ?_,b5,b6,b7,fun i b hi hb hn=>k i b (fun e => ?_) (b8 i b id hb hn) hn⟩
 ·rcases h2 x hx with e | e
  ·exact a5 x e
  ·omega
 ·rcases h2 x hx with e | e
  ·exact b1 x e
  ·omega
 ·rcases h2 x hx with e | e
  ·exact b3 x e hc
  ·have:=cl x hc; omega
 ·rcases h2 x hx with e | e
  ·exact b4 x e
  ·omega
 ·have:=b4 _ e
  have:=(List.getElem?_eq_some_iff.1 hb).1
  omega
theorem WoJ.put (h:WoJ H0 H l S C r c t m Tp Tc) (k:Kp Tc H H') (h1:TrS H' c C' Tc') (h2:∀ x,Tc' x→Tc x∨H.length≤x):WoJ H0 H' l S C' r c t m Tp Tc':=by
 obtain ⟨⟨⟨es,a1,a2⟩,a3,a4,a5,a6⟩,b1,b2,b3,b4,b5,b6,b7,b8⟩:=h
 have tl:=(List.getElem?_eq_some_iff.1 a1.t).1
 have ml:=(List.getElem?_eq_some_iff.1 a1.m).1
 have hl0:H0.length≤H.length:=by omega
 have cl:=a3.lt
 refine ⟨⟨⟨es,⟨k.cells (fun e=>b2 _ e rfl) a1.t,k.map (fun e=>a6 _ e rfl) a1.m⟩,a2⟩,a3.keep k (fun x hx hp=>b3 x hx hp),h1,a5,fun x hx => ?_⟩,b1,fun x hx => ?_,fun x hp hx => ?_,b4,fun x hx => ?_,b6,b7,fun i b hi hb hn=>k i b (fun e => ?_) (b8 i b id hb hn) hn⟩
 ·rcases h2 x hx with e | e
  ·exact a6 x e
  ·omega
 ·rcases h2 x hx with e | e
  ·exact b2 x e
  ·omega
 ·rcases h2 x hx with e | e
  ·exact b3 x hp e
  ·have:=cl x hp; omega
 ·rcases h2 x hx with e | e
  ·exact b5 x e
  ·omega
 ·have:=b5 _ e
  have:=(List.getElem?_eq_some_iff.1 hb).1
  omega
theorem WoJ.cells (h:WoJ H0 H l S C r c t m Tp Tc) {i:Nat} {cs:List SV} (hi:H0[i]? = some (.cells cs)):H[i]? = some (.cells cs):=h.kp.cells id hi
end
def wzB:Bk := .cells [.v (.sc (.pointer none)),.v (.sc (.pointer none)),.v (.sc (.pointer none))]
def WdI (H1:List Bk) (l:List Ru) (R:List Pr) (C:List Sh) (i0 r c t m k:Nat) (F:Fr) (H:List Bk):Prop:=∃ Tp Tc,WoJ H1 H l (XK (R.take k)) [] r c t m Tp Tc∧F = [(1,.v (lV R)),(2,.v (slS C)),(6,.v (.ptr i0 0)),(7,.v (.sc (.bool false))),(8,.v (.ptr r 0)),(10,.v (.ptr t 0)),(12,.v (.ptr c 0)),(13,.v (.sc (.int .i64 k)))]
def WdK (H1:List Bk) (l:List Ru) (R:List Pr) (C:List Sh) (i0 r c t m k:Nat) (F:Fr) (H:List Bk):Prop:=∃ Tp Tc,WoJ H1 H l (XK R) (qf6 (C.take k)) r c t m Tp Tc∧F = [(2,.v (slS C)),(6,.v (.ptr i0 0)),(7,.v (.sc (.bool false))),(8,.v (.ptr r 0)),(10,.v (.ptr t 0)),(12,.v (.ptr c 0)),(14,.v (.sc (.int .i64 k)))]
set_option maxHeartbeats 2000000 in
theorem wWorld (l:List Ru) (hl:l.length≤9223372036854775807) (hb:∀ r∈l,r.boxes.length≤4398046511104) (R:List Pr) (hR:R.length≤300000) (C:List Sh) (hC:C.length≤300000) (H:List Bk) :
  AFn Tryz.prog 11 [slU l,lV R,slS C] H fun y H'=>Kp NoB H H'∧(tbR l=false→y = .tup [.agg [.sc (.pointer none),.sc (.pointer none),.sc (.pointer none)],.sc (.bool false)]) ∧
   (tbR l=true→∃ r c t m Tp Tc,y = .tup [wdC r c t,.sc (.bool true)]∧WoJ H H' l (XK R) (qf6 C) r c t m Tp Tc):=by
 have c1:=yc l
 refine AFn.intro (fn:=Tryz.f11) (by kernel_rfl) rfl (by kernel_rfl) (by simp) ?_
 simp only [Tryz.f11,qj]
 refine AW.seq (AW.ofx [] mixed (by kernel_rfl) ?_)
 simp
 have k0:Kp NoB H (H ++ [wzB]):=Kp.refl.app
 have g0:(H ++ [wzB])[H.length]? = some wzB:=by simp
 change AW _ _ _ _ ⟨_,H ++ [wzB]⟩
 have hH1l:(H ++ [wzB]).length=H.length+1:=by simp
 generalize H ++ [wzB]=H1 at *
 generalize hi0:H.length=i0 at *
 have hst:∀ H',H'[i0]? = some wzB→∀ a b c,setCells H' i0 0 [a,b,c]=H'.set i0 (.cells [.v a,.v b,.v c]):=fun H' h a b c=>by
  unfold wzB at h
  rw [setCells_eq h (by simp)]
  rfl
 have hgs:∀ (H':List Bk) (b:Bk),H'[i0]? = some b→∀ K,(H'.set i0 K)[i0]? = some K:=fun H' b h K=>List.getElem?_set_self (List.getElem?_eq_some_iff.1 h).1
 refine AW.seq (AW.ofx [] mixed (by kernel_rfl) ?_)
 simp
 refine qc.of (pNew 2 H1) ?_
 rintro y H2 ⟨-,h2⟩
 obtain ⟨r,b,Tp,rfl,hbb,tp2,k2,n2⟩:=h2 (by decide)
 obtain rfl:b=2:=by omega
 simp
 refine AW.seq (AW.ofx [] mixed (by kernel_rfl) ?_)
 simp
 cases hb':tbR l with
 | false =>
  obtain ⟨e,he,hN⟩:∃ e:Int,(e=1∨e=2)∧PFn Tryz.prog 40 [slU l] (newV e):=by
   by_cases h32:32<l.length
   ·exact ⟨2,.inr rfl,gnewLong l h32⟩
   ·refine ⟨1,.inl rfl,gnewArg l (by omega) (fun r hr=>by have:=hb r hr; omega) ?_⟩
    unfold tbR at hb'
    rw [decide_eq_true (by omega)] at hb'
    simpa using hb'
  unfold newV at hN
  refine qc.pure hN (by simp [V.qC,c1]) rfl ?_
  simp
  refine AW.seq (AW.ofx [] mixed (by kernel_rfl) ?_)
  simp
  refine qc.of (tnew H2) ?_
  rintro y H3 ⟨c,Tc,rfl,tc3,k3,n3⟩
  simp
  have g3:=k3.cells id (k2.cells id g0)
  have en:(e==0)=false∧(e != 0)=true:=by rcases he with rfl | rfl <;> decide
  refine AW.seq (AW.ofx [] mixed (by kernel_rfl) ?_)
  have g4:=hgs H3 wzB g3 (.cells [.v (.sc (.pointer none)),.v (.sc (.pointer none)),.v (.sc (.pointer none))])
  simp [en.1,en.2,g3,hst H3 g3,g4]
  intro i b hi hb hn
  have hil:=(List.getElem?_eq_some_iff.1 hb).1
  rw [List.getElem?_set_ne (by omega)]
  exact k3 i b id (k2 i b id (k0 i b id hb hn) hn) hn
 | true =>
  have hbt:=hb'
  unfold tbR at hbt
  simp only [Bool.and_eq_true,decide_eq_true_eq] at hbt
  refine qc.of (gnew l hbt.1 hb hbt.2 H2) ?_
  rintro y H3 ⟨t,m,rfl,hT,ht,hm,hs⟩
  simp
  refine AW.seq (AW.ofx [] mixed (by kernel_rfl) ?_)
  simp
  refine qc.of (tnew H3) ?_
  rintro y H4 ⟨c,Tc,rfl,tc4,k4,n4⟩
  simp
  refine AW.seq (AW.ofx [] mixed (by kernel_rfl) ?_)
  simp
  have q1:WoJ H1 H4 l (XK (R.take 0)) [] r c t m Tp Tc:=by
   have ks:Kp NoB H2 H3:=fun i b hi hb hn=>hs i b hb hn
   have k24:=ks.trans k4
   have lt2:=tp2.lt
   have l12:=k2
   have h12:H1.length≤H2.length:=by
    obtain ⟨j,hj⟩:∃ j,j=H1.length - 1:=⟨_,rfl⟩
    have hw:=k2.cells id g0
    have:=(List.getElem?_eq_some_iff.1 hw).1
    omega
   have tl:=(List.getElem?_eq_some_iff.1 hT.t).1
   have ml:=(List.getElem?_eq_some_iff.1 hT.m).1
   refine ⟨⟨⟨[],⟨k4.cells id hT.t,k4.map id hT.m⟩,fun e he=>by cases he⟩,tp2.YE k24,tc4,fun x hx => ?_,fun x hx => ?_⟩,fun x hx => ?_,fun x hx => ?_,fun x hx hc => ?_,n2,fun x hx => ?_,by omega,by omega,k2.trans k24⟩
   ·have:=lt2 x hx; omega
   ·have:=n4 x hx; omega
   ·have:=lt2 x hx; omega
   ·have:=n4 x hx; omega
   ·have:=lt2 x hx; have:=n4 x hc; omega
   ·have:=n4 x hx; omega
  refine AW.seq (AW.ofx [] mixed (by kernel_rfl) ?_)
  simp
  refine AW.count R.length (WdI H1 l R C i0 r c t m) ⟨_,?_,Tp,Tc,q1,rfl⟩ ?_
  ·simp [qD,qm,qp,lV,slS]
  clear q1
  rintro k F H5 hk ⟨Tp5,Tc5,q5,rfl⟩
  refine AW.ofx [] mixed (by kernel_rfl) ?_
  by_cases hlt:k<R.length
  ·have ew:IntKind.i64.wrap ((k:Int)+1)=k+1:=wrap_i64 (by omega) (by omega)
   have htk:XK (R.take (k+1))=qgJ (XK (R.take k)) R[k]:=by
    unfold XK
    rw [List.take_succ_eq_append_getElem hlt,List.foldl_append]
    rfl
   have hln:=qjG (R.take k)
   rw [List.length_take] at hln
   have hI:=pInsert q5.ok.tp R[k] (by omega)
   unfold Pr.v Pr.cs at hI
   simp [lV,hlt,qiJ hlt]
   refine qc.of hI ?_
   rintro y H6 ⟨rfl,k6,Tp6,t6,u6⟩
   simp [ew]
   refine ⟨_,?_,Tp6,Tc5,?_,rfl⟩
   ·simp [qD,qm,qp,lV,slS]
   ·rw [htk]
    exact q5.ins k6 t6 u6
  have hkR:k=R.length:=by omega
  subst hkR
  rw [List.take_length] at q5
  simp [lV]
  refine AW.ofx [] mixed (by kernel_rfl) ?_
  simp
  refine AW.count C.length (WdK H1 l R C i0 r c t m) ⟨_,?_,Tp5,Tc5,q5,rfl⟩ ?_
  ·simp [qD,qm,qp,lV,slS]
  clear q5
  rintro k F H6 hk ⟨Tp6,Tc6,q6,rfl⟩
  refine AW.ofx [] mixed (by kernel_rfl) ?_
  by_cases hlt:k<C.length
  ·have ew:IntKind.i64.wrap ((k:Int)+1)=k+1:=wrap_i64 (by omega) (by omega)
   have htk:qf6 (C.take (k+1))=qgu (qf6 (C.take k)) C[k]:=by
    unfold qf6
    rw [List.take_succ_eq_append_getElem hlt,List.foldl_append]
    rfl
   have hln:=shpI_len (C.take k)
   rw [List.length_take] at hln
   have hI:=tput q6.ok.tc C[k] (by omega)
   unfold Sh.v Sh.cs at hI
   simp [slS,hlt,rowSh hlt]
   refine qc.of hI ?_
   rintro y H7 ⟨rfl,k7,Tc7,t7,u7⟩
   simp [ew]
   refine ⟨_,?_,Tp6,Tc7,?_,rfl⟩
   ·simp [qD,qm,qp,lV,slS]
   ·rw [htk]
    exact q6.put k7 t7 u7
  have hkR:k=C.length:=by omega
  subst hkR
  rw [List.take_length] at q6
  simp [slS]
  have g6:=q6.cells g0
  have g7:=hgs H6 wzB g6 (.cells [.v (.ptr r 0),.v (.ptr c 0),.v (.ptr t 0)])
  have hkp:Kp (fun x=>x=i0) H6 (H6.set i0 (.cells [.v (.ptr r 0),.v (.ptr c 0),.v (.ptr t 0)])):=Kp.refl.set rfl
  have hkh:Kp NoB H (H6.set i0 (.cells [.v (.ptr r 0),.v (.ptr c 0),.v (.ptr t 0)])):=fun i b hi hb hn=>by
   have hil:=(List.getElem?_eq_some_iff.1 hb).1
   exact hkp i b (by omega) (q6.kp i b id (k0 i b id hb hn) hn) hn
  have g6':=g6
  unfold wzB at g6'
  have e6:=hst H6 g6
  obtain ⟨⟨⟨es,a1,a2⟩,a3,a4,a5,a6⟩,b1,b2,b3,b4,b5,b6,b7,b8⟩:=q6
  have hfin:WoJ H (H6.set i0 (.cells [.v (.ptr r 0),.v (.ptr c 0),.v (.ptr t 0)])) l (XK R) (qf6 C) r c t m Tp6 Tc6 :=
   ⟨⟨⟨es,⟨hkp.cells (by omega) a1.t,hkp.map (by omega) a1.m⟩,a2⟩,a3.keep hkp (fun x hx e=>by have:=b4 x hx; omega),a4.keep hkp (fun x hx e=>by have:=b5 x hx; omega),a5,a6⟩,b1,b2,b3,fun x hx=>by have:=b4 x hx; omega,fun x hx=>by have:=b5 x hx; omega,by omega,by omega,hkh⟩
  generalize hH7:H6.set i0 (.cells [.v (.ptr r 0),.v (.ptr c 0),.v (.ptr t 0)])=H7 at *
  simp [g6',e6,hH7,g7]
  exact ⟨hkh,r,c,t,rfl,m,Tp6,Tc6,hfin⟩
theorem Kept.toNo {l:List Ru} {t m:Nat} {H0 H H':List Bk} (k:Kept l t m H H') (h:Kp NoB H0 H) (hm:H0.length≤m):Kp NoB H0 H':=fun i b hi hb hn=>by
 have hil:=(List.getElem?_eq_some_iff.1 hb).1
 exact k.2 i b (by omega) (h i b id hb hn) hn
def qd7 (D:List Se) (p:Pt) (m:Nat):List Se:=((sort (D.map (J9 p))).take m).filterMap fun e=>D.find? fun s=>decide (s.id=e.i)
theorem find_se {D:List Se} (hD:(D.map Se.id).Nodup) {s:Se} (hs:s∈D):(D.find? fun t=>decide (t.id=s.id))=some s:=by
 induction D with
 | nil=>cases hs
 | cons x D ih =>
  rw [List.map_cons,List.nodup_cons] at hD
  rcases List.mem_cons.1 hs with rfl | hs
  ·simp
  ·have hne:¬ x.id=s.id:=fun e=>hD.1 (List.mem_map.2 ⟨s,hs,e.symm⟩)
   rw [List.find?_cons_of_neg (by simpa using hne)]
   exact ih hD.2 hs
theorem nearD_eq {D:List Se} (hD:(D.map Se.id).Nodup) {p:Pt} {m:Nat} {R:List Se} (h:NearS D p m R):R=qd7 D p m:=by
 unfold qd7
 rw [← h.1,List.filterMap_map]
 exact (VG fun s hs=>find_se hD (h.2 s hs)).symm
section
variable {H:List Bk} {l:List Ru} {S:List Pr} {C:List Sh} {r c t m:Nat} {Tp Tc:Nat→Prop}
def qfB (e:Int) (R:List Se):V := .tup [Yi (if e=0 then R else []),.sc (.int .i64 e)]
theorem ask_01 (v:Vw) (mm:Int) (b:Bool):Jc v mm b=0∨Jc v mm b=1:=by
 unfold Jc
 split
 ·exact .inl rfl
 ·exact .inr rfl
theorem ask_ok {v:Vw} {mm:Int} {b:Bool} (h:Jc v mm b=0):vC v=true∧b=true∧0≤mm∧mm≤64:=by
 unfold Jc at h
 split at h
 ·rename_i hc
  simp only [Bool.and_eq_true,decide_eq_true_eq] at hc
  exact ⟨hc.1.1.1,hc.1.1.2,hc.1.2,hc.2⟩
 ·cases h
theorem woWindow (h:Xg H l S C r c t m Tp Tc) (hl:qae l) (hS:S.Pairwise fun a b=>a.id<b.id) (hSl:S.length≤50) (v:Vw) (rc:Re) (mm:Int) :
  AFn Tryz.prog 18 [wdC r c t,.agg v.cs,rc.v,.sc (.int .i64 mm)] H fun y H'=>y=qfB (Jc v mm (qo rc)) ((docW l v rc S).take mm.toNat)∧Kept l t m H H':=by
 obtain ⟨⟨es,h1,h2⟩,h3,h4,h5,h6⟩:=h
 refine AFn.conv (plWindow hl v h1 h2 h3 h5 hSl (zs_len hl.all v) rc mm) ?_
 rintro y H' ⟨k,a1,a2⟩
 rcases ask_01 v mm (qo rc) with e | e
 ·obtain ⟨R,rfl,hR⟩:=a2 e
  have hw:=qjr hl.all (ask_ok e).2.1 hS hR
  refine ⟨_,⟨rfl,k⟩,fun I φ w hw' => ?_⟩
  unfold qfB
  rw [if_pos e,← hw,e]
  exact hw'
 ·have:=a1 (by rw [e]; decide)
  subst this
  refine ⟨_,⟨rfl,k⟩,fun I φ w hw' => ?_⟩
  unfold qfB
  rw [if_neg (by rw [e]; decide),e]
  exact qa6 hw'
theorem woNear (h:Xg H l S C r c t m Tp Tc) (hl:qae l) (hS:S.Pairwise fun a b=>a.id<b.id) (hSl:S.length≤50) (v:Vw) (p:Pt) (mm:Int) :
  AFn Tryz.prog 19 [wdC r c t,.agg v.cs,p.v,.sc (.int .i64 mm)] H fun y H'=>y=qfB (Jc v mm (fits p)) (qd7 (docS l v S) p mm.toNat)∧Kept l t m H H':=by
 obtain ⟨⟨es,h1,h2⟩,h3,h4,h5,h6⟩:=h
 refine AFn.conv (plNear hl v h1 h2 h3 h5 hSl (zs_len hl.all v) (fun z hz=>by have:=zs_of hl.all hz; omega) p mm) ?_
 rintro y H' ⟨k,a1,a2⟩
 rcases ask_01 v mm (fits p) with e | e
 ·obtain ⟨R,rfl,hR⟩:=a2 e
  have hw:R=qd7 (docS l v S) p mm.toNat:=nearD_eq (qid (XG hS)) (qhV hl.all (XG hS) hR)
  refine ⟨_,⟨rfl,k⟩,fun I φ w hw' => ?_⟩
  unfold qfB
  rw [if_pos e,← hw,e]
  exact hw'
 ·have:=a1 (by rw [e]; decide)
  subst this
  refine ⟨_,⟨rfl,k⟩,fun I φ w hw' => ?_⟩
  unfold qfB
  rw [if_neg (by rw [e]; decide),e]
  exact qa6 hw'
end
theorem Xg.set {H:List Bk} {K:Bk} {i:Nat} {l:List Ru} {S:List Pr} {C:List Sh} {r c t m:Nat} {Tp Tc:Nat→Prop} (h:Xg H l S C r c t m Tp Tc) (h1:∀ x,Tp x→x≠i) (h2:∀ x,Tc x→x≠i) (h3:t≠i) (h4:m≠i):Xg (H.set i K) l S C r c t m Tp Tc:=by
 have hkp:Kp (fun x=>x=i) H (H.set i K):=Kp.refl.set rfl
 obtain ⟨⟨es,a1,a2⟩,a3,a4,a5,a6⟩:=h
 exact ⟨⟨es,⟨hkp.cells h3 a1.t,hkp.map h4 a1.m⟩,a2⟩,a3.keep hkp h1,a4.keep hkp h2,a5,a6⟩
def Xv (g:Gr):Bk := .cells [.v (.sc (.int .i64 g.ops)),.v (.sc (.int .i64 g.zoom)),.v (.sc (.int .i64 g.box.x0)),.v (.sc (.int .i64 g.box.y0)),.v (.sc (.int .i64 g.box.x1)),.v (.sc (.int .i64 g.box.y1)),.v (.sc (.bool g.void)),.v (.sc (.int .i64 g.til))]
def vwA:Vw:=⟨0,0,Jz⟩
def vwL:Vw:=⟨0,0,{ Jz with zoom:=12 }⟩
def qe3:Pr:=⟨3,⟨5,9⟩,0⟩
theorem know1:docW exL vwA ⟨0,0,4,8⟩ [qe3] = [⟨3,14,4,8,7,11⟩]:=by decide +kernel
theorem know2:docS exL vwL [qe3] = [⟨3,12,0,0,15,15⟩]:=by decide +kernel
theorem know3:XK [qe3] = [qe3]:=by decide +kernel
theorem know4:tbR exL=true:=by decide +kernel
theorem know5:Jc vwA 3 (qo ⟨0,0,4,8⟩)=0:=by decide +kernel
theorem know6:Jc vwL 3 (fits ⟨99,0⟩)=0:=by decide +kernel
theorem exTb:qae exL:=⟨by decide,by decide,qj9⟩
theorem know7:qd7 [⟨3,12,0,0,15,15⟩] ⟨99,0⟩ 3 = [⟨3,12,0,0,15,15⟩]:=by decide +kernel
theorem ans1:qfB (Jc vwA 3 (qo ⟨0,0,4,8⟩)) ((docW exL vwA ⟨0,0,4,8⟩ [qe3]).take (3:Int).toNat) = .tup [Yi [⟨3,14,4,8,7,11⟩],.sc (.int .i64 0)]:=by
 rw [know1,know5]
 rfl
theorem ans2:qfB (Jc vwL 3 (fits ⟨99,0⟩)) (qd7 (docS exL vwL [qe3]) ⟨99,0⟩ (3:Int).toNat) = .tup [Yi [⟨3,12,0,0,15,15⟩],.sc (.int .i64 0)]:=by
 rw [know2,know6]
 unfold qfB
 rw [if_pos rfl]
 have:(3:Int).toNat=3:=rfl
 rw [this,know7]
set_option maxHeartbeats 2000000 in
theorem wKnown (H:List Bk):AFn Tryz.prog 13 [] H fun y H'=>y = .sc (.bool true)∧Kp NoB H H':=by
 have hE:=wEx
 have hex:=yc exL
 have hA:=wAll'
 have hW:=(wWorld exL (by decide) (by decide) [qe3] (by decide) [] (by decide) H).weak (Zw.cons (Zw.cons (Zw.nil0 (sz:=6) (Zw.refl _))))
 unfold Gr.cs at hA
 refine AFn.intro (fn:=Tryz.f13) (by kernel_rfl) rfl (by kernel_rfl) (by simp) ?_
 simp only [Tryz.f13,qj]
 refine AW.seq (AW.ofx [(4,9,[1])] mixed (by kernel_rfl) ?_)
 simp
 refine AW.seq (AW.ofx [(4,9,[1])] mixed (by kernel_rfl) ?_)
 simp
 refine qc.pure hE rfl hex ?_
 simp
 refine qc.of hW ?_
 rintro y H1 ⟨k1,-,h1⟩
 obtain ⟨r,c,t,m,Tp,Tc,rfl,hJ⟩:=h1 know4
 rw [know3] at hJ
 have hWo:=hJ.ok
 have hmn:=hJ.mn
 have hWi:=fun H' h=>woWindow (H:=H') (S := [qe3]) (C := []) (r:=r) (c:=c) (t:=t) (m:=m) (Tp:=Tp) (Tc:=Tc) h exTb (by simp) (by simp) vwA ⟨0,0,4,8⟩ 3
 have hNe:=fun H' h=>woNear (H:=H') (S := [qe3]) (C := []) (r:=r) (c:=c) (t:=t) (m:=m) (Tp:=Tp) (Tc:=Tc) h exTb (by simp) (by simp) vwL ⟨99,0⟩ 3
 simp only [ans1] at hWi
 simp only [ans2] at hNe
 unfold wdC
 simp
 rw [qy rfl]
 have e0:(H1 ++ [wdB r c t])[H1.length]? = some (wdB r c t):=by simp
 have hW2:=hWo.app (L := [wdB r c t])
 have k2:=k1.app (L := [wdB r c t])
 change AW _ _ _ _ ⟨_,H1 ++ [wdB r c t]⟩
 generalize H1 ++ [wdB r c t]=H2 at *
 generalize H1.length=i0 at *
 have e0':=e0
 unfold wdB at e0'
 refine AW.seq (AW.ofx [(4,9,[1])] mixed (by kernel_rfl) ?_)
 simp
 refine AW.seq (AW.ofx [(4,9,[1])] mixed (by kernel_rfl) ?_)
 simp [e0']
 refine qc.pure hA rfl rfl ?_
 simp
 have hw1:=hWi _ hW2
 unfold Vw.cs Re.v Re.cs vwA wdC at hw1
 obtain ⟨es2,t2,m2⟩:=hW2.tb
 refine qc.of hw1 ?_
 rintro y H3 ⟨rfl,kK⟩
 have kp3:=eq_true (kK.qbe t2)
 have hW3:=hW2.kept kK
 have k3:=kK.toNo k2 hmn
 have f0:=kK.2.cells (qE e0 t2.m) e0
 have hs3:=(kK.qbe t2)
 clear hw1 kK t2 m2 hW2 hWo hJ k1 h1
 simp [kp3]
 refine AW.seq (AW.ofx [(4,9,[1])] mixed (by kernel_rfl) ?_)
 simp
 refine qc.pure hA rfl rfl ?_
 simp
 rw [qy rfl]
 have g0:=hget (L := [Xv Jz]) f0
 have g1:(H3 ++ [Xv Jz])[H3.length]? = some (Xv Jz):=by simp
 have hW4:=hW3.app (L := [Xv Jz])
 have k4:=k3.app (L := [Xv Jz])
 change AW _ _ _ _ ⟨_,H3 ++ [Xv Jz]⟩
 have hne:i0<H3.length:=(List.getElem?_eq_some_iff.1 f0).1
 have hmn3:m<H3.length:=by
  obtain ⟨es3,t3,_⟩:=hW3.tb
  exact (List.getElem?_eq_some_iff.1 t3.m).1
 have htn3:t<H3.length:=by
  obtain ⟨es3,t3,_⟩:=hW3.tb
  exact (List.getElem?_eq_some_iff.1 t3.t).1
 have hlt:=hW3.tp.lt
 have hltc:=hW3.tc.lt
 have hHl:H.length≤H3.length:=by omega
 generalize H3 ++ [Xv Jz]=H4 at *
 generalize H3.length=i1 at *
 have est:∀ x,setCells H4 i1 1 [x]=H4.set i1 (.cells [.v (.sc (.int .i64 31)),.v x,.v (.sc (.int .i64 0)),.v (.sc (.int .i64 0)),.v (.sc (.int .i64 65535)),.v (.sc (.int .i64 65535)),.v (.sc (.bool false)),.v (.sc (.int .i64 9))]):=fun x=>by
  unfold Xv at g1
  rw [setCells_eq g1 (by simp)]
  rfl
 have g1':=g1
 unfold Xv at g1'
 refine AW.seq (AW.ofx [(4,9,[1])] mixed (by kernel_rfl) ?_)
 simp [g1',est]
 have hkp:Kp (fun x=>x=i1) H4 (H4.set i1 (Xv { Jz with zoom:=12 })):=Kp.refl.set rfl
 have hW5:=hW4.set (K:=Xv { Jz with zoom:=12 }) (i:=i1) (fun x hx=>by have:=hlt x hx; omega) (fun x hx=>by have:=hltc x hx; omega) (by omega) (by omega)
 have g5:(H4.set i1 (Xv { Jz with zoom:=12 }))[i0]? = some (wdB r c t):=hkp.cells (by omega) g0
 have g6:(H4.set i1 (Xv { Jz with zoom:=12 }))[i1]? = some (Xv { Jz with zoom:=12 }):=List.getElem?_set_self (List.getElem?_eq_some_iff.1 g1).1
 have k5:Kp NoB H (H4.set i1 (Xv { Jz with zoom:=12 })):=fun i b hi hb hn=>by
  have hil:=(List.getElem?_eq_some_iff.1 hb).1
  exact hkp i b (by omega) (k4 i b id hb hn) hn
 change AW _ _ _ _ ⟨_,H4.set i1 (Xv { Jz with zoom:=12 })⟩
 generalize H4.set i1 (Xv { Jz with zoom:=12 })=H5 at *
 unfold wdB at g5
 unfold Xv at g6
 have hw1:=hNe _ hW5
 unfold Vw.cs Pt.v Pt.cs vwL wdC at hw1
 have hgd:({ Jz with zoom:=12 }:Gr).ops=31∧({ Jz with zoom:=12 }:Gr).zoom=12∧({ Jz with zoom:=12 }:Gr).box.x0=0∧({ Jz with zoom:=12 }:Gr).box.y0=0∧({ Jz with zoom:=12 }:Gr).box.x1=65535∧({ Jz with zoom:=12 }:Gr).box.y1=65535∧({ Jz with zoom:=12 }:Gr).void=false∧({ Jz with zoom:=12 }:Gr).til=9:=⟨rfl,rfl,rfl,rfl,rfl,rfl,rfl,rfl⟩
 simp only [hgd] at g6 hw1
 refine AW.seq (AW.ofx [(4,9,[1])] mixed (by kernel_rfl) ?_)
 simp [g5,g6]
 refine qc.of hw1 ?_
 rintro y H6 ⟨rfl,kK⟩
 obtain ⟨es5,t5,m5⟩:=hW5.tb
 have kp6:=eq_true (kK.qbe t5)
 have k6:=kK.toNo k5 hmn
 simp [kp6]
 have hS1:=dSame [⟨3,14,4,8,7,11⟩] [⟨3,14,4,8,7,11⟩] (by decide)
 have hS2:=dSame [⟨3,12,0,0,15,15⟩] [⟨3,12,0,0,15,15⟩] (by decide)
 rw [decide_eq_true rfl] at hS1 hS2
 refine AW.seq (AW.ofx [(4,9,[1])] mixed (by kernel_rfl) ?_)
 simp
 refine qc.pure hS1 rfl rfl ?_
 simp
 refine qc.pure hS2 rfl rfl ?_
 simp
 refine AW.ofx [(4,9,[1])] mixed (by kernel_rfl) ?_
 simp
 exact k6
structure Qv where
 l:List Ru
 v:Vw
 r:Re
 p:Pt
 m:Int
def Qv.cs (q:Qv):List V := [slU q.l,.sc (.int .i64 q.v.ro),.sc (.int .i64 q.v.ti),.sc (.int .i64 q.v.g.ops),.sc (.int .i64 q.v.g.zoom),.sc (.int .i64 q.v.g.box.x0),.sc (.int .i64 q.v.g.box.y0),.sc (.int .i64 q.v.g.box.x1),.sc (.int .i64 q.v.g.box.y1),.sc (.bool q.v.g.void),.sc (.int .i64 q.v.g.til),.sc (.int .i64 q.r.x0),.sc (.int .i64 q.r.y0),.sc (.int .i64 q.r.x1),.sc (.int .i64 q.r.y1),.sc (.int .i64 q.p.x),.sc (.int .i64 q.p.y),.sc (.int .i64 q.m)]
def Qv.w (q:Qv):V := .agg q.cs
def qvB (q:Qv):Bk := .cells [.v (slU q.l),.v (.sc (.int .i64 q.v.ro)),.v (.sc (.int .i64 q.v.ti)),.v (.sc (.int .i64 q.v.g.ops)),.v (.sc (.int .i64 q.v.g.zoom)),.v (.sc (.int .i64 q.v.g.box.x0)),.v (.sc (.int .i64 q.v.g.box.y0)),.v (.sc (.int .i64 q.v.g.box.x1)),.v (.sc (.int .i64 q.v.g.box.y1)),.v (.sc (.bool q.v.g.void)),.v (.sc (.int .i64 q.v.g.til)),.v (.sc (.int .i64 q.r.x0)),.v (.sc (.int .i64 q.r.y0)),.v (.sc (.int .i64 q.r.x1)),.v (.sc (.int .i64 q.r.y1)),.v (.sc (.int .i64 q.p.x)),.v (.sc (.int .i64 q.p.y)),.v (.sc (.int .i64 q.m))]
theorem boolEqW {x y:Operand} {u v:Bool}:Jb Tryz.prog .eql 4 x y (.bool u) (.bool v)=some (.bool (u==v)):=by cases u <;> cases v <;> kernel_rfl
theorem few_tb {l:List Ru} {r:List Pr} {n:Nat} (h:tbR l=true) (hf:qcS l r n=true):qae l∧l.length≤7∧(qz l).length≤10∧r.length≤30∧n≤12:=by
 unfold tbR at h
 unfold qcS at hf
 simp only [Bool.and_eq_true,decide_eq_true_eq] at h hf
 exact ⟨⟨by omega,by omega,h.2⟩,by omega,by omega,hf.1.2,hf.2⟩
set_option maxHeartbeats 2000000 in
theorem plSee0 (v:Vw) (x:Pr) (H:List Bk) :
  AFn Tryz.prog 20 [.agg [.sc (.pointer none),.sc (.pointer none),.sc (.pointer none)],.agg v.cs,x.v] H fun y H'=>y=seW none∧Kp NoB H H':=by
 have hRt:=WC v
 have hF:=YJ x.at_
 have hZ:=gZoomN v.ro v.ti x.lab x.at_
 have hLv:=fun z=>qbD v z
 have hSh:=fun lv b=>qfb v x.id lv b
 have hzm:vC v=true→lvl v 0=0:=fun h=>by
  have:=qeO h
  unfold lvl
  split <;> omega
 unfold Vw.cs at hRt hLv hSh ⊢
 unfold Pt.v Pt.cs at hF hZ
 unfold Re.v Re.cs at hSh
 unfold Pr.v Pr.cs
 refine AFn.intro (fn:=Tryz.f20) (by kernel_rfl) rfl (by kernel_rfl) (by simp) ?_
 simp only [Tryz.f20,qj]
 refine AW.seq (AW.ofx [(3,12,[4,3,5])] mixed (by kernel_rfl) ?_)
 simp
 have hk1:Kp NoB H (H ++ [wzB,vwB v,prB x,seB qw]):=Kp.refl.app
 have g0:(H ++ [wzB,vwB v,prB x,seB qw])[H.length]? = some wzB:=by simp
 have g1:(H ++ [wzB,vwB v,prB x,seB qw])[H.length+1]? = some (vwB v):=by simp
 have g2:(H ++ [wzB,vwB v,prB x,seB qw])[H.length+2]? = some (prB x):=by simp
 have g3:(H ++ [wzB,vwB v,prB x,seB qw])[H.length+3]? = some (seB qw):=by simp
 change AW _ _ _ _ ⟨_,H ++ [wzB,vwB v,prB x,seB qw]⟩
 generalize H ++ [wzB,vwB v,prB x,seB qw]=H1 at *
 have d3:H.length≤H.length+3:=by omega
 generalize H.length+1=i1 at *
 generalize H.length+2=i2 at *
 generalize H.length+3=i3 at *
 generalize hi0:H.length=i0 at *
 have hst:∀ {H2},H2[i3]? = some (seB qw)→∀ a b c d e f,setCells H2 i3 0 [a,b,c,d,e,f]=H2.set i3 (.cells [.v a,.v b,.v c,.v d,.v e,.v f]):=fun h a b c d e f=>by
  unfold seB at h
  rw [setCells_eq h (by simp)]
  rfl
 have hgs:∀ (H2:List Bk),H2[i3]? = some (seB qw)→∀ K,(H2.set i3 K)[i3]? = some K:=fun H2 h K=>List.getElem?_set_self (List.getElem?_eq_some_iff.1 h).1
 have hend:∀ (H2:List Bk),Kp NoB H H2→∀ K,Kp NoB H (H2.set i3 K):=fun H2 h K i b hi hb hn=>by
  have hil:=(List.getElem?_eq_some_iff.1 hb).1
  rw [List.getElem?_set_ne (by omega)]
  exact h i b hi hb hn
 have g1':=g1
 have g2':=g2
 have g3':=g3
 unfold vwB at g1'
 unfold prB at g2'
 unfold seB at g3'
 refine AW.seq (AW.ofx [(3,12,[4,3,5])] mixed (by kernel_rfl) ?_)
 simp [g1',g2']
 refine qc.pure hRt rfl rfl ?_
 cases hr:vC v with
 | false =>
  simp [g1',g2',g3',hst g3,hgs H1 g3]
  exact ⟨by simp [seW,Se.cs,qw],hend _ hk1 _⟩
 | true =>
  simp [g1',g2']
  refine qc.pure hF rfl rfl ?_
  cases hf:fits x.at_ with
  | false =>
   simp [g1',g2',g3',hst g3,hgs H1 g3]
   exact ⟨by simp [seW,Se.cs,qw],hend _ hk1 _⟩
  | true =>
   have g0':=g0
   unfold wzB at g0'
   simp [g1',g2']
   refine AW.seq (AW.ofx [(3,12,[4,3,5])] mixed (by kernel_rfl) ?_)
   simp [g0',g1',g2']
   refine qc.pure hZ rfl rfl ?_
   simp [g0',g1',g2']
   refine qc.pure (hLv 0) rfl rfl ?_
   rw [hzm hr]
   have hO:=cOf x.at_ 0
   have hB:=fun c=>qkh c
   generalize ofR x.at_ 0=oc at *
   obtain ⟨oc,ok⟩:=oc
   simp only at hO ⊢
   have hB:=hB oc
   generalize Qs oc=bx at *
   obtain ⟨bx,bok⟩:=bx
   simp only at hB ⊢
   have hSh:=hSh 0 bx
   have e0:Zz v x.id 0 bx=none:=by simp [Zz]
   rw [e0,Vq] at hSh
   rw [Vq]
   unfold Pt.v Pt.cs Ce.v Ce.cs at hO
   unfold Ce.v Ce.cs Re.v Re.cs at hB
   simp [g0',g1',g2']
   refine AW.seq (AW.ofx [(3,12,[4,3,5])] mixed (by kernel_rfl) ?_)
   simp [g2']
   refine qc.pure hO rfl rfl ?_
   simp
   rw [qy rfl]
   have hpc:Bk.cells ([V.sc (.int .i64 oc.l),V.sc (.int .i64 oc.x),V.sc (.int .i64 oc.y)].map SV.v)=ceB oc:=rfl
   rw [hpc]
   have e1:=hget (L := [ceB oc]) g1
   have e2:=hget (L := [ceB oc]) g2
   have e3:=hget (L := [ceB oc]) g3
   have e4:(H1 ++ [ceB oc])[H1.length]? = some (ceB oc):=by simp
   have hK3:=hk1.app (L := [ceB oc])
   generalize H1 ++ [ceB oc]=H3 at *
   generalize H1.length=i4 at *
   unfold ceB at e4
   refine AW.sub [(4,.v (.ptr i1 0)),(5,.v (.ptr i2 0)),(6,.v (.ptr i3 0)),(8,.v (.sc (.int .i64 0))),(9,.v (.ptr i4 0)),(7,.v (.sc (.bool false)))] (by simp [YW,qp]) ?_
   refine AW.seq (AW.ofx [(3,12,[4,3,5])] mixed (by kernel_rfl) ?_)
   simp [e4]
   refine qc.pure hB rfl rfl ?_
   simp
   rw [qy rfl]
   have hpr:Bk.cells ([V.sc (.int .i64 bx.x0),V.sc (.int .i64 bx.y0),V.sc (.int .i64 bx.x1),V.sc (.int .i64 bx.y1)].map SV.v)=reB bx:=rfl
   rw [hpr]
   have f1:=hget (L := [reB bx]) e1
   have f2:=hget (L := [reB bx]) e2
   have f3:=hget (L := [reB bx]) e3
   have f4:(H3 ++ [reB bx])[H3.length]? = some (reB bx):=by simp
   have hK4:=hK3.app (L := [reB bx])
   generalize H3 ++ [reB bx]=H4 at *
   generalize H3.length=i5 at *
   have f3':=f3
   unfold vwB at f1
   unfold prB at f2
   unfold seB at f3'
   unfold reB at f4
   refine AW.seq (AW.ofx [(3,12,[4,3,5])] mixed (by kernel_rfl) ?_)
   simp [f1,f2,f4]
   refine qc.pure hSh rfl rfl ?_
   simp [f3',hst f3]
   refine AW.ofx [(3,12,[4,3,5])] mixed (by kernel_rfl) ?_
   simp [hgs H4 f3]
   exact hend _ hK4 _
section
variable {H:List Bk} {l:List Ru} {S:List Pr} {C:List Sh} {r c t m:Nat} {Tp Tc:Nat→Prop}
theorem woSee (h:Xg H l S C r c t m Tp Tc) (hl:qae l) (v:Vw) (x:Pr):AFn Tryz.prog 20 [wdC r c t,.agg v.cs,x.v] H fun y H'=>y=seW (vR (zmP l v) v x)∧Kept l t m H H':=by
 obtain ⟨es,h1,h2⟩:=h.tb
 exact qiS hl v x r c es H h1 h2
theorem woSeeC (h:Xg H l S C r c t m Tp Tc) (hl:qae l) (v:Vw) (x:Sh):AFn Tryz.prog 22 [wdC r c t,.agg v.cs,x.v] H fun y H'=>y=seW (qjz (zmC l v) v x)∧Kept l t m H H':=by
 obtain ⟨es,h1,h2⟩:=h.tb
 exact (plSeeC hl v x r c es H h1 h2).mono' fun y H' h=>⟨h.1,h.2.w⟩
end
theorem qfx {l:List Ru} (ha:l.all qK=true):∀ b∈qz l,qo b=true:=fun b hb=>by
 obtain ⟨r,hr,hb⟩:=List.mem_flatMap.1 hb
 have h:=List.all_eq_true.1 ha r hr
 unfold qK at h
 split at h
 ·simp at h
  rw [h.1.2] at hb
  cases hb
 ·simp at h
  exact h.1.2 b hb
set_option maxHeartbeats 16000000 in
theorem wWorldE (l:List Ru) (hl:l.length≤9223372036854775807) (hb:∀ r∈l,r.boxes.length≤4398046511104) (H:List Bk) :
  AFn Tryz.prog 11 [slU l,.nil,.nil] H fun y H'=>Kp NoB H H'∧(tbR l=false→y = .tup [.agg [.sc (.pointer none),.sc (.pointer none),.sc (.pointer none)],.sc (.bool false)]) ∧
   (tbR l=true→∃ r c t m Tp Tc,y = .tup [wdC r c t,.sc (.bool true)]∧WoJ H H' l [] [] r c t m Tp Tc) := 
 (wWorld l hl hb [] (by decide) [] (by decide) H).weak (Zw.cons (Zw.nil0 (sz:=4) (Zw.nil0 (sz:=6) (Zw.refl _))))
theorem wFewE (l:List Ru) (hb:∀ r∈l,r.boxes.length≤4398046511104):PFn Tryz.prog 12 [slU l,.nil,.nil] (.sc (.bool (qcS l [] 0))) :=
 AFn.weak (wFew l hb [] 0 []) (Zw.cons (Zw.nil0 (sz:=4) (Zw.nil0 (sz:=6) (Zw.refl _))))
theorem seE (s:Se):Bk.cells ([V.sc (.int .i64 s.id),V.sc (.int .i64 s.lv),V.sc (.int .i64 s.box.x0),V.sc (.int .i64 s.box.y0),V.sc (.int .i64 s.box.x1),V.sc (.int .i64 s.box.y1)].map SV.v)=seB s:=rfl
set_option maxHeartbeats 8000000 in
theorem seesLaw (q:Qv) (hl:q.l.length≤9223372036854775807) (hb:∀ r∈q.l,r.boxes.length≤4398046511104) (x:Pr) (s:Sh):AFn Tryz.prog 4 [q.w,x.v,s.v] [] fun y _=>y = .sc (.bool true):=by
 have hK:=fun H=>wKnown H
 have hW:=fun H=>wWorldE q.l hl hb H
 have hF:=wFewE q.l hb
 have c1:=yc q.l
 unfold Qv.w Qv.cs Pr.v Pr.cs Sh.v Sh.cs
 refine AFn.intro (fn:=Tryz.f4) (by kernel_rfl) rfl (by kernel_rfl) (by simp) ?_
 simp only [Tryz.f4,qj]
 refine AW.seq (AW.ofx [(9,34,[3,9,11,10,12,13,15,14,16,18,17])] mixed (by kernel_rfl) ?_)
 simp [slU]
 have e0 : [qvB q,prB x,YX s][0]? = some (qvB q):=rfl
 have e1 : [qvB q,prB x,YX s][1]? = some (prB x):=rfl
 have e2 : [qvB q,prB x,YX s][2]? = some (YX s):=rfl
 change AW _ _ _ _ ⟨_,[qvB q,prB x,YX s]⟩
 have hH0 : [qvB q,prB x,YX s].length=3:=rfl
 generalize [qvB q,prB x,YX s]=H0 at *
 have e0':=e0
 unfold qvB at e0'
 refine AW.seq (AW.ofx [(9,34,[3,9,11,10,12,13,15,14,16,18,17])] mixed (by kernel_rfl) ?_)
 simp [e0']
 refine qc.of (hW H0) ?_
 rintro y H1 ⟨k1,w0,w1⟩
 have f0:=k1.cells id e0
 have f1:=k1.cells id e1
 have f2:=k1.cells id e2
 have kp1:=eq_true (k1.qi8 (fun x h=>h))
 cases ht:tbR q.l with
 | false =>
  have:=w0 ht
  subst this
  simp [kp1]
  refine AW.seq (AW.ofx [(9,34,[3,9,11,10,12,13,15,14,16,18,17])] mixed (by kernel_rfl) ?_)
  simp
  refine qc.of (hK _) ?_
  rintro y H2 ⟨rfl,k2⟩
  simp
 | true =>
  obtain ⟨r,c,t,m,Tp,Tc,rfl,hJ⟩:=w1 ht
  have hWo:=hJ.ok
  clear w0 w1 hW k1 hJ e0 e1 e2 e0'
  unfold wdC
  simp [kp1]
  rw [qy rfl]
  change AW _ _ _ _ ⟨_,H1 ++ [wdB r c t]⟩
  have g0:=hget (L := [wdB r c t]) f0
  have g1:=hget (L := [wdB r c t]) f1
  have g2:=hget (L := [wdB r c t]) f2
  have g3:(H1 ++ [wdB r c t])[H1.length]? = some (wdB r c t):=by simp
  have hW1:=hWo.app (L := [wdB r c t])
  clear f0 f1 f2 hWo kp1
  generalize H1 ++ [wdB r c t]=H2 at *
  generalize H1.length=i3 at *
  have g0':=g0
  try unfold qvB at g0'
  refine AW.seq (AW.ofx [(9,34,[3,9,11,10,12,13,15,14,16,18,17])] mixed (by kernel_rfl) ?_)
  simp [g0']
  refine qc.pure hF (by simp [V.qC,V.closed,c1]) rfl ?_
  cases hfw:qcS q.l [] 0 with
  | false =>
   simp
   refine qc.of (hK _) ?_
   rintro y H3 ⟨rfl,k2⟩
   simp
  | true =>
   simp
   obtain ⟨hTb,hl7,hb10,-,-⟩:=few_tb ht hfw
   have hs1:=fun H' (h:Xg H' q.l [] [] r c t m Tp Tc)=>woSee h hTb q.v x
   have hs2:=fun H' (h:Xg H' q.l [] [] r c t m Tp Tc)=>woSeeC h hTb q.v s
   have hs0:=fun H'=>plSee0 q.v x H'
   have hd1:=dSee hl (fun r hr=>by have:=hb r hr; omega) q.v x
   have hd2:=dSeeC (l:=q.l) (by omega) (by omega) (qfx hTb.all) q.v s
   have hr1:=WC q.v
   have hr2:=qif q.v
   generalize vR (zmP q.l q.v) q.v x=o1 at *
   generalize qjz (zmC q.l q.v) q.v s=o2 at *
   unfold wdC Vw.cs Pr.v Pr.cs at hs1
   unfold wdC Vw.cs Sh.v Sh.cs at hs2
   unfold Vw.cs Pr.v Pr.cs at hs0 hd1
   unfold Vw.cs Sh.v Sh.cs at hd2
   unfold Vw.cs at hr1 hr2
   simp only [Vq] at hs1 hs2 hs0
   rw [Vq] at hd1 hd2
   have hnn:∀ H':List Bk,H'.length=H'.length:=fun _=>rfl
   have g3':=g3
   unfold wdB at g3'
   clear g0'
   refine AW.seq (AW.ofx [(9,34,[3,9,11,10,12,13,15,14,16,18,17])] mixed (by kernel_rfl) ?_)
   simp [g0,g1,g2,g3]
   refine qc.of (hs1 _ hW1) ?_
   rintro y H3 ⟨rfl,kK⟩
   obtain ⟨es,t1,m1⟩:=hW1.tb
   have f0:=kK.2.cells (qE g0 t1.m) g0
   have f1:=kK.2.cells (qE g1 t1.m) g1
   have f2:=kK.2.cells (qE g2 t1.m) g2
   have f3:=kK.2.cells (qE g3 t1.m) g3
   have kp:=eq_true (kK.qbe t1)
   have hW1:=hW1.kept kK
   clear kK t1 m1 g0 g1 g2 g3
   simp [kp]
   rw [qy rfl,seE]
   have g0:=hget (L := [seB (o1.getD qw)]) f0
   have g1:=hget (L := [seB (o1.getD qw)]) f1
   have g2:=hget (L := [seB (o1.getD qw)]) f2
   have g3:=hget (L := [seB (o1.getD qw)]) f3
   have g4:(H3 ++ [seB (o1.getD qw)])[H3.length]? = some (seB (o1.getD qw)):=by simp
   have hW1:=hW1.app (L := [seB (o1.getD qw)])
   clear f0 f1 f2 f3
   generalize H3 ++ [seB (o1.getD qw)]=H4 at *
   generalize H3.length=i4 at *
   refine AW.seq (AW.ofx [(9,34,[3,9,11,10,12,13,15,14,16,18,17])] mixed (by kernel_rfl) ?_)
   simp [g0,g1,g2,g3,g4]
   refine qc.pure hd1 (by simp [V.qC,V.closed,c1]) rfl ?_
   simp
   have f0:=g0
   have f1:=g1
   have f2:=g2
   have f3:=g3
   have f4:=g4
   clear g0 g1 g2 g3 g4
   rw [qy rfl,seE]
   have g0:=hget (L := [seB (o1.getD qw)]) f0
   have g1:=hget (L := [seB (o1.getD qw)]) f1
   have g2:=hget (L := [seB (o1.getD qw)]) f2
   have g3:=hget (L := [seB (o1.getD qw)]) f3
   have g4:=hget (L := [seB (o1.getD qw)]) f4
   have g5:(H4 ++ [seB (o1.getD qw)])[H4.length]? = some (seB (o1.getD qw)):=by simp
   have hW1:=hW1.app (L := [seB (o1.getD qw)])
   clear f0 f1 f2 f3 f4
   generalize H4 ++ [seB (o1.getD qw)]=H5 at *
   generalize H4.length=i5 at *
   refine AW.seq (AW.ofx [(9,34,[3,9,11,10,12,13,15,14,16,18,17])] mixed (by kernel_rfl) ?_)
   simp [g0,g1,g2,g3,g4,g5]
   refine qc.of (hs2 _ hW1) ?_
   rintro y H6 ⟨rfl,kK⟩
   obtain ⟨es,t1,m1⟩:=hW1.tb
   have f0:=kK.2.cells (qE g0 t1.m) g0
   have f1:=kK.2.cells (qE g1 t1.m) g1
   have f2:=kK.2.cells (qE g2 t1.m) g2
   have f3:=kK.2.cells (qE g3 t1.m) g3
   have f4:=kK.2.cells (qE g4 t1.m) g4
   have f5:=kK.2.cells (qE g5 t1.m) g5
   have kp:=eq_true (kK.qbe t1)
   have hW1:=hW1.kept kK
   clear kK t1 m1 g0 g1 g2 g3 g4 g5
   simp [kp]
   rw [qy rfl,seE]
   have g0:=hget (L := [seB (o2.getD qw)]) f0
   have g1:=hget (L := [seB (o2.getD qw)]) f1
   have g2:=hget (L := [seB (o2.getD qw)]) f2
   have g3:=hget (L := [seB (o2.getD qw)]) f3
   have g4:=hget (L := [seB (o2.getD qw)]) f4
   have g5:=hget (L := [seB (o2.getD qw)]) f5
   have g6:(H6 ++ [seB (o2.getD qw)])[H6.length]? = some (seB (o2.getD qw)):=by simp
   have hW1:=hW1.app (L := [seB (o2.getD qw)])
   clear f0 f1 f2 f3 f4 f5
   generalize H6 ++ [seB (o2.getD qw)]=H7 at *
   generalize H6.length=i6 at *
   refine AW.seq (AW.ofx [(9,34,[3,9,11,10,12,13,15,14,16,18,17])] mixed (by kernel_rfl) ?_)
   simp [g0,g1,g2,g3,g4,g5,g6]
   refine qc.pure hd2 (by simp [V.qC,V.closed,c1]) rfl ?_
   simp
   have f0:=g0
   have f1:=g1
   have f2:=g2
   have f3:=g3
   have f4:=g4
   have f5:=g5
   have f6:=g6
   clear g0 g1 g2 g3 g4 g5 g6
   rw [qy rfl,seE]
   have g0:=hget (L := [seB (o2.getD qw)]) f0
   have g1:=hget (L := [seB (o2.getD qw)]) f1
   have g2:=hget (L := [seB (o2.getD qw)]) f2
   have g3:=hget (L := [seB (o2.getD qw)]) f3
   have g4:=hget (L := [seB (o2.getD qw)]) f4
   have g5:=hget (L := [seB (o2.getD qw)]) f5
   have g6:=hget (L := [seB (o2.getD qw)]) f6
   have g7:(H7 ++ [seB (o2.getD qw)])[H7.length]? = some (seB (o2.getD qw)):=by simp
   have hW1:=hW1.app (L := [seB (o2.getD qw)])
   clear f0 f1 f2 f3 f4 f5 f6
   generalize H7 ++ [seB (o2.getD qw)]=H8 at *
   generalize H7.length=i7 at *
   refine AW.seq (AW.ofx [(9,34,[3,9,11,10,12,13,15,14,16,18,17])] mixed (by kernel_rfl) ?_)
   simp [g0,g1,g2,g3,g4,g5,g6,g7]
   refine qc.of (hs0 _) ?_
   rintro y H9 ⟨rfl,kK⟩
   have f0:=kK.cells id g0
   have f1:=kK.cells id g1
   have f2:=kK.cells id g2
   have f3:=kK.cells id g3
   have f4:=kK.cells id g4
   have f5:=kK.cells id g5
   have f6:=kK.cells id g6
   have f7:=kK.cells id g7
   have kp:=eq_true (kK.qi8 (fun x h=>h))
   have hW1:=hW1.YE kK
   simp [kp]
   have hzs:(none:Option Se).getD qw=qw:=rfl
   rw [qy rfl]
   change AW _ _ _ _ ⟨_,_ ++ [seB qw]⟩
   have h0:=hget (L := [seB qw]) f0
   have h1:=hget (L := [seB qw]) f1
   have h2:=hget (L := [seB qw]) f2
   have h3:=hget (L := [seB qw]) f3
   have h4:=hget (L := [seB qw]) f4
   have h5:=hget (L := [seB qw]) f5
   have h6:=hget (L := [seB qw]) f6
   have h7:=hget (L := [seB qw]) f7
   have h8:(H9 ++ [seB qw])[H9.length]? = some (seB qw):=by simp
   generalize H9 ++ [seB qw]=H10 at *
   generalize H9.length=i8 at *
   refine AW.sub [(3,.v (.ptr 0 0)),(9,.v (.ptr i4 0)),(10,.v (.sc (.bool o1.isSome))),(11,.v (.ptr i5 0)),(12,.v (.sc (.bool o1.isSome))),(13,.v (.ptr i6 0)),(14,.v (.sc (.bool o2.isSome))),(15,.v (.ptr i7 0)),(16,.v (.sc (.bool o2.isSome))),(17,.v (.ptr i8 0)),(18,.v (.sc (.bool false)))] (by simp [YW,qp]) ?_
   try unfold seB at h4
   try unfold seB at h5
   try unfold seB at h6
   try unfold seB at h7
   try unfold seB at h8
   refine AW.ofz [(9,34,[3,9,11,10,12,13,15,14,16,18,17])] mixed (by kernel_rfl) ?_
   simp [h0]
   refine Jk.of hr1 rfl rfl ?_
   simp [h0]
   refine Jk.of hr2 rfl rfl ?_
   simp [h4,h5,h6,h7,h8,hEqSe0,hGSe,boolEqW,qw]
   refine qc.of (hK _) ?_
   rintro y H' ⟨rfl,-⟩
   simp
end Go.Proofs.YtnconfggojpkcaaGreat
namespace Go.Proofs.YtnconfggojpkcaaGreat
set_option linter.all false
open Go.RowKit Go.ChangeShapes Go.WideShapes AM
set_option maxRecDepth 100000
section
variable {H:Type} {enc:TypeId×Value→H} {w:World} {base:Nat} {held:Bool} {r:Reach} {b0:Nat} {v:Value} {d:DataW H} {p:List MemPlace}
theorem cRules:Tryz.prog.cellsOf 22=1:=by kernel_rfl
theorem cVw:Tryz.prog.cellsOf 28=10:=by kernel_rfl
theorem cRe:Tryz.prog.cellsOf 24=4:=by kernel_rfl
theorem cPt:Tryz.prog.cellsOf 30=2:=by kernel_rfl
theorem cInt':Tryz.prog.cellsOf 3=1:=by kernel_rfl
theorem cView:Tryz.prog.cellsOf 32=18:=by kernel_rfl
theorem vwLeaves:Z4 Tryz.prog 6 28=some [.int .i64,.int .i64,.int .i64,.int .i64,.int .i64,.int .i64,.int .i64,.int .i64,.bool,.int .i64]:=by kernel_rfl
def Gr.vals (g:Gr):List Value := [.int .i64 g.ops,.int .i64 g.zoom,.int .i64 g.box.x0,.int .i64 g.box.y0,.int .i64 g.box.x1,.int .i64 g.box.y1,.bool g.void,.int .i64 g.til]
def Vw.vals (v:Vw):List Value := [.int .i64 v.ro,.int .i64 v.ti,.int .i64 v.g.ops,.int .i64 v.g.zoom,.int .i64 v.g.box.x0,.int .i64 v.g.box.y0,.int .i64 v.g.box.x1,.int .i64 v.g.box.y1,.bool v.g.void,.int .i64 v.g.til]
theorem qfl {cs:List Value} (h:Leaf.all [.int .i64,.int .i64,.int .i64,.int .i64,.int .i64,.int .i64,.bool,.int .i64] cs):∃ x:Gr,x.vals=cs:=by
 obtain ⟨a,_,rfl,_,h⟩:=Leaf.zy h
 obtain ⟨b,_,rfl,_,h⟩:=Leaf.zy h
 obtain ⟨c,_,rfl,_,h⟩:=Leaf.zy h
 obtain ⟨e,_,rfl,_,h⟩:=Leaf.zy h
 obtain ⟨f,_,rfl,_,h⟩:=Leaf.zy h
 obtain ⟨g,_,rfl,_,h⟩:=Leaf.zy h
 obtain ⟨i,ws,rfl,h1⟩:=Leaf.qkj h
 obtain ⟨j,_,rfl,_,h2⟩:=Leaf.zy h1
 obtain rfl:=Leaf.all_nil h2
 exact ⟨⟨a,b,⟨c,e,f,g⟩,i,j⟩,rfl⟩
theorem qeP {cs:List Value} (h:Leaf.all [.int .i64,.int .i64,.int .i64,.int .i64,.int .i64,.int .i64,.int .i64,.int .i64,.bool,.int .i64] cs):∃ x:Vw,x.vals=cs:=by
 obtain ⟨k,_,rfl,_,h⟩:=Leaf.zy h
 obtain ⟨l,_,rfl,_,h⟩:=Leaf.zy h
 obtain ⟨g,rfl⟩:=qfl h
 exact ⟨⟨k,l,g⟩,rfl⟩
def QvD (q:Qv) (d:DataW H):Prop:=∃ parts e,d = .agg parts∧parts[0]? = some e∧qaX (fun (x:Ru) (e:DataW H)=>x.boxes.length≤maxLen∧RuD x e) q.l e
theorem viewArg (hv:Value.okWide Tryz.prog w r b0 32 v) (h:DataW.Trod enc Tryz.prog w base (fun _=>true) held 32 v d p):∃ q:Qv,Rel (said w) [] q.w v∧QvD q d:=by
 obtain ⟨arr,rfl,hsz⟩:=okWide_struct Tryz.underlying32 hv
 rw [cView] at hsz
 obtain ⟨n,hn⟩:=h
 have hn:DataW.trod enc Tryz.prog w base (fun _=>true) held n 32 arr.toList=some (d,p):=hn
 obtain ⟨cs,rfl⟩:∃ cs:List Value,arr=cs.toArray:=⟨arr.toList,by simp⟩
 have hl:cs.length=18:=by simpa using hsz
 have hn:DataW.trod enc Tryz.prog w base (fun _=>true) held n 32 cs=some (d,p):=by simpa using hn
 obtain ⟨xs,m,_,hyd,_,hlen,hf⟩:=DataW.trod_struct Tryz.underlying32 hn
 have hlen:xs.length=5:=hlen
 match cs,hl with
 | [c0,c1,c2,c3,c4,c5,c6,c7,c8,c9,c10,c11,c12,c13,c14,c15,c16,c17],_ =>
  have g:∀ i,i<5→∃ y,xs[i]? = some y:=fun i hi=>⟨_,List.getElem?_eq_getElem (by omega)⟩
  obtain ⟨y0,e0⟩:=g 0 (by decide)
  have h0:DataW.trod enc Tryz.prog w base (fun _=>true) held m 22 (([c0,c1,c2,c3,c4,c5,c6,c7,c8,c9,c10,c11,c12,c13,c14,c15,c16,c17].drop 0).take (Tryz.prog.cellsOf 22))=some y0:=(hf 0 _ rfl).trans e0
  rw [cRules] at h0
  simp only [List.drop,List.take] at h0
  obtain ⟨y1,e1⟩:=g 1 (by decide)
  have h1:DataW.trod enc Tryz.prog w base (fun _=>true) held m 28 (([c0,c1,c2,c3,c4,c5,c6,c7,c8,c9,c10,c11,c12,c13,c14,c15,c16,c17].drop 1).take (Tryz.prog.cellsOf 28))=some y1:=(hf 1 _ rfl).trans e1
  rw [cVw] at h1
  simp only [List.drop,List.take] at h1
  obtain ⟨y2,e2⟩:=g 2 (by decide)
  have h2:DataW.trod enc Tryz.prog w base (fun _=>true) held m 24 (([c0,c1,c2,c3,c4,c5,c6,c7,c8,c9,c10,c11,c12,c13,c14,c15,c16,c17].drop 11).take (Tryz.prog.cellsOf 24))=some y2:=(hf 2 _ rfl).trans e2
  rw [cRe] at h2
  simp only [List.drop,List.take] at h2
  obtain ⟨y3,e3⟩:=g 3 (by decide)
  have h3:DataW.trod enc Tryz.prog w base (fun _=>true) held m 30 (([c0,c1,c2,c3,c4,c5,c6,c7,c8,c9,c10,c11,c12,c13,c14,c15,c16,c17].drop 15).take (Tryz.prog.cellsOf 30))=some y3:=(hf 3 _ rfl).trans e3
  rw [cPt] at h3
  simp only [List.drop,List.take] at h3
  obtain ⟨y4,e4⟩:=g 4 (by decide)
  have h4:DataW.trod enc Tryz.prog w base (fun _=>true) held m 3 (([c0,c1,c2,c3,c4,c5,c6,c7,c8,c9,c10,c11,c12,c13,c14,c15,c16,c17].drop 17).take (Tryz.prog.cellsOf 3))=some y4:=(hf 4 _ rfl).trans e4
  rw [cInt'] at h4
  simp only [List.drop,List.take] at h4
  obtain ⟨v0,l,g0,r0,o0,d0⟩:=Xh (fun (x:Ru) (e:DataW H)=>x.boxes.length≤maxLen∧RuD x e) (encV:=Ru.cs) (sz:=7) Tryz.underlying22 (by kernel_rfl) (by decide) (fun _=>rfl) (fun n cs y hy hl=>qjA hy hl) h0
  obtain rfl:c0=v0:=by simpa using g0
  obtain ⟨vw,hvw⟩:=qeP (ZK 6 _ _ _ _ _ vwLeaves h1)
  obtain ⟨rc,hrc⟩:=WA (ZK 6 _ _ _ _ _ qgs h2)
  obtain ⟨pt,hpt⟩:=qe8 (ZK 6 _ _ _ _ _ ptLeaves h3)
  obtain ⟨z4,g4,_⟩:=DataW.trod_int Tryz.underlying3 h4
  simp only [Vw.vals,List.cons.injEq,and_true] at hvw
  simp only [Re.vals,List.cons.injEq,and_true] at hrc
  simp only [Pt.vals,List.cons.injEq,and_true] at hpt
  obtain rfl:c17 = .int .i64 z4:=by simpa using g4
  obtain ⟨rfl,rfl,rfl,rfl,rfl,rfl,rfl,rfl,rfl,rfl⟩:=hvw
  obtain ⟨rfl,rfl,rfl,rfl⟩:=hrc
  obtain ⟨rfl,rfl⟩:=hpt
  exact ⟨⟨l,vw,rc,pt,z4⟩,.agg (.cons r0 (.cons (.sc _) (.cons (.sc _) (.cons (.sc _) (.cons (.sc _) (.cons (.sc _) (.cons (.sc _) (.cons (.sc _) (.cons (.sc _) (.cons (.sc _) (.cons (.sc _) (.cons (.sc _) (.cons (.sc _) (.cons (.sc _) (.cons (.sc _) (.cons (.sc _) (.cons (.sc _) (.cons (.sc _) .nil)))))))))))))))))),_,y0.1,congrArg Prod.fst hyd,by rw [List.getElem?_map,e0]; rfl,d0⟩
end
section
variable {H:Type}
theorem viewPart:(match Tryz.prog.underlying 32 with | some (.struct fs)=>(fs.toList.map (·.type))[0]? | _=>none)=some 22:=by kernel_rfl
theorem qhz {q:Qv} {d:DataW H} (h:QvD q d) (hw:∀ n∈d.weights Tryz.prog 32,n≤reachBytes):∀ x∈q.l,x.boxes.length≤4398046511104:=by
 obtain ⟨parts,e,rfl,hp,hs⟩:=h
 have hu:=Tryz.underlying32
 have ht:=viewPart
 rw [hu] at ht
 refine qge hs fun n hn=>hw n ?_
 unfold DataW.weights
 rw [hu]
 exact DataW.weights_mem_each (P:=Tryz.prog) ht hp n hn
theorem qgp {I:Nat→Nat→Option Value} {φ:List Nat} {n sz:Nat} {cs:List V} {v:Value} (h:Rel I φ (.sl n sz cs) v):n≤9223372036854775807:=by
 cases h with
 | sl _ _ _ h1 h2 _ =>
  unfold maxLen at h2
  omega
 | sl0=>simp
theorem view_len {I:Nat→Nat→Option Value} {φ:List Nat} {q:Qv} {v:Value} (h:Rel I φ q.w v):q.l.length≤9223372036854775807:=by
 unfold Qv.w Qv.cs at h
 cases h with
 | @agg _ vs hl =>
  generalize vs.toList=l at hl
  cases hl with
  | cons h1 h2=>exact qgp h1
end
end Go.Proofs.YtnconfggojpkcaaGreat
