/- Texts that a law rests on, part z5: plain lemmas and what functions of the program do. No condition. -/
import Derived.Deep.QuietTactic
import Derived.Ground.GgsProg
import Derived.Shelf.GgSortFunc.Tiny
import Derived.Shelf.SlSortFuncK.WholeK
import Derived.Test.YtnconfggojpkcaaGreatSz4
set_option linter.all false
set_option maxHeartbeats 16000000
set_option maxRecDepth 100000
namespace Go.Proofs.YtnconfggojpkcaaGreat
open Go.RowKit AM
structure Pr where
  id:Int
  at_:Pt
  lab:Int
  deriving DecidableEq,Inhabited
def Pr.cs (r:Pr):List V := [.sc (.int .i64 r.id),.sc (.int .i64 r.at_.x),.sc (.int .i64 r.at_.y),.sc (.int .i64 r.lab)]
def Pr.v (r:Pr):V := .agg r.cs
theorem Pr.v_eq (r:Pr):r.v = .agg [.sc (.int .i64 r.id),.sc (.int .i64 r.at_.x),.sc (.int .i64 r.at_.y),.sc (.int .i64 r.lab)]:=rfl
theorem Pr.cs_eq (r:Pr):r.cs = [.sc (.int .i64 r.id),.sc (.int .i64 r.at_.x),.sc (.int .i64 r.at_.y),.sc (.int .i64 r.lab)]:=rfl
structure Qn where
  c:Ce
  k0:Int
  k1:Int
  k2:Int
  k3:Int
  many:Int
  split:Bool
  l:List Pr
  /-- Is the row of records full: that alone tells how it lies in memory. -/
  full:Bool
  deriving Inhabited
def Qn.kid (q:Qn):Nat→Int
  | 0=>q.k0
  | 1=>q.k1
  | 2=>q.k2
  | _=>q.k3
def Wi (c:Ce):Qn:=⟨c,-1,-1,-1,-1,0,false,[],true⟩
structure Ar where
  A:List Qn
  fr:List Nat
def runs {α:Type} (f:Nat→α→Option α) (s:α):Nat→Option α
  | 0=>some s
  | i+1=>match runs f s i with
    | some u=>f i u
    | none=>none
theorem qkI {α:Type} {f:Nat→α→Option α} {s t:α}:∀ {n:Nat},runs f s n=some t→∀ i,i≤n→∃ u,runs f s i=some u
  | 0,h,i,hi=>⟨t,by rw [show i=0 by omega]; exact h⟩
  | n+1,h,i,hi=>by
    by_cases e:i=n+1
    · exact ⟨t,by rw [e]; exact h⟩
    · unfold runs at h
      cases hn:runs f s n with
      | none=>rw [hn] at h; cases h
      | some u=>exact qkI hn i (by omega)
theorem qgq {α:Type} {f:Nat→α→Option α} {s t u:α} {n i:Nat} (h:runs f s n=some t) (hi:i<n) (hu:runs f s i=some u):∃ u',f i u=some u'∧runs f s (i+1)=some u':=by
  obtain ⟨u',hu'⟩:=qkI h (i+1) hi
  refine ⟨u',?_,hu'⟩
  unfold runs at hu'
  rw [hu] at hu'
  exact hu'
theorem qgp {α:Type} {f:Nat→α→Option α} {s u:α} {i:Nat} (h:runs f s i=some u):runs f s (i+1)=f i u:=by
  show (match runs f s i with | some u=>f i u | none=>none)=_
  rw [h]
def big:Nat:=100000000000
def qcq (s:Ar) (c:Ce):Option (Ar×Nat):=match s.fr.getLast? with
  | some a=>if a<s.A.length∧s.fr.length≤big then some (⟨s.A.set a (Wi c),s.fr.dropLast⟩,a) else none
  | none=>if s.A.length≤big then some (⟨s.A ++ [Wi c],[]⟩,s.A.length) else none
def qkZ (p:Pt) (l:Int):Int:=(ofR p (l+1)).1.x%2+(ofR p (l+1)).1.y%2*2
def qa1 (p:Pt) (l:Int):Nat:=(qkZ p l).toNat
theorem ofR_nn (p:Pt) (l:Int):0≤(ofR p l).1.x∧0≤(ofR p l).1.y:=by
  unfold ofR
  split
  · rename_i h
    simp only [Bool.and_eq_true,fits,inside,decide_eq_true_eq,vR] at h
    have hs:0≤side l:=Int.le_of_lt (qee _)
    exact ⟨Int.ediv_nonneg h.2.1.1 hs,Int.ediv_nonneg h.2.2.1 hs⟩
  · exact ⟨Int.le_refl _,Int.le_refl _⟩
theorem ql6 (p:Pt) (l:Int):0≤qkZ p l∧qkZ p l<4:=by
  have h:=ofR_nn p (l+1)
  unfold qkZ
  omega
theorem qf4 (p:Pt) (l:Int):qa1 p l<4:=by
  have:=ql6 p l
  unfold qa1
  omega
theorem qov (p:Pt) (l:Int):((qa1 p l:Nat):Int)=qkZ p l:=by
  have:=ql6 p l
  unfold qa1
  omega
def okN (q:Qn):Prop:=yj q.c=true ∧ -1000000000≤q.many∧q.many≤1000000000∧q.l.length≤1000000000
instance (q:Qn):Decidable (okN q):=by unfold okN; infer_instance
def toA (k:Int):Option Nat:=if 0≤k then some k.toNat else none
theorem qlz {k:Int} {a:Nat} (h:toA k=some a):k=a:=by
  unfold toA at h
  split at h
  · cases h; omega
  · cases h
def qdI (c:Ce) (s:Ar):Nat→Option (Ar×List Nat):=runs (fun i u=>match qcq u.1 (Xn c i).1 with
  | some (s1,k)=>some (s1,u.2 ++ [k])
  | none=>none) (s,[])
def Wt (ks:List Nat) (i:Nat):Int:=((ks[i]?).getD 0:Nat)
def qhe (rec:Ar→Nat→Pr→Option Ar) (a:Nat) (l:List Pr) (s:Ar):Nat→Option Ar:=runs (fun i u=>match l[i]? with
  | some r=>rec u a r
  | none=>none) s
def qir (rec:Ar→Nat→Pr→Option Ar) (s:Ar) (a:Nat):Option Ar:=match s.A[a]? with
  | none=>none
  | some q=>if ¬ okN q then none else match qdI q.c s 4 with
    | none=>none
    | some (s4,ks)=>match s4.A[a]? with
      | none=>none
      | some q2=>qhe rec a q.l ⟨s4.A.set a { q2 with l := [],full:=true,split:=true,k0:=Wt ks 0,k1:=Wt ks 1,k2:=Wt ks 2,k3:=Wt ks 3,many:=0 },s4.fr⟩ q.l.length
def qgW (b:Nat) (rec:Ar→Nat→Pr→Option Ar):Nat→Ar→Nat→Pr→Option Ar
  | 0,_,_,_=>none
  | n+1,s,a,r=>match s.A[a]? with
    | none=>none
    | some q=>if ¬ okN q then none else
      if q.split then (match toA (q.kid (qa1 r.at_ q.c.l)) with
        | none=>none
        | some a'=>qgW b rec n ⟨s.A.set a { q with many:=q.many+1 },s.fr⟩ a' r)
      else (let q1:Qn := { q with many:=q.many+1,l:=q.l ++ [r],full:=false }
        if b<q1.l.length∧q.c.l<16 then qir rec ⟨s.A.set a q1,s.fr⟩ a else some ⟨s.A.set a q1,s.fr⟩)
def qjf (b:Nat):Nat→Ar→Nat→Pr→Option Ar
  | 0=>fun _ _ _=>none
  | f+1=>qgW b (qjf b f) 18
def qbf {α:Type} (q:Qn) (G:α→Nat→Option α) (i:Nat) (u:α):Option α:=match toA (q.kid i) with
  | none=>none
  | some a'=>G u a'
def qb5 (A:List Qn):Nat→Nat→Option (List Pr)
  | 0,_=>none
  | n+1,a=>match A[a]? with
    | none=>none
    | some q=>if ¬ okN q then none else if q.split then runs (qbf q fun u a'=>(qb5 A n a').map (u ++ ·)) q.l 4
      else some q.l
def qcD (A:List Qn) (rc:Re):Nat→Nat→Option (List Pr)
  | 0,_=>none
  | n+1,a=>match A[a]? with
    | none=>none
    | some q=>if ¬ okN q then none else
      if q.many=0∨qE (JD q.c).1 rc=false then some []
      else if inB (JD q.c).1 rc then qb5 A 18 a
      else if q.split then runs (qbf q fun u a'=>(qcD A rc n a').map (u ++ ·)) (q.l.filter fun r=>yV rc r.at_) 4
      else some (q.l.filter fun r=>yV rc r.at_)
def lC (f:Bool) (l:List Pr):SV:=bif f then .v (.fs l.length 4 (l.flatMap Pr.cs)) else .own false 55 l.length 4 (l.flatMap Pr.cs)
def lV (l:List Pr):V := .sl l.length 4 (l.flatMap Pr.cs)
def ndC (q:Qn):List SV := [.v (.sc (.int .i64 q.c.l)),.v (.sc (.int .i64 q.c.x)),.v (.sc (.int .i64 q.c.y)),.v (.sc (.int .i64 q.k0)),.v (.sc (.int .i64 q.k1)),.v (.sc (.int .i64 q.k2)),.v (.sc (.int .i64 q.k3)),.v (.sc (.int .i64 q.many)),.v (.sc (.bool q.split)),lC q.full q.l]
def arC (A:List Qn) (sp:Nat):List SV:=A.flatMap ndC++List.replicate sp .any
theorem qb2 {α:Type} {f:α→List SV} {n:Nat} (h:∀ x,(f x).length=n):∀ l:List α,(l.flatMap f).length=l.length*n
  | []=>by simp
  | x::l=>by rw [List.flatMap_cons,List.length_append,h,qb2 h l,List.length_cons,Nat.add_mul]; omega
theorem qdq (q:Qn):(ndC q).length=10:=rfl
theorem qdA (A:List Qn) (sp:Nat):(arC A sp).length=A.length*10+sp:=by
  unfold arC
  rw [List.length_append,qb2 qdq,List.length_replicate]
theorem qcw {A:List Qn} {a:Nat} {q:Qn} (h:A[a]? = some q) (sp:Nat):arC A sp=(A.take a).flatMap ndC++(ndC q++arC (A.drop (a+1)) sp):=by
  obtain ⟨hl,rfl⟩:=List.getElem?_eq_some_iff.1 h
  have e:=congrArg (fun L=>L.flatMap ndC) (List.take_append_drop a A)
  simp only [List.flatMap_append,List.drop_eq_getElem_cons hl,List.flatMap_cons] at e
  unfold arC
  rw [← e]
  simp only [List.append_assoc]
theorem take_len {A:List Qn} {a:Nat} {q:Qn} (h:A[a]? = some q):((A.take a).flatMap ndC).length=a*10:=by
  have:=(List.getElem?_eq_some_iff.1 h).1
  rw [qb2 qdq,List.length_take]
  congr 1
  omega
theorem qde {A:List Qn} {a:Nat} {q:Qn} (h:A[a]? = some q) (sp j:Nat) (hj:j≤10):(arC A sp).drop (a*10+j)=(ndC q).drop j++arC (A.drop (a+1)) sp:=by
  rw [qcw h sp,List.drop_append,take_len h,List.drop_of_length_le (by rw [take_len h]; omega),List.nil_append,Nat.add_sub_cancel_left,List.drop_append,qdq,show j - 10=0 by omega,List.drop_zero]
theorem qoD {A:List Qn} {a:Nat} {q:Qn} (h:A[a]? = some q) (sp j:Nat) (hj:j<10):(arC A sp)[a*10+j]? = (ndC q)[j]? := by
  rw [qcw h sp,List.getElem?_append_right (by rw [take_len h]; omega),take_len h,Nat.add_sub_cancel_left,List.getElem?_append_left (by rw [qdq]; exact hj)]
theorem qoC {A:List Qn} {a:Nat} {q q':Qn} (h:A[a]? = some q) (sp j:Nat) (hj:j<10) {x:SV} (hx:ndC q'=(ndC q).set j x):(arC A sp).set (a*10+j) x=arC (A.set a q') sp:=by
  have hl:=(List.getElem?_eq_some_iff.1 h).1
  have h':(A.set a q')[a]? = some q':=List.getElem?_set_self hl
  rw [qcw h sp,qcw h' sp,List.set_append_right _ _ (by rw [take_len h]; omega),take_len h,Nat.add_sub_cancel_left,List.set_append_left _ _ (by rw [qdq]; exact hj),hx]
  rw [List.take_set_of_le (Nat.le_refl _),List.drop_set_of_lt (by omega)]
theorem setCells_eq {id:Nat}:∀ {xs:List V} {H:List Bk} {ks:List SV} {off:Nat},H[id]? = some (.cells ks)→off+xs.length≤ks.length→setCells H id off xs=H.set id (.cells (ks.take off++xs.map .v++ks.drop (off+xs.length)))
  | [],H,ks,off,hk,hl=>by
    simp only [setCells,List.map_nil,List.append_nil,List.length_nil,Nat.add_zero,List.take_append_drop]
    apply List.ext_getElem?
    intro i
    rw [List.getElem?_set]
    split
    · rename_i e
      subst e
      rw [if_pos (List.getElem?_eq_some_iff.1 hk).1,hk]
    · rfl
  | x::xs,H,ks,off,hk,hl=>by
    simp only [List.length_cons] at hl
    have hlt:=(List.getElem?_eq_some_iff.1 hk).1
    unfold setCells
    rw [zF hk,setCells_eq (ks:=ks.set off (.v x)) (List.getElem?_set_self hlt) (by simp; omega),List.set_set]
    congr 2
    have hd:(ks.set off (SV.v x)).drop (off+1+xs.length)=ks.drop (off+(x::xs).length):=by
      rw [List.drop_set_of_lt (by omega)]
      congr 1
      simp
      omega
    have ht:(ks.set off (SV.v x)).take (off+1)=ks.take off ++ [.v x]:=by
      rw [List.take_succ,List.take_set_of_le (Nat.le_refl _),List.getElem?_set_self (by omega)]
      rfl
    rw [hd,ht]
    simp
theorem qd1 {id i:Nat} (hne:i≠id):∀ {xs:List V} {H:List Bk} {off:Nat},(setCells H id off xs)[i]? = H[i]?
  | [],H,off=>rfl
  | x::xs,H,off=>by
    unfold setCells
    rw [qd1 hne]
    unfold qo
    split
    · rw [List.getElem?_set_ne (Ne.symm hne)]
    · rfl
theorem qp {L:List Bk} {ks:List SV} {xs:List V} (h:xs.length=ks.length):setCells (L ++ [.cells ks]) L.length 0 xs=L ++ [.cells (xs.map .v)]:=by
  rw [setCells_eq (ks:=ks) (by simp) (by omega)]
  simp [h]
theorem XC {L:List Bk} {k:Bk} {ks:List SV} {xs:List V} (h:xs.length=ks.length):setCells (L ++ [k,.cells ks]) (L.length+1) 0 xs=L ++ [k,.cells (xs.map .v)]:=by
  have:=qp (L:=L ++ [k]) h
  simpa using this
def frS (fr:List Nat):List V:=fr.map fun k => .sc (.int .i64 (k:Nat))
def trC (b nb n cap:Nat) (fr:List Nat) (mb:Nat):List SV := [.v (.sc (.int .i64 b)),.v (.slb nb 0 n cap),.own true 3 fr.length 1 (frS fr),.v (.map mb)]
def entP (r:Pr):Value×V:=(.int .i64 r.id,r.v)
structure TrA (H:List Bk) (r b nb mb cap:Nat) (s:Ar) (es:List Pr):Prop where
  cr:H[r]? = some (.cells (trC b nb s.A.length cap s.fr mb))
  cn:cap≠0→H[nb]? = some (.cells (arC s.A ((cap - s.A.length)*10)))
  cm:H[mb]? = some (.map (es.map entP))
  le:s.A.length≤cap
  rn:cap≠0→r≠nb
  b0:1≤b∧b≤64
  rl:r<H.length
structure Stp (r nb:Nat) (H H':List Bk) (nb':Nat):Prop where
  kp:KpA (fun x=>x=r∨x=nb) H H'
  len:H.length≤H'.length
  nb:nb'=nb∨H.length≤nb'
theorem TrA.keep {H H':List Bk} {r b nb mb cap:Nat} {s:Ar} {es:List Pr} {I:Nat→Prop} (h:TrA H r b nb mb cap s es) (hk:KpA I H H') (h1:¬ I r) (h2:cap≠0→¬ I nb) (h3:¬ I mb):TrA H' r b nb mb cap s es :=
  ⟨hk _ _ h1 h.cr,fun hc=>hk _ _ (h2 hc) (h.cn hc),hk _ _ h3 h.cm,h.le,h.rn,h.b0,(List.getElem?_eq_some_iff.1 (hk _ _ h1 h.cr)).1⟩
theorem TrA.app {H L:List Bk} {r b nb mb cap:Nat} {s:Ar} {es:List Pr} (h:TrA H r b nb mb cap s es):TrA (H++L) r b nb mb cap s es :=
  h.keep (I:=fun _=>False) KpA.refl.app id (fun _=>id) id
theorem TrA.rm {H:List Bk} {r b nb mb cap:Nat} {s:Ar} {es:List Pr} (h:TrA H r b nb mb cap s es):r≠mb:=by
  rintro rfl
  have:=h.cr
  rw [h.cm] at this
  cases this
theorem TrA.nm {H:List Bk} {r b nb mb cap:Nat} {s:Ar} {es:List Pr} (h:TrA H r b nb mb cap s es) (hc:cap≠0):nb≠mb:=by
  rintro rfl
  have:=h.cn hc
  rw [h.cm] at this
  cases this
theorem Stp.refl {r nb:Nat} {H:List Bk}:Stp r nb H H nb:=⟨KpA.refl,Nat.le_refl _,.inl rfl⟩
theorem Stp.app {r nb nb':Nat} {H H' L:List Bk} (h:Stp r nb H H' nb'):Stp r nb H (H'++L) nb':=⟨h.kp.app,by have:=h.len; simp; omega,h.nb⟩
theorem Stp.trans {r nb n1 n2:Nat} {H H1 H2:List Bk} (h:Stp r nb H H1 n1) (k:Stp r n1 H1 H2 n2):Stp r nb H H2 n2:=by
  have l1:=h.len
  have l2:=k.len
  refine ⟨fun i x hi hx => ?_,by omega,?_⟩
  · have hlt:=(List.getElem?_eq_some_iff.1 hx).1
    refine k.kp i x ?_ (h.kp i x hi hx)
    rintro (rfl | rfl)
    · exact hi (.inl rfl)
    · rcases h.nb with rfl | e
      · exact hi (.inr rfl)
      · omega
  · rcases k.nb with rfl | e
    · exact h.nb
    · right; omega
theorem Stp.set {r nb n1 i:Nat} {H H1:List Bk} {k:Bk} (h:Stp r nb H H1 n1) (hi:i=r∨i=nb∨H.length≤i):Stp r nb H (H1.set i k) n1:=⟨fun j x hj hx=>by
  have hlt:=(List.getElem?_eq_some_iff.1 hx).1
  rw [List.getElem?_set_ne (by
    rintro rfl
    rcases hi with rfl | rfl | hi
    · exact hj (.inl rfl)
    · exact hj (.inr rfl)
    · omega)]
  exact h.kp j x hj hx,by simpa using h.len,h.nb⟩
def ndV (q:Qn):List V := [.sc (.int .i64 q.c.l),.sc (.int .i64 q.c.x),.sc (.int .i64 q.c.y),.sc (.int .i64 q.k0),.sc (.int .i64 q.k1),.sc (.int .i64 q.k2),.sc (.int .i64 q.k3),.sc (.int .i64 q.many),.sc (.bool q.split),.nil]
theorem qkW {q:Qn} (hq:q.l = []∧q.full=true):∀ (j:Nat) (x y:SV),((ndV q).map SV.v)[j]? = some x→(ndC q)[j]? = some y→x.flat=true→XR x y:=by
  intro j x y hx hy hf
  unfold ndC at hy
  rw [hq.1,hq.2] at hy
  by_cases h9:j=9
  · subst h9
    simp [ndV,lC] at hx hy
    subst hx hy
    exact .nil rfl ⟨rfl,rfl⟩
  · have:x=y:=by
      by_cases hj:j<9
      · rcases (show j=0∨j=1∨j=2∨j=3∨j=4∨j=5∨j=6∨j=7∨j=8 by omega) with rfl | rfl | rfl | rfl | rfl | rfl | rfl | rfl | rfl <;> (simp [ndV] at hx hy; rw [← hx,← hy])
      · have:=(List.getElem?_eq_some_iff.1 hx).1
        simp [ndV] at this
        omega
    subst this
    exact XR.refl hf
theorem Wk.seg {H:List Bk} {id:Nat} {p xs ys d:List SV} (hk:H[id]? = some (.cells (p++xs++d))) (hl:xs.length=ys.length) (hc:∀ (j:Nat) (x y:SV),xs[j]? = some x→ys[j]? = some y→x.flat=true→XR x y):Wk H (H.set id (.cells (p++ys++d))) :=
  Wk.cells hk (by simp [hl]) fun j x y hx hy hf=>by
    by_cases h1:j<p.length
    · rw [List.append_assoc,List.getElem?_append_left h1] at hx hy
      rw [hx] at hy
      cases hy
      exact XR.refl hf
    · rw [List.append_assoc,List.getElem?_append_right (by omega)] at hx hy
      by_cases h2:j - p.length<xs.length
      · rw [List.getElem?_append_left h2] at hx
        rw [List.getElem?_append_left (by omega)] at hy
        exact hc _ _ _ hx hy hf
      · rw [List.getElem?_append_right (by omega)] at hx
        rw [List.getElem?_append_right (by omega),← hl] at hy
        rw [hx] at hy
        cases hy
        exact XR.refl hf
theorem arC_rep {A:List Qn} {a:Nat} (q':Qn) (h:a<A.length) (sp:Nat):(arC A sp).take (a*10)++ndC q'++(arC A sp).drop (a*10+10)=arC (A.set a q') sp:=by
  have h1:=List.getElem?_eq_getElem h
  have h':(A.set a q')[a]? = some q':=List.getElem?_set_self h
  rw [qde h1 sp 10 (by omega),qcw h' sp,List.take_set_of_le (Nat.le_refl _),List.drop_set_of_lt (by omega)]
  have ht:(arC A sp).take (a*10)=(A.take a).flatMap ndC:=by
    rw [qcw h1 sp,List.take_append_of_le_length (by rw [take_len h1]; exact Nat.le_refl _),List.take_of_length_le (by rw [take_len h1]; exact Nat.le_refl _)]
  rw [ht]
  simp [ndC]
theorem storeN {H:List Bk} {nb a sp:Nat} {A:List Qn} {q:Qn} (hn:H[nb]? = some (.cells (arC A sp))) (ha:a<A.length) (hq:q.l = []∧q.full=true):Wk (setCells H nb (a*10) (ndV q)) (H.set nb (.cells (arC (A.set a q) sp))):=by
  have hl:=(List.getElem?_eq_some_iff.1 hn).1
  have hlen:=qdA A sp
  rw [setCells_eq hn (by simp [ndV]; omega),← arC_rep q ha sp]
  have:=Wk.seg (H:=H.set nb (.cells ((arC A sp).take (a*10)++(ndV q).map SV.v++(arC A sp).drop (a*10+(ndV q).length)))) (id:=nb) (ys:=ndC q) (List.getElem?_set_self hl) rfl (qkW hq)
  rw [List.set_set] at this
  exact this
theorem qmw {A:List Qn} {sp:Nat}:(arC A sp).take (A.length*10)=A.flatMap ndC:=by
  have:=qb2 qdq A
  unfold arC
  rw [← this,List.take_left]
theorem arC_rest {A:List Qn} {sp j:Nat}:(arC A sp).drop (A.length*10+j)=List.replicate (sp - j) .any:=by
  have:=qb2 qdq A
  unfold arC
  rw [← this,List.drop_append,List.drop_of_length_le (by omega),List.nil_append,Nat.add_sub_cancel_left,List.drop_replicate]
theorem qmx (A:List Qn) (q:Qn) (k:Nat):A.flatMap ndC++ndC q++List.replicate k .any=arC (A ++ [q]) k:=by simp [arC]
theorem moreN {H:List Bk} {nb cap:Nat} {A:List Qn} {q:Qn} (hn:H[nb]? = some (.cells (arC A ((cap - A.length)*10)))) (ha:A.length+1≤cap) (hq:q.l = []∧q.full=true):Wk (setCells H nb (A.length*10) (ndV q)) (H.set nb (.cells (arC (A ++ [q]) ((cap - (A.length+1))*10)))):=by
  have hl:=(List.getElem?_eq_some_iff.1 hn).1
  have hlen:=qdA A ((cap - A.length)*10)
  rw [setCells_eq hn (by simp [ndV]; omega),qmw]
  have e10:(ndV q).length=10:=rfl
  rw [e10,arC_rest,← qmx]
  have e:(cap - A.length)*10 - 10=(cap - (A.length+1))*10:=by omega
  rw [e]
  have:=Wk.seg (H:=H.set nb (.cells (A.flatMap ndC++(ndV q).map SV.v++List.replicate ((cap - (A.length+1))*10) .any))) (id:=nb) (ys:=ndC q) (List.getElem?_set_self hl) rfl (qkW hq)
  rw [List.set_set] at this
  exact this
theorem laidN {L:List Bk} {k:Nat} {A:List Qn} {q:Qn} (hq:q.l = []∧q.full=true):Wk (L ++ [.cells (A.flatMap ndC++(ndV q).map .v++List.replicate k .any)]) (L ++ [.cells (arC (A ++ [q]) k)]):=by
  have:=Wk.seg (H:=L ++ [.cells (A.flatMap ndC++(ndV q).map .v++List.replicate k .any)]) (id:=L.length) (p:=A.flatMap ndC) (xs:=(ndV q).map SV.v) (d:=List.replicate k .any) (ys:=ndC q) (by simp) rfl (qkW hq)
  rw [qmx] at this
  simpa using this
theorem qjd {H:List Bk} {id r off:Nat} {ks:List SV} {xs:List V} {K:Bk} (hne:r≠id) (hk:H[id]? = some (.cells ks)) (hl:off+xs.length≤ks.length):(setCells H id off xs).set r K=setCells (H.set r K) id off xs:=by
  rw [setCells_eq hk hl,setCells_eq (H:=H.set r K) (by rw [List.getElem?_set_ne hne]; exact hk) hl,List.set_comm _ _ (Ne.symm hne)]
theorem TrA.node {H:List Bk} {r b nb mb cap:Nat} {s:Ar} {es:List Pr} {a:Nat} {q:Qn} (q':Qn) (h:TrA H r b nb mb cap s es) (hq:s.A[a]? = some q):TrA (H.set nb (.cells (arC (s.A.set a q') ((cap - s.A.length)*10)))) r b nb mb cap ⟨s.A.set a q',s.fr⟩ es:=by
  have hal:=(List.getElem?_eq_some_iff.1 hq).1
  have hle:=h.le
  have hc:cap≠0:=by omega
  refine ⟨?_,fun _ => ?_,?_,by simpa using hle,h.rn,h.b0,by simpa using h.rl⟩
  · rw [List.getElem?_set_ne (Ne.symm (h.rn hc))]
    simpa using h.cr
  · rw [List.getElem?_set_self (List.getElem?_eq_some_iff.1 (h.cn hc)).1]
    simp
  · rw [List.getElem?_set_ne (h.nm hc)]
    exact h.cm
theorem TrA.cap0 {H:List Bk} {r b nb mb cap:Nat} {s:Ar} {es:List Pr} {a:Nat} {q:Qn} (h:TrA H r b nb mb cap s es) (hq:s.A[a]? = some q):cap≠0:=by
  have hal:=(List.getElem?_eq_some_iff.1 hq).1
  have hle:=h.le
  omega
theorem drop_kid {A:List Qn} {a:Nat} {q:Qn} (h:A[a]? = some q) (sp i:Nat) (hi:i<4):∃ tl,(arC A sp).drop (a*10+3+i) = .v (.sc (.int .i64 (q.kid i)))::tl:=by
  rw [Nat.add_assoc,qde h sp (3+i) (by omega)]
  rcases (show i=0∨i=1∨i=2∨i=3 by omega) with rfl | rfl | rfl | rfl <;> exact ⟨_,rfl⟩
theorem qpo {A:List Qn} {a:Nat} {q:Qn} (h:A[a]? = some q) (sp:Nat):∃ tl,(arC A sp).drop (a*10+7) = .v (.sc (.int .i64 q.many))::tl:=by
  rw [qde h sp 7 (by omega)]
  exact ⟨_,rfl⟩
theorem qnG {A:List Qn} {a:Nat} {q:Qn} (h:A[a]? = some q) (sp:Nat):∃ tl,(arC A sp).drop (a*10+8) = .v (.sc (.bool q.split))::tl:=by
  rw [qde h sp 8 (by omega)]
  exact ⟨_,rfl⟩
theorem qgQ {A:List Qn} {a:Nat} {q:Qn} (h:A[a]? = some q) (sp:Nat):∃ tl,(arC A sp).drop (a*10+9)=lC q.full q.l::tl:=by
  rw [qde h sp 9 (by omega)]
  exact ⟨_,rfl⟩
theorem qbs {A:List Qn} {a:Nat} {q:Qn} (h:A[a]? = some q) (sp:Nat):∃ tl,(arC A sp).drop (a*10) = .v (.sc (.int .i64 q.c.l)) :: .v (.sc (.int .i64 q.c.x)) :: .v (.sc (.int .i64 q.c.y)) :: .v (.sc (.int .i64 q.k0)) :: .v (.sc (.int .i64 q.k1)) :: .v (.sc (.int .i64 q.k2)) :: .v (.sc (.int .i64 q.k3)) :: .v (.sc (.int .i64 q.many)) :: .v (.sc (.bool q.split))::lC q.full q.l::tl:=by
  have:=qde h sp 0 (by omega)
  rw [Nat.add_zero] at this
  rw [this]
  exact ⟨_,rfl⟩
theorem qlL {A:List Qn} {a:Nat} {q:Qn} (h:A[a]? = some q) (sp:Nat) (z:Int):(arC A sp).set (a*10+7) (.v (.sc (.int .i64 z)))=arC (A.set a { q with many:=z }) sp:=qoC h sp 7 (by omega) rfl
def prB (r:Pr):Bk := .cells [.v (.sc (.int .i64 r.id)),.v (.sc (.int .i64 r.at_.x)),.v (.sc (.int .i64 r.at_.y)),.v (.sc (.int .i64 r.lab))]
theorem qkp {b:Nat} {rec:Ar→Nat→Pr→Option Ar} {n:Nat} {s s':Ar} {a:Nat} {rc:Pr} (h:qgW b rec n s a rc=some s'):∃ n' q,n=n'+1∧s.A[a]? = some q∧okN q ∧
    ((q.split=true∧∃ a':Nat,q.kid (qa1 rc.at_ q.c.l)=(a':Int)∧qgW b rec n' ⟨s.A.set a { q with many:=q.many+1 },s.fr⟩ a' rc=some s') ∨
     (q.split=false∧((b<q.l.length+1∧q.c.l<16∧qir rec ⟨s.A.set a { q with many:=q.many+1,l:=q.l ++ [rc],full:=false },s.fr⟩ a=some s')∨(¬ (b<q.l.length+1∧q.c.l<16)∧s'=⟨s.A.set a { q with many:=q.many+1,l:=q.l ++ [rc],full:=false },s.fr⟩)))):=by
  cases n with
  | zero=>cases h
  | succ n =>
    unfold qgW at h
    cases hq:s.A[a]? with
    | none=>rw [hq] at h; cases h
    | some q =>
      rw [hq] at h
      simp only at h
      by_cases hok:okN q
      rotate_left
      · rw [if_pos hok] at h; cases h
      rw [if_neg (fun e=>e hok)] at h
      refine ⟨n,q,rfl,rfl,hok,?_⟩
      cases hs:q.split with
      | true =>
        rw [hs,if_pos rfl] at h
        cases ht:toA (q.kid (qa1 rc.at_ q.c.l)) with
        | none=>rw [ht] at h; cases h
        | some a'=>rw [ht] at h; exact .inl ⟨rfl,a',qlz ht,h⟩
      | false =>
        rw [hs,if_neg (by simp)] at h
        right
        refine ⟨rfl,?_⟩
        simp only [List.length_append,List.length_cons,List.length_nil,Nat.zero_add] at h
        by_cases hc:b<q.l.length+1∧q.c.l<16
        · rw [if_pos hc] at h
          exact .inl ⟨hc.1,hc.2,h⟩
        · rw [if_neg hc] at h
          cases h
          exact .inr ⟨hc,rfl⟩
theorem qiB {A:List Qn} {a:Nat} {q:Qn} (h:A[a]? = some q) (sp:Nat):(arC A sp)[a*10+9]? = some (lC q.full q.l):=by
  rw [qoD h sp 9 (by omega)]
  rfl
theorem qlK {A:List Qn} {a:Nat} {q:Qn} (h:A[a]? = some q) (sp:Nat) (f:Bool) (l:List Pr):(arC A sp).set (a*10+9) (lC f l)=arC (A.set a { q with l:=l,full:=f }) sp:=qoC h sp 9 (by omega) rfl
theorem qep {l:List Pr}:lC false l = .own false 55 l.length 4 (l.flatMap Pr.cs):=rfl
theorem qjW {l:List Pr}:lC true l = .v (.fs l.length 4 (l.flatMap Pr.cs)):=rfl
theorem qgL (l:List Pr) (r:Pr):(l ++ [r]).flatMap Pr.cs=l.flatMap Pr.cs ++ [.sc (.int .i64 r.id),.sc (.int .i64 r.at_.x),.sc (.int .i64 r.at_.y),.sc (.int .i64 r.lab)]:=by simp [Pr.cs]
theorem cutN {A:List Qn} {a:Nat} {q:Qn} (h:A[a]? = some q) (sp:Nat):∃ P D,P.length=a*10∧arC A sp=P++(ndC q++D)∧∀ q',arC (A.set a q') sp=P++(ndC q'++D):=by
  have hl:=(List.getElem?_eq_some_iff.1 h).1
  refine ⟨(A.take a).flatMap ndC,arC (A.drop (a+1)) sp,take_len h,qcw h sp,fun q' => ?_⟩
  have h':(A.set a q')[a]? = some q':=List.getElem?_set_self hl
  rw [qcw h' sp,List.take_set_of_le (Nat.le_refl _),List.drop_set_of_lt (by omega)]
theorem set_mid {P N D:List SV} {a j:Nat} {x:SV} (hP:P.length=a*10) (hj:j<N.length):(P++(N++D)).set (a*10+j) x=P++(N.set j x++D):=by
  rw [List.set_append_right _ _ (by omega),hP,Nat.add_sub_cancel_left,List.set_append_left _ _ hj]
theorem setCells_one {H:List Bk} {id off:Nat} {x:V}:setCells H id off [x]=qo H id off (.v x):=rfl
theorem qkG {H:List Bk} {id:Nat} {P N D:List SV} {a j:Nat} {xs:List V} (hP:P.length=a*10) (hk:H[id]? = some (.cells (P++(N++D)))) (hj:j+xs.length≤N.length):setCells H id (a*10+j) xs=H.set id (.cells (P++((N.take j++xs.map .v++N.drop (j+xs.length))++D))):=by
  rw [setCells_eq hk (by simp; omega)]
  congr 2
  have e1:(P++(N++D)).take (a*10+j)=P++N.take j:=by
    rw [List.take_append,hP,Nat.add_sub_cancel_left,List.take_of_length_le (by omega),List.take_append_of_le_length (by omega)]
  have e2:(P++(N++D)).drop (a*10+j+xs.length)=N.drop (j+xs.length)++D:=by
    rw [Nat.add_assoc,List.drop_append,hP,Nat.add_sub_cancel_left,List.drop_of_length_le (by omega),List.nil_append,List.drop_append_of_le_length (by omega)]
  rw [e1,e2]
  simp
theorem qnC {A:List Qn} {sp:Nat} (h:0<A.length):jW (arC A sp)=false:=by
  cases A with
  | nil=>simp at h
  | cons q A =>
    unfold arC
    rw [List.flatMap_cons]
    cases hl:q.full <;> simp [ndC,lC,hl,jW,V.fixed]
theorem qpe {H:List Bk} {id:Nat} {ks:List SV} {K:Bk} (hk:H[id]? = some (.cells ks)) (he:jW ks=false):Xi H (H.set id K):=fun i ks' h h2=>by
  by_cases e:id=i
  · subst e
    rw [hk] at h
    cases h
    rw [he] at h2
    cases h2
  · rw [List.getElem?_set_ne e]
    exact h
theorem qou (l:List Pr):∀ I φ v,Rel I φ (.fs l.length 4 (l.flatMap Pr.cs)) v→Rel I φ (lV l) v:=fun I φ v hv=>qnv hv
theorem rowP {l:List Pr} {k:Nat} (hk:k<l.length):AM.rowAt 4 (l.flatMap Pr.cs) (k:Int)=Pr.cs l[k]:=AM.WA (enc:=Pr.cs) (fun _=>rfl) hk
theorem qjZ {c:Ce} {s s1:Ar} {ks:List Nat}:∀ {i:Nat},qdI c s i=some (s1,ks)→ks.length=i
  | 0,h=>by cases h; rfl
  | i+1,h=>by
    unfold qdI runs at h
    cases hp:runs (fun i u=>match qcq u.1 (Xn c i).1 with
      | some (s1,k)=>some (s1,u.2 ++ [k])
      | none=>none) (s,([]:List Nat)) i with
    | none=>rw [hp] at h; cases h
    | some u =>
      obtain ⟨u1,u2⟩:=u
      have ih:=qjZ (c:=c) (s:=s) (i:=i) hp
      rw [hp] at h
      simp only at h
      cases hl:qcq u1 (Xn c i).1 with
      | none=>rw [hl] at h; cases h
      | some p =>
        obtain ⟨s2,k⟩:=p
        rw [hl] at h
        cases h
        simp [ih]
theorem qnr {c:Ce} {s t u1:Ar} {ks kt:List Nat} {i n:Nat} (h:qdI c s n=some (t,kt)) (hi:i<n) (hu:qdI c s i=some (u1,ks)):∃ u2 k,qcq u1 (Xn c i).1=some (u2,k)∧qdI c s (i+1)=some (u2,ks ++ [k]):=by
  obtain ⟨u',h1,h2⟩:=qgq h hi hu
  simp only at h1
  cases hl:qcq u1 (Xn c i).1 with
  | none=>rw [hl] at h1; cases h1
  | some p =>
    obtain ⟨s2,k⟩:=p
    rw [hl] at h1
    cases h1
    exact ⟨s2,k,rfl,h2⟩
theorem qnj {rec:Ar→Nat→Pr→Option Ar} {s s':Ar} {a:Nat} (h:qir rec s a=some s'):∃ q s4 ks q2,s.A[a]? = some q∧okN q∧qdI q.c s 4=some (s4,ks)∧s4.A[a]? = some q2 ∧
    qhe rec a q.l ⟨s4.A.set a { q2 with l := [],full:=true,split:=true,k0:=Wt ks 0,k1:=Wt ks 1,k2:=Wt ks 2,k3:=Wt ks 3,many:=0 },s4.fr⟩ q.l.length=some s':=by
  unfold qir at h
  cases hq:s.A[a]? with
  | none=>rw [hq] at h; cases h
  | some q =>
    rw [hq] at h
    simp only at h
    by_cases hok:okN q
    rotate_left
    · rw [if_pos hok] at h; cases h
    rw [if_neg (fun e=>e hok)] at h
    cases hk:qdI q.c s 4 with
    | none=>rw [hk] at h; cases h
    | some p =>
      obtain ⟨s4,ks⟩:=p
      rw [hk] at h
      simp only at h
      cases h2:s4.A[a]? with
      | none=>rw [h2] at h; cases h
      | some q2 =>
        rw [h2] at h
        exact ⟨q,s4,ks,q2,rfl,hok,hk,h2,h⟩
def qbU (ks:List Nat) (i:Nat):SV := .v (.sc (.int .i64 (Wt ks i)))
def qpd (ks:List Nat):Bk := .cells [qbU ks 0,qbU ks 1,qbU ks 2,qbU ks 3]
theorem getK_old {ks:List Nat} {k i:Nat} (h:i<ks.length):Wt (ks ++ [k]) i=Wt ks i:=by
  unfold Wt
  rw [List.getElem?_append_left h]
theorem getK_new {ks:List Nat} {k:Nat}:Wt (ks ++ [k]) ks.length=k:=by
  unfold Wt
  simp
theorem qmc {ks:List Nat} {i:Nat} (h:ks.length≤i):Wt ks i=0:=by
  unfold Wt
  rw [List.getElem?_eq_none h]
  rfl
theorem qlJ {α:Type} {l:List α} {i:Nat} {x:α} (h:l[i]? = some x):l.set i x=l:=by
  apply List.ext_getElem?
  intro j
  rw [List.getElem?_set]
  split
  · rename_i e
    subst e
    rw [if_pos (List.getElem?_eq_some_iff.1 h).1,h]
  · rfl
theorem kidB_set {ks:List Nat} {i k:Nat} (hl:ks.length=i) (hi:i<4) : [qbU ks 0,qbU ks 1,qbU ks 2,qbU ks 3].set i (.v (.sc (.int .i64 k))) = [qbU (ks ++ [k]) 0,qbU (ks ++ [k]) 1,qbU (ks ++ [k]) 2,qbU (ks ++ [k]) 3]:=by
  have old:∀ j,j≠i→qbU (ks ++ [k]) j=qbU ks j:=fun j hj=>by
    unfold qbU
    by_cases h:j<ks.length
    · rw [getK_old h]
    · rw [qmc (ks:=ks) (by omega),qmc (by simp; omega)]
  have new:qbU (ks ++ [k]) i = .v (.sc (.int .i64 k)):=by
    unfold qbU
    rw [← hl,getK_new]
  rcases (show i=0∨i=1∨i=2∨i=3 by omega) with rfl | rfl | rfl | rfl
  · rw [new,old 1 (by decide),old 2 (by decide),old 3 (by decide)]; rfl
  · rw [new,old 0 (by decide),old 2 (by decide),old 3 (by decide)]; rfl
  · rw [new,old 0 (by decide),old 1 (by decide),old 3 (by decide)]; rfl
  · rw [new,old 0 (by decide),old 1 (by decide),old 2 (by decide)]; rfl
theorem qnh {rec:Ar→Nat→Pr→Option Ar} {a:Nat} {l:List Pr} {s t u:Ar} {i n:Nat} (h:qhe rec a l s n=some t) (hi:i<n) (hl:i<l.length) (hu:qhe rec a l s i=some u):∃ u',rec u a l[i]=some u'∧qhe rec a l s (i+1)=some u':=by
  obtain ⟨u',h1,h2⟩:=qgq h hi hu
  simp only [List.getElem?_eq_getElem hl] at h1
  exact ⟨u',h1,h2⟩
theorem qnF {A:List Qn} {n a:Nat} {L:List Pr} (h:qb5 A n a=some L):∃ n' q,n=n'+1∧A[a]? = some q∧okN q∧((q.split=false∧L=q.l)∨(q.split=true∧runs (qbf q fun u a'=>(qb5 A n' a').map (u ++ ·)) q.l 4=some L)):=by
  cases n with
  | zero=>cases h
  | succ n =>
    unfold qb5 at h
    cases hq:A[a]? with
    | none=>rw [hq] at h; cases h
    | some q =>
      rw [hq] at h
      simp only at h
      by_cases hok:okN q
      rotate_left
      · rw [if_pos hok] at h; cases h
      rw [if_neg (fun e=>e hok)] at h
      refine ⟨n,q,rfl,rfl,hok,?_⟩
      cases hs:q.split with
      | true=>rw [hs,if_pos rfl] at h; exact .inr ⟨rfl,h⟩
      | false=>rw [hs,if_neg (by simp)] at h; cases h; exact .inl ⟨rfl,rfl⟩
theorem qer {α:Type} {q:Qn} {G:α→Nat→Option α} {s t u:α} {i m:Nat} (h:runs (qbf q G) s m=some t) (hi:i<m) (hu:runs (qbf q G) s i=some u):∃ (a':Nat) (u':α),q.kid i=(a':Int)∧G u a'=some u'∧runs (qbf q G) s (i+1)=some u':=by
  obtain ⟨u',h1,h2⟩:=qgq h hi hu
  unfold qbf at h1
  cases ht:toA (q.kid i) with
  | none=>rw [ht] at h1; cases h1
  | some a' =>
    rw [ht] at h1
    exact ⟨a',u',qlz ht,h1,h2⟩
theorem qd3 {q:Qn} {E:Nat→Option (List Pr)} {l:List Pr}:∀ {m i:Nat} {L Lk:List Pr},runs (qbf q fun u a'=>(E a').map (u ++ ·)) l m=some L→i≤m→runs (qbf q fun u a'=>(E a').map (u ++ ·)) l i=some Lk→Lk.length≤L.length
  | 0,i,L,Lk,h,hi,hk=>by
    have:i=0:=by omega
    subst this
    rw [h] at hk
    cases hk
    exact Nat.le_refl _
  | m+1,i,L,Lk,h,hi,hk=>by
    by_cases e:i=m+1
    · subst e
      rw [h] at hk
      cases hk
      exact Nat.le_refl _
    · obtain ⟨u,hu⟩:=qkI h m (Nat.le_succ m)
      have ih:=qd3 hu (by omega) hk
      obtain ⟨a',u',_,h3,h4⟩:=qer h (Nat.lt_succ_self m) hu
      rw [h] at h4
      cases h4
      cases hE:E a' with
      | none=>rw [hE] at h3; cases h3
      | some v =>
        rw [hE] at h3
        simp at h3
        rw [← h3]
        simp
        omega
theorem ql5 {q:Qn} {i:Nat} (hi:i<4):([V.sc (.int .i64 q.k0),V.sc (.int .i64 q.k1),V.sc (.int .i64 q.k2),V.sc (.int .i64 q.k3)]:List V)[i]'(by simpa using hi)=V.sc (.int .i64 (q.kid i)):=by
  rcases (show i=0∨i=1∨i=2∨i=3 by omega) with rfl | rfl | rfl | rfl <;> rfl
theorem qmU {A:List Qn} {rc:Re} {n a:Nat} {L:List Pr} (h:qcD A rc n a=some L):∃ n' q,n=n'+1∧A[a]? = some q∧okN q ∧
    (((q.many=0∨qE (JD q.c).1 rc=false)∧L = []) ∨
     (¬ (q.many=0∨qE (JD q.c).1 rc=false)∧inB (JD q.c).1 rc=true∧qb5 A 18 a=some L) ∨
     (¬ (q.many=0∨qE (JD q.c).1 rc=false)∧inB (JD q.c).1 rc=false∧((q.split=false∧L=q.l.filter fun r=>yV rc r.at_)∨(q.split=true∧runs (qbf q fun u a'=>(qcD A rc n' a').map (u ++ ·)) (q.l.filter fun r=>yV rc r.at_) 4=some L)))):=by
  cases n with
  | zero=>cases h
  | succ n =>
    unfold qcD at h
    cases hq:A[a]? with
    | none=>rw [hq] at h; cases h
    | some q =>
      rw [hq] at h
      simp only at h
      by_cases hok:okN q
      rotate_left
      · rw [if_pos hok] at h; cases h
      rw [if_neg (fun e=>e hok)] at h
      refine ⟨n,q,rfl,rfl,hok,?_⟩
      by_cases h1:q.many=0∨qE (JD q.c).1 rc=false
      · rw [if_pos h1] at h
        cases h
        exact .inl ⟨h1,rfl⟩
      · rw [if_neg h1] at h
        right
        by_cases h2:inB (JD q.c).1 rc=true
        · rw [if_pos h2] at h
          exact .inl ⟨h1,h2,h⟩
        · rw [if_neg h2] at h
          right
          refine ⟨h1,by simpa using h2,?_⟩
          by_cases hs:q.split=true
          · rw [if_pos hs] at h
            exact .inr ⟨hs,h⟩
          · rw [if_neg hs] at h
            cases h
            exact .inl ⟨by simpa using hs,rfl⟩
theorem map_step {α:Type} {E:Option α} {g:α→α} {u':α} (h:E.map g=some u'):∃ v,E=some v∧u'=g v:=by
  cases hE:E with
  | none=>rw [hE] at h; cases h
  | some v =>
    rw [hE] at h
    simp at h
    exact ⟨v,rfl,h.symm⟩
def Un (c:Ce) (p:Pt):Prop:=fits p=true∧QH c (cellOf p 16)=true
theorem kid_way {p:Pt} {c:Ce} (h:fits p=true) (h0:0≤c.l) (hl:c.l<16):qkZ p c.l=qaM c (cellOf p 16):=by
 have hr:vR (c.l+1)=true:=by simp [vR]; omega
 unfold qkZ qaM
 rw [Zf (by omega) (Int.le_refl _)]
 simp [ofR,hr,h]
theorem Un.child {c:Ce} {p:Pt} (h:Un c p) (h0:0≤c.l) (hl:c.l<16):Un (qD c (qa1 p c.l)) p:=by
 refine ⟨h.1,?_⟩
 rw [qov,kid_way h.1 h0 hl]
 exact qg4 h.2 (by rintro rfl; simp [cellOf] at hl)
theorem Un.box {c:Ce} {p:Pt} (hc:yj c=true):yV (jy c) p=true↔Un c p:=by
 have hb:=Qj hc
 have hc':=yI.1 hc
 have hl:0≤c.l∧c.l≤16:=hc'.1
 rw [ZR]
 unfold Un
 rw [JM,Zf hl.2 (Int.le_refl _)]
 have hs:0<side c.l:=two_pos _
 have hb':=qF.1 hb
 simp only [jy] at hb' ⊢
 have e:cellOf p c.l=c↔p.x/side c.l=c.x∧p.y/side c.l=c.y:=by
  constructor
  ·intro h
   exact ⟨congrArg Ce.x h,congrArg Ce.y h⟩
  ·rintro ⟨h1,h2⟩
   unfold cellOf
   rw [h1,h2]
 have dv:∀ x y:Int,(x/side c.l=y)↔(side c.l*y≤x∧x≤side c.l*y+side c.l - 1):=by
  intro x y
  constructor
  ·rintro rfl
   have h1:=Int.emod_add_mul_ediv x (side c.l)
   have h2:=Int.emod_nonneg x (Int.ne_of_gt hs)
   have h3:=Int.emod_lt_of_pos x hs
   omega
  ·rintro ⟨h1,h2⟩
   have h3:x=side c.l*y+(x - side c.l*y):=by omega
   rw [h3,Int.add_comm,Int.add_mul_ediv_left _ _ (Int.ne_of_gt hs),Int.ediv_eq_zero_of_lt (by omega) (by omega)]
   omega
 rw [e,dv,dv]
 simp only [fits,inside,Bool.and_eq_true,decide_eq_true_eq]
 constructor
 ·rintro ⟨_,h1,h2⟩
  exact ⟨⟨⟨by omega,by omega⟩,by omega,by omega⟩,by simp [cellOf]; omega,h1,h2⟩
 ·rintro ⟨_,_,h1,h2⟩
  exact ⟨hb,h1,h2⟩
def KF (c:Ce) (S:List Pr) (i:Nat):List Pr:=S.filter fun r=>decide (qa1 r.at_ c.l=i)
def qiF (J:Nat→List Nat):List Nat:=J 0++J 1++J 2++J 3
def oth (J:Nat→List Nat):Nat→List Nat
 | 0=>J 1++J 2++J 3
 | 1=>J 0++J 2++J 3
 | 2=>J 0++J 1++J 3
 | _=>J 0++J 1++J 2
def upd {α:Type} (J:Nat→α) (i:Nat) (x:α):Nat→α:=fun j=>if j=i then x else J j
theorem qlx {α:Type} {J:Nat→α} {i:Nat} {x:α}:upd J i x i=x:=by simp [upd]
theorem upd_ne {α:Type} {J:Nat→α} {i j:Nat} {x:α} (h:j≠i):upd J i x j=J j:=by simp [upd,h]
theorem oth_upd {J:Nat→List Nat} {i:Nat} {x:List Nat} (hi:i<4):oth (upd J i x) i=oth J i:=by
 rcases (show i=0∨i=1∨i=2∨i=3 by omega) with rfl | rfl | rfl | rfl <;> simp [oth,upd]
theorem qfC {J:Nat→List Nat} {i:Nat} (hi:i<4):(qiF J).Perm (J i++oth J i):=by
 rcases (show i=0∨i=1∨i=2∨i=3 by omega) with rfl | rfl | rfl | rfl <;> simp only [qiF,oth]
 ·simp only [List.append_assoc]; exact List.Perm.refl _
 ·refine List.perm_iff_count.2 fun x => ?_
  simp only [List.count_append]; omega
 ·refine List.perm_iff_count.2 fun x => ?_
  simp only [List.count_append]; omega
 ·refine List.perm_iff_count.2 fun x => ?_
  simp only [List.count_append]; omega
theorem mem_oth {J:Nat→List Nat} {i j x:Nat} (hi:i<4) (hj:j<4) (h:j≠i) (hx:x∈J j):x∈oth J i:=by
 rcases (show i=0∨i=1∨i=2∨i=3 by omega) with rfl | rfl | rfl | rfl <;>
  rcases (show j=0∨j=1∨j=2∨j=3 by omega) with rfl | rfl | rfl | rfl <;> first | exact absurd rfl h | simp [oth,hx]
theorem qjU {J:Nat→List Nat} {i x:Nat} (hi:i<4) (hx:x∈J i):x∈qiF J:=(qfC hi).mem_iff.2 (List.mem_append.2 (.inl hx))
def LfR (A:List Qn) (a:Nat) (c:Ce) (S:List Pr) (I:List Nat):Prop:=∃ q,A[a]? = some q∧q.c=c∧q.split=false∧q.l.Perm S∧q.many=S.length∧I = [a]
def SpR (R:Nat→Ce→List Pr→List Nat→Prop) (A:List Qn) (a:Nat) (c:Ce) (S:List Pr) (I:List Nat):Prop :=
 ∃ (q:Qn) (J:Nat→List Nat) (k:Nat→Nat),A[a]? = some q∧q.c=c∧q.split=true∧q.l = []∧q.many=S.length∧(∀ i,i<4→q.kid i=(k i:Int))∧(∀ i,i<4→R (k i) (qD c i) (KF c S i) (J i))∧I=a::qiF J
def Rep (b:Nat) (A:List Qn):Nat→Nat→Ce→List Pr→List Nat→Prop
 | 0=>LfR A
 | n+1=>fun a c S I=>(S.length≤b∧LfR A a c S I)∨(b<S.length∧SpR (Rep b A n) A a c S I)
theorem LfR.congr {A A':List Qn} {a:Nat} {c:Ce} {S S':List Pr} {I:List Nat} (h:LfR A a c S I) (hA:∀ x∈I,A'[x]? = A[x]?) (hS:S.Perm S'):LfR A' a c S' I:=by
 obtain ⟨q,h1,h2,h3,h4,h5,rfl⟩:=h
 exact ⟨q,by rw [hA a (by simp)]; exact h1,h2,h3,h4.trans hS,by rw [h5,hS.length_eq],rfl⟩
theorem SpR.congr {R R':Nat→Ce→List Pr→List Nat→Prop} {A A':List Qn} {a:Nat} {c:Ce} {S S':List Pr} {I:List Nat} (h:SpR R A a c S I) (hA:∀ x∈I,A'[x]? = A[x]?) (hS:S.Perm S') (hR:∀ a c S S' I',(∀ x∈I',x∈I)→S.Perm S'→R a c S I'→R' a c S' I'):SpR R' A' a c S' I:=by
 obtain ⟨q,J,k,h1,h2,h3,h4,h5,h6,h7,rfl⟩:=h
 refine ⟨q,J,k,by rw [hA a (by simp)]; exact h1,h2,h3,h4,by rw [h5,hS.length_eq],h6,fun i hi => ?_,rfl⟩
 exact hR _ _ _ _ _ (fun x hx=>List.mem_cons_of_mem _ (qjU hi hx)) (hS.filter _) (h7 i hi)
theorem Rep.congr {b:Nat} {A A':List Qn}:∀ {n a:Nat} {c:Ce} {S S':List Pr} {I:List Nat},Rep b A n a c S I→(∀ x∈I,A'[x]? = A[x]?)→S.Perm S'→Rep b A' n a c S' I
 | 0,a,c,S,S',I,h,hA,hS=>LfR.congr h hA hS
 | n+1,a,c,S,S',I,h,hA,hS=>by
  rcases h with ⟨h1,h2⟩ | ⟨h1,h2⟩
  ·exact .inl ⟨by rw [← hS.length_eq]; exact h1,h2.congr hA hS⟩
  ·exact .inr ⟨by rw [← hS.length_eq]; exact h1,h2.congr hA hS fun a c S S' I' hI hS h=>Rep.congr h (fun x hx=>hA x (hI x hx)) hS⟩
theorem Rep.head {b:Nat} {A:List Qn} {n a:Nat} {c:Ce} {S:List Pr} {I:List Nat} (h:Rep b A n a c S I):∃ q J,A[a]? = some q∧q.c=c∧q.many=S.length∧I=a::J:=by
 cases n with
 | zero =>
  obtain ⟨q,h1,h2,h3,h4,h5,rfl⟩:=h
  exact ⟨q,[],h1,h2,h5,rfl⟩
 | succ n =>
  rcases h with ⟨_,q,h1,h2,h3,h4,h5,rfl⟩ | ⟨_,q,J,k,h1,h2,h3,h4,h5,h6,h7,rfl⟩
  ·exact ⟨q,[],h1,h2,h5,rfl⟩
  ·exact ⟨q,_,h1,h2,h5,rfl⟩
def qiT:Nat→Nat
 | 0=>1
 | n+1=>1+4*qiT n
theorem qmt:∀ n,1≤qiT n
 | 0=>Nat.le_refl _
 | n+1=>by unfold qiT; omega
theorem SpR.len {R:Nat→Ce→List Pr→List Nat→Prop} {A:List Qn} {a m:Nat} {c:Ce} {S:List Pr} {I:List Nat} (h:SpR R A a c S I) (hR:∀ a c S I,R a c S I→I.length≤m):I.length≤1+4*m:=by
 obtain ⟨q,J,k,h1,h2,h3,h4,h5,h6,h7,rfl⟩:=h
 have h0:=hR _ _ _ _ (h7 0 (by omega))
 have h1:=hR _ _ _ _ (h7 1 (by omega))
 have h2:=hR _ _ _ _ (h7 2 (by omega))
 have h3:=hR _ _ _ _ (h7 3 (by omega))
 simp [qiF]
 omega
theorem LfR.len {A:List Qn} {a:Nat} {c:Ce} {S:List Pr} {I:List Nat} (h:LfR A a c S I):I.length=1:=by
 obtain ⟨q,h1,h2,h3,h4,h5,rfl⟩:=h
 rfl
theorem Rep.len {b:Nat} {A:List Qn}:∀ {n a:Nat} {c:Ce} {S:List Pr} {I:List Nat},Rep b A n a c S I→I.length≤qiT n
 | 0,_,_,_,_,h=>Nat.le_of_eq (LfR.len h)
 | n+1,_,_,_,_,h=>by
  rcases h with ⟨_,h⟩ | ⟨_,h⟩
  ·rw [h.len]; exact qmt _
  ·exact h.len fun _ _ _ _ h=>Rep.len h
structure Ok (n:Nat) (c:Ce) (S:List Pr):Prop where
 r:yj c=true
 l:c.l+n=16
 u:∀ r∈S,Un c r.at_
 len:S.length≤1000000
theorem Ok.kid {n:Nat} {c:Ce} {S:List Pr} (h:Ok (n+1) c S) {i:Nat} (hi:i<4):Ok n (qD c i) (KF c S i):=by
 have hl:=h.l
 have h0:=(yI.1 h.r).1.1
 refine ⟨Y7 h.r (by omega) (by omega),by simp [qD]; omega,fun r hr => ?_,Nat.le_trans (List.length_filter_le _ _) h.len⟩
 obtain ⟨h1,h2⟩:=List.mem_filter.1 hr
 have h2:qa1 r.at_ c.l=i:=by simpa using h2
 have:=(h.u r h1).child h0 (by omega)
 rwa [h2] at this
theorem Ok.sub {n:Nat} {c:Ce} {S S':List Pr} (h:Ok n c S) (hs:∀ r∈S',r∈S) (hl:S'.length≤S.length):Ok n c S':=⟨h.r,h.l,fun r hr=>h.u r (hs r hr),Nat.le_trans hl h.len⟩
theorem Ok.okN {n:Nat} {c:Ce} {S:List Pr} (h:Ok n c S) {q:Qn} (hc:q.c=c) (hm:q.many=S.length) (hl:q.l.length≤S.length):okN q:=by
 have:=h.len
 exact ⟨by rw [hc]; exact h.r,by omega,by omega,by omega⟩
structure Fit (s:Ar) (I F:List Nat):Prop where
 perm:(I++F++s.fr).Perm (List.range s.A.length)
 len:s.A.length≤big
theorem Fit.lt {s:Ar} {I F:List Nat} (h:Fit s I F) {x:Nat} (hx:x∈I∨x∈F∨x∈s.fr):x<s.A.length:=by
 have:x∈I++F++s.fr:=by simpa using hx
 simpa using h.perm.mem_iff.1 this
theorem Fit.nodup {s:Ar} {I F:List Nat} (h:Fit s I F):(I++F++s.fr).Nodup:=h.perm.nodup_iff.2 List.nodup_range
theorem Fit.length {s:Ar} {I F:List Nat} (h:Fit s I F):I.length+F.length+s.fr.length=s.A.length:=by
 have:=h.perm.length_eq
 simp at this
 omega
theorem Fit.to {s s':Ar} {I F I' F':List Nat} (h:Fit s I F) (hA:s'.A.length=s.A.length) (hp:(I'++F'++s'.fr).Perm (I++F++s.fr)):Fit s' I' F':=⟨by rw [hA]; exact hp.trans h.perm,by rw [hA]; exact h.len⟩
def Same (F:List Nat) (s s':Ar):Prop:=∀ x∈F,s'.A[x]? = s.A[x]?
theorem Same.trans {F:List Nat} {s s1 s2:Ar} (h:Same F s s1) (k:Same F s1 s2):Same F s s2:=fun x hx=>(k x hx).trans (h x hx)
theorem leaf_ok {s:Ar} {I F:List Nat} (c:Ce) (h:Fit s I F) (hb:I.length+F.length<big):∃ s' k,qcq s c=some (s',k)∧s'.A[k]? = some (Wi c)∧Same (I++F) s s'∧k∉I++F∧Fit s' (I ++ [k]) F:=by
 have hlen:=h.length
 have hbig:=h.len
 unfold qcq
 cases hg:s.fr.getLast? with
 | some a =>
  have hne:s.fr ≠ []:=by rintro e; rw [e] at hg; cases hg
  have hla:a=s.fr.getLast hne:=by rw [List.getLast?_eq_some_getLast hne] at hg; exact (Option.some.inj hg).symm
  have hfr:s.fr=s.fr.dropLast ++ [a]:=by rw [hla]; exact (List.dropLast_concat_getLast hne).symm
  have ham:a∈s.fr:=by rw [hla]; exact List.getLast_mem hne
  have hal:=h.lt (.inr (.inr ham))
  have hnd:=h.nodup
  have hna:a∉I++F:=fun e=>(List.nodup_append.1 hnd).2.2 a e a ham rfl
  simp only [hal,true_and]
  rw [if_pos (by omega)]
  refine ⟨_,_,rfl,List.getElem?_set_self hal,fun x hx=>List.getElem?_set_ne (by rintro rfl; exact hna hx),hna,h.to (by simp) ?_⟩
  simp only
  refine List.perm_iff_count.2 fun x => ?_
  have:=congrArg (List.count x) hfr
  simp only [List.count_append] at this ⊢
  omega
 | none =>
  have hfr:s.fr = []:=by simpa using hg
  rw [hfr] at hlen
  simp at hlen
  simp only
  rw [if_pos (by omega)]
  refine ⟨_,_,rfl,by simp,fun x hx => ?_,fun e => ?_,⟨?_,by simp; omega⟩⟩
  ·have:=h.lt (x:=x) (by rcases List.mem_append.1 hx with h | h; exact .inl h; exact .inr (.inl h))
   simp only
   rw [List.getElem?_append_left this]
  ·have:=h.lt (x:=s.A.length) (by rcases List.mem_append.1 e with h | h; exact .inl h; exact .inr (.inl h))
   omega
  ·have hp:=h.perm
   rw [hfr] at hp
   simp only [List.append_nil,List.length_append,List.length_cons,List.length_nil] at hp ⊢
   rw [List.range_succ]
   refine List.perm_iff_count.2 fun x => ?_
   have:=hp.count_eq x
   simp only [List.count_append] at this ⊢
   omega
theorem qn4 (k:Nat):toA (k:Int)=some k:=by simp [toA]
def KidsI (c:Ce) (s:Ar) (a:Nat) (F:List Nat) (i:Nat) (s':Ar) (ks:List Nat):Prop:=ks.length=i∧(∀ j,j<i→∃ k,ks[j]? = some k∧s'.A[k]? = some (Wi (Xn c j).1))∧Same (a::F) s s'∧Fit s' (a::ks) F
theorem kids_ok {c:Ce} {s:Ar} {a:Nat} {F:List Nat} (h:Fit s [a] F) (hb:F.length+5≤big):∀ i,i≤4→∃ s' ks,qdI c s i=some (s',ks)∧KidsI c s a F i s' ks:=by
 intro i
 induction i with
 | zero=>intro _; exact ⟨s,[],rfl,rfl,fun j hj=>by omega,fun _ _=>rfl,h⟩
 | succ i ih =>
  intro hi
  obtain ⟨s1,ks,h1,h2,h3,h4,h5⟩:=ih (by omega)
  obtain ⟨s2,k,l1,l2,l3,l4,l5⟩:=leaf_ok (Xn c i).1 h5 (by simp; omega)
  refine ⟨s2,ks ++ [k],?_,by simp [h2],fun j hj => ?_,fun x hx=>(l3 x ?_).trans (h4 x hx),l5⟩
  ·unfold qdI at h1 ⊢
   rw [qgp h1]
   simp only [l1]
  ·by_cases e:j=i
   ·subst e
    exact ⟨k,by rw [← h2]; simp,l2⟩
   ·obtain ⟨k',m1,m2⟩:=h3 j (by omega)
    refine ⟨k',by rw [List.getElem?_append_left (by omega)]; exact m1,(l3 k' ?_).trans m2⟩
    have:=List.mem_of_getElem? m1
    simp [this]
  ·simp at hx ⊢
   rcases hx with h | h <;> simp [h]
def putOK (b n:Nat):Prop:=∀ (f m a:Nat) (c:Ce) (S:List Pr) (I F:List Nat) (s:Ar) (r:Pr),n≤f→n+1≤m→Ok n c (r::S)→Rep b s.A n a c S I→Fit s I F→F.length+qiT n≤big →
 ∃ s' I',qgW b (qjf b f) m s a r=some s'∧Rep b s'.A n a c (r::S) I'∧Fit s' I' F∧Same F s s'
theorem qgH {c:Ce} {r:Pr} {S:List Pr} {i:Nat}:KF c (r::S) i=if qa1 r.at_ c.l=i then r::KF c S i else KF c S i:=by
 unfold KF
 rw [List.filter_cons]
 simp only [decide_eq_true_eq]
theorem oth_len {J:Nat→List Nat} {m i:Nat} (hi:i<4) (h:∀ j,j<4→(J j).length≤m):(oth J i).length≤3*m:=by
 have h0:=h 0 (by omega)
 have h1:=h 1 (by omega)
 have h2:=h 2 (by omega)
 have h3:=h 3 (by omega)
 rcases (show i=0∨i=1∨i=2∨i=3 by omega) with rfl | rfl | rfl | rfl <;> simp [oth] <;> omega
theorem qlX {b n:Nat} (hP:putOK b n) (f m a:Nat) (c:Ce) (S:List Pr) (I F:List Nat) (s:Ar) (r:Pr) (hf:n≤f) (hm:n+2≤m) (hO:Ok (n+1) c (r::S)) (hR:SpR (Rep b s.A n) s.A a c S I) (hF:Fit s I F) (hc:F.length+qiT (n+1)≤big) :
  ∃ s' I',qgW b (qjf b f) m s a r=some s'∧SpR (Rep b s'.A n) s'.A a c (r::S) I'∧Fit s' I' F∧Same F s s':=by
 obtain ⟨m,rfl⟩:∃ m',m=m'+1:=⟨m - 1,by omega⟩
 obtain ⟨q,J,k,h1,h2,h3,h4,h5,h6,h7,rfl⟩:=hR
 have hal:a<s.A.length:=(List.getElem?_eq_some_iff.1 h1).1
 have hi:=qf4 r.at_ c.l
 have hnd:=hF.nodup
 generalize hki:qa1 r.at_ c.l=i at *
 have hOk:okN q:=(hO.sub (S':=S) (fun x hx=>List.mem_cons_of_mem _ hx) (by simp)).okN h2 h5 (by rw [h4]; simp)
 have hJa:∀ j,j<4→a∉J j:=fun j hj e=>by
  rw [List.append_assoc,List.cons_append] at hnd
  exact (List.nodup_cons.1 hnd).1 (List.mem_append.2 (.inl (qjU hj e)))
 have hs1:∀ x,x≠a→(s.A.set a { q with many:=q.many+1 })[x]? = s.A[x]? := fun x hx=>List.getElem?_set_ne (Ne.symm hx)
 have hkO:Ok n (qD c i) (r::KF c S i):=by
  have:=hO.kid hi
  rw [qgH,if_pos hki] at this
  exact this
 have hRi:Rep b (s.A.set a { q with many:=q.many+1 }) n (k i) (qD c i) (KF c S i) (J i):=(h7 i hi).congr (fun x hx=>hs1 x (by rintro rfl; exact hJa i hi hx)) (List.Perm.refl _)
 have hJl:=oth_len hi (m:=qiT n) (fun j hj=>(h7 j hj).len)
 have hFi:Fit ⟨s.A.set a { q with many:=q.many+1 },s.fr⟩ (J i) (a::(oth J i++F)):=by
  refine hF.to (by simp) (List.perm_iff_count.2 fun x => ?_)
  have:=(qfC (J:=J) hi).count_eq x
  simp only [List.count_append,List.count_cons] at this ⊢
  omega
 obtain ⟨s',I',p1,p2,p3,p4⟩:=hP f m (k i) (qD c i) (KF c S i) (J i) (a::(oth J i++F)) ⟨s.A.set a { q with many:=q.many+1 },s.fr⟩ r hf (by omega) hkO hRi hFi (by simp [qiT] at hc ⊢; omega)
 refine ⟨s',a::qiF (upd J i I'),?_,⟨{ q with many:=q.many+1 },upd J i I',k,?_,h2,h3,h4,by simp [h5],fun j hj=>h6 j hj,fun j hj => ?_,rfl⟩,?_,fun x hx => ?_⟩
 ·unfold qgW
  simp only [h1]
  rw [if_neg (fun e=>e hOk),if_pos h3,show qa1 r.at_ q.c.l=i by rw [h2]; exact hki,h6 i hi,qn4]
  exact p1
 ·have:=p4 a (by simp)
  rw [this]
  exact List.getElem?_set_self hal
 ·by_cases e:j=i
  ·subst e
   rw [qlx,qgH,if_pos hki]
   exact p2
  ·rw [upd_ne e,qgH,if_neg (by rw [hki]; exact fun e'=>e e'.symm)]
   refine (h7 j hj).congr (fun x hx => ?_) (List.Perm.refl _)
   rw [p4 x (by simp [mem_oth hi hj e hx])]
   exact hs1 x (by rintro rfl; exact hJa j hj hx)
 ·refine p3.to rfl (List.perm_iff_count.2 fun x => ?_)
  have:=(qfC (J:=upd J i I') hi).count_eq x
  rw [qlx,oth_upd hi] at this
  simp only [List.count_append,List.count_cons] at this ⊢
  omega
 ·rw [p4 x (by simp [hx])]
  refine hs1 x ?_
  rintro rfl
  rw [List.append_assoc,List.cons_append] at hnd
  exact (List.nodup_cons.1 hnd).1 (by simp [hx])
theorem part_ok {b n:Nat} (hP:putOK b n) (f a:Nat) (c:Ce) (l:List Pr) (F:List Nat) (s:Ar) (hf:n+1≤f) (hn:n≤15) (hO:Ok (n+1) c l) {q:Qn} (hq:s.A[a]? = some q) (hqc:q.c=c) (hql:q.l=l) (hqm:q.many=l.length) (hF:Fit s [a] F) (hc:F.length+qiT (n+1)≤big) :
  ∃ s' I',qir (qjf b f) s a=some s'∧SpR (Rep b s'.A n) s'.A a c l I'∧Fit s' I' F∧Same F s s':=by
 obtain ⟨f,rfl⟩:∃ f',f=f'+1:=⟨f - 1,by omega⟩
 have hcp:=qmt n
 obtain ⟨s4,ks,g1,g2,g3,g4,g5⟩:=kids_ok (c:=c) hF (by simp [qiT] at hc; omega) 4 (Nat.le_refl _)
 have hOk:okN q:=hO.okN hqc hqm (by rw [hql]; exact Nat.le_refl _)
 have hq4:s4.A[a]? = some q:=(g4 a (by simp)).trans hq
 have hal:=(List.getElem?_eq_some_iff.1 hq4).1
 have hc':=(yI.1 hO.r).1
 have hol:=hO.l
 obtain ⟨q',eq',m1,m2,m3,m4,m5⟩:∃ q':Qn,q' = { q with l := [],full:=true,split:=true,k0:=Wt ks 0,k1:=Wt ks 1,k2:=Wt ks 2,k3:=Wt ks 3,many:=0 }∧q'.c=c∧q'.split=true∧q'.l = []∧q'.many=0∧∀ i,i<4→q'.kid i=Wt ks i:=⟨_,rfl,hqc,rfl,rfl,rfl,fun i hi=>by
  rcases (show i=0∨i=1∨i=2∨i=3 by omega) with rfl | rfl | rfl | rfl <;> rfl⟩
 have hnd:=g5.nodup
 have hks:∀ k∈ks,k≠a:=fun k hk e=>by
  subst e
  simp at hnd
  exact absurd hk hnd.1.1
 have hIE:a::qiF (fun i => [(ks[i]?).getD 0])=a::ks:=by
  match ks,g2 with
  | [k0,k1,k2,k3],_=>rfl
 have hS0:SpR (Rep b (s4.A.set a q') n) (s4.A.set a q') a c [] (a::ks):=by
  refine ⟨q',fun i => [(ks[i]?).getD 0],fun i=>(ks[i]?).getD 0,List.getElem?_set_self hal,m1,m2,m3,m4,fun i hi=>m5 i hi,fun i hi => ?_,hIE.symm⟩
  obtain ⟨k,n1,n2⟩:=g3 i hi
  have hka:=hks k (List.mem_of_getElem? n1)
  have hch:(Xn c i).1=qD c i:=by
   rw [qkl hO.r (by omega),if_pos ⟨by omega,by omega⟩]
  rw [hch] at n2
  have hlf:LfR (s4.A.set a q') k (qD c i) [] [k]:=⟨_,(List.getElem?_set_ne (Ne.symm hka)).trans n2,rfl,rfl,List.Perm.refl _,rfl,rfl⟩
  simp only [n1,Option.getD_some,KF,List.filter_nil]
  cases n with
  | zero=>exact hlf
  | succ n=>exact .inl ⟨Nat.zero_le _,hlf⟩
 have hF0:Fit ⟨s4.A.set a q',s4.fr⟩ (a::ks) F:=g5.to (by simp) (List.Perm.refl _)
 have hrun:∀ i,i≤l.length→∃ u I',qhe (qjf b (f+1)) a l ⟨s4.A.set a q',s4.fr⟩ i=some u∧SpR (Rep b u.A n) u.A a c (l.take i) I'∧Fit u I' F∧Same F s u:=by
  intro i
  induction i with
  | zero =>
   intro _
   refine ⟨_,_,rfl,hS0,hF0,fun x hx => ?_⟩
   have hxa:x≠a:=by
    rintro rfl
    simp at hnd
    exact hnd.1.2.1 hx
   exact (List.getElem?_set_ne (Ne.symm hxa)).trans (g4 x (by simp [hx]))
  | succ i ih =>
   intro hi
   obtain ⟨u,I',p1,p2,p3,p4⟩:=ih (by omega)
   have hsub:∀ r∈l[i]::l.take i,r∈l:=fun r hr=>by
    rcases List.mem_cons.1 hr with rfl | hr
    ·exact List.getElem_mem _
    ·exact List.mem_of_mem_take hr
   obtain ⟨u',I2,t1,t2,t3,t4⟩:=qlX hP f 18 a c (l.take i) I' F u l[i] (by omega) (by omega) (hO.sub hsub (by simp; omega)) p2 p3 hc
   refine ⟨u',I2,?_,t2.congr (fun _ _=>rfl) ?_ (fun a c S S' I' hI hS h=>h.congr (fun _ _=>rfl) hS),t3,p4.trans t4⟩
   ·unfold qhe at p1 ⊢
    rw [qgp p1]
    have:l[i]? = some l[i]:=List.getElem?_eq_getElem (by omega)
    simp only [this]
    exact t1
   ·rw [List.take_succ_eq_append_getElem (by omega)]
    exact (List.perm_append_singleton _ _).symm
 obtain ⟨u,I',p1,p2,p3,p4⟩:=hrun l.length (Nat.le_refl _)
 rw [List.take_length] at p2
 refine ⟨u,I',?_,p2,p3,p4⟩
 unfold qir
 simp only [hq]
 rw [if_neg (fun e=>e hOk),hqc,g1]
 simp only [hq4]
 rw [← hqc] at *
 rw [eq'] at p1
 rw [hql]
 exact p1
theorem put_ok {b:Nat} (hb:1≤b):∀ n,n≤16→putOK b n:=by
 intro n
 induction n with
 | zero =>
  intro _ f m a c S I F s r hf hm hO hR hF hc
  obtain ⟨m,rfl⟩:∃ m',m=m'+1:=⟨m - 1,by omega⟩
  obtain ⟨q,h1,h2,h3,h4,h5,rfl⟩:=hR
  have hal:=(List.getElem?_eq_some_iff.1 h1).1
  have hOk:okN q:=(hO.sub (S':=S) (fun x hx=>List.mem_cons_of_mem _ hx) (by simp)).okN h2 h5 (by rw [h4.length_eq]; exact Nat.le_refl _)
  have hl:=hO.l
  have hxa:∀ x∈F,x≠a:=fun x hx e=>by
   subst e
   have:=hF.nodup
   simp at this
   exact this.1.1 hx
  refine ⟨⟨s.A.set a { q with many:=q.many+1,l:=q.l ++ [r],full:=false },s.fr⟩,[a],?_,⟨_,List.getElem?_set_self hal,h2,h3,(List.perm_append_singleton _ _).trans (h4.cons r),by simp [h5],rfl⟩,hF.to (by simp) (List.Perm.refl _),fun x hx=>List.getElem?_set_ne (Ne.symm (hxa x hx))⟩
  unfold qgW
  simp only [h1]
  rw [if_neg (fun e=>e hOk),if_neg (by simp [h3]),if_neg (by rw [h2]; omega)]
 | succ n ih =>
  intro hn f m a c S I F s r hf hm hO hR hF hc
  have hP:=ih (by omega)
  rcases hR with ⟨hSb,hL⟩ | ⟨hSb,hSp⟩
  ·obtain ⟨m,rfl⟩:∃ m',m=m'+1:=⟨m - 1,by omega⟩
   obtain ⟨q,h1,h2,h3,h4,h5,rfl⟩:=hL
   have hal:=(List.getElem?_eq_some_iff.1 h1).1
   have hOk:okN q:=(hO.sub (S':=S) (fun x hx=>List.mem_cons_of_mem _ hx) (by simp)).okN h2 h5 (by rw [h4.length_eq]; exact Nat.le_refl _)
   have hl:=hO.l
   have hxa:∀ x∈F,x≠a:=fun x hx e=>by
    subst e
    have:=hF.nodup
    simp at this
    exact this.1.1 hx
   have hql:=h4.length_eq
   have hpm:(q.l ++ [r]).Perm (r::S):=(List.perm_append_singleton _ _).trans (h4.cons r)
   have hF1:Fit ⟨s.A.set a { q with many:=q.many+1,l:=q.l ++ [r],full:=false },s.fr⟩ [a] F:=hF.to (by simp) (List.Perm.refl _)
   have hS1:Same F s ⟨s.A.set a { q with many:=q.many+1,l:=q.l ++ [r],full:=false },s.fr⟩:=fun x hx=>List.getElem?_set_ne (Ne.symm (hxa x hx))
   by_cases hov:b<(q.l ++ [r]).length
   ·have hO2:Ok (n+1) c (q.l ++ [r]):=hO.sub (fun x hx=>hpm.mem_iff.1 hx) (by rw [hpm.length_eq]; exact Nat.le_refl _)
    obtain ⟨s',I',p1,p2,p3,p4⟩:=part_ok hP f a c (q.l ++ [r]) F ⟨s.A.set a { q with many:=q.many+1,l:=q.l ++ [r],full:=false },s.fr⟩ (by omega) (by omega) hO2 (List.getElem?_set_self hal) h2 rfl (by simp [h5,hql]) hF1 hc
    refine ⟨s',I',?_,.inr ⟨by rw [← hpm.length_eq]; exact hov,p2.congr (fun _ _=>rfl) hpm fun a c S S' I' hI hS h=>h.congr (fun _ _=>rfl) hS⟩,p3,hS1.trans p4⟩
    unfold qgW
    simp only [h1]
    rw [if_neg (fun e=>e hOk),if_neg (by simp [h3])]
    rw [if_pos ⟨hov,by rw [h2]; omega⟩]
    exact p1
   ·refine ⟨⟨s.A.set a { q with many:=q.many+1,l:=q.l ++ [r],full:=false },s.fr⟩,[a],?_,.inl ⟨by rw [← hpm.length_eq]; omega,_,List.getElem?_set_self hal,h2,h3,hpm,by simp [h5],rfl⟩,hF1,hS1⟩
    unfold qgW
    simp only [h1]
    rw [if_neg (fun e=>e hOk),if_neg (by simp [h3])]
    rw [if_neg (by intro e; exact hov e.1)]
  ·obtain ⟨s',I',p1,p2,p3,p4⟩:=qlX hP f m a c S I F s r (by omega) (by omega) hO hSp hF hc
   exact ⟨s',I',p1,.inr ⟨by simp; omega,p2⟩,p3,p4⟩
end Go.Proofs.YtnconfggojpkcaaGreat
namespace Go.Proofs.YtnconfggojpkcaaGreat
open Go.Shelf Go.RowKit Go.Lib Go.Sort
def sl6_ren:Go.Shelf.Ren:=⟨fun | 6=>149 | 10=>176 | 11=>177 | 12=>178 | 13=>175 | 14=>179 | 24=>201 | 25=>202 | 26=>212 | 27=>213 | 28=>214 | 29=>215 | 30=>216 | 31=>217 | 32=>218 | 33=>219 | 34=>228 | 35=>229 | 36=>230 | 37=>231 | 38=>232 | 39=>236 | n=>n,fun | 20=>20 | 26=>220 | 35=>248 | 0=>0 | 37=>109 | 3=>3 | 41=>244 | 44=>253 | 49=>273 | 51=>108 | 4=>4 | 54=>280 | 53=>279 | 58=>270 | 5=>5 | 9=>9 | 60=>292 | 64=>290 | 66=>298 | 67=>184 | 17=>17 | 32=>245 | 33=>246 | 82=>314 | 12=>12 | 75=>307 | 76=>308 | 77=>309 | 78=>310 | 79=>311 | 80=>312 | n=>n,fun | n=>n⟩
theorem sl6:Go.Proofs.LaysGg.n6 Tryz.prog sl6_ren := {
 mixed:=by kernel_rfl
 f6:=Tryz.func149.trans (congrArg some (by kernel_rfl))
 f10:=Tryz.func176.trans (congrArg some (by kernel_rfl))
 f11:=Tryz.func177.trans (congrArg some (by kernel_rfl))
 f12:=Tryz.func178.trans (congrArg some (by kernel_rfl))
 f13:=Tryz.func175.trans (congrArg some (by kernel_rfl))
 f14:=Tryz.func179.trans (congrArg some (by kernel_rfl))
 f24:=Tryz.func201.trans (congrArg some (by kernel_rfl))
 f25:=Tryz.func202.trans (congrArg some (by kernel_rfl))
 f26:=Tryz.func212.trans (congrArg some (by kernel_rfl))
 f27:=Tryz.func213.trans (congrArg some (by kernel_rfl))
 f28:=Tryz.func214.trans (congrArg some (by kernel_rfl))
 f29:=Tryz.func215.trans (congrArg some (by kernel_rfl))
 f30:=Tryz.func216.trans (congrArg some (by kernel_rfl))
 f31:=Tryz.func217.trans (congrArg some (by kernel_rfl))
 f32:=Tryz.func218.trans (congrArg some (by kernel_rfl))
 f33:=Tryz.func219.trans (congrArg some (by kernel_rfl))
 f34:=Tryz.func228.trans (congrArg some (by kernel_rfl))
 f35:=Tryz.func229.trans (congrArg some (by kernel_rfl))
 f36:=Tryz.func230.trans (congrArg some (by kernel_rfl))
 f37:=Tryz.func231.trans (congrArg some (by kernel_rfl))
 f38:=Tryz.func232.trans (congrArg some (by kernel_rfl))
 f39:=Tryz.func236.trans (congrArg some (by kernel_rfl))
 t0:=Tryz.underlying0
 a0:=Tryz.isAgg0
 z0:=Tryz.sizeOf0
 v0:=Tryz.zeroValue0
 i0:=by kernel_rfl
 t3:=Tryz.underlying3
 a3:=Tryz.isAgg3
 z3:=Tryz.sizeOf3
 v3:=Tryz.zeroValue3
 i3:=by kernel_rfl
 t4:=Tryz.underlying4
 a4:=Tryz.isAgg4
 z4:=Tryz.sizeOf4
 v4:=Tryz.zeroValue4
 i4:=by kernel_rfl
 t5:=Tryz.underlying5
 a5:=Tryz.isAgg5
 z5:=Tryz.sizeOf5
 v5:=Tryz.zeroValue5
 i5:=by kernel_rfl
 t9:=Tryz.underlying9
 a9:=Tryz.isAgg9
 z9:=Tryz.sizeOf9
 v9:=Tryz.zeroValue9
 i9:=by kernel_rfl
 t12:=Tryz.underlying12
 a12:=Tryz.isAgg12
 z12:=Tryz.sizeOf12
 v12:=Tryz.zeroValue12
 i12:=by kernel_rfl
 t17:=Tryz.underlying17
 a17:=Tryz.isAgg17
 z17:=Tryz.sizeOf17
 v17:=Tryz.zeroValue17
 i17:=by kernel_rfl
 t20:=Tryz.underlying20
 a20:=Tryz.isAgg20
 z20:=Tryz.sizeOf20
 v20:=Tryz.zeroValue20
 i20:=by kernel_rfl
 t26:=Tryz.underlying220
 a26:=Tryz.isAgg220
 z26:=Tryz.sizeOf220
 v26:=Tryz.zeroValue220
 i26:=by kernel_rfl
 t32:=Tryz.underlying245
 a32:=Tryz.isAgg245
 z32:=Tryz.sizeOf245
 v32:=Tryz.zeroValue245
 i32:=by kernel_rfl
 t33:=Tryz.underlying246
 a33:=Tryz.isAgg246
 z33:=Tryz.sizeOf246
 v33:=Tryz.zeroValue246
 i33:=by kernel_rfl
 t35:=Tryz.underlying248
 a35:=Tryz.isAgg248
 z35:=Tryz.sizeOf248
 v35:=Tryz.zeroValue248
 i35:=by kernel_rfl
 t37:=Tryz.underlying109
 a37:=Tryz.isAgg109
 z37:=Tryz.sizeOf109
 v37:=Tryz.zeroValue109
 i37:=by kernel_rfl
 t41:=Tryz.underlying244
 a41:=Tryz.isAgg244
 z41:=Tryz.sizeOf244
 v41:=Tryz.zeroValue244
 i41:=by kernel_rfl
 t44:=Tryz.underlying253
 a44:=Tryz.isAgg253
 z44:=Tryz.sizeOf253
 v44:=Tryz.zeroValue253
 i44:=by kernel_rfl
 t49:=Tryz.underlying273
 a49:=Tryz.isAgg273
 z49:=Tryz.sizeOf273
 v49:=Tryz.zeroValue273
 i49:=by kernel_rfl
 t51:=Tryz.underlying108
 a51:=Tryz.isAgg108
 z51:=Tryz.sizeOf108
 v51:=Tryz.zeroValue108
 i51:=by kernel_rfl
 t53:=Tryz.underlying279
 a53:=Tryz.isAgg279
 z53:=Tryz.sizeOf279
 v53:=Tryz.zeroValue279
 i53:=by kernel_rfl
 t54:=Tryz.underlying280
 a54:=Tryz.isAgg280
 z54:=Tryz.sizeOf280
 v54:=Tryz.zeroValue280
 i54:=by kernel_rfl
 t58:=Tryz.underlying270
 a58:=Tryz.isAgg270
 z58:=Tryz.sizeOf270
 v58:=Tryz.zeroValue270
 i58:=by kernel_rfl
 t60:=Tryz.underlying292
 a60:=Tryz.isAgg292
 z60:=Tryz.sizeOf292
 v60:=Tryz.zeroValue292
 i60:=by kernel_rfl
 t64:=Tryz.underlying290
 a64:=Tryz.isAgg290
 z64:=Tryz.sizeOf290
 v64:=Tryz.zeroValue290
 i64:=by kernel_rfl
 t66:=Tryz.underlying298
 a66:=Tryz.isAgg298
 z66:=Tryz.sizeOf298
 v66:=Tryz.zeroValue298
 i66:=by kernel_rfl
 t67:=Tryz.underlying184
 a67:=Tryz.isAgg184
 z67:=Tryz.sizeOf184
 v67:=Tryz.zeroValue184
 i67:=by kernel_rfl
 t75:=Tryz.underlying307
 a75:=Tryz.isAgg307
 z75:=Tryz.sizeOf307
 v75:=Tryz.zeroValue307
 i75:=by kernel_rfl
 t76:=Tryz.underlying308
 a76:=Tryz.isAgg308
 z76:=Tryz.sizeOf308
 v76:=Tryz.zeroValue308
 i76:=by kernel_rfl
 t77:=Tryz.underlying309
 a77:=Tryz.isAgg309
 z77:=Tryz.sizeOf309
 v77:=Tryz.zeroValue309
 i77:=by kernel_rfl
 t78:=Tryz.underlying310
 a78:=Tryz.isAgg310
 z78:=Tryz.sizeOf310
 v78:=Tryz.zeroValue310
 i78:=by kernel_rfl
 t79:=Tryz.underlying311
 a79:=Tryz.isAgg311
 z79:=Tryz.sizeOf311
 v79:=Tryz.zeroValue311
 i79:=by kernel_rfl
 t80:=Tryz.underlying312
 a80:=Tryz.isAgg312
 z80:=Tryz.sizeOf312
 v80:=Tryz.zeroValue312
 i80:=by kernel_rfl
 t82:=Tryz.underlying314
 a82:=Tryz.isAgg314
 z82:=Tryz.sizeOf314
 v82:=Tryz.zeroValue314
 i82:=by kernel_rfl }
namespace AM
theorem qj1 {α β:Type} {enc:α→List β} {k:Nat} (hk:∀ x,(enc x).length=k):∀ {ys:List α} {q m:Nat} (hq:q<ys.length),m<k→(ys.flatMap enc)[q*k+m]? = (enc ys[q])[m]?
 | [],_,_,hq,_=>by simp at hq
 | y::ys,0,m,_,hm=>by
  rw [List.flatMap_cons,Nat.zero_mul,Nat.zero_add,List.getElem?_append_left (by rw [hk]; exact hm)]
  rfl
 | y::ys,q+1,m,hq,hm=>by
  rw [List.flatMap_cons,List.getElem?_append_right (by rw [hk,Nat.succ_mul]; omega),hk]
  have:(q+1)*k+m - k=q*k+m:=by rw [Nat.succ_mul]; omega
  rw [this,qj1 hk (by simpa using hq) hm]
  rfl
theorem qev {α:Type} [Inhabited α] {enc:α→List Value} {k:Nat} (hk:∀ x,(enc x).length=k) (hk0:0<k) (ys:List α):(flatK enc k ys.toArray).toList=ys.flatMap enc:=by
 have hl:(ys.flatMap enc).length=ys.length*k:=by
  induction ys with
  | nil=>simp
  | cons y ys ih=>rw [List.flatMap_cons,List.length_append,hk,ih,List.length_cons,Nat.succ_mul,Nat.add_comm]
 apply List.ext_getElem?
 intro j
 by_cases hj:j<ys.length*k
 ·have h1:(flatK enc k ys.toArray).toList[j]? = some (enc ys.toArray[j/k]!)[j%k]! := by
   have:=get_flatK enc k ys.toArray j (by simpa using hj)
   rw [Array.getElem?_toList,← this]
   rw [Array.getElem?_eq_getElem (by simpa using hj),getElem!_pos _ j (by simpa using hj)]
  rw [h1]
  have hq:j/k<ys.length:=Nat.div_lt_of_lt_mul (by rw [Nat.mul_comm]; exact hj)
  have hm:j%k<k:=Nat.mod_lt _ hk0
  have h2:=AM.qj1 hk hq hm
  rw [show j/k*k+j%k=j by rw [Nat.mul_comm]; exact Nat.div_add_mod j k] at h2
  rw [h2]
  have e1:ys.toArray[j/k]! = ys[j/k]:=by rw [getElem!_pos ys.toArray (j/k) (by simpa using hq)]; simp
  rw [e1,getElem!_pos _ (j%k) (by rw [hk]; exact hm),List.getElem?_eq_getElem (by rw [hk]; exact hm)]
 ·rw [List.getElem?_eq_none (by simp; omega),List.getElem?_eq_none (by rw [hl]; omega)]
end AM
end Go.Proofs.YtnconfggojpkcaaGreat
namespace Go.Proofs.YtnconfggojpkcaaGreat
open Go.Shelf Go.RowKit Go.Lib Go.Sort
noncomputable def prT:TypeInfo:=(Tryz.prog.info? 33).get (by kernel_rfl)
noncomputable def prE:TypeInfo:=(Tryz.prog.info? 55).get (by kernel_rfl)
theorem prK (n:Nat):Lib.swapperK n prE 25=if n=0 then 1 else if n=1 then 2 else 9:=by
 have a:prE.hasPointers=false:=by kernel_rfl
 have b:prE.bytes=32:=by kernel_rfl
 by_cases h0:n=0
 ·subst h0; simp [Lib.swapperK]
 by_cases h1:n=1
 ·subst h1; simp [Lib.swapperK]
 have c:(n==0)=false:=by simpa using h0
 have d:(n==1)=false:=by simpa using h1
 simp [Lib.swapperK,a,b,c,d,h0,h1]
theorem lessRecs (blk off c Bs size:Nat) (W:World) (G:Nat→Int) (hs:W.cell? ⟨Bs,0,none⟩=some (.slice (some ⟨blk,off,none⟩) size c))
  (hc:∀ t,t<size→W.cell? ⟨blk,off+t*4,none⟩=some (.int .i64 (G t))) (i j:Nat) (hi:i<size) (hj:j<size) (_hsz:size<4611686018427387904) :
  Calls Tryz.prog 150 #[.int .i64 i,.int .i64 j,.pointer (some ⟨Bs,0,none⟩)] W fun e w'=>e = .returned (.bool (decide (G i<G j)))∧∃ q,w'=W.drewN q:=by
 have ci:=hc i hi
 have cj:=hc j hj
 go_enter Tryz.func150,Tryz.ntmps150
 go_wp2
 go_quiet (fail)
 go_wp2
 go_ret
 exact ⟨rfl,nq,rfl⟩
def qcf (s:Pr):List Value := [.int .i64 s.id,.int .i64 s.at_.x,.int .i64 s.at_.y,.int .i64 s.lab]
def ltP (a b:Pr):Bool:=decide (a.id<b.id)
theorem swoP:SWO ltP where
 irrefl x:=by simp [ltP]
 trans x y z h1 h2:=by simp [ltP] at *; omega
 ntrans x y z h1 h2:=by simp [ltP] at *; omega
def qgg (zs ys:List Pr):Prop:=ys.Perm zs∧ys.Pairwise fun p q=>p.id≤q.id
theorem shortP:∀ {zs:List Pr},zs.length≤1→zs.Pairwise fun p q=>p.id≤q.id
 | [],_=>List.Pairwise.nil
 | [a],_=>List.pairwise_singleton _ _
 | _::_::_,h=>by simp at h
theorem qoS:AM.SortsIn Tryz.prog 149 33 150 55 4 qcf qgg:=by
 refine ⟨?_,fun Bs w => ?_⟩
 rotate_left
 ·have hS:=Any.sort_Slice_tiny { sl6 with } 33 55 prT prE (by kernel_rfl) (by kernel_rfl) (by kernel_rfl) (by kernel_rfl) 25 (fun _=>by kernel_rfl) .none 0 0 (by decide) 203 (by rw [prK]; kernel_rfl) (.func 150) #[] #[.pointer (some ⟨Bs,0,.none⟩)] w
  refine Calls.mono (show Calls Tryz.prog 149 _ _ _ from hS) fun e w' he => ?_
  obtain ⟨rfl,os,rfl⟩:=he
  exact ⟨rfl,⟨List.Perm.refl _,List.Pairwise.nil⟩,AM.below_grow⟩
 ·intro Bs blk cap zs w hsz hc hne hrow
  rcases hrow.2 with ⟨h,_⟩ | ⟨g',cap',cur,hv,_,hb,h1,h2,h3,h4⟩
  ·cases h
  cases hv
  have hk:∀ x:Pr,(qcf x).length=4:=fun _=>rfl
  have hfl:∀ ys:List Pr,(flatK qcf 4 ys.toArray).toList=ys.flatMap qcf:=fun ys=>AM.qev hk (by decide) ys
  have hfs:∀ ys:List Pr,(flatK qcf 4 ys.toArray)=(ys.flatMap qcf).toArray:=fun ys=>by rw [← hfl]
  have hfn:∀ ys:List Pr,(ys.flatMap qcf).length=ys.length*4:=fun ys=>by rw [← hfl]; simp
  have hblk:blk<w.heap.size:=(Array.getElem?_eq_some_iff.1 hb).1
  by_cases h0:zs.length≤1
  ·have hS:=Any.sort_Slice_tiny { sl6 with } 33 55 prT prE (by kernel_rfl) (by kernel_rfl) (by kernel_rfl) (by kernel_rfl) 25 (fun _=>by kernel_rfl) (some ⟨blk,0,.none⟩) zs.length cap h0 (if zs.length=0 then 203 else 204)
    (by
     rw [prK]
     rcases (show zs.length=0∨zs.length=1 by omega) with h | h <;> rw [h] <;> kernel_rfl) (.func 150) #[] #[.pointer (some ⟨Bs,0,.none⟩)] w
   refine Calls.mono (show Calls Tryz.prog 149 _ _ _ from hS) fun e w' he => ?_
   obtain ⟨rfl,os,rfl⟩:=he
   refine ⟨rfl,zs,⟨List.Perm.refl _,?_⟩,rfl,?_⟩
   ·exact shortP h0
   ·exact ⟨rfl,rfl,rfl,by simp,fun k hne hk=>heap_grow_old _ _ hk,by rw [hfn],.inr ⟨blk,cap,cur,rfl,Nat.zero_le _,(heap_grow_old _ _ hblk).trans hb,h1,h2,h3,h4⟩⟩
  ·have hBs:Bs<w.heap.size:=World.block_lt_of_cell? w ⟨Bs,0,.none⟩ hc
   have hH:HoldsK qcf 4 w blk 0 zs.toArray:=by
    unfold HoldsK
    rw [hfs]
    exact AM.WO (enc:=id) (ss:=zs.flatMap qcf) hb (by rw [hfn,h4]; simp)
   have hless:LessReadsK Tryz.prog 150 #[.pointer (some ⟨Bs,0,.none⟩)] qcf 4 ltP blk 0 zs.toArray.size w:=by
    intro m os dk hs i j hi hj
    have e:sortWorldK qcf 4 w blk 0 m dk os=putRowK qcf 4 (grow (Sort.ahead w m) os) blk 0 dk:=by
     unfold sortWorldK; rw [putRowK_grow _ _ (Sort.ahead w m) _ blk 0 _ hblk]
    have hHg:HoldsK qcf 4 (grow (Sort.ahead w m) os) blk 0 zs.toArray:=holdsK_grow _ _ _ _ blk 0 _ hblk (holdsK_ahead _ _ _ _ _ _ _ hH)
    refine lessRecs blk 0 cap Bs zs.toArray.size _ (fun t=>dk[t]!.id) ?_ (fun t ht => ?_) i j hi hj (by simpa using hsz)
    ·rw [e,cell?_putRowK_other _ _ _ blk 0 dk _ (by exact hne),cell?_grow _ _ _ (by exact hBs)]
     simpa using hc
    ·rw [e]
     have:=((holdsK_putRowK _ _ _ blk 0 zs.toArray dk hHg hs).cell (i:=t) (c:=0) (by omega) (by omega)).1
     simpa [qcf] using this
   have hS:=Any.sort_Slice_cells_sorted sl6 33 55 prT prE (by kernel_rfl) (by kernel_rfl) (by kernel_rfl) (by kernel_rfl) 25 (fun _=>by kernel_rfl) qcf 4 hk (by kernel_rfl) (fun _=>by kernel_rfl)
    (fun x v hv=>by simp [qcf] at hv; rcases hv with rfl | rfl | rfl | rfl <;> rfl) ltP swoP 150 _
    (enters_of Tryz.func150 (by kernel_rfl) rfl) blk 0 cap zs.toArray (by simp; omega) (by simpa using hsz) 211 (by
     rw [prK,if_neg (by rw [List.size_toArray]; omega),if_neg (by rw [List.size_toArray]; omega)]; kernel_rfl) false
    (fun args W=>run_callFunc_extern Tryz.func211 (by kernel_rfl) (by kernel_rfl) (by kernel_rfl) (e:=Extern.ReflectliteSwapper.swap false) (by kernel_rfl) args W) w hless hH hblk
   refine Calls.mono (show Calls Tryz.prog 149 _ _ _ from hS) fun e w' he => ?_
   obtain ⟨rfl,d',n,os,hp,hso,rfl⟩:=he
   obtain ⟨hp1,_,hp3⟩:=hp
   have e1:d'.extract 0 zs.toArray.size=d':=by rw [← hp1]; simp
   have e2:zs.toArray.extract 0 zs.toArray.size=zs.toArray:=by simp
   rw [e1,e2] at hp3
   have hperm:d'.toList.Perm zs:=hp3
   have hl:d'.toList.length=zs.length:=hperm.length_eq
   refine ⟨rfl,d'.toList,⟨hperm,?_⟩,hl,?_⟩
   ·rw [List.pairwise_iff_getElem]
    intro i j hi hj hij
    have hj':j<d'.size:=by simpa using hj
    have hi':i<d'.size:=by omega
    have hjz:j<zs.toArray.size:=by rw [← hp1]; exact hj'
    have:=hso i j (Nat.zero_le _) hij hjz
    rw [getElem!_pos d' i hi',getElem!_pos d' j hj'] at this
    simp only [ltP,decide_eq_false_iff_not,Int.not_lt] at this
    simpa using this
   ·unfold putRowK
    have e3:flatK qcf 4 d'=(d'.toList.flatMap qcf).toArray:=hfs d'.toList
    rw [e3]
    have hh:=AM.heap_put (enc:=id) (n:=n) (os:=os) (d'.toList.flatMap qcf).toArray hb
    have ht:=AM.qfI (enc:=id) cur (d'.toList.flatMap qcf) (by rw [hfn,hl,h3]; exact Nat.mul_le_mul_right 4 h1)
    rw [hfn] at ht
    refine ⟨rfl,rfl,rfl,by simp,fun k hne hk => ?_,by rw [hfn,hl],.inr ⟨blk,cap,_,rfl,Nat.zero_le _,hh,h1,h2,by simp [putCells,h3],by rw [← hl,ht]; simp⟩⟩
    rw [heap_grow_old _ _ (by simpa using hk)]
    simp [putRow,mapBlock,Sort.ahead,Array.getElem?_modify,Ne.symm hne]
end Go.Proofs.YtnconfggojpkcaaGreat
namespace Go.Proofs.YtnconfggojpkcaaGreat
open Go.RowKit Go.ChangeShapes Go.WideShapes AM
section
variable {H:Type} {enc:TypeId×Value→H} {w:World} {base:Nat} {held:Bool} {r:Reach} {b0:Nat} {v:Value} {d:DataW H} {p:List MemPlace}
namespace Pr
def vals (a:Pr):List Value := [.int .i64 a.id,.int .i64 a.at_.x,.int .i64 a.at_.y,.int .i64 a.lab]
end Pr
theorem qaT:VT Tryz.prog 6 55=some [.int .i64,.int .i64,.int .i64,.int .i64]:=by kernel_rfl
theorem Yx {cs:List Value} (h:Leaf.all [.int .i64,.int .i64,.int .i64,.int .i64] cs):∃ x:Pr,x.vals=cs:=by
 obtain ⟨a,_,rfl,_,h⟩:=Leaf.vB h
 obtain ⟨b,_,rfl,_,h⟩:=Leaf.vB h
 obtain ⟨c,_,rfl,_,h⟩:=Leaf.vB h
 obtain ⟨g,_,rfl,_,h⟩:=Leaf.vB h
 obtain rfl:=Leaf.all_nil h
 exact ⟨⟨a,⟨b,c⟩,g⟩,rfl⟩
end
end Go.Proofs.YtnconfggojpkcaaGreat
namespace Go.Proofs.YtnconfggojpkcaaGreat
open Go.RowKit AM
attribute [local simp] zQ qU jL zT zq zR zS zo jM zu qV Z8 Qm jC Ql yc ZE vZ slF qG Qo zK yx zA shares jh yt ze Qz QI qY ZF qZ qM vX zH yu Qe qL zD zG vU slV jE jG yE zU ZJ jB jF aMM aUn Qp vW jD zC jA qJ vV Qu vY vS Zw y9 qK Qs ZK zJ zI jH jR ZH eval zZ AM.valOf qm vO yR del SV.refers zY vQ jU shift ldV V.exact V.jg V.ofValue V.vP V.vL V.cells V.one Value.oneCell' ZI QY jV Q5 ZM ZC Qa Zy jl jI Qi ZL y8 yX Qr calm Qt Zn Qk feeds shrinks Qx looks isT Qf vK Qd putAt jT jc Zm sliceB isEq Qg zk qH zO zn qR zl zm qQ zP zi qP ZW Qw yB Zl QZ inO y7 Zi Mix.vT Mix.Qc QB QX qz qj qW zh qO ZV Qq yg yh ZG Zb yw yO Q8 jW V.fixed V.vC
attribute [local simp] vE je yL vH jQ vF vG jP yM vk jN V5 Ja yF QT Jb z0 JL VK Vo VU
theorem qnZ {H:List Bk} {r b nb mb cap:Nat} {s:Ar} {es:List Pr} (h:TrA H r b nb mb cap s es):AFn Tryz.prog 85 [.ptr r 0] H fun y H'=>y = .sc (.bool (decide (0<s.A.length)))∧H'=H:=by
 have hr:=h.cr
 unfold trC at hr
 refine vwc (fn:=Tryz.f85) rfl (vwb ?_)
 simp only [Tryz.f85,ql]
 simp [hr]
def kidY (n a:Nat) (lvl:Int) (p:Pt) (ys:List V):Prop:=∃ u0 u2 u3 cs tl,(cs.drop (a*10)).take 10 = .sc (.int .i64 lvl)::tl∧ys = [.rd [u0,.sl n 10 cs,u2,u3],.sc (.int .i64 a),p.v]
theorem wkidP {n a:Nat} {lvl:Int} {p:Pt} (hl:0≤lvl∧lvl≤100) (ha:a<n) (ys:List V) (hy:kidY n a lvl p ys):PFn Tryz.prog 138 ys (.sc (.int .i64 (qkZ p lvl))):=by
 obtain ⟨u0,u2,u3,cs,tl,h1,rfl⟩:=hy
 have hO:=cOf p (lvl+1)
 have hw:IntKind.i64.wrap (lvl+1)=lvl+1:=by rw [wrap_i64] <;> omega
 have hn:=ofR_nn p (lvl+1)
 unfold Pt.v Pt.cs at hO ⊢
 unfold qkZ
 generalize ofR p (lvl+1)=u at *
 obtain ⟨c,ok⟩:=u
 unfold Ce.v Ce.cs at hO
 refine vwc (fn:=Tryz.f138) rfl ?_
 simp only [Tryz.f138,ql]
 refine AW.seq (vwb ?_)
 simp
 have hrow:AM.rowAt 10 cs (a:Int) = .sc (.int .i64 lvl)::tl:=by
  unfold AM.rowAt
  simpa using h1
 refine AW.seq (AW.off [] [(1,15,17,[5,0,1])] mixed (by kernel_rfl) ?_)
 simp [jq,zx,jX,jw,zN,jr,jv,zM,jY,flK,yK,zL,zw,QC,ha,hw,hrow]
 have e1:Int.tmod c.x 2=c.x%2:=Int.tmod_eq_emod_of_nonneg hn.1
 have e2:Int.tmod c.y 2=c.y%2:=Int.tmod_eq_emod_of_nonneg hn.2
 have w1:IntKind.i64.wrap (c.x%2)=c.x%2:=by rw [wrap_i64] <;> omega
 have w2:IntKind.i64.wrap (c.y%2)=c.y%2:=by rw [wrap_i64] <;> omega
 have w3:IntKind.i64.wrap (c.y%2*2)=c.y%2*2:=by rw [wrap_i64] <;> omega
 have w4:IntKind.i64.wrap (c.x%2+c.y%2*2)=c.x%2+c.y%2*2:=by rw [wrap_i64] <;> omega
 have kp:∀ x y:Bk,Xi [x] [x,y]:=fun x y=>of_eq_true (Z4 (H := [x]) (L := [y]))
 refine ⟨qc.pure hO rfl rfl ?_,kp _ _,qc.pure hO rfl rfl ?_⟩
 all_goals
  simp [jq,zx,jX,jw,zN,jr,jv,zM,jY,flK,yK,zL,zw,QC,kp,setCells,qo]
  refine vwb ?_
  simp [KH,e1,e2,w1,w2,w3,w4]
theorem kid_view {H:List Bk} {r b nb mb cap:Nat} {s:Ar} {es:List Pr} {a:Nat} {q:Qn} {p:Pt} (h:TrA H r b nb mb cap s es) (hq:s.A[a]? = some q):qoJ H [.ptr r 0,.sc (.int .i64 a),p.v] (kidY s.A.length a q.c.l p):=by
 intro c w vs hi hr
 have hal:=(List.getElem?_eq_some_iff.1 hq).1
 have hle:=h.le
 have hcr:=h.cr
 unfold trC at hcr
 cases hr with
 | cons h1 h2 =>
 cases h1 with
 | @ptr _ _ B hB =>
 obtain ⟨_,_,arr,e,g1,g2,g6,g3⟩:=hi.blk r B _ hB hcr
 have h4:arr.size=4:=by rw [g2]; rfl
 have f1:=g3 1 _ _ rfl (Array.getElem?_eq_getElem (by omega))
 have hs:Rel c.I c.φ (.slb nb 0 s.A.length cap) (arr[1]'(by omega)):=f1.2
 rcases qjy hs with ⟨Bn,hn,hv1,q1,q2⟩ | ⟨_,_,_,_⟩
 rotate_left
 ·omega
 obtain ⟨_,_,arr2,e2,k1,k2,k6,k3⟩:=hi.blk nb Bn _ hn (h.cn (by omega))
 have hlen2:s.A.length*10≤arr2.size:=by rw [k2,qdA]; omega
 let us:=arr2.toList.take (s.A.length*10)
 have hul:us.length=s.A.length*10:=by simp [us]; omega
 have huget:∀ (j:Nat) (u:Value),us[j]? = some u→arr2[j]? = some u:=fun j u hu=>by
  simp only [us,List.getElem?_take] at hu
  split at hu
  ·simpa using hu
  ·cases hu
 have hcell:∀ (j:Nat) (u:Value),us[j]? = some u→w.cell? ⟨Bn,0+j,none⟩=some u:=fun j u hu=>by
  rw [Nat.zero_add]
  simp [World.cell?,k1,huget j u hu]
 have hfirst:us[a*10]? = some (.int .i64 q.c.l):=by
  have hj:a*10<us.length:=by omega
  have hg:=List.getElem?_eq_getElem hj
  have hx:=qoD hq ((cap - s.A.length)*10) 0 (by omega)
  rw [Nat.add_zero] at hx
  have:=(k3 (a*10) _ _ hx (huget _ _ hg)).2
  have:Rel c.I c.φ (.sc (.int .i64 q.c.l)) (us[a*10]):=this
  rw [hg,Rel.exact this rfl]
 let ar:List Value:=arr.toList
 have har:∀ j (hj:j<4),ar[j]? = some (arr[j]'(by omega)):=fun j hj=>by simp [ar,h4,hj]
 refine ⟨[.rd [.sc (arr[0]'(by omega)),.sl s.A.length 10 (us.map .sc),.sc (arr[2]'(by omega)),.sc (arr[3]'(by omega))],.sc (.int .i64 a),p.v],?_,?_⟩
 ·refine ⟨_,_,_,_,((us.map V.sc).drop (a*10+1)).take 9,?_,rfl⟩
  have hj:a*10<(us.map V.sc).length:=by simp; omega
  rw [List.drop_eq_getElem_cons hj,List.take_succ_cons]
  congr 1
  have:(us.map V.sc)[a*10]? = some (.sc (.int .i64 q.c.l)):=by rw [List.getElem?_map,hfirst]; rfl
  rw [List.getElem?_eq_getElem hj] at this
  exact Option.some.inj this
 ·refine .cons (.rd (vs := [arr[0]'(by omega),arr[1]'(by omega),arr[2]'(by omega),arr[3]'(by omega)]) (.cons (.sc _) (.cons ?_ (.cons (.sc _) (.cons (.sc _) .nil)))) (fun j u hu => ?_) (fun u hu => ?_)) (vM.closed (vM.mono hi.imm (fun _ _ h=>h) h2) rfl)
  ·rw [hv1]
   refine .sl (qaP (fun v => .sc v) us) hcell (by simp [hul]) q1 q2 fun u hu=>k6 u (List.mem_of_mem_take hu)
  ·have hj:j<4:=by simpa using (List.getElem?_eq_some_iff.1 hu).1
   have:arr[j]? = some u:=by
    rcases (show j=0∨j=1∨j=2∨j=3 by omega) with rfl | rfl | rfl | rfl <;> (simp at hu; rw [← hu]; simp [h4])
   simp [World.cell?,g1,this]
  ·simp at hu
   rcases hu with rfl | rfl | rfl | rfl <;> exact g6 _ (by simp)
theorem wkid {H:List Bk} {r b nb mb cap:Nat} {s:Ar} {es:List Pr} {a:Nat} {q:Qn} {p:Pt} (h:TrA H r b nb mb cap s es) (hq:s.A[a]? = some q) (hc:yj q.c=true):qoF Tryz.prog 138 (kidY s.A.length a q.c.l p) (.sc (.int .i64 (qa1 p q.c.l))):=by
 have hal:=(List.getElem?_eq_some_iff.1 hq).1
 have hl:=yI.1 hc
 rw [qov]
 refine ⟨⟨_,Tryz.func138,rfl,by kernel_rfl⟩,fun ys hy=>wkidP (by omega) hal ys hy⟩
theorem snoc_of {α:Type} {l:List α} {x:α} (h:l.getLast? = some x):∃ l0,l=l0 ++ [x]:=by
 rcases List.eq_nil_or_concat l with rfl | ⟨l0,y,rfl⟩
 ·simp at h
 ·simp at h
  exact ⟨l0,by rw [h]; simp⟩
theorem qh1 {α:Type} (l:List α) (x:α):(l ++ [x]).length=l.length+1:=by simp
theorem frS_snoc (l:List Nat) (x:Nat):frS (l ++ [x])=frS l ++ [.sc (.int .i64 x)]:=by simp [frS]
theorem qoy (l:List Nat):(frS l).length=l.length:=by simp [frS]
def nd0 (c:Ce):List SV := [.v (.sc (.int .i64 c.l)),.v (.sc (.int .i64 c.x)),.v (.sc (.int .i64 c.y)),.v (.sc (.int .i64 (-1))),.v (.sc (.int .i64 (-1))),.v (.sc (.int .i64 (-1))),.v (.sc (.int .i64 (-1))),.v (.sc (.int .i64 0)),.v (.sc (.bool false)),.v .nil]
theorem wleaf {H:List Bk} {r b nb mb cap:Nat} {s s':Ar} {es:List Pr} {c:Ce} {a:Nat} (h:TrA H r b nb mb cap s es) (hl:qcq s c=some (s',a)) :
  AFn Tryz.prog 87 [.ptr r 0,c.v] H fun y H'=>y = .sc (.int .i64 a)∧∃ nb' cap',TrA H' r b nb' mb cap' s' es∧Stp r nb H H' nb':=by
 unfold Ce.v Ce.cs
 have hr:=h.cr
 unfold trC at hr
 have hr':=fun L=>hget (L:=L) hr
 refine vwc (fn:=Tryz.f87) rfl ?_
 simp only [Tryz.f87,ql]
 refine AW.seq (vwb ?_)
 simp
 refine AW.seq (vwb ?_)
 simp [XC]
 have hT:=h.app (L := [Bk.cells [.v (.sc (.int .i64 c.l)),.v (.sc (.int .i64 c.x)),.v (.sc (.int .i64 c.y))],Bk.cells (nd0 c)])
 have hN:(H ++ [Bk.cells [.v (.sc (.int .i64 c.l)),.v (.sc (.int .i64 c.x)),.v (.sc (.int .i64 c.y))],Bk.cells (nd0 c)])[H.length+1]? = some (.cells (nd0 c)):=by simp
 have hS:Stp r nb H (H ++ [Bk.cells [.v (.sc (.int .i64 c.l)),.v (.sc (.int .i64 c.x)),.v (.sc (.int .i64 c.y))],Bk.cells (nd0 c)]) nb:=Stp.refl.app
 have hor:r<H.length+1:=by have:=h.rl; omega
 have hon:cap≠0→nb<H.length+1:=fun hc=>by have:=(List.getElem?_eq_some_iff.1 (h.cn hc)).1; omega
 unfold nd0 at hT hN hS
 refine AW.sub [(0,.v (.ptr r 0)),(5,.v (.ptr (H.length+1) 0))] (by simp [qbh,qm]) ?_
 generalize H ++ [_,_]=H2 at *
 generalize H.length+1=o at *
 clear hr hr'
 have hr:=hT.cr
 unfold trC at hr
 have hle:=hT.le
 cases hfr:s.fr.getLast? with
 | some a0 =>
  obtain ⟨fr0,hf⟩:∃ fr0,s.fr=fr0 ++ [a0]:=snoc_of hfr
  unfold qcq at hl
  rw [hfr] at hl
  simp only at hl
  split at hl
  rotate_left
  ·cases hl
  rename_i hb
  simp only [Option.some.injEq,Prod.mk.injEq] at hl
  obtain ⟨rfl,rfl⟩:=hl
  obtain ⟨ha,hbig⟩:=hb
  have hcap:cap≠0:=by omega
  have hn:=hT.cn hcap
  have hrn:=hT.rn hcap
  rw [hf] at hr hbig
  rw [frS_snoc,qh1] at hr
  rw [qh1] at hbig
  unfold big at hbig
  have w1:IntKind.i64.wrap (fr0.length:Int)=(fr0.length:Int):=by rw [wrap_i64] <;> omega
  have hlt:(fr0.length:Int)<(fr0.length:Int)+1:=by omega
  have hfd:(frS fr0 ++ [V.sc (.int .i64 (a0:Int))]).drop fr0.length = [.sc (.int .i64 a0)]:=by
   rw [← qoy fr0,List.drop_left]
  have hft:(frS fr0 ++ [V.sc (.int .i64 (a0:Int))]).take fr0.length=frS fr0:=by
   rw [← qoy fr0,List.take_left]
  refine AW.seq (AW.seq (vwb ?_))
  simp [hr,w1]
  refine AW.seq (vwb ?_)
  simp
  refine AW.cond true (by simp) (fun _ => ?_) (fun e=>by cases e)
  refine AW.seq (vwb ?_)
  simp [hr,hlt,hfd]
  have hrl:=(List.getElem?_eq_some_iff.1 hr).1
  have f1:∀ x,qo H2 r 2 x=H2.set r (.cells [.v (.sc (.int .i64 b)),.v (.slb nb 0 s.A.length cap),x,.v (.map mb)]):=fun x=>by rw [zF hr]; rfl
  have f2:∀ x z,qo (H2.set r (.cells [.v (.sc (.int .i64 b)),.v (.slb nb 0 s.A.length cap),x,.v (.map mb)])) r 2 z=H2.set r (.cells [.v (.sc (.int .i64 b)),.v (.slb nb 0 s.A.length cap),z,.v (.map mb)]):=fun x z=>by rw [zF (List.getElem?_set_self hrl),List.set_set]; rfl
  have f3:∀ K,(H2.set r K)[r]? = some K:=fun K=>List.getElem?_set_self hrl
  have f4:∀ K,(H2.set r K)[o]? = some (.cells (nd0 c)):=fun K=>by rw [List.getElem?_set_ne (by omega)]; exact hN
  have f5:∀ K,(H2.set r K)[nb]? = some (.cells (arC s.A ((cap - s.A.length)*10))):=fun K=>by rw [List.getElem?_set_ne hrn]; exact hn
  have hac:=qdA s.A ((cap - s.A.length)*10)
  unfold nd0 at f4
  refine AW.seq (vwb ?_)
  simp [hr,hlt,hft,f1,f2,f3]
  refine ⟨by omega,?_⟩
  refine AW.seq (vwb ?_)
  simp [f3,f4,f5,ha]
  have hW:=fun K=>storeN (H:=H2.set r K) (q:=Wi c) (f5 K) ha ⟨rfl,rfl⟩
  unfold ndV Wi at hW
  refine ⟨by omega,AW.wk (hW _) ?_⟩
  refine AW.seq (vwb ?_)
  simp
  refine vwb ?_
  simp
  refine ⟨nb,⟨cap,?_⟩,((hS.set (.inl rfl)).set (.inr (.inl rfl)))⟩
  have hnl:=(List.getElem?_eq_some_iff.1 hn).1
  refine ⟨?_,fun _ => ?_,?_,by simpa using hle,fun _=>hrn,hT.b0,by simpa using hrl⟩
  ·rw [List.getElem?_set_ne (Ne.symm hrn),f3]
   unfold trC
   rw [hf]
   simp
  ·rw [List.getElem?_set_self (by simpa using hnl)]
   simp [Wi]
  ·rw [List.getElem?_set_ne (hT.nm hcap),List.getElem?_set_ne hT.rm]
   exact hT.cm
 | none =>
  have hf:s.fr = []:=by
   cases h:s.fr with
   | nil=>rfl
   | cons x l=>rw [h] at hfr; simp at hfr
  unfold qcq at hl
  rw [hfr] at hl
  simp only at hl
  split at hl
  rotate_left
  ·cases hl
  rename_i hbig
  simp only [Option.some.injEq,Prod.mk.injEq] at hl
  obtain ⟨rfl,rfl⟩:=hl
  unfold big at hbig
  rw [hf] at hr
  have w1:IntKind.i64.wrap (-1) = -1:=by decide
  refine AW.seq (AW.seq (vwb ?_))
  simp [hr,frS,w1]
  refine AW.seq (vwb ?_)
  simp
  refine AW.cond false (by simp) (fun e=>by cases e) (fun _ => ?_)
  refine vwb ?_
  simp
  refine AW.sub [(0,.v (.ptr r 0)),(5,.v (.ptr o 0))] (by simp [qbh,qm]) ?_
  have hrl:=(List.getElem?_eq_some_iff.1 hr).1
  simp only [frS,List.length_nil,List.map_nil] at hr
  by_cases hcap:cap=0
  ·subst hcap
   have hA:s.A = []:=List.eq_nil_of_length_eq_zero (by omega)
   have g3:∀ k,(H2 ++ [k])[r]? = H2[r]? := fun k=>by rw [List.getElem?_append_left hrl]
   refine AW.seq (vwb ?_)
   simp [hr,hN,g3]
   refine ⟨⟨by omega,by omega⟩,fun cap' hc' => ?_⟩
   simp only [setCells,zF ((g3 _).trans hr)]
   rw [List.set_append_left _ _ hrl]
   have hW:=fun L=>laidN (L:=L) (k:=(cap' - 1)*10) (A := []) (q:=Wi c) ⟨rfl,rfl⟩
   unfold ndV Wi at hW
   simp at hW
   refine AW.wk (hW _) ?_
   have hcr:∀ x,(H2.set r x ++ [Bk.cells (arC [⟨c,-1,-1,-1,-1,0,false,[],true⟩] ((cap' - 1)*10))])[r]? = some x:=fun x=>by rw [List.getElem?_append_left (by simpa using hrl),List.getElem?_set_self hrl]
   refine vwb ?_
   simp [hcr]
   refine ⟨by rw [hA]; decide,H2.length,⟨cap',?_⟩,⟨fun i x hi hx=>hget (((hS.set (k:=_) (.inl rfl)).kp) i x hi hx),by have:=hS.len; simp; omega,.inr hS.len⟩⟩
   refine ⟨?_,fun _ => ?_,?_,by rw [hA]; simpa using hc',fun _=>by simp; omega,hT.b0,by simp; omega⟩
   ·rw [hcr,hA]
    rfl
   ·rw [List.getElem?_append_right (by simp),hA]
    simp [Wi]
   ·rw [List.getElem?_append_left (by have:=(List.getElem?_eq_some_iff.1 hT.cm).1; simpa using this),List.getElem?_set_ne hT.rm]
    exact hT.cm
  ·have hn:=hT.cn hcap
   have hrn:=hT.rn hcap
   have g1:∀ ds,(setCells H2 nb (s.A.length*10) ds)[r]? = H2[r]? := fun ds=>qd1 hrn
   have hnl:=(List.getElem?_eq_some_iff.1 hn).1
   have g2:∀ k,(H2.set nb .dead ++ [k])[r]? = H2[r]? := fun k=>by rw [List.getElem?_append_left (by simpa using hrl),List.getElem?_set_ne (Ne.symm hrn)]
   have hml:=(List.getElem?_eq_some_iff.1 hT.cm).1
   refine AW.seq (vwb ?_)
   simp [hr,hN,hn,g1,g2,hcap]
   have hlen:=qdA s.A ((cap - s.A.length)*10)
   refine ⟨⟨by omega,by omega⟩,by omega,fun hroom => ?_,fun _ cap' hc' => ?_⟩
   ·have e1:∀ (H0:List Bk) ks x,H0[r]? = some (.cells ks)→setCells H0 r 1 [x]=H0.set r (.cells (ks.set 1 (.v x))):=fun H0 ks x h0=>by simp only [setCells,zF h0]
    rw [e1 _ _ _ ((g1 _).trans hr),qjd hrn hn (by simp; omega)]
    have hn2:∀ K,(H2.set r K)[nb]? = some (.cells (arC s.A ((cap - s.A.length)*10))):=fun K=>by rw [List.getElem?_set_ne hrn]; exact hn
    have hW:=fun K=>moreN (H:=H2.set r K) (q:=Wi c) (hn2 K) hroom ⟨rfl,rfl⟩
    unfold ndV Wi at hW
    refine AW.wk (hW _) ?_
    have hcr:∀ x K,((H2.set r x).set nb K)[r]? = some x:=fun x K=>by rw [List.getElem?_set_ne (Ne.symm hrn),List.getElem?_set_self hrl]
    refine vwb ?_
    simp [hcr]
    refine ⟨by rw [wrap_i64] <;> omega,nb,⟨cap,?_⟩,((hS.set (.inl rfl)).set (.inr (.inl rfl)))⟩
    refine ⟨?_,fun _ => ?_,?_,by simpa using hroom,fun _=>hrn,hT.b0,by simpa using hrl⟩
    ·rw [hcr]
     simp [trC,frS]
    ·rw [List.getElem?_set_self (by simpa using hnl)]
     simp [Wi]
    ·rw [List.getElem?_set_ne (hT.nm hcap),List.getElem?_set_ne hT.rm]
     exact hT.cm
   ·have e1:∀ (H0:List Bk) ks x,H0[r]? = some (.cells ks)→setCells H0 r 1 [x]=H0.set r (.cells (ks.set 1 (.v x))):=fun H0 ks x h0=>by simp only [setCells,zF h0]
    rw [e1 _ _ _ ((g2 _).trans hr),List.set_append_left _ _ (by simpa using hrl)]
    have hW:=fun L=>laidN (L:=L) (k:=(cap' - (s.A.length+1))*10) (A:=s.A) (q:=Wi c) ⟨rfl,rfl⟩
    unfold ndV Wi at hW
    simp only [List.map_cons,List.map_nil,List.append_assoc,List.cons_append,List.nil_append] at hW
    rw [qmw]
    refine AW.wk (hW _) ?_
    have hcr:∀ x K,((H2.set nb .dead).set r x ++ [K])[r]? = some x:=fun x K=>by rw [List.getElem?_append_left (by simpa using hrl),List.getElem?_set_self (by simpa using hrl)]
    refine vwb ?_
    simp [hcr]
    refine ⟨by rw [wrap_i64] <;> omega,H2.length,⟨cap',?_⟩,⟨fun i x hi hx=>hget ((((hS.set (k := .dead) (.inr (.inl rfl))).set (k:=_) (.inl rfl)).kp) i x hi hx),by have:=hS.len; simp; omega,.inr hS.len⟩⟩
    refine ⟨?_,fun _ => ?_,?_,by simpa using hc',fun _=>by omega,hT.b0,by simp; omega⟩
    ·rw [hcr]
     simp [trC,frS]
    ·rw [List.getElem?_append_right (by simp)]
     simp [Wi]
    ·rw [List.getElem?_append_left (by simpa using hml),List.getElem?_set_ne hT.rm,List.getElem?_set_ne (hT.nm hcap)]
     exact hT.cm
def AddI (H:List Bk) (r b nb mb cap o:Nat) (rec:Ar→Nat→Pr→Option Ar) (rc:Pr) (s':Ar) (es:List Pr) (n:Nat) (F:Fr) (H1:List Bk):Prop :=
 ∃ (s1:Ar) (a1:Nat),TrA H1 r b nb mb cap s1 es∧qgW b rec n s1 a1 rc=some s'∧H1[o]? = some (prB rc)∧Stp r nb H H1 nb∧o≠nb∧o≠r∧F = [(0,.v (.ptr r 0)),(1,.v (.sc (.int .i64 a1))),(5,.v (.ptr o 0))]
def PartOK (b:Nat) (rec:Ar→Nat→Pr→Option Ar):Prop:=∀ (H:List Bk) (r nb mb cap:Nat) (s s':Ar) (es:List Pr) (a:Nat),TrA H r b nb mb cap s es→qir rec s a=some s' →
 AFn Tryz.prog 139 [.ptr r 0,.sc (.int .i64 a)] H fun y H'=>∃ nb' cap',TrA H' r b nb' mb cap' s' es∧Stp r nb H H' nb'
def PutOK (b:Nat) (rec:Ar→Nat→Pr→Option Ar):Prop:=∀ (H:List Bk) (r nb mb cap:Nat) (s s':Ar) (es:List Pr) (a:Nat) (rc:Pr),TrA H r b nb mb cap s es→rec s a rc=some s' →
 AFn Tryz.prog 91 [.ptr r 0,.sc (.int .i64 a),rc.v] H fun y H'=>∃ nb' cap',TrA H' r b nb' mb cap' s' es∧Stp r nb H H' nb'
def AddM (r b nb mb cap a o:Nat) (rc:Pr) (s2:Ar) (es:List Pr) (H H2:List Bk) (F:Fr) (H3:List Bk):Prop :=
 ∃ H4,Wk H3 H4∧TrA H4 r b nb mb cap s2 es∧Stp r nb H H4 nb∧F = [(0,.v (.ptr r 0)),(1,.v (.sc (.int .i64 a))),(6,.v (.ptr nb (a*10)))]
theorem wput {b:Nat} {rec:Ar→Nat→Pr→Option Ar} (hp:PartOK b rec):PutOK b (qgW b rec 18):=by
 intro H r nb mb cap s s' es a rc hT hadd
 unfold Pr.v Pr.cs
 refine vwc (fn:=Tryz.f91) rfl ?_
 simp only [Tryz.f91,ql]
 refine AW.seq (vwb ?_)
 simp
 have hc0:cap≠0:=by
  obtain ⟨_,q,_,hq,_⟩:=qkp hadd
  exact hT.cap0 hq
 have hnl:=(List.getElem?_eq_some_iff.1 (hT.cn hc0)).1
 have hrl:=hT.rl
 refine AW.seq (AW.block (AW.qaZ (AddI H r b nb mb cap H.length rec rc s' es) ⟨18,[(0,.v (.ptr r 0)),(1,.v (.sc (.int .i64 a))),(5,.v (.ptr H.length 0))],?_,s,a,hT.app (L := [prB rc]),hadd,by simp [prB],Stp.refl.app,by omega,by omega,rfl⟩ ?_))
 ·simp [qz,qj,qm]
 rintro n F H1 ⟨s1,a1,h1,h2,h3,h4,ho1,ho2,rfl⟩
 obtain ⟨n,q,rfl,hq,hok,h2⟩:=qkp h2
 obtain ⟨hc,hm1,hm2,hl⟩:=hok
 have hr:=h1.cr
 have hn:=h1.cn hc0
 have hrn:=h1.rn hc0
 have hal:=(List.getElem?_eq_some_iff.1 hq).1
 unfold trC at hr
 have hlen:=qdA s1.A ((cap - s1.A.length)*10)
 obtain ⟨t8,d8⟩:=qnG hq ((cap - s1.A.length)*10)
 obtain ⟨t7,d7⟩:=qpo hq ((cap - s1.A.length)*10)
 refine AW.seq (vwb ?_)
 simp [hr,hn,hal,d8]
 rcases h2 with ⟨hs,a2,hk,h2⟩ | ⟨hs,h2⟩
 ·simp only [hs,gd_tt]
  have w1:IntKind.i64.wrap (q.many+1)=q.many+1:=by rw [wrap_i64] <;> omega
  have st:∀ z,qo H1 nb (a1*10+7) (.v (.sc (.int .i64 z)))=H1.set nb (.cells (arC (s1.A.set a1 { q with many:=z }) ((cap - s1.A.length)*10))):=fun z=>by rw [zF hn,qlL hq]
  have g8:({ q with many:=q.many+1 }:Qn).split=true:=hs
  refine AW.block (AW.seq (vwb ?_))
  simp [hr,hn,hal,d7,w1,setCells,st]
  refine ⟨by omega,?_⟩
  refine AW.sub [(0,.v (.ptr r 0)),(1,.v (.sc (.int .i64 a1))),(5,.v (.ptr H.length 0))] (by simp [qbh,qm]) ?_
  have h1':=h1.node { q with many:=q.many+1 } hq
  have h3':(H1.set nb (.cells (arC (s1.A.set a1 { q with many:=q.many+1 }) ((cap - s1.A.length)*10))))[H.length]? = some (prB rc):=by rw [List.getElem?_set_ne (Ne.symm ho1)]; exact h3
  have h4':=h4.set (k := .cells (arC (s1.A.set a1 { q with many:=q.many+1 }) ((cap - s1.A.length)*10))) (.inr (.inl rfl))
  have hq':(s1.A.set a1 { q with many:=q.many+1 })[a1]? = some { q with many:=q.many+1 }:=List.getElem?_set_self hal
  have hk':({ q with many:=q.many+1 }:Qn).kid (qa1 rc.at_ q.c.l)=(a2:Int):=by rw [← hk]; rcases (show qa1 rc.at_ q.c.l=0∨qa1 rc.at_ q.c.l=1∨qa1 rc.at_ q.c.l=2∨qa1 rc.at_ q.c.l=3 by have:=qf4 rc.at_ q.c.l; omega) with e | e | e | e <;> rw [e] <;> rfl
  have hal':a1<(s1.A.set a1 { q with many:=q.many+1 }).length:=by simpa using hal
  have hK:=wkid (p:=rc.at_) h1' hq' hc
  have hV:=kid_view (p:=rc.at_) h1' hq'
  generalize H1.set nb _=H2 at *
  have hr2:=h1'.cr
  have hn2:=h1'.cn hc0
  obtain ⟨tk,dk⟩:=drop_kid hq' ((cap - (s1.A.set a1 { q with many:=q.many+1 }).length)*10) (qa1 rc.at_ q.c.l) (qf4 _ _)
  rw [hk'] at dk
  have hkl:=qf4 rc.at_ q.c.l
  unfold trC at hr2
  unfold prB at h3'
  unfold Pt.v Pt.cs at hV
  generalize s1.A.set a1 _=A2 at *
  generalize qa1 rc.at_ q.c.l=ki at *
  refine AW.ofz [(3,12,[])] mixed (by kernel_rfl) ?_
  simp [hr2,hn2,hal',h3',hkl,dk]
  refine Zj.see hK hV rfl ?_
  simp [hr2,hn2,hal',h3',hkl,dk]
  refine ⟨by omega,n,by omega,[(0,.v (.ptr r 0)),(1,.v (.sc (.int .i64 a2))),(5,.v (.ptr H.length 0))],?_,⟨A2,s1.fr⟩,a2,h1',h2,h3',h4',ho1,ho2,rfl⟩
  simp [qz,qj,qm]
 ·simp only [hs,gd_ft,QY,jV]
  have w1:IntKind.i64.wrap (q.many+1)=q.many+1:=by rw [wrap_i64] <;> omega
  have st:∀ z,qo H1 nb (a1*10+7) (.v (.sc (.int .i64 z)))=H1.set nb (.cells (arC (s1.A.set a1 { q with many:=z }) ((cap - s1.A.length)*10))):=fun z=>by rw [zF hn,qlL hq]
  refine AW.seq (vwb ?_)
  simp [hr,hn,hal]
  refine AW.seq (vwb ?_)
  simp [hn,d7,w1,setCells,st]
  refine ⟨by omega,?_⟩
  refine AW.sub [(0,.v (.ptr r 0)),(1,.v (.sc (.int .i64 a1))),(5,.v (.ptr H.length 0)),(6,.v (.ptr nb (a1*10)))] (by simp [qbh,qm]) ?_
  have h1':=h1.node { q with many:=q.many+1 } hq
  have h3':(H1.set nb (.cells (arC (s1.A.set a1 { q with many:=q.many+1 }) ((cap - s1.A.length)*10))))[H.length]? = some (prB rc):=by rw [List.getElem?_set_ne (Ne.symm ho1)]; exact h3
  have h4':=h4.set (k := .cells (arC (s1.A.set a1 { q with many:=q.many+1 }) ((cap - s1.A.length)*10))) (.inr (.inl rfl))
  have hq':(s1.A.set a1 { q with many:=q.many+1 })[a1]? = some { q with many:=q.many+1 }:=List.getElem?_set_self hal
  have hal':a1<(s1.A.set a1 { q with many:=q.many+1 }).length:=by simpa using hal
  have hrn2:=h1'.rn hc0
  have hr2:=h1'.cr
  have hn2:=h1'.cn hc0
  have hnl2:=(List.getElem?_eq_some_iff.1 hn2).1
  have hge:=qiB hq' ((cap - (s1.A.set a1 { q with many:=q.many+1 }).length)*10)
  have hse:=fun l=>qlK hq' ((cap - (s1.A.set a1 { q with many:=q.many+1 }).length)*10) false l
  obtain ⟨t9,d9⟩:=qgQ hq' ((cap - (s1.A.set a1 { q with many:=q.many+1 }).length)*10)
  have hlen2:=qdA (s1.A.set a1 { q with many:=q.many+1 }) ((cap - (s1.A.set a1 { q with many:=q.many+1 }).length)*10)
  have hnode:=fun l=>h1'.node { q with many:=q.many+1,l:=l,full:=false } hq'
  have hstp:=fun l=>h4'.set (i:=nb) (k := .cells (arC ((s1.A.set a1 { q with many:=q.many+1 }).set a1 { q with many:=q.many+1,l:=l,full:=false }) ((cap - (s1.A.set a1 { q with many:=q.many+1 }).length)*10))) (.inr (.inl rfl))
  generalize H1.set nb _=H2 at *
  simp only [List.set_set] at hnode hstp hse
  unfold prB at h3'
  unfold trC at hr2
  have hfr:∀ x:SV,qo H2 nb (a1*10+9) x=H2.set nb (.cells ((arC (s1.A.set a1 { q with many:=q.many+1 }) ((cap - (s1.A.set a1 { q with many:=q.many+1 }).length)*10)).set (a1*10+9) x)):=fun x=>zF hn2
  generalize arC (s1.A.set a1 { q with many:=q.many+1 }) ((cap - (s1.A.set a1 { q with many:=q.many+1 }).length)*10)=ac at hn2 d9 hge hse hlen2 hfr
  refine AW.mid (AddM r b nb mb cap a1 H.length rc ⟨s1.A.set a1 { q with many:=q.many+1,l:=q.l ++ [rc],full:=false },s1.fr⟩ es H H2) (vwb ?_) ?_
  ·have hol:a1*10+9<ac.length:=(List.getElem?_eq_some_iff.1 hge).1
   have hF:∀ (F:Fr) (H3:List Bk) (pr:Bool),q.l ++ [rc] ≠ []→H3=H2.set nb (.cells (ac.set (a1*10+9) (.own pr 55 (q.l.length+1) 4 ((q.l ++ [rc]).flatMap Pr.cs))))→F = [(0,.v (.ptr r 0)),(1,.v (.sc (.int .i64 a1))),(6,.v (.ptr nb (a1*10)))]→AddM r b nb mb cap a1 H.length rc ⟨s1.A.set a1 { q with many:=q.many+1,l:=q.l ++ [rc],full:=false },s1.fr⟩ es H H2 F H3:=by
    rintro F H3 pr hne rfl rfl
    refine ⟨_,?_,hnode (q.l ++ [rc]),hstp (q.l ++ [rc]),rfl⟩
    rw [← hse (q.l ++ [rc]),qep]
    have:=Wk.share (H:=H2.set nb (.cells (ac.set (a1*10+9) (.own pr 55 (q.l.length+1) 4 ((q.l ++ [rc]).flatMap Pr.cs))))) (id:=nb) (off:=a1*10+9) (List.getElem?_set_self hnl2) (List.getElem?_set_self hol)
    rw [List.set_set,List.set_set] at this
    rw [show (q.l ++ [rc]).length=q.l.length+1 by simp]
    exact this
   by_cases hql:q.full=true
   ·simp only [hql,qjW] at d9 hge
    simp [hn2,d9,h3',hge,hfr]
    refine ⟨⟨by omega,by omega⟩,by omega,[(0,.v (.ptr r 0)),(1,.v (.sc (.int .i64 a1))),(6,.v (.ptr nb (a1*10)))],?_,hF _ _ true (by simp) ?_ rfl⟩
    ·simp [qz,qj,qm]
    ·rw [qgL]
   ·have hql:q.full=false:=by simpa using hql
    simp only [hql,qep] at hge d9
    have f4:∀ K,(H2.set nb K)[H.length]? = some (.cells [.v (.sc (.int .i64 rc.id)),.v (.sc (.int .i64 rc.at_.x)),.v (.sc (.int .i64 rc.at_.y)),.v (.sc (.int .i64 rc.lab))]):=fun K=>by rw [List.getElem?_set_ne (Ne.symm ho1)]; exact h3'
    have f3:∀ K,(H2.set nb K)[nb]? = some K:=fun K=>List.getElem?_set_self hnl2
    have f2:∀ x z,qo (H2.set nb (.cells (ac.set (a1*10+9) x))) nb (a1*10+9) z=H2.set nb (.cells (ac.set (a1*10+9) z)):=fun x z=>by rw [zF (f3 _),List.set_set,List.set_set]
    simp [hn2,d9,h3',hge,hfr,f2,f3,f4]
    refine ⟨⟨by omega,by omega⟩,by omega,[(0,.v (.ptr r 0)),(1,.v (.sc (.int .i64 a1))),(6,.v (.ptr nb (a1*10)))],?_,hF _ _ false (by simp) ?_ rfl⟩
    ·simp [qz,qj,qm]
    ·rw [qgL]
  ·rintro F3 H3 ⟨H4,hwk,hT4,hS4,rfl⟩
   refine AW.wk hwk ?_
   have hr4:=hT4.cr
   have hn4:=hT4.cn hc0
   have hq4:(s1.A.set a1 { q with many:=q.many+1,l:=q.l ++ [rc],full:=false })[a1]? = some { q with many:=q.many+1,l:=q.l ++ [rc],full:=false }:=List.getElem?_set_self hal
   have hge4:=qiB hq4 ((cap - (s1.A.set a1 { q with many:=q.many+1,l:=q.l ++ [rc],full:=false }).length)*10)
   obtain ⟨t4,d4⟩:=qgQ hq4 ((cap - (s1.A.set a1 { q with many:=q.many+1,l:=q.l ++ [rc],full:=false }).length)*10)
   obtain ⟨t5,d5⟩:=qbs hq4 ((cap - (s1.A.set a1 { q with many:=q.many+1,l:=q.l ++ [rc],full:=false }).length)*10)
   have hP:=fun s' h=>hp H4 r nb mb cap ⟨s1.A.set a1 { q with many:=q.many+1,l:=q.l ++ [rc],full:=false },s1.fr⟩ s' es a1 hT4 h
   rw [qep] at d4 hge4
   unfold trC at hr4
   simp only [List.length_append,List.length_cons,List.length_nil,Nat.zero_add] at d4 hge4
   generalize arC _ _=ac4 at hn4 hge4 d4 d5
   refine AW.seq (vwb ?_)
   simp [hr4,hn4,hge4,d4,d5]
   have same:s'=⟨s1.A.set a1 { q with many:=q.many+1,l:=q.l ++ [rc],full:=false },s1.fr⟩→∃ nb',(∃ x,TrA H4 r b nb' mb x s' es)∧Stp r nb H H4 nb':=fun e=>⟨nb,⟨cap,by rw [e]; exact hT4⟩,hS4⟩
   refine gd.intro (fun hb => ?_) (fun hb => ?_)
   ·have hb:(b:Int)<(q.l.length:Int)+1:=by simpa using hb
    refine AW.cond (decide (q.c.l<16)) (by simp) (fun hc16 => ?_) (fun hc16 => ?_)
    ·have hc16:q.c.l<16:=by simpa using hc16
     rcases h2 with ⟨_,_,h2⟩ | ⟨h2,_⟩
     rotate_left
     ·exact absurd ⟨by omega,hc16⟩ h2
     refine vwb ?_
     simp
     refine qc.of (hP _ h2) ?_
     rintro y H5 ⟨nb5,cap5,k1,k2⟩
     simp
     exact ⟨nb5,⟨cap5,k1⟩,hS4.trans k2⟩
    ·have hc16:¬ q.c.l<16:=by simpa using hc16
     rcases h2 with ⟨_,h2,_⟩ | ⟨_,h2⟩
     ·exact absurd h2 hc16
     refine vwb ?_
     simp
     exact same h2
   ·have hb:¬ (b:Int)<(q.l.length:Int)+1:=by simpa using hb
    rcases h2 with ⟨h2,_⟩ | ⟨_,h2⟩
    ·exact absurd (by omega) hb
    refine AW.cond false (by simp) (fun e=>by cases e) (fun _ => ?_)
    refine vwb ?_
    simp
    exact same h2
def KidI (H:List Bk) (r b nb mb o:Nat) (q:Qn) (s:Ar) (a:Nat) (es:List Pr) (i:Nat) (F:Fr) (H1:List Bk):Prop :=
 ∃ (nb1 cap1:Nat) (s1:Ar) (ks:List Nat),TrA H1 r b nb1 mb cap1 s1 es∧qdI q.c s i=some (s1,ks)∧H1[o]? = some (ceB q.c)∧H1[o+1]? = some (qpd ks)∧Stp r nb H H1 nb1∧(nb1=nb∨o+1<nb1) ∧
  F = [(0,.v (.ptr r 0)),(1,.v (.sc (.int .i64 a))),(4,.v (lV q.l)),(5,.v (.ptr o 0)),(6,.v (.ptr (o+1) 0)),(29,.v (.sc (.int .i64 i)))]
def PutI (H:List Bk) (r b nb mb:Nat) (rec:Ar→Nat→Pr→Option Ar) (l:List Pr) (s:Ar) (a:Nat) (es:List Pr) (i:Nat) (F:Fr) (H1:List Bk):Prop :=
 ∃ (nb1 cap1:Nat) (s1:Ar),TrA H1 r b nb1 mb cap1 s1 es∧qhe rec a l s i=some s1∧Stp r nb H H1 nb1 ∧
  F = [(0,.v (.ptr r 0)),(1,.v (.sc (.int .i64 a))),(63,.v (lV l)),(64,.v (.sc (.int .i64 l.length))),(65,.v (.sc (.int .i64 i)))]
theorem wpart {b:Nat} {rec:Ar→Nat→Pr→Option Ar} (hp:PutOK b rec):PartOK b rec:=by
 intro H r nb mb cap s s' es a hT hpart
 obtain ⟨q,s4,ks4,q2,hq,hok,hkids,hq2,hputs⟩:=qnj hpart
 obtain ⟨hc,hm1,hm2,hl⟩:=hok
 have hc0:=hT.cap0 hq
 have hr:=hT.cr
 have hn:=hT.cn hc0
 have hrn:=hT.rn hc0
 have hnl:=(List.getElem?_eq_some_iff.1 hn).1
 have hrl:=hT.rl
 have hal:=(List.getElem?_eq_some_iff.1 hq).1
 unfold trC at hr
 have hr':=fun L=>hget (L:=L) hr
 have hn':=fun L=>hget (L:=L) hn
 obtain ⟨t9,d9⟩:=qgQ hq ((cap - s.A.length)*10)
 obtain ⟨t0,d0⟩:=qbs hq ((cap - s.A.length)*10)
 have hge:=qiB hq ((cap - s.A.length)*10)
 have hse:∀ x,x=lC q.full q.l→(arC s.A ((cap - s.A.length)*10)).set (a*10+9) x=arC s.A ((cap - s.A.length)*10):=fun x hx=>by
  rw [hx,qlK hq]
  congr 1
  exact qlJ hq
 generalize hac:arC s.A ((cap - s.A.length)*10)=ac at *
 have hsb:∀ x,x=lC q.full q.l→qo H nb (a*10+9) x=H:=fun x hx=>by
  rw [zF hn,hse x hx]
  exact qlJ hn
 refine vwc (fn:=Tryz.f139) rfl ?_
 simp only [Tryz.f139,ql]
 refine AW.mid (fun F H1=>F = [(0,.v (.ptr r 0)),(1,.v (.sc (.int .i64 a))),(4,.v (lV q.l)),(5,.v (.ptr H.length 0))]∧H1=H ++ [ceB q.c]) (vwb ?_) ?_
 ·have hcl:setCells (H ++ [Bk.cells [SV.v (V.sc (Value.int IntKind.i64 0)),SV.v (V.sc (Value.int IntKind.i64 0)),SV.v (V.sc (Value.int IntKind.i64 0))]]) H.length 0 [V.sc (Value.int IntKind.i64 q.c.l),V.sc (Value.int IntKind.i64 q.c.x),V.sc (Value.int IntKind.i64 q.c.y)]=H ++ [ceB q.c]:=qp rfl
  by_cases hql:q.full=true
  ·simp only [hql,qjW] at d9 hge
   simp [hr,hn,hal,d9,d0,hge]
   refine ⟨_,?_,rfl,hcl⟩
   simp [qz,qj,qm]
   exact .inr (WV.of (qou _))
  ·have hql:q.full=false:=by simpa using hql
   have hsb':=hsb (.own false 55 q.l.length 4 (q.l.flatMap Pr.cs)) (by rw [hql]; rfl)
   simp only [hql,qep] at d9 hge
   simp [hr,hn,hal,d9,d0,hge,hsb']
   refine ⟨_,?_,rfl,hcl⟩
   simp [qz,qj,qm,lV]
 ·rintro F H1 ⟨rfl,rfl⟩
  refine AW.seq (vwb ?_)
  simp
  have hk0:qdI q.c s 0=some (s,[]):=rfl
  refine AW.mid (KidI H r b nb mb H.length q s a es 4) ?_ ?_
  ·refine AW.seq (vwb ?_)
   simp
   refine AW.block (AW.count 4 (KidI H r b nb mb H.length q s a es) ⟨[(0,.v (.ptr r 0)),(1,.v (.sc (.int .i64 a))),(4,.v (lV q.l)),(5,.v (.ptr H.length 0)),(6,.v (.ptr (H.length+1) 0)),(29,.v (.sc (.int .i64 0)))],?_,nb,cap,s,[],hT.app (L := [ceB q.c,qpd []]),hk0,by simp,by simp [qpd,qbU,Wt],Stp.refl.app,.inl rfl,rfl⟩ ?_)
   ·simp [qz,qj,qm]
   rintro k F H1 hk ⟨nb1,cap1,s1,ks,h1,h2,h3,h4,h5,h6,rfl⟩
   have hksl:=qjZ h2
   by_cases hk4:k=4
   ·subst hk4
    refine AW.seq (vwb ?_)
    simp
    refine AW.seq (vwb ?_)
    simp
    refine ⟨_,?_,nb1,cap1,s1,ks,h1,h2,h3,h4,h5,h6,rfl⟩
    simp [qz,qj,qm]
   ·have hlt:k<4:=by omega
    have hltI:(k:Int)<4:=by omega
    obtain ⟨s2,kk,hlf,hk1⟩:=qnr hkids hlt h2
    have hC:=cChild q.c (k:Int)
    unfold Ce.v Ce.cs at hC
    unfold ceB at h3
    refine AW.seq (vwb ?_)
    simp [hltI]
    refine AW.seq (vwb ?_)
    simp
    refine AW.seq (AW.block (AW.seq (vwb ?_)))
    simp
    refine AW.seq (vwb ?_)
    simp [h3]
    refine qc.pure hC rfl rfl ?_
    simp
    rw [qp rfl]
    refine AW.sub [(0,.v (.ptr r 0)),(1,.v (.sc (.int .i64 a))),(4,.v (lV q.l)),(5,.v (.ptr H.length 0)),(6,.v (.ptr (H.length+1) 0)),(29,.v (.sc (.int .i64 k))),(7,.v (.sc (.int .i64 k))),(8,.v (.ptr H1.length 0))] (by simp [qbh,qm]) ?_
    have h1l:=h5.len
    have hol:=(List.getElem?_eq_some_iff.1 h4).1
    have hL:=wleaf (h1.app (L := [ceB (Xn q.c (k:Int)).1])) hlf
    unfold Ce.v Ce.cs ceB at hL
    refine vwb ?_
    simp
    refine qc.of hL ?_
    rintro y H2 ⟨rfl,nb2,cap2,k1,k2⟩
    have hn12:nb1≠H.length∧nb1≠H.length+1:=by rcases h6 with rfl | h6 <;> omega
    have g3:H2[H.length]? = some (ceB q.c):=k2.kp _ _ (by omega) (hget h3)
    have g4:H2[H.length+1]? = some (qpd ks):=k2.kp _ _ (by omega) (hget h4)
    have hol2:=(List.getElem?_eq_some_iff.1 g4).1
    have g6:nb2=nb∨H.length+1<nb2:=by
     rcases k2.nb with rfl | e
     ·exact h6
     ·right
      simp at e
      omega
    have st:∀ x,qo H2 (H.length+1) k (.v (.sc (.int .i64 (x:Nat))))=H2.set (H.length+1) (.cells ([qbU ks 0,qbU ks 1,qbU ks 2,qbU ks 3].set k (.v (.sc (.int .i64 x))))):=fun x=>zF g4
    unfold qpd at g4
    simp [hltI,g4,setCells_one,st]
    refine ⟨by omega,?_⟩
    refine vwb ?_
    have w1:IntKind.i64.wrap ((k:Int)+1)=(k+1:Nat):=by rw [wrap_i64] <;> omega
    simp [w1]
    rw [kidB_set hksl hlt]
    have hn22:nb2≠H.length∧nb2≠H.length+1:=by rcases g6 with rfl | h6 <;> omega
    refine ⟨hlt,[(0,.v (.ptr r 0)),(1,.v (.sc (.int .i64 a))),(4,.v (lV q.l)),(5,.v (.ptr H.length 0)),(6,.v (.ptr (H.length+1) 0)),(29,.v (.sc (.int .i64 ((k+1:Nat):Int))))],?_,nb2,cap2,s2,ks ++ [kk],?_,hk1,?_,?_,?_,g6,rfl⟩
    ·simp [qz,qj,qm]
    ·exact k1.keep (I:=fun x=>x=H.length+1) (KpA.refl.set rfl) (by omega) (fun _=>by omega) (fun e=>by
      have:=k1.cm
      rw [e,g4] at this
      cases this)
    ·rw [List.getElem?_set_ne (by omega)]
     exact g3
    ·rw [List.getElem?_set_self hol2]
     rfl
    ·exact (h5.app.trans k2).set (.inr (.inr (by omega)))
  ·rintro F H1 ⟨nb1,cap1,s1,ks,h1,h2,h3,h4,h5,h6,rfl⟩
   rw [hkids] at h2
   cases h2
   have hc1:=h1.cap0 hq2
   have hr1:=h1.cr
   have hn1:=h1.cn hc1
   have hrn1:=h1.rn hc1
   have hnl1:=(List.getElem?_eq_some_iff.1 hn1).1
   have hal1:=(List.getElem?_eq_some_iff.1 hq2).1
   have h1l:=h5.len
   have hn12:nb1≠H.length∧nb1≠H.length+1:=by rcases h6 with rfl | h6 <;> omega
   unfold trC at hr1
   unfold qpd qbU at h4
   have hex:=qnC (sp:=(cap1 - s4.A.length)*10) (Nat.lt_of_le_of_lt (Nat.zero_le _) hal1)
   have kp:∀ K,Xi H1 (H1.set nb1 K):=fun K=>qpe hn1 hex
   obtain ⟨P,D,hP,hcut,hcut'⟩:=cutN hq2 ((cap1 - s4.A.length)*10)
   rw [hcut] at hn1
   unfold ndC at hn1
   have f3:∀ K,(H1.set nb1 K)[nb1]? = some K:=fun K=>List.getElem?_set_self hnl1
   have st0:∀ x,qo H1 nb1 (a*10+9) x=H1.set nb1 (.cells (P++([.v (.sc (.int .i64 q2.c.l)),.v (.sc (.int .i64 q2.c.x)),.v (.sc (.int .i64 q2.c.y)),.v (.sc (.int .i64 q2.k0)),.v (.sc (.int .i64 q2.k1)),.v (.sc (.int .i64 q2.k2)),.v (.sc (.int .i64 q2.k3)),.v (.sc (.int .i64 q2.many)),.v (.sc (.bool q2.split)),x]++D))):=fun x=>by
    rw [zF hn1,set_mid hP (by simp)]
    rfl
   have st8:∀ x y z,qo (H1.set nb1 (.cells (P++([.v (.sc (.int .i64 q2.c.l)),.v (.sc (.int .i64 q2.c.x)),.v (.sc (.int .i64 q2.c.y)),.v (.sc (.int .i64 q2.k0)),.v (.sc (.int .i64 q2.k1)),.v (.sc (.int .i64 q2.k2)),.v (.sc (.int .i64 q2.k3)),.v (.sc (.int .i64 q2.many)),y,x]++D)))) nb1 (a*10+8) z=H1.set nb1 (.cells (P++([.v (.sc (.int .i64 q2.c.l)),.v (.sc (.int .i64 q2.c.x)),.v (.sc (.int .i64 q2.c.y)),.v (.sc (.int .i64 q2.k0)),.v (.sc (.int .i64 q2.k1)),.v (.sc (.int .i64 q2.k2)),.v (.sc (.int .i64 q2.k3)),.v (.sc (.int .i64 q2.many)),z,x]++D))):=fun x y z=>by
    rw [zF (f3 _),set_mid hP (by simp),List.set_set]
    rfl
   have st3:∀ (x y m:SV) (k0 k1 k2 k3:SV) (z0 z1 z2 z3:V),setCells (H1.set nb1 (.cells (P++([.v (.sc (.int .i64 q2.c.l)),.v (.sc (.int .i64 q2.c.x)),.v (.sc (.int .i64 q2.c.y)),k0,k1,k2,k3,m,y,x]++D)))) nb1 (a*10+3) [z0,z1,z2,z3]=H1.set nb1 (.cells (P++([.v (.sc (.int .i64 q2.c.l)),.v (.sc (.int .i64 q2.c.x)),.v (.sc (.int .i64 q2.c.y)),.v z0,.v z1,.v z2,.v z3,m,y,x]++D))):=fun x y m k0 k1 k2 k3 z0 z1 z2 z3=>by
    rw [qkG hP (f3 _) (by simp),List.set_set]
    rfl
   have st7:∀ (x y m z:SV) (k0 k1 k2 k3:SV),qo (H1.set nb1 (.cells (P++([.v (.sc (.int .i64 q2.c.l)),.v (.sc (.int .i64 q2.c.x)),.v (.sc (.int .i64 q2.c.y)),k0,k1,k2,k3,m,y,x]++D)))) nb1 (a*10+7) z=H1.set nb1 (.cells (P++([.v (.sc (.int .i64 q2.c.l)),.v (.sc (.int .i64 q2.c.x)),.v (.sc (.int .i64 q2.c.y)),k0,k1,k2,k3,z,y,x]++D))):=fun x y m z k0 k1 k2 k3=>by
    rw [zF (f3 _),set_mid hP (by simp),List.set_set]
    rfl
   simp only [List.cons_append,List.nil_append] at st0 st8 st3 st7
   have hkq:∀ K,(H1.set nb1 K)[H.length+1]? = some (.cells [.v (.sc (.int .i64 (Wt ks4 0))),.v (.sc (.int .i64 (Wt ks4 1))),.v (.sc (.int .i64 (Wt ks4 2))),.v (.sc (.int .i64 (Wt ks4 3)))]):=fun K=>by rw [List.getElem?_set_ne hn12.2]; exact h4
   refine AW.seq (vwb ?_)
   simp [hr1,hn1,hal1]
   refine AW.sub [(0,.v (.ptr r 0)),(1,.v (.sc (.int .i64 a))),(4,.v (lV q.l)),(6,.v (.ptr (H.length+1) 0)),(10,.v (.ptr nb1 (a*10)))] (by simp [qbh,qm]) ?_
   refine AW.seq (vwa [(9,14,[10,6])] ?_)
   simp [hr1,hn1,f3,st0,st8,st3,st7,h4,hkq,kp,setCells_one]
   refine ⟨by omega,by omega,by omega,by omega,?_⟩
   obtain ⟨q3,hq3⟩:∃ q3:Qn,q3 = { q2 with l := [],full:=true,split:=true,k0:=Wt ks4 0,k1:=Wt ks4 1,k2:=Wt ks4 2,k3:=Wt ks4 3,many:=0 }:=⟨_,rfl⟩
   rw [← hq3] at hputs
   have hW:Wk (H1.set nb1 (.cells (P++((ndV q3).map SV.v++D)))) (H1.set nb1 (.cells (P++(ndC q3++D)))):=by
    have:=Wk.seg (H:=H1.set nb1 (.cells (P++(ndV q3).map SV.v++D))) (id:=nb1) (ys:=ndC q3) (List.getElem?_set_self hnl1) rfl (qkW (q:=q3) (by rw [hq3]; exact ⟨rfl,rfl⟩))
    rw [List.set_set,List.append_assoc,List.append_assoc] at this
    exact this
   rw [← hcut' q3] at hW
   have hT3:=h1.node q3 hq2
   have hS3:=h5.set (i:=nb1) (k := .cells (arC (s4.A.set a q3) ((cap1 - s4.A.length)*10))) (by rcases h6 with rfl | h6; exact .inr (.inl rfl); exact .inr (.inr (by omega)))
   rw [hq3] at hW
   simp only [ndV,List.map_cons,List.map_nil,List.cons_append,List.nil_append] at hW
   rw [← hq3] at hW
   refine AW.wk hW ?_
   clear hW kp st0 st8 st3 st7 hkq f3 hn1 hr1 h4 h3 hcut hcut'
   generalize H1.set nb1 _=H3 at *
   refine AW.seq (vwb ?_)
   unfold lV
   simp
   refine AW.block (AW.count q.l.length (PutI H r b nb mb rec q.l ⟨s4.A.set a q3,s4.fr⟩ a es) ⟨[(0,.v (.ptr r 0)),(1,.v (.sc (.int .i64 a))),(63,.v (lV q.l)),(64,.v (.sc (.int .i64 q.l.length))),(65,.v (.sc (.int .i64 0)))],?_,nb1,cap1,_,hT3,rfl,hS3,rfl⟩ ?_)
   ·simp [qz,qj,qm,lV]
   rintro k F H4 hk ⟨nb5,cap5,s5,g1,g2,g3,rfl⟩
   unfold lV
   by_cases hkl:k=q.l.length
   ·subst hkl
    rw [g2] at hputs
    cases hputs
    refine AW.seq (vwb ?_)
    simp
    refine AW.seq (vwb ?_)
    simp
    exact ⟨nb5,⟨cap5,g1⟩,g3⟩
   ·have hlt:k<q.l.length:=by omega
    have hltI:(k:Int)<(q.l.length:Int):=by omega
    obtain ⟨s6,hrec,g6⟩:=qnh hputs hlt hlt g2
    have hrow:=rowP hlt
    have hP2:=hp (H4 ++ [prB q.l[k]]) r nb5 mb cap5 s5 s6 es a q.l[k] g1.app hrec
    generalize q.l[k]=rc at *
    unfold Pr.v at hP2
    rw [Pr.cs_eq] at hP2 hrow
    unfold prB at hP2
    refine AW.seq (vwb ?_)
    simp [hltI]
    refine AW.seq (vwb ?_)
    simp
    refine AW.seq (AW.block (AW.seq (vwb ?_)))
    simp [hltI,hlt,hrow]
    rw [qp rfl]
    refine AW.sub [(0,.v (.ptr r 0)),(1,.v (.sc (.int .i64 a))),(63,.v (lV q.l)),(64,.v (.sc (.int .i64 q.l.length))),(65,.v (.sc (.int .i64 k))),(12,.v (.ptr H4.length 0))] (by simp [qbh,qm,lV]) ?_
    refine vwb ?_
    simp
    refine qc.of hP2 ?_
    rintro y H6 ⟨nb6,cap6,e1,e2⟩
    simp
    refine vwb ?_
    have w1:IntKind.i64.wrap ((k:Int)+1)=(k+1:Nat):=by rw [wrap_i64] <;> omega
    simp [w1]
    refine ⟨_,?_,nb6,cap6,s6,e1,g6,g3.app.trans e2,rfl⟩
    simp [qz,qj,qm]
theorem wputT {b:Nat}:∀ f,PutOK b (qjf b f)
 | 0=>fun H r nb mb cap s s' es a rc _ h=>by cases h
 | f+1=>wput (wpart (wputT f))
structure Tells (g:FuncId) (first cap:List V) (o:Nat) (Tl:List Pr→Bk→Prop):Prop where
 tell:∀ (told:List Pr) (bk:Bk) (H:List Bk) (rc:Pr),H[o]? = some bk→Tl told bk→told.length≤1000000000000→AFn Tryz.prog g (first ++ [rc.v]++cap) H fun y H'=>KpA (fun x=>x=o) H H'∧H.length≤H'.length∧∃ bk',H'[o]? = some bk'∧Tl (told ++ [rc]) bk'
def ndB (q:Qn):Bk := .cells [.v (.sc (.int .i64 q.c.l)),.v (.sc (.int .i64 q.c.x)),.v (.sc (.int .i64 q.c.y)),.v (.sc (.int .i64 q.k0)),.v (.sc (.int .i64 q.k1)),.v (.sc (.int .i64 q.k2)),.v (.sc (.int .i64 q.k3)),.v (.sc (.int .i64 q.many)),.v (.sc (.bool q.split)),.v (lV q.l)]
def Told (H:List Bk) (o:Nat) (Tl:List Pr→Bk→Prop) (L:List Pr) (H1:List Bk):Prop:=KpA (fun x=>x=o) H H1∧H.length≤H1.length∧∃ bk,H1[o]? = some bk∧Tl L bk
def EachI (H:List Bk) (r a o nd:Nat) (q:Qn) (fv:V) (Tl:List Pr→Bk→Prop) (told:List Pr) (i:Nat) (F:Fr) (H1:List Bk):Prop :=
 Told H o Tl (told++q.l.take i) H1∧H1[nd]? = some (ndB q)∧F = [(0,.v (.ptr r 0)),(1,.v (.sc (.int .i64 a))),(2,.v fv),(6,.v (.ptr nd 0)),(19,.v (lV q.l)),(20,.v (.sc (.int .i64 q.l.length))),(21,.v (.sc (.int .i64 i)))]
theorem qkX {L:List Bk} {q:Qn}:Wk (L ++ [.cells [.v (.sc (.int .i64 q.c.l)),.v (.sc (.int .i64 q.c.x)),.v (.sc (.int .i64 q.c.y)),.v (.sc (.int .i64 q.k0)),.v (.sc (.int .i64 q.k1)),.v (.sc (.int .i64 q.k2)),.v (.sc (.int .i64 q.k3)),.v (.sc (.int .i64 q.many)),.v (.sc (.bool q.split)),.v (.fs q.l.length 4 (q.l.flatMap Pr.cs))]]) (L ++ [ndB q]):=by
 have:=Wk.cell (H:=L ++ [.cells [.v (.sc (.int .i64 q.c.l)),.v (.sc (.int .i64 q.c.x)),.v (.sc (.int .i64 q.c.y)),.v (.sc (.int .i64 q.k0)),.v (.sc (.int .i64 q.k1)),.v (.sc (.int .i64 q.k2)),.v (.sc (.int .i64 q.k3)),.v (.sc (.int .i64 q.many)),.v (.sc (.bool q.split)),.v (.fs q.l.length 4 (q.l.flatMap Pr.cs))]]) (id:=L.length) (off:=9) (x := .v (.fs q.l.length 4 (q.l.flatMap Pr.cs))) (y := .v (lV q.l)) (by simp; rfl) rfl ⟨rfl,fun c w r v hv=>qou _ _ _ _ hv⟩
 simpa [ndB] using this
theorem Told.trans {H H1 H2:List Bk} {o:Nat} {Tl:List Pr→Bk→Prop} {L:List Pr} (h:KpA (fun x=>x=o) H H1) (hl:H.length≤H1.length) (k:Told H1 o Tl L H2):Told H o Tl L H2:=⟨h.trans k.1,by have:=k.2.1; omega,k.2.2⟩
def EachK (H:List Bk) (r a o:Nat) (A:List Qn) (n:Nat) (q:Qn) (fv:V) (Tl:List Pr→Bk→Prop) (told:List Pr) (i:Nat) (F:Fr) (H1:List Bk):Prop :=
 ∃ Lk,runs (qbf q fun u a'=>(qb5 A n a').map (u ++ ·)) q.l i=some Lk∧Told H o Tl (told++Lk) H1 ∧
  F = [(0,.v (.ptr r 0)),(1,.v (.sc (.int .i64 a))),(2,.v fv),(32,.v (.agg [.sc (.int .i64 q.k0),.sc (.int .i64 q.k1),.sc (.int .i64 q.k2),.sc (.int .i64 q.k3)])),(33,.v (.sc (.int .i64 i)))]
theorem weach {g:FuncId} {first cap':List V} {o:Nat} {Tl:List Pr→Bk→Prop} (hg:Tells g first cap' o Tl) {b nb mb cap r:Nat} {s:Ar} {es:List Pr} (hor:o≠r) (hon:o≠nb) (hom:o≠mb) :
  ∀ (n a:Nat) (H:List Bk) (told L:List Pr) (bk:Bk),TrA H r b nb mb cap s es→H[o]? = some bk→Tl told bk→qb5 s.A n a=some L→told.length+L.length≤1000000000000 →
  AFn Tryz.prog 148 [.ptr r 0,.sc (.int .i64 a),.fn (.func g) first cap'] H fun y H'=>Told H o Tl (told++L) H':=by
 intro n
 induction n with
 | zero=>intro a H told L bk _ _ _ h; cases h
 | succ n ih =>
 intro a H told L bk hT ho htl hL hlen
 obtain ⟨n',q,hn',hq,hok,hcase⟩:=qnF hL
 cases hn'
 obtain ⟨hc,hm1,hm2,hl⟩:=hok
 have hc0:=hT.cap0 hq
 have hr:=hT.cr
 have hn:=hT.cn hc0
 have hal:=(List.getElem?_eq_some_iff.1 hq).1
 unfold trC at hr
 obtain ⟨t0,d0⟩:=qbs hq ((cap - s.A.length)*10)
 refine vwc (fn:=Tryz.f148) rfl ?_
 simp only [Tryz.f148,ql]
 refine AW.mid (fun F H1=>F = [(0,.v (.ptr r 0)),(1,.v (.sc (.int .i64 a))),(2,.v (.fn (.func g) first cap')),(6,.v (.ptr H.length 0))]∧Wk H1 (H ++ [ndB q])) (vwb ?_) ?_
 ·by_cases hql:q.full=true
  ·simp only [hql,qjW] at d0
   simp [hr,hn,hal,d0]
   rw [qp rfl]
   refine ⟨_,?_,rfl,qkX⟩
   simp [qz,qj,qm]
  ·have hql:q.full=false:=by simpa using hql
   simp only [hql,qep] at d0
   simp [hr,hn,hal,d0]
   rw [qp rfl]
   refine ⟨_,?_,rfl,Wk.refl _⟩
   simp [qz,qj,qm]
 ·rintro F H1 ⟨rfl,hwk⟩
  refine AW.wk hwk ?_
  have hol:=(List.getElem?_eq_some_iff.1 ho).1
  have hnd:(H ++ [ndB q])[H.length]? = some (ndB q):=by simp
  have hnd':=hnd
  have hk1:KpA (fun x=>x=o) H (H ++ [ndB q]):=KpA.refl.app
  have hl1:H.length≤(H ++ [ndB q]).length:=by simp
  have ho1:=hget (L := [ndB q]) ho
  clear hwk
  generalize H ++ [ndB q]=H1 at *
  unfold ndB lV at hnd'
  refine AW.mid (EachI H r a o H.length q (.fn (.func g) first cap') Tl told q.l.length) ?_ ?_
  ·refine AW.seq (vwb ?_)
   simp [hnd']
   refine AW.block (AW.count q.l.length (EachI H r a o H.length q (.fn (.func g) first cap') Tl told) ⟨[(0,.v (.ptr r 0)),(1,.v (.sc (.int .i64 a))),(2,.v (.fn (.func g) first cap')),(6,.v (.ptr H.length 0)),(19,.v (lV q.l)),(20,.v (.sc (.int .i64 q.l.length))),(21,.v (.sc (.int .i64 0)))],?_,⟨hk1,hl1,bk,ho1,by simpa using htl⟩,hnd,rfl⟩ ?_)
   ·simp [qz,qj,qm,lV]
   rintro k F H2 hk ⟨g1,g2,rfl⟩
   unfold lV
   by_cases hkl:k=q.l.length
   ·subst hkl
    refine AW.seq (vwb ?_)
    simp
    refine AW.seq (vwb ?_)
    simp
    refine ⟨_,?_,g1,g2,rfl⟩
    simp [qz,qj,qm,lV]
   ·have hlt:k<q.l.length:=by omega
    have hltI:(k:Int)<(q.l.length:Int):=by omega
    have hrow:=rowP hlt
    obtain ⟨e1,e2,bk1,e3,e4⟩:=g1
    have hlen1:(told++q.l.take k).length≤1000000000000:=by
     have:q.l.length≤L.length:=by
      rcases hcase with ⟨_,rfl⟩ | ⟨_,hrun⟩
      ·exact Nat.le_refl _
      ·exact qd3 hrun (Nat.zero_le _) rfl
     simp
     omega
    have hTell:=hg.tell _ bk1 (H2 ++ [prB q.l[k]]) q.l[k] (hget e3) e4 hlen1
    have htk:told++q.l.take k ++ [q.l[k]]=told++q.l.take (k+1):=by rw [List.append_assoc,← List.take_succ_eq_append_getElem hlt]
    rw [htk] at hTell
    clear htk
    generalize q.l[k]=rc at *
    unfold Pr.v at hTell
    rw [Pr.cs_eq] at hTell hrow
    unfold prB at hTell
    simp only [List.append_assoc,List.cons_append,List.nil_append] at hTell
    refine AW.seq (vwb ?_)
    simp [hltI]
    refine AW.seq (vwb ?_)
    simp
    refine AW.seq (AW.block (AW.seq (vwb ?_)))
    simp [hltI,hlt,hrow]
    rw [qp rfl]
    refine AW.sub [(0,.v (.ptr r 0)),(1,.v (.sc (.int .i64 a))),(2,.v (.fn (.func g) first cap')),(6,.v (.ptr H.length 0)),(19,.v (lV q.l)),(20,.v (.sc (.int .i64 q.l.length))),(21,.v (.sc (.int .i64 k))),(8,.v (.ptr H2.length 0))] (by simp [qbh,qm,lV]) ?_
    refine vwb ?_
    simp
    refine qc.of hTell ?_
    rintro y H3 ⟨k1,k2,k3⟩
    simp
    refine vwb ?_
    have w1:IntKind.i64.wrap ((k:Int)+1)=(k+1:Nat):=by rw [wrap_i64] <;> omega
    simp [w1]
    refine ⟨_,?_,⟨(e1.app).trans k1,by simp at k2; omega,k3⟩,k1 _ _ (by omega) (hget g2),rfl⟩
    simp [qz,qj,qm]
  ·rintro F H2 ⟨g1,g2,rfl⟩
   rw [List.take_length] at g1
   unfold ndB lV at g2
   refine AW.seq (vwb ?_)
   simp [g2]
   rcases hcase with ⟨hs,rfl⟩ | ⟨hs,hrun⟩
   ·refine AW.cond false (by simp [hs]) (fun e=>by cases e) (fun _ => ?_)
    refine vwb ?_
    simp
    exact g1
   ·refine AW.cond true (by simp [hs]) (fun _ => ?_) (fun e=>by cases e)
    refine AW.seq (vwb ?_)
    simp [g2]
    refine AW.block (AW.count 4 (EachK H r a o s.A n q (.fn (.func g) first cap') Tl told) ⟨[(0,.v (.ptr r 0)),(1,.v (.sc (.int .i64 a))),(2,.v (.fn (.func g) first cap')),(32,.v (.agg [.sc (.int .i64 q.k0),.sc (.int .i64 q.k1),.sc (.int .i64 q.k2),.sc (.int .i64 q.k3)])),(33,.v (.sc (.int .i64 0)))],?_,q.l,rfl,g1,rfl⟩ ?_)
    ·simp [qz,qj,qm]
    rintro k F H3 hk ⟨Lk,j1,j2,rfl⟩
    by_cases hk4:k=4
    ·subst hk4
     rw [hrun] at j1
     cases j1
     refine AW.seq (vwb ?_)
     simp
     refine AW.seq (vwb ?_)
     simp
     exact j2
    ·have hlt:k<4:=by omega
     have hltI:(k:Int)<4:=by omega
     obtain ⟨a',u',j3,j4,j5⟩:=qer hrun hlt j1
     obtain ⟨v,j6,rfl⟩:∃ v,qb5 s.A n a'=some v∧u'=Lk++v:=by
      cases hE:qb5 s.A n a' with
      | none=>rw [hE] at j4; cases j4
      | some v =>
       rw [hE] at j4
       simp at j4
       exact ⟨v,rfl,j4.symm⟩
     have hlenK:=qd3 hrun (i:=k+1) (by omega) j5
     simp at hlenK
     obtain ⟨e1,e2,bk1,e3,e4⟩:=j2
     have hT3:=hT.keep e1 (Ne.symm hor) (fun _=>Ne.symm hon) (Ne.symm hom)
     have hR:=ih a' H3 (told++Lk) v bk1 hT3 e3 e4 j6 (by simp; omega)
     have hkg:=ql5 (q:=q) hlt
     rw [j3] at hkg
     refine AW.seq (vwb ?_)
     simp [hltI]
     refine AW.seq (vwb ?_)
     simp
     refine AW.seq (AW.block (AW.seq (vwb ?_)))
     simp [hltI,hlt,hkg]
     refine AW.sub [(0,.v (.ptr r 0)),(1,.v (.sc (.int .i64 a))),(2,.v (.fn (.func g) first cap')),(32,.v (.agg [.sc (.int .i64 q.k0),.sc (.int .i64 q.k1),.sc (.int .i64 q.k2),.sc (.int .i64 q.k3)])),(33,.v (.sc (.int .i64 k))),(10,.v (.sc (.int .i64 a')))] (by simp [qbh,qm]) ?_
     refine vwb ?_
     simp
     refine qc.of hR ?_
     rintro y H4 hT4
     simp
     refine vwb ?_
     have w1:IntKind.i64.wrap ((k:Int)+1)=(k+1:Nat):=by rw [wrap_i64] <;> omega
     simp [w1]
     refine ⟨_,?_,Lk++v,j5,by have:=Told.trans e1 e2 hT4; simpa [List.append_assoc] using this,rfl⟩
     simp [qz,qj,qm]
def Vx (l:List Pr):SV := .own true 55 l.length 4 (l.flatMap Pr.cs)
theorem wtold (f:FuncId) (hen:∀ (told:List Pr) (H:List Bk) (o:Nat) (rc:Pr),H[o]? = some (.cells [Vx told])→told.length≤1000000000000→AFn Tryz.prog f [rc.v,.ptr o 0] H fun y H'=>H'=(H ++ [prB rc]).set o (.cells [Vx (told ++ [rc])])) (o:Nat):Tells f [] [.ptr o 0] o fun told bk=>bk = .cells [Vx told]:=⟨by
 rintro told bk H rc ho rfl hl
 have h:=hen told H o rc ho hl
 refine AFn.conv h ?_
 rintro y H' rfl
 have hol:=(List.getElem?_eq_some_iff.1 ho).1
 exact ⟨_,⟨KpA.refl.app.set rfl,by simp,_,List.getElem?_set_self (by simp; omega),rfl⟩,fun _ _ _ h=>h⟩⟩
def reC (r:Re):Bk := .cells [.v (.sc (.int .i64 r.x0)),.v (.sc (.int .i64 r.y0)),.v (.sc (.int .i64 r.x1)),.v (.sc (.int .i64 r.y1))]
def WinI (H:List Bk) (r a o:Nat) (q:Qn) (rc:Re) (fv:V) (Tl:List Pr→Bk→Prop) (told:List Pr) (i:Nat) (F:Fr) (H1:List Bk):Prop :=
 Told H o Tl (told++(q.l.take i).filter fun x=>yV rc x.at_) H1∧H1[H.length]? = some (reC rc)∧H1[H.length+1]? = some (ndB q) ∧
  F = [(0,.v (.ptr r 0)),(1,.v (.sc (.int .i64 a))),(3,.v fv),(6,.v (.ptr H.length 0)),(8,.v (.ptr (H.length+1) 0)),(47,.v (lV q.l)),(48,.v (.sc (.int .i64 q.l.length))),(49,.v (.sc (.int .i64 i)))]
def WinK (H:List Bk) (r a o:Nat) (A:List Qn) (n:Nat) (q:Qn) (rc:Re) (fv:V) (Tl:List Pr→Bk→Prop) (told:List Pr) (i:Nat) (F:Fr) (H1:List Bk):Prop :=
 ∃ Lk,runs (qbf q fun u a'=>(qcD A rc n a').map (u ++ ·)) (q.l.filter fun r=>yV rc r.at_) i=some Lk∧Told H o Tl (told++Lk) H1∧H1[H.length]? = some (reC rc) ∧
  F = [(0,.v (.ptr r 0)),(1,.v (.sc (.int .i64 a))),(3,.v fv),(6,.v (.ptr H.length 0)),(64,.v (.agg [.sc (.int .i64 q.k0),.sc (.int .i64 q.k1),.sc (.int .i64 q.k2),.sc (.int .i64 q.k3)])),(65,.v (.sc (.int .i64 i)))]
def WinP (A:List Qn) (n:Nat) (q:Qn) (rc:Re) (L:List Pr):Prop:=(q.split=false∧L=q.l.filter fun r=>yV rc r.at_)∨(q.split=true∧runs (qbf q fun u a'=>(qcD A rc n a').map (u ++ ·)) (q.l.filter fun r=>yV rc r.at_) 4=some L)
theorem wwindow {g:FuncId} {first cap':List V} {o:Nat} {Tl:List Pr→Bk→Prop} (hg:Tells g first cap' o Tl) {b nb mb cap r:Nat} {s:Ar} {es:List Pr} (hor:o≠r) (hon:o≠nb) (hom:o≠mb) (rc:Re) :
  ∀ (n a:Nat) (H:List Bk) (told L:List Pr) (bk:Bk),TrA H r b nb mb cap s es→H[o]? = some bk→Tl told bk→qcD s.A rc n a=some L→told.length+L.length≤1000000000000 →
  AFn Tryz.prog 100 [.ptr r 0,.sc (.int .i64 a),rc.v,.fn (.func g) first cap'] H fun y H'=>Told H o Tl (told++L) H':=by
 intro n
 induction n with
 | zero=>intro a H told L bk _ _ _ h; cases h
 | succ n ih =>
 intro a H told L bk hT ho htl hL hlen
 obtain ⟨n',q,hn',hq,hok,hcase⟩:=qmU hL
 cases hn'
 obtain ⟨hc,hm1,hm2,hl⟩:=hok
 have hc0:=hT.cap0 hq
 have hr:=hT.cr
 have hn:=hT.cn hc0
 have hal:=(List.getElem?_eq_some_iff.1 hq).1
 unfold trC at hr
 have hr':=fun L=>hget (L:=L) hr
 have hn':=fun L=>hget (L:=L) hn
 obtain ⟨t0,d0⟩:=qbs hq ((cap - s.A.length)*10)
 unfold Re.v Re.cs
 refine vwc (fn:=Tryz.f100) rfl ?_
 simp only [Tryz.f100,ql]
 refine AW.seq (vwb ?_)
 simp
 refine AW.mid (fun F H1=>F = [(0,.v (.ptr r 0)),(1,.v (.sc (.int .i64 a))),(3,.v (.fn (.func g) first cap')),(6,.v (.ptr H.length 0)),(8,.v (.ptr (H.length+1) 0))]∧Wk H1 (H ++ [reC rc] ++ [ndB q])) (vwb ?_) ?_
 ·have hsl:∀ xs:List V,xs.length=10→setCells (H ++ [reC rc,Bk.cells [.v (.sc (.int .i64 0)),.v (.sc (.int .i64 0)),.v (.sc (.int .i64 0)),.v (.sc (.int .i64 0)),.v (.sc (.int .i64 0)),.v (.sc (.int .i64 0)),.v (.sc (.int .i64 0)),.v (.sc (.int .i64 0)),.v (.sc (.bool false)),.v .nil]]) (H.length+1) 0 xs=H ++ [reC rc] ++ [.cells (xs.map .v)]:=fun xs hx=>by rw [XC hx]; simp
  unfold reC at hsl
  by_cases hql:q.full=true
  ·simp only [hql,qjW] at d0
   simp [hr',hn',hal,d0]
   rw [hsl _ rfl]
   refine ⟨_,?_,rfl,by have:=qkX (L:=H ++ [reC rc]) (q:=q); simpa [reC] using this⟩
   simp [qz,qj,qm]
  ·have hql:q.full=false:=by simpa using hql
   simp only [hql,qep] at d0
   simp [hr',hn',hal,d0]
   rw [hsl _ rfl]
   refine ⟨_,?_,rfl,by have:=Wk.refl (H ++ [reC rc] ++ [ndB q]); simpa [reC,ndB,lV] using this⟩
   simp [qz,qj,qm]
 ·rintro F H1 ⟨rfl,hwk⟩
  refine AW.wk hwk ?_
  clear hwk
  have hol:=(List.getElem?_eq_some_iff.1 ho).1
  have hk1:KpA (fun x=>x=o) H (H ++ [reC rc] ++ [ndB q]):=KpA.refl.app.app
  have hl1:H.length≤(H ++ [reC rc] ++ [ndB q]).length:=by simp
  have ho1:=hget (L := [ndB q]) (hget (L := [reC rc]) ho)
  have hrc1:(H ++ [reC rc] ++ [ndB q])[H.length]? = some (reC rc):=by simp
  have hnd1:(H ++ [reC rc] ++ [ndB q])[H.length+1]? = some (ndB q):=by simp
  have hT1:=(hT.app (L := [reC rc])).app (L := [ndB q])
  have hlH1:(H ++ [reC rc] ++ [ndB q]).length=H.length+2:=by simp
  generalize H ++ [reC rc] ++ [ndB q]=H1 at *
  have hnd1':=hnd1
  have hrc1':=hrc1
  unfold ndB lV at hnd1'
  unfold reC at hrc1'
  have hB:=qiV q.c
  have hM:=qbZ (JD q.c).1 rc
  have hI:=gIn (JD q.c).1 rc
  generalize JD q.c=bx at *
  obtain ⟨bx,bok⟩:=bx
  simp only at hB hM hI hcase
  unfold Ce.v Ce.cs Re.v Re.cs at hB
  unfold Re.v Re.cs at hM hI
  refine AW.seq (vwb ?_)
  simp [hnd1']
  refine qc.pure hB rfl rfl ?_
  simp
  rw [qp rfl]
  refine AW.sub [(0,.v (.ptr r 0)),(1,.v (.sc (.int .i64 a))),(3,.v (.fn (.func g) first cap')),(6,.v (.ptr H.length 0)),(8,.v (.ptr (H.length+1) 0)),(9,.v (.ptr H1.length 0))] (by simp [qbh,qm]) ?_
  have hT2:=hT1.app (L := [reC bx])
  have hk2:KpA (fun x=>x=o) H (H1 ++ [reC bx]):=hk1.app
  have hl2:H.length≤(H1 ++ [reC bx]).length:=by simp; omega
  have ho2:=hget (L := [reC bx]) ho1
  have hrc2:=hget (L := [reC bx]) hrc1
  have hnd2:=hget (L := [reC bx]) hnd1
  have hbx2:(H1 ++ [reC bx])[H1.length]? = some (reC bx):=by simp
  change AW _ _ _ _ ⟨_,H1 ++ [reC bx]⟩
  generalize H1 ++ [reC bx]=H2 at *
  have hrc2':=hrc2
  have hnd2':=hnd2
  unfold reC at hrc2' hbx2
  unfold ndB lV at hnd2'
  have hToldH2:Told H o Tl told H2:=⟨hk2,hl2,bk,ho2,htl⟩
  refine AW.mid (fun F H3=>F = [(0,.v (.ptr r 0)),(1,.v (.sc (.int .i64 a))),(3,.v (.fn (.func g) first cap')),(6,.v (.ptr H.length 0)),(8,.v (.ptr (H.length+1) 0))]∧H3=H2∧WinP s.A n q rc L) (AW.block (AW.seq (vwb ?_))) ?_
  ·by_cases hm0:q.many=0
   ·have hm0':(q.many==0)=true:=by simpa using hm0
    rcases hcase with ⟨_,rfl⟩ | ⟨h,_⟩ | ⟨h,_⟩
    rotate_left
    ·exact absurd (.inl hm0) h
    ·exact absurd (.inl hm0) h
    simp [hnd2',hm0']
    refine vwb ?_
    simp
    exact hToldH2
   ·have hm0':(q.many==0)=false:=by simpa using hm0
    simp [hnd2',hm0',hbx2,hrc2']
    refine qc.pure hM rfl rfl ?_
    rcases hcase with ⟨h,rfl⟩ | ⟨h,hin,hE⟩ | ⟨h,hin,hrest⟩
    ·have hme:qE bx rc=false:=h.resolve_left hm0
     simp [hme]
     refine vwb ?_
     simp
     exact hToldH2
    ·have hme:qE bx rc=true:=by
      cases hb:qE bx rc with
      | true=>rfl
      | false=>exact absurd (.inr hb) h
     have hEa:=weach hg hor hon hom 18 a H2 told L bk hT2 ho2 htl hE hlen
     simp [hme]
     refine vwb ?_
     simp [hbx2,hrc2']
     refine qc.pure hI rfl rfl ?_
     simp [hin]
     refine qc.of hEa ?_
     rintro y H3 hT3
     simp
     exact Told.trans hk2 hl2 hT3
    ·have hme:qE bx rc=true:=by
      cases hb:qE bx rc with
      | true=>rfl
      | false=>exact absurd (.inr hb) h
     simp [hme]
     refine vwb ?_
     simp [hbx2,hrc2']
     refine qc.pure hI rfl rfl ?_
     simp [hin]
     refine ⟨_,?_,rfl,hrest⟩
     simp [qz,qj,qm]
  ·rintro F H3 ⟨rfl,rfl,hwin⟩
   clear hcase
   have hlenR:(q.l.filter fun r=>yV rc r.at_).length≤L.length:=by
    rcases hwin with ⟨_,rfl⟩ | ⟨_,hrun⟩
    ·exact Nat.le_refl _
    ·exact qd3 hrun (Nat.zero_le _) rfl
   refine AW.mid (WinI H r a o q rc (.fn (.func g) first cap') Tl told q.l.length) ?_ ?_
   ·refine AW.seq (vwb ?_)
    simp [hnd2']
    refine AW.block (AW.count q.l.length (WinI H r a o q rc (.fn (.func g) first cap') Tl told) ⟨[(0,.v (.ptr r 0)),(1,.v (.sc (.int .i64 a))),(3,.v (.fn (.func g) first cap')),(6,.v (.ptr H.length 0)),(8,.v (.ptr (H.length+1) 0)),(47,.v (lV q.l)),(48,.v (.sc (.int .i64 q.l.length))),(49,.v (.sc (.int .i64 0)))],?_,⟨hk2,hl2,bk,ho2,by simpa using htl⟩,hrc2,hnd2,rfl⟩ ?_)
    ·simp [qz,qj,qm,lV]
    rintro k F H4 hk ⟨g1,g2,g3,rfl⟩
    unfold lV
    by_cases hkl:k=q.l.length
    ·subst hkl
     refine AW.seq (vwb ?_)
     simp
     refine AW.seq (vwb ?_)
     simp
     refine ⟨_,?_,g1,g2,g3,rfl⟩
     simp [qz,qj,qm,lV]
    ·have hlt:k<q.l.length:=by omega
     have hltI:(k:Int)<(q.l.length:Int):=by omega
     have hrow:=rowP hlt
     have hfil:(q.l.take (k+1)).filter (fun x=>yV rc x.at_)=(q.l.take k).filter (fun x=>yV rc x.at_)++(if yV rc q.l[k].at_ then [q.l[k]] else []):=by
      rw [List.take_succ_eq_append_getElem hlt,List.filter_append]
      cases hh:yV rc q.l[k].at_ <;> simp [hh]
     obtain ⟨e1,e2,bk1,e3,e4⟩:=g1
     have hlen1:(told++(q.l.take k).filter fun x=>yV rc x.at_).length≤1000000000000:=by
      have:((q.l.take k).filter fun x=>yV rc x.at_).length≤(q.l.filter fun x=>yV rc x.at_).length:=by
       conv=>rhs; rw [← List.take_append_drop k q.l,List.filter_append]
       simp
      simp only [List.length_append]
      omega
     have hTell:=hg.tell _ bk1 (H4 ++ [prB q.l[k]]) q.l[k] (hget e3) e4 hlen1
     have hHas:=gHas rc q.l[k].at_
     have hxb:(H4 ++ [prB q.l[k]])[H4.length]? = some (prB q.l[k]):=by simp
     have hrc5:=hget (L := [prB q.l[k]]) g2
     have hnd5:=hget (L := [prB q.l[k]]) g3
     generalize q.l[k]=x at *
     unfold Pr.v at hTell
     rw [Pr.cs_eq] at hTell hrow
     unfold Re.v Re.cs Pt.v Pt.cs at hHas
     simp only [List.append_assoc,List.cons_append,List.nil_append] at hTell
     refine AW.seq (vwb ?_)
     simp [hltI]
     refine AW.seq (vwb ?_)
     simp
     refine AW.seq (AW.block (AW.seq (vwb ?_)))
     simp [hltI,hlt,hrow]
     rw [qp rfl]
     change AW _ _ _ _ ⟨_,H4 ++ [prB x]⟩
     have e5:KpA (fun x=>x=o) H (H4 ++ [prB x]):=e1.app
     have e6:H.length≤(H4 ++ [prB x]).length:=by simp; omega
     have e7:=hget (L := [prB x]) e3
     refine AW.sub [(0,.v (.ptr r 0)),(1,.v (.sc (.int .i64 a))),(3,.v (.fn (.func g) first cap')),(6,.v (.ptr H.length 0)),(8,.v (.ptr (H.length+1) 0)),(47,.v (lV q.l)),(48,.v (.sc (.int .i64 q.l.length))),(49,.v (.sc (.int .i64 k))),(12,.v (.ptr H4.length 0))] (by simp [qbh,qm,lV]) ?_
     generalize H4 ++ [prB x]=H5 at *
     unfold prB at hxb
     have hrc5':=hrc5
     unfold reC at hrc5'
     have w1:IntKind.i64.wrap ((k:Int)+1)=(k+1:Nat):=by rw [wrap_i64] <;> omega
     refine vwb ?_
     simp [hxb,hrc5']
     refine qc.pure hHas rfl rfl ?_
     cases hh:yV rc x.at_ with
     | false =>
      rw [hh] at hfil
      simp
      refine vwb ?_
      simp [w1]
      refine ⟨_,?_,⟨e5,e6,bk1,e7,by rw [hfil]; simpa using e4⟩,hrc5,hnd5,rfl⟩
      simp [qz,qj,qm]
     | true =>
      rw [hh] at hfil
      simp [hxb]
      refine qc.of hTell ?_
      rintro y H6 ⟨k1,k2,k3⟩
      simp
      refine vwb ?_
      simp [w1]
      refine ⟨_,?_,⟨e5.trans k1,by omega,by rw [hfil]; simpa using k3⟩,k1 _ _ (by omega) hrc5,k1 _ _ (by omega) hnd5,rfl⟩
      simp [qz,qj,qm]
   ·rintro F H3 ⟨g1,g2,g3,rfl⟩
    rw [List.take_length] at g1
    unfold ndB lV at g3
    refine AW.seq (vwb ?_)
    simp [g3]
    rcases hwin with ⟨hs,rfl⟩ | ⟨hs,hrun⟩
    ·refine AW.cond false (by simp [hs]) (fun e=>by cases e) (fun _ => ?_)
     refine vwb ?_
     simp
     exact g1
    ·refine AW.cond true (by simp [hs]) (fun _ => ?_) (fun e=>by cases e)
     refine AW.seq (vwb ?_)
     simp [g3]
     refine AW.block (AW.count 4 (WinK H r a o s.A n q rc (.fn (.func g) first cap') Tl told) ⟨[(0,.v (.ptr r 0)),(1,.v (.sc (.int .i64 a))),(3,.v (.fn (.func g) first cap')),(6,.v (.ptr H.length 0)),(64,.v (.agg [.sc (.int .i64 q.k0),.sc (.int .i64 q.k1),.sc (.int .i64 q.k2),.sc (.int .i64 q.k3)])),(65,.v (.sc (.int .i64 0)))],?_,_,rfl,g1,g2,rfl⟩ ?_)
     ·simp [qz,qj,qm]
     rintro k F H4 hk ⟨Lk,j1,j2,j7,rfl⟩
     by_cases hk4:k=4
     ·subst hk4
      rw [hrun] at j1
      cases j1
      refine AW.seq (vwb ?_)
      simp
      refine AW.seq (vwb ?_)
      simp
      exact j2
     ·have hlt:k<4:=by omega
      have hltI:(k:Int)<4:=by omega
      obtain ⟨a',u',j3,j4,j5⟩:=qer hrun hlt j1
      obtain ⟨v,j6,rfl⟩:=map_step j4
      have hlenK:=qd3 hrun (i:=k+1) (by omega) j5
      simp at hlenK
      obtain ⟨e1,e2,bk1,e3,e4⟩:=j2
      have hT3:=hT.keep e1 (Ne.symm hor) (fun _=>Ne.symm hon) (Ne.symm hom)
      have hR:=ih a' H4 (told++Lk) v bk1 hT3 e3 e4 j6 (by simp; omega)
      have hkg:=ql5 (q:=q) hlt
      rw [j3] at hkg
      have j8:=j7
      unfold reC at j8
      unfold Re.v Re.cs at hR
      refine AW.seq (vwb ?_)
      simp [hltI]
      refine AW.seq (vwb ?_)
      simp
      refine AW.seq (AW.block (AW.seq (vwb ?_)))
      simp [hltI,hlt,hkg]
      refine AW.sub [(0,.v (.ptr r 0)),(1,.v (.sc (.int .i64 a))),(3,.v (.fn (.func g) first cap')),(6,.v (.ptr H.length 0)),(64,.v (.agg [.sc (.int .i64 q.k0),.sc (.int .i64 q.k1),.sc (.int .i64 q.k2),.sc (.int .i64 q.k3)])),(65,.v (.sc (.int .i64 k))),(14,.v (.sc (.int .i64 a')))] (by simp [qbh,qm]) ?_
      refine vwb ?_
      simp [j8]
      refine qc.of hR ?_
      rintro y H5 hT4
      simp
      refine vwb ?_
      have w1:IntKind.i64.wrap ((k:Int)+1)=(k+1:Nat):=by rw [wrap_i64] <;> omega
      simp [w1]
      refine ⟨_,?_,Lk++v,j5,by have:=Told.trans e1 e2 hT4; simpa [List.append_assoc] using this,hT4.1 _ _ (by omega) j7,rfl⟩
      simp [qz,qj,qm]
theorem scs_recs (zs:List Pr):scs qcf zs=zs.flatMap Pr.cs:=rfl
theorem wsorted (H:List Bk) (L:List Pr) (hL:L.length≤1000000000000):OFn Tryz.prog 102 55 L.length 4 (L.flatMap Pr.cs) [] H fun n' cs' H'=>∃ ys,qgg L ys∧n'=ys.length∧cs'=ys.flatMap Pr.cs∧KpA (fun _=>False) H H'∧H.length≤H'.length:=by
 refine OFn.intro (fn:=Tryz.f102) (t:=2) (by kernel_rfl) rfl (by kernel_rfl) (by decide) (by kernel_rfl) ?_
 simp only [Tryz.f102,ql]
 refine AW.seq (AW.boxOwn (o1:=_) (rest:=_) (pr:=true) (e:=55) (n:=L.length) (sz:=4) (cs:=L.flatMap Pr.cs) rfl rfl rfl rfl (by decide) rfl ?_)
 simp
 refine AW.seq (AW.qh0 (i:=H.length) (ks := [.own true 55 L.length 4 (L.flatMap Pr.cs)]) (zs:=L) (n:=L.length) qoS ⟨_,Tryz.func149,rfl,by kernel_rfl⟩ (fun x v hv=>by simp [qcf] at hv; rcases hv with rfl | rfl | rfl | rfl <;> rfl) rfl rfl rfl rfl rfl rfl rfl rfl rfl rfl rfl rfl rfl (by decide) (by decide) (by decide) (by decide) (by decide) (by decide) (by decide) (by decide) (by decide) (by simp) (by simp) ⟨_,Tryz.underlying33⟩ (by rfl) (by simp) rfl rfl (by omega) ?_)
 rintro ys hs hl
 rw [scs_recs]
 have hset:qo (H ++ [Bk.cells [SV.own true 55 L.length 4 (List.flatMap Pr.cs L)]]) H.length 0 (SV.own true 55 L.length 4 (List.flatMap Pr.cs ys))=H ++ [.cells [.own true 55 L.length 4 (ys.flatMap Pr.cs)]]:=by simp [qo]
 rw [hset]
 simp [QY]
 refine AW.seq (AW.loadTake (o1:=_) (rest:=_) (x:=1) (d:=7) (i:=H.length) (off:=0) (ks := [.own true 55 L.length 4 (ys.flatMap Pr.cs)]) (pr:=true) (e:=55) (n:=L.length) (sz:=4) (cs:=ys.flatMap Pr.cs) rfl rfl rfl rfl (by kernel_rfl) (by decide) (by simp [vO,QI,qm,del]) (by simp) rfl ?_)
 simp
 have hset2:qo (H ++ [Bk.cells [SV.own true 55 L.length 4 (List.flatMap Pr.cs ys)]]) H.length 0 .any=H ++ [.cells [.any]]:=by simp [qo]
 rw [hset2]
 refine vwb ?_
 simp [oEnd,ofin]
 exact ⟨ys,hs,hl.symm,rfl,KpA.refl.app⟩
theorem KpA.mono {I J:Nat→Prop} {H H1:List Bk} (h:KpA I H H1) (hIJ:∀ x,I x→J x):KpA J H H1:=fun i b hi hb=>h i b (fun e=>hi (hIJ i e)) hb
theorem KpA.new {H H1:List Bk} (h:KpA (fun i=>H.length≤i) H H1):KpA (fun _=>False) H H1:=fun i b _ hb=>h i b (by
 have:=(List.getElem?_eq_some_iff.1 hb).1
 omega) hb
theorem wwin1 (told:List Pr) (H:List Bk) (o:Nat) (rc:Pr) (ho:H[o]? = some (.cells [Vx told])) (hl:told.length≤1000000000000):AFn Tryz.prog 101 [rc.v,.ptr o 0] H fun y H'=>H'=(H ++ [prB rc]).set o (.cells [Vx (told ++ [rc])]):=by
 unfold Vx at ho ⊢
 rw [qgL,qh1]
 unfold Pr.v Pr.cs prB
 have hol:=(List.getElem?_eq_some_iff.1 ho).1
 have ho':=fun L=>hget (L:=L) ho
 refine vwc (fn:=Tryz.f101) rfl ?_
 simp only [Tryz.f101,ql]
 refine AW.seq (vwb ?_)
 simp
 have hrc:(H ++ [Bk.cells [.v (.sc (.int .i64 rc.id)),.v (.sc (.int .i64 rc.at_.x)),.v (.sc (.int .i64 rc.at_.y)),.v (.sc (.int .i64 rc.lab))]])[H.length]? = some (.cells [.v (.sc (.int .i64 rc.id)),.v (.sc (.int .i64 rc.at_.x)),.v (.sc (.int .i64 rc.at_.y)),.v (.sc (.int .i64 rc.lab))]):=by simp
 have ho2:=ho' [Bk.cells [.v (.sc (.int .i64 rc.id)),.v (.sc (.int .i64 rc.at_.x)),.v (.sc (.int .i64 rc.at_.y)),.v (.sc (.int .i64 rc.lab))]]
 generalize H ++ [_]=H2 at *
 have hol2:=(List.getElem?_eq_some_iff.1 ho2).1
 have f1:∀ x,qo H2 o 0 x=H2.set o (.cells [x]):=fun x=>by rw [zF ho2]; rfl
 have f2:∀ x z,qo (H2.set o (.cells [x])) o 0 z=H2.set o (.cells [z]):=fun x z=>by rw [zF (List.getElem?_set_self hol2),List.set_set]; rfl
 have f3:∀ K,(H2.set o K)[o]? = some K:=fun K=>List.getElem?_set_self hol2
 have f4:∀ K,(H2.set o K)[H.length]? = some (.cells [.v (.sc (.int .i64 rc.id)),.v (.sc (.int .i64 rc.at_.x)),.v (.sc (.int .i64 rc.at_.y)),.v (.sc (.int .i64 rc.lab))]):=fun K=>by rw [List.getElem?_set_ne (by omega)]; exact hrc
 refine vwb ?_
 simp [ho2,hrc,f1,f2,f3,f4]
 exact ⟨⟨by omega,by omega⟩,rfl⟩
theorem wWindow {H:List Bk} {r b nb mb cap:Nat} {s:Ar} {es:List Pr} (hT:TrA H r b nb mb cap s es) (h0:0<s.A.length) (rc:Re) (hw:qd rc=true→∃ L,qcD s.A rc 18 0=some L∧L.length≤1000000000000) :
  AFn Tryz.prog 53 [.ptr r 0,rc.v] H fun y H'=>∃ ys,y=lV ys∧(qd rc=false→ys = [])∧(qd rc=true→∃ L,qcD s.A rc 18 0=some L∧qgg L ys)∧KpA (fun _=>False) H H':=by
 refine AFn.conv (Q:=fun y H'=>(∃ ys,y=lV ys∧qd rc=true∧(∃ L,qcD s.A rc 18 0=some L∧qgg L ys)∧KpA (fun _=>False) H H')∨(y = .nil∧qd rc=false∧KpA (fun _=>False) H H')) ?_ fun y H' hy => ?_
 rotate_left
 ·rcases hy with ⟨ys,rfl,h1,h2,h3⟩ | ⟨rfl,h1,h2⟩
  ·exact ⟨_,⟨ys,rfl,fun e=>by simp [h1] at e,fun _=>h2,h3⟩,fun _ _ _ h=>h⟩
  ·exact ⟨lV [],⟨[],rfl,fun _=>rfl,fun e=>by simp [h1] at e,h2⟩,fun _ _ _ h=>qaO h⟩
 have hMade:=fun L=>qnZ (hT.app (L:=L))
 have hR:=Jc rc
 have hcr:=hT.cr
 have hcn:=hT.cn
 have hcm:=hT.cm
 have hrl:=hT.rl
 have hml:=(List.getElem?_eq_some_iff.1 hT.cm).1
 have hnl:nb<H.length:=(List.getElem?_eq_some_iff.1 (hcn (by have:=hT.le; omega))).1
 unfold Re.v Re.cs at hR ⊢
 refine vwc (fn:=Tryz.f53) rfl ?_
 simp only [Tryz.f53,ql]
 refine AW.seq (vwb ?_)
 simp
 refine AW.seq (vwb ?_)
 simp
 refine qc.of (hMade _) ?_
 rintro y H1 ⟨rfl,rfl⟩
 simp [h0]
 refine qc.pure hR rfl rfl ?_
 cases hrr:qd rc with
 | false =>
  simp
  exact KpA.refl.app
 | true =>
  simp
  obtain ⟨L,hL,hLl⟩:=hw hrr
  refine AW.seq (vwb ?_)
  simp
  refine AW.wk (Wk.cell (id:=H.length+1) (off:=0) (x := .v .nil) (y:=Vx []) (by simp; rfl) rfl (XR.nil rfl ⟨rfl,rfl,by decide⟩)) ?_
  have hset:∀ x:Bk,(H ++ [x,Bk.cells [SV.v V.nil]]).set (H.length+1) (.cells ([SV.v V.nil].set 0 (Vx [])))=H ++ [x,.cells [Vx []]]:=fun x=>by simp
  rw [hset]
  have hT1:=hT.app (L := [reC rc,.cells [Vx []]])
  have hW:=wwindow (wtold 101 (fun told H o rc ho hl=>wwin1 told H o rc ho hl) (H.length+1)) (by omega) (by omega) (by omega) rc 18 0 (H ++ [reC rc,.cells [Vx []]]) [] L _ hT1 (by simp) rfl hL (by simp; omega)
  have h5:(H ++ [reC rc,.cells [Vx []]])[H.length]? = some (reC rc):=by simp
  have hK1:KpA (fun i=>H.length≤i) H (H ++ [reC rc,.cells [Vx []]]):=KpA.refl.app
  have hl1:(H ++ [reC rc,.cells [Vx []]]).length=H.length+2:=by simp
  unfold reC Re.v Re.cs at *
  generalize H ++ [_,_]=H1 at *
  refine AW.seq (vwb ?_)
  simp [h5]
  refine qc.of hW ?_
  rintro y H2 ⟨k1,k2,bk,k3,rfl⟩
  simp only [List.nil_append] at k3
  simp
  have hol:=(List.getElem?_eq_some_iff.1 k3).1
  have hS:=wsorted (qo H2 (H.length+1) 0 .any) L hLl
  unfold Vx at k3
  have hset3:qo H2 (H.length+1) 0 .any=H2.set (H.length+1) (.cells [.any]):=by rw [zF k3]; rfl
  rw [hset3] at hS
  refine AW.seq (AW.ownCallL (o1:=_) (o2:=_) (rest:=_) (x:=5) (t:=18) (d:=19) (i:=H.length+1) (off:=0) (ks := [.own true 55 L.length 4 (L.flatMap Pr.cs)]) (e:=55) (n:=L.length) (sz:=4) (cs:=L.flatMap Pr.cs) rfl rfl rfl rfl (by kernel_rfl) rfl rfl rfl (by decide) (by decide) (by decide) (by simp [qm]) k3 rfl (by rw [hset3]; exact hS) ?_)
  rintro n' cs' H3 ⟨ys,y1,rfl,rfl,y2,y3⟩
  have hlt:ys.length≤1000000000000:=by rw [y1.1.length_eq]; exact hLl
  simp [QY,calm,del]
  refine vwb ?_
  simp
  refine ⟨ys,rfl,⟨L,hL,y1⟩,KpA.new ?_⟩
  exact ((hK1.trans (k1.mono fun x (hx:x=H.length+1)=>by omega)).set (by omega)).trans (y2.mono fun _ h=>h.elim)
def qe4 (k:Int):List Pr→Nat→Option (Nat×Pr)
 | [],_=>none
 | e::es,i=>if k=e.id then some (i,e) else qe4 k es (i+1)
theorem qdr {k:Int}:∀ {es:List Pr} {i:Nat},qcp (.int .i64) (.int .i64 k) (es.map entP) i=some ((qe4 k es i).map fun p=>(p.1,p.2.v))
 | [],i=>rfl
 | e::es,i=>by
  have:Instr.sameNow (.int .i64) (.int .i64 k) (.int .i64 e.id)=some (k==e.id):=rfl
  simp only [List.map_cons,entP,qcp,qe4,this]
  by_cases h:k=e.id
  ·simp [h]
  ·have:(k==e.id)=false:=by simpa using h
   rw [this,if_neg h]
   exact qdr
theorem qio {s:Pr}:∀ {es:List Pr} {i:Nat},s∈es→(es.map Pr.id).Nodup→∃ j,qe4 s.id es i=some (i+j,s)∧es.eraseIdx j=es.filter fun t => !decide (t.id=s.id)
 | e::es,i,h,hn=>by
  rw [List.map_cons,List.nodup_cons] at hn
  unfold qe4
  by_cases he:s.id=e.id
  ·have hs:s=e:=by
    rcases List.mem_cons.1 h with h | h
    ·exact h
    ·exact absurd (List.mem_map.2 ⟨s,h,he⟩) hn.1
   subst hs
   refine ⟨0,by simp,?_⟩
   rw [List.eraseIdx_cons_zero,List.filter_cons]
   simp only [decide_true,Bool.not_true,Bool.false_eq_true,if_false]
   refine (List.filter_eq_self.2 fun x hx => ?_).symm
   have:x.id≠s.id:=fun e=>hn.1 (List.mem_map.2 ⟨x,hx,e⟩)
   simpa using this
  ·rw [if_neg he]
   have hm:s∈es:=by
    rcases List.mem_cons.1 h with rfl | h
    ·exact absurd rfl he
    ·exact h
   obtain ⟨j,h1,h2⟩:=qio (i:=i+1) hm hn.2
   refine ⟨j+1,by rw [h1]; congr 2; omega,?_⟩
   rw [List.eraseIdx_cons_succ,h2,List.filter_cons,if_pos]
   simpa using fun e=>he e.symm
def VY (S:List Pr) (k:Int):Option Pr:=S.find? fun s=>decide (s.id=k)
theorem zvPr:zeroV Tryz.prog 55=some (.agg [.sc (.int .i64 0),.sc (.int .i64 0),.sc (.int .i64 0),.sc (.int .i64 0)]):=by kernel_rfl
theorem qoi {S:List Pr} (hn:(S.map Pr.id).Nodup) {x y:Pr} (hx:x∈S) (hy:y∈S) (h:x.id=y.id):x=y:=by
 induction S with
 | nil=>cases hx
 | cons a l ih =>
  rw [List.map_cons,List.nodup_cons] at hn
  rcases List.mem_cons.1 hx with hx | hx
  ·rcases List.mem_cons.1 hy with hy | hy
   ·rw [hx,hy]
   ·exact absurd (List.mem_map.2 ⟨y,hy,by rw [← h,hx]⟩) hn.1
  ·rcases List.mem_cons.1 hy with hy | hy
   ·exact absurd (List.mem_map.2 ⟨x,hx,by rw [h,hy]⟩) hn.1
   ·exact ih hn.2 hx hy
theorem qin {es:List Pr} (k:Int):∀ i,(qe4 k es i).map (·.2)=VY es k:=by
 induction es with
 | nil=>intro i; rfl
 | cons e es ih =>
  intro i
  unfold qe4 VY
  rw [List.find?_cons]
  by_cases h:k=e.id
  ·simp [h]
  ·have:e.id≠k:=fun e'=>h e'.symm
   simp only [if_neg h,this,decide_false]
   exact ih (i+1)
structure qpx (r nb mb:Nat) (H H':List Bk) (nb':Nat):Prop where
 kp:Kp (fun x=>x=r∨x=nb∨x=mb) H H'
 len:H.length≤H'.length
 nb:nb'=nb∨H.length≤nb'
def qa2 (es:List Pr) (rc:Pr):Int:=if fits rc.at_ then (if (VY es rc.id).isSome then 20 else 0) else 1
theorem TrA.kp3 {H H':List Bk} {r b nb mb cap:Nat} {s:Ar} {es:List Pr} {I:Nat→Prop} (h:TrA H r b nb mb cap s es) (hk:Kp I H H') (h1:¬ I r) (h2:cap≠0→¬ I nb) (h3:¬ I mb):TrA H' r b nb mb cap s es :=
 ⟨hk _ _ h1 h.cr (fun _ _ _ e=>by cases e),fun hc=>hk _ _ (h2 hc) (h.cn hc) (fun _ _ _ e=>by cases e),hk _ _ h3 h.cm (fun _ _ _ e=>by cases e),h.le,h.rn,h.b0,(List.getElem?_eq_some_iff.1 (hk _ _ h1 h.cr (fun _ _ _ e=>by cases e))).1⟩
theorem TrA.mapTo {H:List Bk} {r b nb mb cap:Nat} {s:Ar} {es es':List Pr} (h:TrA H r b nb mb cap s es):TrA ((Zk mb H).set mb (.map (es'.map entP))) r b nb mb cap s es':=by
 have hml:=(List.getElem?_eq_some_iff.1 h.cm).1
 refine ⟨?_,fun hc => ?_,?_,h.le,h.rn,h.b0,by simp [Wn]; exact h.rl⟩
 ·rw [List.getElem?_set_ne (Ne.symm h.rm)]
  exact qeu h.cr fun _ _ _ e=>by cases e
 ·rw [List.getElem?_set_ne (Ne.symm (h.nm hc))]
  exact qeu (h.cn hc) fun _ _ _ e=>by cases e
 ·rw [List.getElem?_set_self (by rw [Wn]; exact hml)]
theorem qpx.of {r nb mb nb':Nat} {H H':List Bk} (h:Stp r nb H H' nb'):qpx r nb mb H H' nb':=⟨h.kp.V8.weak fun x hx=>hx.imp id .inl,h.len,h.nb⟩
theorem wInsert {H:List Bk} {r b nb mb cap:Nat} {s:Ar} {es:List Pr} (hT:TrA H r b nb mb cap s es) (h0:0<s.A.length) (rc:Pr) (hp:qa2 es rc=0→∃ s',qjf b 18 s 0 rc=some s') :
  AFn Tryz.prog 42 [.ptr r 0,rc.v] H fun y H'=>y = .sc (.int .i64 (qa2 es rc))∧∃ nb' cap' s' es',TrA H' r b nb' mb cap' s' es'∧qpx r nb mb H H' nb'∧(qa2 es rc=0→qjf b 18 s 0 rc=some s'∧es'=es ++ [rc])∧(qa2 es rc≠0→s'=s∧es'=es):=by
 have hM:=fun L=>qnZ (hT.app (L:=L))
 have hr0:=hT.cr
 unfold trC at hr0
 have hr:=fun L=>hget (L:=L) hr0
 have hm:=fun L=>hget (L:=L) hT.cm
 have hfs:=qin (es:=es) rc.id 0
 have hp2:fits rc.at_=true→qe4 rc.id es 0=none→∃ s',qjf b 18 s 0 rc=some s':=fun e1 e2=>hp (by unfold qa2; rw [if_pos e1,← hfs,e2]; rfl)
 clear hp
 have hF:=KG rc.at_
 unfold qa2 at *
 rw [← hfs] at *
 unfold Pt.v Pt.cs at hF
 unfold Pr.v Pr.cs
 refine vwc (fn:=Tryz.f42) rfl ?_
 simp only [Tryz.f42,ql]
 refine AW.seq (vwb ?_)
 simp
 refine AW.seq (vwb ?_)
 simp
 refine qc.of (hM _) ?_
 rintro y H1 ⟨rfl,rfl⟩
 simp [h0]
 refine AW.seq (vwb ?_)
 simp
 refine qc.pure hF rfl rfl ?_
 cases hft:fits rc.at_ with
 | false =>
  simp
  exact ⟨nb,cap,s,es,hT.app,⟨Kp.refl.app,by simp,.inl rfl⟩,rfl,rfl⟩
 | true =>
  simp
  refine AW.seq ?_
  refine AW.seq (vwb ?_)
  cases hs:qe4 rc.id es 0 with
  | some p =>
   simp [hr,hm,qdr,hs,zvPr,Pr.v,Pr.cs]
   rw [XC rfl]
   refine AW.seq (vwb ?_)
   simp
   refine AW.cond true (by simp) (fun _ => ?_) (fun e=>by cases e)
   refine AW.seq (vwb ?_)
   simp
   refine vwb ?_
   simp
   exact ⟨nb,cap,s,es,hT.app,⟨Kp.refl.app,by simp,.inl rfl⟩,rfl,rfl⟩
  | none =>
   obtain ⟨s',hs'⟩:=hp2 hft hs
   simp [hr,hm,qdr,hs,zvPr,Pr.v,Pr.cs]
   rw [XC rfl]
   refine AW.seq (vwb ?_)
   simp
   refine AW.cond false (by simp) (fun e=>by cases e) (fun _ => ?_)
   refine vwb ?_
   simp
   have hml:=(List.getElem?_eq_some_iff.1 hT.cm).1
   obtain ⟨H3,eH,q1,q2,q3,q4⟩:∃ H3,H3=(Zk mb (H ++ [prB rc,.cells [.v (.sc (.int .i64 0)),.v (.sc (.int .i64 0)),.v (.sc (.int .i64 0)),.v (.sc (.int .i64 0))]])).set mb (.map (es.map entP ++ [(.int .i64 rc.id,.agg [.sc (.int .i64 rc.id),.sc (.int .i64 rc.at_.x),.sc (.int .i64 rc.at_.y),.sc (.int .i64 rc.lab)])]))∧TrA H3 r b nb mb cap s (es ++ [rc])∧H3[H.length]? = some (prB rc)∧Kp (fun x=>x=r∨x=nb∨x=mb) H H3∧H3.length=H.length+2:=by
    refine ⟨_,rfl,?_,?_,(Kp.refl.app).killed (.inr (.inr rfl)),by simp [Wn]⟩
    ·have:=(hT.app (L := [prB rc,.cells [.v (.sc (.int .i64 0)),.v (.sc (.int .i64 0)),.v (.sc (.int .i64 0)),.v (.sc (.int .i64 0))]])).mapTo (es':=es ++ [rc])
     rw [List.map_append,List.map_cons,List.map_nil] at this
     exact this
    ·rw [List.getElem?_set_ne (by omega)]
     exact qeu (by simp) (by intro _ _ _ e; cases e)
   unfold prB at eH q2
   have hP:=wputT 18 H3 r nb mb cap s s' _ 0 rc q1 hs'
   unfold Pr.v Pr.cs at hP
   refine AW.seq (vwb ?_)
   simp [hr,hm,qdr,hs]
   rw [← eH]
   refine AW.seq (vwb ?_)
   simp [q2]
   refine qc.of hP ?_
   rintro y H4 ⟨nb',cap',h1,h2⟩
   simp
   refine AW.seq (vwb ?_)
   simp
   refine vwb ?_
   simp
   have h3:=qpx.of (mb:=mb) h2
   exact ⟨nb',cap',s',_,h1,⟨q3.trans h3.kp,by have:=h3.len; omega,by rcases h3.nb with h | h <;> omega⟩,hs',rfl⟩
def newE (v:Int):Bool:=decide (1≤v∧v≤64)
theorem wNew (v:Int) (H:List Bk):AFn Tryz.prog 39 [.sc (.int .i64 v)] H fun y H'=>(newE v=false→y = .tup [.sc (.pointer none),.sc (.int .i64 1)]∧H'=H)∧(newE v=true→∃ r nb mb cap b s,y = .tup [.ptr r 0,.sc (.int .i64 0)]∧v=(b:Nat)∧qcq ⟨[],[]⟩ VQ=some (s,0)∧TrA H' r b nb mb cap s []∧H.length≤r∧H.length≤nb∧H.length≤mb∧KpA (fun _=>False) H H'):=by
 refine vwc (fn:=Tryz.f39) rfl ?_
 simp only [Tryz.f39,ql]
 refine AW.seq (vwb ?_)
 simp
 cases hv:newE v with
 | false =>
  have hv2:v<1∨(¬ v<1∧64<v):=by
   have:¬ (1≤v∧v≤64):=by simpa [newE] using hv
   omega
  rcases hv2 with h1 | ⟨h1,h2⟩
  ·refine AW.seq (vwb ?_)
   simp [h1]
  ·refine AW.seq (vwb ?_)
   simp [h1,h2]
 | true =>
  have hv2:1≤v∧v≤64:=by simpa [newE] using hv
  have h1:¬ v<1:=by omega
  have h2:¬ v>64:=by omega
  refine AW.seq (vwb ?_)
  simp [h1,h2]
  refine AW.seq (vwb ?_)
  simp
  obtain ⟨b,rfl⟩:∃ b:Nat,v=(b:Int):=⟨v.toNat,by omega⟩
  have w1:=Wk.cell (H:=H ++ [Bk.map [],.cells [.v (.sc (.int .i64 (b:Int))),.v .nil,.v .nil,.v (.map H.length)]]) (id:=H.length+1) (off:=1) (ks := [.v (.sc (.int .i64 (b:Int))),.v .nil,.v .nil,.v (.map H.length)]) (x := .v .nil) (y := .v (.slb (H.length+1) 0 0 0)) (by simp) rfl XR.Zm
  have w2:=Wk.cell (H:=H ++ [Bk.map [],.cells [.v (.sc (.int .i64 (b:Int))),.v (.slb (H.length+1) 0 0 0),.v .nil,.v (.map H.length)]]) (id:=H.length+1) (off:=2) (ks := [.v (.sc (.int .i64 (b:Int))),.v (.slb (H.length+1) 0 0 0),.v .nil,.v (.map H.length)]) (x := .v .nil) (y := .own true 3 0 1 []) (by simp) rfl (XR.nil rfl ⟨rfl,rfl,by decide⟩)
  have hs1:∀ x y:Bk,∀ z:Bk,(H ++ [x,y]).set (H.length+1) z=H ++ [x,z]:=fun x y z=>by simp
  rw [hs1] at w1 w2
  refine AW.wk (w1.trans w2) ?_
  simp only [List.set_cons_succ,List.set_cons_zero]
  have hT:TrA (H ++ [Bk.map [],.cells [.v (.sc (.int .i64 (b:Int))),.v (.slb (H.length+1) 0 0 0),.own true 3 0 1 [],.v (.map H.length)]]) (H.length+1) b (H.length+1) H.length 0 ⟨[],[]⟩ []:=⟨by simp [trC,frS],fun h=>absurd rfl h,by simp,Nat.le_refl _,fun h=>absurd rfl h,by omega,by simp⟩
  have hlf:qcq ⟨[],[]⟩ VQ=some (⟨[Wi VQ],[]⟩,0):=by simp [qcq,big]
  have hL:=wleaf hT hlf
  have hK:KpA (fun _=>False) H (H ++ [Bk.map [],.cells [.v (.sc (.int .i64 (b:Int))),.v (.slb (H.length+1) 0 0 0),.own true 3 0 1 [],.v (.map H.length)]]):=KpA.refl.app
  have hHl:(H ++ [Bk.map [],.cells [.v (.sc (.int .i64 (b:Int))),.v (.slb (H.length+1) 0 0 0),.own true 3 0 1 [],.v (.map H.length)]]).length=H.length+2:=by simp
  unfold Ce.v Ce.cs VQ at hL
  generalize H ++ [_,_]=H1 at *
  refine AW.sub [(4,.v (.ptr (H.length+1) 0)),(2,.v (.sc (.pointer none))),(3,.v (.sc (.int .i64 0)))] (by simp [qbh,qm]) ?_
  refine AW.seq (vwb ?_)
  simp
  refine qc.of hL ?_
  rintro y H2 ⟨rfl,nb',cap',k1,k2⟩
  simp
  refine AW.seq (vwb ?_)
  simp
  refine vwb ?_
  simp
  have hc:cap'≠0:=by
   have:=k1.le
   simp at this
   omega
  have hrn:=k1.rn hc
  have hnb:H.length+2≤nb':=by
   rcases k2.nb with h | h <;> omega
  refine ⟨nb',H.length,cap',b,rfl,⟨[Wi VQ],[]⟩,hlf,k1,by omega,by omega,?_⟩
  exact KpA.new ((hK.mono fun _ h=>h.elim).trans (k2.kp.mono fun x hx=>by omega))
def Yg (n lo hi:Int):Int:=max lo (min hi n)
def qbY (n a b:Int):Int:=if n<a then a - n else if b<n then n - b else 0
def Zu (r:Re) (p:Pt):Int:=if qd r&&fits p then qbY p.x r.x0 r.x1*qbY p.x r.x0 r.x1+qbY p.y r.y0 r.y1*qbY p.y r.y0 r.y1 else 0
def zW (r:Re) (l:Int):Re×Bool:=if vR l&&qd r then (⟨r.x0 - r.x0%side l,r.y0 - r.y0%side l,r.x1 - r.x1%side l+side l - 1,r.y1 - r.y1%side l+side l - 1⟩,true) else (.zero,false)
theorem qlC {d:Int} (h : -65535≤d∧d≤65535):0≤d*d∧d*d≤4294836225:=by
 refine ⟨by rcases Int.le_total 0 d with h0 | h0; exact Int.mul_nonneg h0 h0; exact Int.mul_nonneg_of_nonpos_of_nonpos h0 h0,?_⟩
 rcases Int.le_total 0 d with h0 | h0
 ·have:=Int.mul_le_mul h.2 h.2 h0 (by omega)
  omega
 ·have:=Int.mul_le_mul (show -d≤65535 by omega) (show -d≤65535 by omega) (show 0 ≤ -d by omega) (by omega)
  rw [Int.neg_mul_neg] at this
  omega
theorem toU64b (z:Int):qeA Tryz.prog 2 108 (.int .i64 z)=some (.int .u64 (IntKind.u64.wrap z)):=qaz Ty.u2 Ty.qmY
theorem pclamp (n lo hi:Int):PFn Tryz.prog 161 [.sc (.int .i64 n),.sc (.int .i64 lo),.sc (.int .i64 hi)] (.sc (.int .i64 (Yg n lo hi))):=by
 refine vwc (fn:=Tryz.f161) rfl (vwb ?_)
 simp only [Tryz.f161,ql]
 simp [Yg]
 grind
theorem qoh (a b:Int) (h : -65535≤a - b∧a - b≤65535):PFn Tryz.prog 160 [.sc (.int .i64 a),.sc (.int .i64 b)] (.sc (.int .u64 ((a - b)*(a - b)))):=by
 have h1:=qlC h
 have w1:IntKind.i64.wrap (a - b)=a - b:=by rw [wrap_i64] <;> omega
 have w2:IntKind.i64.wrap ((a - b)*(a - b))=(a - b)*(a - b):=by rw [wrap_i64] <;> omega
 have w3:IntKind.u64.wrap ((a - b)*(a - b))=(a - b)*(a - b):=by rw [wrap_u64] <;> omega
 refine vwc (fn:=Tryz.f160) rfl (vwb ?_)
 simp only [Tryz.f160,ql]
 simp [toU64b,w1,w2,w3]
theorem qdv {n a b:Int} (h1:0≤n∧n≤65535) (h2:0≤a∧a≤65535) (h3:0≤b∧b≤65535):0≤qbY n a b∧qbY n a b≤65535:=by
 unfold qbY
 split
 ·omega
 ·split <;> omega
theorem qc0 {p:Pt} (h:fits p=true):(0≤p.x∧p.x≤65535)∧(0≤p.y∧p.y≤65535):=by simpa [fits,inside] using h
theorem Z0 {r:Re} (h:qd r=true):(0≤r.x0∧r.x0≤65535)∧(0≤r.y0∧r.y0≤65535)∧(0≤r.x1∧r.x1≤65535)∧(0≤r.y1∧r.y1≤65535)∧r.x0≤r.x1∧r.y0≤r.y1:=by
 simp [qd,inside] at h
 omega
theorem pnearest (r:Re) (p:Pt) (h1:qd r=true) (h2:fits p=true):PFn Tryz.prog 113 [r.v,p.v] (⟨Yg p.x r.x0 r.x1,Yg p.y r.y0 r.y1⟩:Pt).v:=by
 have hR:=Jc r
 have hF:=KG p
 rw [h1] at hR
 rw [h2] at hF
 unfold Re.v Re.cs at hR ⊢
 unfold Pt.v Pt.cs at hF ⊢
 refine vwc (fn:=Tryz.f113) rfl ?_
 simp only [Tryz.f113,ql]
 refine AW.seq (vwa [(3,13,[3,2])] ?_)
 simp
 refine AW.seq (vwa [(3,13,[3,2])] ?_)
 simp
 refine qc.pure hR rfl rfl ?_
 simp
 refine qc.pure hF rfl rfl ?_
 simp
 refine vwa [(3,13,[3,2])] ?_
 simp
 refine qc.pure (pclamp _ _ _) rfl rfl ?_
 simp
 refine qc.pure (pclamp _ _ _) rfl rfl ?_
 simp [setCells,qo]
theorem papart (p q:Pt) (h1:fits p=true) (h2:fits q=true):PFn Tryz.prog 112 [p.v,q.v] (.sc (.int .u64 ((p.x - q.x)*(p.x - q.x)+(p.y - q.y)*(p.y - q.y)))):=by
 have hP:=KG p
 have hQ:=KG q
 rw [h1] at hP
 rw [h2] at hQ
 have r1:=qc0 h1
 have r2:=qc0 h2
 have q1:=qoh p.x q.x (by omega)
 have q2:=qoh p.y q.y (by omega)
 have s1:=qlC (d:=p.x - q.x) (by omega)
 have s2:=qlC (d:=p.y - q.y) (by omega)
 have w3:IntKind.u64.wrap ((p.x - q.x)*(p.x - q.x)+(p.y - q.y)*(p.y - q.y))=(p.x - q.x)*(p.x - q.x)+(p.y - q.y)*(p.y - q.y):=by rw [wrap_u64] <;> omega
 unfold Pt.v Pt.cs at hP hQ ⊢
 refine vwc (fn:=Tryz.f112) rfl ?_
 simp only [Tryz.f112,ql]
 refine AW.seq (vwa [(3,9,[2,3])] ?_)
 simp
 refine AW.seq (vwa [(3,9,[2,3])] ?_)
 simp
 refine qc.pure hP rfl rfl ?_
 simp
 refine qc.pure hQ rfl rfl ?_
 simp
 refine vwa [(3,9,[2,3])] ?_
 simp
 refine qc.pure q1 rfl rfl ?_
 simp
 refine qc.pure q2 rfl rfl ?_
 simp [w3]
theorem qkk {n a b:Int} (h:a≤b):(n - Yg n a b)*(n - Yg n a b)=qbY n a b*qbY n a b:=by
 have e:n - Yg n a b=qbY n a b∨n - Yg n a b = - qbY n a b:=by
  unfold Yg qbY
  split
  ·right; omega
  ·split
   ·left; omega
   ·left; omega
 rcases e with e | e
 ·rw [e]
 ·rw [e,Int.neg_mul_neg]
theorem qhf (r:Re) (p:Pt):PFn Tryz.prog 61 [r.v,p.v] (.sc (.int .u64 (Zu r p))):=by
 have hR:=Jc r
 have hF:=KG p
 have hN:=pnearest r p
 have hA:=papart p ⟨Yg p.x r.x0 r.x1,Yg p.y r.y0 r.y1⟩
 have hcl:qd r=true→fits p=true→fits ⟨Yg p.x r.x0 r.x1,Yg p.y r.y0 r.y1⟩=true:=fun h1 h2=>by
  have r1:=Z0 h1
  have r2:=qc0 h2
  have k1:0≤Yg p.x r.x0 r.x1∧Yg p.x r.x0 r.x1≤65535:=by unfold Yg; omega
  have k2:0≤Yg p.y r.y0 r.y1∧Yg p.y r.y0 r.y1≤65535:=by unfold Yg; omega
  simp [fits,inside,k1,k2]
 unfold Re.v Re.cs at hR hN ⊢
 unfold Pt.v Pt.cs at hF hN hA ⊢
 refine vwc (fn:=Tryz.f61) rfl ?_
 simp only [Tryz.f61,ql]
 refine AW.seq (vwa [(3,4,[3,2])] ?_)
 simp
 refine AW.seq (vwa [(3,4,[3,2])] ?_)
 simp
 refine qc.pure hR rfl rfl ?_
 cases h1:qd r with
 | false =>
  simp [Zu,h1]
 | true =>
  simp
  refine qc.pure hF rfl rfl ?_
  cases h2:fits p with
  | false=>simp [Zu,h1,h2]
  | true =>
   have r1:=Z0 h1
   have hd:Zu r p=(p.x - Yg p.x r.x0 r.x1)*(p.x - Yg p.x r.x0 r.x1)+(p.y - Yg p.y r.y0 r.y1)*(p.y - Yg p.y r.y0 r.y1):=by
    rw [qkk (by omega),qkk (by omega)]
    simp [Zu,h1,h2]
   rw [hd]
   simp
   refine vwa [(3,4,[3,2])] ?_
   simp
   refine qc.pure (hN h1 h2) rfl rfl ?_
   simp
   refine qc.pure (hA h2 (hcl h1 h2)) rfl rfl ?_
   simp
theorem qaD {x s:Int} (h:0<s):x - x%s=s*(x/s):=by
 have:=Int.emod_add_mul_ediv x s
 omega
theorem Jl {l:Int} (h0:0≤l) (h:l≤16):0<side l∧side l≤65536:=⟨two_pos _,qmZ (by omega)⟩
theorem qdE (r:Re) (l:Int):PFn Tryz.prog 52 [r.v,.sc (.int .i64 l)] (.tup [(zW r l).1.v,.sc (.bool (zW r l).2)]):=by
 have hR:=Jc r
 unfold Re.v Re.cs at hR ⊢
 refine vwc (fn:=Tryz.f52) rfl ?_
 simp only [Tryz.f52,ql]
 refine AW.seq (vwb ?_)
 simp
 refine AW.seq (vwb ?_)
 simp
 refine qc.pure (qlb _) rfl rfl ?_
 cases h1:vR l with
 | false=>simp [zW,h1,Re.zero,setCells,qo]
 | true =>
  simp
  refine qc.pure hR rfl rfl ?_
  cases h2:qd r with
  | false=>simp [zW,h1,h2,Re.zero,setCells,qo]
  | true =>
   have hl:=zy.1 h1
   have rr:=Z0 h2
   have hf:=JH h2
   have hs:=Jl hl.1 hl.2
   have c1:=yU hf.1 hl.1 hl.2
   have c2:=yU hf.2 hl.1 hl.2
   have o1:=cof r.lo l hl.1 hl.2 (by simp [Re.lo]; omega) (by simp [Re.lo]; omega)
   have o2:=cof r.hi l hl.1 hl.2 (by simp [Re.hi]; omega) (by simp [Re.hi]; omega)
   have b1:=qiV (cellOf r.lo l)
   have b2:=qiV (cellOf r.hi l)
   unfold JD at b1 b2
   rw [c1] at b1
   rw [c2] at b2
   simp only [if_true] at b1 b2
   have e1:jy (cellOf r.lo l)=⟨side l*(r.x0/side l),side l*(r.y0/side l),side l*(r.x0/side l)+side l - 1,side l*(r.y0/side l)+side l - 1⟩:=rfl
   have e2:jy (cellOf r.hi l)=⟨side l*(r.x1/side l),side l*(r.y1/side l),side l*(r.x1/side l)+side l - 1,side l*(r.y1/side l)+side l - 1⟩:=rfl
   rw [e1] at b1
   rw [e2] at b2
   have hsn:zW r l=(⟨side l*(r.x0/side l),side l*(r.y0/side l),side l*(r.x1/side l)+side l - 1,side l*(r.y1/side l)+side l - 1⟩,true):=by
    simp [zW,h1,h2,qaD hs.1]
   rw [hsn]
   clear hsn e1 e2
   generalize cellOf r.lo l=ca at *
   generalize cellOf r.hi l=cb at *
   unfold Re.lo at o1
   unfold Re.hi at o2
   unfold Pt.v Pt.cs Ce.v Ce.cs at o1 o2
   unfold Ce.v Ce.cs Re.v Re.cs at b1 b2
   simp
   refine AW.seq (vwb ?_)
   simp
   refine qc.pure o1 rfl rfl ?_
   simp
   refine qc.pure b1 rfl rfl ?_
   simp [setCells,qo]
   refine AW.seq (vwb ?_)
   simp
   refine qc.pure o2 rfl rfl ?_
   simp
   refine qc.pure b2 rfl rfl ?_
   simp [setCells,qo]
   refine vwb ?_
   simp [setCells,qo]
def Kq (y:Ent):List V := [.sc (.int .u64 y.k),.sc (.int .u64 y.t),.sc (.int .i64 y.i)]
def qk5 (y:Ent):V := .agg (Kq y)
theorem JX (y:Ent):qk5 y = .agg [.sc (.int .u64 y.k),.sc (.int .u64 y.t),.sc (.int .i64 y.i)]:=rfl
theorem qbm (y:Ent):Kq y = [.sc (.int .u64 y.k),.sc (.int .u64 y.t),.sc (.int .i64 y.i)]:=rfl
def qcM (es:List Ent):SV := .own true 171 es.length 3 (es.flatMap Kq)
def qB (es:List Ent):Bk := .cells [qcM es]
theorem qlO {es:List Ent} {k:Nat} (hk:k<es.length):((es.flatMap Kq).drop (k*3)).take 3=Kq es[k]:=flat_get (enc:=Kq) (fun _=>rfl) hk
theorem lenEn (es:List Ent):(es.flatMap Kq).length=es.length*3:=qav (enc:=Kq) (sz:=3) (fun _=>rfl) es
theorem setEn:∀ {es:List Ent} {k:Nat} (y:Ent),k<es.length→(es.set k y).flatMap Kq=(es.flatMap Kq).take (k*3)++(Kq y++(es.flatMap Kq).drop (k*3+3))
 | x::es,0,y,_=>by simp [Kq]
 | x::es,k+1,y,h=>by
  have ih:=setEn (es:=es) (k:=k) y (by simpa using h)
  have e:(k+1)*3=k*3+3:=by omega
  rw [List.set_cons_succ,List.flatMap_cons,List.flatMap_cons,ih,e]
  simp [qbm x]
theorem takeEn:∀ {es:List Ent} (k:Nat),(es.take k).flatMap Kq=(es.flatMap Kq).take (k*3)
 | [],k=>by simp
 | x::es,0=>by simp
 | x::es,k+1=>by
  have e:(k+1)*3=k*3+3:=by omega
  rw [List.take_succ_cons,List.flatMap_cons,List.flatMap_cons,takeEn (es:=es) k,e]
  simp [qbm x]
theorem zless (x y:Ent):PFn Tryz.prog 264 [qk5 x,qk5 y] (.sc (.bool (x.lt y))):=by
 rw [JX,JX]
 unfold Ent.lt
 refine vwc (fn:=Tryz.f264) rfl ?_
 simp only [Tryz.f264,ql]
 refine AW.seq (vwb ?_)
 simp
 refine AW.seq (vwb ?_)
 by_cases hk:x.k=y.k
 ·simp [hk]
  refine AW.seq (vwb ?_)
  by_cases ht:x.t=y.t
  ·simp [ht]
   refine vwb ?_
   simp
  ·have ht':(x.t != y.t)=true:=by simpa using ht
   simp [ht,ht']
 ·have hk':(x.k != y.k)=true:=by simpa using hk
  simp [hk,hk']
theorem mLenI (a:Addr) (w:World):(method (Tryz.prog.types.size+Made.depth) 230 (.pointer (some a)) "Len").run Tryz.prog w = .ok (259,.pointer (some a)) w:=by kernel_rfl
theorem mLessI (a:Addr) (w:World):(method (Tryz.prog.types.size+Made.depth) 230 (.pointer (some a)) "Less").run Tryz.prog w = .ok (260,.pointer (some a)) w:=by kernel_rfl
theorem mSwapI (a:Addr) (w:World):(method (Tryz.prog.types.size+Made.depth) 230 (.pointer (some a)) "Swap").run Tryz.prog w = .ok (263,.pointer (some a)) w:=by kernel_rfl
theorem mPushI (a:Addr) (w:World):(method (Tryz.prog.types.size+Made.depth) 230 (.pointer (some a)) "Push").run Tryz.prog w = .ok (262,.pointer (some a)) w:=by kernel_rfl
theorem mPopI (a:Addr) (w:World):(method (Tryz.prog.types.size+Made.depth) 230 (.pointer (some a)) "Pop").run Tryz.prog w = .ok (261,.pointer (some a)) w:=by kernel_rfl
theorem qon:XW Tryz.prog 230 "Len" 259:=mLenI
theorem qgF:XW Tryz.prog 230 "Less" 260:=mLessI
theorem qgE:XW Tryz.prog 230 "Swap" 263:=mSwapI
theorem mPushM:XW Tryz.prog 230 "Push" 262:=mPushI
theorem mPopM:XW Tryz.prog 230 "Pop" 261:=mPopI
section
variable {H:List Bk} {q:Nat} {es:List Ent}
theorem zlen (hq:H[q]? = some (qB es)):AFn Tryz.prog 259 [.ptr q 0] H fun y H'=>y = .sc (.int .i64 es.length)∧H'=H:=by
 unfold qB qcM at hq
 refine vwc (fn:=Tryz.f259) rfl (vwb ?_)
 simp only [Tryz.f259,ql]
 simp [hq]
theorem qmP (hq:H[q]? = some (qB es)) {i j:Nat} (hi:i<es.length) (hj:j<es.length):AFn Tryz.prog 260 [.ptr q 0,.sc (.int .i64 i),.sc (.int .i64 j)] H fun y H'=>y = .sc (.bool (es[i].lt es[j]))∧H'=H:=by
 have h1:=qlO hi
 have h2:=qlO hj
 have hl:=lenEn es
 have hL:=zless es[i] es[j]
 rw [qbm] at h1 h2
 rw [JX,JX] at hL
 have b1:3≤(es.flatMap Kq).length - i*3:=by omega
 have b2:3≤(es.flatMap Kq).length - j*3:=by omega
 unfold qB qcM at hq
 generalize es.flatMap Kq=fe at *
 refine vwc (fn:=Tryz.f260) rfl ?_
 simp only [Tryz.f260,ql]
 refine AW.seq (vwb ?_)
 simp
 refine vwb ?_
 simp [hq,hi,hj,h1,h2,b1,b2]
 refine qc.pure hL rfl rfl ?_
 simp
theorem zswap (hq:H[q]? = some (qB es)) {i j:Nat} (hi:i<es.length) (hj:j<es.length):AFn Tryz.prog 263 [.ptr q 0,.sc (.int .i64 i),.sc (.int .i64 j)] H fun y H'=>y = .tup []∧H'=H.set q (qB (Xe es i j)):=by
 have h1:=qlO hi
 have h2:=qlO hj
 have hl:=lenEn es
 have s1:=setEn (es:=es) es[j] hi
 have s2:=setEn (es:=es.set i es[j]) (k:=j) es[i] (by simpa using hj)
 rw [s1] at s2
 rw [qbm] at h1 h2
 rw [qbm,qbm] at s2
 have b1:3≤(es.flatMap Kq).length - i*3:=by omega
 have b2:3≤(es.flatMap Kq).length - j*3:=by omega
 have b3:i*3+3≤(es.flatMap Kq).length:=by omega
 have b4:j*3+3≤(es.flatMap Kq).length:=by omega
 unfold qB qcM at hq ⊢
 rw [qhX hi hj,s2]
 simp only [List.length_set]
 generalize es.flatMap Kq=fe at *
 refine vwc (fn:=Tryz.f263) rfl ?_
 simp only [Tryz.f263,ql]
 refine vwb ?_
 simp [hq,hi,hj,h1,h2,b1,b2,b3,b4]
 have hql:=(List.getElem?_eq_some_iff.1 hq).1
 rw [zF hq]
 simp only [List.set_cons_zero,List.getElem?_set_self hql,List.getElem?_cons_zero]
 rw [zF (List.getElem?_set_self hql)]
 simp
 omega
theorem ztpush (hq:H[q]? = some (qB es)) (hn:es.length≤1000000) (y:Ent):AFn Tryz.prog 262 [.ptr q 0,.iface 171 (qk5 y)] H fun y' H'=>y' = .tup []∧KpA (fun x=>x=q) H H'∧H'[q]? = some (qB (es ++ [y])):=by
 unfold qB qcM at hq
 rw [JX]
 have hap:es.flatMap Kq ++ [.sc (.int .u64 y.k),.sc (.int .u64 y.t),.sc (.int .i64 y.i)]=(es ++ [y]).flatMap Kq:=by simp [qbm y]
 unfold qB qcM
 rw [← hap]
 generalize es.flatMap Kq=fe at *
 have hqL:=fun L=>hget (L:=L) hq
 refine vwc (fn:=Tryz.f262) rfl ?_
 simp only [Tryz.f262,ql]
 refine AW.seq (vwa [(2,8,[0,4])] ?_)
 simp [setCells,qo]
 refine AW.seq (vwa [(2,8,[0,4])] ?_)
 simp
 have hq2:=hqL [.cells [.v (.sc (.int .u64 y.k)),.v (.sc (.int .u64 y.t)),.v (.sc (.int .i64 y.i))]]
 have hy2:(H ++ [Bk.cells [.v (.sc (.int .u64 y.k)),.v (.sc (.int .u64 y.t)),.v (.sc (.int .i64 y.i))]])[H.length]? = some (Bk.cells [.v (.sc (.int .u64 y.k)),.v (.sc (.int .u64 y.t)),.v (.sc (.int .i64 y.i))]):=by simp
 have kp:KpA (fun x=>x=q) H (H ++ [Bk.cells [.v (.sc (.int .u64 y.k)),.v (.sc (.int .u64 y.t)),.v (.sc (.int .i64 y.i))]]):=KpA.refl.app
 have hne:q≠H.length:=by
  have:=(List.getElem?_eq_some_iff.1 hq).1
  omega
 generalize H ++ [Bk.cells [.v (.sc (.int .u64 y.k)),.v (.sc (.int .u64 y.t)),.v (.sc (.int .i64 y.i))]]=H2 at *
 have hql:=(List.getElem?_eq_some_iff.1 hq2).1
 have f3:∀ K,(H2.set q K)[q]? = some K:=fun K=>List.getElem?_set_self hql
 have f1:∀ x,qo H2 q 0 x=H2.set q (.cells [x]):=fun x=>zF hq2
 have f2:∀ x z,qo (H2.set q (.cells [x])) q 0 z=H2.set q (.cells [z]):=fun x z=>by
  rw [zF (f3 _),List.set_set]
  rfl
 have f4:∀ K,(H2.set q K)[H.length]? = some (Bk.cells [.v (.sc (.int .u64 y.k)),.v (.sc (.int .u64 y.t)),.v (.sc (.int .i64 y.i))]):=fun K=>by rw [List.getElem?_set_ne hne]; exact hy2
 refine vwb ?_
 simp [hq2,f1,f2,f3,f4]
 exact ⟨by omega,kp.set rfl⟩
theorem ztpop (hq:H[q]? = some (qB es)) (hn:0<es.length) (hm:es.length≤2000000):AFn Tryz.prog 261 [.ptr q 0] H fun y' H'=>y' = .iface 171 (qk5 (at_ es (es.length - 1)))∧KpA (fun x=>x=q) H H'∧H'[q]? = some (qB es.dropLast):=by
 obtain ⟨n,hn'⟩:∃ n,es.length=n+1:=⟨es.length - 1,by omega⟩
 have hk:n<es.length:=by omega
 have h1:=qlO hk
 have hl:=lenEn es
 have w1:IntKind.i64.wrap ((es.length:Int) - 1)=(n:Nat):=by rw [wrap_i64] <;> omega
 have hdl:es.dropLast.flatMap Kq=(es.flatMap Kq).take (n*3):=by
  rw [List.dropLast_eq_take,hn',Nat.add_sub_cancel]
  exact takeEn n
 have hb:3≤(es.flatMap Kq).length - n*3:=by omega
 have hlt:(n:Int)<(n:Int)+1:=by omega
 have hat:at_ es (es.length - 1)=es[n]:=by rw [at_eq (by omega)]; simp [hn']
 rw [hat,JX]
 unfold qB qcM at hq ⊢
 rw [hdl,List.length_dropLast]
 rw [qbm] at h1
 generalize es.flatMap Kq=fe at *
 have hqL:=fun L=>hget (L:=L) hq
 refine vwc (fn:=Tryz.f261) rfl ?_
 simp only [Tryz.f261,ql]
 refine AW.seq (vwb ?_)
 simp
 refine AW.seq (vwb ?_)
 simp [hq,w1]
 refine AW.seq (vwb ?_)
 simp [hq,hk,hn',h1,hb,hlt,setCells,qo]
 have hq2:=hqL [.cells [.v (.sc (.int .u64 es[n].k)),.v (.sc (.int .u64 es[n].t)),.v (.sc (.int .i64 es[n].i))]]
 have hy2:(H ++ [Bk.cells [.v (.sc (.int .u64 es[n].k)),.v (.sc (.int .u64 es[n].t)),.v (.sc (.int .i64 es[n].i))]])[H.length]? = some (Bk.cells [.v (.sc (.int .u64 es[n].k)),.v (.sc (.int .u64 es[n].t)),.v (.sc (.int .i64 es[n].i))]):=by simp
 have kp:KpA (fun x=>x=q) H (H ++ [Bk.cells [.v (.sc (.int .u64 es[n].k)),.v (.sc (.int .u64 es[n].t)),.v (.sc (.int .i64 es[n].i))]]):=KpA.refl.app
 have hne:q≠H.length:=by
  have:=(List.getElem?_eq_some_iff.1 hq).1
  omega
 generalize H ++ [Bk.cells [.v (.sc (.int .u64 es[n].k)),.v (.sc (.int .u64 es[n].t)),.v (.sc (.int .i64 es[n].i))]]=H2 at *
 have hql:=(List.getElem?_eq_some_iff.1 hq2).1
 have f3:∀ K,(H2.set q K)[q]? = some K:=fun K=>List.getElem?_set_self hql
 have f1:∀ x,qo H2 q 0 x=H2.set q (.cells [x]):=fun x=>zF hq2
 have f2:∀ x z,qo (H2.set q (.cells [x])) q 0 z=H2.set q (.cells [z]):=fun x z=>by
  rw [zF (f3 _),List.set_set]
  rfl
 have f4:∀ K,(H2.set q K)[H.length]? = some (Bk.cells [.v (.sc (.int .u64 es[n].k)),.v (.sc (.int .u64 es[n].t)),.v (.sc (.int .i64 es[n].i))]):=fun K=>by rw [List.getElem?_set_ne hne]; exact hy2
 refine AW.seq (vwb ?_)
 simp [hq2,hn',hlt,f1,f2,f3,f4]
 refine ⟨by omega,vwb ?_⟩
 simp [f3,f4]
 exact kp.set rfl
end
section
variable {H:List Bk} {q:Nat} {es:List Ent}
def itV (q:Nat):V := .iface 230 (.ptr q 0)
def UpI (H:List Bk) (q:Nat) (es:List Ent) (j:Nat) (n:Nat) (F:Fr) (H1:List Bk):Prop :=
 ∃ (f:Nat) (l:List Ent),n<l.length∧n≤f∧l.length=es.length∧upF f l n=upF j es j∧H1[q]? = some (qB l)∧KpA (fun x=>x=q) H H1∧F = [(0,.v (itV q)),(1,.v (.sc (.int .i64 n)))]
theorem zup (hq:H[q]? = some (qB es)) {j:Nat} (hj:j<es.length) (hn:es.length≤2000000):AFn Tryz.prog 187 [itV q,.sc (.int .i64 j)] H fun y H'=>y = .tup []∧KpA (fun x=>x=q) H H'∧H'[q]? = some (qB (upF j es j)):=by
 unfold itV
 refine vwc (fn:=Tryz.f187) rfl ?_
 simp only [Tryz.f187,ql]
 refine AW.block (AW.qaZ (UpI H q es j) ⟨j,_,?_,j,es,hj,Nat.le_refl _,rfl,rfl,hq,KpA.refl,rfl⟩ ?_)
 ·simp [qz,qj,qm,itV]
 rintro n F H1 ⟨f,l,hnl,hnf,hll,hup,hq1,k1,rfl⟩
 unfold itV
 by_cases h0:n=0
 ·subst h0
  have hl:l=upF j es j:=by
   rw [← hup]
   cases f with
   | zero=>rfl
   | succ f=>rw [upF,if_neg (by simp)]
  have e0:IntKind.i64.wrap (-1) = -1:=by rw [wrap_i64] <;> omega
  have e1:IntKind.i64.wrap 0=0:=by rw [wrap_i64] <;> omega
  have e2:Int.tdiv (-1) 2=0:=by decide
  refine AW.block (AW.seq (vwb ?_))
  simp [Yi,e0,e1,e2]
  refine AW.seq (AW.seq (vwb ?_))
  simp
  refine vwb ?_
  simp
  exact ⟨k1,by rw [← hl]; exact hq1⟩
 ·obtain ⟨f,rfl⟩:∃ f',f=f'+1:=⟨f - 1,by omega⟩
  have w1:IntKind.i64.wrap ((n:Int) - 1)=((n - 1:Nat):Int):=by rw [wrap_i64] <;> omega
  obtain ⟨p,hp⟩:∃ p,p=(n - 1)/2:=⟨_,rfl⟩
  have w2:IntKind.i64.wrap (((n - 1:Nat):Int)/2)=(p:Int):=by
   rw [wrap_i64] <;> omega
  have hne:(((p:Nat):Int)==(n:Int))=false:=by simp; omega
  have hpl:p<l.length:=by omega
  have hL:=qmP hq1 hnl hpl
  have hS:=zswap hq1 hpl hnl
  have a1:=at_eq hnl
  have a2:=at_eq hpl
  rw [← a1,← a2] at hL
  refine AW.block (AW.seq (vwb ?_))
  simp [Yi,w1,w2]
  refine AW.seq (AW.seq (vwb ?_))
  simp [hne,qgF.eq,qgF]
  refine qc.of hL ?_
  rintro y H2 ⟨rfl,rfl⟩
  cases hlt:(at_ l n).lt (at_ l p) with
  | false =>
   have hl:l=upF j es j:=by
    rw [← hup,upF,if_neg (by rw [← hp]; simp [hlt])]
   simp
   refine vwb ?_
   simp
   exact ⟨k1,by rw [← hl]; exact hq1⟩
  | true =>
   simp
   refine vwb ?_
   simp
   refine AW.seq (vwb ?_)
   simp [qgE.eq,qgE]
   refine qc.of hS ?_
   rintro y H3 ⟨rfl,rfl⟩
   simp
   refine vwb ?_
   simp
   refine ⟨p,by omega,_,?_,f,Xe l p n,by rw [Yp]; omega,by omega,by rw [Yp]; exact hll,?_,?_,k1.set rfl,rfl⟩
   ·simp [qz,qj,qm,itV]
   ·rw [← hup,upF,if_pos ⟨h0,by rw [← hp]; exact hlt⟩,← hp]
   ·exact List.getElem?_set_self (List.getElem?_eq_some_iff.1 hq1).1
def DnI (H:List Bk) (q:Nat) (es:List Ent) (n:Nat) (z:Nat) (F:Fr) (H1:List Bk):Prop :=
 ∃ (i f:Nat) (l:List Ent),z=n - i∧i≤n∧n≤f+i∧l.length=es.length∧X8 f l i n=X8 n es 0 n∧H1[q]? = some (qB l)∧KpA (fun x=>x=q) H H1∧F = [(0,.v (itV q)),(1,.v (.sc (.int .i64 0))),(2,.v (.sc (.int .i64 n))),(7,.v (.sc (.int .i64 i)))]
theorem zdown (hq:H[q]? = some (qB es)) {n:Nat} (hn:n<es.length) (hm:es.length≤2000000):AFn Tryz.prog 188 [itV q,.sc (.int .i64 0),.sc (.int .i64 n)] H fun y H'=>KpA (fun x=>x=q) H H'∧H'[q]? = some (qB (X8 n es 0 n)):=by
 unfold itV
 refine vwc (fn:=Tryz.f188) rfl ?_
 simp only [Tryz.f188,ql]
 refine AW.seq (vwb ?_)
 simp
 refine AW.seq (vwb ?_)
 simp
 refine AW.seq (AW.block (AW.qaZ (DnI H q es n) ⟨n,_,?_,0,n,es,rfl,Nat.zero_le _,Nat.le_refl _,rfl,rfl,hq,KpA.refl,rfl⟩ ?_))
 ·simp [qz,qj,qm,itV]
 rintro z F H1 ⟨i,f,l,rfl,hi,hf,hll,hdn,hq1,k1,rfl⟩
 unfold itV
 have w1:IntKind.i64.wrap (2*(i:Int))=2*(i:Int):=by rw [wrap_i64] <;> omega
 have w2:IntKind.i64.wrap (2*(i:Int)+1)=((2*i+1:Nat):Int):=by rw [wrap_i64] <;> omega
 obtain ⟨j1,hj1⟩:∃ j1,j1=2*i+1:=⟨_,rfl⟩
 rw [← hj1] at w2
 have w3:IntKind.i64.wrap ((j1:Int)+1)=((j1+1:Nat):Int):=by rw [wrap_i64] <;> omega
 have hnn:¬ (j1:Int)<0:=by omega
 refine AW.block (AW.seq (vwb ?_))
 simp [w1,w2]
 by_cases hend:n≤j1
 ·have hend':(n:Int)≤j1:=by omega
  have hl:l=X8 n es 0 n:=by
   rw [← hdn]
   cases f with
   | zero=>rfl
   | succ f=>rw [X8,if_pos (by omega)]
  refine AW.seq (AW.seq (vwb ?_))
  simp [hend']
  refine vwb ?_
  simp
  refine vwb ?_
  simp
  exact ⟨k1,by rw [← hl]; exact hq1⟩
 ·have hend':¬ (n:Int)≤j1:=by omega
  obtain ⟨f,rfl⟩:∃ f',f=f'+1:=⟨f - 1,by omega⟩
  have hj1l:j1<l.length:=by omega
  refine AW.seq (AW.seq (vwb ?_))
  simp [hend',hnn]
  refine vwb ?_
  simp
  refine AW.seq (vwb ?_)
  simp
  obtain ⟨jd,hjd⟩:∃ jd,jd=(if 2*i+2<n∧(at_ l (2*i+2)).lt (at_ l (2*i+1))=true then 2*i+2 else 2*i+1):=⟨_,rfl⟩
  have hup:X8 (f+1) l i n=if (at_ l jd).lt (at_ l i)=true then X8 f (Xe l i jd) jd n else l:=by
   rw [X8,if_neg (by omega),← hjd]
  refine AW.mid (fun F H'=>H'=H1∧F = [(0,.v (itV q)),(1,.v (.sc (.int .i64 0))),(2,.v (.sc (.int .i64 n))),(7,.v (.sc (.int .i64 i))),(9,.v (.sc (.int .i64 jd)))]) (AW.seq (vwb ?_)) ?_
  ·simp [w3]
   by_cases h2:j1+1<n
   ·have h2':((j1+1:Nat):Int)<n:=by omega
    have hL:=qmP hq1 (show j1+1<l.length by omega) hj1l
    have a1:=at_eq (l:=l) (i:=j1+1) (by omega)
    have a2:=at_eq hj1l
    rw [← a1,← a2] at hL
    simp only [Int.natCast_add,Int.natCast_one] at hL h2'
    refine AW.seq (vwb ?_)
    simp [h2',qgF.eq,qgF]
    refine qc.of hL ?_
    rintro y H2 ⟨rfl,rfl⟩
    cases hlt:(at_ l (j1+1)).lt (at_ l j1) with
    | false =>
     have:jd=j1:=by
      rw [hjd,if_neg,hj1]
      rw [hj1] at hlt
      simp [hlt]
     simp
     refine vwb ?_
     simp
     simp [qz,qj,qm,itV,this]
    | true =>
     have:jd=j1+1:=by
      rw [hjd,if_pos,hj1]
      rw [hj1] at hlt
      exact ⟨by omega,hlt⟩
     simp
     refine vwb ?_
     simp
     simp [qz,qj,qm,itV,this]
   ·have h2':¬ ((j1+1:Nat):Int)<n:=by omega
    simp only [Int.natCast_add,Int.natCast_one] at h2'
    have:jd=j1:=by
     rw [hjd,if_neg (by omega),hj1]
    refine AW.seq (vwb ?_)
    simp [h2']
    refine vwb ?_
    simp
    simp [qz,qj,qm,itV,this]
  ·rintro F H2 ⟨rfl,rfl⟩
   have hjr:i<jd∧jd<n:=by
    rw [hjd]
    split <;> omega
   have hjl:jd<l.length:=by omega
   have hil:i<l.length:=by omega
   have hL:=qmP hq1 hjl hil
   have hS:=zswap hq1 hil hjl
   have a1:=at_eq hjl
   have a2:=at_eq hil
   rw [← a1,← a2] at hL
   unfold itV
   refine AW.seq (AW.seq (vwb ?_))
   simp [qgF.eq,qgF]
   refine qc.of hL ?_
   rintro y H3 ⟨rfl,rfl⟩
   rw [hdn] at hup
   cases hlt:(at_ l jd).lt (at_ l i) with
   | false =>
    rw [hlt] at hup
    simp at hup
    simp
    refine vwb ?_
    simp
    refine vwb ?_
    simp
    exact ⟨k1,by rw [hup]; exact hq1⟩
   | true =>
    rw [hlt] at hup
    simp at hup
    simp
    refine vwb ?_
    simp
    refine AW.seq (vwb ?_)
    simp [qgE.eq,qgE]
    refine qc.of hS ?_
    rintro y H4 ⟨rfl,rfl⟩
    simp
    refine vwb ?_
    simp
    refine ⟨n - jd,by omega,_,?_,jd,f,Xe l i jd,rfl,by omega,by omega,by rw [Yp]; exact hll,hup.symm,List.getElem?_set_self (List.getElem?_eq_some_iff.1 hq1).1,k1.set rfl,rfl⟩
    simp [qz,qj,qm,itV]
theorem zhpush (hq:H[q]? = some (qB es)) (hn:es.length≤1000000) (y:Ent):AFn Tryz.prog 155 [itV q,.iface 171 (qk5 y)] H fun z H'=>KpA (fun x=>x=q) H H'∧H'[q]? = some (qB (upF es.length (es ++ [y]) es.length)):=by
 have hP:=ztpush hq hn y
 rw [JX] at hP ⊢
 unfold itV
 refine vwc (fn:=Tryz.f155) rfl ?_
 simp only [Tryz.f155,ql]
 refine AW.seq (vwb ?_)
 simp [mPushM.eq,mPushM]
 refine qc.of hP ?_
 rintro z H1 ⟨rfl,k1,hq1⟩
 simp
 have hL:=zlen hq1
 have hU:=zup hq1 (j:=es.length) (by simp) (by simp; omega)
 unfold itV at hU
 have w1:IntKind.i64.wrap (es.length:Int)=es.length:=by rw [wrap_i64] <;> omega
 refine vwb ?_
 simp [qon.eq,qon]
 refine qc.of hL ?_
 rintro z H2 ⟨rfl,rfl⟩
 simp [w1]
 refine qc.of hU ?_
 rintro z H3 ⟨rfl,k3,hq3⟩
 simp
 exact ⟨k1.trans k3,hq3⟩
theorem zhpop (hq:H[q]? = some (qB es)) (h0:0<es.length) (hn:es.length≤2000000):AFn Tryz.prog 158 [itV q] H fun z H'=>z = .iface 171 (qk5 (at_ (X8 (es.length - 1) (Xe es 0 (es.length - 1)) 0 (es.length - 1)) (es.length - 1)))∧KpA (fun x=>x=q) H H'∧H'[q]? = some (qB (X8 (es.length - 1) (Xe es 0 (es.length - 1)) 0 (es.length - 1)).dropLast):=by
 obtain ⟨n,hn'⟩:∃ n,es.length=n+1:=⟨es.length - 1,by omega⟩
 have w1:IntKind.i64.wrap ((es.length:Int) - 1)=(n:Nat):=by rw [wrap_i64] <;> omega
 have hL:=zlen hq
 have hS:=zswap hq (i:=0) (j:=n) (by omega) (by omega)
 rw [hn',Nat.add_sub_cancel]
 have hql:=(List.getElem?_eq_some_iff.1 hq).1
 have hq1:(H.set q (qB (Xe es 0 n)))[q]? = some (qB (Xe es 0 n)):=List.getElem?_set_self hql
 have hsl:=Yp es 0 n
 have hD:=zdown hq1 (n:=n) (by omega) (by omega)
 unfold itV at hD ⊢
 simp only [Int.natCast_zero] at hS
 refine vwc (fn:=Tryz.f158) rfl ?_
 simp only [Tryz.f158,ql]
 refine AW.seq (vwb ?_)
 simp
 refine AW.seq (vwb ?_)
 simp [qon.eq,qon]
 refine qc.of hL ?_
 rintro z H1 ⟨rfl,rfl⟩
 simp [w1]
 refine AW.seq (vwb ?_)
 simp [qgE.eq,qgE]
 refine qc.of hS ?_
 rintro z H2 ⟨rfl,rfl⟩
 simp
 refine AW.seq (vwb ?_)
 simp
 refine qc.of hD ?_
 rintro z H3 ⟨k3,hq3⟩
 simp
 have hdl:=qpp n (Xe es 0 n) 0 n
 have hPo:=ztpop hq3 (by omega) (by omega)
 rw [show (X8 n (Xe es 0 n) 0 n).length - 1=n by omega] at hPo
 refine vwb ?_
 simp [mPopM.eq,mPopM]
 refine qc.of hPo ?_
 rintro z H4 ⟨rfl,k4,hq4⟩
 simp
 exact ⟨(KpA.set (I:=fun x=>x=q) KpA.refl rfl).trans (k3.trans k4),hq4⟩
def QQ (H:List Bk) (q:Nat) (hs:List Ent):Prop:=∃ es,H[q]? = some (qB es)∧Held es hs
theorem QQ.keep {H H':List Bk} {q:Nat} {hs:List Ent} {I:Nat→Prop} (h:QQ H q hs) (k:Kp I H H') (hI:¬ I q):QQ H' q hs:=by
 obtain ⟨es,h1,h2⟩:=h
 exact ⟨es,k.cells hI h1,h2⟩
theorem znew (H:List Bk):AFn Tryz.prog 96 [] H fun y H'=>y = .ptr H.length 0∧H'=H ++ [qB []]:=by
 refine vwc (fn:=Tryz.f96) rfl ?_
 simp only [Tryz.f96,ql]
 refine AW.seq (vwb ?_)
 simp
 refine AW.seq (vwb ?_)
 simp
 refine AW.qaL (qcM []) (id:=H.length) (off:=0) (ks := [.v .nil]) (by simp) rfl ⟨rfl,rfl,by decide⟩ rfl ?_
 rw [zF (cs := [.v .nil]) (by simp)]
 refine vwb ?_
 simp [qB]
theorem qfG {hs:List Ent} (h:QQ H q hs) (hn:hs.length≤1000000) (y:Ent):AFn Tryz.prog 107 [.ptr q 0,qk5 y] H fun z H'=>z = .sc (.bool true)∧KpA (fun x=>x=q) H H'∧QQ H' q (put hs y):=by
 obtain ⟨es,hq,hh⟩:=h
 have hP:=zhpush (hget (L := [.cells [.v (.sc (.int .u64 y.k)),.v (.sc (.int .u64 y.t)),.v (.sc (.int .i64 y.i))]]) hq) (by rw [hh.len]; exact hn) y
 have hk:=hh.push y
 unfold itV at hP
 rw [JX] at hP ⊢
 refine vwc (fn:=Tryz.f107) rfl ?_
 simp only [Tryz.f107,ql]
 refine AW.seq (vwb ?_)
 simp
 refine AW.seq (vwb ?_)
 simp
 refine AW.seq (vwb ?_)
 simp [setCells,qo]
 refine qc.of hP ?_
 rintro z H1 ⟨k1,hq1⟩
 simp
 refine vwb ?_
 simp
 exact ⟨KpA.refl.app.trans k1,_,hq1,hk⟩
def qgw (hs:List Ent):V:=match hs with
 | [] => .tup [.agg [.sc (.int .u64 0),.sc (.int .u64 0),.sc (.int .i64 0)],.sc (.bool false)]
 | x::_ => .tup [qk5 x,.sc (.bool true)]
theorem qoT {H:List Bk} {i:Nat} {a b c:SV} {x y z:V} (h:H[i]? = some (.cells [a,b,c])):setCells H i 0 [x,y,z]=H.set i (.cells [.v x,.v y,.v z]):=by
 have hl:=(List.getElem?_eq_some_iff.1 h).1
 simp only [setCells]
 rw [zF h,zF (List.getElem?_set_self hl)]
 rw [List.set_set,zF (List.getElem?_set_self hl),List.set_set]
 rfl
theorem zpop {hs:List Ent} (h:QQ H q hs) (hn:hs.length≤2000000):AFn Tryz.prog 110 [.ptr q 0] H fun z H'=>z=qgw hs∧KpA (fun x=>x=q) H H'∧QQ H' q hs.tail:=by
 obtain ⟨es,hq,hh⟩:=h
 have hqL:=fun L=>hget (L:=L) hq
 have hq':=fun L=>hget (L:=L) hq
 unfold qB qcM at hq'
 have hlen:=hh.len
 refine vwc (fn:=Tryz.f110) rfl ?_
 simp only [Tryz.f110,ql]
 refine AW.seq (vwb ?_)
 simp
 refine AW.seq (vwb ?_)
 cases hs with
 | nil =>
  have he0:es.length=0:=hlen
  simp [hq',he0,setCells,qo,qgw]
  exact ⟨KpA.refl.app,es,hqL _,hh⟩
 | cons x hs =>
  have hk:=hh.pop
  simp only [List.length_cons] at hlen hn
  have he0:es.length≠0:=by omega
  have hP:=fun L=>zhpop (hqL L) (by omega) (by omega)
  rw [hk.1] at hP
  unfold itV at hP
  rw [JX] at hP
  have he1:((es.length:Int)==0)=false:=by rw [beq_eq_false_iff_ne]; omega
  simp [hq',he1]
  refine AW.seq (vwb ?_)
  simp
  refine qc.of (hP _) ?_
  rintro z H1 ⟨rfl,k1,hq1⟩
  have hr1:=k1.cells (i:=H.length) (fun e=>by
   have:=(List.getElem?_eq_some_iff.1 hq).1
   omega) (by simp; rfl)
  simp [setCells,qo]
  refine vwb ?_
  have hr2:=hget (L := [.cells [.v (.sc (.int .u64 x.k)),.v (.sc (.int .u64 x.t)),.v (.sc (.int .i64 x.i))]]) hr1
  have hql2:=(List.getElem?_eq_some_iff.1 hr2).1
  have hne:q≠H.length:=by
   have:=(List.getElem?_eq_some_iff.1 hq).1
   omega
  have hqq:=hget (L := [.cells [.v (.sc (.int .u64 x.k)),.v (.sc (.int .u64 x.t)),.v (.sc (.int .i64 x.i))]]) hq1
  have hkp:KpA (fun x=>x=q) H (H1 ++ [.cells [.v (.sc (.int .u64 x.k)),.v (.sc (.int .u64 x.t)),.v (.sc (.int .i64 x.i))]]):=(KpA.refl.app.trans k1).app
  have f4:(H1 ++ [Bk.cells [.v (.sc (.int .u64 x.k)),.v (.sc (.int .u64 x.t)),.v (.sc (.int .i64 x.i))]])[H1.length]? = some (Bk.cells [.v (.sc (.int .u64 x.k)),.v (.sc (.int .u64 x.t)),.v (.sc (.int .i64 x.i))]):=by simp
  generalize H1 ++ [Bk.cells [.v (.sc (.int .u64 x.k)),.v (.sc (.int .u64 x.t)),.v (.sc (.int .i64 x.i))]]=H2 at *
  have f1:∀ a b c,setCells H2 H.length 0 [a,b,c]=H2.set H.length (.cells [.v a,.v b,.v c]):=fun a b c=>qoT hr2
  have f3:∀ K,(H2.set H.length K)[H.length]? = some K:=fun K=>List.getElem?_set_self hql2
  simp [f4,f1,f3,hr2,qgw,JX]
  refine ⟨?_,_,by rw [List.getElem?_set_ne (Ne.symm hne)]; exact hqq,hk.2⟩
  intro i b hi hb
  by_cases e:i=H.length
  ·have:=(List.getElem?_eq_some_iff.1 hb).1
   omega
  ·rw [List.getElem?_set_ne (Ne.symm e)]
   exact hkp i b hi hb
end
end Go.Proofs.YtnconfggojpkcaaGreat
namespace Go.Proofs.YtnconfggojpkcaaGreat
open Go.RowKit AM
def qa0 (c:Ce) (S:List Pr):Nat→List Pr
 | 0 => []
 | i+1=>qa0 c S i++KF c S i
theorem qfx {c:Ce} {S:List Pr}:(qa0 c S 4).Perm S:=by
 refine List.perm_iff_count.2 fun x => ?_
 have h:∀ i,(KF c S i).count x=if qa1 x.at_ c.l=i then S.count x else 0:=fun i=>by
  unfold KF
  split
  ·rename_i e
   exact List.count_filter (by simpa using e)
  ·rename_i e
   refine List.count_eq_zero.2 fun hx=>e ?_
   simpa using (List.mem_filter.1 hx).2
 have hl:=qf4 x.at_ c.l
 simp only [qa0,List.nil_append,List.count_append,h]
 rcases (show qa1 x.at_ c.l=0∨qa1 x.at_ c.l=1∨qa1 x.at_ c.l=2∨qa1 x.at_ c.l=3 by omega) with e | e | e | e <;> simp [e]
theorem qjY {q:Qn} {c:Ce} {S:List Pr} {p:Pr→Bool} {G:Nat→Option (List Pr)} {k:Nat→Nat} {l:List Pr} (hl:l = []) (hk:∀ i,i<4→q.kid i=(k i:Int)) (hG:∀ i,i<4→∃ L,G (k i)=some L∧L.Perm ((KF c S i).filter p)) :
  ∃ L,runs (qbf q fun u a'=>(G a').map (u ++ ·)) l 4=some L∧L.Perm (S.filter p):=by
 subst hl
 have go:∀ i,i≤4→∃ L,runs (qbf q fun u a'=>(G a').map (u ++ ·)) [] i=some L∧L.Perm ((qa0 c S i).filter p):=by
  intro i
  induction i with
  | zero=>intro _; exact ⟨[],rfl,List.Perm.refl _⟩
  | succ i ih =>
   intro hi
   obtain ⟨L,h1,h2⟩:=ih (by omega)
   obtain ⟨L',h3,h4⟩:=hG i (by omega)
   refine ⟨L++L',?_,?_⟩
   ·rw [qgp h1]
    unfold qbf
    rw [hk i (by omega),qn4]
    simp [h3]
   ·rw [qa0,List.filter_append]
    exact h2.append h4
 obtain ⟨L,h1,h2⟩:=go 4 (Nat.le_refl _)
 exact ⟨L,h1,h2.trans (qfx.filter p)⟩
theorem qhk {S:List Pr}:S.filter (fun _=>true)=S:=List.filter_eq_self.2 fun _ _=>rfl
theorem each_ok {b:Nat} {A:List Qn}:∀ (n m a:Nat) (c:Ce) (S:List Pr) (I:List Nat),n+1≤m→Ok n c S→Rep b A n a c S I→∃ L,qb5 A m a=some L∧L.Perm S:=by
 intro n
 induction n with
 | zero =>
  intro m a c S I hm hO hR
  obtain ⟨m,rfl⟩:∃ m',m=m'+1:=⟨m - 1,by omega⟩
  obtain ⟨q,h1,h2,h3,h4,h5,rfl⟩:=hR
  have hOk:=hO.okN h2 h5 (by rw [h4.length_eq]; exact Nat.le_refl _)
  refine ⟨q.l,?_,h4⟩
  unfold qb5
  simp only [h1]
  rw [if_neg (fun e=>e hOk),if_neg (by simp [h3])]
 | succ n ih =>
  intro m a c S I hm hO hR
  obtain ⟨m,rfl⟩:∃ m',m=m'+1:=⟨m - 1,by omega⟩
  rcases hR with ⟨_,q,h1,h2,h3,h4,h5,rfl⟩ | ⟨_,q,J,k,h1,h2,h3,h4,h5,h6,h7,rfl⟩
  ·have hOk:=hO.okN h2 h5 (by rw [h4.length_eq]; exact Nat.le_refl _)
   refine ⟨q.l,?_,h4⟩
   unfold qb5
   simp only [h1]
   rw [if_neg (fun e=>e hOk),if_neg (by simp [h3])]
  ·have hOk:=hO.okN h2 h5 (by rw [h4]; simp)
   obtain ⟨L,g1,g2⟩:=qjY (q:=q) (c:=c) (S:=S) (p:=fun _=>true) (G:=qb5 A m) h4 h6 (fun i hi=>by
    rw [qhk]
    exact ih m (k i) (qD c i) (KF c S i) (J i) (by omega) (hO.kid hi) (h7 i hi))
   rw [qhk] at g2
   refine ⟨L,?_,g2⟩
   unfold qb5
   simp only [h1]
   rw [if_neg (fun e=>e hOk),if_pos h3]
   exact g1
theorem wind_ok {b:Nat} {A:List Qn} {rc:Re} (hrc:qd rc=true):∀ (n m a:Nat) (c:Ce) (S:List Pr) (I:List Nat),n+1≤m→n≤16→Ok n c S→Rep b A n a c S I→∃ L,qcD A rc m a=some L∧L.Perm (S.filter fun r=>yV rc r.at_):=by
 intro n m
 induction m generalizing n with
 | zero=>intro a c S I hm; omega
 | succ m ih =>
  intro a c S I hm hn hO hR
  obtain ⟨q,J0,h1,h2,h3,hI⟩:=hR.head
  have hE:=each_ok n 18 a c S I (by omega) hO hR
  have hbx:JD q.c=(jy c,true):=by rw [h2]; simp [JD,hO.r]
  have hbr:=Qj hO.r
  have hin:∀ r∈S,yV (jy c) r.at_=true:=fun r hr=>(Un.box hO.r).2 (hO.u r hr)
  have hlen:q.l.length≤S.length∧(q.split=false→q.l.Perm S)∧(q.split=true→q.l = []∧∃ n',n=n'+1∧∃ (J:Nat→List Nat) (k:Nat→Nat),(∀ i,i<4→q.kid i=(k i:Int))∧∀ i,i<4→Rep b A n' (k i) (qD c i) (KF c S i) (J i)):=by
   cases n with
   | zero =>
    obtain ⟨q',g1,g2,g3,g4,g5,g6⟩:=hR
    rw [h1] at g1
    cases g1
    exact ⟨by rw [g4.length_eq]; exact Nat.le_refl _,fun _=>g4,fun e=>by rw [g3] at e; cases e⟩
   | succ n =>
    rcases hR with ⟨_,q',g1,g2,g3,g4,g5,g6⟩ | ⟨_,q',J,k,g1,g2,g3,g4,g5,g6,g7,g8⟩
    ·rw [h1] at g1
     cases g1
     exact ⟨by rw [g4.length_eq]; exact Nat.le_refl _,fun _=>g4,fun e=>by rw [g3] at e; cases e⟩
    ·rw [h1] at g1
     cases g1
     exact ⟨by rw [g4]; simp,fun e=>(by rw [g3] at e; cases e),fun _=>⟨g4,n,rfl,J,k,g6,g7⟩⟩
  have hOk:=hO.okN h2 h3 hlen.1
  unfold qcD
  simp only [h1]
  rw [if_neg (fun e=>e hOk),hbx]
  by_cases c1:q.many=0∨qE (jy c) rc=false
  ·rw [if_pos c1]
   refine ⟨[],rfl,?_⟩
   have:S.filter (fun r=>yV rc r.at_) = []:=List.filter_eq_nil_iff.2 fun r hr he=>by
    rcases c1 with c1 | c1
    ·rw [h3] at c1
     have:=List.length_pos_of_mem hr
     omega
    ·have e1:=ZR.1 (hin r hr)
     have e2:=ZR.1 he
     simp [qE,hbr,hrc] at c1
     have:=c1 (by omega) (by omega) (by omega)
     omega
   rw [this]
  ·rw [if_neg c1]
   by_cases c2:inB (jy c) rc=true
   ·rw [if_pos c2]
    obtain ⟨L,g1,g2⟩:=hE
    refine ⟨L,g1,?_⟩
    rw [List.filter_eq_self.2]
    ·exact g2
    ·intro r hr
     have e1:=ZR.1 (hin r hr)
     simp [inB,hbr,hrc] at c2
     refine ZR.2 ⟨hrc,?_⟩
     omega
   ·rw [if_neg c2]
    by_cases c3:q.split=true
    ·obtain ⟨g4,n',rfl,J,k,g6,g7⟩:=hlen.2.2 c3
     rw [if_pos c3]
     exact qjY (by rw [g4]; rfl) g6 fun i hi=>ih n' (k i) (qD c i) (KF c S i) (J i) (by omega) (by omega) (hO.kid hi) (g7 i hi)
    ·rw [if_neg c3]
     exact ⟨_,rfl,(hlen.2.1 (by simpa using c3)).filter _⟩
end Go.Proofs.YtnconfggojpkcaaGreat
