/- Texts that a law rests on, part z2: plain lemmas and what functions of the program do. No condition. -/
import Derived.Scope
import Derived.WideKeyRuns
import Derived.Test.YtnconfggojpkcaaGreatSz1
set_option linter.all false
set_option maxHeartbeats 16000000
set_option maxRecDepth 100000
namespace Go.Proofs.YtnconfggojpkcaaGreat
open Go.RowKit
namespace AM
section
variable {P:Program} {c:Cx} {N:Nat} {s:St} {a:Act} {w:World} {K:St→Prop}
def jT (n:Nat) (zc:List V):List V:=(List.replicate n zc).flatten
theorem qgr (z:Array Value) (hz:0<z.size):∀ n,((Array.range (n*z.size)).map fun j=>z[j%z.size]!).toList=(List.replicate n z.toList).flatten
 | 0=>by simp
 | n+1=>by
  have ih:=qgr z hz n
  simp only [Array.toList_map,Array.toList_range] at ih ⊢
  rw [Nat.succ_mul,List.range_add,List.map_append,ih,List.replicate_succ',List.flatten_append,List.map_map]
  congr 1
  simp only [List.flatten_cons,List.flatten_nil,List.append_nil]
  apply List.ext_getElem
  ·simp
  ·intro i h1 h2
   simp only [List.getElem_map,List.getElem_range,Function.comp]
   have hi:i<z.size:=by simpa using h2
   rw [Nat.mul_comm n z.size,Nat.mul_add_mod,Nat.mod_eq_of_lt hi]
   simp [hi]
theorem qfl {I:Nat→Nat→Option Value} {φ:List Nat} {zc:List V} {zs:List Value} (h:vM I φ zc zs):∀ n,vM I φ (jT n zc) (List.replicate n zs).flatten
 | 0=>by unfold jT; exact .nil
 | n+1=>by
  unfold jT
  simp only [List.replicate_succ,List.flatten_cons]
  exact h.append (qfl h n)
def qG (P:Program) (N:Nat) (dst:Option Tmp) (t:TypeId) (n:Nat) (parts:List (Nat×Operand)) (s:St) (K:St→Prop):Prop:=match P.underlying t,dst with
 | some (.slice e),some d=>match za P e,vK s parts,sizeT P e with
  | some zc,some ps,some sz=>(Nat.ble 1 sz=true∧zc.length=sz∧Nat.ble (n*sz) 16777216=true)∧(match Qd (fun i=>some (i*sz,sz)) (jT n zc) ps with
   | some cs=>d<N∧K ⟨vO d (.own true e n sz cs) s.F,s.H⟩
   | none=>False)
  | _,_,_=>False
 | _,_=>False
theorem qgZ {o:Oper} {t:TypeId} {n:Nat} {parts:Array (Nat×Operand)} (ho:o.op = .buildSlice t n parts) (h:Sim c N s a w) (hk:qG P N o.dst t n parts.toList s K):Yl P o a w (Post c w N K):=by
 unfold qG at hk
 split at hk
 ·rename_i e d hu hd
  split at hk
  ·rename_i zc ps sz hz hp hs
   obtain ⟨⟨q1,q2,q3⟩,hk⟩:=hk
   have q1:=Nat.le_of_ble_eq_true q1
   have q3:=Nat.le_of_ble_eq_true q3
   cases hf:Qd (fun i=>some (i*sz,sz)) (jT n zc) ps with
   | none=>rw [hf] at hk; exact hk.elim
   | some cs =>
    rw [hf] at hk
    obtain ⟨hk0,hk⟩:=hk
    unfold za at hz
    cases hzt:qdN P e with
    | none=>rw [hzt] at hz; cases hz
    | some z =>
     rw [hzt] at hz
     simp only at hz
     cases h1:z.cells.toList.all (·.oneCell') with
     | false=>rw [h1] at hz; cases hz
     | true =>
      rw [h1] at hz
      cases hz
      have hzs:z.cells.size=sz:=by simpa using q2
      have hrow:∀ k,((Array.range (k*sz)).map fun j=>z.cells[j%z.cells.size]!).toList=(List.replicate k z.cells.toList).flatten:=fun k=>by
       have:=qgr z.cells (by omega) k
       rwa [hzs] at this ⊢
      have hone:∀ v∈((Array.range (n*sz)).map fun j=>z.cells[j%z.cells.size]!).toList,v.oneCell'=true:=fun v hv=>by
       rw [hrow] at hv
       obtain ⟨l,hl,hv⟩:=List.mem_flatten.1 hv
       rw [(List.mem_replicate.1 hl).2] at hv
       exact List.all_eq_true.1 h1 v hv
      obtain ⟨arr',k1,k2,k3,k4⟩:=qgM (I:=c.I) (φ:=c.φ) (arr:=(Array.range (n*sz)).map fun j=>z.cells[j%z.cells.size]!) (qfr h hp) (by rw [hrow]; exact qfl (qaP qar _) n) hone hf
      have hsz:arr'.size=n*sz:=by rw [k3]; simp
      obtain ⟨m1,m2⟩:=Sim.layOwn (F:=s.F) (H:=s.H) (arr:=arr') (cs:=cs) (e:=e) (n:=n) (cap:=n) (sz:=sz) h hk0 q1 (by rw [List.take_of_length_le (by simp [hsz])]; exact k2) (Nat.le_refl _) (by
        have:n≤n*sz:=Nat.le_mul_of_pos_right _ q1
        unfold maxLen; omega) hsz k4
      refine Zg (v := .slice (some ⟨w.heap.size,0,none⟩) n n) (w':=w.alloc (.cells arr' e)) ?_ ⟨_,_,by rw [hd]; exact m1,m2,hk⟩
      have e1:(parts.map fun (x:Nat×Operand)=>match x with | (i,x)=>(i,a.eval x)).toList=parts.toList.map fun (i,x)=>(i,a.eval x):=by simp
      unfold execOp
      simp only [ho,Instr.buildSlice,Sem.run_bind,qX hu,Result.andThen_ok,run_sizeOf hs]
      rw [if_neg (by omega)]
      by_cases hn:n*sz=0
      ·have hn0:n=0:=by
        rcases Nat.mul_eq_zero.1 hn with h | h
        ·exact h
        ·omega
       subst hn0
       rw [if_pos (by simp)]
       simp only [Sem.run_bind,Sem.run_pure,Result.andThen_ok]
       have e3:((Array.range (0*sz)).map fun j=>(#[]:Array Value)[j%(#[]:Array Value).size]!)=((Array.range (0*sz)).map fun j=>z.cells[j%z.cells.size]!):=by simp
       rw [e1,e3]
       simp only [k1,Sem.run_bind,qbG,Result.andThen_ok,Sem.run_pure]
      ·rw [if_neg hn]
       simp only [Sem.run_bind,Xk hzt,Result.andThen_ok,Sem.run_pure]
       rw [e1]
       simp only [k1,Sem.run_bind,qbG,Result.andThen_ok,Sem.run_pure]
  ·exact hk.elim
 ·exact hk.elim
theorem qhE (d:Nat):∀ F:Fr,del d (del d F)=del d F
 | []=>rfl
 | (k,y)::F=>by
  cases hc:(k==d||y.refers (.slot d)) with
  | true =>
   have e:del d ((k,y)::F)=del d F:=by simp only [del,hc,cond_true]
   rw [e,qhE d F]
  | false =>
   have e:∀ F,del d ((k,y)::F)=(k,y)::del d F:=fun F=>by simp only [del,hc,cond_false]
   rw [e,e,qhE d F]
theorem qbb {t ty e:TypeId} {sz:Nat} {q A:Option Addr} {n cap:Nat} (ht:P.underlying t=some (.slice e)) (hs:sizeT P e=some sz) (hn:n≤cap) :
  (Builtin.append_ #[t,t] ty #[.slice q n cap,.slice A 0 0]).run P w = .ok (.slice q n cap) w:=by
 unfold Builtin.append_
 simp only [List.getElem?_toArray,List.getElem?_cons_zero,List.getElem?_cons_succ,Sem.run_bind,qX ht,Result.andThen_ok,run_sizeOf hs]
 cases q <;> cases A <;> simp [qX ht,Builtin.lenOf,Builtin.firstCells,hn,storeCells,loadCells,loadCellsFrom]
theorem qiZ {t ty e:TypeId} {i:TypeInfo} {z:Value} {sz bytes:Nat} (ht:P.underlying t=some (.slice e)) (hi:P.info? e=some i) (hz:i.zero=some z) (hsize:i.size=sz) (hby:i.bytes=bytes) (hzs:z.cells.size=sz) (hsz:0<sz)
  {v x:Value} {n m:Nat} {xs news:List Value} (hown:w.ownsRow 0 e sz v n xs)
  (hx:((∃ A,x = .slice A 0 0)∧m=0∧news = [])∨∃ b o cp,x = .slice (some ⟨b,o,none⟩) m cp∧news.length=m*sz∧∀ j u,news[j]? = some u→w.cell? ⟨b,o+j,none⟩=some u)
  (h1:∀ u∈news,u.oneCell'=true) (h63:n+m≤maxLen) (hbytes:(n+m)*bytes≤140737488355328) :
  ∃ v' w',(Builtin.append_ #[t,t] ty #[v,x]).run P w = .ok v' w'∧w'.ownsRow 0 e sz v' (n+m) (xs++news)∧w.grownBy w' v.ownBlock∧(v'.ownBlock=v.ownBlock∨v'.ownBlock=some w.heap.size) ∧
   ∀ g,v.ownBlock=some g→∀ o u,xs[o]? = some u→w'.cell? ⟨g,o,none⟩=some u:=by
 rcases hx with ⟨⟨A,rfl⟩,rfl,rfl⟩ | ⟨b,o,cp,rfl,hl,hc⟩
 ·have hv:∃ q cap,v = .slice q n cap∧n≤cap:=by
   rcases hown.2 with ⟨rfl,rfl⟩ | ⟨g,cap,cur,rfl,_,_,h2,_⟩
   ·exact ⟨_,_,rfl,Nat.le_refl _⟩
   ·exact ⟨_,_,rfl,h2⟩
  obtain ⟨q,cap,rfl,hn⟩:=hv
  refine ⟨_,w,qbb (sz:=sz) ht (by simp [sizeT,hi,hsize]) hn,by simpa using hown,⟨rfl,rfl,rfl,Nat.le_refl _,fun _ _ _=>rfl⟩,.inl rfl,fun g hg o u hu=>qbQ hown hg hu⟩
 ·have hc':∀ j u,news[j]? = some u→w.cell? ((⟨b,o,none⟩:Addr).add j)=some u:=fun j u hu=>by rw [add_eq]; exact hc j u hu
  obtain ⟨v',w',hr,k1,k2,k3,k4⟩:=run_append_own_at (P:=P) w 0 t ty e i z sz bytes ht hi hz hsize hby hzs hsz v n xs hown ⟨b,o,none⟩ m cp news hl hc' h1 h63 hbytes (Nat.zero_le _)
  refine ⟨v',w',hr,k1,k2,k4,fun g hg o' u hu => ?_⟩
  rcases hown.2 with ⟨rfl,_⟩ | ⟨g',cap,cur,rfl,_,g1,g2,g3,g4,g5⟩
  ·cases hg
  ·cases hg
   by_cases hroom:n+m≤cap
   ·have hfit:n*i.size+news.length≤cur.size:=by rw [hl,g4,hsize,← Nat.add_mul]; exact Nat.mul_le_mul_right _ hroom
    have hr2:=run_append_room (P:=P) w t ty e i ht hi g' n cap cur g1 ⟨b,o,none⟩ m cp news (by rw [hsize]; exact hl) hc' h1 hroom hfit
    rw [hr] at hr2
    cases hr2
    have h6:(xs++news)[o']? = some u:=by rw [List.getElem?_append_left (List.getElem?_eq_some_iff.1 hu).1]; exact hu
    exact qbQ k1 rfl h6
   ·have holds:∀ j u,xs[j]? = some u→w.cell? ((⟨g',0,none⟩:Addr).add j)=some u:=hown.cells (g:=g') rfl
    have hsmall:n+m≤9223372036854775807:=by simp only [maxLen] at h63; omega
    have hr2:=run_append_grow (P:=P) w t ty e i z ht hi hz ⟨g',0,none⟩ n cap xs (by rw [hsize]; exact hown.1) holds ⟨b,o,none⟩ m cp news (by rw [hsize]; exact hl) hc' (by omega) (by omega) (growslice_fits (by omega) (by rw [hby]; exact hbytes))
    rw [hr] at hr2
    cases hr2
    exact qcv (w:=w.drew) (qbQ hown rfl hu)
def elT (P:Program) (t:TypeId):Option (TypeId×Nat×Nat):=match P.underlying t with
 | some (.slice e)=>match P.info? e with
  | some i=>match i.zero with
   | some z=>bif z.cells.size==i.size&&Nat.ble 1 i.size then some (e,i.size,i.bytes) else none
   | none=>none
  | none=>none
 | _=>none
theorem qga {t e:TypeId} {sz bytes:Nat} (h:elT P t=some (e,sz,bytes)):P.underlying t=some (.slice e)∧0<sz∧∃ i z,P.info? e=some i∧i.zero=some z∧i.size=sz∧i.bytes=bytes∧z.cells.size=sz:=by
 unfold elT at h
 split at h
 ·rename_i e' hu
  cases hi:P.info? e' with
  | none=>rw [hi] at h; cases h
  | some i =>
   rw [hi] at h
   simp only at h
   cases hz:i.zero with
   | none=>rw [hz] at h; cases h
   | some z =>
    rw [hz] at h
    simp only at h
    cases hb:(z.cells.size==i.size&&Nat.ble 1 i.size) with
    | false=>rw [hb] at h; cases h
    | true =>
     rw [hb] at h
     cases h
     simp only [Bool.and_eq_true,beq_iff_eq] at hb
     exact ⟨hu,Nat.le_of_ble_eq_true hb.2,i,z,hi,hz,rfl,rfl,hb.1⟩
 ·cases h
def Qf (s:St) (sz:Nat) (x:Operand):Option (Nat×List V):=match eval s x with
 | some (.v (.sl m z ds))=>bif z==sz then some (m,ds) else none
 | some (.v .nil)=>some (0,[])
 | some (.own _ _ m z ds)=>bif z==sz then some (m,ds) else none
 | _=>none
theorem qgB {sz m:Nat} {ds:List V} {x:Operand} (h:Sim c N s a w) (hx:Qf s sz x=some (m,ds)) :
  ∃ ns,vM c.I c.φ ds ns∧(∀ u∈ns,u.oneCell'=true)∧(((∃ A,a.eval x = .slice A 0 0)∧m=0∧ns = [])∨∃ b o cp,a.eval x = .slice (some ⟨b,o,none⟩) m cp∧ns.length=m*sz∧∀ j u,ns[j]? = some u→w.cell? ⟨b,o+j,none⟩=some u):=by
 unfold Qf at hx
 cases he:eval s x with
 | none=>rw [he] at hx; cases hx
 | some y =>
  rw [he] at hx
  cases y with
  | v q =>
   have hr:=JJ h he (fun _ _ _ _ _ e=>by cases e) (.slot 0)
   cases q with
   | sl m' z ds' =>
    simp only at hx
    cases hz:z==sz with
    | false=>rw [hz] at hx; cases hx
    | true =>
     rw [hz] at hx
     cases hx
     have hz:z=sz:=by simpa using hz
     subst hz
     generalize a.eval x=v at hr
     cases hr with
     | sl r1 r2 r3 r4 r5 r6=>exact ⟨_,r1,r6,.inr ⟨_,_,_,rfl,by rw [← r1.len,r3],fun j u hu=>h.inv.imm _ _ _ (r2 j u hu)⟩⟩
     | sl0=>exact ⟨[],.nil,fun u hu=>(by cases hu),.inl ⟨⟨_,rfl⟩,rfl,rfl⟩⟩
   | nil =>
    cases hx
    generalize a.eval x=v at hr
    cases hr
    exact ⟨[],.nil,fun u hu=>(by cases hu),.inl ⟨⟨_,rfl⟩,rfl,rfl⟩⟩
   | _=>cases hx
  | own pr e m' z ds' =>
   simp only at hx
   cases hz:z==sz with
   | false=>rw [hz] at hx; cases hx
   | true =>
    rw [hz] at hx
    cases hx
    have hz:z=sz:=by simpa using hz
    subst hz
    rcases VA h he (.slot 0) with ⟨t,_,_,_,hr⟩ | ⟨z,e',hr⟩
    ·obtain ⟨h0,vs,h1,h2,h3,h4⟩:=hr
     rcases h2.2 with ⟨e1,e2⟩ | ⟨g,cap,cur,e1,_,g1,g2,g3,g4,g5⟩
     ·subst e2
      rw [e1] at h2
      obtain ⟨rfl,rfl⟩:=KU h1 h2
      exact ⟨[],.nil,h3,.inl ⟨⟨_,e1⟩,rfl,rfl⟩⟩
     ·refine ⟨vs,h1,h3,.inr ⟨g,0,cap,e1,h2.1,fun j u hu => ?_⟩⟩
      rw [Nat.zero_add]
      exact qbQ h2 (by rw [e1]; rfl) hu
    ·cases e'
  | _=>cases hx
def jH (P:Program) (N:Nat) (dst:Option Tmp) (t:TypeId) (x y:Operand) (s:St) (K:St→Prop):Prop:=match elT P t,dst with
 | some (e,sz,bytes),some d=>match Qf s sz y with
  | some (m,ds)=>match eval s x with
   | some (.v .nil)=>d<N∧m*bytes≤140737488355328∧m≤9223372036854775807∧K ⟨vO d (.own true e m sz ds) s.F,s.H⟩
   | some (.own pr e' n sz' cs)=>match x with
    | .tmp u=>(e'==e&&sz'==sz)=true∧d<N∧((n+m)*bytes≤140737488355328∧n+m≤9223372036854775807)∧K ⟨vO d (.own pr e (n+m) sz (cs++ds)) (del u s.F),s.H⟩
    | _=>False
   | _=>False
  | none=>False
 | _,_=>False
theorem qlo {o:Oper} {t:TypeId} {x y:Operand} (ho:o.op = .call { callee := .builtin .append,args := #[x,y],argTypes := #[t,t] }) (h:Sim c N s a w) (hk:jH P N o.dst t x y s K):Yl P o a w (Post c w N K):=by
 unfold jH at hk
 split at hk
 ·rename_i e sz bytes d hel hd
  obtain ⟨ht,hsz,i,z,hi,hz,hs,hb,hzs⟩:=qga hel
  cases hy:Qf s sz y with
  | none=>rw [hy] at hk; exact hk.elim
  | some q =>
   obtain ⟨m,ds⟩:=q
   rw [hy] at hk
   simp only at hk
   obtain ⟨ns,r1,r2,r3⟩:=qgB h hy
   have run:∀ v' w',(Builtin.append_ #[t,t] o.type #[a.eval x,a.eval y]).run P w = .ok v' w'→(execOp a.eval o).run P w = .ok (.value v') w':=fun v' w' hr=>by
    unfold execOp
    simp only [ho,resolve,Sem.run_bind,Sem.run_pure,Result.andThen_ok,invoke,builtin,List.map_toArray,List.map_cons,List.map_nil,hr]
   cases hx:eval s x with
   | none=>rw [hx] at hk; exact hk.elim
   | some p =>
    rw [hx] at hk
    cases p with
    | v q =>
     cases q with
     | nil =>
      obtain ⟨h1,h2,h3,hk⟩:=hk
      have hv:a.eval x = .slice none 0 0:=by
       have:=JJ h hx (fun _ _ _ _ _ e=>by cases e) (.slot 0)
       generalize a.eval x=v at this
       cases this
       rfl
      have hown:w.ownsRow 0 e sz (.slice none 0 0) 0 []:=⟨by simp,.inl ⟨rfl,rfl⟩⟩
      obtain ⟨v',w',hr,k1,k2,k3,k4⟩:=qiZ (P:=P) (ty:=o.type) ht hi hz hs hb hzs hsz hown r3 r2 (by unfold maxLen; omega) (by rw [Nat.zero_add]; exact h2)
      simp only [Nat.zero_add,List.nil_append] at k1
      have hsim:Sim c N ⟨del d s.F,s.H⟩ a w:=Sim.sub (F:=s.F) h fun p hp=>(QL (x:=p.2) (k:=p.1) hp).1
      obtain ⟨c',q1,q2⟩:=hsim.grow (t:=d) (u:=d) (pr:=true) (n:=0) (m:=m) (cs := []) (vs := []) (v := .slice none 0 0) h1 hsz (fun k x hx=>⟨(QL hx).2.1,(QL hx).2.2⟩) .nil hown (fun b hb=>by cases hb) r1 (by simpa using r2) (by simpa using k1) k2 k3 (fun g hg=>by cases hg)
      simp only [Nat.zero_add,List.nil_append] at q1
      unfold vO at q1
      rw [qhE] at q1
      refine Zg (run _ _ (by rw [hv]; exact hr)) ?_
      rw [hd]
      exact ⟨c',⟨vO d (.own true e m sz ds) s.F,s.H⟩,q1,q2,hk⟩
     | _=>exact hk.elim
    | own pr e' n sz' cs =>
     cases x with
     | tmp u =>
      obtain ⟨h0,h1,⟨h2,h3⟩,hk⟩:=hk
      simp only [Bool.and_eq_true,beq_iff_eq] at h0
      obtain ⟨rfl,rfl⟩:=h0
      rcases VA h hx (.slot 0) with ⟨t',ht',_,_,hr'⟩ | ⟨z',e'',_⟩
      ·cases ht'
       obtain ⟨_,vs,l1,l2,l3,l4⟩:=hr'
       obtain ⟨v',w',hr,k1,k2,k3,k4⟩:=qiZ (P:=P) (ty:=o.type) ht hi hz hs hb hzs hsz l2 r3 r2 (by unfold maxLen; omega) h2
       have hsim:Sim c N ⟨del u s.F,s.H⟩ a w:=Sim.sub (F:=s.F) h fun p hp=>(QL (x:=p.2) (k:=p.1) hp).1
       obtain ⟨c',q1,q2⟩:=hsim.grow (t:=d) (u:=u) (pr:=pr) (n:=n) (m:=m) (cs:=cs) (vs:=vs) h1 hsz (fun k x hx=>⟨(QL hx).2.1,(QL hx).2.2⟩) l1 l2 l4 r1 (fun x hx=>(List.mem_append.1 hx).elim (l3 x) (r2 x)) k1 k2 k3 k4
       exact Zg (run _ _ hr) ⟨c',_,by rw [hd]; exact q1,q2,hk⟩
      ·cases e''
     | _=>exact hk.elim
    | _=>exact hk.elim
 ·exact hk.elim
def qK (P:Program) (N:Nat) (dst:Option Tmp) (t:TypeId) (x y:Operand) (s:St) (K:St→Prop):Prop:=match elT P t,dst,valOf s x,valOf s y with
 | some (e,sz,bytes),some d,some (.int _ n),some (.int _ m)=>match za P e with
  | some zc=>n=m∧(0≤n∧(bytes:Int)*n≤281474976710656∧n≤9223372036854775807)∧d<N∧K ⟨vO d (.own true e n.toNat sz (jT n.toNat zc)) s.F,s.H⟩
  | none=>False
 | _,_,_,_=>False
theorem qhA {o:Oper} {t:TypeId} {x y:Operand} (ho:o.op = .makeSlice t x y) (h:Sim c N s a w) (hk:qK P N o.dst t x y s K):Yl P o a w (Post c w N K):=by
 unfold qK at hk
 split at hk
 ·rename_i e sz bytes d kn n km m hel hd hx hy
  obtain ⟨ht,hsz,i,z,hi,hz,hs,hb,hzs⟩:=qga hel
  unfold za at hk
  have hzt:qdN P e=some z:=by simp [qdN,hi,hz]
  rw [hzt] at hk
  simp only at hk
  cases h1:z.cells.toList.all (·.oneCell') with
  | false=>rw [h1] at hk; exact hk.elim
  | true =>
   rw [h1] at hk
   simp only [cond_true] at hk
   obtain ⟨rfl,⟨q0,q1,q2⟩,hk0,hk⟩:=hk
   have hxv:=Xd h hx
   have hyv:=Xd h hy
   have hrow:((Array.range (n.toNat*sz)).map fun j=>z.cells[j%z.cells.size]!).toList=(List.replicate n.toNat z.cells.toList).flatten:=by
    have:=qgr z.cells (by omega) n.toNat
    rwa [hzs] at this ⊢
   have hone:∀ v∈((Array.range (n.toNat*sz)).map fun j=>z.cells[j%z.cells.size]!).toList,v.oneCell'=true:=fun v hv=>by
    rw [hrow] at hv
    obtain ⟨l,hl,hv⟩:=List.mem_flatten.1 hv
    rw [(List.mem_replicate.1 hl).2] at hv
    exact List.all_eq_true.1 h1 v hv
   obtain ⟨m1,m2⟩:=Sim.layOwn (F:=s.F) (H:=s.H) (arr:=(Array.range (n.toNat*sz)).map fun j=>z.cells[j%z.cells.size]!) (cs:=jT n.toNat (z.cells.toList.map V.vL)) (e:=e) (n:=n.toNat) (cap:=n.toNat) (sz:=sz) h hk0 hsz
    (by rw [List.take_of_length_le (by simp)]; rw [hrow]; exact qfl (qaP qar _) _) (Nat.le_refl _) (by unfold maxLen; omega) (by simp) hone
   refine Zg (v := .slice (some ⟨w.heap.size,0,none⟩) n.toNat n.toNat) (w':=w.alloc (.cells ((Array.range (n.toNat*sz)).map fun j=>z.cells[j%z.cells.size]!) e)) ?_ ⟨_,_,by rw [hd]; exact m1,m2,hk⟩
   unfold execOp
   simp only [ho,hxv,hyv,Sem.run_bind]
   rw [run_make w t e i z ht hi hz kn km n n q0 (Int.le_refl _) (by rw [hb]; exact q1) q2]
   simp only [Result.andThen_ok,Sem.run_pure,hs]
   rfl
 ·exact hk.elim
def yX (s:St):List Operand→Option (List V)
 | []=>some []
 | x::xs=>match zZ s x,yX s xs with
  | some v,some l=>some (v::l)
  | _,_=>none
theorem qeJ (h:Sim c N s a w):∀ {xs:List Operand} {l:List V},yX s xs=some l→vM c.I c.φ l (xs.map a.eval)
 | [],l,hl=>by cases hl; exact .nil
 | x::xs,l,hl=>by
  unfold yX at hl
  cases hx:zZ s x with
  | none=>rw [hx] at hl; cases hl
  | some v =>
   cases hp:yX s xs with
   | none=>rw [hx,hp] at hl; cases hl
   | some l' =>
    rw [hx,hp] at hl
    cases hl
    exact .cons (vD h hx) (qeJ h hp)
def qZ (N:Nat) (dst:Option Tmp) (f:Fn) (first cap:List Operand) (s:St) (K:St→Prop):Prop:=match yX s first,yX s cap with
 | some l,some k=>jR N dst (.v (.fn f l k)) s K
 | _,_=>False
theorem qhB {o:Oper} {f:Fn} {first cap:Array Operand} (ho:o.op = .makeFunc f first cap) (h:Sim c N s a w) (hk:qZ N o.dst f first.toList cap.toList s K):Reads P o a w (Post c w N K):=by
 unfold qZ at hk
 split at hk
 ·rename_i l k h1 h2
  refine ⟨.func f (first.map a.eval) (cap.map a.eval),fun w' _ => ?_,vg h hk fun _ _=>Rel.fn (by simpa using qeJ h h1) (by simpa using qeJ h h2)⟩
  unfold execOp
  simp only [ho,Instr.makeFunc,Sem.run_bind,Sem.run_pure,Result.andThen_ok]
 ·exact hk.elim
end
section
variable {P:Program} {c:Cx} {N:Nat} {s:St} {a:Act} {w:World} {K:St→Prop}
def qnE (P:Program) (f:TypeId→Value→Value→Option Bool) (xs ys:Array Value):List Field→Option Bool
  | []=>some true
  | fd::fs=>bif fd.name == "_" then none else match yJ P fd.type,sizeT P fd.type with
    | some true,some n=>match f fd.type (.agg (xs.extract fd.offset (fd.offset+n))) (.agg (ys.extract fd.offset (fd.offset+n))),qnE P f xs ys fs with
      | some a,some b=>some (a&&b)
      | _,_=>none
    | some false,some _=>match xs[fd.offset]?,ys[fd.offset]? with
      | some x,some y=>match f fd.type x y,qnE P f xs ys fs with
        | some a,some b=>some (a&&b)
        | _,_=>none
      | _,_=>none
    | _,_=>none
def eqT (P:Program):Nat→TypeId→Value→Value→Option Bool
  | 0,_,_,_=>none
  | d+1,t,x,y=>match P.underlying t,x,y with
    | some .bool,.bool a,.bool b=>some (a==b)
    | some (.int _),.int k a,.int k' b=>if k=k' then some (a==b) else none
    | some .string,.string a,.string b=>some (a==b)
    | some (.struct fs),.agg xs,.agg ys=>bif P.stoodInHeld t then none else qnE P (eqT P d) xs ys fs.toList
    | _,_,_=>none
theorem qml {f:TypeId→Value→Value→Option Bool} {e:Nat} {w:World} (hf:∀ t x y r,f t x y=some r→(Op.equalIn e t x y).run P w = .ok r w) {xs ys:Array Value} :
    ∀ {fs:List Field} {r:Bool},qnE P f xs ys fs=some r→(Op.eqFields e xs ys fs).run P w = .ok r w
  | [],r,h=>by cases h; simp [Op.eqFields]
  | fd::fs,r,h=>by
    unfold qnE at h
    cases hn:fd.name == "_" with
    | true=>rw [hn] at h; cases h
    | false =>
      rw [hn] at h
      simp only [cond_false] at h
      have hn:fd.name ≠ "_" := by simpa using hn
      have key:∀ x y:Value,(part fd.type xs fd.offset).run P w = .ok x w→(part fd.type ys fd.offset).run P w = .ok y w→(match f fd.type x y,qnE P f xs ys fs with
          | some a,some b=>some (a&&b)
          | _,_=>none)=some r→(Op.eqFields e xs ys (fd::fs)).run P w = .ok r w:=by
        intro x y hx hy h
        cases h1:f fd.type x y with
        | none=>rw [h1] at h; cases h
        | some a =>
          cases h2:qnE P f xs ys fs with
          | none=>rw [h1,h2] at h; cases h
          | some b =>
            rw [h1,h2] at h
            cases h
            unfold Op.eqFields
            rw [if_pos hn]
            simp only [Sem.run_bind,hx,hy,Result.andThen_ok,hf _ _ _ _ h1]
            cases a
            · simp
            · simp only [Bool.not_true,Bool.false_eq_true,if_false,Bool.true_and]
              exact qml hf h2
      split at h
      · rename_i n ha hs
        exact key _ _ (by simp only [part,Sem.run_bind,Vr ha,Result.andThen_ok,if_true,run_sizeOf hs,Sem.run_pure]) (by simp only [part,Sem.run_bind,Vr ha,Result.andThen_ok,if_true,run_sizeOf hs,Sem.run_pure]) h
      · rename_i n ha hs
        cases hx:xs[fd.offset]? with
        | none=>rw [hx] at h; cases h
        | some x =>
          cases hy:ys[fd.offset]? with
          | none=>rw [hx,hy] at h; cases h
          | some y =>
            rw [hx,hy] at h
            exact key x y (by simp only [part,Sem.run_bind,Vr ha,Result.andThen_ok,Bool.false_eq_true,if_false,hx,Sem.run_pure]) (by simp only [part,Sem.run_bind,Vr ha,Result.andThen_ok,Bool.false_eq_true,if_false,hy,Sem.run_pure]) h
      · cases h
theorem eqT_run:∀ (d:Nat) (t:TypeId) (x y:Value) (r:Bool),eqT P d t x y=some r→∀ (e:Nat) (w:World),d≤e→(Op.equalIn e t x y).run P w = .ok r w:=by
  intro d
  induction d with
  | zero=>intro t x y r h; cases h
  | succ d ih =>
    intro t x y r h e w he
    obtain ⟨e,rfl⟩:∃ k,e=k+1:=⟨e - 1,by omega⟩
    unfold eqT at h
    split at h
    · rename_i a b hu
      cases h
      simp only [Op.equalIn,Sem.run_bind,qX hu,Result.andThen_ok,Sem.run_pure]
    · rename_i k a k' b hu
      split at h
      · rename_i hk
        cases h
        simp only [Op.equalIn,Sem.run_bind,qX hu,Result.andThen_ok,hk,if_true,Sem.run_pure]
      · cases h
    · rename_i a b hu
      cases h
      simp only [Op.equalIn,Sem.run_bind,qX hu,Result.andThen_ok,Sem.run_pure]
    · rename_i fs xs ys hu
      cases hp:P.stoodInHeld t with
      | true=>rw [hp] at h; cases h
      | false =>
        rw [hp] at h
        simp only [cond_false] at h
        have hfs:P.fieldsOf t=fs:=by simp [Program.fieldsOf,hu]
        rw [run_equalIn_agg w e t xs ys (by rw [hfs]; exact hu) hp,hfs]
        exact qml (fun t x y r h=>ih t x y r h e w (by omega)) h
    · cases h
def XU (P:Program) (op:BinOp) (t:TypeId) (x y:Operand) (u v:Value):Option Value:=idle P (eqGuard op t x y u v >>= fun _=>binOp op t u v)
def isEq:BinOp→Bool
  | .eql=>true
  | _=>false
def Qg:BinOp→Bool
  | .neq=>true
  | _=>false
def Zm (P:Program) (t:TypeId):Value→Bool
  | .pointer none=>match P.underlying t with
    | some (.pointer _)=>true
    | _=>false
  | .map none=>match P.underlying t with
    | some (.map _ _)=>true
    | _=>false
  | .nilFunc=>match P.underlying t with
    | some (.func _ _ _)=>true
    | _=>false
  | _=>false
def jc:V→Value→Bool
  | .ptr ..,.pointer none=>true
  | .rd _,.pointer none=>true
  | .map _,.map none=>true
  | .fn ..,.nilFunc=>true
  | _,_=>false
theorem qny {I:Nat→Nat→Option Value} {φ:List Nat} {p:V} {u v:Value} (h:Rel I φ p u) (hf:jc p v=true) :
    (∃ a,u = .pointer (some a)∧v = .pointer none)∨(∃ r,u = .map (some r)∧v = .map none)∨(∃ f l k,u = .func f l k∧v = .nilFunc):=by
  cases h with
  | rd h1 h2 h3 =>
    cases v with
    | pointer z =>
      cases z with
      | none=>exact .inl ⟨_,rfl,rfl⟩
      | some z=>simp [jc] at hf
    | _=>simp [jc] at hf
  | ptr h =>
    cases v with
    | pointer z =>
      cases z with
      | none=>exact .inl ⟨_,rfl,rfl⟩
      | some z=>simp [jc] at hf
    | _=>simp [jc] at hf
  | map h =>
    cases v with
    | map z =>
      cases z with
      | none=>exact .inr (.inl ⟨_,rfl,rfl⟩)
      | some z=>simp [jc] at hf
    | _=>simp [jc] at hf
  | fn h1 h2 =>
    cases v with
    | nilFunc=>exact .inr (.inr ⟨_,_,_,rfl,rfl⟩)
    | _=>simp [jc] at hf
  | _=>simp [jc] at hf
theorem qmk {t:TypeId} {u v:Value} (e:Nat) (w:World) (hn:Zm P t v=true) (h:(∃ a,u = .pointer (some a)∧v = .pointer none)∨(∃ r,u = .map (some r)∧v = .map none)∨(∃ f l k,u = .func f l k∧v = .nilFunc)) :
    (Op.equalIn (e+1) t u v).run P w = .ok false w:=by
  rcases h with ⟨a,rfl,rfl⟩ | ⟨r,rfl,rfl⟩ | ⟨f,l,k,rfl,rfl⟩
  · simp only [Zm] at hn
    split at hn
    · rename_i hu
      simp only [Op.equalIn,Sem.run_bind,qX hu,Result.andThen_ok,Sem.run_pure]
    · cases hn
  · simp only [Zm] at hn
    split at hn
    · rename_i hu
      simp only [Op.equalIn,Sem.run_bind,qX hu,Result.andThen_ok,Sem.run_pure,Option.isNone]
    · cases hn
  · simp only [Zm] at hn
    split at hn
    · rename_i hu
      simp only [Op.equalIn,Sem.run_bind,qX hu,Result.andThen_ok,Sem.run_pure]
    · cases hn
theorem bin_nil {t:TypeId} {x y:Operand} {u v:Value} (w:World) (hn:Zm P t v=true) (h:(∃ a,u = .pointer (some a)∧v = .pointer none)∨(∃ r,u = .map (some r)∧v = .map none)∨(∃ f l k,u = .func f l k∧v = .nilFunc)) :
    (∀ op,(eqGuard op t x y u v).run P w = .ok () w)∧(binOp .eql t u v).run P w = .ok (.bool false) w∧(binOp .neq t u v).run P w = .ok (.bool true) w:=by
  have hr:=qmk (P:=P) 9999 w hn h
  have hr':(Op.equal t u v).run P w = .ok false w:=hr
  rcases h with ⟨a,rfl,rfl⟩ | ⟨r,rfl,rfl⟩ | ⟨f,l,k,rfl,rfl⟩
  all_goals
    refine ⟨fun op=>by cases op <;> rfl,?_,?_⟩
    · unfold binOp
      simp only [Sem.run_bind,hr',Result.andThen_ok,Sem.run_pure]
    · unfold binOp
      simp only [Sem.run_bind,hr',Result.andThen_ok,Sem.run_pure,Bool.not_false]
def sliceB (P:Program) (t:TypeId):Bool:=match P.underlying t with
  | some (.slice _)=>true
  | _=>false
theorem qgU {t:TypeId} {x y:Operand} {A:Option Addr} {n c:Nat} (w:World) (hn:sliceB P t=true) :
    (∀ op,(eqGuard op t x y (.slice A n c) (.slice none 0 0)).run P w = .ok () w)∧(binOp .eql t (.slice A n c) (.slice none 0 0)).run P w = .ok (.bool A.isNone) w∧(binOp .neq t (.slice A n c) (.slice none 0 0)).run P w = .ok (.bool (!A.isNone)) w:=by
  unfold sliceB at hn
  split at hn
  · rename_i e hu
    have hr0:∀ e,(Op.equalIn (e+1) t (.slice A n c) (.slice none 0 0)).run P w = .ok A.isNone w:=fun e=>by
      cases A <;> simp only [Op.equalIn,Sem.run_bind,qX hu,Result.andThen_ok,Sem.run_pure,Option.isNone]
    have hr:(Op.equal t (.slice A n c) (.slice none 0 0)).run P w = .ok A.isNone w:=hr0 9999
    refine ⟨fun op=>by cases op <;> rfl,?_,?_⟩
    · unfold binOp
      simp only [Sem.run_bind,hr,Result.andThen_ok,Sem.run_pure]
    · unfold binOp
      simp only [Sem.run_bind,hr,Result.andThen_ok,Sem.run_pure]
  · cases hn
theorem sl_shape {I:Nat→Nat→Option Value} {φ:List Nat} {n sz:Nat} {cs:List V} {u:Value} (h:Rel I φ (.sl n sz cs) u):∃ A c,u = .slice A n c∧(A.isNone=true→n=0):=by
  cases h with
  | sl=>exact ⟨_,_,rfl,fun h=>by cases h⟩
  | sl0=>exact ⟨_,_,rfl,fun _=>rfl⟩
def ZF (P:Program) (N:Nat) (dst:Option Tmp) (op:BinOp) (t:TypeId) (x y:Operand) (s:St) (K:St→Prop):Prop:=match zZ s x,zZ s y with
  | some p,some q=>match p.exact,q.exact with
    | some (.agg us),some (.agg vs)=>P.eqGuardType P.depth t=false∧(match eqT P 10 t (.agg us) (.agg vs) with
      | some r=>bif isEq op then jR N dst (.v (.sc (.bool r))) s K else bif Qg op then jR N dst (.v (.sc (.bool (!r)))) s K else False
      | none=>False)
    | some u,some v=>match XU P op t x y u v with
      | some r=>jR N dst (.v (.ofValue r)) s K
      | none=>False
    | none,some v=>match p,v with
      | .sl n _ _,.slice none 0 0=>sliceB P t=true∧∀ b:Bool,(b=true→n=0)→(bif isEq op then jR N dst (.v (.sc (.bool b))) s K else bif Qg op then jR N dst (.v (.sc (.bool (!b)))) s K else False)
      | _,_=>(jc p v&&Zm P t v)=true∧(bif isEq op then jR N dst (.v (.sc (.bool false))) s K else bif Qg op then jR N dst (.v (.sc (.bool true))) s K else False)
    | _,_=>False
  | _,_=>False
theorem qnV {o:Oper} {op:BinOp} {t t':TypeId} {x y:Operand} (ho:o.op = .binOp op t x y t') (h:Sim c N s a w) (hk:ZF P N o.dst op t x y s K):Reads P o a w (Post c w N K):=by
  unfold ZF at hk
  split at hk
  · rename_i p q hx hy
    have hp:=vD h hx
    have hq:=vD h hy
    split at hk
    · rename_i us vs hu hv
      have e1:=Rel.exact hp hu
      have e2:=Rel.exact hq hv
      obtain ⟨hg,hk⟩:=hk
      cases he:eqT P 10 t (.agg us) (.agg vs) with
      | none=>rw [he] at hk; exact hk.elim
      | some r =>
        rw [he] at hk
        simp only at hk
        have hrun:=fun w'=>eqT_run 10 t _ _ r he 10000 w' (by omega)
        cases op <;> simp only [isEq,Qg,cond_true,cond_false] at hk <;> first
          | exact hk.elim
          | (refine ⟨_,fun w' _ => ?_,vg h hk fun _ _=>Rel.sc _⟩
             unfold execOp
             simp only [ho,e1,e2,Sem.run_bind,run_eqGuard_agg w' _ t x y us vs hg,Result.andThen_ok,run_eql_struct,run_neq_struct,hrun,Sem.run_pure])
    · rename_i u v _ hu hv
      have e1:=Rel.exact hp hu
      have e2:=Rel.exact hq hv
      cases hb:XU P op t x y u v with
      | some r =>
        rw [hb] at hk
        refine ⟨r,fun w' _ => ?_,vg h hk fun _ _=>K5 r⟩
        unfold execOp
        have:=qcT hb w'
        simp only [ho,e1,e2]
        rw [Sem.run_bind,this,Result.andThen_ok,Sem.run_pure]
      | none =>
        rw [hb] at hk
        exact hk.elim
    · rename_i v hu hv
      have e2:=Rel.exact hq hv
      generalize hxv:a.eval x=xv at hp
      split at hk
      · rename_i n _ _ _ _
        obtain ⟨f2,hk⟩:=hk
        obtain ⟨A,c',rfl,hA⟩:=sl_shape hp
        have hk:=hk A.isNone hA
        cases op <;> simp only [isEq,Qg,cond_true,cond_false] at hk <;> first
          | exact hk.elim
          | (refine ⟨_,fun w' _ => ?_,vg h hk fun _ _=>Rel.sc _⟩
             have b1:=fun n op=>(qgU (P:=P) (x:=x) (y:=y) (A:=A) (n:=n) (c:=c') w' f2).1 op
             have b2:=fun n=>(qgU (P:=P) (x:=x) (y:=y) (A:=A) (n:=n) (c:=c') w' f2).2.1
             have b3:=fun n=>(qgU (P:=P) (x:=x) (y:=y) (A:=A) (n:=n) (c:=c') w' f2).2.2
             unfold execOp
             simp only [ho,hxv,e2,Sem.run_bind,b1,Result.andThen_ok,b2,b3,Sem.run_pure])
      obtain ⟨hf,hk⟩:=hk
      simp only [Bool.and_eq_true] at hf
      obtain ⟨f1,f2⟩:=hf
      have hs:=qny hp f1
      cases op <;> simp only [isEq,Qg,cond_true,cond_false] at hk <;> first
        | exact hk.elim
        | (refine ⟨_,fun w' _ => ?_,vg h hk fun _ _=>Rel.sc _⟩
           obtain ⟨b1,b2,b3⟩:=bin_nil (P:=P) (x:=x) (y:=y) w' f2 hs
           unfold execOp
           simp only [ho,hxv,e2,Sem.run_bind,b1,Result.andThen_ok,b2,b3,Sem.run_pure])
    · exact hk.elim
  · exact hk.elim
def unR (P:Program) (op:UnOp) (v:Value):Option Value:=idle P (Op.unary op v)
def aUn (P:Program) (N:Nat) (dst:Option Tmp) (op:UnOp) (x:Operand) (s:St) (K:St→Prop):Prop:=match valOf s x with
  | some v=>match unR P op v with
    | some r=>jR N dst (.v (.ofValue r)) s K
    | none=>False
  | none=>False
theorem qpu {o:Oper} {op:UnOp} {t:TypeId} {x:Operand} (ho:o.op = .unOp op t x) (h:Sim c N s a w) (hk:aUn P N o.dst op x s K):Reads P o a w (Post c w N K):=by
  unfold aUn at hk
  cases hx:valOf s x with
  | none=>rw [hx] at hk; exact hk.elim
  | some v =>
    rw [hx] at hk
    simp only at hk
    cases hr:unR P op v with
    | none=>rw [hr] at hk; exact hk.elim
    | some r =>
      rw [hr] at hk
      refine ⟨r,fun w' _ => ?_,vg h hk fun _ _=>K5 r⟩
      unfold execOp
      have:=qcT hr w'
      simp only [ho,Xd h hx,Sem.run_bind,this,Result.andThen_ok,Sem.run_pure]
def qeA (P:Program) (src dst:TypeId) (v:Value):Option Value:=idle P (convert src dst v)
def Qp (P:Program) (N:Nat) (dst:Option Tmp) (t u:TypeId) (x:Operand) (s:St) (K:St→Prop):Prop:=match valOf s x with
  | some v=>match qeA P t u v with
    | some r=>jR N dst (.v (.ofValue r)) s K
    | none=>False
  | none=>False
theorem qmI {o:Oper} {t u:TypeId} {x:Operand} (ho:o.op = .convert t u x) (h:Sim c N s a w) (hk:Qp P N o.dst t u x s K):Reads P o a w (Post c w N K):=by
  unfold Qp at hk
  cases hx:valOf s x with
  | none=>rw [hx] at hk; exact hk.elim
  | some v =>
    rw [hx] at hk
    simp only at hk
    cases hr:qeA P t u v with
    | none=>rw [hr] at hk; exact hk.elim
    | some r =>
      rw [hr] at hk
      refine ⟨r,fun w' _ => ?_,vg h hk fun _ _=>K5 r⟩
      unfold execOp
      have:=qcT hr w'
      simp only [ho,Xd h hx,Sem.run_bind,this,Result.andThen_ok,Sem.run_pure]
def mmR (P:Program) (b:Builtin) (u v:Value):Option Value:=match b with
  | .min=>idle P (Builtin.min_ #[] 0 #[u,v])
  | .max=>idle P (Builtin.max_ #[] 0 #[u,v])
  | _=>none
def aMM (P:Program) (N:Nat) (dst:Option Tmp) (b:Builtin) (x y:Operand) (s:St) (K:St→Prop):Prop:=match valOf s x,valOf s y with
  | some u,some v=>match mmR P b u v with
    | some r=>jR N dst (.v (.ofValue r)) s K
    | none=>False
  | _,_=>False
theorem qkq {o:Oper} {b:Builtin} {ts:Array TypeId} {x y:Operand} (ho:o.op = .call { callee := .builtin b,args := #[x,y],argTypes:=ts }) (h:Sim c N s a w) (hk:aMM P N o.dst b x y s K):Reads P o a w (Post c w N K):=by
  unfold aMM at hk
  split at hk
  · rename_i u v hx hy
    cases hr:mmR P b u v with
    | none=>rw [hr] at hk; exact hk.elim
    | some r =>
      rw [hr] at hk
      refine ⟨r,fun w' _ => ?_,vg h hk fun _ _=>K5 r⟩
      unfold execOp
      unfold mmR at hr
      split at hr
      · have:=qcT hr w'
        have e:Builtin.min_ ts o.type #[u,v]=Builtin.min_ #[] 0 #[u,v]:=rfl
        simp only [ho,resolve,Sem.run_bind,Sem.run_pure,Result.andThen_ok,invoke,builtin,List.map_toArray,List.map_cons,List.map_nil,Xd h hx,Xd h hy,e,this]
      · have:=qcT hr w'
        have e:Builtin.max_ ts o.type #[u,v]=Builtin.max_ #[] 0 #[u,v]:=rfl
        simp only [ho,resolve,Sem.run_bind,Sem.run_pure,Result.andThen_ok,invoke,builtin,List.map_toArray,List.map_cons,List.map_nil,Xd h hx,Xd h hy,e,this]
      · cases hr
  · exact hk.elim
def vW (P:Program) (N:Nat) (dst:Option Tmp) (t:TypeId) (x:Operand) (s:St) (K:St→Prop):Prop:=match zZ s x,P.underlying t with
  | some v,some d=>(match d with
    | .interface _=>False
    | _=>jR N dst (.v (.iface t v)) s K)
  | _,_=>False
theorem qlj {o:Oper} {t:TypeId} {x:Operand} (ho:o.op = .makeInterface t x) (h:Sim c N s a w) (hk:vW P N o.dst t x s K):Reads P o a w (Post c w N K):=by
  unfold vW at hk
  split at hk
  · rename_i v d hx hu
    refine ⟨.iface t (a.eval x),fun w' _ => ?_,?_⟩
    · unfold execOp
      simp only [ho,Instr.makeInterface,Sem.run_bind,qX hu,Result.andThen_ok]
      split at hk
      · exact hk.elim
      · rename_i hd
        cases d <;> first
          | exact absurd rfl (hd _)
          | simp only [Sem.run_pure,Result.andThen_ok]
    · split at hk
      · exact hk.elim
      · exact vg h hk fun _ _=>Rel.iface (vD h hx)
  · exact hk.elim
def jD (P:Program) (N:Nat) (dst:Option Tmp) (x:Operand) (t:TypeId) (ok:Bool) (s:St) (K:St→Prop):Prop:=match zZ s x,P.underlying t with
  | some (.iface t' v),some d=>(t'==t)=true∧(match d with
    | .interface _=>False
    | _=>jR N dst (.v (bif ok then .tup [v,.sc (.bool true)] else v)) s K)
  | _,_=>False
theorem qjn {o:Oper} {t t':TypeId} {ok:Bool} {x:Operand} (ho:o.op = .typeAssert x t' t ok) (h:Sim c N s a w) (hk:jD P N o.dst x t ok s K):Reads P o a w (Post c w N K):=by
  unfold jD at hk
  split at hk
  · rename_i t2 v d hx hu
    obtain ⟨h1,hk⟩:=hk
    have h1:t2=t:=by simpa using h1
    subst h1
    have hr:=vD h hx
    generalize hv:a.eval x=xv at hr
    cases hr with
    | iface hr =>
      rename_i u
      refine ⟨if ok then .tuple #[u,.bool true] else u,fun w' _ => ?_,?_⟩
      · unfold execOp
        simp only [ho,hv,Instr.typeAssert,Sem.run_bind,qX hu,Result.andThen_ok]
        split at hk
        · exact hk.elim
        · rename_i hd
          cases d <;> first
            | exact absurd rfl (hd _)
            | (simp only [if_true,Sem.run_pure,Result.andThen_ok])
      · split at hk
        · exact hk.elim
        · refine vg h hk fun _ _ => ?_
          cases ok
          · exact hr
          · exact Rel.tup (vs := #[u,.bool true]) (.cons hr (.cons (.sc _) .nil))
  · exact hk.elim
end
section
variable {P:Program} {c:Cx} {N:Nat} {s:St} {F:Fr} {H:List Bk} {a:Act} {w:World} {K:St→Prop}
theorem Sim.drew (h:Sim c N s a w):Sim c N s a w.drew:=by
 refine ⟨⟨fun b o v hv=>h.inv.imm b o v hv,h.inv.len,h.inv.lt,h.inv.uniq,fun id b k hb hk => ?_⟩,h.size,h.defers,fun t x hx => ?_⟩
 ·obtain ⟨k1,k2,k3⟩:=h.inv.blk id b k hb hk
  refine ⟨k1,k2,?_⟩
  by_cases hck:∃ cs,k = .cells cs
  rotate_left
  ·exact qac.stay (fun cs e=>hck ⟨cs,e⟩) k3 (fun _ _ _ h=>h) (fun _ _ h=>h) (fun _ _ h _=>h)
  obtain ⟨cs,rfl⟩:=hck
  obtain ⟨arr,e,g1,g2,g6,g3⟩:=k3
  exact ⟨arr,e,g1,g2,g6,fun j x v hx hv=>⟨(g3 j x v hx hv).1,QF.mono (c:=c) (c':=c) (w:=w) (w':=w.drew) (fun _ _ _ h=>h) (fun _ _ h=>h) (fun _ _ _ hb=>⟨hb,rfl,fun _=>rfl⟩) (g3 j x v hx hv).2⟩⟩
 ·obtain ⟨v,hv,hr⟩:=h.fr t x hx
  exact ⟨v,hv,QF.mono (c:=c) (c':=c) (w:=w) (w':=w.drew) (fun _ _ _ h=>h) (fun _ _ h=>h) (fun _ _ _ hb=>⟨hb,rfl,fun _=>rfl⟩) hr⟩
theorem Ext.drew (c:Cx) (w:World):Ext c w c w.drew:=⟨rfl,rfl,rfl,Nat.le_refl _,fun _ _ h=>⟨rfl,h,fun _=>rfl⟩,fun _ _ _ h=>h,fun _ _ h=>h⟩
def turn (w:World) (b:Nat) (o:Obj):World := { w with heap:=w.heap.setIfInBounds b o }
theorem Y8 {b k:Nat} {o:Obj} (h:k≠b):(turn w b o).heap[k]? = w.heap[k]? := by simp [turn,Array.getElem?_setIfInBounds,Ne.symm h]
theorem qcE {b:Nat} {o:Obj} (h:b<w.heap.size):(turn w b o).heap[b]? = some o:=by simp [turn,Array.getElem?_setIfInBounds,h]
theorem qjx {b:Nat} {o:Obj}:(turn w b o).heap.size=w.heap.size:=by simp [turn]
theorem Sim.turn {id b:Nat} {k k':Bk} {o:Obj} (h:Sim c N ⟨F,H⟩ a w) (hb:c.φ[id]? = some b) (hk:H[id]? = some k) (hnew:qac c (turn w b o) id b k')
  (hit:∀ i m l cu bm,H[i]? = some (.iter m l cu)→i≠id→c.φ[m]? = some bm→(∃ ents cl,w.heap[bm]? = some (.map ents cl))→bm≠b):Sim c N ⟨F,H.set id k'⟩ a (turn w b o):=by
 obtain ⟨hr,hi,_⟩:=h.inv.blk id b _ hb hk
 have hlt:id<H.length:=(List.getElem?_eq_some_iff.1 hk).1
 have own:∀ b' q,c.R b' = .own q→b'≠b:=fun b' q hq e=>by subst e; rw [hr] at hq; cases hq
 refine ⟨⟨fun b' o' v hv => ?_,by simpa using h.inv.len,fun b' hb'=>by rw [qjx]; exact h.inv.lt b' hb',h.inv.uniq,fun id' b' kk hb' hk' => ?_⟩,h.size,h.defers,fun t x hx => ?_⟩
 ·have hne:b'≠b:=by rintro rfl; rw [hi] at hv; cases hv
  rw [World.cell?_of_block (a:=⟨b',o',none⟩) (Y8 (w:=w) (b:=b) (o:=o) hne)]
  exact h.inv.imm b' o' v hv
 ·by_cases hid:id=id'
  ·subst hid
   rw [hb] at hb'
   cases hb'
   have:(H.set id k')[id]? = some kk:=hk'
   rw [List.getElem?_set_self hlt] at this
   cases this
   exact ⟨hr,hi,hnew⟩
  ·have hk2:H[id']? = some kk:=by
    have hh:(H.set id k')[id']? = some kk:=hk'
    rwa [List.getElem?_set_ne hid] at hh
   obtain ⟨k1,k2,k3⟩:=h.inv.blk id' b' kk hb' hk2
   have hne:b'≠b:=by
    rintro rfl
    rw [hr] at k1
    exact hid (by simpa using k1)
   refine ⟨k1,k2,?_⟩
   cases kk with
   | cells cs =>
    obtain ⟨arr,e,g1,g2,g6,g3⟩:=k3
    refine ⟨arr,e,(Y8 hne).trans g1,g2,g6,fun j x v hx hv=>⟨(g3 j x v hx hv).1,?_⟩⟩
    exact QF.mono (c:=c) (c':=c) (w:=w) (w':=AM.turn w b o) (fun _ _ _ h=>h) (fun _ _ h=>h) (fun b2 q _ hq=>⟨hq,Y8 (own b2 q hq),fun _=>rfl⟩) (g3 j x v hx hv).2
   | map es =>
    obtain ⟨ents,clock,h1,h2,h3,h4⟩:=k3
    exact ⟨ents,clock,(Y8 hne).trans h1,h2,h3,h4⟩
   | iter m l cu =>
    obtain ⟨bm,since,seen,ents,h1,h2,h3,h4,h5,h6,h7⟩:=k3
    exact ⟨bm,since,seen,ents,h1,(Y8 hne).trans h2,(Y8 (hit id' m l cu bm hk2 (Ne.symm hid) h1 ⟨_,_,h3⟩)).trans h3,h4,h5,h6,h7⟩
   | dead=>trivial
 ·obtain ⟨v,hv,hs⟩:=h.fr t x hx
  exact ⟨v,hv,QF.mono (c:=c) (c':=c) (w:=w) (w':=AM.turn w b o) (fun _ _ _ h=>h) (fun _ _ h=>h) (fun b2 q _ hq=>⟨hq,Y8 (own b2 q hq),fun _=>rfl⟩) hs⟩
theorem Ext.turn {b:Nat} {o:Obj} (c:Cx) (w:World) (hb:c.R b ≠ .out):Ext c w c (AM.turn w b o) :=
 ⟨rfl,rfl,rfl,by rw [qjx]; exact Nat.le_refl _,fun k _ hk=>⟨Y8 (by rintro rfl; exact hb hk),hk,fun _=>rfl⟩,fun _ _ _ h=>h,fun _ _ h=>h⟩
def qjX (m:Nat):Bk→Bk
 | .iter m' l cu=>bif m'==m then .dead else .iter m' l cu
 | k=>k
def Zk (m:Nat) (H:List Bk):List Bk:=H.map (qjX m)
theorem Sim.Zk (h:Sim c N ⟨F,H⟩ a w) (m:Nat):Sim c N ⟨F,Zk m H⟩ a w:=by
 refine ⟨⟨h.inv.imm,by simpa [AM.Zk] using h.inv.len,h.inv.lt,h.inv.uniq,fun id b k hb hk => ?_⟩,h.size,h.defers,h.fr⟩
 have hk:(H.map (qjX m))[id]? = some k:=hk
 rw [List.getElem?_map] at hk
 cases hk':H[id]? with
 | none=>rw [hk'] at hk; cases hk
 | some k' =>
  rw [hk'] at hk
  simp only [Option.map_some,Option.some.injEq] at hk
  subst hk
  obtain ⟨h1,h2,h3⟩:=h.inv.blk id b k' hb hk'
  refine ⟨h1,h2,?_⟩
  unfold qjX
  split
  ·rename_i m' l cu
   cases hm:m'==m with
   | true=>trivial
   | false=>simpa using h3
  ·exact h3
theorem qiz {m id:Nat} {k:Bk} (h:H[id]? = some k):(Zk m H)[id]? = some (qjX m k):=by
 unfold Zk
 rw [List.getElem?_map,h]
 rfl
theorem qeq {m i m':Nat} {l:List (Value×V)} {cu:Option (Value×V)} (h:(Zk m H)[i]? = some (.iter m' l cu)):m'≠m:=by
 unfold Zk at h
 rw [List.getElem?_map] at h
 cases hk:H[i]? with
 | none=>rw [hk] at h; cases h
 | some k =>
  rw [hk] at h
  simp only [Option.map_some,Option.some.injEq] at h
  unfold qjX at h
  split at h
  ·rename_i m2 l2 c2
   cases hm:m2==m with
   | true=>rw [hm] at h; cases h
   | false =>
    rw [hm] at h
    cases h
    simpa using hm
  ·rename_i hx
   exact absurd h (hx _ _ _)
def Zw (P:Program) (t:TypeId):Bool:=match P.underlying t with
 | some .bool | some (.int _) | some .string=>true
 | _=>false
theorem ql7 {t:TypeId} (h:Zw P t=true) (e:Bool) (n:Nat) (v:Value) (w:World):(Instr.checkKey e (n+1) t v).run P w = .ok () w:=by
 unfold Zw at h
 cases hu:P.underlying t with
 | none=>rw [hu] at h; cases h
 | some d =>
  rw [hu] at h
  cases d
  case bool=>simp only [Instr.checkKey,Sem.run_bind,qX hu,Result.andThen_ok]; cases v <;> simp
  case int=>simp only [Instr.checkKey,Sem.run_bind,qX hu,Result.andThen_ok]; cases v <;> simp
  case string=>simp only [Instr.checkKey,Sem.run_bind,qX hu,Result.andThen_ok]; cases v <;> simp
  all_goals cases h
def qcp (d:TypeDesc) (k:Value):List (Value×V)→Nat→Option (Option (Nat×V))
 | [],_=>some none
 | (k',x)::es,i=>match Instr.sameNow d k k' with
  | some true=>some (some (i,x))
  | some false=>qcp d k es (i+1)
  | none=>none
theorem qjS {I:Nat→Nat→Option Value} {φ:List Nat} {d:TypeDesc} {k:Value}:∀ {es:List (Value×V)} {l:List MapEntry} {i:Nat},qbn I φ es l →
  (qcp d k es i=some none→Instr.findNow d k l i=some none) ∧
  ∀ j x,qcp d k es i=some (some (j,x))→∃ k' v,Instr.findNow d k l i=some (some (j,v))∧Rel I φ x v∧i≤j∧es[j - i]? = some (k',x)∧Instr.sameNow d k k'=some true
 | _,_,i,.nil=>⟨fun _=>rfl,fun j x h=>by cases h⟩
 | _,_,i,.cons (k:=k0) (x:=x0) (e:=e) (es:=es) (l:=l) h1 h2 h3=>by
  obtain ⟨r1,r2⟩:=qjS (i:=i+1) h3
  unfold qcp Instr.findNow
  rw [h1]
  cases hs:Instr.sameNow d k k0 with
  | none=>exact ⟨fun h=>(by cases h),fun j x h=>(by cases h)⟩
  | some b =>
   cases b with
   | true =>
    refine ⟨fun h=>(by cases h),fun j x h => ?_⟩
    simp only [Option.some.injEq,Prod.mk.injEq] at h
    obtain ⟨rfl,rfl⟩:=h
    exact ⟨k0,e.val,rfl,h2,Nat.le_refl _,by simp,hs⟩
   | false =>
    refine ⟨r1,fun j x h => ?_⟩
    obtain ⟨k',v,q1,q2,q3,q4,q5⟩:=r2 j x h
    refine ⟨k',v,q1,q2,by omega,?_,q5⟩
    rw [show j - i=(j - (i+1))+1 by omega,List.getElem?_cons_succ]
    exact q4
theorem run_findKey {t:TypeId} {d:TypeDesc} {k:Value} {es:List MapEntry} {r:Option (Nat×Value)} (hu:P.underlying t=some d) (h:Instr.findNow d k es 0=some r) (w:World):(Instr.findKey t k es).run P w = .ok r w:=by
 unfold Instr.findKey
 simp only [Sem.run_bind,qX hu,Result.andThen_ok,h,Sem.run_pure]
theorem qkH {d:TypeDesc} {k k':Value} (h:Instr.sameNow d k k'=some true) (n:Nat):Instr.sameBits n k' k=true:=by
 unfold Instr.sameNow at h
 split at h
 ·split at h
  ·rename_i hk
   subst hk
   simp only [Option.some.injEq,beq_iff_eq] at h
   subst h
   cases n <;> simp [Instr.sameBits]
  ·cases h
 ·rename_i x y
  simp only [Option.some.injEq] at h
  have h2:(y==x)=true:=by
   rw [beq_toListBytes] at h ⊢
   simp at h ⊢
   exact h.symm
  cases n <;> simpa [Instr.sameBits] using h2
 ·simp only [Option.some.injEq,beq_iff_eq] at h
  subst h
  cases n <;> simp [Instr.sameBits]
 ·cases h
def qji (P:Program) (e:TypeId):Bool:=match P.underlying e,yJ P e,sizeT P e with
 | some (.int _),some false,some 1=>true
 | _,_,_=>false
def qct (P:Program):Nat→List Field→Bool
 | _,[]=>true
 | i,f::fs=>f.offset==i&&(!(f.name == "_")&&(qji P f.type&&qct P (i+1) fs))
def qg2 (P:Program) (t:TypeId):Option Nat:=match P.underlying t with
 | some (.array n e)=>bif qji P e then some n else none
 | some (.struct fs)=>bif qct P 0 fs.toList && !(P.stoodInHeld t) then some fs.size else none
 | _=>none
def KY:List Value→List Value→Option Bool
 | [],[]=>some true
 | .int k a::xs,.int k' b::ys=>if k=k' then (match KY xs ys with
  | some r=>some (a==b&&r)
  | none=>none) else none
 | _,_=>none
def wgo (k:List Value):List (Value×V)→Nat→Option (Option (Nat×V))
 | [],_=>some none
 | (.agg cs,x)::es,i=>match KY k cs.toList with
  | some true=>some (some (i,x))
  | some false=>wgo k es (i+1)
  | none=>none
 | _,_=>none
def qjs (P:Program) (t:TypeId) (k:Value) (es:List (Value×V)):Option (Option (Nat×V)):=match qg2 P t,k with
 | some n,.agg cs=>if cs.size=n then wgo cs.toList es 0 else none
 | _,_=>none
def y9 (P:Program) (t:TypeId) (k:Value) (es:List (Value×V)):Option (Option (Nat×V)):=bif Zw P t then (match P.underlying t with
 | some d=>qcp d k es 0
 | none=>none) else qjs P t k es
theorem qcS {e:TypeId} (h:qji P e=true):(∃ k,P.underlying e=some (.int k))∧yJ P e=some false∧sizeT P e=some 1:=by
 unfold qji at h
 split at h
 ·rename_i h1 h2 h3
  exact ⟨⟨_,h1⟩,h2,h3⟩
 ·cases h
theorem qcL {e:TypeId} (h:qji P e=true) {xs:Array Value} {off:Nat} {v:Value} (hx:xs[off]? = some v) (w:World):(part e xs off).run P w = .ok v w:=by
 obtain ⟨_,h2,_⟩:=qcS h
 simp only [part,Sem.run_bind,Vr h2,Result.andThen_ok,Bool.false_eq_true,if_false,hx,Sem.run_pure]
theorem qkm {e:TypeId} (h:qji P e=true) (em:Bool) (n:Nat) (v:Value) (w:World):(Instr.checkKey em (n+1) e v).run P w = .ok () w:=by
 obtain ⟨⟨k,h1⟩,_,_⟩:=qcS h
 exact ql7 (by unfold Zw; rw [h1]) em n v w
theorem qke {e:TypeId} (h:qji P e=true) (d:Nat) (k:IntKind) (a b:Int) (w:World):(Op.equalIn (d+1) e (.int k a) (.int k b)).run P w = .ok (a==b) w:=by
 obtain ⟨⟨q,h1⟩,_,_⟩:=qcS h
 simp only [Op.equalIn,Sem.run_bind,qX h1,Result.andThen_ok,if_true,Sem.run_pure]
theorem qby {xs ys:List Value} {x y:Value} {r:Bool} (h:KY (x::xs) (y::ys)=some r):∃ k a b r',x = .int k a∧y = .int k b∧KY xs ys=some r'∧r=(a==b&&r'):=by
 unfold KY at h
 split at h
 ·rename_i e1 _; cases e1
 ·rename_i k a xs' k' b ys' e1 e2
  obtain ⟨rfl,rfl⟩:=List.cons.inj e1
  obtain ⟨rfl,rfl⟩:=List.cons.inj e2
  split at h
  ·rename_i hk
   subst hk
   split at h
   ·rename_i r' hr
    cases h
    exact ⟨_,_,_,r',rfl,rfl,hr,rfl⟩
   ·cases h
  ·cases h
 ·cases h
theorem qhM:∀ {xs ys:List Value},KY xs ys=some true→xs=ys
 | [],[],_=>rfl
 | x::xs,y::ys,h=>by
  obtain ⟨k,a,b,r',rfl,rfl,h1,h2⟩:=qby h
  have h2:=h2.symm
  simp only [Bool.and_eq_true,beq_iff_eq] at h2
  rw [h2.1,qhM (h1.trans (by rw [h2.2]))]
 | [],_::_,h=>by simp [KY] at h
 | x::xs,[],h=>by cases x <;> simp [KY] at h
theorem qhN:∀ {xs ys:List Value},KY xs ys=some true→∀ n,(xs.zip ys).all (fun (x,y)=>Instr.sameBits n x y)=true
 | [],[],_,_=>rfl
 | x::xs,y::ys,h,n=>by
  obtain ⟨k,a,b,r',rfl,rfl,h1,h2⟩:=qby h
  have h2:=h2.symm
  simp only [Bool.and_eq_true,beq_iff_eq] at h2
  simp only [List.zip_cons_cons,List.all_cons,Bool.and_eq_true]
  refine ⟨?_,qhN (h1.trans (by rw [h2.2])) n⟩
  cases n <;> simp [Instr.sameBits,h2.1]
 | [],_::_,h,_=>by simp [KY] at h
 | x::xs,[],h,_=>by cases x <;> simp [KY] at h
theorem qda {xs:List Value} {i:Nat} (h:i<xs.length):∃ x,xs[i]? = some x∧xs.drop i=x::xs.drop (i+1):=⟨xs[i],List.getElem?_eq_getElem h,List.drop_eq_getElem_cons h⟩
theorem qj0 {e:TypeId} (he:qji P e=true) (d:Nat) {xs ys:Array Value} (w:World):∀ (m i:Nat) (r:Bool),i+m=xs.size→i+m=ys.size→KY (xs.toList.drop i) (ys.toList.drop i)=some r →
  (Op.eqItems (d+1) e 1 xs ys (List.range' i m)).run P w = .ok r w
 | 0,i,r,h1,h2,h=>by
  rw [List.drop_of_length_le (by simp; omega),List.drop_of_length_le (by simp; omega)] at h
  cases h
  simp [Op.eqItems]
 | m+1,i,r,h1,h2,h=>by
  obtain ⟨x,hx,ex⟩:=qda (xs:=xs.toList) (i:=i) (by simp; omega)
  obtain ⟨y,hy,ey⟩:=qda (xs:=ys.toList) (i:=i) (by simp; omega)
  rw [ex,ey] at h
  obtain ⟨k,a,b,r',rfl,rfl,g1,rfl⟩:=qby h
  rw [List.range'_succ]
  simp only [Op.eqItems,Sem.run_bind,Nat.mul_one,qcL he (xs:=xs) (by simpa using hx),qcL he (xs:=ys) (by simpa using hy),Result.andThen_ok,qke he]
  cases hab:a==b with
  | false=>simp
  | true =>
   simp only [Bool.not_true,Bool.false_eq_true,if_false,Bool.true_and]
   exact qj0 he d w m (i+1) r' (by omega) (by omega) g1
theorem qiI (d:Nat) {xs ys:Array Value} (w:World):∀ (fs:List Field) (i:Nat) (r:Bool),qct P i fs=true→i+fs.length=xs.size→i+fs.length=ys.size→KY (xs.toList.drop i) (ys.toList.drop i)=some r →
  (Op.eqFields (d+1) xs ys fs).run P w = .ok r w
 | [],i,r,_,h1,h2,h=>by
  rw [List.drop_of_length_le (by simpa using Nat.le_of_eq h1.symm),List.drop_of_length_le (by simpa using Nat.le_of_eq h2.symm)] at h
  cases h
  simp [Op.eqFields]
 | f::fs,i,r,hf,h1,h2,h=>by
  simp only [qct,Bool.and_eq_true,beq_iff_eq,Bool.not_eq_true'] at hf
  obtain ⟨f1,f2,f3,f4⟩:=hf
  simp only [List.length_cons] at h1 h2
  obtain ⟨x,hx,ex⟩:=qda (xs:=xs.toList) (i:=i) (by simp; omega)
  obtain ⟨y,hy,ey⟩:=qda (xs:=ys.toList) (i:=i) (by simp; omega)
  rw [ex,ey] at h
  obtain ⟨k,a,b,r',rfl,rfl,g1,rfl⟩:=qby h
  have hn:f.name ≠ "_" := by simpa using f2
  unfold Op.eqFields
  rw [if_pos hn,f1]
  simp only [Sem.run_bind,qcL f3 (xs:=xs) (by simpa using hx),qcL f3 (xs:=ys) (by simpa using hy),Result.andThen_ok,qke f3]
  cases hab:a==b with
  | false=>simp
  | true =>
   simp only [Bool.not_true,Bool.false_eq_true,if_false,Bool.true_and]
   exact qiI d w fs (i+1) r' f4 (by omega) (by omega) g1
theorem qmW {t:TypeId} {n:Nat} (h:qg2 P t=some n) {xs ys:Array Value} {r:Bool} (hx:xs.size=n) (hy:ys.size=n) (hr:KY xs.toList ys.toList=some r) (w:World):(Op.equal t (.agg xs) (.agg ys)).run P w = .ok r w:=by
 unfold qg2 at h
 unfold Op.equal
 have e9:Op.maxDepth=(Op.maxDepth - 2+1)+1:=rfl
 rw [e9]
 split at h
 ·rename_i m e hu
  cases he:qji P e with
  | false=>rw [he] at h; cases h
  | true =>
   rw [he] at h
   cases h
   obtain ⟨_,_,hs⟩:=qcS he
   unfold sizeT at hs
   cases hi:P.info? e with
   | none=>rw [hi] at hs; cases hs
   | some inf =>
    have hc:P.cellsOf e=1:=by
     rw [hi] at hs
     simpa [Program.cellsOf,hi] using hs
    rw [run_equalIn_array w (Op.maxDepth - 2+1) xs ys hu hi,hc,List.range_eq_range']
    exact qj0 he _ w n 0 r (by omega) (by omega) (by simpa using hr)
 ·rename_i fs hu
  cases hf:(qct P 0 fs.toList && !(P.stoodInHeld t)) with
  | false=>rw [hf] at h; cases h
  | true =>
   rw [hf] at h
   cases h
   simp only [Bool.and_eq_true,Bool.not_eq_true'] at hf
   have hfs:P.fieldsOf t=fs:=by simp [Program.fieldsOf,hu]
   rw [run_equalIn_agg w (Op.maxDepth - 2+1) t xs ys (by rw [hfs]; exact hu) hf.2,hfs]
   exact qiI _ w fs.toList 0 r hf.1 (by simp; omega) (by simp; omega) (by simpa using hr)
 ·cases h
theorem qmX {t:TypeId} {n:Nat} (h:qg2 P t=some n) {xs:Array Value} (hx:xs.size=n) (em:Bool) (q:Nat) (w:World):(Instr.checkKey em (q+2) t (.agg xs)).run P w = .ok () w:=by
 unfold qg2 at h
 split at h
 ·rename_i m e hu
  cases he:qji P e with
  | false=>rw [he] at h; cases h
  | true =>
   rw [he] at h
   cases h
   obtain ⟨_,_,hs⟩:=qcS he
   rw [show q+2=(q+1)+1 from rfl]
   unfold Instr.checkKey
   simp only [Sem.run_bind,qX hu,Result.andThen_ok]
   simp only [Std.Legacy.Range.forIn_eq_forIn_range',Std.Legacy.Range.size,Nat.sub_zero,Nat.add_one_sub_one,Nat.div_one]
   have go:∀ (k i:Nat),i+k=xs.size→(forIn (List.range' i k) PUnit.unit (fun i r=>do
     let a ← sizeOf e
     let b ← part e xs (i*a)
     Instr.checkKey em (q+1) e b
     pure (ForInStep.yield PUnit.unit)):Sem PUnit).run P w = .ok () w:=by
    intro k
    induction k with
    | zero=>intro i _; simp
    | succ k ih =>
     intro i hi
     obtain ⟨x,hxx,_⟩:=qda (xs:=xs.toList) (i:=i) (by simp; omega)
     rw [List.range'_succ]
     simp only [List.forIn_cons,Sem.run_bind,run_sizeOf hs,Result.andThen_ok,Nat.mul_one,qcL he (xs:=xs) (off:=i) (by simpa using hxx),qkm he,Sem.run_pure]
     exact ih (i+1) (by omega)
   have:=go n 0 (by omega)
   simp at this ⊢
   rw [this]
   rfl
 ·rename_i fs hu
  cases hf:(qct P 0 fs.toList && !(P.stoodInHeld t)) with
  | false=>rw [hf] at h; cases h
  | true =>
   rw [hf] at h
   cases h
   simp only [Bool.and_eq_true,Bool.not_eq_true'] at hf
   rw [show q+2=(q+1)+1 from rfl]
   unfold Instr.checkKey
   simp only [Sem.run_bind,qX hu,Result.andThen_ok]
   have go:∀ (gs:List Field) (i:Nat),qct P i gs=true→i+gs.length=xs.size→(forIn gs PUnit.unit (fun (f:Field) r=>do
     if f.name ≠ "_" then
      let b ← part f.type xs f.offset
      Instr.checkKey em (q+1) f.type b
      pure (ForInStep.yield PUnit.unit)
     else pure (ForInStep.yield PUnit.unit)):Sem PUnit).run P w = .ok () w:=by
    intro gs
    induction gs with
    | nil=>intro i _ _; simp
    | cons g gs ih =>
     intro i hg hi
     simp only [qct,Bool.and_eq_true,beq_iff_eq,Bool.not_eq_true'] at hg
     obtain ⟨f1,f2,f3,f4⟩:=hg
     simp only [List.length_cons] at hi
     obtain ⟨x,hxx,_⟩:=qda (xs:=xs.toList) (i:=i) (by simp; omega)
     have hn:g.name ≠ "_" := by simpa using f2
     simp only [List.forIn_cons,Sem.run_bind,if_pos hn,f1,qcL f3 (xs:=xs) (off:=i) (by simpa using hxx),Result.andThen_ok,qkm f3,Sem.run_pure]
     exact ih (i+1) f4 (by omega)
   have:=go fs.toList 0 hf.1 (by simp; omega)
   rw [← Array.forIn_toList]
   simp at this ⊢
   rw [this]
   rfl
 ·cases h
structure Seeks (P:Program) (I:Nat→Nat→Option Value) (φ:List Nat) (t:TypeId) (k:Value) (es:List (Value×V)) (l:List MapEntry) (r:Option (Nat×V)):Prop where
 chk:∀ (em:Bool) (w:World),(Instr.checkKey em 10000 t k).run P w = .ok () w
 no:r=none→∀ w,(Instr.findKey t k l).run P w = .ok none w
 yes:∀ j x,r=some (j,x)→∃ k' v,(∀ w,(Instr.findKey t k l).run P w = .ok (some (j,v)) w)∧Rel I φ x v∧es[j]? = some (k',x)∧Instr.sameBits 10000 k' k=true
theorem qn0 {I:Nat→Nat→Option Value} {φ:List Nat} {t:TypeId} {n:Nat} (hw:qg2 P t=some n) {cs:Array Value} (hc:cs.size=n):∀ {es:List (Value×V)} {l:List MapEntry} {i:Nat},qbn I φ es l →
  (wgo cs.toList es i=some none→∀ w,(Instr.findAsking t (.agg cs) l i).run P w = .ok none w) ∧
  ∀ j x,wgo cs.toList es i=some (some (j,x))→∃ k' v,(∀ w,(Instr.findAsking t (.agg cs) l i).run P w = .ok (some (j,v)) w)∧Rel I φ x v∧i≤j∧es[j - i]? = some (k',x)∧Instr.sameBits 10000 k' (.agg cs)=true
 | _,_,i,.nil=>⟨fun _ w=>by simp [Instr.findAsking],fun j x h=>by cases h⟩
 | _,_,i,.cons (k:=k0) (x:=x0) (e:=e) (es:=es) (l:=l) h1 h2 h3=>by
  obtain ⟨r1,r2⟩:=qn0 hw hc (i:=i+1) h3
  cases k0 with
  | agg ds =>
   unfold wgo
   cases hs:KY cs.toList ds.toList with
   | none=>exact ⟨fun h=>(by cases h),fun j x h=>(by cases h)⟩
   | some b =>
    have hd:ds.size=n:=by
     have:∀ {xs ys:List Value} {r:Bool},KY xs ys=some r→xs.length=ys.length:=by
      intro xs
      induction xs with
      | nil=>intro ys r h; cases ys with
       | nil=>rfl
       | cons=>simp [KY] at h
      | cons x xs ih=>intro ys r h; cases ys with
       | nil=>cases x <;> simp [KY] at h
       | cons y ys =>
        obtain ⟨_,_,_,r',_,_,g,_⟩:=qby h
        simp [ih g]
     have:=this hs
     simp at this
     omega
    have heq:∀ w,(Op.equal t (.agg cs) e.key).run P w = .ok b w:=fun w=>by rw [h1]; exact qmW hw hc hd hs w
    cases b with
    | true =>
     refine ⟨fun h=>(by cases h),fun j x h => ?_⟩
     simp only [Option.some.injEq,Prod.mk.injEq] at h
     obtain ⟨rfl,rfl⟩:=h
     refine ⟨.agg ds,e.val,fun w => ?_,h2,Nat.le_refl _,by simp,?_⟩
     ·simp only [Instr.findAsking,Sem.run_bind,heq,Result.andThen_ok,if_true,Sem.run_pure]
     ·have he:cs=ds:=Array.toList_inj.1 (qhM hs)
      subst he
      have:=qhN hs 9999
      rw [show (10000:Nat)=9999+1 from rfl]
      unfold Instr.sameBits
      simp only [beq_self_eq_true,Bool.true_and]
      exact this
    | false =>
     refine ⟨fun h w => ?_,fun j x h => ?_⟩
     ·simp only [Instr.findAsking,Sem.run_bind,heq,Result.andThen_ok,Bool.false_eq_true,if_false]
      exact r1 h w
     ·obtain ⟨k',v,q1,q2,q3,q4,q5⟩:=r2 j x h
      refine ⟨k',v,fun w => ?_,q2,by omega,?_,q5⟩
      ·simp only [Instr.findAsking,Sem.run_bind,heq,Result.andThen_ok,Bool.false_eq_true,if_false]
       exact q1 w
      ·rw [show j - i=(j - (i+1))+1 by omega,List.getElem?_cons_succ]
       exact q4
  | _=>exact ⟨fun h=>(by cases h),fun j x h=>(by cases h)⟩
theorem qfL {I:Nat→Nat→Option Value} {φ:List Nat} {t:TypeId} {k:Value} {es:List (Value×V)} {l:List MapEntry} {r:Option (Nat×V)} (hs:y9 P t k es=some r) (hl:qbn I φ es l):Seeks P I φ t k es l r:=by
 have e9:(10000:Nat)=9999+1:=rfl
 unfold y9 at hs
 cases hk:Zw P t with
 | true =>
  rw [hk] at hs
  simp only [cond_true] at hs
  cases hd:P.underlying t with
  | none=>rw [hd] at hs; cases hs
  | some d =>
   rw [hd] at hs
   simp only at hs
   obtain ⟨m1,m2⟩:=qjS (d:=d) (k:=k) (i:=0) hl
   refine ⟨fun em w=>by rw [e9]; exact ql7 hk em _ _ w,fun e w => ?_,fun j x e => ?_⟩
   ·subst e
    exact run_findKey hd (m1 hs) w
   ·subst e
    obtain ⟨k',u,q1,q2,_,q4,q5⟩:=m2 j x hs
    exact ⟨k',u,fun w=>run_findKey hd q1 w,q2,by simpa using q4,qkH q5 10000⟩
 | false =>
  rw [hk] at hs
  simp only [cond_false] at hs
  unfold qjs at hs
  split at hs
  ·rename_i n cs hw
   split at hs
   ·rename_i hc
    obtain ⟨m1,m2⟩:=qn0 hw hc (i:=0) hl
    have hwd:(match P.underlying t with | some (.array _ _) | some (.struct _)=>true | _=>false)=true:=by
     unfold qg2 at hw
     split at hw
     ·rfl
     ·rfl
     ·cases hw
    refine ⟨fun em w=>qmX hw hc em 9998 w,fun e w => ?_,fun j x e => ?_⟩
    ·subst e
     rw [run_findKey_eq w hwd]
     exact m1 hs w
    ·subst e
     obtain ⟨k',u,q1,q2,_,q4,q5⟩:=m2 j x hs
     exact ⟨k',u,fun w=>by rw [run_findKey_eq w hwd]; exact q1 w,q2,by simpa using q4,q5⟩
   ·cases hs
  ·cases hs
theorem qbn.get {I:Nat→Nat→Option Value} {φ:List Nat} {es:List (Value×V)} {l:List MapEntry} (h:qbn I φ es l):es.length=l.length∧∀ (i:Nat) (k:Value) (x:V),es[i]? = some (k,x)→∃ e:MapEntry,l[i]? = some e∧e.key=k∧Rel I φ x e.val:=by
 induction h with
 | nil=>exact ⟨rfl,fun i k x h=>by simp at h⟩
 | cons h1 h2 _ ih =>
  refine ⟨by simp [ih.1],fun i k x h => ?_⟩
  cases i with
  | zero=>simp only [List.getElem?_cons_zero,Option.some.injEq,Prod.mk.injEq] at h; obtain ⟨rfl,rfl⟩:=h; exact ⟨_,rfl,h1,h2⟩
  | succ i=>simpa using ih.2 i k x (by simpa using h)
theorem qbn.qdo {I:Nat→Nat→Option Value} {φ:List Nat}:∀ {es:List (Value×V)} {l:List MapEntry},es.length=l.length→(∀ (i:Nat) (k:Value) (x:V) (e:MapEntry),es[i]? = some (k,x)→l[i]? = some e→e.key=k∧Rel I φ x e.val)→qbn I φ es l
 | [],[],_,_ => .nil
 | [],_::_,h,_=>by simp at h
 | _::_,[],h,_=>by simp at h
 | (k,x)::es,e::l,h,hh => .cons (hh 0 k x e rfl rfl).1 (hh 0 k x e rfl rfl).2 (qbn.qdo (by simpa using h) fun i k x e h1 h2=>hh (i+1) k x e (by simpa using h1) (by simpa using h2))
theorem qbn.append {I:Nat→Nat→Option Value} {φ:List Nat} {es:List (Value×V)} {l:List MapEntry} (h:qbn I φ es l) {k:Value} {x:V} {e:MapEntry} (h1:e.key=k) (h2:Rel I φ x e.val):qbn I φ (es ++ [(k,x)]) (l ++ [e]):=by
 induction h with
 | nil=>exact .cons h1 h2 .nil
 | cons q1 q2 _ ih=>exact .cons q1 q2 ih
theorem qbn.eraseIdx {I:Nat→Nat→Option Value} {φ:List Nat} {es:List (Value×V)} {l:List MapEntry} (h:qbn I φ es l):∀ i,qbn I φ (es.eraseIdx i) (l.eraseIdx i):=by
 induction h with
 | nil=>intro i; exact .nil
 | cons q1 q2 q3 ih =>
  intro i
  cases i with
  | zero=>exact q3
  | succ i=>exact .cons q1 q2 (ih i)
def zC (N:Nat) (dst:Option Tmp) (r:Option Operand) (s:St) (K:St→Prop):Prop:=match r,dst with
 | none,some d=>d<N∧K ⟨vO d (.v (.map s.H.length)) s.F,s.H ++ [.map []]⟩
 | _,_=>False
theorem Sim.layObj {o:Obj} {k:Bk} (h:Sim c N ⟨F,H⟩ a w) (hn:∀ cs,k ≠ .cells cs) (hk:qac (c.lay w.heap.size) (w.alloc o) H.length w.heap.size k):Sim (c.lay w.heap.size) N ⟨F,H ++ [k]⟩ a (w.alloc o):=by
 refine ⟨⟨fun b j v hv=>qcv (h.inv.imm b j v hv),by simp [Cx.lay,h.inv.len],fun b hb => ?_,fun b b' r hb hb' => ?_,fun id b kk hb hk' => ?_⟩,h.size,h.defers,fun t x hx => ?_⟩
 ·unfold Cx.lay at hb
  by_cases hbs:b=w.heap.size
  ·subst hbs; simp
  ·simp only [hbs,if_false] at hb
   have:=h.inv.lt b hb
   simp; omega
 ·unfold Cx.lay at hb hb'
  by_cases h1:b=w.heap.size
  ·simp [h1] at hb
  ·by_cases h2:b'=w.heap.size
   ·simp [h2] at hb'
   ·simp only [h1,h2,if_false] at hb hb'
    exact h.inv.uniq b b' r hb hb'
 ·rcases qoj hb with hb | ⟨rfl,rfl⟩
  ·have hlt:id<H.length:=by have:=h.inv.len; rw [← this]; exact (List.getElem?_eq_some_iff.1 hb).1
   have hk2:(H ++ [k])[id]? = some kk:=hk'
   rw [List.getElem?_append_left hlt] at hk2
   obtain ⟨h4,h2,h3⟩:=h.inv.blk id b kk hb hk2
   have hbl:=h.inv.lt b (by rw [h4]; simp)
   refine ⟨by simp [Cx.lay,Nat.ne_of_lt hbl,h4],h2,?_⟩
   by_cases hck:∃ cs,kk = .cells cs
   ·obtain ⟨cs,rfl⟩:=hck
    obtain ⟨arr',e',g1,g2,g6,g3⟩:=h3
    exact ⟨arr',e',(Z5 hbl).trans g1,g2,g6,fun j x v hx hv=>⟨(g3 j x v hx hv).1,(g3 j x v hx hv).2.lay h.inv _⟩⟩
   ·exact qac.stay (fun cs e=>hck ⟨cs,e⟩) h3 (fun _ _ _ h=>h) (fun _ _ h=>qds _ h) (fun _ _ h _=>qeZ h)
  ·have hk2:(H ++ [k])[c.φ.length]? = some kk:=hk'
   have hl:=h.inv.len
   simp only at hl
   rw [hl,List.getElem?_append_right (Nat.le_refl _)] at hk2
   simp at hk2
   subst hk2
   refine ⟨by simp [Cx.lay],fun o=>qbr h.inv _ o (Nat.le_refl _),?_⟩
   rw [hl]
   exact hk
 ·obtain ⟨v,hv,h1⟩:=h.fr t x hx
  exact ⟨v,hv,h1.lay h.inv _⟩
theorem qor (h:Inv c H w) (b:Nat):(c.lay b).φ[H.length]? = some b:=by rw [← h.len]; simp [Cx.lay]
theorem qjl {o:Oper} {t:TypeId} {r:Option Operand} (ho:o.op = .makeMap t r) (h:Sim c N s a w) (hk:zC N o.dst r s K):Yl P o a w (Post c w N K):=by
 unfold zC at hk
 split at hk
 ·rename_i d hd
  obtain ⟨h1,hk⟩:=hk
  have hs:Sim (c.lay w.heap.size) N ⟨s.F,s.H ++ [.map []]⟩ a (w.alloc (.map #[] 0)):=Sim.layObj (F:=s.F) (H:=s.H) h (fun _ e=>by cases e) ⟨#[],0,heap_alloc_new w _,.nil,fun e he=>by simp at he,by simp⟩
  refine Zg (v := .map (some w.heap.size)) (w':=w.alloc (.map #[] 0)) ?_ ?_
  ·unfold execOp
   simp only [ho,Instr.makeMap,Option.map_none,Sem.run_bind,newObj,Sem.run,Result.andThen_ok,Sem.run_pure]
   rfl
  ·rw [hd]
   exact ⟨_,_,hs.put h1 (x := .v (.map s.H.length)) trivial (Rel.map (qor h.inv _)),(Ext.lay c w _).trans (Ext.free _ _ _),hk⟩
 ·exact hk.elim
def zeroV (P:Program) (t:TypeId):Option V:=match qdN P t with
 | some z=>some (V.vP z)
 | none=>none
def vS (s:St) (x:Operand):Option (List (Value×V)):=match zZ s x with
 | some (.map id)=>match s.H[id]? with
  | some (.map es)=>some es
  | _=>none
 | some (.sc (.map none))=>some []
 | _=>none
def Qs (ok:Bool) (y:V) (b:Bool):V:=bif ok then .tup [y,.sc (.bool b)] else y
def jA (P:Program) (N:Nat) (dst:Option Tmp) (t:TypeId) (x y:Operand) (ok:Bool) (s:St) (K:St→Prop):Prop:=match P.underlying t,vS s x,valOf s y with
 | some (.map kt et),some es,some k=>(match zeroV P et with
  | some z=>match y9 P kt k es with
   | some (some (_,v))=>jR N dst (.v (Qs ok v true)) s K
   | some none=>jR N dst (.v (Qs ok z false)) s K
   | none=>False
  | _=>False)
 | _,_,_=>False
theorem qiN {x:Operand} {es:List (Value×V)} (h:Sim c N s a w) (hx:vS s x=some es) :
  (a.eval x = .map none∧es = [])∨∃ id b ents clock,zZ s x=some (.map id)∧c.φ[id]? = some b∧s.H[id]? = some (.map es)∧a.eval x = .map (some b)∧w.heap[b]? = some (.map ents clock)∧qbn c.I c.φ es ents.toList∧(∀ e∈ents.toList,e.born<clock)∧(ents.toList.map (·.born)).Nodup:=by
 unfold vS at hx
 split at hx
 ·rename_i id hv
  cases hk:s.H[id]? with
  | none=>rw [hk] at hx; cases hx
  | some k =>
   rw [hk] at hx
   cases k with
   | map es' =>
    cases hx
    have hr:=vD h hv
    generalize hxv:a.eval x=xv at hr
    cases hr with
    | map hb =>
     obtain ⟨_,_,ents,clock,h1,h2,h3,h4⟩:=h.inv.blk id _ _ hb hk
     exact .inr ⟨id,_,ents,clock,hv,hb,hk,rfl,h1,h2,h3,h4⟩
   | _=>cases hx
 ·rename_i hv
  cases hx
  exact .inl ⟨Rel.exact (vD h hv) rfl,rfl⟩
 ·cases hx
theorem Xb {b:Nat} {o:Obj} (h:w.heap[b]? = some o) (ho:∀ arr e f,o≠Obj.cells arr e f):(getObj b).run P w = .ok o w:=by
 unfold getObj
 simp only [Sem.run,h]
theorem qjm {o:Oper} {t:TypeId} {x y:Operand} {ok:Bool} (ho:o.op = .lookup t x y ok) (h:Sim c N s a w) (hk:jA P N o.dst t x y ok s K):Reads P o a w (Post c w N K):=by
 unfold jA at hk
 split at hk
 ·rename_i kt et es k hu hx hy
  unfold zeroV at hk
  cases hz:qdN P et with
  | none=>rw [hz] at hk; exact hk.elim
  | some z =>
   rw [hz] at hk
   simp only at hk
   have hyv:=Xd h hy
   have fin:∀ v (b:Bool) (y:V),Rel c.I c.φ y v→jR N o.dst (.v (Qs ok y b)) s K→(∀ w',Agree w w'→(Instr.lookup t (a.eval x) k ok).run P w' = .ok (if ok then .tuple #[v,.bool b] else v) w')→Reads P o a w (Post c w N K):=fun v b y hr hp hrun=>by
    refine ⟨_,fun w' hw => ?_,vg h hp (v:=if ok then .tuple #[v,.bool b] else v) fun _ _ => ?_⟩
    ·have hw:=hw (by rw [ho]; rfl)
     unfold execOp
     simp only [ho,hyv,Sem.run_bind,hrun w' hw,Result.andThen_ok,Sem.run_pure]
    ·cases ok
     ·exact hr
     ·exact Rel.tup (vs := #[v,.bool b]) (.cons hr (.cons (.sc _) .nil))
   cases hm:y9 P kt k es with
   | none=>rw [hm] at hk; exact hk.elim
   | some r =>
    rw [hm] at hk
    rcases qiN h hx with ⟨hxv,rfl⟩ | ⟨id,b,ents,clock,_,hb,hH,hxv,h1,h2,h3,h4⟩
    ·have sk:=qfL (I:=c.I) (φ:=c.φ) hm (.nil)
     cases r with
     | some q =>
      obtain ⟨j,v⟩:=q
      obtain ⟨k',_,_,_,q4,_⟩:=sk.yes j v rfl
      simp at q4
     | none =>
     refine fin z false _ (qdp z) hk fun w' _ => ?_
     rw [hxv]
     simp only [Instr.lookup,Sem.run_bind,qX hu,Result.andThen_ok,Sem.run_pure]
     rw [sk.chk]
     simp only [Result.andThen_ok,sk.no rfl w',Sem.run_bind,Xk hz,Sem.run_pure]
    ·have sk:=qfL (I:=c.I) (φ:=c.φ) hm h2
     have body:∀ r w',Agree w w'→(Instr.findKey kt k ents.toList).run P w' = .ok r w'→∀ u bb,(match r with | some (_,v)=>(v,true) | none=>(z,false))=(u,bb)→(Instr.lookup t (a.eval x) k ok).run P w' = .ok (if ok then .tuple #[u,.bool bb] else u) w':=by
      intro r w' hw hfk u bb hub
      rw [hxv]
      have hg:w'.heap[b]? = some (.map ents clock):=(hw b (XI h1)).trans h1
      have hgo:=Xb (P:=P) (w:=w') hg (fun _ _ _ e=>by cases e)
      simp only [Instr.lookup,Sem.run_bind,qX hu,Result.andThen_ok,hgo,Sem.run_pure]
      rw [sk.chk]
      simp only [Result.andThen_ok,hfk]
      cases r with
      | none =>
       simp only [Prod.mk.injEq] at hub
       obtain ⟨rfl,rfl⟩:=hub
       simp only [Sem.run_bind,Xk hz,Result.andThen_ok,Sem.run_pure]
      | some q =>
       obtain ⟨j,v⟩:=q
       simp only [Prod.mk.injEq] at hub
       obtain ⟨rfl,rfl⟩:=hub
       simp only [Sem.run_bind,Sem.run_pure,Result.andThen_ok]
     cases r with
     | none=>exact fin z false _ (qdp z) hk fun w' hw=>body none w' hw (sk.no rfl w') _ _ rfl
     | some q =>
      obtain ⟨j,v⟩:=q
      obtain ⟨k',u,q1,q2,_,_⟩:=sk.yes j v rfl
      exact fin u true _ q2 hk fun w' hw=>body (some (j,u)) w' hw (q1 w') _ _ rfl
 ·exact hk.elim
def qJ (P:Program) (dst:Option Tmp) (t:TypeId) (x y z:Operand) (s:St) (K:St→Prop):Prop:=dst=none∧match P.underlying t,zZ s x,valOf s y,zZ s z with
 | some (.map kt _),some (.map id),some k,some v=>(match s.H[id]? with
  | some (.map es)=>match y9 P kt k es with
   | some (some (i,_))=>K ⟨s.F,(Zk id s.H).set id (.map (es.set i (k,v)))⟩
   | some none=>K ⟨s.F,(Zk id s.H).set id (.map (es ++ [(k,v)]))⟩
   | none=>False
  | _=>False)
 | _,_,_,_=>False
theorem qbF {b:Nat} {o o':Obj} (h:w.heap[b]? = some o) (ho:∀ arr e f,o≠Obj.cells arr e f):(setObj b o').run P w = .ok () (AM.turn w b o'):=by
 unfold setObj
 simp only [Sem.run,h]
 cases o <;> first | rfl | exact absurd rfl (ho _ _ _)
theorem qdJ {o:Oper} {t:TypeId} {x y z:Operand} (ho:o.op = .mapUpdate t x y z∨o.op = .insert t x y z) (h:Sim c N s a w) (hk:qJ P o.dst t x y z s K):Yl P o a w (Post c w N K):=by
 obtain ⟨hdst,hk⟩:=hk
 split at hk
 ·rename_i kt et id k v hu hx hy hz
  ·cases hH:s.H[id]? with
   | none=>rw [hH] at hk; exact hk.elim
   | some blk =>
    rw [hH] at hk
    cases blk with
    | map es =>
     simp only at hk
     have hr:=vD h hx
     generalize hxv:a.eval x=xv at hr
     cases hr with
     | map hb =>
      rename_i b
      obtain ⟨hR,_,ents,clock,h1,h2,h3,h4⟩:=h.inv.blk id b _ hb hH
      have hyv:=Xd h hy
      have hzv:=vD h hz
      have hgo:=Xb (P:=P) (w:=w) h1 (fun _ _ _ e=>by cases e)
      have hlt:=XI h1
      have kill:=Sim.Zk (F:=s.F) (H:=s.H) h id
      have hkid:(Zk id s.H)[id]? = some (.map es):=qiz hH
      have run:∀ w',(Instr.mapUpdate t (.map (some b)) k (a.eval z)).run P w = .ok () w'→(execOp a.eval o).run P w = .ok .skip w':=fun w' hw=>by
       unfold execOp
       rcases ho with ho | ho <;> simp only [ho,hxv,hyv,Sem.run_bind,hw,Result.andThen_ok,Sem.run_pure]
      cases hm:y9 P kt k es with
      | none=>rw [hm] at hk; exact hk.elim
      | some r =>
       rw [hm] at hk
       have sk:=qfL (I:=c.I) (φ:=c.φ) hm h2
       cases r with
       | none =>
        have hfk:=sk.no rfl w
        refine qbt (run _ ?_) ⟨c,⟨s.F,(Zk id s.H).set id (.map (es ++ [(k,v)]))⟩,?_,Ext.turn (o := .map (ents.push { key:=k,val:=a.eval z,born:=clock }) (clock+1)) c w (by rw [hR]; simp),hk⟩
        ·simp only [Instr.mapUpdate,Sem.run_bind,qX hu,Result.andThen_ok,hgo]
         rw [sk.chk]
         simp only [Result.andThen_ok,hfk]
         exact qbF h1 (fun _ _ _ e=>by cases e)
        ·rw [hdst]
         refine Sim.turn kill hb hkid ⟨_,_,qcE hlt,?_,?_,?_⟩ fun i m l cu bm hi _ hm' _ => ?_
         ·rw [Array.toList_push]
          exact h2.append rfl hzv
         ·intro e he
          rw [Array.toList_push] at he
          rcases List.mem_append.1 he with he | he
          ·exact Nat.lt_succ_of_lt (h3 e he)
          ·simp at he; subst he; exact Nat.lt_succ_self _
         ·rw [Array.toList_push,List.map_append]
          refine List.nodup_append.2 ⟨h4,by simp,fun p hp q hq => ?_⟩
          simp at hq
          subst hq
          obtain ⟨e,he,rfl⟩:=List.mem_map.1 hp
          exact Nat.ne_of_lt (h3 e he)
         ·rintro rfl
          have hne:=qeq hi
          have hq1:=h.inv.blk m bm
          cases hHm:s.H[m]? with
          | none =>
           have:=(List.getElem?_eq_some_iff.1 hm').1
           rw [h.inv.len] at this
           rw [List.getElem?_eq_getElem this] at hHm
           cases hHm
          | some kk =>
           have:=(hq1 kk hm' hHm).1
           rw [hR] at this
           cases this
           exact hne rfl
       | some q =>
        obtain ⟨j,v0⟩:=q
        obtain ⟨k',u,q1,q2,q4,q5⟩:=sk.yes j v0 rfl
        obtain ⟨e0,g1,g2,g3⟩:=h2.get.2 j k' v0 q4
        have g1':ents[j]? = some e0:=by simpa using g1
        have hfk:=q1 w
        have hstay:(Instr.keyThatStays (((ents[j]?).map (·.key)).getD k) k).run P w = .ok k w:=by
         rw [g1']
         simp only [Option.map_some,Option.getD_some,g2]
         unfold Instr.keyThatStays
         rw [if_pos q5]
         rfl
        refine qbt (run _ ?_) ⟨c,⟨s.F,(Zk id s.H).set id (.map (es.set j (k,v)))⟩,?_,Ext.turn (o := .map (ents.modify j fun e => { e with key:=k,val:=a.eval z }) clock) c w (by rw [hR]; simp),hk⟩
        ·simp only [Instr.mapUpdate,Sem.run_bind,qX hu,Result.andThen_ok,hgo]
         rw [sk.chk]
         simp only [Result.andThen_ok,hfk,Sem.run_bind,hstay]
         exact qbF h1 (fun _ _ _ e=>by cases e)
        ·rw [hdst]
         have hborn:(ents.modify j fun e => { e with key:=k,val:=a.eval z }).toList.map (·.born)=ents.toList.map (·.born):=by
          apply List.ext_getElem?
          intro i
          simp only [List.getElem?_map,Array.getElem?_toList,Array.getElem?_modify]
          by_cases hji:j=i
          ·rw [if_pos hji]; cases ents[i]? <;> rfl
          ·rw [if_neg hji]
         refine Sim.turn kill hb hkid ⟨_,_,qcE hlt,?_,?_,?_⟩ fun i m l cu bm hi _ hm' _ => ?_
         ·refine qbn.qdo (by simp [h2.get.1]) fun i k2 x2 e2 hx2 he2 => ?_
          rw [List.getElem?_set] at hx2
          simp only [Array.getElem?_toList,Array.getElem?_modify] at he2
          by_cases hji:j=i
          ·rw [if_pos hji] at hx2 he2
           subst hji
           rw [g1'] at he2
           simp only [Option.map_some,Option.some.injEq] at he2
           split at hx2
           ·cases hx2
            subst he2
            exact ⟨rfl,hzv⟩
           ·cases hx2
          ·rw [if_neg hji] at hx2 he2
           obtain ⟨e3,r1,r2,r3⟩:=h2.get.2 i k2 x2 hx2
           rw [Array.getElem?_toList,he2] at r1
           cases r1
           exact ⟨r2,r3⟩
         ·intro e he
          have hb2:e.born∈(ents.modify j fun e => { e with key:=k,val:=a.eval z }).toList.map (·.born):=List.mem_map.2 ⟨e,he,rfl⟩
          rw [hborn] at hb2
          obtain ⟨e',he',hbe⟩:=List.mem_map.1 hb2
          rw [← hbe]
          exact h3 e' he'
         ·rw [hborn]; exact h4
         ·rintro rfl
          have hne:=qeq hi
          have hq1:=h.inv.blk m bm
          cases hHm:s.H[m]? with
          | none =>
           have:=(List.getElem?_eq_some_iff.1 hm').1
           rw [h.inv.len] at this
           rw [List.getElem?_eq_getElem this] at hHm
           cases hHm
          | some kk =>
           have:=(hq1 kk hm' hHm).1
           rw [hR] at this
           cases this
           exact hne rfl
    | _=>exact hk.elim
 ·exact hk.elim
theorem qpf {id b:Nat} {k:Bk} (h:Sim c N ⟨F,H⟩ a w) (hb:c.φ[id]? = some b) (hk:H[id]? = some k):∀ i m l cu bm,(Zk id H)[i]? = some (.iter m l cu)→i≠id→c.φ[m]? = some bm→(∃ ents cl,w.heap[bm]? = some (.map ents cl))→bm≠b:=by
 intro i m l cu bm hi _ hm _ e
 subst e
 have hne:=qeq hi
 have hlt:=(List.getElem?_eq_some_iff.1 hm).1
 have hl:c.φ.length=H.length:=h.inv.len
 rw [hl] at hlt
 have h1:=(h.inv.blk m bm _ hm (List.getElem?_eq_getElem hlt)).1
 have h2:=(h.inv.blk id bm _ hb hk).1
 rw [h1] at h2
 cases h2
 exact hne rfl
def jF (P:Program) (N:Nat) (dst:Option Tmp) (t:TypeId) (x y:Operand) (s:St) (K:St→Prop):Prop:=match P.underlying t,zZ s x,valOf s y with
 | some (.map kt _),some (.map id),some k=>(match s.H[id]? with
  | some (.map es)=>match y9 P kt k es with
   | some (some (i,_))=>jR N dst (.v (.tup [])) ⟨s.F,(Zk id s.H).set id (.map (es.eraseIdx i))⟩ K
   | some none=>jR N dst (.v (.tup [])) ⟨s.F,(Zk id s.H).set id (.map es)⟩ K
   | none=>False
  | _=>False)
 | _,_,_=>False
theorem qll {o:Oper} {t:TypeId} {ts:Array TypeId} {x y:Operand} (ho:o.op = .call { callee := .builtin .delete,args := #[x,y],argTypes:=ts }) (ht:ts[0]? = some t) (h:Sim c N s a w) (hk:jF P N o.dst t x y s K):Yl P o a w (Post c w N K):=by
 unfold jF at hk
 split at hk
 ·rename_i kt et id k hu hx hy
  ·cases hH:s.H[id]? with
   | none=>rw [hH] at hk; exact hk.elim
   | some blk =>
    rw [hH] at hk
    cases blk with
    | map es =>
     simp only at hk
     have hr:=vD h hx
     generalize hxv:a.eval x=xv at hr
     cases hr with
     | map hb =>
      rename_i b
      obtain ⟨hR,_,ents,clock,h1,h2,h3,h4⟩:=h.inv.blk id b _ hb hH
      have hyv:=Xd h hy
      have hgo:=Xb (P:=P) (w:=w) h1 (fun _ _ _ e=>by cases e)
      have hlt:=XI h1
      have kill:=Sim.Zk (F:=s.F) (H:=s.H) h id
      have hkid:(Zk id s.H)[id]? = some (.map es):=qiz hH
      have run:∀ w',(Builtin.delete_ ts o.type #[.map (some b),k]).run P w = .ok (.tuple #[]) w'→(execOp a.eval o).run P w = .ok (.value (.tuple #[])) w':=fun w' hw=>by
       unfold execOp
       simp only [ho,resolve,Sem.run_bind,Sem.run_pure,Result.andThen_ok,invoke,builtin,List.map_toArray,List.map_cons,List.map_nil,hxv,hyv,hw]
      have away:=qpf (F:=s.F) (H:=s.H) h hb hH
      cases hm:y9 P kt k es with
      | none=>rw [hm] at hk; exact hk.elim
      | some r =>
       rw [hm] at hk
       have sk:=qfL (I:=c.I) (φ:=c.φ) hm h2
       cases r with
       | none =>
        have hfk:=sk.no rfl w
        have s1:Sim c N ⟨s.F,(Zk id s.H).set id (.map es)⟩ a (AM.turn w b (.map ents clock)):=Sim.turn kill hb hkid ⟨_,_,qcE hlt,h2,h3,h4⟩ away
        refine Zg (run _ ?_) (Post.step (Ext.turn (o := .map ents clock) c w (by rw [hR]; simp)) (vg s1 hk (v := .tuple #[]) fun _ _=>Rel.tup (vs := #[]) .nil))
        simp only [Builtin.delete_,ht,List.getElem?_toArray,List.getElem?_cons_zero,List.getElem?_cons_succ,Sem.run_bind,qX hu,Result.andThen_ok,hgo]
        rw [sk.chk]
        simp only [Result.andThen_ok,hfk,Sem.run_bind]
        rw [qbF h1 (fun _ _ _ e=>by cases e)]
        rfl
       | some q =>
        obtain ⟨j,v0⟩:=q
        obtain ⟨k',u,q1,q2,q4,q5⟩:=sk.yes j v0 rfl
        have hfk:=q1 w
        have s1:Sim c N ⟨s.F,(Zk id s.H).set id (.map (es.eraseIdx j))⟩ a (AM.turn w b (.map (ents.eraseIdxIfInBounds j) clock)):=by
         have hj:j<ents.size:=by
          have:=(List.getElem?_eq_some_iff.1 q4).1
          rw [h2.get.1] at this
          simpa using this
         have el:(ents.eraseIdxIfInBounds j).toList=ents.toList.eraseIdx j:=by
          unfold Array.eraseIdxIfInBounds
          rw [dif_pos hj,Array.toList_eraseIdx]
         refine Sim.turn kill hb hkid ⟨_,_,qcE hlt,by rw [el]; exact h2.eraseIdx j,fun e he => ?_,?_⟩ away
         ·rw [el] at he
          exact h3 e ((List.eraseIdx_sublist _ _).subset he)
         ·rw [el]
          exact List.Nodup.sublist (List.Sublist.map _ (List.eraseIdx_sublist _ _)) h4
        refine Zg (run _ ?_) (Post.step (Ext.turn (o := .map (ents.eraseIdxIfInBounds j) clock) c w (by rw [hR]; simp)) (vg s1 hk (v := .tuple #[]) fun _ _=>Rel.tup (vs := #[]) .nil))
        simp only [Builtin.delete_,ht,List.getElem?_toArray,List.getElem?_cons_zero,List.getElem?_cons_succ,Sem.run_bind,qX hu,Result.andThen_ok,hgo]
        rw [sk.chk]
        simp only [Result.andThen_ok,hfk,Sem.run_bind]
        rw [qbF h1 (fun _ _ _ e=>by cases e)]
        rfl
    | _=>exact hk.elim
 ·exact hk.elim
def jB (P:Program) (N:Nat) (dst:Option Tmp) (t:TypeId) (x:Operand) (s:St) (K:St→Prop):Prop:=match vS s x,P.underlying t with
 | some es,some (.map _ _)=>jR N dst (.v (.sc (.int .i64 es.length))) s K
 | _,_=>False
theorem qe8 {o:Oper} {t:TypeId} {x:Operand} (ho:o.op = .call { callee := .builtin .len,args := #[x],argTypes := #[t] }) (h:Sim c N s a w) (hk:jB P N o.dst t x s K):Reads P o a w (Post c w N K):=by
 unfold jB at hk
 split at hk
 ·rename_i es kt et hx hu
  refine ⟨.int .i64 es.length,fun w' hw => ?_,vg h hk fun _ _=>Rel.sc _⟩
  have hw:=hw (by rw [ho]; rfl)
  unfold execOp
  rcases qiN h hx with ⟨hxv,rfl⟩ | ⟨id,b,ents,clock,_,hb,hH,hxv,h1,h2,_⟩
  ·simp only [ho,resolve,Sem.run_bind,Sem.run_pure,Result.andThen_ok,invoke,builtin,List.map_toArray,List.map_cons,List.map_nil,hxv,Builtin.len_]
   simp [qX hu,goInt]
  ·have hg:w'.heap[b]? = some (.map ents clock):=(hw b (XI h1)).trans h1
   have hgo:=Xb (P:=P) (w:=w') hg (fun _ _ _ e=>by cases e)
   have hl:=h2.get.1
   simp only [ho,resolve,Sem.run_bind,Sem.run_pure,Result.andThen_ok,invoke,builtin,List.map_toArray,List.map_cons,List.map_nil,hxv,Builtin.len_]
   simp only [List.getElem?_toArray,List.getElem?_cons_zero,Sem.run_bind,qX hu,Result.andThen_ok,hgo,Sem.run_pure,goInt]
   simp at hl
   rw [hl]
 ·exact hk.elim
def vV (P:Program) (N:Nat) (dst:Option Tmp) (t:TypeId) (x:Operand) (s:St) (K:St→Prop):Prop:=match zZ s x,P.underlying t,dst with
 | some (.map id),some (.map _ _),some d=>match s.H[id]? with
  | some (.map es)=>d<N∧K ⟨vO d (.v (.ptr s.H.length 0)) s.F,s.H ++ [.iter id es none]⟩
  | _=>False
 | _,_,_=>False
theorem qmD {o:Oper} {t:TypeId} {x:Operand} (ho:o.op = .range t x) (h:Sim c N s a w) (hk:vV P N o.dst t x s K):Yl P o a w (Post c w N K):=by
 unfold vV at hk
 split at hk
 ·rename_i id kt et d hx hu hd
  cases hH:s.H[id]? with
  | none=>rw [hH] at hk; exact hk.elim
  | some blk =>
   rw [hH] at hk
   cases blk with
   | map es =>
    obtain ⟨hlt,hk⟩:=hk
    have hr:=vD h hx
    generalize hxv:a.eval x=xv at hr
    cases hr with
    | map hb =>
     rename_i b
     obtain ⟨hR,_,ents,clock,h1,h2,h3,h4⟩:=h.inv.blk id b _ hb hH
     have hgo:=Xb (P:=P) (w:=w) h1 (fun _ _ _ e=>by cases e)
     have hs:Sim (c.lay w.heap.size) N ⟨s.F,s.H ++ [.iter id es none]⟩ a (w.alloc (.mapIter (some b) clock #[] clock)):=by
      refine Sim.layObj (F:=s.F) (H:=s.H) h (fun _ e=>by cases e) ⟨b,clock,#[],ents,qds _ hb,heap_alloc_new w _,qeZ h1,h3,h4,?_,fun k x e=>by cases e⟩
      have:(ents.toList.filter fun e => !(#[]:Array Nat).contains e.born)=ents.toList:=by simp
      rw [this]
      exact h2.mono (fun _ _ _ h=>h) (fun _ _ h=>qds _ h)
     refine Zg (v := .pointer (some ⟨w.heap.size,0,none⟩)) (w':=w.alloc (.mapIter (some b) clock #[] clock)) ?_ ?_
     ·unfold execOp
      simp only [ho,hxv,Instr.range,Sem.run_bind,qX hu,Result.andThen_ok,hgo,Sem.run_pure,newObj,Sem.run]
      rfl
     ·rw [hd]
      exact ⟨_,_,hs.put hlt (x := .v (.ptr s.H.length 0)) trivial (Rel.ptr (qor h.inv _)),(Ext.lay c w _).trans (Ext.free _ _ _),hk⟩
   | _=>exact hk.elim
 ·exact hk.elim
def Qu (N:Nat) (dst:Option Tmp) (x:Operand) (isS:Bool) (s:St) (K:St→Prop):Prop:=isS=false∧match zZ s x with
 | some (.ptr id 0)=>match s.H[id]? with
  | some (.iter m left cu)=>(left = []→jR N dst (.v (.tup [.sc (.bool false)])) s K) ∧
    ∀ i k v,left[i]? = some (k,v)→jR N dst (.v (.tup [.sc (.bool true),.sc k,v])) ⟨s.F,s.H.set id (.iter m (left.eraseIdx i) (some (k,v)))⟩ K
  | _=>False
 | _=>False
def vY (N:Nat) (dst:Option Tmp) (x:Operand) (s:St) (K:St→Prop):Prop:=match zZ s x with
 | some (.ptr id 0)=>match s.H[id]? with
  | some (.iter _ _ (some (k,v)))=>jR N dst (.v (.tup [.sc k,v])) s K
  | _=>False
 | _=>False
theorem qk3 {l:List MapEntry} (hn:(l.map (·.born)).Nodup):∀ {i:Nat} {e:MapEntry},l[i]? = some e→(l.filter fun x => !(x.born==e.born))=l.eraseIdx i:=by
 induction l with
 | nil=>intro i e h; simp at h
 | cons a l ih =>
  intro i e h
  simp only [List.map_cons,List.nodup_cons] at hn
  cases i with
  | zero =>
   simp only [List.getElem?_cons_zero,Option.some.injEq] at h
   subst h
   simp only [List.filter_cons,beq_self_eq_true,Bool.not_true,Bool.false_eq_true,if_false,List.eraseIdx_cons_zero]
   refine List.filter_eq_self.2 fun x hx => ?_
   have:x.born≠a.born:=fun e=>hn.1 (e▸List.mem_map.2 ⟨x,hx,rfl⟩)
   simpa using this
  | succ i =>
   simp only [List.getElem?_cons_succ] at h
   have hne:a.born≠e.born:=fun e'=>hn.1 (e'▸List.mem_map.2 ⟨e,List.mem_of_getElem? h,rfl⟩)
   rw [List.filter_cons,if_pos (by simpa using hne),List.eraseIdx_cons_succ,ih hn.2 h]
theorem qnQ {o:Oper} {x:Operand} {isS:Bool} (ho:o.op = .next x isS) (h:Sim c N s a w) (hk:Qu N o.dst x isS s K):Yl P o a w (Post c w N K):=by
 obtain ⟨rfl,hk⟩:=hk
 split at hk
 ·rename_i id hx
  cases hH:s.H[id]? with
  | none=>rw [hH] at hk; exact hk.elim
  | some blk =>
   rw [hH] at hk
   cases blk with
   | iter m left cu =>
    obtain ⟨k1,k2⟩:=hk
    have hr:=vD h hx
    generalize hxv:a.eval x=xv at hr
    cases hr with
    | ptr hb =>
     rename_i b
     obtain ⟨hR,_,bm,since,seen,ents,h1,h2,h3,h4,h5,h6,h7⟩:=h.inv.blk id b _ hb hH
     have hlt:=XI h2
     have g1:=Xb (P:=P) (w:=w) h2 (fun _ _ _ e=>by cases e)
     have g2:=Xb (P:=P) (w:=w) h3 (fun _ _ _ e=>by cases e)
     have hchk:(!seen.isEmpty && !ents.isEmpty&&ents.all (·.born≥since))=false:=by
      cases he:ents.isEmpty with
      | true=>simp
      | false =>
       have hne:ents.toList ≠ []:=by
        intro e
        have:ents = #[]:=Array.toList_inj.1 e
        subst this
        simp at he
       obtain ⟨e0,he0⟩:=List.exists_mem_of_ne_nil _ hne
       have h4':=h4 e0 he0
       have:ents.all (·.born≥since)=false:=by
        rw [Bool.eq_false_iff]
        intro hall
        have:=Array.all_eq_true_iff_forall_mem.1 hall e0 (by simpa using he0)
        simp at this
        omega
       rw [this]; simp
     have hold:(ents.filter fun e => !seen.contains e.born).filter (·.born<since)=ents.filter fun e => !seen.contains e.born:=by
      apply Array.filter_eq_self.2
      intro e he
      simpa using h4 e (by simpa using (Array.mem_filter.1 he).1)
     have hnew:(ents.filter fun e => !seen.contains e.born).filter (·.born≥since) = #[]:=by
      apply Array.filter_eq_empty_iff.2
      intro e he
      have:=h4 e (by simpa using (Array.mem_filter.1 he).1)
      simp; omega
     have hL:(ents.filter fun e => !seen.contains e.born).toList=ents.toList.filter fun e => !seen.contains e.born:=by simp
     generalize hLL:(ents.filter fun e => !seen.contains e.born)=L at hold hnew hL
     rw [← hL] at h6
     cases hemp:L.isEmpty with
     | true =>
      have hLe:L = #[]:=by simpa using hemp
      subst hLe
      have hl0:left = []:=by
       have:=h6.get.1
       simpa using this
      refine Zg (v := .tuple #[.bool false]) (w':=w) ?_ (vg h (k1 hl0) fun _ _=>Rel.tup (vs := #[.bool false]) (.cons (.sc _) .nil))
      unfold execOp
      simp only [ho,hxv,Instr.next,Sem.run_bind,g1,g2,Result.andThen_ok,hchk,Bool.false_eq_true,if_false,Sem.run_pure,hLL,hold,hnew,hemp,if_true]
      simp [choose,Sem.run,Question.forced]
     | false =>
      have hLs:0<L.size:=by
       rcases Nat.eq_zero_or_pos L.size with h0 | h0
       ·have:L = #[]:=Array.eq_empty_of_size_eq_zero h0
        subst this
        simp at hemp
       ·exact h0
      have hch:∃ i w1,i<L.size∧(choose (.mapNext (L.map some).size)).run P w = .ok i w1∧(w1=w∨w1=w.drew):=by
       unfold choose
       simp only [Sem.run,Array.size_map]
       by_cases hf:(Question.mapNext L.size).forced=true
       ·rw [if_pos hf]
        exact ⟨0,w,hLs,rfl,.inl rfl⟩
       ·rw [if_neg hf]
        exact ⟨_,_,Nat.mod_lt _ hLs,rfl,.inr rfl⟩
      obtain ⟨i,w1,hi,hrun,hw1⟩:=hch
      have hLi:(L.map some)[i]? = some (some L[i]):=by simp [hi]
      obtain ⟨hlen,hget⟩:=h6.get
      have hil:i<left.length:=by rw [hlen]; simpa using hi
      obtain ⟨k,v,hkv⟩:∃ k v,left[i]? = some (k,v):=⟨left[i].1,left[i].2,by rw [List.getElem?_eq_getElem hil]⟩
      obtain ⟨e,e1,e2,e3⟩:=hget i k v hkv
      have e1':L[i]=e:=by
       rw [Array.getElem?_toList,Array.getElem?_eq_getElem hi] at e1
       simpa using e1
      have hmemL:e∈L.toList:=List.mem_of_getElem? e1
      have hmem:e∈ents.toList:=by
       rw [hL] at hmemL
       exact (List.mem_filter.1 hmemL).1
      have sw:Sim c N s a w1:=hw1.elim (fun e=>e▸h) (fun e=>e▸h.drew)
      have xw:Ext c w c w1:=hw1.elim (fun e=>e▸Ext.refl c w) (fun e=>e▸Ext.drew c w)
      have hw2:w1.heap=w.heap:=by rcases hw1 with rfl | rfl <;> rfl
      have h2':w1.heap[b]? = some (.mapIter (some bm) since seen since):=by rw [hw2]; exact h2
      have h3':w1.heap[bm]? = some (.map ents since):=by rw [hw2]; exact h3
      have hne:bm≠b:=by rintro rfl; rw [h2] at h3; cases h3
      have s1:Sim c N ⟨s.F,s.H.set id (.iter m (left.eraseIdx i) (some (k,v)))⟩ a (AM.turn w1 b (.mapIter (some bm) since (seen.push e.born) since)):=by
       refine Sim.turn (F:=s.F) (H:=s.H) sw hb hH ⟨bm,since,seen.push e.born,ents,h1,qcE (XI h2'),(Y8 hne).trans h3',h4,h5,?_,fun k' x' hc => ?_⟩ fun i' m' l' cu' bm' _ _ _ hmap e' => ?_
       ·have hf:(ents.toList.filter fun x => !(seen.push e.born).contains x.born)=L.toList.eraseIdx i:=by
         rw [← qk3 (l:=L.toList) (by rw [hL]; exact List.Nodup.sublist (List.Sublist.map _ List.filter_sublist) h5) e1,hL,List.filter_filter]
         refine List.filter_congr fun x _ => ?_
         rw [Array.contains_push,Bool.not_or,Bool.and_comm]
        rw [hf]
        exact h6.eraseIdx i
       ·cases hc
        exact ⟨e,by simp,hmem,e2,e3⟩
       ·subst e'
        obtain ⟨_,_,hq⟩:=hmap
        rw [h2'] at hq
        cases hq
      have p1:=vg (v := .tuple #[.bool true,e.key,e.val]) s1 (k2 i k v hkv) fun _ _=>Rel.tup (vs := #[.bool true,e.key,e.val]) (.cons (.sc _) (.cons (by rw [e2]; exact .sc _) (.cons e3 .nil)))
      refine Zg (v := .tuple #[.bool true,e.key,e.val]) (w':=AM.turn w1 b (.mapIter (some bm) since (seen.push e.born) since)) ?_ (Post.step (xw.trans (Ext.turn c w1 (by rw [hR]; simp))) p1)
      unfold execOp
      simp only [ho,hxv,Instr.next,Sem.run_bind,g1,g2,Result.andThen_ok,hchk,Bool.false_eq_true,if_false,Sem.run_pure,hLL,hold,hnew,hemp,Array.empty_append,Array.append_empty,hrun,hLi,e1']
      rw [qbF h2' (fun _ _ _ e=>by cases e)]
      rfl
   | _=>exact hk.elim
 ·exact hk.elim
theorem qmH {o:Oper} {x:Operand} (ho:o.op = .entry x) (h:Sim c N s a w) (hk:vY N o.dst x s K):Yl P o a w (Post c w N K):=by
 unfold vY at hk
 split at hk
 ·rename_i id hx
  split at hk
  ·rename_i m left k v hH
   have hr:=vD h hx
   generalize hxv:a.eval x=xv at hr
   cases hr with
   | ptr hb =>
    rename_i b
    obtain ⟨hR,_,bm,since,seen,ents,h1,h2,h3,h4,h5,h6,h7⟩:=h.inv.blk id b _ hb hH
    obtain ⟨e,q1,q2,q3,q4⟩:=h7 k v rfl
    have g1:=Xb (P:=P) (w:=w) h2 (fun _ _ _ e=>by cases e)
    have g2:=Xb (P:=P) (w:=w) h3 (fun _ _ _ e=>by cases e)
    have hfind:ents.find? (fun x=>x.born==e.born)=some e:=by
     rw [← Array.find?_toList]
     have:∀ l:List MapEntry,(l.map (·.born)).Nodup→e∈l→l.find? (fun x=>x.born==e.born)=some e:=by
      intro l
      induction l with
      | nil=>intro _ h; cases h
      | cons a l ih =>
       intro hn hm
       simp only [List.map_cons,List.nodup_cons] at hn
       rcases List.mem_cons.1 hm with rfl | hm
       ·simp
       ·have hne:a.born≠e.born:=fun e'=>hn.1 (e'▸List.mem_map.2 ⟨e,hm,rfl⟩)
        rw [List.find?_cons_of_neg (by simpa using hne)]
        exact ih hn.2 hm
     exact this _ h5 q2
    refine Zg (v := .tuple #[e.key,e.val]) (w':=w) ?_ (vg h hk fun _ _=>Rel.tup (vs := #[e.key,e.val]) (.cons (by rw [q3]; exact .sc _) (.cons q4 .nil)))
    unfold execOp
    simp only [ho,hxv,Instr.entry,Sem.run_bind,g1,Result.andThen_ok,q1,g2,bne_self_eq_false,Bool.false_eq_true,if_false,Sem.run_pure,hfind]
  ·exact hk.elim
 ·exact hk.elim
end
section
variable {P:Program} {c:Cx} {N:Nat} {s:St} {a:Act} {w:World} {K:St→Prop}
def Qt:SV→Bool
 | .pth (.cell ..) _=>false
 | .lnk (.cell ..) _=>false
 | _=>true
def calm:Fr→Fr
 | [] => []
 | (k,x)::F=>bif Qt x then (k,x)::calm F else calm F
theorem qaY {k:Nat} {x:SV}:∀ {F:Fr},(k,x)∈calm F→(k,x)∈F∧Qt x=true
 | [],h=>by cases h
 | (j,y)::F,h=>by
  unfold calm at h
  cases hc:Qt y with
  | true =>
   rw [hc] at h
   simp only [cond_true,List.mem_cons,Prod.mk.injEq] at h
   rcases h with ⟨rfl,rfl⟩ | h
   ·exact ⟨by simp,hc⟩
   ·exact ⟨List.mem_cons_of_mem _ (qaY h).1,(qaY h).2⟩
  | false =>
   rw [hc] at h
   exact ⟨List.mem_cons_of_mem _ (qaY (by simpa using h)).1,(qaY (by simpa using h)).2⟩
def Cx.Yn (c:Cx) (old:Option Nat) (L b:Nat):Cx := { c with φ:=c.φ ++ [b],R:=fun k=>if k=b then .abs L else match c.R k with
 | .own (.cell i j)=>if old=some i then .own (.cell L j) else if i=L then .out else .own (.cell i j)
 | r=>r }
def backR (old:Option Nat) (L:Nat):Root→Root
 | .cell i j=>match old with
  | some id=>if i=L then .cell id j else .cell i j
  | none => .cell i j
 | r=>r
theorem qia {old:Option Nat} {L b k:Nat} {r:Root} (h:(c.Yn old L b).R k = .own r):k≠b∧c.R k = .own (backR old L r):=by
 unfold Cx.Yn at h
 simp only at h
 by_cases hk:k=b
 ·simp [hk] at h
 ·refine ⟨hk,?_⟩
  rw [if_neg hk] at h
  cases hr:c.R k with
  | out=>rw [hr] at h; cases h
  | abs id=>rw [hr] at h; cases h
  | own q =>
   rw [hr] at h
   cases q with
   | slot t =>
    simp only [Role.own.injEq] at h
    subst h
    rfl
   | cell i j =>
    simp only at h
    by_cases ho:old=some i
    ·rw [if_pos ho] at h
     cases h
     subst ho
     simp [backR]
    ·rw [if_neg ho] at h
     by_cases hi:i=L
     ·rw [if_pos hi] at h; cases h
     ·rw [if_neg hi] at h
      cases h
      cases old <;> simp [backR,hi]
theorem qib {old:Option Nat} {L b k:Nat} (hk:k≠b) (h:c.R k = .out):(c.Yn old L b).R k = .out:=by
 unfold Cx.Yn
 simp [hk,h]
theorem qnd {old:Option Nat} {L b k id:Nat} (hk:k≠b) (h:c.R k = .abs id):(c.Yn old L b).R k = .abs id:=by
 unfold Cx.Yn
 simp [hk,h]
theorem qd7 {old:Option Nat} {L b k t:Nat} (hk:k≠b) (h:c.R k = .own (.slot t)):(c.Yn old L b).R k = .own (.slot t):=by
 unfold Cx.Yn
 simp [hk,h]
theorem qlV {old:Option Nat} {L b k i j:Nat} (hk:k≠b) (h:c.R k = .own (.cell i j)) (ho:old≠some i) (hi:i≠L):(c.Yn old L b).R k = .own (.cell i j):=by
 unfold Cx.Yn
 simp [hk,h,ho,hi]
theorem qkK {L b k i j:Nat} (hk:k≠b) (h:c.R k = .own (.cell i j)):(c.Yn (some i) L b).R k = .own (.cell L j):=by
 unfold Cx.Yn
 simp [hk,h]
theorem qoY {old:Option Nat} {L b k:Nat} (hk:k≠b) (h:(c.Yn old L b).R k ≠ .out):c.R k ≠ .out:=fun e=>h (qib hk e)
def oldH (H:List Bk):Option Nat→List Bk
 | some id=>H.set id .dead
 | none=>H
theorem qei {H:List Bk} {old:Option Nat}:(oldH H old).length=H.length:=by cases old <;> simp [oldH]
theorem oldH_get {H:List Bk} {old:Option Nat} {i:Nat} {k:Bk} (h:(oldH H old)[i]? = some k):(H[i]? = some k∧old≠some i)∨(k = .dead∧old=some i):=by
 cases old with
 | none=>exact .inl ⟨h,by simp⟩
 | some id =>
  unfold oldH at h
  rw [List.getElem?_set] at h
  by_cases hi:id=i
  ·subst hi
   simp only [if_true] at h
   split at h
   ·cases h; exact .inr ⟨rfl,rfl⟩
   ·cases h
  ·rw [if_neg hi] at h
   exact .inl ⟨h,by simpa using hi⟩
theorem Sim.Yn {F:Fr} {H:List Bk} {old:Option Nat} {kept:List SV} {olds news zs:List Value} {ds:List V} {e:TypeId} {w':World} (h:Sim c N ⟨F,H⟩ a w) (hold:∀ id,old=some id→id<H.length)
  (hlen:kept.length=olds.length) (hkept:∀ (j:Nat) (x:SV) (v:Value),kept[j]? = some x→olds[j]? = some v→x.flat=true∧∃ id,old=some id∧QF c w (.cell id j) x v)
  (ho1:∀ v∈olds,v.oneCell'=true) (hd:vM c.I c.φ ds news) (hn1:∀ v∈news,v.oneCell'=true) (hz1:∀ v∈zs,v.oneCell'=true)
  (heap:∀ k,k<w.heap.size→w'.heap[k]? = w.heap[k]?) {arr:Array Value} (hnew:w'.heap[w.heap.size]? = some (.cells arr e (0,0))) (harr:arr.toList=olds++news++zs) (hsize:w.heap.size≤w'.heap.size)
  (hos:w'.os=w.os) (htape:w'.tape=w.tape) (hout:w'.output=w.output) :
  Sim (c.Yn old H.length w.heap.size) N ⟨calm F,oldH H old ++ [.cells (kept++ds.map .v++List.replicate zs.length .any)]⟩ a w'∧Ext c w (c.Yn old H.length w.heap.size) w':=by
 have hlt:∀ b,c.R b ≠ .out→b≠w.heap.size:=fun b hb e=>by
  have:=h.inv.lt b hb
  omega
 have hsz:w.heap.size<w'.heap.size:=XI hnew
 have hφ:∀ id b:Nat,c.φ[id]? = some b→(c.Yn old H.length w.heap.size).φ[id]? = some b:=fun id b hb=>by
  show (c.φ ++ [w.heap.size])[id]? = some b
  rw [List.getElem?_append_left (List.getElem?_eq_some_iff.1 hb).1]
  exact hb
 have hI:∀ b o v,c.I b o=some v→(c.Yn old H.length w.heap.size).I b o=some v:=fun _ _ _ h=>h
 refine ⟨⟨⟨fun b o v hv => ?_,?_,fun b hb => ?_,fun b b' r hb hb' => ?_,fun id b k hb hk => ?_⟩,h.size,h.defers,fun t x hx => ?_⟩,⟨hos,htape,hout,hsize,fun b hb hr=>⟨heap b hb,qib (Nat.ne_of_lt hb) hr,fun _=>rfl⟩,fun _ _ _ h=>h,hφ⟩⟩
 ·have hc:=h.inv.imm b o v hv
  rw [World.cell?_of_block (a:=⟨b,o,none⟩) (heap b (World.block_lt_of_cell? w ⟨b,o,none⟩ hc))]
  exact hc
 ·show (c.φ ++ [w.heap.size]).length=_
  simp [qei]
  exact h.inv.len
 ·by_cases hbs:b=w.heap.size
  ·subst hbs; exact hsz
  ·exact Nat.lt_of_lt_of_le (h.inv.lt b (qoY hbs hb)) hsize
 ·exact h.inv.uniq b b' _ (qia hb).2 (qia hb').2
 ·by_cases hidl:id<H.length
  ·have hb0:c.φ[id]? = some b:=by
    have e:(c.φ ++ [w.heap.size])[id]? = some b:=hb
    rwa [List.getElem?_append_left (by rw [h.inv.len]; exact hidl)] at e
   rw [List.getElem?_append_left (by rw [qei]; exact hidl)] at hk
   have hkk:H[id]? = some H[id]:=List.getElem?_eq_getElem hidl
   obtain ⟨q1,q2,q3⟩:=h.inv.blk id b _ hb0 hkk
   have hbs:=hlt b (by rw [q1]; simp)
   refine ⟨qnd hbs q1,q2,?_⟩
   rcases oldH_get hk with ⟨hk,hne⟩ | ⟨rfl,_⟩
   rotate_left
   ·trivial
   rw [hkk] at hk
   cases hk
   by_cases hck:∃ cs,H[id] = .cells cs
   rotate_left
   ·exact qac.stay (fun cs e=>hck ⟨cs,e⟩) q3 (fun _ _ _ h=>h) hφ (fun b' o ho _=>(heap b' (XI ho)).trans ho)
   obtain ⟨cs,hcs⟩:=hck
   rw [hcs] at q3 ⊢
   obtain ⟨arr',e',g1,g2,g6,g3⟩:=q3
   refine ⟨arr',e',(heap b (XI g1)).trans g1,g2,g6,fun j x v hx hv=>⟨(g3 j x v hx hv).1,?_⟩⟩
   refine QF.mono (c:=c) (w:=w) (w':=w') hI hφ (fun b' q hq hb' => ?_) (g3 j x v hx hv).2
   rcases hq with rfl | hq
   ·exact ⟨qlV (hlt b' (by rw [hb']; simp)) hb' hne (Nat.ne_of_lt hidl),heap b' (h.inv.lt b' (by rw [hb']; simp)),fun _=>rfl⟩
   ·rw [Vn (g3 j x v hx hv).1] at hq; cases hq
  ·have hidL:id=H.length:=by
    have:id<(oldH H old ++ [Bk.cells (kept++ds.map .v++List.replicate zs.length .any)]).length:=(List.getElem?_eq_some_iff.1 hk).1
    rw [List.length_append,qei] at this
    simp at this
    omega
   subst hidL
   have hbe:b=w.heap.size:=by
    have e:(c.φ ++ [w.heap.size])[H.length]? = some b:=hb
    rw [← h.inv.len] at e
    simpa using e.symm
   subst hbe
   rw [List.getElem?_append_right (by rw [qei]; exact Nat.le_refl _),qei] at hk
   simp at hk
   subst hk
   have hal:arr.size=olds.length+news.length+zs.length:=by rw [← Array.length_toList,harr]; simp; omega
   have hdl:=hd.len
   refine ⟨by simp [Cx.Yn],fun o=>qbr h.inv _ o (Nat.le_refl _),arr,e,hnew,by rw [hal]; simp; omega,fun v hv => ?_,fun j x v hx hv => ?_⟩
   ·rw [harr] at hv
    rcases List.mem_append.1 hv with hv | hv
    ·rcases List.mem_append.1 hv with hv | hv
     ·exact ho1 v hv
     ·exact hn1 v hv
    ·exact hz1 v hv
   ·rw [← Array.getElem?_toList,harr,List.append_assoc] at hv
    rw [← List.append_assoc] at hx
    rw [List.append_assoc] at hx
    by_cases hj:j<kept.length
    ·rw [List.getElem?_append_left hj] at hx
     rw [List.getElem?_append_left (by omega)] at hv
     obtain ⟨f1,id,rfl,f2⟩:=hkept j x v hx hv
     refine ⟨f1,?_⟩
     cases x with
     | v y=>exact Rel.mono hI hφ f2
     | own pr e0 n sz cs =>
      obtain ⟨h0,vs,r1,r2,r4,r3⟩:=f2
      refine ⟨h0,vs,vM.mono hI hφ r1,qfU r2 fun g hg=>heap g (h.inv.lt g (by rw [(r3 g hg).1]; simp)),r4,fun b hb => ?_⟩
      obtain ⟨k1,k2⟩:=r3 b hb
      exact ⟨qkK (hlt b (by rw [k1]; simp)) k1,k2⟩
     | any=>trivial
     | _=>cases f1
    ·rw [List.getElem?_append_right (by omega)] at hx
     rw [List.getElem?_append_right (by omega),← hlen] at hv
     by_cases hj2:j - kept.length<ds.length
     ·rw [List.getElem?_append_left (by simpa using hj2),List.getElem?_map] at hx
      rw [List.getElem?_append_left (by omega)] at hv
      cases hy:ds[j - kept.length]? with
      | none=>rw [hy] at hx; cases hx
      | some y =>
       rw [hy] at hx
       cases hx
       obtain ⟨u,hu,hr⟩:=hd.get hy
       rw [hv] at hu
       cases hu
       exact ⟨rfl,Rel.mono hI hφ hr⟩
     ·rw [List.getElem?_append_right (by simpa using hj2),List.getElem?_replicate] at hx
      split at hx
      ·cases hx; exact ⟨rfl,trivial⟩
      ·cases hx
 ·obtain ⟨hx1,hx2⟩:=qaY hx
  obtain ⟨v,hv,hs⟩:=h.fr t x hx1
  refine ⟨v,hv,QF.mono (c:=c) (w:=w) (w':=w') hI hφ (fun b q hq hb => ?_) hs⟩
  have hlb:=h.inv.lt b (by rw [hb]; simp)
  refine ⟨?_,heap b hlb,fun _=>rfl⟩
  rcases hq with rfl | hq
  ·exact qd7 (Nat.ne_of_lt hlb) hb
  ·cases x with
   | pth r off =>
    simp [SV.refers] at hq
    subst hq
    cases r with
    | slot t'=>exact qd7 (Nat.ne_of_lt hlb) hb
    | cell=>cases hx2
   | lnk r n =>
    simp [SV.refers] at hq
    subst hq
    cases r with
    | slot t'=>exact qd7 (Nat.ne_of_lt hlb) hb
    | cell=>cases hx2
   | _=>cases hq
theorem qnc {H:List Bk} {old:Option Nat} {b n cap:Nat} (h:Inv c H w) (hn:n≤cap) (hc:cap≤maxLen):Rel (c.Yn old H.length b).I (c.Yn old H.length b).φ (.slb H.length 0 n cap) (.slice (some ⟨b,0,none⟩) n cap) :=
 .slb (by show (c.φ ++ [b])[H.length]? = _; rw [← h.len]; simp) hn hc
theorem qmR {e:TypeId} {i:TypeInfo} {z:Value} {zc:List V} (h:za P e=some zc) (hi:P.info? e=some i) (hz:i.zero=some z):∀ v∈z.cells.toList,v.oneCell'=true:=by
 unfold za qdN at h
 rw [hi,Option.bind_some,hz] at h
 simp only at h
 cases hb:z.cells.toList.all (·.oneCell') with
 | false=>rw [hb] at h; cases h
 | true=>exact fun v hv=>List.all_eq_true.1 hb v hv
theorem qi9 {z:Array Value} {n:Nat} (h:∀ v∈z.toList,v.oneCell'=true):∀ v∈(Builtin.zeroCells z n).toList,v.oneCell'=true:=by
 intro v hv
 unfold Builtin.zeroCells at hv
 simp only [Array.toList_map,List.mem_map] at hv
 obtain ⟨j,hj,rfl⟩:=hv
 have hj:j<n*z.size:=by simpa using hj
 have hz:0<z.size:=Nat.pos_of_ne_zero fun e=>by rw [e] at hj; simp at hj
 have hm:j%z.size<z.size:=Nat.mod_lt _ hz
 rw [getElem!_pos z _ hm]
 exact h _ (by simp)
theorem qec {F:Fr} {H:List Bk} {d:Nat} {x:V} {v:Value} (h:Sim c N ⟨F,H⟩ a w) (hd:d<N) (hx:Rel c.I c.φ x v):Sim (c.free (.slot d)) N ⟨vO d (.v x) F,H⟩ (a.put (some d) v) w:=h.put hd trivial hx
theorem qh7 {t ty e:TypeId} {i:TypeInfo} {z:Value} {A:Option Addr} {n cap m:Nat} {olds news:List Value} {b' o' cp:Nat} (ht:P.underlying t=some (.slice e)) (hi:P.info? e=some i) (hz:i.zero=some z)
  (hA:(A=none∧n=0∧cap=0∧olds = [])∨∃ p,A=some p∧olds.length=n*i.size∧∀ j u,olds[j]? = some u→w.cell? (p.add j)=some u)
  (hl:news.length=m*i.size) (hc:∀ j u,news[j]? = some u→w.cell? ⟨b',o'+j,none⟩=some u) (hg:cap<n+m) (h63:n+m≤9223372036854775807) (hby:(n+m)*i.bytes≤140737488355328) :
  ∃ cap',n+m≤cap'∧cap'≤maxLen∧(Builtin.append_ #[t,t] ty #[.slice A n cap,.slice (some ⟨b',o',none⟩) m cp]).run P w = .ok (.slice (some ⟨w.heap.size,0,none⟩) (n+m) cap') (w.drew.alloc (.cells (olds.toArray++news.toArray++Builtin.zeroCells z.cells (cap' - (n+m))) e)):=by
 have hc':∀ j u,news[j]? = some u→w.cell? ((⟨b',o',none⟩:Addr).add j)=some u:=fun j u hu=>by rw [add_eq]; exact hc j u hu
 refine ⟨grownCap w (n+m) cap e,grownCap_ge w _ _ e,grownCap_le_maxLen w _ _ e (by unfold maxLen; omega),?_⟩
 rcases hA with ⟨rfl,rfl,rfl,rfl⟩ | ⟨p,rfl,h1,h2⟩
 ·have hr:=run_append_nil (P:=P) w t ty e i z ht hi hz ⟨b',o',none⟩ m cp news hl hc' (by omega) (by omega) (by rw [Nat.zero_add] at hby; omega)
  simpa using hr
 ·exact run_append_grow (P:=P) w t ty e i z ht hi hz p n cap olds h1 h2 ⟨b',o',none⟩ m cp news hl hc' hg (by omega) (growslice_fits (by omega) hby)
theorem Sim.grown {F:Fr} {H:List Bk} {old:Option Nat} {kept:List SV} {olds news:List Value} {ds:List V} {e:TypeId} {z:Value} {sz k d n cap':Nat} (h:Sim c N ⟨F,H⟩ a w) (hold:∀ id,old=some id→id<H.length)
  (hlen:kept.length=olds.length) (hkept:∀ (j:Nat) (x:SV) (v:Value),kept[j]? = some x→olds[j]? = some v→x.flat=true∧∃ id,old=some id∧QF c w (.cell id j) x v)
  (ho1:∀ v∈olds,v.oneCell'=true) (hd:vM c.I c.φ ds news) (hn1:∀ v∈news,v.oneCell'=true) (hz1:∀ v∈z.cells.toList,v.oneCell'=true) (hzs:z.cells.size=sz) (hdN:d<N) (hnc:n≤cap') (hcm:cap'≤maxLen) (hkN:k=cap' - n) :
  ∃ c',Sim c' N ⟨vO d (.v (.slb H.length 0 n cap')) (calm F),oldH H old ++ [.cells (kept++ds.map .v++List.replicate (k*sz) .any)]⟩ (a.put (some d) (.slice (some ⟨w.heap.size,0,none⟩) n cap')) (w.drew.alloc (.cells (olds.toArray++news.toArray++Builtin.zeroCells z.cells (cap' - n)) e))∧Ext c w c' (w.drew.alloc (.cells (olds.toArray++news.toArray++Builtin.zeroCells z.cells (cap' - n)) e)):=by
 subst hkN
 have hzl:(Builtin.zeroCells z.cells (cap' - n)).toList.length=(cap' - n)*sz:=by rw [Array.length_toList,size_zeroCells,hzs]
 obtain ⟨k1,k2⟩:=Sim.Yn (zs:=(Builtin.zeroCells z.cells (cap' - n)).toList) (e:=e) (w':=w.drew.alloc (.cells (olds.toArray++news.toArray++Builtin.zeroCells z.cells (cap' - n)) e)) (arr:=olds.toArray++news.toArray++Builtin.zeroCells z.cells (cap' - n)) h hold hlen hkept ho1 hd hn1 (qi9 hz1)
  (fun k hk=>Z5 (w:=w.drew) hk) (heap_alloc_new w.drew _) (by simp) (by simp) rfl rfl rfl
 rw [hzl] at k1
 exact ⟨_,qec k1 hdN (qnc h.inv hnc hcm),k2.trans (Ext.free _ _ _)⟩
theorem qjy {I:Nat→Nat→Option Value} {φ:List Nat} {id n cap:Nat} {v:Value} (h:Rel I φ (.slb id 0 n cap) v):(∃ b,φ[id]? = some b∧v = .slice (some ⟨b,0,none⟩) n cap∧n≤cap∧cap≤maxLen)∨(∃ A,v = .slice A 0 0∧n=0∧cap=0):=by
 cases h with
 | slb h1 h2 h3=>exact .inl ⟨_,h1,rfl,h2,h3⟩
 | slb0=>exact .inr ⟨_,rfl,rfl,rfl⟩
def zJ (P:Program) (N:Nat) (dst:Option Tmp) (t:TypeId) (id n cap:Nat) (y:Operand) (s:St) (K:St→Prop):Prop:=match elT P t,dst with
 | some (e,sz,bytes),some d=>match Qf s sz y,za P e with
  | some (m,ds),some _=>d<N∧((n+m)*bytes≤140737488355328∧n+m≤9223372036854775807) ∧
    (cap≠0→∃ ks,s.H[id]? = some (.cells ks)∧ks.length=cap*sz∧(n+m≤cap→K ⟨vO d (.v (.slb id 0 (n+m) cap)) s.F,setCells s.H id (n*sz) ds⟩) ∧
     (cap<n+m→∀ cap',n+m≤cap'→K ⟨vO d (.v (.slb s.H.length 0 (n+m) cap')) (calm s.F),s.H.set id .dead ++ [.cells (ks.take (n*sz)++ds.map .v++List.replicate ((cap' - (n+m))*sz) .any)]⟩)) ∧
    (cap=0→0<m∧∀ cap',m≤cap'→K ⟨vO d (.v (.slb s.H.length 0 m cap')) (calm s.F),s.H ++ [.cells (ds.map .v++List.replicate ((cap' - m)*sz) .any)]⟩)
  | _,_=>False
 | _,_=>False
theorem qjp {o:Oper} {t:TypeId} {x y:Operand} {id n cap:Nat} (ho:o.op = .call { callee := .builtin .append,args := #[x,y],argTypes := #[t,t] }) (h:Sim c N s a w) (hx:zZ s x=some (.slb id 0 n cap)) (hk:zJ P N o.dst t id n cap y s K):Yl P o a w (Post c w N K):=by
 obtain ⟨F,H⟩:=s
 unfold zJ at hk
 split at hk
 rotate_left
 ·exact hk.elim
 rename_i e sz bytes d hel hd
 obtain ⟨ht,hsz,i,z,hi,hz,hs,hb,hzs⟩:=qga hel
 split at hk
 rotate_left
 ·exact hk.elim
 rename_i m ds zc hy hzc
 obtain ⟨hdN,⟨hby,h63⟩,hk1,hk0⟩:=hk
 obtain ⟨ns,r1,r2,r3⟩:=qgB h hy
 have run:∀ v' w',(Builtin.append_ #[t,t] o.type #[a.eval x,a.eval y]).run P w = .ok v' w'→(execOp a.eval o).run P w = .ok (.value v') w':=fun v' w' hr=>by
  unfold execOp
  simp only [ho,resolve,Sem.run_bind,Sem.run_pure,Result.andThen_ok,invoke,builtin,List.map_toArray,List.map_cons,List.map_nil,hr]
 have hzo:=qmR hzc hi hz
 subst hs
 have fresh:∀ A,a.eval x = .slice A n cap→n=0→cap=0→Yl P o a w (Post c w N K):=by
  rintro A hv rfl rfl
  obtain ⟨hm,hk⟩:=hk0 rfl
  rcases r3 with ⟨_,rfl,_⟩ | ⟨b',o',cp,hA,hl,hcc⟩
  ·omega
  obtain ⟨cap',c1,c2,hr⟩:=qh7 (P:=P) (w:=w) (ty:=o.type) (A:=A) (n:=0) (cap:=0) (olds := []) (cp:=cp) ht hi hz (by
   cases A with
   | none=>exact .inl ⟨rfl,rfl,rfl,rfl⟩
   | some p=>exact .inr ⟨p,rfl,by simp,fun j u hu=>by simp at hu⟩) hl hcc (by omega) h63 (by rw [hb]; exact hby)
  obtain ⟨c',k1,k2⟩:=Sim.grown (e:=e) (old:=none) (kept := []) (olds := []) (d:=d) h (fun id' e=>by cases e) rfl (fun j x u hx hu=>by simp at hx) (fun u hu=>by cases hu) r1 r2 hzo hzs hdN c1 c2 rfl
  refine Zg (run _ _ (by rw [hv,hA]; exact hr)) ?_
  rw [hd]
  simp only [Nat.zero_add] at c1 k1 k2 ⊢
  exact ⟨c',_,k1,k2,by simpa [oldH] using hk cap' c1⟩
 rcases qjy (vD h hx) with ⟨b,hb0,hv,hn,hc⟩ | ⟨A,hv,rfl,rfl⟩
 ·-- a block
  by_cases hcap:cap=0
  ·subst hcap
   obtain rfl:n=0:=by omega
   exact fresh (some ⟨b,0,none⟩) hv rfl rfl
  obtain ⟨ks,hks,hkl,hroom,hgrow⟩:=hk1 hcap
  obtain ⟨q1,q2,arr,e',g1,g2,g6,g3⟩:=h.inv.blk id b _ hb0 hks
  by_cases hle:n+m≤cap
  ·-- in place
   have hK:=hroom hle
   rcases r3 with ⟨⟨A,hA⟩,rfl,rfl⟩ | ⟨b',o',cp,hA,hl,hcc⟩
   ·cases r1
    have hr:=qbb (P:=P) (w:=w) (ty:=o.type) (q:=some ⟨b,0,none⟩) (A:=A) (sz:=i.size) ht (by simp [sizeT,hi]) hn
    refine Zg (run _ _ (by rw [hv,hA]; exact hr)) ?_
    rw [hd]
    exact ⟨_,_,qec h hdN (.slb hb0 hn hc),Ext.free c w _,hK⟩
   ·have hnews:∀ j u,ns[j]? = some u→w.cell? ((⟨b',o',none⟩:Addr).add j)=some u:=fun j u hu=>by rw [add_eq]; exact hcc j u hu
    have hf:=run_firstCells_some (P:=P) w i.size m ⟨b',o',none⟩ m cp ns hl hnews
    have hdl:=r1.len
    obtain ⟨w',k1,k2,k3⟩:=qba (P:=P) (off:=n*i.size) ds ns 0 (F:=F) h hb0 hks r1 r2 (by
     have:=Nat.mul_le_mul_right i.size hle
     rw [Nat.add_mul] at this
     omega)
    refine Zg (v := .slice (some ⟨b,0,none⟩) (n+m) cap) (w':=w') (run _ _ ?_) ?_
    ·rw [hv,hA]
     simp [Builtin.append_,qX ht,sizeOf,typeInfo,hi,Builtin.lenOf,hle,hf,Addr.add_lit,k1]
    ·rw [hd]
     exact ⟨_,_,qec k2 hdN (.slb hb0 hle hc),k3.trans (Ext.free c w' _),by simpa using hK⟩
  ·have hlt:cap<n+m:=by omega
   rcases r3 with ⟨_,rfl,_⟩ | ⟨b',o',cp,hA,hl,hcc⟩
   ·omega
   have hnk:n*i.size≤ks.length:=by rw [hkl]; exact Nat.mul_le_mul_right _ hn
   have htl:(ks.take (n*i.size)).length=(arr.toList.take (n*i.size)).length:=by simp [g2]
   have hoc:∀ j u,(arr.toList.take (n*i.size))[j]? = some u→w.cell? ((⟨b,0,none⟩:Addr).add j)=some u:=fun j u hu=>by
    rw [List.getElem?_take] at hu
    split at hu
    ·rw [add_eq,Nat.zero_add]
     simp [World.cell?,g1]
     simpa using hu
    ·cases hu
   obtain ⟨cap',c1,c2,hr⟩:=qh7 (P:=P) (ty:=o.type) (A:=some ⟨b,0,none⟩) (cap:=cap) (olds:=arr.toList.take (n*i.size)) (cp:=cp) ht hi hz (.inr ⟨_,rfl,by rw [← htl,List.length_take]; omega,hoc⟩) hl hcc hlt h63 (by rw [hb]; exact hby)
   obtain ⟨c',k1,k2⟩:=Sim.grown (e:=e) (old:=some id) (kept:=ks.take (n*i.size)) (olds:=arr.toList.take (n*i.size)) (d:=d) h (fun id' e=>by cases e; exact (List.getElem?_eq_some_iff.1 hks).1) htl (fun j x u hx hu=>by
    rw [List.getElem?_take] at hx hu
    split at hx
    ·rename_i hj
     rw [if_pos hj] at hu
     have:=g3 j x u hx (by simpa using hu)
     exact ⟨this.1,id,rfl,this.2⟩
    ·cases hx) (fun u hu=>g6 u (List.mem_of_mem_take hu)) r1 r2 hzo hzs hdN c1 c2 rfl
   refine Zg (run _ _ (by rw [hv,hA]; exact hr)) ?_
   rw [hd]
   exact ⟨c',_,k1,k2,by simpa [oldH] using hgrow hlt cap' c1⟩
 ·exact fresh A hv rfl rfl
def zI (P:Program) (N:Nat) (dst:Option Tmp) (t:TypeId) (n sz':Nat) (cs:List V) (y:Operand) (s:St) (K:St→Prop):Prop:=match elT P t,dst with
 | some (e,sz,bytes),some d=>match Qf s sz y with
  | some (m,ds)=>sz'=sz∧d<N∧((n+m)*bytes≤140737488355328∧n+m≤9223372036854775807)∧(m=0→K ⟨vO d (.v (.fs n sz cs)) s.F,s.H⟩)∧(0<m→K ⟨vO d (.own true e (n+m) sz (cs++ds)) s.F,s.H⟩)
  | none=>False
 | _,_=>False
theorem qjo {o:Oper} {t:TypeId} {x y:Operand} {n sz':Nat} {cs:List V} (ho:o.op = .call { callee := .builtin .append,args := #[x,y],argTypes := #[t,t] }) (h:Sim c N s a w) (hx:zZ s x=some (.fs n sz' cs)) (hk:zI P N o.dst t n sz' cs y s K):Yl P o a w (Post c w N K):=by
 obtain ⟨F,H⟩:=s
 unfold zI at hk
 split at hk
 rotate_left
 ·exact hk.elim
 rename_i e sz bytes d hel hd
 obtain ⟨ht,hsz,i,z,hi,hz,hs,hb,hzs⟩:=qga hel
 split at hk
 rotate_left
 ·exact hk.elim
 rename_i m ds hy
 obtain ⟨rfl,hdN,⟨hby,h63⟩,hk0,hk1⟩:=hk
 obtain ⟨ns,r1,r2,r3⟩:=qgB h hy
 have run:∀ v' w',(Builtin.append_ #[t,t] o.type #[a.eval x,a.eval y]).run P w = .ok v' w'→(execOp a.eval o).run P w = .ok (.value v') w':=fun v' w' hr=>by
  unfold execOp
  simp only [ho,resolve,Sem.run_bind,Sem.run_pure,Result.andThen_ok,invoke,builtin,List.map_toArray,List.map_cons,List.map_nil,hr]
 have hxr:=vD h hx
 subst hs
 have hrow:∃ (A:Option Addr) (vs:List Value),a.eval x = .slice A n n∧vM c.I c.φ cs vs∧vs.length=n*i.size∧(∀ u∈vs,u.oneCell'=true)∧((A=none∧n=0∧n=0∧vs = [])∨∃ p,A=some p∧vs.length=n*i.size∧∀ j u,vs[j]? = some u→w.cell? (p.add j)=some u):=by
  generalize a.eval x=v at hxr
  cases hxr with
  | @fs _ _ vs b off _ q1 q2 q3 q4 q5 =>
   have hl:vs.length=n*i.size:=by rw [← q1.len,q3]
   exact ⟨_,vs,rfl,q1,hl,q5,.inr ⟨_,rfl,hl,fun j u hu=>by rw [add_eq]; exact h.inv.imm _ _ _ (q2 j u hu)⟩⟩
  | @fs0 _ A =>
   refine ⟨A,[],rfl,.nil,by simp,fun u hu=>(by cases hu),?_⟩
   cases A with
   | none=>exact .inl ⟨rfl,rfl,rfl,rfl⟩
   | some p=>exact .inr ⟨p,rfl,by simp,fun j u hu=>by simp at hu⟩
 obtain ⟨A,vs,hv,p1,p2,p3,p4⟩:=hrow
 rcases r3 with ⟨⟨A',hA⟩,rfl,rfl⟩ | ⟨b',o',cp,hA,hl,hcc⟩
 ·have hr:=qbb (P:=P) (w:=w) (ty:=o.type) (q:=A) (A:=A') (n:=n) (cap:=n) (sz:=i.size) ht (by simp [sizeT,hi]) (Nat.le_refl _)
  refine Zg (run _ _ (by rw [hv,hA]; exact hr)) ?_
  rw [hd]
  rw [hv] at hxr
  exact ⟨_,_,qec h hdN hxr,Ext.free c w _,hk0 rfl⟩
 ·by_cases hm:m=0
  ·subst hm
   obtain rfl:ns = []:=List.eq_nil_of_length_eq_zero (by simpa using hl)
   have hf:=run_firstCells_some (P:=P) w i.size 0 ⟨b',o',none⟩ 0 cp [] (by simp) (fun j u hu=>by simp at hu)
   refine Zg (v := .slice A n n) (w':=w) (run _ _ ?_) ?_
   ·rw [hv,hA]
    cases A <;> simp [Builtin.append_,qX ht,sizeOf,typeInfo,hi,Builtin.lenOf,hf,storeCells,Builtin.firstCells,loadCells,loadCellsFrom]
   ·rw [hd]
    rw [hv] at hxr
    exact ⟨_,_,qec h hdN hxr,Ext.free c w _,hk0 rfl⟩
  ·obtain ⟨cap',c1,c2,hr⟩:=qh7 (P:=P) (ty:=o.type) (cap:=n) (olds:=vs) (cp:=cp) ht hi hz p4 hl hcc (by omega) h63 (by rw [hb]; exact hby)
   have hown:w.ownsRow 0 e i.size (.slice none 0 0) 0 []:=⟨by simp,.inl ⟨rfl,rfl⟩⟩
   have hsim:Sim c N ⟨del d F,H⟩ a w:=Sim.sub (F:=F) h fun p hp=>(QL (x:=p.2) (k:=p.1) hp).1
   obtain ⟨c',q1,q2⟩:=hsim.grow (t:=d) (u:=d) (pr:=true) (e:=e) (sz:=i.size) (n:=0) (m:=n+m) (cs := []) (ds:=cs++ds) (ns:=vs++ns) (vs := []) (v := .slice none 0 0) (v' := .slice (some ⟨w.heap.size,0,none⟩) (n+m) cap') (w':=w.drew.alloc (.cells (vs.toArray++ns.toArray++Builtin.zeroCells z.cells (cap' - (n+m))) e)) hdN hsz (fun k x hx=>⟨(QL hx).2.1,(QL hx).2.2⟩) .nil hown (fun b hb=>by cases hb) (p1.append r1)
    (by
     intro u hu
     rcases List.mem_append.1 (by simpa using hu) with hu | hu
     ·exact p3 u hu
     ·exact r2 u hu)
    (by
     refine ⟨by simp [p2,hl,Nat.add_mul],.inr ⟨w.heap.size,cap',_,by rw [Nat.zero_add],Nat.zero_le _,heap_alloc_new w.drew _,by omega,c2,?_,?_⟩⟩
     ·simp [size_zeroCells,hzs,p2,hl]
      rw [← Nat.add_mul,← Nat.add_mul]
      congr 1
      omega
     ·simp only [Array.toList_append,List.nil_append,Nat.zero_add]
      have:(n+m)*i.size=(vs++ns).length:=by simp [p2,hl,Nat.add_mul]
      rw [this]
      exact List.take_left)
    ⟨rfl,rfl,rfl,by simp,fun k hk _=>Z5 (w:=w.drew) hk⟩ (.inr rfl) (fun g hg=>by cases hg)
   simp only [Nat.zero_add,List.nil_append] at q1
   unfold vO at q1
   rw [qhE] at q1
   refine Zg (run _ _ (by rw [hv,hA]; exact hr)) ?_
   rw [hd]
   exact ⟨c',⟨vO d (.own true e (n+m) i.size (cs++ds)) F,H⟩,q1,q2,hk1 (by omega)⟩
def ZK (P:Program) (N:Nat) (dst:Option Tmp) (t:TypeId) (x y:Operand) (s:St) (K:St→Prop):Prop:=match eval s x with
 | some (.v (.slb id off n cap))=>off=0∧zJ P N dst t id n cap y s K
 | some (.v (.fs n sz cs))=>zI P N dst t n sz cs y s K
 | _=>jH P N dst t x y s K
theorem qpw {o:Oper} {t:TypeId} {x y:Operand} (ho:o.op = .call { callee := .builtin .append,args := #[x,y],argTypes := #[t,t] }) (h:Sim c N s a w) (hk:ZK P N o.dst t x y s K):Yl P o a w (Post c w N K):=by
 unfold ZK at hk
 split at hk
 ·rename_i id off n cap hx
  obtain ⟨rfl,hk⟩:=hk
  exact qjp ho h (by unfold zZ; rw [hx]) hk
 ·rename_i n sz cs hx
  exact qjo ho h (by unfold zZ; rw [hx]) hk
 ·exact qlo ho h hk
end
end AM
end Go.Proofs.YtnconfggojpkcaaGreat
namespace Go.Proofs.YtnconfggojpkcaaGreat
open Go.RowKit
namespace AM
section
variable {P:Program} {c:Cx} {N:Nat} {s:St} {a:Act} {w:World} {K:St→Prop}
def qi7 (c:Cx):Prop:=∀ b t,c.R b ≠ .own (.slot t)
def Enters (P:Program) (f:FuncId):Prop:=∃ fn,P.funcs[f]? = some fn∧fn.body.isSome=true∧(fn.name == "runtime.NumGoroutine")=false
def AFn (P:Program) (f:FuncId) (xs:List V) (H:List Bk) (Q:V→List Bk→Prop):Prop :=
 Enters P f∧∀ (c:Cx) (w:World) (vs:List Value),Inv c H w→qi7 c→vM c.I c.φ xs vs →
  Calls P f vs.toArray w fun e w'=>∃ v y H' c',e = .returned v∧Rel c'.I c'.φ y v∧Inv c' H' w'∧qi7 c'∧Ext c w c' w'∧Q y H'
def J3:Role→Bool
 | .own (.slot _)=>true
 | _=>false
def Cx.hide (c:Cx):Cx := { c with R:=fun b=>bif J3 (c.R b) then .out else c.R b }
theorem qf6 {b:Nat} (h:J3 (c.R b)=true):c.hide.R b = .out:=by simp [Cx.hide,h]
theorem qat {b:Nat} (h:J3 (c.R b)=false):c.hide.R b=c.R b:=by simp [Cx.hide,h]
theorem qhh (c:Cx):qi7 c.hide:=fun b t h=>by
 cases hs:J3 (c.R b) with
 | true=>rw [qf6 hs] at h; cases h
 | false =>
  rw [qat hs] at h
  rw [h] at hs
  cases hs
theorem ql9 {b:Nat} {r:Root} (h:c.hide.R b = .own r):c.R b = .own r:=by
 cases hs:J3 (c.R b) with
 | true=>rw [qf6 hs] at h; cases h
 | false=>rwa [qat hs] at h
theorem Inv.hide {H:List Bk} (h:Inv c H w):Inv c.hide H w:=by
 refine ⟨h.imm,h.len,fun b hb=>h.lt b fun e=>hb ?_,fun b b' r hb hb'=>h.uniq b b' r (ql9 hb) (ql9 hb'),fun id b k hb hk => ?_⟩
 ·cases hs:J3 (c.R b) with
  | true=>exact qf6 hs
  | false=>rw [qat hs]; exact e
 ·obtain ⟨h1,h2,h3⟩:=h.blk id b k hb hk
  refine ⟨by rw [qat (by rw [h1]; rfl)]; exact h1,h2,?_⟩
  by_cases hck:∃ cs,k = .cells cs
  rotate_left
  ·exact qac.stay (fun cs e=>hck ⟨cs,e⟩) h3 (fun _ _ _ h=>h) (fun _ _ h=>h) (fun _ _ h _=>h)
  obtain ⟨cs,rfl⟩:=hck
  obtain ⟨arr,e,g1,g2,g6,g3⟩:=h3
  refine ⟨arr,e,g1,g2,g6,fun j x v hx hv=>⟨(g3 j x v hx hv).1,?_⟩⟩
  exact QF.mono (c:=c) (c':=c.hide) (w:=w) (w':=w) (fun _ _ _ h=>h) (fun _ _ h=>h) (fun b' q hq hb'=>⟨(by
   rcases hq with rfl | hq
   ·rw [qat (by rw [hb']; rfl)]; exact hb'
   ·rw [Vn (g3 j x v hx hv).1] at hq; cases hq),rfl,fun _=>rfl⟩) (g3 j x v hx hv).2
theorem Sim.back {F:Fr} {H H':List Bk} {c1:Cx} {w1:World} (h:Sim c N ⟨F,H⟩ a w) (h1:Inv c1 H' w1) (hn:qi7 c1) (hx:Ext c.hide w c1 w1) :
  ∃ c',Sim c' N ⟨calm F,H'⟩ a w1∧Ext c w c' w1∧c'.I=c1.I∧c'.φ=c1.φ:=by
 let c':Cx := { c1 with R:=fun b=>bif J3 (c.R b) then c.R b else c1.R b }
 have rs:∀ b,J3 (c.R b)=true→c'.R b=c.R b:=fun b hb=>by simp [c',hb]
 have rn:∀ b,J3 (c.R b)=false→c'.R b=c1.R b:=fun b hb=>by simp [c',hb]
 have out1:∀ b,J3 (c.R b)=true→b<w.heap.size∧w1.heap[b]? = w.heap[b]? ∧ c1.R b = .out∧∀ o,c1.I b o=c.I b o:=fun b hb=>by
  have hlt:=h.inv.lt b (fun e=>by rw [e] at hb; cases hb)
  obtain ⟨k1,k2,k3⟩:=hx.out b hlt (qf6 hb)
  exact ⟨hlt,k1,k2,k3⟩
 have cell1:∀ b r,c1.R b = .own r→c'.R b = .own r:=fun b r hb=>by
  cases hs:J3 (c.R b) with
  | true=>rw [(out1 b hs).2.2.1] at hb; cases hb
  | false=>rw [rn b hs]; exact hb
 refine ⟨c',⟨⟨h1.imm,h1.len,fun b hb => ?_,fun b b' r hb hb' => ?_,fun id b k hb hk => ?_⟩,h.size,h.defers,fun t x hx' => ?_⟩,?_,rfl,rfl⟩
 ·cases hs:J3 (c.R b) with
  | true=>exact Nat.lt_of_lt_of_le (out1 b hs).1 hx.size
  | false=>rw [rn b hs] at hb; exact h1.lt b hb
 ·cases hs:J3 (c.R b) with
  | true =>
   rw [rs b hs] at hb
   cases hs':J3 (c.R b') with
   | true=>rw [rs b' hs'] at hb'; exact h.inv.uniq b b' r hb hb'
   | false =>
    rw [rn b' hs'] at hb'
    rw [hb] at hs
    cases r with
    | slot t=>exact absurd hb' (hn b' t)
    | cell=>cases hs
  | false =>
   rw [rn b hs] at hb
   cases hs':J3 (c.R b') with
   | true =>
    rw [rs b' hs'] at hb'
    rw [hb'] at hs'
    cases r with
    | slot t=>exact absurd hb (hn b t)
    | cell=>cases hs'
   | false=>rw [rn b' hs'] at hb'; exact h1.uniq b b' r hb hb'
 ·obtain ⟨k1,k2,k3⟩:=h1.blk id b k hb hk
  have hs:J3 (c.R b)=false:=by
   cases hs:J3 (c.R b) with
   | true=>rw [(out1 b hs).2.2.1] at k1; cases k1
   | false=>rfl
  refine ⟨by rw [rn b hs]; exact k1,k2,?_⟩
  by_cases hck:∃ cs,k = .cells cs
  rotate_left
  ·exact qac.stay (fun cs e=>hck ⟨cs,e⟩) k3 (fun _ _ _ h=>h) (fun _ _ h=>h) (fun _ _ h _=>h)
  obtain ⟨cs,rfl⟩:=hck
  obtain ⟨arr,e,g1,g2,g6,g3⟩:=k3
  refine ⟨arr,e,g1,g2,g6,fun j x v hx hv=>⟨(g3 j x v hx hv).1,?_⟩⟩
  exact QF.mono (c:=c1) (c':=c') (w:=w1) (w':=w1) (fun _ _ _ h=>h) (fun _ _ h=>h) (fun b' q hq hb'=>⟨cell1 b' q hb',rfl,fun _=>rfl⟩) (g3 j x v hx hv).2
 ·obtain ⟨hxF,hcalm⟩:=qaY hx'
  obtain ⟨v,hv,hr⟩:=h.fr t x hxF
  refine ⟨v,hv,QF.mono (c:=c) (c':=c') (w:=w) (w':=w1) hx.imm hx.phi (fun b q hq hb => ?_) hr⟩
  have hs:J3 (c.R b)=true:=by
   rw [hb]
   rcases hq with rfl | hq
   ·rfl
   ·cases q with
    | slot=>rfl
    | cell id j =>
     cases x with
     | pth r' o =>
      have:r' = .cell id j:=by simpa [SV.refers] using hq
      subst this
      cases hcalm
     | lnk r' o =>
      have:r' = .cell id j:=by simpa [SV.refers] using hq
      subst this
      cases hcalm
     | _=>cases hq
  obtain ⟨_,o1,_,o3⟩:=out1 b hs
  exact ⟨by rw [rs b hs]; exact hb,o1,o3⟩
 ·refine ⟨hx.os,hx.tape,hx.output,hx.size,fun b hb hr => ?_,hx.imm,hx.phi⟩
  have hs:J3 (c.R b)=false:=by rw [hr]; rfl
  obtain ⟨k1,k2,k3⟩:=hx.out b hb (by rw [qat hs]; exact hr)
  exact ⟨k1,by rw [rn b hs]; exact k2,k3⟩
theorem Ext.hide (c:Cx) (w:World):Ext c w c.hide w :=
 ⟨rfl,rfl,rfl,Nat.le_refl _,fun b hb h=>⟨rfl,by rw [qat (by rw [h]; rfl)]; exact h,fun _=>rfl⟩,fun _ _ _ h=>h,fun _ _ h=>h⟩
def jI (F:Fr):List Operand→Fr
 | []=>F
 | .tmp t::xs=>match qm t F with
  | some (.own true e n sz cs)=>jI (yR t (.own false e n sz cs) F) xs
  | _=>jI F xs
 | _::xs=>jI F xs
def Qi (s:St) (x:Operand):Option V:=match eval s x with
 | some (.v y)=>some y
 | some (.own false _ n sz cs)=>some (.sl n sz cs)
 | _=>none
def y8 (s:St):List Operand→Option (List V)
 | []=>some []
 | x::xs=>match Qi s x,y8 s xs with
  | some v,some l=>some (v::l)
  | _,_=>none
theorem Sim.jI {H:List Bk}:∀ {xs:List Operand} {F:Fr} {c:Cx},Sim c N ⟨F,H⟩ a w→∃ c',Sim c' N ⟨jI F xs,H⟩ a w∧Ext c w c' w
 | [],F,c,h=>⟨c,h,Ext.refl c w⟩
 | x::xs,F,c,h=>by
  cases x with
  | tmp t =>
   simp only [AM.jI]
   split
   ·rename_i e n sz cs hg
    obtain ⟨c',u,_,_,h1,h2⟩:=h.share hg
    obtain ⟨c2,k1,k2⟩:=Sim.jI (xs:=xs) h1
    exact ⟨c2,k1,h2.trans k2⟩
   ·exact Sim.jI (xs:=xs) h
  | _=>exact Sim.jI (xs:=xs) h
theorem qkd {x:Operand} {y:V} (h:Sim c N s a w) (hx:Qi s x=some y):Rel c.I c.φ y (a.eval x):=by
 unfold Qi at hx
 split at hx
 ·rename_i z he
  cases hx
  exact JJ h he (fun _ _ _ _ _ e=>by cases e) (.slot 0)
 ·rename_i e n sz cs he
  cases hx
  rcases VA h he (.slot 0) with ⟨t,_,_,_,hr⟩ | ⟨z,e',_⟩
  ·obtain ⟨h0,vs,h1,h2,h3,h4⟩:=hr
   generalize a.eval x=v at h2 h4
   rcases h2.2 with ⟨rfl,rfl⟩ | ⟨g,cap,cur,rfl,_,g1,g2,g3,g4,g5⟩
   ·obtain ⟨rfl,rfl⟩:=KU h1 h2
    exact .sl0
   ·obtain ⟨_,k2⟩:=h4 g rfl
    exact .sl h1 (fun j u hu=>by rw [Nat.zero_add,k2]; simpa using hu) (by rw [h1.len,h2.1]) g2 g3 h3
  ·cases e'
 ·cases hx
theorem qgk (h:Sim c N s a w):∀ {xs:List Operand} {l:List V},y8 s xs=some l→vM c.I c.φ l (xs.map a.eval)
 | [],l,hl=>by cases hl; exact .nil
 | x::xs,l,hl=>by
  unfold y8 at hl
  cases hx:Qi s x with
  | none=>rw [hx] at hl; cases hl
  | some v =>
   cases hp:y8 s xs with
   | none=>rw [hx,hp] at hl; cases hl
   | some l' =>
    rw [hx,hp] at hl
    cases hl
    exact .cons (qkd h hx) (qgk h hp)
end
mutual
def V.closed:V→Bool
 | .sc _=>true
 | .agg cs=>V.qA cs
 | .tup cs=>V.qA cs
 | .nil=>true
 | .sl _ _ cs=>V.qA cs
 | .rd cs=>V.qA cs
 | .ptr .. => false
 | .map _=>false
 | .fn _ first cap=>V.qA first&&V.qA cap
 | .iface _ x=>x.closed
 | .fs _ _ cs=>V.qA cs
 | .slb .. => false
def V.qA:List V→Bool
 | []=>true
 | x::xs=>x.closed&&V.qA xs
end
section
variable {I:Nat→Nat→Option Value} {φ φ':List Nat}
mutual
theorem Rel.closed:∀ {x:V} {v:Value},Rel I φ x v→x.closed=true→Rel I φ' x v
 | _,_,.sc v,_ => .sc v
 | _,_,.agg h,hc => .agg (vM.closed h hc)
 | _,_,.tup h,hc => .tup (vM.closed h hc)
 | _,_,.nil,_ => .nil
 | _,_,.sl h h1 h2 h3 h4 h5,hc => .sl (vM.closed h hc) h1 h2 h3 h4 h5
 | _,_,.sl0,_ => .sl0
 | _,_,.rd h h1 h5,hc => .rd (vM.closed h hc) h1 h5
 | _,_,.ptr h,hc=>by cases hc
 | _,_,.map h,hc=>by cases hc
 | _,_,.fn h h1,hc=>by
  simp only [V.closed,Bool.and_eq_true] at hc
  exact .fn (vM.closed h hc.1) (vM.closed h1 hc.2)
 | _,_,.iface h,hc => .iface (Rel.closed h hc)
 | _,_,.fs h h1 h2 h3 h4,hc => .fs (vM.closed h hc) h1 h2 h3 h4
 | _,_,.fs0,_ => .fs0
 | _,_,.slb ..,hc=>by cases hc
 | _,_,.slb0 ..,hc=>by cases hc
theorem vM.closed:∀ {x:List V} {v:List Value},vM I φ x v→V.qA x=true→vM I φ' x v
 | _,_,.nil,_ => .nil
 | _,_,.cons h h1,hc=>by
  simp only [V.qA,Bool.and_eq_true] at hc
  exact .cons (Rel.closed h hc.1) (vM.closed h1 hc.2)
end
end
def PFn (P:Program) (f:FuncId) (xs:List V) (r:V):Prop:=AFn P f xs [] fun y _=>y=r
section
variable {P:Program} {c:Cx} {N:Nat} {s:St} {a:Act} {w:World} {K:St→Prop}
def pureK (P:Program) (N:Nat) (dst:Option Tmp) (f:FuncId) (xs:List V) (F:Fr) (H:List Bk) (K:St→Prop):Prop:=∃ r,PFn P f xs r∧V.qA xs=true∧r.closed=true∧jR N dst (.v r) ⟨F,H⟩ K
theorem Sim.past {c3 c0:Cx} {H':List Bk} {w':World} (h:Sim c N s a w) (hI:c0.I=c.I) (h0:∀ b,c0.R b = .out) (k2:Inv c3 H' w') (k4:Ext c0 w c3 w'):Sim ⟨c3.I,c.φ,c.R⟩ N s a w'∧Ext c w ⟨c3.I,c.φ,c.R⟩ w':=by
 have ko:∀ b,b<w.heap.size→w'.heap[b]? = w.heap[b]? ∧ ∀ o,c3.I b o=c.I b o:=fun b hb=>by
  obtain ⟨q1,_,q3⟩:=k4.out b hb (h0 b)
  exact ⟨q1,fun o=>by rw [q3,hI]⟩
 have himm:∀ b o v,c.I b o=some v→c3.I b o=some v:=fun b o v hv=>k4.imm b o v (by rw [hI]; exact hv)
 let c4:Cx:=⟨c3.I,c.φ,c.R⟩
 refine ⟨⟨⟨k2.imm,h.inv.len,fun b hb=>Nat.lt_of_lt_of_le (h.inv.lt b hb) k4.size,h.inv.uniq,fun id b k hb hk => ?_⟩,h.size,h.defers,fun t x hx => ?_⟩,k4.os,k4.tape,k4.output,k4.size,fun b hb hr=>⟨(ko b hb).1,hr,(ko b hb).2⟩,himm,fun _ _ h=>h⟩
 ·obtain ⟨h1,h2,h3⟩:=h.inv.blk id b k hb hk
  have hlt:=h.inv.lt b (by rw [h1]; simp)
  refine ⟨h1,fun o=>((ko b hlt).2 o).trans (h2 o),?_⟩
  by_cases hck:∃ cs,k = .cells cs
  ·obtain ⟨cs,rfl⟩:=hck
   obtain ⟨arr,e,g1,g2,g6,g3⟩:=h3
   refine ⟨arr,e,(ko b hlt).1.trans g1,g2,g6,fun j x u hx hu=>⟨(g3 j x u hx hu).1,?_⟩⟩
   exact QF.mono (c:=c) (c':=c4) (w:=w) (w':=w') himm (fun _ _ h=>h) (fun b' q _ hq=>by
    have:=h.inv.lt b' (by rw [hq]; simp)
    exact ⟨hq,(ko b' this).1,(ko b' this).2⟩) (g3 j x u hx hu).2
  ·exact qac.stay (fun cs e=>hck ⟨cs,e⟩) h3 himm (fun _ _ h=>h) (fun b' o ho _=>(ko b' (XI ho)).1.trans ho)
 ·obtain ⟨u,hu,hr⟩:=h.fr t x hx
  refine ⟨u,hu,QF.mono (c:=c) (c':=c4) (w:=w) (w':=w') himm (fun _ _ h=>h) (fun b' q _ hq => ?_) hr⟩
  have:=h.inv.lt b' (by rw [hq]; simp)
  exact ⟨hq,(ko b' this).1,(ko b' this).2⟩
def callB (P:Program) (N:Nat) (dst:Option Tmp) (f:FuncId) (xs:List V) (F:Fr) (H:List Bk) (K:St→Prop):Prop:=(∃ Q,AFn P f xs H Q∧∀ y H',Q y H'→jR N dst (.v y) ⟨calm F,H'⟩ K)∨pureK P N dst f xs F H K
theorem qdz {f:FuncId} {us:Array Value} {w:World} (h:Enters P f):(callFunc f us).run P w = .ok (.enter f us) w:=by
 obtain ⟨fn,e1,e2,e3⟩:=h
 have e4:fn.body.isNone=false:=by cases hb:fn.body <;> simp_all
 simp only [callFunc,Sem.run_bind,run_program,Result.andThen_ok,e1,e3,Bool.false_eq_true,if_false,e4,Sem.run_pure]
theorem qiU {o:Oper} {k:FuncId} {xs:List V} {us:Array Value} {F1:Fr} {H1:List Bk} {c1:Cx} (hargs:vM c1.I c1.φ xs us.toList)
  (hrun:Enters P k→(execOp a.eval o).run P w = .ok (.enter k us) w) (h1:Sim c1 N ⟨F1,H1⟩ a w) (x1:Ext c w c1 w) (hk:callB P N o.dst k xs F1 H1 K):Yl P o a w (Post c w N K):=by
 rcases hk with ⟨Q,⟨hen,hc⟩,hk⟩ | ⟨r,⟨hen,hc⟩,cx,cr,hk⟩
 ·have hcall:=hc c1.hide w _ h1.inv.hide (qhh c1) hargs
  unfold Yl Oper.wp
  rw [hrun hen,Oper.upon_enter]
  refine hcall.mono fun e w' he => ?_
  obtain ⟨v,y,H',c2,rfl,q1,q2,q3,q4,q5⟩:=he
  obtain ⟨c3,s3,x3,i3,p3⟩:=h1.back q2 q3 q4
  have:=vg (v:=v) s3 (hk y H' q5) fun d _=>(show Rel c3.I c3.φ y v by rw [i3,p3]; exact q1)
  exact Post.step (x1.trans x3) this
 ·let cc:Cx:=⟨c1.I,[],fun _ => .out⟩
  have hi0:Inv cc [] w:=⟨h1.inv.imm,rfl,fun b hb=>absurd rfl hb,fun b b' r hb=>(by cases hb),fun id b k hb=>(by simp [cc] at hb)⟩
  have hcall:=hc cc w _ hi0 (fun b t e=>by cases e) (vM.closed hargs cx)
  unfold Yl Oper.wp
  rw [hrun hen,Oper.upon_enter]
  refine hcall.mono fun e w' he => ?_
  obtain ⟨v,y,H',c2,rfl,q1,q2,q3,q4,rfl⟩:=he
  obtain ⟨s3,x3⟩:=h1.past (c0:=cc) rfl (fun _=>rfl) q2 q4
  have:=vg (v:=v) s3 hk fun d _=>(show Rel c2.I c1.φ y v from Rel.closed q1 cr)
  exact Post.step (x1.trans x3) this
def qoE (P:Program) (N:Nat) (dst:Option Tmp) (f:Operand) (args:List Operand) (s:St) (K:St→Prop):Prop:=match zZ s f,y8 ⟨jI s.F args,s.H⟩ args with
 | some (.fn (.func k) first cap),some vs=>callB P N dst k (first++vs++cap) (jI s.F args) s.H K
 | _,_=>False
theorem qnU {o:Oper} {f:Operand} {args:Array Operand} {ts:Array TypeId} (ho:o.op = .call { callee := .value f,args:=args,argTypes:=ts }) (h:Sim c N s a w) (hk:qoE P N o.dst f args.toList s K):Yl P o a w (Post c w N K):=by
 unfold qoE at hk
 split at hk
 ·rename_i k first cap vs hf hv
  have hfr:=vD h hf
  generalize hfv:a.eval f=fv at hfr
  cases hfr with
  | fn r1 r2 =>
   rename_i first' cap'
   obtain ⟨c1,h1,x1⟩:=Sim.jI (F:=s.F) (H:=s.H) (xs:=args.toList) h
   have hvs:=qgk h1 hv
   have hargs:vM c1.I c1.φ (first++vs++cap) (first'.toList++args.toList.map a.eval++cap'.toList) :=
    ((vM.mono x1.imm x1.phi r1).append hvs).append (vM.mono x1.imm x1.phi r2)
   refine qiU (us:=(first'.toList++args.toList.map a.eval++cap'.toList).toArray) hargs (fun hen => ?_) h1 x1 hk
   rw [← qdz hen]
   unfold execOp
   simp only [ho,resolve,hfv,Deferred.ofValue,Sem.run_bind,Sem.run_pure,Result.andThen_ok,invoke]
   congr 2
   apply Array.toList_inj.1
   simp
 ·exact hk.elim
def XW (P:Program) (t:TypeId) (name:String) (f:FuncId):Prop:=∀ (p:Addr) (w:World),(method (P.types.size+Made.depth) t (.pointer (some p)) name).run P w = .ok (f,.pointer (some p)) w
open Classical in
noncomputable def methodOf (P:Program) (t:TypeId) (name:String):FuncId:=if h:∃ f,XW P t name f then Classical.choose h else 0
theorem XW.eq {t:TypeId} {name:String} {f:FuncId} (h:XW P t name f):methodOf P t name=f:=by
 have hx:∃ f,XW P t name f:=⟨f,h⟩
 unfold methodOf
 rw [dif_pos hx]
 have h1:=Classical.choose_spec hx
 have h2:=(h1 ⟨0,0,none⟩ (default:World)).symm.trans (h ⟨0,0,none⟩ default)
 simp only [Result.ok.injEq,Prod.mk.injEq,and_true] at h2
 exact h2
def qhG (P:Program) (N:Nat) (dst:Option Tmp) (x:Operand) (name:String) (args:List Operand) (s:St) (K:St→Prop):Prop:=match zZ s x,y8 ⟨jI s.F args,s.H⟩ args with
 | some (.iface t (.ptr id off)),some vs=>XW P t name (methodOf P t name)∧callB P N dst (methodOf P t name) (.ptr id off::vs) (jI s.F args) s.H K
 | _,_=>False
theorem qlh {o:Oper} {x:Operand} {name:String} {args:Array Operand} {ts:Array TypeId} (ho:o.op = .call { callee := .invoke x name,args:=args,argTypes:=ts }) (h:Sim c N s a w) (hk:qhG P N o.dst x name args.toList s K):Yl P o a w (Post c w N K):=by
 unfold qhG at hk
 split at hk
 ·rename_i t id off vs hf hv
  obtain ⟨hm,hk⟩:=hk
  have hfr:=vD h hf
  generalize hfv:a.eval x=fv at hfr
  cases hfr with
  | iface r =>
   cases r with
   | @ptr _ _ b hb =>
    obtain ⟨c1,h1,x1⟩:=Sim.jI (F:=s.F) (H:=s.H) (xs:=args.toList) h
    have hvs:=qgk h1 hv
    refine qiU (us:=(_::args.toList.map a.eval).toArray) (vM.cons (Rel.mono x1.imm x1.phi (Rel.ptr hb)) hvs) (fun hen => ?_) h1 x1 hk
    rw [← qdz hen]
    unfold execOp
    simp only [ho,resolve,hfv,Sem.run_bind,Sem.run_pure,Result.andThen_ok,invoke,callMethod,run_program]
    have e0:(#[Value.iface t (.pointer (some ⟨b,off,none⟩))]++args.map a.eval)[0]? = some (Value.iface t (.pointer (some ⟨b,off,none⟩))):=by
     rw [Array.getElem?_append_left (by exact Nat.zero_lt_one)]
     rfl
    simp only [e0,Sem.run_bind,run_program,Result.andThen_ok,hm _ w]
    congr 2
    apply Array.toList_inj.1
    simp
    rw [List.take_of_length_le (by simp)]
 ·exact hk.elim
end
end AM
end Go.Proofs.YtnconfggojpkcaaGreat
namespace Go.Proofs.YtnconfggojpkcaaGreat
open Go.RowKit
namespace AM
theorem qjC {t:Nat} {x y:SV}:∀ {F:Fr},qm t F=some x→(t,y)∈yR t y F
 | [],h=>by cases h
 | (j,z)::F,h=>by
  unfold qm at h
  unfold yR
  cases hj:j==t with
  | true =>
   have:j=t:=by simpa using hj
   subst this
   simp
  | false =>
   rw [hj] at h
   simp only [cond_false] at h ⊢
   exact List.mem_cons_of_mem _ (qjC h)
theorem qfi {t k:Nat} {x y:SV}:∀ {F:Fr},(k,x)∈F→k≠t→(k,x)∈yR t y F
 | [],h,_=>by cases h
 | (j,z)::F,h,hne=>by
  unfold yR
  cases hj:j==t with
  | true =>
   have:j=t:=by simpa using hj
   subst this
   simp only [cond_true]
   rcases List.mem_cons.1 h with e | h
   ·cases e
    exact absurd rfl hne
   ·first | exact List.mem_cons_of_mem _ h | exact List.mem_cons_of_mem _ (qfi h hne)
  | false =>
   simp only [cond_false]
   rcases List.mem_cons.1 h with e | h
   ·cases e; simp
   ·exact List.mem_cons_of_mem _ (qfi h hne)
theorem Sim.qhy {c:Cx} {N:Nat} {a:Act} {w:World} {F:Fr} {H:List Bk} {t:Nat} {pr:Bool} {e n sz:Nat} {cs:List V} (h:Sim c N ⟨F,H⟩ a w) (ht:qm t F=some (.own pr e n sz cs)):∃ c',Sim c' N ⟨yR t (.v (.sl n sz cs)) F,H⟩ a w∧Ext c w c' w:=by
 obtain ⟨c',u,_,_,h1,h2⟩:=h.share ht
 refine ⟨c',⟨h1.inv,h1.size,h1.defers,fun k x hx => ?_⟩,h2⟩
 rcases KD hx with ⟨rfl,rfl⟩ | ⟨hne,hx⟩
 ·have hm:(k,SV.own false e n sz cs)∈yR k (.own false e n sz cs) F:=qjC ht
  obtain ⟨v,hv,hr⟩:=h1.fr k _ hm
  refine ⟨v,hv,?_⟩
  obtain ⟨h0,vs,r1,r2,r3,r4⟩:=hr
  rcases r2.2 with ⟨rfl,rfl⟩ | ⟨g,cap,cur,rfl,_,g1,g2,g3,g4,g5⟩
  ·obtain ⟨rfl,rfl⟩:=KU r1 r2
   exact Rel.sl0
  ·obtain ⟨_,k2⟩:=r4 g rfl
   exact Rel.sl r1 (fun j u hu=>by rw [Nat.zero_add,k2]; simpa using hu) (by rw [r1.len,r2.1]) g2 g3 r3
 ·exact h1.fr k x (qfi hx hne)
def slF (F:Fr):List Operand→Fr
 | []=>F
 | .tmp t::xs=>match qm t F with
  | some (.own pr e n sz cs)=>slF (yR t (.v (.sl n sz cs)) F) xs
  | _=>slF F xs
 | _::xs=>slF F xs
theorem Sim.slF {H:List Bk} {N:Nat} {a:Act} {w:World}:∀ {xs:List Operand} {F:Fr} {c:Cx},Sim c N ⟨F,H⟩ a w→∃ c',Sim c' N ⟨slF F xs,H⟩ a w∧Ext c w c' w
 | [],F,c,h=>⟨c,h,Ext.refl c w⟩
 | x::xs,F,c,h=>by
  cases x with
  | tmp t =>
   simp only [AM.slF]
   split
   ·rename_i ht
    obtain ⟨c1,h1,x1⟩:=h.qhy ht
    obtain ⟨c2,k1,k2⟩:=Sim.slF (xs:=xs) h1
    exact ⟨c2,k1,x1.trans k2⟩
   ·exact Sim.slF (xs:=xs) h
  | _=>exact Sim.slF (xs:=xs) h
def qmG (P:Program) (N:Nat) (o:Oper) (s:St) (K:St→Prop):Prop:=match qgN P s o with
 | some v=>jR N o.dst (.v (.ofValue v)) s K
 | none=>False
def jG (P:Program) (N:Nat) (o:Oper) (cl:Call) (s:St) (K:St→Prop):Prop:=match cl.callee with
 | .value f=>qoE P N o.dst f cl.args.toList s K
 | .invoke x name=>qhG P N o.dst x name cl.args.toList s K
 | .builtin .append=>match cl.args.toList,cl.argTypes.toList with
  | [x,y],[t,t']=>t=t'∧ZK P N o.dst t x y s K
  | _,_=>False
 | .builtin .len=>match cl.args.toList,cl.argTypes.toList with
  | [x],[t]=>match eval s x with
   | some (.v (.sc (.map _)))=>jB P N o.dst t x s K
   | some (.v (.map _))=>jB P N o.dst t x s K
   | some (.v (.sc _))=>qmG P N o s K
   | _=>ZJ P N o.dst t x s K
  | _,_=>False
 | .builtin .delete=>match cl.args.toList,cl.argTypes.toList with
  | [x,y],t::_=>jF P N o.dst t x y s K
  | _,_=>False
 | .builtin .min=>match cl.args.toList with
  | [x,y]=>aMM P N o.dst .min x y s K
  | _=>False
 | .builtin .max=>match cl.args.toList with
  | [x,y]=>aMM P N o.dst .max x y s K
  | _=>False
 | _=>qmG P N o s K
def zG (P:Program) (N:Nat) (o:Oper) (t:TypeId) (x:Operand) (lo hi mx:Option Operand) (s:St) (K:St→Prop):Prop:=match eval s x with
 | some (.v (.sl ..))=>vU P N o.dst t x lo hi mx s K
 | some (.v (.fs ..))=>vU P N o.dst t x lo hi mx s K
 | some (.own ..)=>jE P N o.dst t x lo hi mx s K
 | _=>qmG P N o s K
def zH (P:Program) (N:Nat) (o:Oper) (t:TypeId) (x ix:Operand) (s:St) (K:St→Prop):Prop:=match zZ s x with
 | some (.agg _)=>yu P N o.dst t x ix s K
 | _=>qmG P N o s K
def aop (P:Program) (N:Nat) (ops:List Oper) (o:Oper) (s:St) (K:St→Prop):Prop:=match o.op with
 | .move x=>Qm N ops o.dst x s K
 | .assign x=>jC N o.dst x s K
 | .pick x y z=>Ql N o.dst x y z s K
 | .alloc t=>yc P N o.dst t s K
 | .box _ x=>ZE N o.dst x s K
 | .build t ps=>vZ P N o.dst t ps.toList ⟨slF s.F (ps.toList.map (·.2)),s.H⟩ K
 | .buildSlice t n ps=>qG P N o.dst t n ps.toList s K
 | .load t x=>Qo P N ops o.dst t x s K
 | .store t x y=>yt P o.dst t x y s K
 | .nilCheck x=>qY N o.dst x s K
 | .binOp op t x y _=>ZF P N o.dst op t x y s K
 | .makeFunc f l k=>qZ N o.dst f l.toList k.toList s K
 | .fieldAddr t x f=>qM P N o.dst t x f s K
 | .field t x f=>vX P N o.dst t x f s K
 | .indexAddr t x i=>qL P N o.dst t x i s K
 | .extract x i=>zD N o.dst x i s K
 | .slice t x lo hi mx=>zG P N o t x lo hi mx s K
 | .call cl=>jG P N o cl s K
 | .unOp op _ x=>aUn P N o.dst op x s K
 | .convert t u x=>Qp P N o.dst t u x s K
 | .makeInterface t x=>vW P N o.dst t x s K
 | .typeAssert x _ t ok=>jD P N o.dst x t ok s K
 | .makeMap _ r=>zC N o.dst r s K
 | .lookup t x y ok=>jA P N o.dst t x y ok s K
 | .mapUpdate t x y z=>qJ P o.dst t x y z s K
 | .insert t x y z=>qJ P o.dst t x y z s K
 | .range t x=>vV P N o.dst t x s K
 | .next x isS=>Qu N o.dst x isS s K
 | .entry x=>vY N o.dst x s K
 | .makeSlice t x y=>qK P N o.dst t x y s K
 | .index t x i=>zH P N o t x i s K
 | _=>qmG P N o s K
section
variable {P:Program} {c:Cx} {N:Nat} {s:St} {a:Act} {w:World} {K:St→Prop}
theorem qa8 {o:Oper} (h:Sim c N s a w) (hk:qmG P N o s K):Reads P o a w (Post c w N K)∧genB o.op=true:=by
 unfold qmG at hk
 cases hv:qgN P s o with
 | none=>rw [hv] at hk; exact hk.elim
 | some v =>
  rw [hv] at hk
  refine ⟨qnT h hv hk,?_⟩
  unfold qgN at hv
  cases hg:genB o.op with
  | true=>rfl
  | false=>rw [hg] at hv; cases hv
def Does (P:Program) (o:Oper) (a:Act) (w:World) (Q:Act→World→Prop):Prop:=if Mix.vT o=true then Yl P o a w Q else Reads P o a w Q
theorem Does.reads {o:Oper} {Q:Act→World→Prop} (h:Reads P o a w Q):Does P o a w Q:=by
 unfold Does
 split
 ·exact h.acts
 ·exact h
theorem Does.qb8 {o:Oper} {Q:Act→World→Prop} (he:Mix.vT o=true) (h:Yl P o a w Q):Does P o a w Q:=by
 unfold Does
 rw [if_pos he]
 exact h
theorem Does.acts {o:Oper} {Q:Act→World→Prop} (h:Does P o a w Q):Yl P o a w Q:=by
 unfold Does at h
 split at h
 ·exact h
 ·exact h.acts
theorem qgb {ops:List Oper} {o:Oper} (h:Sim c N s a w) (hk:aop P N ops o s K):Does P o a w (Post c w N K):=by
 unfold aop at hk
 split at hk
 ·rename_i x ho
  exact .reads ⟨a.eval x,fun w' _=>by unfold execOp; simp only [ho,Sem.run_pure],qnR h hk⟩
 ·rename_i x ho
  exact .reads ⟨a.eval x,fun w' _=>by unfold execOp; simp only [ho,Sem.run_pure],qln h hk⟩
 ·rename_i x y z ho
  exact .reads (qmE ho h hk)
 ·rename_i t ho
  exact .qb8 (by simp [Mix.vT,ho]) (qmJ ho h hk)
 ·rename_i t x ho
  exact .qb8 (by simp [Mix.vT,ho]) (qpv ho h hk)
 ·rename_i t ps ho
  obtain ⟨c',h',x'⟩:=Sim.slF (F:=s.F) (H:=s.H) (xs:=ps.toList.map (·.2)) h
  obtain ⟨v,q1,q2⟩:=qlm ho h' hk
  exact .reads ⟨v,q1,Post.step x' q2⟩
 ·rename_i t n ps ho
  exact .qb8 (by simp [Mix.vT,ho]) (qgZ ho h hk)
 ·rename_i t x ho
  exact .reads (qmF ho h hk)
 ·rename_i t x y ho
  exact .qb8 (by simp [Mix.vT,ho]) (qmC ho h hk)
 ·rename_i x ho
  exact .reads (qhz ho h hk)
 ·rename_i op t x y t' ho
  exact .reads (qnV ho h hk)
 ·rename_i f l k ho
  exact .reads (qhB ho h hk)
 ·rename_i t x f ho
  exact .reads (qgY ho h hk)
 ·rename_i t x f ho
  exact .reads (qlk ho h hk)
 ·rename_i t x i ho
  exact .reads (qgX ho h hk)
 ·rename_i x i ho
  exact .reads (qi4 ho h hk)
 ·rename_i t x lo hi mx ho
  unfold zG at hk
  split at hk
  ·exact .reads (qgf ho h hk)
  ·exact .reads (qgf ho h hk)
  ·exact .reads (qjk ho h hk)
  ·exact .reads (qa8 h hk).1
 ·rename_i cl ho
  obtain ⟨callee,args,ts⟩:=cl
  unfold jG at hk
  simp only at hk
  split at hk
  ·rename_i f
   exact .qb8 (by simp [Mix.vT,ho]) (qnU ho h hk)
  ·rename_i x name
   exact .qb8 (by simp [Mix.vT,ho]) (qlh ho h hk)
  ·split at hk
   ·rename_i x y t t' e1 e2
    obtain ⟨rfl,hk⟩:=hk
    have e1:args = #[x,y]:=Array.toList_inj.1 e1
    have e2:ts = #[t,t]:=Array.toList_inj.1 e2
    subst e1 e2
    exact .qb8 (by simp [Mix.vT,ho]) (qpw ho h hk)
   ·exact hk.elim
  ·split at hk
   ·rename_i x t e1 e2
    have e1:args = #[x]:=Array.toList_inj.1 e1
    have e2:ts = #[t]:=Array.toList_inj.1 e2
    subst e1 e2
    split at hk
    ·exact .reads (qe8 ho h hk)
    ·exact .reads (qe8 ho h hk)
    ·exact .reads (qa8 h hk).1
    ·exact .reads (qnS ho h hk)
   ·exact hk.elim
  ·split at hk
   ·rename_i x y t r e1 e2
    have e1:args = #[x,y]:=Array.toList_inj.1 e1
    subst e1
    exact .qb8 (by simp [Mix.vT,ho]) (qll ho (by rw [← Array.getElem?_toList,e2]; rfl) h hk)
   ·exact hk.elim
  ·split at hk
   ·rename_i x y e1
    have e1:args = #[x,y]:=Array.toList_inj.1 e1
    subst e1
    exact .reads (qkq ho h hk)
   ·exact hk.elim
  ·split at hk
   ·rename_i x y e1
    have e1:args = #[x,y]:=Array.toList_inj.1 e1
    subst e1
    exact .reads (qkq ho h hk)
   ·exact hk.elim
  ·exact .reads (qa8 h hk).1
 ·rename_i op t x ho
  exact .reads (qpu ho h hk)
 ·rename_i t u x ho
  exact .reads (qmI ho h hk)
 ·rename_i t x ho
  exact .reads (qlj ho h hk)
 ·rename_i x t' t ok ho
  exact .reads (qjn ho h hk)
 ·rename_i t r ho
  exact .qb8 (by simp [Mix.vT,ho]) (qjl ho h hk)
 ·rename_i t x y ok ho
  exact .reads (qjm ho h hk)
 ·rename_i t x y z ho
  exact .qb8 (by simp [Mix.vT,ho]) (qdJ (.inl ho) h hk)
 ·rename_i t x y z ho
  exact .qb8 (by simp [Mix.vT,ho]) (qdJ (.inr ho) h hk)
 ·rename_i t x ho
  exact .qb8 (by simp [Mix.vT,ho]) (qmD ho h hk)
 ·rename_i x isS ho
  exact .qb8 (by simp [Mix.vT,ho]) (qnQ ho h hk)
 ·rename_i x ho
  exact .qb8 (by simp [Mix.vT,ho]) (qmH ho h hk)
 ·rename_i t x y ho
  exact .qb8 (by simp [Mix.vT,ho]) (qhA ho h hk)
 ·rename_i t x i ho
  unfold zH at hk
  split at hk
  ·exact .reads (qli ho h hk)
  ·exact .reads (qa8 h hk).1
 ·exact .reads (qa8 h hk).1
def YB (P:Program) (N:Nat) (ops:List Oper):List Oper→(St→Prop)→St→Prop
 | [],K,s=>K s
 | o::rest,K,s=>match o.guard with
  | none=>aop P N ops o s (YB P N ops rest K)
  | some (j,want)=>match (ops[j]?).bind (·.dst) with
   | some t=>match qm t s.F with
    | some (.v (.sc (.bool b)))=>(b=want→aop P N ops o ⟨yR t (.v (.sc (.bool want))) s.F,s.H⟩ (YB P N ops rest K))∧(b = !want→jR N o.dst (.v (.tup [])) ⟨yR t (.v (.sc (.bool (!want)))) s.F,s.H⟩ (YB P N ops rest K))
    | some (.v (.tup []))=>jR N o.dst (.v (.tup [])) s (YB P N ops rest K)
    | _=>False
   | none=>False
def qaB:Value→Option Bool
 | .bool b=>some b
 | _=>none
theorem Xt {ops:Array Oper} {j t:Nat} (hd:(ops[j]?).bind (·.dst)=some t) {v:Value} (hv:a.tmps[t]? = some v):yielded ops a.tmps j=qaB v:=by
 unfold yielded
 rw [hd,Option.bind_some,hv]
 cases v <;> rfl
theorem Sim.lit {t:Nat} {b:Bool} (h:Sim c N s a w) (hg:qm t s.F=some (.v (.sc (.bool b)))):Sim c N ⟨yR t (.v (.sc (.bool b))) s.F,s.H⟩ a w :=
 ⟨h.inv,h.size,h.defers,fun k x hx=>by
  rcases KD hx with ⟨rfl,rfl⟩ | ⟨_,hx⟩
  ·exact h.fr _ _ (QO hg)
  ·exact h.fr k x hx⟩
theorem qi0 {ops:Array Oper} {o:Oper} {rest:List Oper} (h:Sim c N s a w) (hk:YB P N ops.toList (o::rest) K s) :
  (∃ s1,Sim c N s1 a w∧Region.wanted o (yielded ops a.tmps)=true∧aop P N ops.toList o s1 (YB P N ops.toList rest K)) ∨
  (∃ s1,Sim c N s1 a w∧Region.wanted o (yielded ops a.tmps)=false∧jR N o.dst (.v (.tup [])) s1 (YB P N ops.toList rest K)):=by
 unfold YB at hk
 cases hg:o.guard with
 | none=>rw [hg] at hk; exact .inl ⟨s,h,by simp [Region.wanted,hg],hk⟩
 | some p =>
  obtain ⟨j,want⟩:=p
  rw [hg] at hk
  simp only at hk
  cases hd:(ops.toList[j]?).bind (·.dst) with
  | none=>rw [hd] at hk; exact hk.elim
  | some t =>
   rw [hd] at hk
   simp only at hk
   have hd':(ops[j]?).bind (·.dst)=some t:=by simpa using hd
   split at hk
   ·rename_i b hb
    obtain ⟨v,hv,hr⟩:=h.fr t _ (QO hb)
    have e:v = .bool b:=Rel.exact hr rfl
    subst e
    have hy:=Xt hd' hv
    cases hbw:b==want with
    | true =>
     have e:b=want:=by simpa using hbw
     subst e
     exact .inl ⟨_,h.lit hb,by simp [Region.wanted,hg,hy,qaB],hk.1 rfl⟩
    | false =>
     have e:b = !want:=by cases b <;> cases want <;> simp_all
     subst e
     exact .inr ⟨_,h.lit hb,by simp [Region.wanted,hg,hy,qaB],hk.2 rfl⟩
   ·rename_i hb
    obtain ⟨v,hv,hr⟩:=h.fr t _ (QO hb)
    have e:v = .tuple #[]:=Rel.exact hr rfl
    subst e
    have hy:=Xt hd' hv
    exact .inr ⟨s,h,by simp [Region.wanted,hg,hy,qaB],hk⟩
   ·exact hk.elim
theorem qjz {dst:Option Tmp} (h:Sim c N s a w) (hk:jR N dst (.v (.tup [])) s K):Post c w N K (a.put dst undef) w:=vg h hk fun _ _=>Rel.tup (vs := #[]) .nil
theorem X6 {ops:Array Oper} {Q:Exit→Act→World→Prop}:∀ {l:List Oper} {s:St} {c:Cx} {a:Act} {w:World},Sim c N s a w→YB P N ops.toList l K s→(∀ a' w',Post c w N K a' w'→Q .normal a' w')→wpList P ops Q l a w
 | [],s,c,a,w,h,hk,hq=>hq a w ⟨c,s,h,Ext.refl c w,hk⟩
 | o::l,s,c,a,w,h,hk,hq=>by
  refine wpList_step fun K' hK' => ?_
  rcases qi0 h hk with ⟨s1,h,hw,hk⟩ | ⟨s1,h,hw,hk⟩
  ·rw [if_pos hw]
   have h1:=(qgb h hk).acts
   refine Mix.ZX (Mix.Zt (fun d v w' h2 => ?_) (Mix.Jh h1))
   obtain ⟨c',s',k1,k2,k3⟩:=h2
   exact hK' _ _ (X6 k1 k3 fun a' w' h3=>hq a' w' (Post.step k2 h3))
  ·rw [if_neg (by rw [hw]; simp)]
   obtain ⟨c',s',k1,k2,k3⟩:=qjz h hk
   exact hK' _ _ (X6 k1 k3 fun a' w' h3=>hq a' w' (Post.step k2 h3))
theorem qaC {ops:Array Oper} {Q:Exit→Act→World→Prop}:∀ {l:List Oper} {s:St} {c:Cx} {a:Act} {w:World},Sim c N s a w→YB P N ops.toList l K s→(∀ a' w',Post c w N K a' w'→Q .normal a' w') →
  Mix.walk P ops Agree (fun _=>True) Q l a w
 | [],s,c,a,w,h,hk,hq=>hq a w ⟨c,s,h,Ext.refl c w,hk⟩
 | o::l,s,c,a,w,h,hk,hq=>by
  unfold Mix.walk
  rcases qi0 h hk with ⟨s1,h,hw,hk⟩ | ⟨s1,h,hw,hk⟩
  ·have h1:=qgb h hk
   unfold Does at h1
   by_cases he:Mix.vT o=true
   ·rw [if_pos he] at h1 ⊢
    refine wpList_step fun K' hK' => ?_
    rw [if_pos hw]
    refine Mix.ZX (Mix.Zt (fun d v w' h2 => ?_) (Mix.Jh h1))
    obtain ⟨c',s',k1,k2,k3⟩:=h2
    exact hK' _ _ (wpList_nil ⟨trivial,qaC k1 k3 fun a' w' h3=>hq a' w' (Post.step k2 h3)⟩)
   ·rw [if_neg he] at h1 ⊢
    obtain ⟨v,h2,c',s',k1,k2,k3⟩:=h1
    refine wpQuiet_step fun K' hK' => ?_
    rw [if_pos hw]
    refine ⟨v,fun w' hw' => ?_,hK' _ (wpQuiet_nil (qaC k1 k3 fun a' w' h3=>hq a' w' (Post.step k2 h3)))⟩
    unfold Oper.quietAt
    rw [h2 w' (fun _=>hw')]
    exact ⟨rfl,rfl⟩
  ·obtain ⟨c',s',k1,k2,k3⟩:=qjz h hk
   have h4:=qaC k1 k3 fun a' w' h3=>hq a' w' (Post.step k2 h3)
   by_cases he:Mix.vT o=true
   ·rw [if_pos he]
    refine wpList_step fun K' hK' => ?_
    rw [if_neg (by rw [hw]; simp)]
    exact hK' _ _ (wpList_nil ⟨trivial,h4⟩)
   ·rw [if_neg he]
    refine wpQuiet_step fun K' hK' => ?_
    rw [if_neg (by rw [hw]; simp)]
    exact hK' _ (wpQuiet_nil h4)
end
def Q5 (s:St) (x:Operand):Option Bool:=match zZ s x with
 | some (.sc (.bool b))=>some b
 | _=>none
def QY (next:St→Prop) (Q:Exit→St→Prop):Exit→St→Prop
 | .normal,s=>next s
 | e,s=>Q e s
def jV (id:Nat) (Q:Exit→St→Prop):Exit→St→Prop
 | .exit k,s=>if k=id then Q .normal s else Q (.exit k) s
 | e,s=>Q e s
def qcx (c:Cx) (w:World) (N:Nat) (Q:Exit→St→Prop):Exit→Act→World→Prop:=fun e=>Post c w N (Q e)
def AW (P:Program) (N:Nat) (code:Code) (Q:Exit→St→Prop) (s:St):Prop:=∀ (c:Cx) (a:Act) (w:World),Sim c N s a w→code.wp P (qcx c w N Q) a w
def aw (P:Program) (N:Nat):Code→(Exit→St→Prop)→St→Prop
 | .skip,Q,s=>Q .normal s
 | .region _ ops _,Q,s=>YB P N ops.toList ops.toList (Q .normal) s
 | .seq x y,Q,s=>aw P N x (QY (aw P N y Q) Q) s
 | .cond x t f,Q,s=>match Q5 s x with
  | some b=>(b=true→aw P N t Q s)∧(b=false→aw P N f Q s)
  | none=>False
 | .block id body,Q,s=>aw P N body (jV id Q) s
 | .loop body,Q,s=>AW P N (.loop body) Q s
 | .exit id,Q,s=>Q (.exit id) s
 | .label _,Q,s=>Q .normal s
 | .ret,Q,s=>Q .ret s
 | _,_,_=>False
def okc:Code→Bool
 | .region _ ops draw => !draw||Mix.qjR 1 ops
 | .seq x y=>okc x&&okc y
 | .cond _ x y=>okc x&&okc y
 | .block _ x=>okc x
 | .loop x=>okc x
 | _=>true
theorem qku {P:Program} {Q:Exit→Act→World→Prop} {a:Act} {w:World} {c:Code} (R:Nat→Act→World→Prop) (h₀:∃ n,R n a w)
  (round:∀ n a w,R n a w→c.wp P (Exit.then (fun a' w'=>∃ m,m<n∧R m a' w') Q) a w):(Code.loop c).wp P Q a w:=by
 intro b k cs
 have key:∀ n a w,R n a w→∃ e a' w',Q e a' w'∧Arrives P (lone (b.at a (.code c :: .inLoop c::k)) cs w) b k cs e a' w':=by
  intro n
  induction n using Nat.strongRecOn with
  | _ n ih =>
   intro a w hR
   obtain ⟨e,a₁,w₁,hq,harr⟩:=round n a w hR b (.inLoop c::k) cs
   cases e with
   | normal =>
    obtain ⟨m,hlt,hR₁⟩:=hq
    obtain ⟨e₂,a₂,w₂,hq₂,harr₂⟩:=ih m hlt a₁ w₁ hR₁
    exact ⟨e₂,a₂,w₂,hq₂,.of_steps (Steps.trans harr (.one step_inLoop)) harr₂⟩
   | exit id=>exact ⟨_,a₁,w₁,hq,.pass (x := .inLoop c) rfl (fun _ _ => .inl (by simp)) harr⟩
   | goto l=>exact ⟨_,a₁,w₁,hq,.pass (x := .inLoop c) rfl (fun _ _ => .inl (by simp)) harr⟩
   | ret=>exact ⟨_,a₁,w₁,hq,.pass (x := .inLoop c) rfl (fun _ _ => .inl (by simp)) harr⟩
   | panic ch=>exact ⟨_,a₁,w₁,hq,.pass (x := .inLoop c) rfl (fun _ _ => .inl (by simp)) harr⟩
   | outgrown=>exact ⟨_,a₁,w₁,hq,.pass (x := .inLoop c) rfl (fun _ _ => .inl (by simp)) harr⟩
 obtain ⟨n,hn⟩:=h₀
 obtain ⟨e,a',w',hq,harr⟩:=key n a w hn
 exact ⟨e,a',w',hq,.of_steps (.one step_loop) harr⟩
theorem aw_sound {P:Program} {N:Nat} (hm:P.follows .mixedOrders=true):∀ {code:Code} {Q:Exit→St→Prop} {s:St} {c:Cx} {a:Act} {w:World},okc code=true→Sim c N s a w→aw P N code Q s→code.wp P (qcx c w N Q) a w:=by
 intro code
 induction code with
 | skip=>exact fun _ h hk=>wp_skip ⟨_,_,h,Ext.refl _ _,hk⟩
 | region id ops draw =>
  intro Q s c a w ho h hk
  cases draw with
  | false=>exact wp_region_list (X6 h hk fun a' w' h=>h)
  | true =>
   have ho:Mix.qjR 1 ops=true:=by simpa [okc] using ho
   have h1:=qaC (Q:=qcx c w N Q) h.drew hk fun a' w' h2=>Post.step (Ext.drew c w) h2
   have:=Mix.qhO (P:=P) (id:=id) (l:=ops.toList) (Q:=qcx c w N Q) (a:=a) (w:=w) (C:=Agree) (J:=fun _=>True) (fun w _=>Agree.refl w) (ga:=1) (fun _ w o w' hA b hb=>(hA b (by simp; omega)).trans (Z5 hb)) (fun h=>by cases h) hm (by simpa using ho) trivial (by simpa using h1)
   simpa using this
 | seq x y ihx ihy =>
  intro Q s c a w ho h hk
  simp only [okc,Bool.and_eq_true] at ho
  refine wp_seq (wp_mono (ihx ho.1 h hk) fun e a' w' he => ?_)
  obtain ⟨c',s',k1,k2,k3⟩:=he
  cases e with
  | normal=>exact wp_mono (ihy ho.2 k1 k3) fun e a2 w2 h2=>Post.step k2 h2
  | _=>exact ⟨c',s',k1,k2,k3⟩
 | cond x t f iht ihf =>
  intro Q s c a w ho h hk
  simp only [okc,Bool.and_eq_true] at ho
  unfold aw at hk
  cases hb:Q5 s x with
  | none=>rw [hb] at hk; exact hk.elim
  | some b =>
   rw [hb] at hk
   obtain ⟨h1,h2⟩:=hk
   have hx:a.eval x = .bool b:=by
    unfold Q5 at hb
    split at hb
    ·rename_i b' hv
     cases hb
     exact Rel.exact (vD h hv) rfl
    ·cases hb
   exact wp_cond_split hx (fun e=>iht ho.1 h (h1 e)) (fun e=>ihf ho.2 h (h2 e))
 | block id body ih =>
  intro Q s c a w ho h hk
  refine wp_block (wp_mono (ih ho h hk) fun e a' w' he => ?_)
  obtain ⟨c',s',k1,k2,k3⟩:=he
  cases e with
  | exit k =>
   simp only [Exit.inBlock]
   simp only [jV] at k3
   split
   ·rename_i hk
    rw [if_pos hk] at k3
    exact ⟨c',s',k1,k2,k3⟩
   ·rename_i hk
    rw [if_neg hk] at k3
    exact ⟨c',s',k1,k2,k3⟩
  | _=>exact ⟨c',s',k1,k2,k3⟩
 | loop body ih=>exact fun _ h hk=>hk _ _ _ h
 | exit id=>exact fun _ h hk=>wp_exit ⟨_,_,h,Ext.refl _ _,hk⟩
 | label l=>exact fun _ h hk=>wp_label ⟨_,_,h,Ext.refl _ _,hk⟩
 | ret=>exact fun _ h hk=>wp_ret ⟨_,_,h,Ext.refl _ _,hk⟩
 | _=>exact fun _ _ hk=>hk.elim
def qbh:Fr→Fr→Prop
 | [],_=>True
 | (t,x)::F0,F=>qm t F=some x∧qbh F0 F
theorem qlA:∀ {F0 F:Fr},qbh F0 F→∀ p,p∈F0→p∈F
 | [],_,_,p,hp=>by cases hp
 | (t,x)::F0,F,h,p,hp=>by
  rcases List.mem_cons.1 hp with rfl | hp
  ·exact QO h.1
  ·exact qlA h.2 p hp
section
variable {P:Program} {N:Nat} {Q:Exit→St→Prop} {s:St} {F:Fr} {H:List Bk} {x y:Code}
theorem AW.of (hm:P.follows .mixedOrders=true) (ho:okc x=true) (h:aw P N x Q s):AW P N x Q s:=fun _ _ _ hs=>aw_sound hm ho hs h
theorem AW.sub (F0:Fr) (h0:qbh F0 F) (h:AW P N x Q ⟨F0,H⟩):AW P N x Q ⟨F,H⟩:=fun c a w hs=>h c a w (hs.sub (qlA h0))
theorem AW.seq (h:AW P N x (QY (AW P N y Q) Q) s):AW P N (.seq x y) Q s:=fun c a w hs=>by
 refine wp_seq (wp_mono (h c a w hs) fun e a' w' he => ?_)
 obtain ⟨c',s',k1,k2,k3⟩:=he
 cases e with
 | normal=>exact wp_mono (k3 c' a' w' k1) fun e a2 w2 h2=>Post.step k2 h2
 | _=>exact ⟨c',s',k1,k2,k3⟩
theorem AW.mono {Q':Exit→St→Prop} (h:AW P N x Q s) (hq:∀ e s,Q e s→Q' e s):AW P N x Q' s:=fun c a w hs=>wp_mono (h c a w hs) fun _ _ _ he=>Post.mono he fun s hs=>hq _ s hs
theorem AW.block {id:Nat} (h:AW P N x (jV id Q) s):AW P N (.block id x) Q s:=fun c a w hs=>by
 refine wp_block (wp_mono (h c a w hs) fun e a' w' he => ?_)
 obtain ⟨c',s',k1,k2,k3⟩:=he
 cases e with
 | exit k =>
  simp only [Exit.inBlock]
  simp only [jV] at k3
  split
  ·rename_i hk
   rw [if_pos hk] at k3
   exact ⟨c',s',k1,k2,k3⟩
  ·rename_i hk
   rw [if_neg hk] at k3
   exact ⟨c',s',k1,k2,k3⟩
 | _=>exact ⟨c',s',k1,k2,k3⟩
end
def ql:Nat→List V→Fr
 | _,[] => []
 | k,x::xs=>(k,.v x)::ql (k+1) xs
theorem qgD {t:Nat} {y:SV}:∀ {xs:List V} {k:Nat},(t,y)∈ql k xs→∃ j x,t=k+j∧xs[j]? = some x∧y = .v x
 | [],k,h=>by cases h
 | x::xs,k,h=>by
  unfold ql at h
  rcases List.mem_cons.1 h with h | h
  ·cases h
   exact ⟨0,x,rfl,rfl,rfl⟩
  ·obtain ⟨j,z,h1,h2,h3⟩:=qgD h
   exact ⟨j+1,z,by omega,by simpa using h2,h3⟩
def Zy (P:Program) (s:St):ResultVar→Option V
 | .tmp t=>Qi s (.tmp t)
 | .cell t ty=>match qm t s.F,yJ P ty,sizeT P ty with
  | some p,some agg,some n=>match zY s p with
   | some cs=>ldV agg n cs
   | none=>none
  | _,_,_=>none
def Qa (P:Program) (s:St):List ResultVar→Option (List V)
 | []=>some []
 | r::rs=>match Zy P s r,Qa P s rs with
  | some v,some l=>some (v::l)
  | _,_=>none
def jl:List ResultVar→List Operand
 | [] => []
 | .tmp t::rs => .tmp t::jl rs
 | .cell .. :: rs=>jl rs
def ZL:List V→V
 | [v]=>v
 | vs => .tup vs
def ZC (P:Program) (rs:List ResultVar) (s:St) (Q:V→List Bk→Prop):Prop:=match Qa P ⟨jI s.F (jl rs),s.H⟩ rs with
 | some vs=>Q (ZL vs) s.H
 | none=>False
def ZM (P:Program) (rs:List ResultVar) (Q:V→List Bk→Prop):Exit→St→Prop
 | .normal,s=>ZC P rs s Q
 | .ret,s=>ZC P rs s Q
 | _,_=>False
section
variable {P:Program} {c:Cx} {N:Nat} {s:St} {a:Act} {w:World}
def qdm (tmps:Array Value):ResultVar→Sem Value
 | .tmp t=>pure (tmps.getD t undef)
 | .cell a t=>do loadVar t (← asAddr (tmps.getD a undef))
theorem resV_run {r:ResultVar} {y:V} (h:Sim c N s a w) (hr:Zy P s r=some y):∃ v,Rel c.I c.φ y v∧(qdm a.tmps r).run P w = .ok v w:=by
 cases r with
 | tmp t=>exact ⟨_,qkd h hr,by simp [qdm,Act.eval]⟩
 | cell t ty =>
  simp only [Zy] at hr
  split at hr
  ·rename_i p agg n hg ha hn
   cases hc:zY s p with
   | none=>rw [hc] at hr; cases hr
   | some cs =>
    rw [hc] at hr
    obtain ⟨v,hv,hp⟩:=h.fr t p (QO hg)
    obtain ⟨b,off,vs,rfl,h1,h2,_⟩:=qbL h hp hc
    obtain ⟨u,h3,h4⟩:=qbH (P:=P) ha hn h1 h2 hr
    refine ⟨u,h3,?_⟩
    have h5:=h4 w (Agree.refl w)
    have e:a.tmps.getD t undef = .pointer (some ⟨b,off,none⟩):=by simp [hv]
    unfold qdm
    simp only [e,asAddr,Sem.run_bind,Sem.run_pure,Result.andThen_ok]
    simpa [Instr.loadAt,Instr.sureAddr] using h5
  ·cases hr
theorem qjG (h:Sim c N s a w):∀ {rs:List ResultVar} {ys:List V},Qa P s rs=some ys→∃ vs,vM c.I c.φ ys vs∧(rs.mapM (qdm a.tmps)).run P w = .ok vs w
 | [],ys,hy=>by cases hy; exact ⟨[],.nil,by simp⟩
 | r::rs,ys,hy=>by
  unfold Qa at hy
  cases hr:Zy P s r with
  | none=>rw [hr] at hy; cases hy
  | some y =>
   cases hs:Qa P s rs with
   | none=>rw [hr,hs] at hy; cases hy
   | some l =>
    rw [hr,hs] at hy
    cases hy
    obtain ⟨v,h1,h2⟩:=resV_run h hr
    obtain ⟨vs,h3,h4⟩:=qjG h hs
    exact ⟨v::vs,.cons h1 h3,by simp only [List.mapM_cons,Sem.run_bind,h2,Result.andThen_ok,h4,Sem.run_pure]⟩
theorem qlT {fn:Func} {ys:List V} (h:Sim c N s a w) (hy:Qa P s fn.results.toList=some ys):∃ v,Rel c.I c.φ (ZL ys) v∧(results fn a.tmps).run P w = .ok v w:=by
 obtain ⟨vs,h1,h2⟩:=qjG h hy
 have hm:(fn.results.mapM (qdm a.tmps)).run P w = .ok vs.toArray w:=by
  rw [Array.mapM_eq_mapM_toList,Sem.run_map,h2]
  rfl
 have e0:results fn a.tmps=(fn.results.mapM (qdm a.tmps)) >>= fun vs=>pure (if h:vs.size=1 then vs[0] else .tuple vs):=rfl
 refine ⟨if h:vs.toArray.size=1 then vs.toArray[0] else .tuple vs.toArray,?_,?_⟩
 ·clear h2 hm
  cases h1 with
  | nil=>exact .tup (vs := #[]) .nil
  | cons k2 k3 =>
   cases k3 with
   | nil=>exact k2
   | cons k3 k4 =>
    rw [dif_neg (by simp)]
    exact .tup (by simpa using vM.cons k2 (.cons k3 k4))
 ·rw [e0,Sem.run_bind,hm,Result.andThen_ok,Sem.run_pure]
theorem AFn.intro {f:FuncId} {fn:Func} {code:Code} {xs:List V} {H:List Bk} {Q:V→List Bk→Prop} (hf:P.funcs[f]? = some fn) (hb:fn.body=some code) (hn:(fn.name == "runtime.NumGoroutine")=false)
  (hN:xs.length≤fn.ntmps) (h:AW P fn.ntmps code (ZM P fn.results.toList Q) ⟨ql 0 xs,H⟩):AFn P f xs H Q:=by
 refine ⟨⟨fn,hf,by rw [hb]; rfl,hn⟩,fun c w vs hi hs hr => ?_⟩
 refine calls_of_wp hf hb ?_
 have h0:Sim c fn.ntmps ⟨ql 0 xs,H⟩ { tmps:=vs.toArray++Array.replicate (fn.ntmps - vs.toArray.size) undef,defers := [] } w:=by
  refine ⟨hi,?_,rfl,fun t x hx => ?_⟩
  ·have:=hr.len
   simp
   omega
  ·obtain ⟨j,y,h1,h2,rfl⟩:=qgD hx
   obtain ⟨v,h3,h4⟩:=hr.get h2
   refine ⟨v,?_,h4⟩
   have ht:t=j:=by omega
   subst ht
   have hlt:t<vs.toArray.size:=by simpa using (List.getElem?_eq_some_iff.1 h3).1
   rw [Array.getElem?_append_left hlt]
   simpa using h3
 refine wp_mono (h c _ w h0) fun e a' w' he => ?_
 obtain ⟨c',s',k1,k2,k3⟩:=he
 have fin:ZC P fn.results.toList s' Q→a'.defers = []∧∃ v,(results fn a'.tmps).run P w' = .ok v w'∧∃ v_1 y H' c'_1,Ending.returned v = .returned v_1∧Rel c'_1.I c'_1.φ y v_1∧Inv c'_1 H' w'∧qi7 c'_1∧Ext c w c'_1 w'∧Q y H':=by
  intro k3
  unfold ZC at k3
  obtain ⟨c2,l1,l2⟩:=Sim.jI (F:=s'.F) (H:=s'.H) (xs:=jl fn.results.toList) k1
  cases hy:Qa P ⟨jI s'.F (jl fn.results.toList),s'.H⟩ fn.results.toList with
  | none=>rw [hy] at k3; exact k3.elim
  | some ys =>
   rw [hy] at k3
   obtain ⟨v,m1,m2⟩:=qlT l1 hy
   exact ⟨k1.defers,v,m2,v,_,_,c2.hide,rfl,m1,l1.inv.hide,qhh c2,(k2.trans l2).trans (Ext.hide c2 w'),k3⟩
 cases e with
 | normal=>exact fin k3
 | ret=>exact fin k3
 | _=>exact k3.elim
end
section
variable {P:Program} {t:TypeId} {x y:Operand} {k:IntKind} {a b:Int}
@[simp] theorem binR_add:XU P .add t x y (.int k a) (.int k b)=some (.int k (k.wrap (a+b))):=by cases k <;> rfl
@[simp] theorem binR_sub:XU P .sub t x y (.int k a) (.int k b)=some (.int k (k.wrap (a - b))):=by cases k <;> rfl
@[simp] theorem binR_mul:XU P .mul t x y (.int k a) (.int k b)=some (.int k (k.wrap (a*b))):=by cases k <;> rfl
@[simp] theorem binR_eql:XU P .eql t x y (.int k a) (.int k b)=some (.bool (a==b)):=by cases k <;> rfl
@[simp] theorem binR_neq:XU P .neq t x y (.int k a) (.int k b)=some (.bool (a != b)):=by cases k <;> rfl
@[simp] theorem binR_lss:XU P .lss t x y (.int k a) (.int k b)=some (.bool (decide (a<b))):=by cases k <;> rfl
@[simp] theorem binR_leq:XU P .leq t x y (.int k a) (.int k b)=some (.bool (decide (a≤b))):=by cases k <;> rfl
@[simp] theorem binR_gtr:XU P .gtr t x y (.int k a) (.int k b)=some (.bool (decide (a>b))):=by cases k <;> rfl
@[simp] theorem binR_geq:XU P .geq t x y (.int k a) (.int k b)=some (.bool (decide (a≥b))):=by cases k <;> rfl
theorem qiA {t:TypeId} (h:sliceB P t=true) {op:BinOp} {r:Bool} (hop:(op = .eql∧r=true)∨(op = .neq∧r=false)):XU P op t x y (.slice none 0 0) (.slice none 0 0)=some (.bool r):=by
 unfold sliceB at h
 split at h
 ·rename_i e hu
  have hU:idle P (underlying t)=some (.slice e):=by
   unfold underlying
   rw [Wj]
   show idle P (match P.underlying t with | some d=>pure d | none=>stuck "no such type")=some (.slice e)
   rw [hu]
   rfl
  have hr0:∀ d,idle P (Op.equalIn (d+1) t (.slice none 0 0) (.slice none 0 0))=some true:=fun d=>by
   simp only [Op.equalIn]
   rw [Wj,hU]
   rfl
  have hr:idle P (Op.equal t (.slice none 0 0) (.slice none 0 0))=some true:=hr0 9999
  unfold XU
  rw [Wj]
  rcases hop with ⟨rfl,rfl⟩ | ⟨rfl,rfl⟩
  ·show (some ()).bind _=_
   simp only [Option.bind_some]
   unfold binOp
   simp only
   rw [Wj,hr]
   rfl
  ·show (some ()).bind _=_
   simp only [Option.bind_some]
   unfold binOp
   simp only
   rw [Wj,hr]
   rfl
 ·cases h
@[simp] theorem binR_nil_eql {t:TypeId} (h:sliceB P t=true):XU P .eql t x y (.slice none 0 0) (.slice none 0 0)=some (.bool true):=qiA h (.inl ⟨rfl,rfl⟩)
@[simp] theorem binR_nil_neq {t:TypeId} (h:sliceB P t=true):XU P .neq t x y (.slice none 0 0) (.slice none 0 0)=some (.bool false):=qiA h (.inr ⟨rfl,rfl⟩)
@[simp] theorem unR_not {u:Bool}:unR P .not (.bool u)=some (.bool (!u)):=rfl
@[simp] theorem unR_neg:unR P .neg (.int k a)=some (.int k (k.wrap (0 - a))):=by cases k <;> rfl
@[simp] theorem mmR_min:mmR P .min (.int k a) (.int k b)=some (.int k (if b<a then b else a)):=by cases k <;> rfl
@[simp] theorem mmR_max:mmR P .max (.int k a) (.int k b)=some (.int k (if a<b then b else a)):=by cases k <;> rfl
theorem qaz {t':TypeId} {k' j:IntKind} (h:P.underlying t=some (.int j)) (h':P.underlying t'=some (.int k')):qeA P t t' (.int k a)=some (.int k' (k'.wrap a)):=by
 have hu:∀ {t:TypeId} {d:TypeDesc},P.underlying t=some d→idle P (underlying t)=some d:=fun {t d} h=>by
  unfold underlying
  rw [Wj]
  show idle P (match P.underlying t with | some d=>pure d | none=>stuck "no such type")=some d
  rw [h]
  rfl
 unfold qeA convert
 rw [Wj,hu h]
 simp only [Option.bind_some]
 rw [Wj,hu h']
 rfl
@[simp] theorem ble_dec (a b:Nat):Nat.ble a b=decide (a≤b):=by
 cases h:Nat.ble a b with
 | true=>simpa using Nat.le_of_ble_eq_true h
 | false =>
  have:=Nat.not_le_of_not_ble_eq_true (n:=a) (m:=b) (by rw [h]; decide)
  exact (decide_eq_false this).symm
theorem wrap_i64 {n:Int} (h : -9223372036854775808≤n) (h':n≤9223372036854775807):IntKind.i64.wrap n=n:=IntWalk.i64_in _ ⟨h,h'⟩
end
def gd (b want:Bool) (X Y:Prop):Prop:=(b=want→X)∧(b = !want→Y)
section
variable {X Y:Prop}
@[simp ↓] theorem gd_tt:gd true true X Y=X:=by simp [gd]
@[simp ↓] theorem gd_ff:gd false false X Y=X:=by simp [gd]
@[simp ↓] theorem gd_tf:gd true false X Y=Y:=by simp [gd]
@[simp ↓] theorem gd_ft:gd false true X Y=Y:=by simp [gd]
end
section
variable {P:Program} {N:Nat} {ops rest:List Oper} {o:Oper} {K:St→Prop} {F:Fr} {H:List Bk} {Q:Exit→St→Prop} {c c':Code} {x:Operand} {id:Nat} {draw:Bool} {arr:Array Oper}
theorem zu:YB P N ops [] K ⟨F,H⟩=K ⟨F,H⟩:=rfl
theorem qV:YB P N ops (o::rest) K ⟨F,H⟩=match o.guard with
  | none=>aop P N ops o ⟨F,H⟩ (YB P N ops rest K)
  | some (j,want)=>match (ops[j]?).bind (·.dst) with
   | some t=>match qm t F with
    | some (.v (.sc (.bool b)))=>gd b want (aop P N ops o ⟨yR t (.v (.sc (.bool want))) F,H⟩ (YB P N ops rest K)) (jR N o.dst (.v (.tup [])) ⟨yR t (.v (.sc (.bool (!want)))) F,H⟩ (YB P N ops rest K))
    | some (.v (.tup []))=>jR N o.dst (.v (.tup [])) ⟨F,H⟩ (YB P N ops rest K)
    | _=>False
   | none=>False:=rfl
theorem Z8:aop P N ops o ⟨F,H⟩ K=match o.op with
 | .move x=>Qm N ops o.dst x ⟨F,H⟩ K
 | .assign x=>jC N o.dst x ⟨F,H⟩ K
 | .pick x y z=>Ql N o.dst x y z ⟨F,H⟩ K
 | .alloc t=>yc P N o.dst t ⟨F,H⟩ K
 | .box _ x=>ZE N o.dst x ⟨F,H⟩ K
 | .build t ps=>vZ P N o.dst t ps.toList ⟨slF F (ps.toList.map (·.2)),H⟩ K
 | .buildSlice t n ps=>qG P N o.dst t n ps.toList ⟨F,H⟩ K
 | .load t x=>Qo P N ops o.dst t x ⟨F,H⟩ K
 | .store t x y=>yt P o.dst t x y ⟨F,H⟩ K
 | .nilCheck x=>qY N o.dst x ⟨F,H⟩ K
 | .binOp op t x y _=>ZF P N o.dst op t x y ⟨F,H⟩ K
 | .makeFunc f l k=>qZ N o.dst f l.toList k.toList ⟨F,H⟩ K
 | .fieldAddr t x f=>qM P N o.dst t x f ⟨F,H⟩ K
 | .field t x f=>vX P N o.dst t x f ⟨F,H⟩ K
 | .indexAddr t x i=>qL P N o.dst t x i ⟨F,H⟩ K
 | .extract x i=>zD N o.dst x i ⟨F,H⟩ K
 | .slice t x lo hi mx=>zG P N o t x lo hi mx ⟨F,H⟩ K
 | .call cl=>jG P N o cl ⟨F,H⟩ K
 | .unOp op _ x=>aUn P N o.dst op x ⟨F,H⟩ K
 | .convert t u x=>Qp P N o.dst t u x ⟨F,H⟩ K
 | .makeInterface t x=>vW P N o.dst t x ⟨F,H⟩ K
 | .typeAssert x _ t ok=>jD P N o.dst x t ok ⟨F,H⟩ K
 | .makeMap _ r=>zC N o.dst r ⟨F,H⟩ K
 | .lookup t x y ok=>jA P N o.dst t x y ok ⟨F,H⟩ K
 | .mapUpdate t x y z=>qJ P o.dst t x y z ⟨F,H⟩ K
 | .insert t x y z=>qJ P o.dst t x y z ⟨F,H⟩ K
 | .range t x=>vV P N o.dst t x ⟨F,H⟩ K
 | .next x isS=>Qu N o.dst x isS ⟨F,H⟩ K
 | .entry x=>vY N o.dst x ⟨F,H⟩ K
 | .makeSlice t x y=>qK P N o.dst t x y ⟨F,H⟩ K
 | .index t x i=>zH P N o t x i ⟨F,H⟩ K
 | _=>qmG P N o ⟨F,H⟩ K:=rfl
theorem zQ:aw P N .skip Q ⟨F,H⟩=Q .normal ⟨F,H⟩:=rfl
theorem qU:aw P N (.region id arr draw) Q ⟨F,H⟩=YB P N arr.toList arr.toList (Q .normal) ⟨F,H⟩:=rfl
theorem jL:aw P N (.seq c c') Q ⟨F,H⟩=aw P N c (QY (aw P N c' Q) Q) ⟨F,H⟩:=rfl
theorem zT:aw P N (.cond x c c') Q ⟨F,H⟩=match Q5 ⟨F,H⟩ x with
  | some b=>gd b true (aw P N c Q ⟨F,H⟩) (aw P N c' Q ⟨F,H⟩)
  | none=>False:=rfl
theorem zq:aw P N (.block id c) Q ⟨F,H⟩=aw P N c (jV id Q) ⟨F,H⟩:=rfl
theorem zR:aw P N (.loop c) Q ⟨F,H⟩=AW P N (.loop c) Q ⟨F,H⟩:=rfl
theorem zS:aw P N (.exit id) Q ⟨F,H⟩=Q (.exit id) ⟨F,H⟩:=rfl
theorem zo:aw P N (.label id) Q ⟨F,H⟩=Q .normal ⟨F,H⟩:=rfl
theorem jM:aw P N .ret Q ⟨F,H⟩=Q .ret ⟨F,H⟩:=rfl
end
def qc (P:Program) (N:Nat) (dst:Option Tmp) (f:FuncId) (xs:List V) (F:Fr) (H:List Bk) (K:St→Prop):Prop:=(∃ Q,AFn P f xs H Q∧∀ y H',Q y H'→jR N dst (.v y) ⟨calm F,H'⟩ K)∨pureK P N dst f xs F H K
theorem qc.of {P:Program} {N:Nat} {dst:Option Tmp} {f:FuncId} {xs:List V} {F:Fr} {H:List Bk} {K:St→Prop} {Q:V→List Bk→Prop} (h:AFn P f xs H Q) (hk:∀ y H',Q y H'→jR N dst (.v y) ⟨calm F,H'⟩ K):qc P N dst f xs F H K := .inl ⟨Q,h,hk⟩
theorem qc.pure {P:Program} {N:Nat} {dst:Option Tmp} {f:FuncId} {xs:List V} {F:Fr} {H:List Bk} {K:St→Prop} {r:V} (h:PFn P f xs r) (hx:V.qA xs=true) (hr:r.closed=true) (hk:jR N dst (.v r) ⟨F,H⟩ K):qc P N dst f xs F H K :=
 .inr ⟨r,h,hx,hr,hk⟩
theorem yE {P:Program} {N:Nat} {dst:Option Tmp} {f:Operand} {args:List Operand} {F:Fr} {H:List Bk} {K:St→Prop}:qoE P N dst f args ⟨F,H⟩ K=match zZ ⟨F,H⟩ f,y8 ⟨jI F args,H⟩ args with
 | some (.fn (.func k) first cap),some vs=>qc P N dst k (first++vs++cap) (jI F args) H K
 | _,_=>False:=rfl
theorem zU {P:Program} {N:Nat} {dst:Option Tmp} {x:Operand} {name:String} {args:List Operand} {F:Fr} {H:List Bk} {K:St→Prop}:qhG P N dst x name args ⟨F,H⟩ K=match zZ ⟨F,H⟩ x,y8 ⟨jI F args,H⟩ args with
 | some (.iface t (.ptr id off)),some vs=>XW P t name (methodOf P t name)∧qc P N dst (methodOf P t name) (.ptr id off::vs) (jI F args) H K
 | _,_=>False:=rfl
theorem gd.intro {b want:Bool} {X Y:Prop} (h:b=want→X) (k:b = !want→Y):gd b want X Y:=⟨h,k⟩
section
variable {α:Type} {enc:α→List V} {sz:Nat}
theorem flat_get (hsz:∀ x,(enc x).length=sz):∀ {xs:List α} {k:Nat} (h:k<xs.length),((xs.flatMap enc).drop (k*sz)).take sz=enc xs[k]
 | x::xs,0,h=>by
  simp only [Nat.zero_mul,List.drop_zero,List.flatMap_cons,List.getElem_cons_zero]
  rw [List.take_append,hsz,Nat.sub_self,List.take_zero,List.append_nil,List.take_of_length_le (by rw [hsz]; exact Nat.le_refl _)]
 | x::xs,k+1,h=>by
  simp only [List.flatMap_cons,List.getElem_cons_succ]
  rw [Nat.succ_mul,List.drop_append,hsz,Nat.add_sub_cancel,List.drop_of_length_le (by rw [hsz]; omega),List.nil_append]
  exact flat_get hsz _
theorem WA (hsz:∀ x,(enc x).length=sz) {xs:List α} {k:Nat} (h:k<xs.length):rowAt sz (xs.flatMap enc) (k:Int)=enc xs[k]:=by
 unfold rowAt
 rw [Int.toNat_natCast]
 exact flat_get hsz h
theorem qav (hsz:∀ x,(enc x).length=sz):∀ (xs:List α),(xs.flatMap enc).length=xs.length*sz
 | []=>by simp
 | x::xs=>by rw [List.flatMap_cons,List.length_append,hsz,qav hsz xs,List.length_cons,Nat.succ_mul,Nat.add_comm]
theorem qeB:∀ {xs ys:List V},V.qA (xs++ys)=(V.qA xs&&V.qA ys)
 | [],ys=>by simp [V.qA]
 | x::xs,ys=>by simp [V.qA,qeB (xs:=xs),Bool.and_assoc]
theorem zV (h:∀ x,V.qA (enc x)=true):∀ xs:List α,V.qA (xs.flatMap enc)=true
 | []=>rfl
 | x::xs=>by rw [List.flatMap_cons,qeB,h,zV h xs]; rfl
end
def qkN (Q:Exit→St→Prop):Exit→St→Prop
 | .goto _,_=>False
 | e,s=>Q e s
theorem ZN {Q:Exit→St→Prop} {s:St}:qkN Q .normal s=Q .normal s:=rfl
theorem Zh {Q:Exit→St→Prop} {s:St}:qkN Q .ret s=Q .ret s:=rfl
theorem ZO {Q:Exit→St→Prop} {s:St} {i:Nat}:qkN Q (.exit i) s=Q (.exit i) s:=rfl
theorem AW.scope {P:Program} {N:Nat} {x:Code} {Q:Exit→St→Prop} {s:St} (h:AW P N x (qkN Q) s):AW P N (.scope x) Q s:=fun c a w hs=>wp_scope_straight (wp_mono (h c a w hs) fun e a' w' he=>by
 obtain ⟨c',s',k1,k2,k3⟩:=he
 cases e with
 | goto l=>exact k3.elim
 | _=>exact ⟨c',s',k1,k2,k3⟩)
theorem AW.cond {P:Program} {N:Nat} {Q:Exit→St→Prop} {F:Fr} {H:List Bk} {x:Operand} {t f:Code} (b:Bool) (hb:Q5 ⟨F,H⟩ x=some b) (h1:b=true→AW P N t Q ⟨F,H⟩) (h2:b=false→AW P N f Q ⟨F,H⟩):AW P N (.cond x t f) Q ⟨F,H⟩:=fun c a w hs=>by
 have hx:a.eval x = .bool b:=by
  unfold Q5 at hb
  split at hb
  ·rename_i b' hv
   cases hb
   exact Rel.exact (vD hs hv) rfl
  ·cases hb
 exact wp_cond_split hx (fun e=>h1 e c a w hs) (fun e=>h2 e c a w hs)
def inO (old:List Nat):Operand→Bool
 | .tmp t=>old.contains t
 | .const _=>true
 | _=>false
def Zl (dst:Option Tmp) (old:List Nat):List Nat:=match dst with
 | some d=>d::old
 | none=>old
def QZ (dst:Option Tmp) (old:List Nat):List Nat:=match dst with
 | some d=>old.filter fun t => !(t==d)
 | none=>old
def Qw (P:Program) (N:Nat) (H0:List Bk) (dst:Option Tmp) (t:TypeId) (x:Operand) (old:List Nat) (s:St) (K:List Nat→St→Prop):Prop:=inO old x=true∧match zZ s x,yJ P t,sizeT P t with
 | some p,some agg,some n=>match zY ⟨[],H0⟩ (.v p) with
  | some cs=>match ldV agg n cs with
   | some y=>jR N dst (.v y) s (K (Zl dst old))
   | none=>False
  | none=>False
 | _,_,_=>False
def xcall (P:Program) (N:Nat) (dst:Option Tmp) (f:Operand) (args:List Operand) (old:List Nat) (s:St) (K:List Nat→St→Prop):Prop:=match zZ s f,yX s args with
 | some (.fn (.func k) first cap),some vs=>∃ r,PFn P k (first++vs++cap) r∧V.qA (first++vs++cap)=true∧r.closed=true∧jR N dst (.v r) s (K (QZ dst old))
 | _,_=>False
def y7 (dst:Option Tmp) (x:SV) (F:Fr):Fr:=match dst with
 | some d=>vO d x F
 | none=>F
def xop (P:Program) (N:Nat) (ops:List Oper) (H0:List Bk) (o:Oper) (old:List Nat) (s:St) (K:List Nat→St→Prop):Prop:=match o.op with
 | .load t x=>Qw P N H0 o.dst t x old s K
 | .call { callee := .value f,args,.. }=>xcall P N o.dst f args.toList old s K
 | .move x=>match zZ s x with
  | some y=>jR N o.dst (.v y) s (K (bif inO old x then Zl o.dst old else QZ o.dst old))
  | none=>False
 | .fieldAddr t x f=>match zZ s x,qC P t f with
  | some p,some n=>match shift (.v p) n with
   | some y=>jR N o.dst y s (K (bif inO old x then Zl o.dst old else QZ o.dst old))
   | none=>False
  | _,_=>False
 | .indexAddr t x ix=>match zZ s x,zZ s ix,P.underlying t with
  | some (.sl n sz cs),some (.sc (.int _ i)),some (.slice e)=>sizeT P e=some sz∧(0≤i∧i<n)∧jR N o.dst (.v (.rd (rowAt sz cs i))) s (K (bif inO old x then Zl o.dst old else QZ o.dst old))
  | some p,some (.sc (.int _ i)),some (.array n e)=>match sizeT P e with
   | some sz=>match shift (.v p) (i.toNat*sz) with
    | some y=>(0≤i∧i<n)∧jR N o.dst y s (K (bif inO old x then Zl o.dst old else QZ o.dst old))
    | none=>False
   | none=>False
  | _,_,_=>False
 | op=>Zi op=false∧(Mix.vT o=false∨Mix.Qc o=true)∧∃ x H',aop P N ops o s (fun s'=>s'=⟨y7 o.dst x s.F,H'⟩)∧K (QZ o.dst old) ⟨y7 o.dst x s.F,H'⟩
def qja (P:Program) (N:Nat) (ops:List Oper) (H0:List Bk):List Oper→(St→Prop)→List Nat→St→Prop
 | [],K,_,s=>K s
 | o::rest,K,old,s=>match o.guard with
  | none=>xop P N ops H0 o old s (qja P N ops H0 rest K)
  | some (j,want)=>match (ops[j]?).bind (·.dst) with
   | some t=>match qm t s.F with
    | some (.v (.sc (.bool b)))=>gd b want (xop P N ops H0 o old ⟨yR t (.v (.sc (.bool want))) s.F,s.H⟩ (qja P N ops H0 rest K)) (jR N o.dst (.v (.tup [])) ⟨yR t (.v (.sc (.bool (!want)))) s.F,s.H⟩ (qja P N ops H0 rest K (QZ o.dst old)))
    | some (.v (.tup []))=>jR N o.dst (.v (.tup [])) s (qja P N ops H0 rest K (QZ o.dst old))
    | _=>False
   | none=>False
def xcallK (P:Program) (N:Nat) (dst:Option Tmp) (k:FuncId) (xs:List V) (F:Fr) (H:List Bk) (K:St→Prop):Prop:=∃ r,PFn P k xs r∧V.qA xs=true∧r.closed=true∧jR N dst (.v r) ⟨F,H⟩ K
theorem yB {P:Program} {N:Nat} {dst:Option Tmp} {f:Operand} {args:List Operand} {old:List Nat} {F:Fr} {H:List Bk} {K:List Nat→St→Prop}:xcall P N dst f args old ⟨F,H⟩ K=match zZ ⟨F,H⟩ f,yX ⟨F,H⟩ args with
 | some (.fn (.func k) first cap),some vs=>xcallK P N dst k (first++vs++cap) F H (K (QZ dst old))
 | _,_=>False:=rfl
def xmid (A K:SV→List Bk→Prop):Prop:=∃ x H',A x H'∧K x H'
@[congr] theorem xmid_congr {A A' K:SV→List Bk→Prop} (h:∀ x H',A x H'=A' x H'):xmid A K=xmid A' K:=by
 have:A=A':=funext fun x=>funext fun H'=>h x H'
 rw [this]
@[simp] theorem xmid_eq {a:SV} {b:List Bk} {K:SV→List Bk→Prop}:xmid (fun x H'=>a=x∧b=H') K=K a b:=by
 apply propext
 constructor
 ·rintro ⟨_,_,⟨rfl,rfl⟩,h⟩
  exact h
 ·exact fun h=>⟨_,_,⟨rfl,rfl⟩,h⟩
section
variable {P:Program} {N:Nat} {ops rest:List Oper} {H0 H:List Bk} {F:Fr} {o:Oper} {old:List Nat} {K:St→Prop} {K':List Nat→St→Prop}
theorem zi:qja P N ops H0 [] K old ⟨F,H⟩=K ⟨F,H⟩:=rfl
theorem qP:qja P N ops H0 (o::rest) K old ⟨F,H⟩=match o.guard with
  | none=>xop P N ops H0 o old ⟨F,H⟩ (qja P N ops H0 rest K)
  | some (j,want)=>match (ops[j]?).bind (·.dst) with
   | some t=>match qm t F with
    | some (.v (.sc (.bool b)))=>gd b want (xop P N ops H0 o old ⟨yR t (.v (.sc (.bool want))) F,H⟩ (qja P N ops H0 rest K)) (jR N o.dst (.v (.tup [])) ⟨yR t (.v (.sc (.bool (!want)))) F,H⟩ (qja P N ops H0 rest K (QZ o.dst old)))
    | some (.v (.tup []))=>jR N o.dst (.v (.tup [])) ⟨F,H⟩ (qja P N ops H0 rest K (QZ o.dst old))
    | _=>False
   | none=>False:=rfl
theorem ZW:xop P N ops H0 o old ⟨F,H⟩ K'=match o.op with
 | .load t x=>Qw P N H0 o.dst t x old ⟨F,H⟩ K'
 | .call { callee := .value f,args,.. }=>xcall P N o.dst f args.toList old ⟨F,H⟩ K'
 | .move x=>match zZ ⟨F,H⟩ x with
  | some y=>jR N o.dst (.v y) ⟨F,H⟩ (K' (bif inO old x then Zl o.dst old else QZ o.dst old))
  | none=>False
 | .fieldAddr t x f=>match zZ ⟨F,H⟩ x,qC P t f with
  | some p,some n=>match shift (.v p) n with
   | some y=>jR N o.dst y ⟨F,H⟩ (K' (bif inO old x then Zl o.dst old else QZ o.dst old))
   | none=>False
  | _,_=>False
 | .indexAddr t x ix=>match zZ ⟨F,H⟩ x,zZ ⟨F,H⟩ ix,P.underlying t with
  | some (.sl n sz cs),some (.sc (.int _ i)),some (.slice e)=>sizeT P e=some sz∧(0≤i∧i<n)∧jR N o.dst (.v (.rd (rowAt sz cs i))) ⟨F,H⟩ (K' (bif inO old x then Zl o.dst old else QZ o.dst old))
  | some p,some (.sc (.int _ i)),some (.array n e)=>match sizeT P e with
   | some sz=>match shift (.v p) (i.toNat*sz) with
    | some y=>(0≤i∧i<n)∧jR N o.dst y ⟨F,H⟩ (K' (bif inO old x then Zl o.dst old else QZ o.dst old))
    | none=>False
   | none=>False
  | _,_,_=>False
 | op=>Zi op=false∧(Mix.vT o=false∨Mix.Qc o=true)∧xmid (fun x H'=>aop P N ops o ⟨F,H⟩ (fun s'=>s'=⟨y7 o.dst x F,H'⟩)) (fun x H'=>K' (QZ o.dst old) ⟨y7 o.dst x F,H'⟩):=rfl
end
section
variable {P:Program} {c c0:Cx} {N:Nat} {s:St} {a:Act} {w w0:World} {H0:List Bk} {old:List Nat}
theorem qg8 {t:TypeId} {f off b o':Nat} (hf:qC P t f=some off):(Instr.fieldAt t (.pointer (some ⟨b,o',none⟩)) f).run P w = .ok (.pointer (some ⟨b,o'+off,none⟩)) w:=by
 unfold qC at hf
 cases hu:P.underlying t with
 | none=>rw [hu] at hf; cases hf
 | some d =>
  cases d with
  | struct fs =>
   rw [hu] at hf
   simp only at hf
   cases hfd:fs[f]? with
   | none=>rw [hfd] at hf; cases hf
   | some fd =>
    rw [hfd] at hf
    simp only at hf
    cases hsz:sizeT P fd.type with
    | none=>rw [hsz] at hf; cases hf
    | some n =>
     rw [hsz] at hf
     cases n with
     | zero=>cases hf
     | succ n =>
      cases hf
      simp only [Instr.fieldAt,Sem.run_bind,qX hu,Result.andThen_ok,hfd,Instr.sureAddr,Sem.run_pure,fieldPlace,run_sizeOf hsz]
      simp [add_eq]
  | _=>rw [hu] at hf; cases hf
def QB:Fr→List Nat
 | [] => []
 | (k,_)::F=>k::QB F
end
end AM
end Go.Proofs.YtnconfggojpkcaaGreat
