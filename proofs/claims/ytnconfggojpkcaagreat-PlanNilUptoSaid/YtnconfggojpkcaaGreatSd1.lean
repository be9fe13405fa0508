/- Texts that a law rests on, part d1: plain lemmas and what functions of the program do. No condition. -/
import Derived.BigQuiet
import Derived.Deep.QuietTactic
import Derived.Deep.Slices
import Derived.Ground.GgsProg
import Derived.JoinedCond
import Derived.Laws.MakeOwn
import Derived.Lib.AppendZeros
import Derived.Lib.SlicesCompact
import Derived.Maps.AppendAt
import Derived.OpenShut
import Derived.ProofKit
import Derived.Scope
import Derived.Shelf.GgSortFunc.Tiny
import Derived.Shelf.SlSortFuncK.WholeK
import Derived.Shelf.Slices.CompactI
import Derived.Shelf.Slices.In.SortNone
import Derived.Shelf.Sort.Plain
import Derived.SizedLaws
import Derived.Sort.OwnSorted
import Derived.Sort.OwnSortedInts
import Derived.Test.YtnconfggojpkcaaGreatRows
import Derived.WalkKit
import Derived.WalkLawsBesides
import Derived.WalkSpells
import Derived.WideKeyRuns
import Derived.Test.YtnconfggojpkcaaGreatSz7
set_option linter.all false
set_option maxHeartbeats 16000000
set_option maxRecDepth 100000
namespace Go.Proofs.YtnconfggojpkcaaGreat
open Go.RowKit
section
variable {w w':World} {g:Nat} {t:TypeId} {cs:Array Value}
end
section
variable {S S':Nat→Prop} {w w' w'':World}
end
section
variable {α:Type} {w w':World} {B B' sz:Nat} {enc:α→List Value} {v:Value} {xs:List α}
end
section
variable {α:Type} {w w':World} {base B sz:Nat} {e:TypeId} {enc:α→List Value} {v:Value} {xs:List α}
end
def Stop (p:Prop):Prop:=p
end Go.Proofs.YtnconfggojpkcaaGreat
namespace Go.Proofs.YtnconfggojpkcaaGreat
open Go.RowKit AM
theorem TrP.perm {H:List Bk} {r b:Nat} {S S':List Pr} {T:Nat→Prop} (h:TrP H r b S T) (hp:S.Perm S'):TrP H r b S' T:=by
 obtain ⟨nb,mb,cap,s,es,I,h,hT⟩:=h
 exact ⟨nb,mb,cap,s,es,I,⟨h.tr,h.rep.congr (fun _ _=>rfl) hp,h.fit,h.ok.sub (fun r hr=>hp.mem_iff.2 hr) (by rw [hp.length_eq]; exact Nat.le_refl _),(hp.map Pr.id).nodup_iff.1 h.ids,h.es.trans hp⟩,hT⟩
section
variable {H:List Bk} {r b:Nat} {S:List Pr} {T:Nat→Prop}
end
end Go.Proofs.YtnconfggojpkcaaGreat
namespace Go.Proofs.YtnconfggojpkcaaGreat
open Go.RowKit Go.ChangeShapes Go.WideShapes Go.ChangeAt AM
section
variable {H:Type}
theorem XT (d:DataW H):1≤Rows.uptoBulk d:=by
 cases d with
 | lit l=>cases l <;> simp [Rows.uptoBulk]
 | _=>simp [Rows.uptoBulk]
theorem JV {d:DataW H} {l:List (DataW H)} (h:d∈l):Rows.uptoBulk d≤Rows.uptoBulkAll l:=by
 induction l with
 | nil=>cases h
 | cons x r ih =>
  simp only [Rows.uptoBulkAll]
  rcases List.mem_cons.1 h with e | e
  ·subst e; omega
  ·have:=ih e; omega
theorem JA (l:List (DataW H)):l.length≤Rows.uptoBulkAll l:=by
 induction l with
 | nil=>simp [Rows.uptoBulkAll]
 | cons x r ih =>
  have:=XT x
  simp only [Rows.uptoBulkAll,List.length_cons]
  omega
theorem YK {x:Ru} {e:DataW H} (h:RuD x e):x.boxes.length≤Rows.uptoBulk e:=by
 obtain ⟨parts,e5,rfl,hp,hs⟩:=h
 have h1:=JV (List.mem_of_getElem? hp)
 rcases hs with h0 | ⟨es,sp,rfl,hl,_⟩
 ·rw [h0]; simp
 ·have h2:=JA es
  simp only [Rows.uptoBulk] at h1 ⊢
  omega
theorem V9 {xs:List Ru} {d:DataW H} (h:JB (fun (x:Ru) (e:DataW H)=>x.boxes.length≤maxLen∧RuD x e) xs d):(qg xs).length≤Rows.uptoBulk d:=by
 rcases h with rfl | ⟨es,sp,rfl,hl,hx⟩
 ·simp [qg]
 ·have go:∀ (xs:List Ru) (es:List (DataW H)),es.length=xs.length→(∀ (i:Nat) (x:Ru) (e:DataW H),xs[i]? = some x→es[i]? = some e→x.boxes.length≤maxLen∧RuD x e)→(qg xs).length≤Rows.uptoBulkAll es:=by
   intro xs
   induction xs with
   | nil=>intro es _ _; simp [qg]
   | cons x xs ih =>
    intro es hl hx
    cases es with
    | nil=>simp at hl
    | cons e es =>
     have h1:=ih es (by simpa using hl) fun i x e h1 h2=>hx (i+1) x e (by simpa using h1) (by simpa using h2)
     have h2:=YK (hx 0 x e rfl rfl).2
     have e1:qg (x::xs)=x.boxes++qg xs:=by simp [qg]
     rw [e1,List.length_append]
     simp only [Rows.uptoBulkAll]
     omega
  have h1:=go xs es hl hx
  simp only [Rows.uptoBulk]
  omega
theorem YJ {xs:List Ru} {d:DataW H} (h:JB (fun (x:Ru) (e:DataW H)=>x.boxes.length≤maxLen∧RuD x e) xs d):xs.length≤Rows.uptoBulk d:=by
 rcases h with rfl | ⟨es,sp,rfl,hl,hx⟩
 ·simp
 ·have:=JA es
  simp only [Rows.uptoBulk]
  omega
theorem Yh {ds:List (DataW H)} (hk:Rows.uptoSmall H ds=true):Rows.uptoBulkAll ds≤1048576:=of_decide_eq_true hk
end
theorem XK {f:FuncId} {fn:Func} {s:ChangeSpec} (hfn:Tryz.prog.funcs[f]? = some fn) (noInit:Tryz.prog.inits.idxOf? f=none) (hvars:s.vars = []) (hres:fn.resultTypes = #[4])
  (hts:∀ t∈fn.params.toList,Tryz.prog.readableRec t=true∧t<Tryz.prog.types.size) (hs:∀ (H:Type) (ds:List (DataW H)),ds.length=fn.params.toList.length→s.fn H ds = { results := [.lit (.bool true)],args:=ds })
  (os:Os) (started:os.Started) (H:Type) (enc:TypeId×Value→H) (F:Stop.Interp)
  (witness:∃ (w:World) (tape:Tape) (i:Input),w.os=os∧(w.forCall tape i).Shaped Tryz.prog∧i.vars = []∧Input.okWide Tryz.prog (w.forCall tape i) .any w.heap.size f i ∧
   (Rows.OpenSpec.upto s).pre6 enc Tryz.prog fn [] false (w.forCall tape i).memory i.args∧({}:Assume).holds Tryz.prog (lone (Frame.enter Tryz.prog f i.args .normal) [] (w.forCall tape i)))
  (walk:∀ (W:World) (base:Nat) (args:Array Value) (ds:List (DataW H)) (p:List MemPlace),(∀ (j:Nat) t v,fn.params[j]? = some t→args[j]? = some v→Value.okWide Tryz.prog W .any base t v) →
   DataW.TrodAll enc Tryz.prog W 0 (fun _=>true) true fn.params.toList args.toList ds p→Rows.uptoSmall H ds=true→Calls Tryz.prog f args W (Yes W)) :
  ReturnsInHanded {} Tryz.checked os f .any ((Rows.OpenSpec.upto s).pre6 enc Tryz.prog fn [] false) (((Rows.OpenSpec.upto s).at F).post enc Tryz.prog fn false true false false):=by
 refine returnsInHanded_of_cond (C:=Tryz.checked) (s:=Rows.OpenSpec.upto s) (k:=Rows.uptoSmall) rfl own started noInit hfn witness ?_
 intro W base args ds gs before hval hW _ hk _
 have hW:DataW.Whole enc Tryz.prog fn.params.toList s.vars false W args.toList ds gs before:=hW
 have hW':=hW
 obtain ⟨p,q,hA,hV,rfl,hfz,hnd⟩:=hW
 have hA':DataW.TrodAll enc Tryz.prog W 0 (fun _=>true) true fn.params.toList args.toList ds p:=hA
 obtain ⟨rfl,rfl⟩:gs = []∧q = []:=by
  rw [hvars] at hV
  exact trodVars_none hV
 rw [List.append_nil] at hk
 refine (walk W base args ds p hval hA' hk).mono fun e W' ⟨he,hb⟩ => ?_
 subst he
 have hlen:ds.length=fn.params.toList.length:=Wx hA'
 have hfn':s.fn H (ds ++ []) = { results := [.lit (.bool true)],args:=ds }:=by rw [List.append_nil]; exact hs H ds hlen
 have hlt:∀ x∈p,x.block<W.heap.size:=fun x hx=>hW'.lt x (by simpa using hx)
 have hp:s.post enc Tryz.prog fn false true false false W args (.bool true) W':=by
  refine V3 (pa:=p) (pv := []) hW' (fun b sp hd => ?_) (fun sp hsp => ?_) (fun sp _ => ?_) (by simp) hb ?_
  ·rw [hfn',hres]
   exact trodAll_cons_mk (shut_bool Tryz.underlying4 _) trodAll_mk0
  ·rw [hfn']
   exact X5 laidOut hb hts hA' hlt (fun x hx=>hsp x (by simpa using hx))
  ·rw [hvars,hfn']
   rfl
  ·exact ok_one hres rfl (okWide_bool_mk Tryz.underlying4 _)
 exact ⟨_,rfl,hp⟩
end Go.Proofs.YtnconfggojpkcaaGreat
namespace Go.Proofs.YtnconfggojpkcaaGreat
open Go.RowKit AM
attribute [local simp] zQ qU jL zT zq zR zS zo jM zu qV Z8 Qm jC Ql yc ZE vZ slF qG Qo zK yx zA shares jh yt ze Qz QI qY ZF qZ qM vX zH yu Qe qL zD zG vU slV jE jG yE zU ZJ jB jF aMM aUn Qp vW jD zC jA qJ vV Qu vY vS Zw y9 qK Qs ZK zJ zI jH jR ZH eval zZ AM.valOf qm vO yR del SV.refers zY vQ jU shift ldV V.exact V.jg V.ofValue V.vP V.vL V.cells V.one Value.oneCell' ZI QY jV Q5 ZM ZC Qa Zy jl jI Qi ZL y8 yX Qr calm Qt Zn Qk feeds shrinks Qx looks isT Qf vK Qd putAt jT jc Zm sliceB isEq Qg zk qH zO zn qR zl zm qQ zP zi qP ZW Qw yB Zl QZ inO y7 Zi Mix.vT Mix.Qc QB QX qz qj qW zh qO ZV Qq yg yh ZG Zb yw yO Q8 jW V.fixed V.vC
attribute [local simp] vE je yL vH jQ vF vG jP yM vk jN V5 Ja yF QT Jb z0 JL VK Vo VU
def WG (s:Pr) (a:List Pr×Bool) (x:Pr):List Pr×Bool:=if (!a.2&&decide (s.id<x.id))=true then (a.1 ++ [s] ++ [x],true) else (a.1 ++ [x],a.2)
def yY (s:Pr) (zs:List Pr):List Pr×Bool:=zs.foldl (WG s) ([],false)
def Vk (xs:List Pr) (s:Pr):List Pr:=if (yY s xs).2=true then (yY s xs).1 else (yY s xs).1 ++ [s]
theorem JR {s:Pr} {zs:List Pr} {k:Nat} (h:k<zs.length):yY s (zs.take (k+1))=WG s (yY s (zs.take k)) zs[k]:=by
 unfold yY
 rw [Q0 h,List.foldl_append]
 rfl
def QV (S:List Pr):Prop:=S.Pairwise fun p q=>p.id<q.id
theorem QV.nodup {S:List Pr} (h:QV S):(S.map Pr.id).Nodup:=List.pairwise_map.2 (h.imp fun h=>by omega)
theorem XL {zs:List Pr} (hz:QV zs) {n:Nat} (hlt:n<zs.length):∀ t∈zs.take n,t.id<zs[n].id:=fun t ht=>by
 obtain ⟨i,hi,e⟩:=List.getElem_of_mem ht
 rw [List.length_take] at hi
 rw [List.getElem_take] at e
 rw [← e]
 exact List.pairwise_iff_getElem.1 hz i n (by omega) hlt (by omega)
theorem YO {s:Pr} {zs:List Pr} (hz:QV zs) (hn:∀ t∈zs,t.id≠s.id):∀ n,n≤zs.length→((yY s (zs.take n)).2=true→(yY s (zs.take n)).1.Perm (s::zs.take n)∧QV (yY s (zs.take n)).1∧∃ t∈zs.take n,s.id<t.id)∧((yY s (zs.take n)).2=false→(yY s (zs.take n)).1=zs.take n∧∀ t∈zs.take n,t.id<s.id):=by
 intro n
 induction n with
 | zero=>intro _; simp [yY]
 | succ n ih =>
  intro hle
  have hlt:n<zs.length:=by omega
  have ih:=ih (by omega)
  have hs:=JR (s:=s) hlt
  have hpre:=XL hz hlt
  have hinc:QV (zs.take n):=List.Pairwise.sublist (List.take_sublist n zs) hz
  have hne:zs[n].id≠s.id:=hn _ (List.getElem_mem hlt)
  rw [hs,Q0 hlt]
  generalize hx:zs[n]=x at *
  generalize hp:zs.take n=pre at *
  generalize yY s pre=a at *
  obtain ⟨l,b⟩:=a
  unfold WG
  simp only at ih ⊢
  cases b with
  | true =>
   obtain ⟨h1,h2,t,h3,h4⟩:=ih.1 rfl
   simp only [Bool.not_true,Bool.false_and,Bool.false_eq_true,if_false]
   refine ⟨fun _=>⟨h1.append_right [x],List.pairwise_append.2 ⟨h2,List.pairwise_singleton _ _,fun y hy z hz' => ?_⟩,t,by simp [h3],h4⟩,fun e=>by cases e⟩
   rw [List.mem_singleton] at hz'
   subst hz'
   rcases List.mem_cons.1 (h1.mem_iff.1 hy) with rfl | hy
   ·have:=hpre t h3
    omega
   ·exact hpre y hy
  | false =>
   obtain ⟨h1,h2⟩:=ih.2 rfl
   subst h1
   by_cases he:s.id<x.id
   ·simp only [he,decide_true,Bool.not_false,Bool.and_self,if_true]
    refine ⟨fun _=>⟨?_,?_,x,by simp,he⟩,fun e=>by cases e⟩
    ·rw [List.append_assoc]
     exact List.perm_middle
    ·refine List.pairwise_append.2 ⟨List.pairwise_append.2 ⟨hinc,List.pairwise_singleton _ _,fun y hy z hz' => ?_⟩,List.pairwise_singleton _ _,fun y hy z hz' => ?_⟩
     ·rw [List.mem_singleton] at hz'
      subst hz'
      exact h2 y hy
     ·rw [List.mem_singleton] at hz'
      subst hz'
      rcases List.mem_append.1 hy with hy | hy
      ·exact hpre y hy
      ·rw [List.mem_singleton] at hy
       subst hy
       exact he
   ·simp only [he,decide_false,Bool.and_false,Bool.false_eq_true,if_false]
    refine ⟨fun e=>(by cases e),fun _=>⟨trivial,fun t ht => ?_⟩⟩
    rcases List.mem_append.1 ht with ht | ht
    ·exact h2 t ht
    ·rw [List.mem_singleton] at ht
     subst ht
     omega
theorem Js {xs:List Pr} {s:Pr} (hx:QV xs) (hn:∀ t∈xs,t.id≠s.id):(Vk xs s).Perm (s::xs)∧QV (Vk xs s):=by
 have h:=YO (s:=s) hx hn _ (Nat.le_refl _)
 rw [List.take_length] at h
 unfold Vk
 cases hb:(yY s xs).2 with
 | true =>
  obtain ⟨h1,h2,_⟩:=h.1 hb
  simp only [if_true]
  exact ⟨h1,h2⟩
 | false =>
  obtain ⟨h1,h2⟩:=h.2 hb
  simp only [Bool.false_eq_true,if_false,h1]
  refine ⟨List.perm_append_comm,List.pairwise_append.2 ⟨hx,List.pairwise_singleton _ _,fun y hy z hz' => ?_⟩⟩
  rw [List.mem_singleton] at hz'
  subst hz'
  exact h2 y hy
def ZA (a:List Pr) (s:Pr):List Pr:=if qa2 a s=0 then Vk a s else a
def jK (l:List Pr):List Pr:=l.foldl ZA []
theorem Jg {l:List Pr} {k:Nat} (h:k<l.length):jK (l.take (k+1))=ZA (jK (l.take k)) l[k]:=by
 unfold jK
 rw [Q0 h,List.foldl_append]
 rfl
theorem YV {a:List Pr} {s:Pr} (h:QV a):QV (ZA a s):=by
 unfold ZA
 split
 ·rename_i e
  exact (Js h (VH e).2).2
 ·exact h
theorem Jw {a:List Pr} {s:Pr} (h:QV a):(ZA a s).Perm (YA a s):=by
 unfold ZA YA
 split
 ·rename_i e
  exact (Js h (VH e).2).1
 ·exact List.Perm.refl _
theorem YU {a:List Pr} {s:Pr} (h:QV a):(ZA a s).length≤a.length+1:=by
 rw [(Jw h).length_eq]
 exact qbV
theorem Z7 (l:List Pr):QV (jK l)∧(jK l).length≤l.length:=by
 have go:∀ n,n≤l.length→QV (jK (l.take n))∧(jK (l.take n)).length≤n:=by
  intro n
  induction n with
  | zero=>intro _; simp [jK,QV]
  | succ n ih =>
   intro hn
   obtain ⟨h1,h2⟩:=ih (by omega)
   rw [Jg (by omega)]
   have:=YU (s:=l[n]) h1
   exact ⟨YV h1,by omega⟩
 have:=go l.length (Nat.le_refl _)
 rwa [List.take_length] at this
theorem YR {a b:List Pr} (h:a.Perm b) (hn:(b.map Pr.id).Nodup) (s:Pr):(YA a s).Perm (YA b s):=by
 unfold YA
 rw [qas hn h]
 split
 ·exact h.cons s
 ·exact h
theorem Ya (R:List Pr):(Zr R).Perm (jK R):=by
 have go:∀ n,n≤R.length→(Zr (R.take n)).Perm (jK (R.take n)):=by
  intro n
  induction n with
  | zero=>intro _; simp [Zr,jK]
  | succ n ih =>
   intro hn
   have ih:=ih (by omega)
   have hi:=(Z7 (R.take n)).1
   have e:Zr (R.take (n+1))=YA (Zr (R.take n)) (R[n]'(by omega)):=by
    unfold Zr
    rw [List.take_succ_eq_append_getElem (by omega),List.foldl_append]
    rfl
   rw [e,Jg (by omega)]
   exact (YR ih hi.nodup _).trans (Jw hi).symm
 have:=go R.length (Nat.le_refl _)
 rwa [List.take_length] at this
section
variable {H H':List Bk} {l l':List Ru} {S:List Pr} {C:List Sh} {r c t m r' c' t' m':Nat} {Tp Tc Tp' Tc':Nat→Prop}
theorem Z9.recs {R:List Pr} (h:Z9 H l (Zr R) C r c t m Tp Tc):Z9 H l (jK R) C r c t m Tp Tc:=⟨h.tb,h.tp.perm (Ya R),h.tc,h.pm,h.cm⟩
end
theorem qaG (l:List Ru) (v:Vw) (rc:Re) (S:List Pr):qdM l v rc S=(Je l v S).filter fun s=>qE s.box rc:=rfl
def Vj (e:Int) (R:List Se):List Se:=if e=0 then R else []
theorem Y3 (e:Int) (R:List Se):Wu e R = .tup [QA (Vj e R),.sc (.int .i64 e)]:=rfl
def wzC:V := .agg [.sc (.pointer none),.sc (.pointer none),.sc (.pointer none)]
theorem nilEq1 {x y:Operand}:XU Tryz.prog .eql 34 x y (.pointer none) (.pointer none)=some (.bool true):=by kernel_rfl
theorem qkS (v:Vw) (m:Int) (b:Bool) (H:List Bk):AFn Tryz.prog 47 [wzC,.agg v.cs,.sc (.int .i64 m),.sc (.bool b)] H fun y H'=>y = .sc (.int .i64 3)∧Kp NoB H H':=by
 unfold wzC Vw.cs
 refine vwc (fn:=Tryz.f47) rfl ?_
 simp only [Tryz.f47,ql]
 refine AW.seq (vwb ?_)
 simp
 have k1:Kp NoB H (H ++ [wzB,vwB v]):=Kp.refl.app
 have g0:(H ++ [wzB,vwB v])[H.length]? = some wzB:=by simp
 change AW _ _ _ _ ⟨_,H ++ [wzB,vwB v]⟩
 generalize H ++ [wzB,vwB v]=H1 at *
 unfold wzB at g0
 refine AW.seq (vwb ?_)
 simp [g0,nilEq1]
 exact k1
theorem qo3 (v:Vw) (rc:Re) (mm:Int) (H:List Bk):AFn Tryz.prog 18 [wzC,.agg v.cs,rc.v,.sc (.int .i64 mm)] H fun y H'=>y = .tup [.nil,.sc (.int .i64 3)]∧Kp NoB H H':=by
 have hA:=fun H=>qkS v mm (qd rc) H
 have hR:=Jc rc
 unfold wzC Vw.cs at hA ⊢
 unfold Re.v Re.cs at hR ⊢
 refine vwc (fn:=Tryz.f18) rfl ?_
 simp only [Tryz.f18,ql]
 refine AW.seq (vwa [(1,5,[4,5,3,6])] ?_)
 simp
 have k1:Kp NoB H (H ++ [wzB,vwB v,reB rc]):=Kp.refl.app
 have e0:(H ++ [wzB,vwB v,reB rc])[H.length]? = some wzB:=by simp
 have e1:(H ++ [wzB,vwB v,reB rc])[H.length+1]? = some (vwB v):=by simp
 have e2:(H ++ [wzB,vwB v,reB rc])[H.length+2]? = some (reB rc):=by simp
 change AW _ _ _ _ ⟨_,H ++ [wzB,vwB v,reB rc]⟩
 generalize H ++ [wzB,vwB v,reB rc]=H1 at *
 generalize H.length+1=i1 at *
 generalize H.length+2=i2 at *
 unfold wzB at e0
 unfold vwB at e1
 unfold reB at e2
 refine AW.seq (AW.seq (vwa [(1,5,[4,5,3,6])] ?_))
 simp [e0,e1,e2]
 refine qc.pure hR rfl rfl ?_
 simp [e0,e1,e2]
 refine qc.of (hA H1) ?_
 rintro y H2 ⟨rfl,k2⟩
 have kp2:=k2.YF (fun x h=>h)
 have f0:=k2.cells id e0
 have f1:=k2.cells id e1
 have f2:=k2.cells id e2
 simp [e0,e1,e2,f0,f1,f2,kp2]
 refine vwa [(1,5,[4,5,3,6])] ?_
 simp
 exact k1.trans k2
theorem plNear0 (v:Vw) (p:Pt) (mm:Int) (H:List Bk):AFn Tryz.prog 19 [wzC,.agg v.cs,p.v,.sc (.int .i64 mm)] H fun y H'=>y = .tup [.nil,.sc (.int .i64 3)]∧Kp NoB H H':=by
 have hA:=fun H=>qkS v mm (fits p) H
 have hR:=KG p
 unfold wzC Vw.cs at hA ⊢
 unfold Pt.v Pt.cs at hR ⊢
 refine vwc (fn:=Tryz.f19) rfl ?_
 simp only [Tryz.f19,ql]
 refine AW.seq (vwa [(1,5,[4,5,7,6])] ?_)
 simp
 have k1:Kp NoB H (H ++ [wzB,vwB v,ptB p,zB mm]):=Kp.refl.app
 have e0:(H ++ [wzB,vwB v,ptB p,zB mm])[H.length]? = some wzB:=by simp
 have e1:(H ++ [wzB,vwB v,ptB p,zB mm])[H.length+1]? = some (vwB v):=by simp
 have e2:(H ++ [wzB,vwB v,ptB p,zB mm])[H.length+2]? = some (ptB p):=by simp
 have e3:(H ++ [wzB,vwB v,ptB p,zB mm])[H.length+3]? = some (zB mm):=by simp
 change AW _ _ _ _ ⟨_,H ++ [wzB,vwB v,ptB p,zB mm]⟩
 generalize H ++ [wzB,vwB v,ptB p,zB mm]=H1 at *
 generalize H.length+1=i1 at *
 generalize H.length+2=i2 at *
 generalize H.length+3=i3 at *
 unfold zB at e3
 unfold wzB at e0
 unfold vwB at e1
 unfold ptB at e2
 refine AW.seq (AW.seq (vwa [(1,5,[4,5,7,6])] ?_))
 simp [e0,e1,e2,e3]
 refine qc.pure hR rfl rfl ?_
 simp [e0,e1,e2,e3]
 refine qc.of (hA H1) ?_
 rintro y H2 ⟨rfl,k2⟩
 have kp2:=k2.YF (fun x h=>h)
 have f0:=k2.cells id e0
 have f1:=k2.cells id e1
 have f2:=k2.cells id e2
 have f3:=k2.cells id e3
 simp [e0,e1,e2,e3,f0,f1,f2,f3,kp2]
 refine vwa [(1,5,[4,5,7,6])] ?_
 simp
 exact k1.trans k2
theorem qo4 (v:Vw) (rc:Re) (mm:Int) (H:List Bk):AFn Tryz.prog 27 [wzC,.agg v.cs,rc.v,.sc (.int .i64 mm)] H fun y H'=>y = .tup [.nil,.sc (.int .i64 3)]∧Kp NoB H H':=by
 have hA:=fun H=>qkS v mm (qd rc) H
 have hR:=Jc rc
 unfold wzC Vw.cs at hA ⊢
 unfold Re.v Re.cs at hR ⊢
 refine vwc (fn:=Tryz.f27) rfl ?_
 simp only [Tryz.f27,ql]
 refine AW.seq (vwa [(1,5,[4,5,3,6])] ?_)
 simp
 have k1:Kp NoB H (H ++ [wzB,vwB v,reB rc]):=Kp.refl.app
 have e0:(H ++ [wzB,vwB v,reB rc])[H.length]? = some wzB:=by simp
 have e1:(H ++ [wzB,vwB v,reB rc])[H.length+1]? = some (vwB v):=by simp
 have e2:(H ++ [wzB,vwB v,reB rc])[H.length+2]? = some (reB rc):=by simp
 change AW _ _ _ _ ⟨_,H ++ [wzB,vwB v,reB rc]⟩
 generalize H ++ [wzB,vwB v,reB rc]=H1 at *
 generalize H.length+1=i1 at *
 generalize H.length+2=i2 at *
 unfold wzB at e0
 unfold vwB at e1
 unfold reB at e2
 refine AW.seq (AW.seq (vwa [(1,5,[4,5,3,6])] ?_))
 simp [e0,e1,e2]
 refine qc.pure hR rfl rfl ?_
 simp [e0,e1,e2]
 refine qc.of (hA H1) ?_
 rintro y H2 ⟨rfl,k2⟩
 have kp2:=k2.YF (fun x h=>h)
 have f0:=k2.cells id e0
 have f1:=k2.cells id e1
 have f2:=k2.cells id e2
 simp [e0,e1,e2,f0,f1,f2,kp2]
 refine vwa [(1,5,[4,5,3,6])] ?_
 simp
 exact k1.trans k2
theorem qjg (v:Vw) (p:Pt) (mm:Int) (H:List Bk):AFn Tryz.prog 32 [wzC,.agg v.cs,p.v,.sc (.int .i64 mm)] H fun y H'=>y = .tup [.nil,.sc (.int .i64 3)]∧Kp NoB H H':=by
 have hA:=fun H=>qkS v mm (fits p) H
 have hR:=KG p
 unfold wzC Vw.cs at hA ⊢
 unfold Pt.v Pt.cs at hR ⊢
 refine vwc (fn:=Tryz.f32) rfl ?_
 simp only [Tryz.f32,ql]
 refine AW.seq (vwa [(1,5,[4,5,7,6])] ?_)
 simp
 have k1:Kp NoB H (H ++ [wzB,vwB v,ptB p,zB mm]):=Kp.refl.app
 have e0:(H ++ [wzB,vwB v,ptB p,zB mm])[H.length]? = some wzB:=by simp
 have e1:(H ++ [wzB,vwB v,ptB p,zB mm])[H.length+1]? = some (vwB v):=by simp
 have e2:(H ++ [wzB,vwB v,ptB p,zB mm])[H.length+2]? = some (ptB p):=by simp
 have e3:(H ++ [wzB,vwB v,ptB p,zB mm])[H.length+3]? = some (zB mm):=by simp
 change AW _ _ _ _ ⟨_,H ++ [wzB,vwB v,ptB p,zB mm]⟩
 generalize H ++ [wzB,vwB v,ptB p,zB mm]=H1 at *
 generalize H.length+1=i1 at *
 generalize H.length+2=i2 at *
 generalize H.length+3=i3 at *
 unfold zB at e3
 unfold wzB at e0
 unfold vwB at e1
 unfold ptB at e2
 refine AW.seq (AW.seq (vwa [(1,5,[4,5,7,6])] ?_))
 simp [e0,e1,e2,e3]
 refine qc.pure hR rfl rfl ?_
 simp [e0,e1,e2,e3]
 refine qc.of (hA H1) ?_
 rintro y H2 ⟨rfl,k2⟩
 have kp2:=k2.YF (fun x h=>h)
 have f0:=k2.cells id e0
 have f1:=k2.cells id e1
 have f2:=k2.cells id e2
 have f3:=k2.cells id e3
 simp [e0,e1,e2,e3,f0,f1,f2,f3,kp2]
 refine vwa [(1,5,[4,5,7,6])] ?_
 simp
 exact k1.trans k2
theorem errNeW {x y:Operand} {u v:Int}:XU Tryz.prog .neq 49 x y (.int .i64 u) (.int .i64 v)=some (.bool (u != v)):=rfl
theorem wWorldN (R:List Pr) (hR:R.length≤300000) (H:List Bk) :
  AFn Tryz.prog 11 [.nil,lV R,.nil] H fun y H'=>∃ r c t m Tp Tc,y = .tup [wdC r c t,.sc (.bool true)]∧WoJ H H' [] (Zr R) [] r c t m Tp Tc:=by
 have h:=(qdg [] (by decide) (by decide) R hR [] (by decide) H).weak (JW.qgA (sz:=7) (JW.cons (JW.qgA (sz:=6) (JW.refl _))))
 refine h.mono' ?_
 rintro y H' ⟨_,_,h⟩
 exact h (by decide)
theorem zoom_nil (ro ti la:Int) (p:Pt):vN [] ro ti la p=0:=by
 have h:=QN [] ro ti la p
 simp [vN,qe3,qe3.eq_def]
theorem docS_nil (v:Vw) (S:List Pr):Je [] v S = []:=by
 unfold Je
 rw [List.filterMap_eq_nil_iff]
 intro t _
 cases h:Zq (zmP [] v) v t with
 | none=>rfl
 | some s =>
  obtain ⟨h1,h2,h3,h4,h5,h6,h7⟩:=qam (qbu [] v t) h
  have e:zmP [] v t=0:=zoom_nil _ _ _ _
  rw [e] at h5
  exact absurd rfl (qcR h1 h5 (Int.le_refl 0))
theorem nilLaw (q:Qv) (R:List Pr) (hl:q.l.length≤1048576) (hn:(qg q.l).length≤1048576) (hr:R.length≤300000):AFn Tryz.prog 9 [q.w,lV R] [] fun y _=>y = .sc (.bool true):=by
 have hK:=fun H=>qdS H
 have hW:=fun H=>wWorldN R hr H
 have h1:=fun H=>qo3 q.v q.r q.m H
 have h2:=fun H=>plNear0 q.v q.p q.m H
 have h3:=fun H=>qo4 q.v q.r q.m H
 have h4:=fun H=>qjg q.v q.p q.m H
 unfold wzC Vw.cs Re.v Re.cs at h1 h3
 unfold wzC Vw.cs Pt.v Pt.cs at h2 h4
 unfold Qv.w Qv.cs
 refine vwc (fn:=Tryz.f9) rfl ?_
 simp only [Tryz.f9,ql]
 refine AW.seq (vwb ?_)
 simp [slU]
 have e0 : [qvB q][0]? = some (qvB q):=rfl
 change AW _ _ _ _ ⟨_,[qvB q]⟩
 generalize [qvB q]=H0 at *
 unfold qvB at e0
 refine AW.seq (vwb ?_)
 simp [e0]
 refine qc.of (h1 _) ?_
 rintro y H1 ⟨rfl,kk⟩
 have e0:=kk.cells id e0
 have kp:=eq_true (kk.YF (fun x h=>h))
 clear kk
 simp [kp]
 refine AW.seq (vwb ?_)
 simp [e0]
 refine qc.of (h2 _) ?_
 rintro y H2 ⟨rfl,kk⟩
 have e0:=kk.cells id e0
 have kp:=eq_true (kk.YF (fun x h=>h))
 clear kk
 simp [kp]
 refine AW.seq (vwb ?_)
 simp [e0]
 refine qc.of (h3 _) ?_
 rintro y H3 ⟨rfl,kk⟩
 have e0:=kk.cells id e0
 have kp:=eq_true (kk.YF (fun x h=>h))
 clear kk
 simp [kp]
 refine AW.seq (vwb ?_)
 simp [e0]
 refine qc.of (h4 _) ?_
 rintro y H4 ⟨rfl,kk⟩
 have e0:=kk.cells id e0
 have kp:=eq_true (kk.YF (fun x h=>h))
 clear kk
 simp [kp]
 refine AW.sub [(2,.v (.ptr 0 0)),(1,.v (lV R)),(6,.v (.sc (.int .i64 3))),(8,.v (.sc (.int .i64 3))),(10,.v (.sc (.int .i64 3))),(12,.v (.sc (.int .i64 3))),(4,.v (.sc (.bool false)))] (by simp [qbh,qm]) ?_
 refine AW.seq (vwb ?_)
 simp [errNeW]
 refine AW.seq (vwb ?_)
 simp
 refine qc.of (hW _) ?_
 rintro y H5 ⟨r,c,t,m,Tp,Tc,rfl,hJ⟩
 have e0:=hJ.kp.cells id e0
 have kp:=eq_true (hJ.kp.YF (fun x h=>h))
 have hWo:=hJ.ok.recs
 clear hJ
 unfold wdC
 simp [kp]
 rw [qp rfl]
 change AW _ _ _ _ ⟨_,H5 ++ [wdB r c t]⟩
 have g0:=hget (L := [wdB r c t]) e0
 have g1:(H5 ++ [wdB r c t])[H5.length]? = some (wdB r c t):=by simp
 have hW1:=hWo.app (L := [wdB r c t])
 clear hWo e0 kp
 generalize H5 ++ [wdB r c t]=H6 at *
 generalize H5.length=i1 at *
 by_cases h30:30<R.length
 ·have h30':(30:Int)<R.length:=by omega
  refine AW.seq (vwb ?_)
  simp [lV,h30,h30']
  refine qc.of (hK _) ?_
  rintro y H7 ⟨rfl,k2⟩
  simp
 ·have h30':¬ (30:Int)<R.length:=by omega
  refine AW.seq (vwb ?_)
  simp [lV,h30,h30']
  have hs:=Z7 R
  have hw:=qaK hW1 ⟨by decide,by decide,by decide⟩ hs.1 (by omega) q.v q.r q.m
  rw [qaG,docS_nil,Y3] at hw
  have ea:Vj (yN q.v q.m (qd q.r)) (List.take q.m.toNat (List.filter (fun s=>qE s.box q.r) [])) = []:=by
   unfold Vj
   simp
  rw [ea] at hw
  unfold wdC Vw.cs Re.v Re.cs at hw
  unfold wdB at g1
  refine AW.seq (vwb ?_)
  simp [g0,g1]
  refine qc.of hw ?_
  rintro y H7 ⟨rfl,kK⟩
  obtain ⟨es,t1,m1⟩:=hW1.tb
  have kp:=eq_true (kK.Va t1)
  simp [kp,QA]
  refine vwb ?_
  simp
  refine qc.of (hK _) ?_
  rintro y H8 ⟨rfl,k2⟩
  simp
end Go.Proofs.YtnconfggojpkcaaGreat
namespace Go.Proofs.YtnconfggojpkcaaGreat
open Go.RowKit Go.ChangeShapes Go.WideShapes AM
section
variable {H:Type} {enc:TypeId×Value→H} {w:World} {base:Nat} {held:Bool} {r:Reach} {b0:Nat} {v:Value} {d:DataW H} {p:List MemPlace}
theorem Yu {cs:List Value} {x:Pr} (h:x.vals=cs):vM (said w) [] x.cs cs∧∀ u∈cs,u.oneCell'=true:=by
 subst h
 refine ⟨Yr (vs:=x.vals),fun u hu => ?_⟩
 simp only [Pr.vals,List.mem_cons,List.not_mem_nil,or_false] at hu
 rcases hu with rfl | rfl | rfl | rfl <;> rfl
theorem Yj {l:List (DataW H×List MemPlace)} {y:DataW H×List MemPlace} (h:y=(.agg (l.map (·.1)),l.flatMap (·.2))) (hl:l.length=3):4≤Rows.uptoBulk y.1:=by
 subst h
 have:=JA (l.map (·.1))
 rw [List.length_map] at this
 simp only [Rows.uptoBulk]
 omega
theorem Xf (hv:Value.okWide Tryz.prog w r b0 33 v) (h:DataW.Trod enc Tryz.prog w base (fun _=>true) held 33 v d p):∃ xs:List Pr,Rel (said w) [] (lV xs) v∧JB (fun (_:Pr) (e:DataW H)=>4≤Rows.uptoBulk e) xs d :=
 YM (fun (_:Pr) (e:DataW H)=>4≤Rows.uptoBulk e) (encV:=Pr.cs) (sz:=4) Tryz.underlying33 (by kernel_rfl) (by decide) (fun _=>rfl) (fun n cs y hy hl=>by
  obtain ⟨x,hx⟩:=Yx (Zz 6 _ _ _ _ _ qaT hy)
  obtain ⟨xs,m,_,hyd,_,hlen,_⟩:=DataW.trod_struct Tryz.underlying55 hy
  exact ⟨x,(Yu (w:=w) hx).1,(Yu (w:=w) hx).2,Yj hyd hlen⟩) (okWide_slice Tryz.underlying33 hv) h
theorem YX {l:List (DataW H)} (h:∀ e∈l,4≤Rows.uptoBulk e):4*l.length≤Rows.uptoBulkAll l:=by
 induction l with
 | nil=>simp
 | cons x l ih =>
  have h1:=h x (by simp)
  have h2:=ih fun e he=>h e (by simp [he])
  simp only [Rows.uptoBulkAll,List.length_cons]
  omega
theorem Vg {α:Type} {xs:List α} {d:DataW H} (h:JB (fun (_:α) (e:DataW H)=>4≤Rows.uptoBulk e) xs d):4*xs.length≤Rows.uptoBulk d:=by
 rcases h with rfl | ⟨es,sp,rfl,hl,hx⟩
 ·simp
 ·have:=YX (l:=es) fun e he=>by
   obtain ⟨i,hi⟩:=List.getElem?_of_mem he
   have hil:i<xs.length:=by rw [← hl]; exact (List.getElem?_eq_some_iff.1 hi).1
   exact hx i _ e (List.getElem?_eq_getElem hil) hi
  simp only [Rows.uptoBulk]
  omega
end
section
variable {H:Type}
theorem YG {q:Qv} {d:DataW H} (h:QvD q d):(qg q.l).length≤Rows.uptoBulk d∧q.l.length≤Rows.uptoBulk d:=by
 obtain ⟨parts,e,rfl,hp,hs⟩:=h
 have h1:=JV (List.mem_of_getElem? hp)
 have h2:=V9 hs
 have h3:=YJ hs
 simp only [Rows.uptoBulk]
 omega
end
end Go.Proofs.YtnconfggojpkcaaGreat
