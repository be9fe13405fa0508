/- Texts that a law rests on, part z4: plain lemmas and what functions of the program do. No condition. -/
import Derived.Deep.Slices
import Derived.Lib.SlicesCompact
import Derived.OpenShut
import Derived.ProofKit
import Derived.SizedLaws
import Derived.Test.YtnconfggojpkcaaGreatRows
import Derived.Test.YtnconfggojpkcaaGreatSz3
set_option linter.all false
set_option maxHeartbeats 16000000
set_option maxRecDepth 100000
namespace Go.Proofs.YtnconfggojpkcaaGreat
open Go.RowKit
namespace Mix
def qem (f k0:Nat) (ops:Array Oper):Bool :=
  qcC ops (Region.before ops) &&
  (Region.noSelect ops &&
  ((ops.zipIdx.all fun (o,i)=>o.after.all fun e => !Region.binds .any e||decide (e.on<i)) &&
  ((match ops[f]? with
    | some o=>o.after.all fun e => !Region.binds .any e
    | none=>false)&&(decide (f<k0) &&
  ((List.range ops.size).all fun i=>(List.range ops.size).all fun j => !decide (i<j)||(qae (Region.before ops) j i ||
    (decide (j<k0)&&match ops[i]?,ops[j]? with
     | some x,some y=>(decide (j=f)&&vT x)||(x.apart ops y&&qbd 2 x y)
     | _,_=>true)))))))
structure qe0 (f k0:Nat) (ops:Array Oper):Prop where
  cert:qcC ops (Region.before ops)=true
  sel:Region.noSelect ops=true
  back:∀ (i:Nat) (o:Oper),ops[i]? = some o→∀ e∈o.after,Region.binds .any e=true→e.on<i
  float:∃ o,ops[f]? = some o∧∀ e∈o.after,Region.binds .any e=false
  lt:f<k0
  pairs:∀ (i j:Nat) (x y:Oper),ops[i]? = some x→ops[j]? = some y→i<j→qae (Region.before ops) j i=true∨(j<k0∧((j=f∧vT x=true)∨(x.apart ops y=true∧qbd 2 x y=true)))
theorem qm4 {f k0:Nat} {ops:Array Oper} (h:qem f k0 ops=true):qe0 f k0 ops:=by
  simp only [qem,Bool.and_eq_true] at h
  obtain ⟨h1,h2,h3,hf,hl,h4⟩:=h
  refine ⟨h1,h2,fun i o ho e he hb => ?_,?_,of_decide_eq_true hl,fun i j x y hx hy hij => ?_⟩
  · have h5:=Array.all_eq_true_iff_forall_mem.1 h3 (o,i) (by
      rw [Array.mem_iff_getElem?]
      exact ⟨i,by simp [Array.getElem?_zipIdx,ho]⟩)
    have h6:=Array.all_eq_true_iff_forall_mem.1 h5 e he
    simpa [hb] using h6
  · cases ho:ops[f]? with
    | none=>rw [ho] at hf; cases hf
    | some o =>
      rw [ho] at hf
      exact ⟨o,rfl,fun e he=>by simpa using Array.all_eq_true_iff_forall_mem.1 hf e he⟩
  · have hi:i<ops.size:=(Array.getElem?_eq_some_iff.1 hx).1
    have hj:j<ops.size:=(Array.getElem?_eq_some_iff.1 hy).1
    have h5:=List.all_eq_true.1 (List.all_eq_true.1 h4 i (List.mem_range.2 hi)) j (List.mem_range.2 hj)
    simp only [hx,hy,hij,decide_true,Bool.not_true,Bool.false_or,Bool.or_eq_true,Bool.and_eq_true,decide_eq_true_eq] at h5
    rcases h5 with h5 | ⟨h5,h6 | h6⟩
    · exact .inl h5
    · exact .inr ⟨h5,.inl h6⟩
    · exact .inr ⟨h5,.inr h6⟩
section
variable {P:Program} {ops:Array Oper} {C C1 C2:World→World→Prop} {J J1:World→Prop} {f k0:Nat}
theorem qjh {x y:Oper} (h:qbd 2 x y=true) (hx:vT x=true):vT y=false:=by
  cases hy:vT y with
  | false=>rfl
  | true=>simp [qbd,hx,hy] at h
theorem mOp_and {i:Nat} {K K':Act→World→Prop} {a:Act} {w:World} (hC:C w w) (hq:∀ o,ops[i]? = some o→vT o=false) (h:mOp P ops C J i K a w) (h':mOp P ops C J i K' a w):mOp P ops C J i (fun a w=>K a w∧K' a w) a w:=by
  unfold mOp at *
  cases ho:ops[i]? with
  | none=>rw [ho] at h h'; exact ⟨h,h'⟩
  | some o =>
    simp only [ho] at h h' ⊢
    have hk:kindOf ops o a = .still∨kindOf ops o a = .skip:=by
      unfold kindOf
      rw [hq o ho]
      split
      · exact .inl rfl
      · exact .inr rfl
    rcases hk with hk | hk
    · rw [hk] at h h' ⊢
      obtain ⟨v,h1,h2⟩:=h
      obtain ⟨v',h1',h2'⟩:=h'
      have e:=(h1 w hC).symm.trans (h1' w hC)
      injection e with e
      injection e with e
      subst e
      exact ⟨v,h1,h2,h2'⟩
    · rw [hk] at h h' ⊢
      exact ⟨h,h'⟩
theorem qpa (hC:∀ w,J w→C w w) (hgx:∀ w w',C w w'↔J w') {i j:Nat} {x y:Oper} (hi:ops[i]? = some x) (hj:ops[j]? = some y)
    (hsx:∀ cs b,x.op ≠ .select cs b) (hsy:∀ cs b,y.op ≠ .select cs b) (hap:x.apart ops y=true∨y.apart ops x=true) (hq:vT y=false) {K:Act→World→Prop} {a:Act} {w:World} (hw:J w)
    (h:mOp P ops C J i (mOp P ops C J j K) a w):mOp P ops C J j (mOp P ops C J i K) a w:=by
  have hap':x.apart ops y=true:=by
    rcases hap with h | h
    · exact h
    · obtain ⟨h1,h2,h3⟩:=Oper.apart_spec h
      have k2:∀ d,x.dst=some d→y.dst≠some d:=fun d hd hd'=>h2 d hd' hd
      unfold Oper.apart
      cases hx:x.dst <;> cases hy:y.dst <;> simp_all
  exact qfZ hC (ga:=2) (fun e=>by cases e) (fun _=>hgx) hi hj hsx hsy hap' (by simp [qbd,hq]) hw h
theorem qi2 (hC:∀ w,J1 w→C1 w w) (hgx:∀ w w',C1 w w'↔J1 w') (hst:qe0 f k0 ops) {Q:Act→World→Prop} {i:Nat} {x:Oper} (hi:ops[i]? = some x) :
    ∀ (fuel:Nat) (listed:Array Bool) (a:Act) (w:World),jAt J1 k0 i w→Closed ops listed→listed.size=ops.size→(∀ m,m<i→listed.getD m false=true)→i∈Region.ready .any ops listed →
      mOp P ops (cAt C1 C2 k0 i) (jAt J1 k0 i) i (qgc P ops C1 C2 J1 k0 Q fuel (listed.setIfInBounds i true)) a w →
      (i<f→vT x=true→listed.getD f true=false→mOp P ops C1 J1 f (qgc P ops C1 C2 J1 k0 Q fuel (listed.setIfInBounds f true)) a w)→qgc P ops C1 C2 J1 k0 Q (fuel+1) listed a w:=by
  have his:i<ops.size:=(Array.getElem?_eq_some_iff.1 hi).1
  obtain ⟨of,hof,hfree⟩:=hst.float
  have hfs:f<ops.size:=(Array.getElem?_eq_some_iff.1 hof).1
  intro fuel
  induction fuel with
  | zero =>
    intro listed a w hw hcl hsz hlow hr H _
    refine ⟨fun h=>(by rw [h] at hr; cases hr),fun j hj => ?_⟩
    by_cases hji:j=i
    · subst hji; exact H
    · obtain ⟨a',w',h0,_⟩:=qen hw H
      have:=ready_mono hj hji
      rw [h0] at this
      cases this
  | succ fuel ih =>
    intro listed a w hw hcl hsz hlow hr H Hf
    refine ⟨fun h=>(by rw [h] at hr; cases hr),fun j hj => ?_⟩
    by_cases hji:j=i
    · subst hji; exact H
    · obtain ⟨hjun,y,hy,hall⟩:=mem_ready.1 hj
      have hjs:j<ops.size:=(Array.getElem?_eq_some_iff.1 hy).1
      have hij:i<j:=by
        rcases Nat.lt_or_ge i j with h | h
        · exact h
        · have h1:=hlow j (by omega)
          rcases Nat.lt_or_ge j listed.size with h' | h'
          · simp [h'] at hjun h1; rw [hjun] at h1; cases h1
          · simp [Array.getElem?_eq_none h'] at h1
      have hiun:=(mem_ready.1 hr).1
      have hilt:i<listed.size:=by
        rcases Nat.lt_or_ge i listed.size with h' | h'
        · exact h'
        · simp [Array.getElem?_eq_none h'] at hiun
      have hnb:¬ qae (Region.before ops) j i=true:=fun hb=>by
        have h1:=qaA hst.cert hcl his hj hb
        simp [hilt] at hiun h1
        rw [hiun] at h1
        cases h1
      obtain ⟨hk,hor⟩:=(hst.pairs i j x y hi hy hij).resolve_left hnb
      have ci:cAt C1 C2 k0 i=C1:=by unfold cAt; rw [if_pos (by omega)]
      have ji:jAt J1 k0 i=J1:=by unfold jAt; rw [if_pos (by omega)]
      have cj:cAt C1 C2 k0 j=C1:=by unfold cAt; rw [if_pos hk]
      have jj:jAt J1 k0 j=J1:=by unfold jAt; rw [if_pos hk]
      rcases hor with ⟨rfl,hex⟩ | ⟨hap,hpk⟩
      · rw [cj,jj]
        exact Hf hij hex hjun
      rw [ci,ji] at H
      rw [ji] at hw
      have sx:=fun cs b=>Region.noSelect_spec hst.sel i x cs b hi
      have sy:=fun cs b=>Region.noSelect_spec hst.sel j y cs b hy
      have sf:=fun cs b=>Region.noSelect_spec hst.sel f of cs b hof
      have H2:mOp P ops C1 J1 i (mOp P ops C1 J1 j (qgc P ops C1 C2 J1 k0 Q fuel ((listed.setIfInBounds i true).setIfInBounds j true))) a w :=
        JF hw (fun a' w' _ h=>by have:=h.2 j (ready_mono hj hji); rw [cj,jj] at this; exact this) H
      have H3:=qfZ hC (ga:=2) (fun e=>by cases e) (fun _=>hgx) hi hy sx sy hap hpk hw H2
      rw [cj,jj]
      by_cases hcase:i<f∧vT x=true∧listed.getD f true=false
      · obtain ⟨hif,hex,hfun⟩:=hcase
        have hyq:=qjh hpk hex
        by_cases hjf:j=f
        · subst hjf
          exact Hf hif hex hfun
        have hflt:listed.getD f false=false:=by
          simpa [hsz,hfs] using hfun
        have F1:=Hf hif hex hfun
        have F2:mOp P ops C1 J1 f (mOp P ops C1 J1 j (qgc P ops C1 C2 J1 k0 Q fuel ((listed.setIfInBounds f true).setIfInBounds j true))) a w :=
          JF hw (fun a' w' _ h=>by have:=h.2 j (ready_mono hj hjf); rw [cj,jj] at this; exact this) F1
        have hapf:of.apart ops y=true∨y.apart ops of=true:=by
          rcases Nat.lt_or_ge f j with hfj | hfj
          · have hnb2:¬ qae (Region.before ops) j f=true:=fun hb=>by
              have h1:=qaA hst.cert hcl hfs hj hb
              rw [h1] at hflt
              cases hflt
            rcases (hst.pairs f j of y hof hy hfj).resolve_left hnb2 with ⟨_,⟨e,_⟩ | ⟨h1,_⟩⟩
            · exact absurd e hjf
            · exact .inl h1
          · have hnb2:¬ qae (Region.before ops) f j=true:=fun hb=>by
              obtain ⟨o',ho',e,he,hbi,_⟩:=qeX hst.cert hfs hjs hb
              rw [hof] at ho'
              cases ho'
              rw [hfree e he] at hbi
              cases hbi
            rcases (hst.pairs j f y of hy hof (by omega)).resolve_left hnb2 with ⟨_,⟨_,e⟩ | ⟨h1,_⟩⟩
            · rw [hyq] at e; cases e
            · exact .inr h1
        have F3:=qpa hC hgx hof hy sf sy hapf hyq hw F2
        have both:=mOp_and (hC w hw) (fun o ho=>by rw [hy] at ho; cases ho; exact hyq) H3 F3
        refine JF hw (fun a' w' hw' h=>ih (listed.setIfInBounds j true) a' w' (by rw [ji]; exact hw') (hcl.set hj) (by simpa using hsz) (fun m hm=>getD_set_true (hlow m hm)) (ready_mono hr (Ne.symm hji)) ?_ (fun _ _ _ => ?_)) both
        · rw [ci,ji,Array.setIfInBounds_comm _ _ hji]
          exact h.1
        · rw [Array.setIfInBounds_comm _ _ hjf]
          exact h.2
      · refine JF hw (fun a' w' hw' h=>ih (listed.setIfInBounds j true) a' w' (by rw [ji]; exact hw') (hcl.set hj) (by simpa using hsz) (fun m hm=>getD_set_true (hlow m hm)) (ready_mono hr (Ne.symm hji)) ?_ (fun h1 h2 h3 => ?_)) H3
        · rw [ci,ji,Array.setIfInBounds_comm _ _ hji]
          exact h
        · exfalso
          refine hcase ⟨h1,h2,?_⟩
          by_cases hjf:j=f
          · subst hjf; exact hjun
          · rw [getD_set_ne true hjf] at h3
            exact h3
def qdR (P:Program) (ops:Array Oper) (C1 C2:World→World→Prop) (J1:World→Prop) (f k0:Nat) (Q:Act→World→Prop):Nat→List Oper→Act→World→Prop
  | _,[],a,w=>Q a w
  | k,o::rest,a,w=>ops[k]? = some o∧if k=f then qdR P ops C1 C2 J1 f k0 Q (k+1) rest a w else mOp P ops (cAt C1 C2 k0 k) (jAt J1 k0 k) k (qdR P ops C1 C2 J1 f k0 Q (k+1) rest) a w
def qjv (P:Program) (ops:Array Oper) (C1 C2:World→World→Prop) (J1:World→Prop) (f k0:Nat) (Q:Act→World→Prop):Nat→List Oper→Act→World→Prop
  | _,[],a,w=>Q a w
  | k,o::rest,a,w=>ops[k]? = some o∧mOp P ops (cAt C1 C2 k0 k) (jAt J1 k0 k) k (if k=f then qdR P ops C1 C2 J1 f k0 Q (k+1) rest else qjv P ops C1 C2 J1 f k0 Q (k+1) rest) a w ∧
      (k<f→vT o=true→mOp P ops C1 J1 f (qdR P ops C1 C2 J1 f k0 Q k (o::rest)) a w)
theorem qf2 {ops:Array Oper} {listed:Array Bool} {f k:Nat} {fd:Bool} (hst:qe0 f k0 ops) (hs:listed.size=ops.size) (hls:∀ m,m<ops.size→listed.getD m true=decide (m<k∨(fd=true∧m=f))) :
    Closed ops listed∧(∀ m,m<k→m<ops.size→listed.getD m false=true)∧(∀ o,ops[k]? = some o→(fd=true→k≠f)→k∈Region.ready .any ops listed):=by
  have both:∀ m,m<ops.size→listed.getD m false=listed.getD m true:=fun m hm=>by simp [hs,hm]
  obtain ⟨of,hof,hfree⟩:=hst.float
  refine ⟨fun j oj hj hlj e he hb => ?_,fun m hm hms => ?_,fun o ho hne => ?_⟩
  · have hjs:j<ops.size:=(Array.getElem?_eq_some_iff.1 hj).1
    have:=hst.back j oj hj e he hb
    rw [both j hjs,hls j hjs] at hlj
    rw [both e.on (by omega),hls e.on (by omega)]
    simp at hlj ⊢
    rcases hlj with h | ⟨_,rfl⟩
    · exact .inl (by omega)
    · rw [hj] at hof
      cases hof
      rw [hfree e he] at hb
      cases hb
  · rw [both m hms,hls m hms]
    simp [hm]
  · have hks:k<ops.size:=(Array.getElem?_eq_some_iff.1 ho).1
    rw [mem_ready]
    refine ⟨?_,o,ho,fun e he hb => ?_⟩
    · rw [hls k hks]
      simp
      exact hne
    · have:=hst.back k o ho e he hb
      rw [both e.on (by omega),hls e.on (by omega)]
      simp [this]
theorem qgd (hC:∀ w,J1 w→C1 w w) (hgx:∀ w w',C1 w w'↔J1 w') (hst:qe0 f k0 ops) {Q:Act→World→Prop} :
    ∀ (l:List Oper) (k:Nat) (listed:Array Bool) (a:Act) (w:World),(∀ j,l[j]? = ops[k+j]?)→k+l.length=ops.size→listed.size=ops.size →
      (∀ m,m<ops.size→listed.getD m true=decide (m<k∨(true=true∧m=f)))→(k<k0→J1 w)→qdR P ops C1 C2 J1 f k0 Q k l a w→qgc P ops C1 C2 J1 k0 Q (if k≤f then l.length - 1 else l.length) listed a w:=by
  obtain ⟨of,hof,hfree⟩:=hst.float
  have hfs:f<ops.size:=(Array.getElem?_eq_some_iff.1 hof).1
  have hlt:=hst.lt
  intro l
  induction l with
  | nil =>
    intro k listed a w hl hk hs hls hw h
    simp only [List.length_nil,Nat.add_zero] at hk
    have e:(if k≤f then ([]:List Oper).length - 1 else ([]:List Oper).length)=0:=by simp
    rw [e]
    refine ⟨?_,h⟩
    rw [List.eq_nil_iff_forall_not_mem]
    intro j hj
    obtain ⟨h1,o,ho,_⟩:=mem_ready.1 hj
    have hjs:j<ops.size:=(Array.getElem?_eq_some_iff.1 ho).1
    rw [hls j hjs] at h1
    simp at h1
    omega
  | cons o rest ih =>
    intro k listed a w hl hk hs hls hw h
    have h0:ops[k]? = some o:=by simpa using (hl 0).symm
    have hks:k<ops.size:=(Array.getElem?_eq_some_iff.1 h0).1
    have hl':∀ j,rest[j]? = ops[k+1+j]? := fun j=>by have:=hl (j+1); simpa [Nat.add_assoc,Nat.add_comm 1 j] using this
    have hk':k+1+rest.length=ops.size:=by simp only [List.length_cons] at hk; omega
    unfold qdR at h
    by_cases hkf:k=f
    · rw [if_pos hkf] at h
      have e:(if k≤f then (o::rest).length - 1 else (o::rest).length)=if k+1≤f then rest.length - 1 else rest.length:=by
        rw [if_pos (by omega),if_neg (by omega)]
        simp
      rw [e]
      refine ih (k+1) listed a w hl' hk' hs (fun m hm => ?_) (fun _=>hw (by omega)) h.2
      rw [hls m hm,decide_eq_decide]
      simp only [true_and]
      omega
    · rw [if_neg hkf] at h
      obtain ⟨hcl,hlow,hrd⟩:=qf2 hst hs hls
      have hjk:jAt J1 k0 k w:=by
        unfold jAt
        split
        · exact hw ‹_›
        · trivial
      have e:(if k≤f then (o::rest).length - 1 else (o::rest).length)=(if k+1≤f then rest.length - 1 else rest.length)+1:=by
        simp only [List.length_cons] at hk ⊢
        split <;> split <;> omega
      rw [e]
      refine qi2 hC hgx hst h0 _ listed a w hjk hcl hs (fun m hm=>hlow m hm (by omega)) (hrd o h0 fun _=>hkf) ?_ (fun _ _ h3 => ?_)
      · refine JF hjk (fun a' w' hw' h' => ?_) h.2
        refine ih (k+1) (listed.setIfInBounds k true) a' w' hl' hk' (by simpa using hs) (fun m hm => ?_) (fun hk1 => ?_) h'
        · by_cases hmk:k=m
          · subst hmk
            simp [hs,hks]
          · rw [getD_set_ne true hmk,hls m hm]
            rw [decide_eq_decide]
            simp only [true_and]
            omega
        · unfold jAt at hw'
          rw [if_pos (by omega)] at hw'
          exact hw'
      · rw [hls f hfs] at h3
        simp at h3
theorem qlg (hC:∀ w,J1 w→C1 w w) (hgx:∀ w w',C1 w w'↔J1 w') (hst:qe0 f k0 ops) {Q:Act→World→Prop} :
    ∀ (l:List Oper) (k:Nat) (listed:Array Bool) (a:Act) (w:World),(∀ j,l[j]? = ops[k+j]?)→k+l.length=ops.size→listed.size=ops.size→k≤f →
      (∀ m,m<ops.size→listed.getD m true=decide (m<k))→J1 w→qjv P ops C1 C2 J1 f k0 Q k l a w→qgc P ops C1 C2 J1 k0 Q l.length listed a w:=by
  obtain ⟨of,hof,hfree⟩:=hst.float
  have hfs:f<ops.size:=(Array.getElem?_eq_some_iff.1 hof).1
  have hlt:=hst.lt
  intro l
  induction l with
  | nil =>
    intro k listed a w hl hk hs hkf hls hw h
    simp only [List.length_nil,Nat.add_zero] at hk
    omega
  | cons o rest ih =>
    intro k listed a w hl hk hs hkf hls hw h
    have h0:ops[k]? = some o:=by simpa using (hl 0).symm
    have hks:k<ops.size:=(Array.getElem?_eq_some_iff.1 h0).1
    have hl':∀ j,rest[j]? = ops[k+1+j]? := fun j=>by have:=hl (j+1); simpa [Nat.add_assoc,Nat.add_comm 1 j] using this
    have hk':k+1+rest.length=ops.size:=by simp only [List.length_cons] at hk; omega
    have hls':∀ m,m<ops.size→listed.getD m true=decide (m<k∨(false=true∧m=f)):=fun m hm=>by rw [hls m hm,decide_eq_decide]; simp
    obtain ⟨hcl,hlow,hrd⟩:=qf2 hst hs hls'
    have hjk:jAt J1 k0 k w:=by
      unfold jAt
      split
      · exact hw
      · trivial
    have jk:jAt J1 k0 k=J1:=by unfold jAt; rw [if_pos (by omega)]
    have set1:∀ m,m<ops.size→(listed.setIfInBounds k true).getD m true=decide (m<k+1):=fun m hm=>by
      by_cases hmk:k=m
      · subst hmk
        simp [hs,hks]
      · rw [getD_set_ne true hmk,hls m hm,decide_eq_decide]
        omega
    unfold qjv at h
    obtain ⟨_,h1,h2⟩:=h
    refine qi2 hC hgx hst h0 rest.length listed a w hjk hcl hs (fun m hm=>hlow m hm (by omega)) (hrd o h0 (by simp)) ?_ (fun hlt he _ => ?_)
    · refine JF hjk (fun a' w' hw' h' => ?_) h1
      rw [jk] at hw'
      by_cases hkf':k=f
      · rw [if_pos hkf'] at h'
        have:=qgd hC hgx hst rest (k+1) (listed.setIfInBounds k true) a' w' hl' hk' (by simpa using hs) (fun m hm=>by
          rw [set1 m hm,decide_eq_decide]
          omega) (fun _=>hw') h'
        rw [if_neg (by omega)] at this
        exact this
      · rw [if_neg hkf'] at h'
        exact ih (k+1) (listed.setIfInBounds k true) a' w' hl' hk' (by simpa using hs) (by omega) set1 hw' h'
    · refine JF hw (fun a' w' hw' h' => ?_) (h2 hlt he)
      have:=qgd hC hgx hst (o::rest) k (listed.setIfInBounds f true) a' w' hl hk (by simpa using hs) (fun m hm=>by
        by_cases hmf:f=m
        · subst hmf
          simp [hs,hfs]
        · rw [getD_set_ne true hmf,hls m hm,decide_eq_decide]
          simp
          omega) (fun _=>hw') h'
      rw [if_pos (by omega)] at this
      simpa using this
theorem qho (hC:∀ w,J1 w→C1 w w) (hC2:∀ w,C2 w w) (hst:qe0 f k0 ops) {Q:Exit→Act→World→Prop}:∀ (fuel:Nat) (listed:Array Bool) (a:Act) (w:World),Closed ops listed→listed.size=ops.size→((∃ i,i<k0∧i<ops.size∧listed.getD i false=false)→J1 w)→qgc P ops C1 C2 J1 k0 (Q .normal) fuel listed a w →
    wpAny P .any ops (Exit.then (Q .normal) bot) fuel listed a w
  | 0,_,_,_,_,_,_,h=>h
  | fuel+1,listed,a,w,hcl,hs,hJ,h=>by
    have hlt:=hst.lt
    refine ⟨h.1,fun i hi => ?_⟩
    obtain ⟨hiun,oi,hoi,_⟩:=mem_ready.1 hi
    have his:i<ops.size:=(Array.getElem?_eq_some_iff.1 hoi).1
    have hif:listed.getD i false=false:=by simpa [hs,his] using hiun
    have hjw:jAt J1 k0 i w:=by
      unfold jAt
      split
      · exact hJ ⟨i,‹_›,his,hif⟩
      · trivial
    have hcw:cAt C1 C2 k0 i w w:=by
      unfold cAt
      split
      · exact hC w (hJ ⟨i,‹_›,his,hif⟩)
      · exact hC2 w
    have h1:=JF hjw (fun a w hw h=>qho hC hC2 hst (Q:=Q) fuel _ a w (hcl.set hi) (by simpa using hs) (by
      rintro ⟨m,hm,hms,hmf⟩
      by_cases hik:i<k0
      · unfold jAt at hw
        rw [if_pos hik] at hw
        exact hw
      · exfalso
        have hmi:m<i:=by omega
        obtain ⟨om,hom⟩:∃ om,ops[m]? = some om:=⟨_,Array.getElem?_eq_getElem hms⟩
        have hb:=(hst.pairs m i om oi hom hoi hmi).resolve_right (fun e=>hik e.1)
        have h1:=qaA hst.cert hcl hms hi hb
        have h2:=getD_set_true (i:=i) h1
        rw [h2] at hmf
        cases hmf) h) (h.2 i hi)
    unfold mOp at h1
    unfold wpOp
    cases ho:ops[i]? with
    | none=>rw [ho] at h1; exact h1
    | some o =>
      simp only [ho] at h1 ⊢
      unfold kindOf at h1
      by_cases hw:Region.wanted o (yielded ops a.tmps)=true
      · rw [if_pos hw] at h1
        rw [if_pos hw]
        by_cases he:vT o=true
        · rw [if_pos he] at h1
          exact .inl (ZX (Zt (P:=P) (K:=fun d v w'=>jAt J1 k0 i w'∧wpAny P .any ops (Exit.then (Q .normal) bot) fuel (listed.setIfInBounds i true) (y7 a o.dst d v) w') (fun d v w h=>h.2) h1))
        · rw [if_neg he] at h1
          obtain ⟨v,h2,h3⟩:=h1
          refine .inl ?_
          unfold Oper.wp
          rw [h2 w hcw]
          exact h3
      · rw [if_neg hw] at h1
        rw [if_neg hw]
        exact h1
def qn1 (P:Program) (ops:Array Oper) (C:World→World→Prop) (J:World→Prop) (Q:Exit→Act→World→Prop) (of:Oper) (B:List Oper):List Oper→Act→World→Prop
  | [],a,w=>stepW P ops C J (walk P ops C J Q B) of a w
  | o::A,a,w=>stepW P ops C J (qn1 P ops C J Q of B A) o a w∧(vT o=true→stepW P ops C J (walk P ops C J Q (o::A++B)) of a w)
theorem qlB {k:Kind} {s:Sem Next} {w:World} {K K':Option Deferred→Value→World→Prop} (hK:∀ d v w,K d v w→K' d v w) (h:qad P C J k s w K):qad P C J k s w K':=by
  cases k with
  | skip=>exact hK _ _ _ h
  | eff =>
    change qe2 P s w (fun d v w'=>J w'∧K d v w') at h
    change qe2 P s w (fun d v w'=>J w'∧K' d v w')
    exact Zt (fun d v w h=>⟨h.1,hK _ _ _ h.2⟩) h
  | still=>obtain ⟨v,h1,h2⟩:=h; exact ⟨v,h1,hK _ _ _ h2⟩
theorem qpb {i:Nat} {K K':Act→World→Prop} {a:Act} {w:World} (hK:∀ a w,K a w→K' a w) (h:mOp P ops C J i K a w):mOp P ops C J i K' a w:=by
  unfold mOp at *
  cases ho:ops[i]? with
  | none=>rw [ho] at h; exact hK _ _ h
  | some o=>rw [ho] at h; exact qlB (fun d v w' h=>hK _ _ h) h
theorem qfc {Q:Exit→Act→World→Prop}:∀ (post:List Oper) (k:Nat) (a:Act) (w:World),f<k→qg3 P ops C1 C2 J1 k0 (Q .normal) k post a w→qdR P ops C1 C2 J1 f k0 (Q .normal) k post a w
  | [],k,a,w,_,h=>h
  | o::post,k,a,w,hk,h=>by
    unfold qg3 at h
    unfold qdR
    rw [if_neg (by omega)]
    exact ⟨h.1,qpb (fun a w h=>qfc post (k+1) a w (by omega) h) h.2⟩
section
variable {Q:Exit→Act→World→Prop} {of:Oper} {B post:List Oper}
theorem qkE {o:Oper} {l:List Oper} {k:Nat} (hl:∀ j,(o::l)[j]? = ops[k+j]?):ops[k]? = some o∧∀ j,l[j]? = ops[k+1+j]? := ⟨by simpa using (hl 0).symm,fun j=>by have:=hl (j+1); simpa [Nat.add_assoc,Nat.add_comm 1 j] using this⟩
theorem qjt (hk0:f+1+B.length=k0):∀ (A:List Oper) (k:Nat) (a:Act) (w:World),k+A.length=f→(∀ j,(A++(of::(B++post)))[j]? = ops[k+j]?)→J1 w →
    walk P ops C1 J1 (qmm (walk P ops C2 (fun _=>True) Q post)) (A++B) a w→qdR P ops C1 C2 J1 f k0 (Q .normal) k (A++(of::(B++post))) a w
  | [],k,a,w,hk,hl,hw,h=>by
    simp only [List.length_nil,Nat.add_zero] at hk
    obtain ⟨h0,h1⟩:=qkE hl
    simp only [List.nil_append]
    unfold qdR
    rw [if_pos hk]
    exact ⟨h0,qfc _ (k+1) a w (by omega) (qeI B (k+1) a w (by omega) h1 hw h)⟩
  | o::A,k,a,w,hk,hl,hw,h=>by
    simp only [List.length_cons] at hk
    rw [List.cons_append] at hl h ⊢
    obtain ⟨h0,h1⟩:=qkE hl
    unfold qdR
    rw [if_neg (by omega),show cAt C1 C2 k0 k=C1 by unfold cAt; rw [if_pos (by omega)],show jAt J1 k0 k=J1 by unfold jAt; rw [if_pos (by omega)]]
    exact ⟨h0,JF hw (fun a w hw' h=>qjt hk0 A (k+1) a w (by omega) h1 hw' h) (K8 h0 (qgi h))⟩
theorem qju (hk0:f+1+B.length=k0) (hof:ops[f]? = some of):∀ (A:List Oper) (k:Nat) (a:Act) (w:World),k+A.length=f→(∀ j,(A++(of::(B++post)))[j]? = ops[k+j]?)→J1 w →
    qn1 P ops C1 J1 (qmm (walk P ops C2 (fun _=>True) Q post)) of B A a w→qjv P ops C1 C2 J1 f k0 (Q .normal) k (A++(of::(B++post))) a w
  | [],k,a,w,hk,hl,hw,h=>by
    simp only [List.length_nil,Nat.add_zero] at hk
    obtain ⟨h0,h1⟩:=qkE hl
    simp only [List.nil_append]
    unfold qjv
    rw [if_pos hk,show cAt C1 C2 k0 k=C1 by unfold cAt; rw [if_pos (by omega)],show jAt J1 k0 k=J1 by unfold jAt; rw [if_pos (by omega)]]
    exact ⟨h0,JF hw (fun a w hw' h=>qfc _ (k+1) a w (by omega) (qeI B (k+1) a w (by omega) h1 hw' h)) (K8 h0 h),fun h=>absurd h (by omega)⟩
  | o::A,k,a,w,hk,hl,hw,h=>by
    have hk':=hk
    simp only [List.length_cons] at hk
    have hl':=hl
    rw [List.cons_append] at hl ⊢
    obtain ⟨h0,h1⟩:=qkE hl
    unfold qjv
    rw [if_neg (by omega),show cAt C1 C2 k0 k=C1 by unfold cAt; rw [if_pos (by omega)],show jAt J1 k0 k=J1 by unfold jAt; rw [if_pos (by omega)]]
    exact ⟨h0,JF hw (fun a w hw' h=>qju hk0 hof A (k+1) a w (by omega) h1 hw' h) (K8 h0 h.1),fun _ he =>
      JF hw (fun a w hw' h=>qjt hk0 (o::A) k a w hk' hl' hw' h) (K8 hof (h.2 he))⟩
end
end
theorem qhs {P:Program} {C1 C2:World→World→Prop} {J1:World→Prop} (hC:∀ w,J1 w→C1 w w) (hC2:∀ w,C2 w w) (hgx:∀ w w',C1 w w'↔J1 w') {id:Nat} {A B post:List Oper} {of:Oper} {Q:Exit→Act→World→Prop} {a:Act} {w:World}
    (hm:P.follows .mixedOrders=true) (hB:qem A.length (A.length+1+B.length) (A++(of::(B++post))).toArray=true) (hw:J1 w.drew)
    (h:qn1 P (A++(of::(B++post))).toArray C1 J1 (qmm (walk P (A++(of::(B++post))).toArray C2 (fun _=>True) Q post)) of B A a w.drew):(Code.region id (A++(of::(B++post))).toArray true).wp P Q a w:=by
  have hst:=qm4 hB
  have h0:=qju (f:=A.length) (k0:=A.length+1+B.length) rfl (by simp) A 0 a w.drew (by simp) (fun j=>by simp) hw h
  have h1:=qlg hC hgx hst (A++(of::(B++post))) 0 (Array.replicate (A++(of::(B++post))).toArray.size false) a w.drew (by simp) (by simp) (by simp) (Nat.zero_le _) (fun m hm=>by simp at hm; simp [hm]) hw h0
  have h2:=qho hC hC2 hst (Q:=Q) _ _ _ _ (by
    intro j o hj hl e he hb
    have hjs:j<(A++(of::(B++post))).toArray.size:=(Array.getElem?_eq_some_iff.1 hj).1
    simp at hjs hl
    simp [hjs] at hl) (by simp) (fun _=>hw) h1
  refine Code.wp_mono (Q:=Exit.then (Q .normal) bot) (fun e a w h => ?_) (wp_region_any hm (by simpa using h2))
  cases e <;> first | exact h | exact h.elim
end Mix
namespace AM
def qfH (P:Program) (N:Nat) (ops:List Oper) (H0:List Bk) (o:Oper) (K:List (Nat×V)→St→Prop) (old:List (Nat×V)) (s:St):Prop:=match o.guard with
    | none=>yop P N ops H0 o old s K
    | some (j,want)=>match (ops[j]?).bind (·.dst) with
      | some t=>match qm t s.F with
        | some (.v (.sc (.bool b)))=>gd b want (yop P N ops H0 o old ⟨yR t (.v (.sc (.bool want))) s.F,s.H⟩ K) (jR N o.dst (.v (.tup [])) ⟨yR t (.v (.sc (.bool (!want)))) s.F,s.H⟩ (K (yw o.dst old)))
        | some (.v (.tup []))=>jR N o.dst (.v (.tup [])) s (K (yw o.dst old))
        | _=>False
      | none=>False
def qhK (P:Program) (N:Nat) (ops:List Oper) (H0:List Bk) (of:Oper) (B:List Oper) (K:St→Prop):List Oper→List (Nat×V)→St→Prop
  | [],old,s=>qfH P N ops H0 of (qca P N ops H0 B K) old s
  | o::A,old,s=>qfH P N ops H0 o (qhK P N ops H0 of B K A) old s∧(Mix.vT o=true→qfH P N ops H0 of (qca P N ops H0 (o::A++B) K) old s)
section
variable {P:Program} {N:Nat} {ops A B:List Oper} {H0 H:List Bk} {F:Fr} {o of:Oper} {old:List (Nat×V)} {K:St→Prop} {K':List (Nat×V)→St→Prop}
theorem QC:qfH P N ops H0 o K' old ⟨F,H⟩=match o.guard with
    | none=>yop P N ops H0 o old ⟨F,H⟩ K'
    | some (j,want)=>match (ops[j]?).bind (·.dst) with
      | some t=>match qm t F with
        | some (.v (.sc (.bool b)))=>gd b want (yop P N ops H0 o old ⟨yR t (.v (.sc (.bool want))) F,H⟩ K') (jR N o.dst (.v (.tup [])) ⟨yR t (.v (.sc (.bool (!want)))) F,H⟩ (K' (yw o.dst old)))
        | some (.v (.tup []))=>jR N o.dst (.v (.tup [])) ⟨F,H⟩ (K' (yw o.dst old))
        | _=>False
      | none=>False:=rfl
theorem zL:qhK P N ops H0 of B K [] old ⟨F,H⟩=qfH P N ops H0 of (qca P N ops H0 B K) old ⟨F,H⟩:=rfl
theorem zw:qhK P N ops H0 of B K (o::A) old ⟨F,H⟩=(qfH P N ops H0 o (qhK P N ops H0 of B K A) old ⟨F,H⟩∧(Mix.vT o=true→qfH P N ops H0 of (qca P N ops H0 (o::A++B) K) old ⟨F,H⟩)):=rfl
end
section
variable {P:Program} {c c0:Cx} {N:Nat} {s:St} {a:Act} {w w0:World} {H0:List Bk} {old:List (Nat×V)}
theorem qfa {ops:Array Oper} {o:Oper} {K:List (Nat×V)→St→Prop} {KQ:Act→World→Prop} (h:Sim c N s a w) (p:qa9 c0 H0 w0 old c a w) (hk:qfH P N ops.toList H0 o K old s)
    (hq:∀ c' s' a' w' old',Sim c' N s' a' w'→qa9 c0 H0 w0 old' c' a' w'→K old' s'→KQ a' w'):Mix.stepW P ops (fun _ w'=>JY c0 H0 w0 w') (fun w'=>JY c0 H0 w0 w') KQ o a w:=by
  have cases':(∃ s1:St,Sim c N s1 a w∧Region.wanted o (yielded ops a.tmps)=true∧yop P N ops.toList H0 o old s1 K) ∨
      (∃ s1:St,Sim c N s1 a w∧Region.wanted o (yielded ops a.tmps)=false∧jR N o.dst (.v (.tup [])) s1 (K (yw o.dst old))):=by
    unfold qfH at hk
    cases hg:o.guard with
    | none=>rw [hg] at hk; exact .inl ⟨s,h,by simp [Region.wanted,hg],hk⟩
    | some q =>
      obtain ⟨j,want⟩:=q
      rw [hg] at hk
      simp only at hk
      cases hd:(ops.toList[j]?).bind (·.dst) with
      | none=>rw [hd] at hk; exact hk.elim
      | some t =>
        rw [hd] at hk
        simp only at hk
        have hd':(ops[j]?).bind (·.dst)=some t:=by simpa using hd
        split at hk
        · rename_i b hb
          obtain ⟨v,hv,hr⟩:=h.fr t _ (QO hb)
          have e:v = .bool b:=Rel.exact hr rfl
          subst e
          have hy:=Xt hd' hv
          cases hbw:b==want with
          | true =>
            have e:b=want:=by simpa using hbw
            subst e
            exact .inl ⟨_,h.lit hb,by simp [Region.wanted,hg,hy,qaB],hk.1 rfl⟩
          | false =>
            have e:b = !want:=by cases b <;> cases want <;> simp_all
            subst e
            exact .inr ⟨_,h.lit hb,by simp [Region.wanted,hg,hy,qaB],hk.2 rfl⟩
        · rename_i hb
          obtain ⟨v,hv,hr⟩:=h.fr t _ (QO hb)
          have e:v = .tuple #[]:=Rel.exact hr rfl
          subst e
          have hy:=Xt hd' hv
          exact .inr ⟨s,h,by simp [Region.wanted,hg,hy,qaB],hk⟩
        · exact hk.elim
  unfold Mix.stepW
  rcases cases' with ⟨s1,h,hw,hk⟩ | ⟨s1,h,hw,hk⟩
  · obtain ⟨d1,d2⟩:=qlt h p hk
    by_cases he:Mix.vT o=true
    · rw [if_pos he]
      refine wpList_step fun K' hK' => ?_
      rw [if_pos hw]
      refine Mix.ZX (Mix.Zt (fun d v w' h2 => ?_) (Mix.Jh (d1 he)))
      obtain ⟨g1,c',s',old',k1,k2,k3⟩:=h2
      exact hK' _ _ (wpList_nil ⟨g1,hq _ _ _ _ _ k1 k2 k3⟩)
    · rw [if_neg he]
      have he':Mix.vT o=false:=by simpa using he
      obtain ⟨v,hv,c',s',old',k1,k2,k3⟩:=d2 he'
      refine wpQuiet_step fun K' hK' => ?_
      rw [if_pos hw]
      refine ⟨v,fun w' hw' => ?_,hK' _ (wpQuiet_nil (hq _ _ _ _ _ k1 k2 k3))⟩
      unfold Oper.quietAt
      rw [hv w' hw']
      exact ⟨rfl,rfl⟩
  · obtain ⟨c',s',old',k1,k2,k3⟩:=qbj (v:=undef) h p hk (fun _ _=>Rel.tup (vs := #[]) .nil)
    have h4:=hq _ _ _ _ _ k1 k2 k3
    by_cases he:Mix.vT o=true
    · rw [if_pos he]
      refine wpList_step fun K' hK' => ?_
      rw [if_neg (by rw [hw]; simp)]
      exact hK' _ _ (wpList_nil ⟨k2.j,h4⟩)
    · rw [if_neg he]
      refine wpQuiet_step fun K' hK' => ?_
      rw [if_neg (by rw [hw]; simp)]
      exact hK' _ (wpQuiet_nil h4)
theorem qhJ {ops:Array Oper} {Q:Exit→Act→World→Prop} {of:Oper} {B:List Oper} {K:St→Prop} (hq:∀ c' s' a' w',Sim c' N s' a' w'→Ext c0 w0 c' w'→K s'→Q .normal a' w'):∀ {A:List Oper} {s:St} {c:Cx} {a:Act} {w:World} {old:List (Nat×V)},Sim c N s a w→qa9 c0 H0 w0 old c a w→qhK P N ops.toList H0 of B K A old s →
    Mix.qn1 P ops (fun _ w'=>JY c0 H0 w0 w') (fun w'=>JY c0 H0 w0 w') Q of B A a w
  | [],s,c,a,w,old,h,p,hk=>qfa h p hk fun c' s' a' w' old' k1 k2 k3=>qbo k1 k2 k3 hq
  | o::A,s,c,a,w,old,h,p,hk=>⟨qfa h p hk.1 fun c' s' a' w' old' k1 k2 k3=>qhJ hq k1 k2 k3,fun he=>qfa h p (hk.2 he) fun c' s' a' w' old' k1 k2 k3=>qbo k1 k2 k3 hq⟩
def qgK (P:Program) (N:Nat) (ops:List Oper) (H:List Bk) (f k:Nat) (K:St→Prop) (old:List (Nat×V)) (s:St):Prop:=match ops.drop f with
  | of::r=>qhK P N ops H of (r.take (k - f - 1)) K (ops.take f) old s
  | []=>False
theorem yK {P:Program} {N:Nat} {ops:List Oper} {H:List Bk} {f k:Nat} {K:St→Prop} {old:List (Nat×V)} {s:St}:qgK P N ops H f k K old s=match ops.drop f with
  | of::r=>qhK P N ops H of (r.take (k - f - 1)) K (ops.take f) old s
  | []=>False:=rfl
theorem AW.regionF {id:Nat} {ops:Array Oper} {F:Fr} {H:List Bk} {Q:Exit→St→Prop} (f k:Nat) (ts:List Nat) (hm:P.follows .mixedOrders=true) (hk:k≤ops.size) (hf:f<k) (ho:Mix.qem f k ops=true)
    (h:qgK P N ops.toList H f k (YB P N ops.toList (ops.toList.drop k) (Q .normal)) (Q8 F ts) ⟨F,H⟩):AW P N (.region id ops true) Q ⟨F,H⟩:=fun c a w hs=>by
  have hs':=hs.drew
  have p:qa9 c H w.drew (Q8 F ts) c a w.drew:=⟨hs'.inv,Ext.refl c _,JY.start hs'.inv,fun q hq=>by
    obtain ⟨v,hv,hr⟩:=hs'.fr q.1 _ (QO (qfV hq))
    have:a.eval (.tmp q.1)=v:=by simp [Act.eval,hv]
    rw [this]
    exact hr⟩
  unfold qgK at h
  cases hd:ops.toList.drop f with
  | nil=>rw [hd] at h; exact h.elim
  | cons of r =>
    rw [hd] at h
    simp only at h
    have hlen:r.length=ops.size - f - 1:=by
      have:=congrArg List.length hd
      simp at this
      omega
    have hpost:r.drop (k - f - 1)=ops.toList.drop k:=by
      have:ops.toList.drop k=(ops.toList.drop f).drop (k - f):=by rw [List.drop_drop]; congr 1; omega
      rw [this,hd]
      cases hkf:k - f with
      | zero=>omega
      | succ d=>simp
    have e:ops=(ops.toList.take f++(of::(r.take (k - f - 1)++ops.toList.drop k))).toArray:=by
      rw [← hpost,List.take_append_drop,← hd,List.take_append_drop]
    have h1:=qhJ (ops:=ops) (Q:=Mix.qmm (Mix.walk P ops Agree (fun _=>True) (qcx c w N Q) (ops.toList.drop k))) (K:=YB P N ops.toList (ops.toList.drop k) (Q .normal)) (fun c' s' a' w' k1 k2 k3 =>
      qaC (ops:=ops) k1 k3 fun a2 w2 h2=>Post.step ((Ext.drew c w).trans k2) h2) hs' p h
    have lf:(ops.toList.take f).length=f:=by simp; omega
    have lk:(r.take (k - f - 1)).length=k - f - 1:=by rw [List.length_take,hlen]; omega
    have h2:=Mix.qhs (P:=P) (C1:=fun _ w'=>JY c H w.drew w') (J1:=fun w'=>JY c H w.drew w') (C2:=Agree) (id:=id) (A:=ops.toList.take f) (of:=of) (B:=r.take (k - f - 1)) (post:=ops.toList.drop k) (Q:=qcx c w N Q) (a:=a) (w:=w) (fun _ h=>h) (fun w=>Agree.refl w) (fun _ _=>Iff.rfl) hm (by
      rw [← e,lf,lk,show f+1+(k - f - 1)=k by omega]; exact ho) (JY.start hs'.inv) (by rw [← e]; exact h1)
    rw [← e] at h2
    exact h2
end
theorem AW.mid {P:Program} {N:Nat} {x y:Code} {Q:Exit→St→Prop} {s:St} (R:Fr→List Bk→Prop) (h1:AW P N x (QY (fun s'=>∃ F1,qz F1 s'.F∧R F1 s'.H) Q) s) (h2:∀ F H,R F H→AW P N y Q ⟨F,H⟩):AW P N (.seq x y) Q s:=AW.seq (h1.mono fun e s' he=>by
  cases e with
  | normal =>
    obtain ⟨F1,k1,k2⟩:=he
    exact AW.weak F1 k1 (h2 F1 s'.H k2)
  | _=>exact he)
def flK:List (Nat×Nat×Nat×List Nat)→Nat→Option (Nat×Nat×List Nat)
  | [],_=>none
  | (i,k)::l,id=>bif i==id then some k else flK l id
def awf (P:Program) (N:Nat) (bad:List (Nat×Nat×List Nat)) (fl:List (Nat×Nat×Nat×List Nat)):Code→(Exit→St→Prop)→St→Prop
  | .skip,Q,s=>Q .normal s
  | .region id ops draw,Q,s=>match draw,flK fl id with
    | true,some k=>qgK P N ops.toList s.H k.1 k.2.1 (YB P N ops.toList (ops.toList.drop k.2.1) (Q .normal)) (Q8 s.F k.2.2) s
    | _,_=>awx P N bad (.region id ops draw) Q s
  | .seq x y,Q,s=>awf P N bad fl x (QY (awf P N bad fl y Q) Q) s
  | .cond x t f,Q,s=>match Q5 s x with
    | some b=>(b=true→awf P N bad fl t Q s)∧(b=false→awf P N bad fl f Q s)
    | none=>False
  | .block id body,Q,s=>awf P N bad fl body (jV id Q) s
  | .loop body,Q,s=>AW P N (.loop body) Q s
  | .exit id,Q,s=>Q (.exit id) s
  | .label _,Q,s=>Q .normal s
  | .ret,Q,s=>Q .ret s
  | _,_,_=>False
def okf (bad:List (Nat×Nat×List Nat)) (fl:List (Nat×Nat×Nat×List Nat)):Code→Bool
  | .region id ops draw=>match draw,flK fl id with
    | true,some k=>Nat.ble k.2.1 ops.size&&Nat.blt k.1 k.2.1&&Mix.qem k.1 k.2.1 ops
    | _,_=>okx bad (.region id ops draw)
  | .seq x y=>okf bad fl x&&okf bad fl y
  | .cond _ x y=>okf bad fl x&&okf bad fl y
  | .block _ x=>okf bad fl x
  | .loop _=>true
  | _=>true
theorem qpt {P:Program} {N:Nat} {bad:List (Nat×Nat×List Nat)} {fl:List (Nat×Nat×Nat×List Nat)} (hm:P.follows .mixedOrders=true):∀ {code:Code} {Q:Exit→St→Prop} {s:St},okf bad fl code=true→awf P N bad fl code Q s→AW P N code Q s:=by
  intro code
  induction code with
  | skip=>exact fun _ hk=>AW.of hm rfl hk
  | region id ops draw =>
    intro Q s ho hk
    unfold awf at hk
    unfold okf at ho
    cases draw with
    | false=>exact qgV hm (bad:=bad) ho hk
    | true =>
      cases hb:flK fl id with
      | some k =>
        rw [hb] at ho hk
        simp only [Bool.and_eq_true] at ho
        exact AW.regionF (F:=s.F) (H:=s.H) k.1 k.2.1 k.2.2 hm (Nat.le_of_ble_eq_true ho.1.1) (by have:=ho.1.2; simp [Nat.blt] at this; omega) ho.2 hk
      | none =>
        rw [hb] at ho hk
        exact qgV hm (bad:=bad) ho hk
  | seq x y ihx ihy =>
    intro Q s ho hk
    simp only [okf,Bool.and_eq_true] at ho
    refine AW.seq ((ihx ho.1 hk).mono fun e s' he => ?_)
    cases e with
    | normal=>exact ihy ho.2 he
    | _=>exact he
  | cond x t f iht ihf =>
    intro Q s ho hk
    simp only [okf,Bool.and_eq_true] at ho
    unfold awf at hk
    cases hb:Q5 s x with
    | none=>rw [hb] at hk; exact hk.elim
    | some b =>
      rw [hb] at hk
      exact AW.cond (F:=s.F) (H:=s.H) b hb (fun e=>iht ho.1 (hk.1 e)) (fun e=>ihf ho.2 (hk.2 e))
  | block id body ih =>
    intro Q s ho hk
    exact AW.block (ih ho hk)
  | loop body ih=>exact fun _ hk=>hk
  | exit id=>exact fun _ hk=>AW.of hm rfl hk
  | label l=>exact fun _ hk=>AW.of hm rfl hk
  | ret=>exact fun _ hk=>AW.of hm rfl hk
  | _=>exact fun _ hk=>hk.elim
theorem AW.off {P:Program} {N:Nat} {x:Code} {Q:Exit→St→Prop} {s:St} (bad:List (Nat×Nat×List Nat)) (fl:List (Nat×Nat×Nat×List Nat)) (hm:P.follows .mixedOrders=true) (ho:okf bad fl x=true) (h:awf P N bad fl x Q s):AW P N x Q s:=qpt hm ho h
section
variable {P:Program} {N:Nat} {bad:List (Nat×Nat×List Nat)} {fl:List (Nat×Nat×Nat×List Nat)} {F:Fr} {H:List Bk} {Q:Exit→St→Prop} {c c':Code} {x:Operand} {id:Nat} {draw:Bool} {arr:Array Oper}
theorem jq:awf P N bad fl .skip Q ⟨F,H⟩=Q .normal ⟨F,H⟩:=rfl
theorem zx:awf P N bad fl (.region id arr draw) Q ⟨F,H⟩=if (draw&&(flK fl id).isSome)=true then qgK P N arr.toList H ((flK fl id).getD (0,0,[])).1 ((flK fl id).getD (0,0,[])).2.1 (YB P N arr.toList (arr.toList.drop ((flK fl id).getD (0,0,[])).2.1) (Q .normal)) (Q8 F ((flK fl id).getD (0,0,[])).2.2) ⟨F,H⟩ else awx P N bad (.region id arr draw) Q ⟨F,H⟩:=by
  show (match draw,flK fl id with
    | true,some k=>qgK P N arr.toList H k.1 k.2.1 (YB P N arr.toList (arr.toList.drop k.2.1) (Q .normal)) (Q8 F k.2.2) ⟨F,H⟩
    | _,_=>awx P N bad (.region id arr draw) Q ⟨F,H⟩)=_
  cases draw <;> cases flK fl id <;> rfl
theorem jX:awf P N bad fl (.seq c c') Q ⟨F,H⟩=awf P N bad fl c (QY (awf P N bad fl c' Q) Q) ⟨F,H⟩:=rfl
theorem jw:awf P N bad fl (.cond x c c') Q ⟨F,H⟩=match Q5 ⟨F,H⟩ x with
    | some b=>gd b true (awf P N bad fl c Q ⟨F,H⟩) (awf P N bad fl c' Q ⟨F,H⟩)
    | none=>False:=rfl
theorem zN:awf P N bad fl (.block id c) Q ⟨F,H⟩=awf P N bad fl c (jV id Q) ⟨F,H⟩:=rfl
theorem jr:awf P N bad fl (.loop c) Q ⟨F,H⟩=AW P N (.loop c) Q ⟨F,H⟩:=rfl
theorem jv:awf P N bad fl (.exit id) Q ⟨F,H⟩=Q (.exit id) ⟨F,H⟩:=rfl
theorem zM:awf P N bad fl (.label id) Q ⟨F,H⟩=Q .normal ⟨F,H⟩:=rfl
theorem jY:awf P N bad fl .ret Q ⟨F,H⟩=Q .ret ⟨F,H⟩:=rfl
end
end AM
end Go.Proofs.YtnconfggojpkcaaGreat
namespace Go.Proofs.YtnconfggojpkcaaGreat
open Go.RowKit Go.Sort
namespace AM
section
variable {α:Type} [Inhabited α] {enc:α→Value}
theorem WO {w:World} {g:Nat} {cur:Array Value} {e:TypeId} {ss:List α} (hb:w.heap[g]? = some (.cells cur e (0,0))) (ht:cur.toList.take ss.length=ss.map enc):Holds enc w g 0 ss.toArray:=by
 intro j hj
 have hj':j<ss.length:=by simpa using hj
 refine ⟨?_,by simp [World.frozen?,hb]⟩
 have h1:(cur.toList.take ss.length)[j]? = (ss.map enc)[j]? := by rw [ht]
 rw [List.getElem?_take_of_lt hj'] at h1
 simp only [World.cell?,hb,Nat.zero_add]
 simp only [Option.isSome_none,Bool.false_eq_true,if_false]
 rw [← Array.getElem?_toList,h1]
 simp [hj']
theorem heap_put {w:World} {g n:Nat} {os:Array Obj} {cur:Array Value} {e:TypeId} {fr:Nat×Nat} (d:Array α) (hb:w.heap[g]? = some (.cells cur e fr)) :
  (grow (putRow enc (Sort.ahead w n) g 0 d) os).heap[g]? = some (.cells (putCells enc 0 d cur) e fr):=by
 have hg:g<w.heap.size:=(Array.getElem?_eq_some_iff.1 hb).1
 rw [heap_grow_old _ _ (by simpa using hg)]
 simp [putRow,mapBlock,Sort.ahead,Array.getElem?_modify,hb,onCells]
theorem qfI (cur:Array Value) (ts:List α) (h:ts.length≤cur.size):(putCells enc 0 ts.toArray cur).toList.take ts.length=ts.map enc:=by
 apply List.ext_getElem?
 intro j
 by_cases hj:j<ts.length
 ·rw [List.getElem?_take_of_lt hj,Array.getElem?_toList]
  simp [putCells,hj,show j<cur.size by omega]
 ·rw [List.getElem?_take_eq_none (by omega),List.getElem?_eq_none (by simp; omega)]
theorem qoW {w:World} {g cap n:Nat} {e:TypeId} {os:Array Obj} {cur:Array Value} {zs ys:List α} (hl:ys.length=zs.length) (hb:w.heap[g]? = some (.cells cur e (0,0)))
  (h1:zs.length≤cap) (h2:cap≤maxLen) (h3:cur.size=cap*1):qe1 w (grow (putRow enc (Sort.ahead w n) g 0 ys.toArray) os) g e 1 zs.length cap (ys.map enc):=by
 refine ⟨rfl,rfl,rfl,by simp,fun k hne hk => ?_,by simp [hl],.inr ⟨g,cap,_,rfl,Nat.zero_le _,heap_put _ hb,h1,h2,by simp [putCells,h3],by rw [Nat.mul_one,← hl]; exact qfI cur ys (by omega)⟩⟩
 rw [heap_grow_old _ _ (by simpa using hk)]
 simp [putRow,mapBlock,Sort.ahead,Array.getElem?_modify,Ne.symm hne]
theorem below_grow {w:World} {os:Array Obj}:Go.RowKit.Below w.heap.size w (grow w os):=⟨rfl,rfl,rfl,by simp,fun k hk=>heap_grow_old _ _ hk⟩
end
def sorted' (zs:List Int):List Int:=zs.mergeSort fun x y=>decide (x≤y)
theorem qjb (a:List Int):(sorted' a).Pairwise fun x y=>x≤y:=by
 have:=List.pairwise_mergeSort (le:=fun x y:Int=>decide (x≤y)) (fun a b c h1 h2=>by simp at *; omega) (fun a b=>by simp; omega) a
 simpa [sorted'] using this
end AM
end Go.Proofs.YtnconfggojpkcaaGreat
namespace Go.Proofs.YtnconfggojpkcaaGreat
open Go.RowKit
namespace AM
def VI (H H':List Bk):Prop:=∀ (i:Nat) (b:Bk),H[i]? = some b→(∀ n l cu,b ≠ .iter n l cu)→H'[i]? = some b
def JG (m:Nat) (H H':List Bk):Prop:=∀ (i:Nat) (b:Bk),i≠m→H[i]? = some b→(∀ n l cu,b ≠ .iter n l cu)→H'[i]? = some b
theorem VI.refl {H:List Bk}:VI H H:=fun _ _ h _=>h
theorem VI.trans {H H1 H2:List Bk} (h:VI H H1) (h1:VI H1 H2):VI H H2:=fun i b hb hn=>h1 i b (h i b hb hn) hn
theorem qce {H L:List Bk} {i:Nat} {b:Bk} (h:H[i]? = some b):(H++L)[i]? = some b:=by
 rw [List.getElem?_append_left (List.getElem?_eq_some_iff.1 h).1]
 exact h
theorem VI.app {H L:List Bk}:VI H (H++L):=fun _ _ h _=>qce h
theorem VI.append {H H1 L:List Bk} (h:VI H H1):VI H (H1++L):=h.trans .app
theorem VI.cells {H H':List Bk} {i:Nat} {cs:List SV} (h:VI H H') (hi:H[i]? = some (.cells cs)):H'[i]? = some (.cells cs):=h i _ hi (fun _ _ _ e=>by cases e)
theorem VI.map {H H':List Bk} {i:Nat} {es:List (Value×V)} (h:VI H H') (hi:H[i]? = some (.map es)):H'[i]? = some (.map es):=h i _ hi (fun _ _ _ e=>by cases e)
theorem VI.but {m:Nat} {H H':List Bk} (h:VI H H'):JG m H H':=fun i b _ hb hn=>h i b hb hn
theorem JG.refl {m:Nat} {H:List Bk}:JG m H H:=fun _ _ _ h _=>h
theorem JG.trans {m:Nat} {H H1 H2:List Bk} (h:JG m H H1) (h1:JG m H1 H2):JG m H H2:=fun i b hi hb hn=>h1 i b hi (h i b hi hb hn) hn
theorem JG.app {m:Nat} {H L:List Bk}:JG m H (H++L):=VI.app.but
theorem JG.append {m:Nat} {H H1 L:List Bk} (h:JG m H H1):JG m H (H1++L):=h.trans .app
theorem JG.cells {m:Nat} {H H':List Bk} {i:Nat} {cs:List SV} (h:JG m H H') (hm:i≠m) (hi:H[i]? = some (.cells cs)):H'[i]? = some (.cells cs):=h i _ hm hi (fun _ _ _ e=>by cases e)
theorem killA {m i:Nat} {H:List Bk} {b:Bk} (h:H[i]? = some b) (hn:∀ n l cu,b ≠ .iter n l cu):(Zk m H)[i]? = some b:=by
 unfold Zk
 rw [List.getElem?_map,h]
 cases b with
 | iter n l cu=>exact absurd rfl (hn n l cu)
 | _=>rfl
def VE (H H':List Bk):Prop:=∀ (i:Nat) (b:Bk),H[i]? = some b→H'[i]? = some b
def YE (m:Nat) (H H':List Bk):Prop:=∀ (i:Nat) (b:Bk),i≠m→H[i]? = some b→H'[i]? = some b
def vI (m:Nat) (H H':List Bk):Prop:=∀ (i:Nat) (b:Bk),i≠m→H[i]? = some b→(∀ l cu,b ≠ .iter m l cu)→H'[i]? = some b
section
variable {m:Nat} {H H' H1 L:List Bk}
theorem VE.refl:VE H H:=fun _ _ h=>h
theorem VE.trans (h:VE H H1) (h1:VE H1 H'):VE H H':=fun i b hb=>h1 i b (h i b hb)
theorem VE.app:VE H (H++L):=fun _ _ h=>qce h
theorem VE.append (h:VE H H1):VE H (H1++L):=h.trans .app
theorem VE.cells {i:Nat} {cs:List SV} (h:VE H H') (hi:H[i]? = some (.cells cs)):H'[i]? = some (.cells cs):=h i _ hi
theorem VE.map {i:Nat} {es:List (Value×V)} (h:VE H H') (hi:H[i]? = some (.map es)):H'[i]? = some (.map es):=h i _ hi
theorem VE.x (h:VE H H'):YE m H H':=fun i b _ hb=>h i b hb
theorem VE.a (h:VE H H'):vI m H H':=fun i b _ hb _=>h i b hb
theorem YE.refl:YE m H H:=fun _ _ _ h=>h
theorem YE.trans (h:YE m H H1) (h1:YE m H1 H'):YE m H H':=fun i b hi hb=>h1 i b hi (h i b hi hb)
theorem YE.app:YE m H (H++L):=VE.app.x
theorem YE.append (h:YE m H H1):YE m H (H1++L):=h.trans .app
theorem YE.set {k:Bk}:YE m H (H.set m k):=fun i b hi hb=>by rw [List.getElem?_set_ne (Ne.symm hi)]; exact hb
theorem YE.new (h:YE m H H') (hm:H.length≤m):VE H H':=fun i b hb=>h i b (Nat.ne_of_lt (Nat.lt_of_lt_of_le (List.getElem?_eq_some_iff.1 hb).1 hm)) hb
theorem vI.app:vI m H (H++L):=VE.app.a
theorem vI.cells {i:Nat} {cs:List SV} (h:vI m H H') (hm:i≠m) (hi:H[i]? = some (.cells cs)):H'[i]? = some (.cells cs):=h i _ hm hi (fun _ _ e=>by cases e)
theorem vI.w (h:vI m H H'):JG m H H':=fun i b hi hb hn=>h i b hi hb (hn m)
theorem vI.killed {k:Bk} (h:vI m H H1):vI m H ((Zk m H1).set m k):=fun i b hi hb hn=>by
 rw [List.getElem?_set_ne (Ne.symm hi)]
 unfold Zk
 rw [List.getElem?_map,h i b hi hb hn]
 cases b with
 | iter n l cu =>
  by_cases e:n=m
  ·subst e
   exact absurd rfl (hn l cu)
  ·have e2:(n==m)=false:=by simpa using e
   simp [qjX,e2]
 | _=>rfl
end
theorem killLen {m:Nat} {H:List Bk}:(Zk m H).length=H.length:=by simp [Zk]
theorem killSelf {m n:Nat} {H:List Bk} {b k:Bk} (h:H[m]? = some b):((Zk n H).set m k)[m]? = some k:=List.getElem?_set_self (by rw [killLen]; exact (List.getElem?_eq_some_iff.1 h).1)
theorem setSelf {H:List Bk} {i:Nat} {b k:Bk} (h:H[i]? = some b):(H.set i k)[i]? = some k:=List.getElem?_set_self (List.getElem?_eq_some_iff.1 h).1
theorem setOther {H:List Bk} {i j:Nat} {b:Bk} (h:H[j]? = some b) (hne:i≠j) (k:Bk):(H.set i k)[j]? = some b:=(List.getElem?_set_ne hne).trans h
theorem AFn.mono' {P:Program} {f:FuncId} {xs:List V} {H:List Bk} {Q Q':V→List Bk→Prop} (h:AFn P f xs H Q) (k:∀ y H,Q y H→Q' y H):AFn P f xs H Q':=⟨h.1,fun c w vs hi hs hr=>(h.2 c w vs hi hs hr).mono fun e w' he=>by
 obtain ⟨v,y,H',c',k1,k2,k3,k4,k5,k6⟩:=he
 exact ⟨v,y,H',c',k1,k2,k3,k4,k5,k _ _ k6⟩⟩
theorem AFn.conv {P:Program} {f:FuncId} {xs:List V} {H:List Bk} {Q Q':V→List Bk→Prop} (h:AFn P f xs H Q) (k:∀ y H',Q y H'→∃ r,Q' r H'∧∀ I φ v,Rel I φ y v→Rel I φ r v):AFn P f xs H Q':=⟨h.1,fun c w vs hi hs hr=>(h.2 c w vs hi hs hr).mono fun e w' he=>by
 obtain ⟨v,y,H',c',k1,k2,k3,k4,k5,k6⟩:=he
 obtain ⟨r,q1,q2⟩:=k _ _ k6
 exact ⟨v,r,H',c',k1,q2 _ _ _ k2,k3,k4,k5,q1⟩⟩
theorem qaO {I:Nat→Nat→Option Value} {φ:List Nat} {sz:Nat} {v:Value} (h:Rel I φ .nil v):Rel I φ (.sl 0 sz []) v:=by
 cases h
 exact .sl0
theorem putRowV {A B x z:List V} {k:Nat} (hA:A.length=k) (hz:z.length=x.length):(A++(z++B)).take k++x++(A++(z++B)).drop (k+x.length)=A++(x++B):=by
 subst hA
 rw [List.take_left,List.drop_append,List.drop_of_length_le (by omega)]
 simp [← hz]
theorem qls (n:Nat) (zc:List V):jT (n+1) zc=zc++jT n zc:=by simp [jT,List.replicate_succ]
theorem Inv.weakC {c:Cx} {H:List Bk} {w:World} {id off:Nat} {ks:List SV} {x:SV} (h:Inv c H w) (hk:H[id]? = some (.cells ks)) (hj:ks[off]? = some (.v .nil)) (hz:qW x) (hf:x.flat=true):Inv c (qo H id off x) w:=by
 rw [zF hk]
 refine ⟨h.imm,by rw [List.length_set]; exact h.len,h.lt,h.uniq,fun id' b k hb hk' => ?_⟩
 rw [List.getElem?_set] at hk'
 split at hk'
 ·rename_i e
  subst e
  split at hk'
  ·simp only [Option.some.injEq] at hk'
   subst hk'
   obtain ⟨h1,h2,arr,e,q1,q2,q3,q4⟩:=h.blk id b _ hb hk
   refine ⟨h1,h2,arr,e,q1,by rw [List.length_set]; exact q2,q3,fun j y v hy hv => ?_⟩
   rw [List.getElem?_set] at hy
   split at hy
   ·rename_i e
    subst e
    split at hy
    ·simp only [Option.some.injEq] at hy
     subst hy
     exact ⟨hf,qdO hz (q4 off _ v hj hv).2⟩
    ·cases hy
   ·exact q4 j y v hy hv
  ·cases hk'
 ·exact h.blk id' b k hb hk'
theorem AW.qaL {P:Program} {N:Nat} {F:Fr} {H:List Bk} {x:Code} {Q:Exit→St→Prop} {id off:Nat} {ks:List SV} (y:SV) (hk:H[id]? = some (.cells ks)) (hj:ks[off]? = some (.v .nil)) (hz:qW y) (hf:y.flat=true)
  (h:AW P N x Q ⟨F,qo H id off y⟩):AW P N x Q ⟨F,H⟩:=fun c a w hs=>h c a w ⟨hs.inv.weakC hk hj hz hf,hs.size,hs.defers,hs.fr⟩
theorem qnb {I:Nat→Nat→Option Value} {φ:List Nat} {sz:Nat} {v:Value} (h:Rel I φ .nil v):Rel I φ (.sl 0 sz []) v:=by
 cases h with
 | nil=>exact .sl0
theorem XF {I:Nat→Nat→Option Value} {φ:List Nat} {sz:Nat} {xs:List V} {v:Value} (h:Rel I φ (.tup (.nil::xs)) v):Rel I φ (.tup (.sl 0 sz []::xs)) v:=by
 cases h with
 | tup h =>
  cases hv : ‹Array Value›.toList with
  | nil=>rw [hv] at h; cases h
  | cons u us =>
   refine .tup ?_
   rw [hv] at h ⊢
   cases h with
   | cons h1 h2=>exact .cons (qnb h1) h2
def Wk (H H':List Bk):Prop:=∀ (c:Cx) (N:Nat) (F:Fr) (a:Act) (w:World),Sim c N ⟨F,H⟩ a w→∃ c',Sim c' N ⟨F,H'⟩ a w∧Ext c w c' w∧c'.R=c.R
theorem Wk.refl (H:List Bk):Wk H H:=fun c N F a w h=>⟨c,h,Ext.refl c w,rfl⟩
theorem Wk.trans {H H1 H2:List Bk} (h:Wk H H1) (k:Wk H1 H2):Wk H H2:=fun c N F a w hs=>by
 obtain ⟨c1,s1,x1,r1⟩:=h c N F a w hs
 obtain ⟨c2,s2,x2,r2⟩:=k c1 N F a w s1
 exact ⟨c2,s2,x1.trans x2,r2.trans r1⟩
def XR (x y:SV):Prop:=y.flat=true∧∀ (c:Cx) (w:World) (r:Root) (v:Value),QF c w r x v→QF c w r y v
theorem XR.refl {x:SV} (h:x.flat=true):XR x x:=⟨h,fun _ _ _ _ h=>h⟩
theorem XR.nil {y:SV} (hf:y.flat=true) (h:qW y):XR (.v .nil) y:=⟨hf,fun c w r v hv=>qdO h hv⟩
theorem XR.Zm {id off:Nat}:XR (.v .nil) (.v (.slb id off 0 0)):=⟨rfl,fun c w r v hv=>by
 have e:v = .slice none 0 0:=Rel.exact (show Rel c.I c.φ .nil v from hv) rfl
 subst e
 exact Rel.slb0⟩
theorem Wk.cells {H:List Bk} {id:Nat} {ks ks':List SV} (hk:H[id]? = some (.cells ks)) (hl:ks'.length=ks.length) (hc:∀ (j:Nat) (x y:SV),ks[j]? = some x→ks'[j]? = some y→x.flat=true→XR x y):Wk H (H.set id (.cells ks')):=fun c N F a w h=>by
 have hlt:=(List.getElem?_eq_some_iff.1 hk).1
 refine ⟨c,⟨⟨h.inv.imm,by simpa using h.inv.len,h.inv.lt,h.inv.uniq,fun id' b k hb hk' => ?_⟩,h.size,h.defers,h.fr⟩,Ext.refl c w,rfl⟩
 by_cases hi:id=id'
 ·subst hi
  rw [List.getElem?_set_self hlt] at hk'
  cases hk'
  obtain ⟨h1,h2,arr,e,g1,g2,g6,g3⟩:=h.inv.blk id b _ hb hk
  refine ⟨h1,h2,arr,e,g1,by rw [g2,hl],g6,fun j y v hy hv => ?_⟩
  have hj:j<ks.length:=by rw [← hl]; exact (List.getElem?_eq_some_iff.1 hy).1
  obtain ⟨f1,f2⟩:=g3 j _ v (List.getElem?_eq_getElem hj) hv
  obtain ⟨q1,q2⟩:=hc j _ y (List.getElem?_eq_getElem hj) hy f1
  exact ⟨q1,q2 c w _ v f2⟩
 ·rw [List.getElem?_set_ne hi] at hk'
  exact h.inv.blk id' b k hb hk'
theorem Wk.cell {H:List Bk} {id off:Nat} {ks:List SV} {x y:SV} (hk:H[id]? = some (.cells ks)) (hx:ks[off]? = some x) (hc:XR x y):Wk H (H.set id (.cells (ks.set off y))) :=
 Wk.cells hk (by simp) fun j x' y' h1 h2 hf=>by
  rw [List.getElem?_set] at h2
  by_cases hj:off=j
  ·subst hj
   rw [hx] at h1
   cases h1
   rw [if_pos rfl,if_pos (List.getElem?_eq_some_iff.1 hx).1] at h2
   cases h2
   exact hc
  ·rw [if_neg hj,h1] at h2
   cases h2
   exact XR.refl hf
theorem Wk.share {H:List Bk} {id off:Nat} {ks:List SV} {pr:Bool} {e n sz:Nat} {cs:List V} (hk:H[id]? = some (.cells ks)) (hx:ks[off]? = some (.own pr e n sz cs)):Wk H (H.set id (.cells (ks.set off (.own false e n sz cs)))):=fun c N F a w h=>by
 have hlt:id<c.φ.length:=by rw [h.inv.len]; exact (List.getElem?_eq_some_iff.1 hk).1
 obtain ⟨hr,hi,arr,e',q1,q2,q6,q3⟩:=h.inv.blk id _ _ (List.getElem?_eq_getElem hlt) hk
 obtain ⟨c',u,_,_,k3,k4,k5⟩:=Sim.qgm (F:=F) (H:=H) h (List.getElem?_eq_getElem hlt) hk hx
 rw [zF hk] at k3
 exact ⟨_,k3,k4,k5⟩
theorem AW.wk {P:Program} {N:Nat} {F:Fr} {H H':List Bk} {x:Code} {Q:Exit→St→Prop} (h:Wk H H') (hA:AW P N x Q ⟨F,H'⟩):AW P N x Q ⟨F,H⟩:=fun c a w hs=>by
 obtain ⟨c',s1,x1,_⟩:=h c N F a w hs
 exact wp_mono (hA c' a w s1) fun e a' w' he=>Post.step x1 he
def qmL (c:Cx):Prop:=∀ b t,c.R b = .own (.slot t)→t=0
def OFn (P:Program) (f:FuncId) (e n sz:Nat) (cs xs:List V) (H:List Bk) (Q:Nat→List V→List Bk→Prop):Prop :=
 Enters P f∧∀ (c:Cx) (w:World) (u:Value) (vs:List Value),Inv c H w→qmL c→QF c w (.slot 0) (.own true e n sz cs) u→vM c.I c.φ xs vs →
  Calls P f (u::vs).toArray w fun e' w'=>∃ v n' cs' H' c',e' = .returned v∧QF c' w' (.slot 0) (.own true e n' sz cs') v∧Inv c' H' w'∧qmL c'∧Ext c w c' w'∧Q n' cs' H'
def Cx.pass (c:Cx) (t:Nat):Cx := { c with R:=fun b=>if c.R b = .own (.slot t) then .own (.slot 0) else bif J3 (c.R b) then .out else c.R b }
section
variable {P:Program} {c c1:Cx} {N:Nat} {F:Fr} {H H':List Bk} {a:Act} {w w1:World} {t d:Nat}
theorem qeQ {b:Nat} (h:c.R b = .own (.slot t)):(c.pass t).R b = .own (.slot 0):=by simp [Cx.pass,h]
theorem qfq {b:Nat} (h:c.R b ≠ .own (.slot t)) (hs:J3 (c.R b)=true):(c.pass t).R b = .out:=by simp [Cx.pass,h,hs]
theorem qcK {b:Nat} (hs:J3 (c.R b)=false):(c.pass t).R b=c.R b:=by
 have:c.R b ≠ .own (.slot t):=fun e=>by rw [e] at hs; cases hs
 simp [Cx.pass,this,hs]
theorem qiq:qmL (c.pass t):=fun b k h=>by
 by_cases h1:c.R b = .own (.slot t)
 ·rw [qeQ h1] at h
  cases h
  rfl
 ·cases hs:J3 (c.R b) with
  | true=>rw [qfq h1 hs] at h; cases h
  | false =>
   rw [qcK hs] at h
   rw [h] at hs
   cases hs
theorem qjO {b:Nat} {r:Root} (h:(c.pass t).R b = .own r):(r = .slot 0∧c.R b = .own (.slot t))∨(c.R b = .own r∧J3 (c.R b)=false):=by
 by_cases h1:c.R b = .own (.slot t)
 ·rw [qeQ h1] at h
  cases h
  exact .inl ⟨rfl,h1⟩
 ·cases hs:J3 (c.R b) with
  | true=>rw [qfq h1 hs] at h; cases h
  | false =>
   rw [qcK hs] at h
   exact .inr ⟨h,rfl⟩
theorem qip {b:Nat} (h:c.R b = .out):(c.pass t).R b = .out:=by rw [qcK (by rw [h]; rfl),h]
theorem Inv.pass (h:Inv c H w):Inv (c.pass t) H w:=by
 refine ⟨h.imm,h.len,fun b hb=>h.lt b fun e=>hb (qip e),fun b b' r hb hb' => ?_,fun id b k hb hk => ?_⟩
 ·rcases qjO hb with ⟨h1,h2⟩ | ⟨h1,h2⟩ <;> rcases qjO hb' with ⟨g1,g2⟩ | ⟨g1,g2⟩
  ·exact h.uniq b b' _ h2 g2
  ·subst h1; rw [g1] at g2; cases g2
  ·subst g1; rw [h1] at h2; cases h2
  ·exact h.uniq b b' r h1 g1
 ·obtain ⟨h1,h2,h3⟩:=h.blk id b k hb hk
  refine ⟨by rw [qcK (by rw [h1]; rfl)]; exact h1,h2,?_⟩
  by_cases hck:∃ cs,k = .cells cs
  rotate_left
  ·exact qac.stay (fun cs e=>hck ⟨cs,e⟩) h3 (fun _ _ _ h=>h) (fun _ _ h=>h) (fun _ _ h _=>h)
  obtain ⟨cs,rfl⟩:=hck
  obtain ⟨arr,e,g1,g2,g6,g3⟩:=h3
  refine ⟨arr,e,g1,g2,g6,fun j x v hx hv=>⟨(g3 j x v hx hv).1,?_⟩⟩
  exact QF.mono (c:=c) (c':=c.pass t) (w:=w) (w':=w) (fun _ _ _ h=>h) (fun _ _ h=>h) (fun b' q hq hb'=>⟨(by
   rcases hq with rfl | hq
   ·rw [qcK (by rw [hb']; rfl)]; exact hb'
   ·rw [Vn (g3 j x v hx hv).1] at hq; cases hq),rfl,fun _=>rfl⟩) (g3 j x v hx hv).2
theorem Ext.pass (c:Cx) (w:World):Ext c w (c.pass t) w :=
 ⟨rfl,rfl,rfl,Nat.le_refl _,fun b hb h=>⟨rfl,qip h,fun _=>rfl⟩,fun _ _ _ h=>h,fun _ _ h=>h⟩
theorem QF.qkJ {c':Cx} {r r':Root} {pr:Bool} {e n sz:Nat} {cs:List V} {v:Value} (h:QF c w r (.own pr e n sz cs) v) (hI:c'.I=c.I) (hφ:c'.φ=c.φ) (hR:∀ b,c.R b = .own r→c'.R b = .own r'):QF c' w r' (.own pr e n sz cs) v:=by
 obtain ⟨h0,vs,h1,h2,h4,h3⟩:=h
 exact ⟨h0,vs,by rw [hI,hφ]; exact h1,h2,h4,fun b hb=>⟨hR b (h3 b hb).1,fun o=>by rw [hI]; exact (h3 b hb).2 o⟩⟩
theorem Sim.backO (h:Sim c N ⟨F,H⟩ a w) (hF:∀ k x,(k,x)∈F→k≠t∧x.refers (.slot t)=false) (hd:∀ b,c.R b ≠ .own (.slot d)) (h1:Inv c1 H' w1) (hn:qmL c1) (hx:Ext (c.pass t) w c1 w1) :
  ∃ c',Sim c' N ⟨calm F,H'⟩ a w1∧Ext c w c' w1∧c'.I=c1.I∧c'.φ=c1.φ∧(∀ b,c1.R b = .own (.slot 0)→c'.R b = .own (.slot d)):=by
 let K:Nat→Bool:=fun b=>J3 (c.R b) && !decide (c.R b = .own (.slot t))
 let c':Cx := { c1 with R:=fun b=>bif K b then c.R b else if c1.R b = .own (.slot 0) then .own (.slot d) else c1.R b }
 have out1:∀ b,K b=true→b<w.heap.size∧w1.heap[b]? = w.heap[b]? ∧ c1.R b = .out∧∀ o,c1.I b o=c.I b o:=fun b hb=>by
  simp only [K,Bool.and_eq_true,Bool.not_eq_true',decide_eq_false_iff_not] at hb
  have hlt:=h.inv.lt b (fun e=>by rw [e] at hb; cases hb.1)
  obtain ⟨k1,k2,k3⟩:=hx.out b hlt (qfq hb.2 hb.1)
  exact ⟨hlt,k1,k2,k3⟩
 have rs:∀ b,K b=true→c'.R b=c.R b:=fun b hb=>by simp [c',hb]
 have rz:∀ b,c1.R b = .own (.slot 0)→c'.R b = .own (.slot d):=fun b hb=>by
  cases hs:K b with
  | true=>rw [(out1 b hs).2.2.1] at hb; cases hb
  | false=>simp [c',hs,hb]
 have rn:∀ b,c1.R b ≠ .own (.slot 0)→K b=false→c'.R b=c1.R b:=fun b hb hs=>by simp [c',hs,hb]
 have cell1:∀ b r,c1.R b = .own r→r ≠ .slot 0→c'.R b = .own r:=fun b r hb hr=>by
  cases hs:K b with
  | true=>rw [(out1 b hs).2.2.1] at hb; cases hb
  | false=>rw [rn b (by rw [hb]; simpa using hr) hs]; exact hb
 have back:∀ b r,c'.R b = .own r→(K b=true∧c.R b = .own r)∨(K b=false∧r = .slot d∧c1.R b = .own (.slot 0))∨(K b=false∧c1.R b = .own r∧∃ i j,r = .cell i j):=fun b r hb=>by
  cases hs:K b with
  | true=>rw [rs b hs] at hb; exact .inl ⟨rfl,hb⟩
  | false =>
   by_cases hz:c1.R b = .own (.slot 0)
   ·rw [rz b hz] at hb
    cases hb
    exact .inr (.inl ⟨rfl,rfl,hz⟩)
   ·rw [rn b hz hs] at hb
    refine .inr (.inr ⟨rfl,hb,?_⟩)
    cases r with
    | slot k =>
     have:=hn b k hb
     subst this
     exact absurd hb hz
    | cell i j=>exact ⟨i,j,rfl⟩
 have slotK:∀ b k,c.R b = .own (.slot k)→k≠t→K b=true:=fun b k hb hk=>by
  simp only [K,hb,J3,Bool.true_and,Bool.not_eq_true',decide_eq_false_iff_not]
  simpa using hk
 refine ⟨c',⟨⟨h1.imm,h1.len,fun b hb => ?_,fun b b' r hb hb' => ?_,fun id b k hb hk => ?_⟩,h.size,h.defers,fun k x hx' => ?_⟩,?_,rfl,rfl,rz⟩
 ·cases hs:K b with
  | true=>exact Nat.lt_of_lt_of_le (out1 b hs).1 hx.size
  | false =>
   by_cases hz:c1.R b = .own (.slot 0)
   ·exact h1.lt b (by rw [hz]; simp)
   ·rw [rn b hz hs] at hb
    exact h1.lt b hb
 ·rcases back b r hb with ⟨k1,k2⟩ | ⟨k1,k2,k3⟩ | ⟨k1,k2,i,j,k3⟩ <;> rcases back b' r hb' with ⟨g1,g2⟩ | ⟨g1,g2,g3⟩ | ⟨g1,g2,i',j',g3⟩
  ·exact h.inv.uniq b b' r k2 g2
  ·subst g2; exact absurd k2 (hd b)
  ·subst g3
   simp only [K,k2,J3,Bool.false_and] at k1
   cases k1
  ·subst k2; exact absurd g2 (hd b')
  ·exact h1.uniq b b' _ k3 g3
  ·rw [k2] at g3; cases g3
  ·subst k3
   simp only [K,g2,J3,Bool.false_and] at g1
   cases g1
  ·rw [g2] at k3; cases k3
  ·exact h1.uniq b b' r k2 g2
 ·obtain ⟨k1,k2,k3⟩:=h1.blk id b k hb hk
  have hs:K b=false:=by
   cases hs:K b with
   | true=>rw [(out1 b hs).2.2.1] at k1; cases k1
   | false=>rfl
  refine ⟨by rw [rn b (by rw [k1]; simp) hs]; exact k1,k2,?_⟩
  by_cases hck:∃ cs,k = .cells cs
  rotate_left
  ·exact qac.stay (fun cs e=>hck ⟨cs,e⟩) k3 (fun _ _ _ h=>h) (fun _ _ h=>h) (fun _ _ h _=>h)
  obtain ⟨cs,rfl⟩:=hck
  obtain ⟨arr,e,g1,g2,g6,g3⟩:=k3
  refine ⟨arr,e,g1,g2,g6,fun j x v hx hv=>⟨(g3 j x v hx hv).1,?_⟩⟩
  exact QF.mono (c:=c1) (c':=c') (w:=w1) (w':=w1) (fun _ _ _ h=>h) (fun _ _ h=>h) (fun b' q hq hb'=>⟨cell1 b' q hb' (by
   rcases hq with rfl | hq
   ·simp
   ·rw [Vn (g3 j x v hx hv).1] at hq; cases hq),rfl,fun _=>rfl⟩) (g3 j x v hx hv).2
 ·obtain ⟨hxF,hcalm⟩:=qaY hx'
  obtain ⟨hkt,hrt⟩:=hF k x hxF
  obtain ⟨v,hv,hr⟩:=h.fr k x hxF
  refine ⟨v,hv,QF.mono (c:=c) (c':=c') (w:=w) (w':=w1) hx.imm hx.phi (fun b q hq hb => ?_) hr⟩
  have hs:K b=true:=by
   rcases hq with rfl | hq
   ·exact slotK b k hb hkt
   ·cases q with
    | slot k2=>exact slotK b k2 hb (by rintro rfl; rw [hrt] at hq; cases hq)
    | cell id j =>
     cases x with
     | pth r' o =>
      have:r' = .cell id j:=by simpa [SV.refers] using hq
      subst this
      cases hcalm
     | lnk r' o =>
      have:r' = .cell id j:=by simpa [SV.refers] using hq
      subst this
      cases hcalm
     | _=>cases hq
  obtain ⟨_,o1,_,o3⟩:=out1 b hs
  exact ⟨by rw [rs b hs]; exact hb,o1,o3⟩
 ·refine ⟨hx.os,hx.tape,hx.output,hx.size,fun b hb hr => ?_,hx.imm,hx.phi⟩
  obtain ⟨k1,k2,k3⟩:=hx.out b hb (qip hr)
  have hs:K b=false:=by simp only [K,hr,J3,Bool.false_and]
  exact ⟨k1,by rw [rn b (by rw [k2]; simp) hs]; exact k2,k3⟩
end
def ofin (e sz:Nat) (t:Nat) (Q:Nat→List V→List Bk→Prop) (s:St):Prop:=match qm t s.F with
 | some (.own true e' n' sz' cs')=>e'=e∧sz'=sz∧Q n' cs' s.H
 | _=>False
def oEnd (e sz:Nat) (t:Nat) (Q:Nat→List V→List Bk→Prop):Exit→St→Prop
 | .normal,s=>ofin e sz t Q s
 | .ret,s=>ofin e sz t Q s
 | _,_=>False
theorem OFn.intro {P:Program} {f:FuncId} {fn:Func} {code:Code} {e n sz t:Nat} {cs xs:List V} {H:List Bk} {Q:Nat→List V→List Bk→Prop} (hf:P.funcs[f]? = some fn) (hb:fn.body=some code) (hn:(fn.name == "runtime.NumGoroutine")=false)
  (hN:xs.length+1≤fn.ntmps) (hres:fn.results.toList = [.tmp t]) (h:AW P fn.ntmps code (oEnd e sz t Q) ⟨(0,.own true e n sz cs)::ql 1 xs,H⟩):OFn P f e n sz cs xs H Q:=by
 refine ⟨⟨fn,hf,by rw [hb]; rfl,hn⟩,fun c w u vs hi hz hu hr => ?_⟩
 refine calls_of_wp hf hb ?_
 have h0:Sim c fn.ntmps ⟨(0,.own true e n sz cs)::ql 1 xs,H⟩ { tmps:=(u::vs).toArray++Array.replicate (fn.ntmps - (u::vs).toArray.size) undef,defers := [] } w:=by
  refine ⟨hi,?_,rfl,fun t x hx => ?_⟩
  ·have:=hr.len
   simp
   omega
  ·rcases List.mem_cons.1 hx with hx | hx
   ·cases hx
    exact ⟨u,by rw [Array.getElem?_append_left (by simp)]; simp,hu⟩
   ·obtain ⟨j,y,h1,h2,rfl⟩:=qgD hx
    obtain ⟨v,h3,h4⟩:=hr.get h2
    refine ⟨v,?_,h4⟩
    subst h1
    have hlt:j<vs.length:=(List.getElem?_eq_some_iff.1 h3).1
    rw [Array.getElem?_append_left (by simp; omega)]
    simpa [Nat.add_comm] using h3
 refine wp_mono (h c _ w h0) fun ex a' w' he => ?_
 obtain ⟨c',s',k1,k2,k3⟩:=he
 have fin:ofin e sz t Q s'→a'.defers = []∧∃ v,(results fn a'.tmps).run P w' = .ok v w'∧∃ v_1 n' cs' H' c'_1,Ending.returned v = .returned v_1∧QF c'_1 w' (.slot 0) (.own true e n' sz cs') v_1∧Inv c'_1 H' w'∧qmL c'_1∧Ext c w c'_1 w'∧Q n' cs' H':=by
  intro k3
  unfold ofin at k3
  split at k3
  ·rename_i e' n' sz' cs' hg
   obtain ⟨rfl,rfl,hq⟩:=k3
   obtain ⟨v,hv,hs⟩:=k1.fr t _ (QO hg)
   refine ⟨k1.defers,v,?_,v,n',cs',s'.H,c'.pass t,rfl,hs.qkJ rfl rfl fun b hb=>qeQ hb,k1.inv.pass,qiq,k2.trans (Ext.pass c' w'),hq⟩
   have hm:(fn.results.mapM (qdm a'.tmps)).run P w' = .ok #[v] w':=by
    rw [Array.mapM_eq_mapM_toList,Sem.run_map,hres]
    have:a'.tmps.getD t undef=v:=by simp [hv]
    simp [qdm,this]
   have e0:results fn a'.tmps=(fn.results.mapM (qdm a'.tmps)) >>= fun vs=>pure (if h:vs.size=1 then vs[0] else .tuple vs):=rfl
   rw [e0,Sem.run_bind,hm,Result.andThen_ok,Sem.run_pure]
   simp
  ·exact k3.elim
 cases ex with
 | normal=>exact fin k3
 | ret=>exact fin k3
 | _=>exact k3.elim
section
variable {P:Program} {N:Nat} {id:Nat} {ops:Array Oper} {Q:Exit→St→Prop} {F:Fr} {H:List Bk} {f:FuncId} {e n sz:Nat} {cs:List V} {o1 o2 o3:Oper} {rest:List Oper} {t u d:Nat} {xs:List Operand} {args:Array Operand} {ts:Array TypeId}
end
section
variable {P:Program} {c:Cx} {N:Nat} {a:Act} {w:World} {F:Fr} {H:List Bk} {Q:Exit→St→Prop} {id:Nat} {ops:Array Oper} {o1 o2:Oper} {rest:List Oper}
theorem setCell_new {v:Value} {ty:TypeId}:(w.alloc (.cells #[v] ty)).setCell ⟨w.heap.size,0,none⟩ v=w.alloc (.cells #[v] ty):=by
 have hh:((w.alloc (.cells #[v] ty)).setCell ⟨w.heap.size,0,none⟩ v).heap=(w.alloc (.cells #[v] ty)).heap:=by
  unfold World.setCell
  apply Array.ext
  ·simp
  ·intro i h1 h2
   rw [Array.getElem_modify]
   split
   ·rename_i e
    have e:w.heap.size=i:=e
    subst e
    have:(w.alloc (.cells #[v] ty)).heap[w.heap.size] = .cells #[v] ty:=by
     have:=heap_alloc_new w (.cells #[v] ty)
     rw [Array.getElem?_eq_getElem h2] at this
     exact Option.some.inj this
    rw [this]
    simp
   ·rfl
 have e1:(w.alloc (.cells #[v] ty)).setCell ⟨w.heap.size,0,none⟩ v = { w.alloc (.cells #[v] ty) with heap:=((w.alloc (.cells #[v] ty)).setCell ⟨w.heap.size,0,none⟩ v).heap }:=rfl
 rw [e1,hh]
theorem Sim.boxed {u:Nat} {pr:Bool} {e n sz:Nat} {cs:List V} {ty:TypeId} (h:Sim c N ⟨F,H⟩ a w) (hu:qm u F=some (.own pr e n sz cs)) :
  ∃ c' v,a.tmps[u]? = some v∧v.oneCell'=true∧Sim c' N ⟨QI (.cell H.length 0) (del u F),H ++ [.cells [.own pr e n sz cs]]⟩ a (w.alloc (.cells #[v] ty))∧Ext c w c' (w.alloc (.cells #[v] ty))∧c'.φ[H.length]? = some w.heap.size:=by
 obtain ⟨v,hv,h0,vs,h1,h2,h6,h3⟩:=h.fr u _ (QO hu)
 have hv1:v.oneCell'=true:=by rcases h2.2 with ⟨rfl,_⟩ | ⟨g,cap,cur,rfl,_⟩ <;> rfl
 have hl:=Sim.lay (arr := #[v]) (cs := [.sc v]) (e:=ty) h (.cons (.sc v) .nil) (by simpa using hv1)
 have hφ:(c.lay w.heap.size).φ[H.length]? = some w.heap.size:=by rw [← h.inv.len]; simp [Cx.lay]
 obtain ⟨c',v',p1,p2,p3,p4⟩:=Sim.place (id:=H.length) (off:=0) (ks := [.v (.sc v)]) hl hu hφ (by simp) (by simp)
 rw [hv] at p1
 cases p1
 rw [setCell_new] at p3 p4
 have hset:qo (H ++ [Bk.cells ([V.sc v].map SV.v)]) H.length 0 (.own pr e n sz cs)=H ++ [.cells [.own pr e n sz cs]]:=by simp [qo]
 rw [hset] at p3
 exact ⟨c',v,hv,hv1,p3,(Ext.lay c w _).trans p4,p4.phi _ _ hφ⟩
theorem AW.boxOwn {u d:Nat} {pr:Bool} {e n sz:Nat} {cs:List V} {ty:TypeId} (hops:ops.toList=o1::rest) (h1:o1.op = .box ty (.tmp u)) (hd1:o1.dst=some d) (hg1:o1.guard=none) (hd:d<N) (hF:qm u F=some (.own pr e n sz cs))
  (hQ:YB P N ops.toList rest (Q .normal) ⟨vO d (.v (.ptr H.length 0)) (QI (.cell H.length 0) (del u F)),H ++ [.cells [.own pr e n sz cs]]⟩):AW P N (.region id ops false) Q ⟨F,H⟩:=fun c a w hs=>by
 refine wp_region_list ?_
 rw [hops]
 obtain ⟨c1,v,hv,hv1,s1,x1,hφ⟩:=Sim.boxed (ty:=ty) (F:=F) (H:=H) hs hF
 have hev:a.eval (.tmp u)=v:=by simp [Act.eval,hv]
 have hcells:v.cells = #[v]:=by cases v <;> first | rfl | (simp [Value.oneCell'] at hv1)
 have acts1:Yl P o1 a w fun a' w'=>a'=a.put (some d) (.pointer (some ⟨w.heap.size,0,none⟩))∧w'=w.alloc (.cells #[v] ty):=by
  refine Zg (v := .pointer (some ⟨w.heap.size,0,none⟩)) (w':=w.alloc (.cells #[v] ty)) ?_ (by rw [hd1]; exact ⟨rfl,rfl⟩)
  unfold execOp
  simp only [h1,hev,hcells,Instr.box,Sem.run_bind,Result.andThen_ok,newVar,qbG,Sem.run_pure]
 refine wpList_step fun K' hK' => ?_
 rw [if_pos (by simp [Region.wanted,hg1])]
 refine Mix.ZX (Mix.Zt (fun dd vv w' h2 => ?_) (Mix.Jh acts1))
 obtain ⟨ea,rfl⟩:=h2
 refine hK' _ _ ?_
 rw [ea]
 have s2:=s1.put (t:=d) (x := .v (.ptr H.length 0)) (v := .pointer (some ⟨w.heap.size,0,none⟩)) hd trivial (Rel.ptr hφ)
 exact X6 s2 hQ fun a' w'' hp=>Post.step (x1.trans (Ext.free c1 _ _)) hp
theorem Sim.taken {x d i off:Nat} {ks:List SV} {pr:Bool} {e n sz:Nat} {cs:List V} {t:TypeId} (hs:Sim c N ⟨F,H⟩ a w) (h1:o1.op = .load t (.tmp x)) (hd1:o1.dst=some d) (haT:yJ P t=some false) (hd:d<N) (hF:qm x F=some (.v (.ptr i off))) (hk:H[i]? = some (.cells ks)) (hj:ks[off]? = some (.own pr e n sz cs)) :
  ∃ c1 v,Sim c1 N ⟨vO d (.own pr e n sz cs) (QI (.cell i off) F),qo H i off .any⟩ (a.put (some d) v) w∧Ext c w c1 w∧Yl P o1 a w fun a' w'=>a'=a.put (some d) v∧w'=w:=by
 obtain ⟨vx,hvx,hrx⟩:=hs.fr x _ (QO hF)
 cases hrx with
 | @ptr _ _ b hb =>
 obtain ⟨c1,v,k1,k2,k3⟩:=Sim.take (F:=F) (H:=H) hs hb hk hj hd
 refine ⟨c1,v,k2,k3,?_⟩
 have ex:a.eval (.tmp x) = .pointer (some ⟨b,off,none⟩):=by simp [Act.eval,hvx]
 refine Reads.acts ⟨v,fun w' hw => ?_,by rw [hd1]; exact ⟨rfl,rfl⟩⟩
 have h8:=(hw (by rw [h1]; rfl)).cell k1
 unfold execOp
 simp only [h1,ex,Instr.loadAt,Instr.sureAddr,Sem.run_bind,Sem.run_pure,Result.andThen_ok,loadVar,Vr haT,Bool.false_eq_true,if_false]
 simp [load,Sem.run,h8]
theorem AW.loadTake {x d i off:Nat} {ks:List SV} {pr:Bool} {e n sz:Nat} {cs:List V} {t:TypeId} (hops:ops.toList=o1::rest) (h1:o1.op = .load t (.tmp x)) (hd1:o1.dst=some d) (hg1:o1.guard=none) (haT:yJ P t=some false) (hd:d<N) (hF:qm x F=some (.v (.ptr i off))) (hk:H[i]? = some (.cells ks)) (hj:ks[off]? = some (.own pr e n sz cs))
  (hQ:YB P N ops.toList rest (Q .normal) ⟨vO d (.own pr e n sz cs) (QI (.cell i off) F),qo H i off .any⟩):AW P N (.region id ops false) Q ⟨F,H⟩:=fun c a w hs=>by
 refine wp_region_list ?_
 rw [hops]
 obtain ⟨c1,v,s1,x1,acts1⟩:=Sim.taken hs h1 hd1 haT hd hF hk hj
 refine wpList_step fun K' hK' => ?_
 rw [if_pos (by simp [Region.wanted,hg1])]
 refine Mix.ZX (Mix.Zt (fun dd vv w' h2 => ?_) (Mix.Jh acts1))
 obtain ⟨ea,rfl⟩:=h2
 refine hK' _ _ ?_
 rw [ea]
 exact X6 s1 hQ fun a' w'' hp=>Post.step x1 hp
theorem AW.ownCallL {x t d i off:Nat} {ks:List SV} {e n sz:Nat} {cs:List V} {ty:TypeId} {f:FuncId} {ts:Array TypeId} (hops:ops.toList=o1::o2::rest) (h1:o1.op = .load ty (.tmp x)) (hd1:o1.dst=some t) (hg1:o1.guard=none) (haT:yJ P ty=some false) (h3:o2.op = .call { callee := .value (.func f),args := #[.tmp t],argTypes:=ts }) (hd3:o2.dst=some d) (hg3:o2.guard=none)
  (ht:t<N) (hd:d<N) (hdt:d≠t) (hF:qm x F=some (.v (.ptr i off))) (hk:H[i]? = some (.cells ks)) (hj:ks[off]? = some (.own true e n sz cs)) {Q':Nat→List V→List Bk→Prop} (hO:OFn P f e n sz cs [] (qo H i off .any) Q')
  (hQ:∀ n' cs' H',Q' n' cs' H'→YB P N ops.toList rest (Q .normal) ⟨(d,.own true e n' sz cs')::calm (del d (del t (vO t (.own true e n sz cs) (QI (.cell i off) F)))),H'⟩):AW P N (.region id ops false) Q ⟨F,H⟩:=fun c a w hs=>by
 refine wp_region_list ?_
 rw [hops]
 obtain ⟨c1,v,s1,x1,acts1⟩:=Sim.taken hs h1 hd1 haT ht hF hk hj
 refine wpList_step fun K' hK' => ?_
 rw [if_pos (by simp [Region.wanted,hg1])]
 refine Mix.ZX (Mix.Zt (fun dd vv w' h2 => ?_) (Mix.Jh acts1))
 obtain ⟨ea,rfl⟩:=h2
 refine hK' _ _ ?_
 rw [ea]
 obtain ⟨v2,hv2,hsr⟩:=s1.fr t (.own true e n sz cs) (by simp [vO])
 have s3:Sim c1 N ⟨del d (del t (vO t (.own true e n sz cs) (QI (.cell i off) F))),qo H i off .any⟩ (a.put (some t) v) w':=s1.sub fun p hp=>(QL (x:=p.2) (k:=p.1) (QL (x:=p.2) (k:=p.1) hp).1).1
 have s4:=s3.free (r := .slot d) trivial fun k x hx=>⟨by simpa using (QL hx).2.1,(QL hx).2.2⟩
 have hsr4:QF (c1.free (.slot d)) w' (.slot t) (.own true e n sz cs) v2:=hsr.qkJ rfl rfl fun b hb=>WQ hb (by simpa using Ne.symm hdt)
 obtain ⟨⟨fn,q1,q2,q3⟩,hcall⟩:=hO
 have hcl:=hcall ((c1.free (.slot d)).pass t) w' v2 [] s4.inv.pass qiq (hsr4.qkJ rfl rfl fun b hb=>qeQ hb) .nil
 have acts3:Yl P o2 (a.put (some t) v) w' (fun a' w3=>wpList P ops (qcx c w' N Q) rest a' w3):=by
  unfold Yl Oper.wp
  have e2:(a.put (some t) v).eval (.tmp t)=v2:=by simp [Act.eval,hv2]
  have hrun:(execOp (a.put (some t) v).eval o2).run P w' = .ok (.enter f [v2].toArray) w':=by
   have hfv:(a.put (some t) v).eval (.func f) = .func (.func f) #[] #[]:=rfl
   have e4:fn.body.isNone=false:=by cases hb:fn.body <;> simp_all
   unfold execOp
   simp only [h3,resolve,hfv,Deferred.ofValue,Sem.run_bind,Sem.run_pure,Result.andThen_ok,invoke,callFunc,run_program,q1,q3,Bool.false_eq_true,if_false,e4]
   simp [e2]
  rw [hrun,Oper.upon_enter]
  refine hcl.mono fun e' w3 he => ?_
  obtain ⟨v',n',cs',H',c5,rfl,m1,m2,m3,m4,m5⟩:=he
  rw [hd3]
  obtain ⟨c6,r1,r2,r3,r4,r5⟩:=Sim.backO (d:=d) s4 (fun k x hx=>⟨(QL (QL hx).1).2.1,(QL (QL hx).1).2.2⟩) (fun b hb=>free_ne hb) m2 m3 m4
  have s7:Sim c6 N ⟨(d,.own true e n' sz cs')::calm (del d (del t (vO t (.own true e n sz cs) (QI (.cell i off) F)))),H'⟩ ((a.put (some t) v).put (some d) v') w3:=by
   refine ⟨r1.inv,by simpa [Act.put] using r1.size,r1.defers,fun k x hx => ?_⟩
   rcases List.mem_cons.1 hx with hx | hx
   ·cases hx
    exact ⟨v',by
     have:=r1.size
     simp [Act.put] at this
     simp [Act.put,Array.getElem?_setIfInBounds,this,hd],m1.qkJ r3 r4 r5⟩
   ·obtain ⟨z,hz,hr⟩:=r1.fr k x hx
    have hne:=(QL (qaY hx).1).2.1
    refine ⟨z,?_,hr⟩
    show (((a.put (some t) v).put (some d) v').tmps)[k]? = some z
    have:((a.put (some t) v).put (some d) v').tmps=(a.put (some t) v).tmps.setIfInBounds d v':=rfl
    rw [this,Array.getElem?_setIfInBounds,if_neg (Ne.symm hne)]
    exact hz
  exact X6 s7 (hQ n' cs' H' m5) fun a' w'' hp=>Post.step ((x1.trans (Ext.free c1 w' _)).trans r2) hp
 refine wpList_step fun K' hK' => ?_
 rw [if_pos (by simp [Region.wanted,hg3])]
 refine Mix.ZX (Mix.Zt (fun dd vv w3 h2 => ?_) (Mix.Jh acts3))
 exact hK' _ _ h2
end
section
variable {P:Program} {N:Nat} {K:St→Prop}
theorem AW.midE {x y:Code} {Q:Exit→St→Prop} {s:St} (FA:Fr) (HA:List Bk) (h1:AW P N x (QY (fun s'=>qz FA s'.F∧s'.H=HA) Q) s) (h2:AW P N y Q ⟨FA,HA⟩):AW P N (.seq x y) Q s:=AW.mid (fun F H=>F=FA∧H=HA) (h1.mono fun e s' he=>by
 cases e with
 | normal =>
  obtain ⟨k,e⟩:=he
  exact ⟨FA,k,rfl,e⟩
 | _=>exact he) (by
 rintro F H ⟨rfl,rfl⟩
 exact h2)
end
section
variable {P:Program} {c:Cx} {N:Nat} {a:Act} {w w':World} {F:Fr} {H:List Bk}
theorem Sim.turned {u g:Nat} (h:Sim c N ⟨F,H⟩ a w) (hR:c.R g = .own (.slot u)) (hI:∀ o,c.I g o=none) (hg:∃ arr e f,w.heap[g]? = some (.cells arr e f)) (hF:∀ k x,(k,x)∈F→k≠u∧x.refers (.slot u)=false)
  (hother:∀ k,k≠g→k<w.heap.size→w'.heap[k]? = w.heap[k]?) (hsize:w.heap.size≤w'.heap.size):Sim c N ⟨F,H⟩ a w':=by
 have hlt:∀ b,c.R b ≠ .out→b<w.heap.size:=h.inv.lt
 have keep:∀ b q,c.R b = .own q→q ≠ .slot u→w'.heap[b]? = w.heap[b]? := fun b q hb hq=>hother b (by rintro rfl; rw [hR] at hb; exact hq (by simpa using hb.symm)) (hlt b (by rw [hb]; simp))
 refine ⟨⟨fun b o v hv => ?_,h.inv.len,fun b hb=>Nat.lt_of_lt_of_le (hlt b hb) hsize,h.inv.uniq,fun id b k hb hk => ?_⟩,h.size,h.defers,fun t x hx => ?_⟩
 ·have hne:b≠g:=by rintro rfl; rw [hI] at hv; cases hv
  have hc:=h.inv.imm b o v hv
  rw [World.cell?_of_block (a:=⟨b,o,none⟩) (hother b hne (World.block_lt_of_cell? w ⟨b,o,none⟩ hc))]
  exact hc
 ·obtain ⟨k1,k2,k3⟩:=h.inv.blk id b k hb hk
  have hne:b≠g:=by rintro rfl; rw [hR] at k1; cases k1
  refine ⟨k1,k2,?_⟩
  by_cases hck:∃ cs,k = .cells cs
  rotate_left
  ·refine qac.stay (fun cs e=>hck ⟨cs,e⟩) k3 (fun _ _ _ h=>h) (fun _ _ h=>h) (fun b' o ho hn => ?_)
   have hb':b'<w.heap.size:=XI ho
   by_cases hbg:b'=g
   ·subst hbg
    obtain ⟨arr,e,f,hc⟩:=hg
    exact absurd (Option.some.inj (ho.symm.trans hc)) (hn arr e f)
   ·exact (hother b' hbg hb').trans ho
  obtain ⟨cs,rfl⟩:=hck
  obtain ⟨arr,e,g1,g2,g6,g3⟩:=k3
  refine ⟨arr,e,(hother b hne (hlt b (by rw [k1]; simp))).trans g1,g2,g6,fun j x v hx hv=>⟨(g3 j x v hx hv).1,?_⟩⟩
  refine QF.mono (c:=c) (c':=c) (w:=w) (w':=w') (fun _ _ _ h=>h) (fun _ _ h=>h) (fun b' q hq hb'=>⟨hb',keep b' q hb' ?_,fun _=>rfl⟩) (g3 j x v hx hv).2
  rcases hq with rfl | hq
  ·simp
  ·rw [Vn (g3 j x v hx hv).1] at hq; cases hq
 ·obtain ⟨v',h1,h2⟩:=h.fr t x hx
  obtain ⟨f1,f2⟩:=hF t x hx
  refine ⟨v',h1,QF.mono (c:=c) (c':=c) (w:=w) (w':=w') (fun _ _ _ h=>h) (fun _ _ h=>h) (fun b' q hq hb'=>⟨hb',keep b' q hb' ?_,fun _=>rfl⟩) h2⟩
  rcases hq with rfl | hq
  ·simpa using f1
  ·rintro rfl
   rw [f2] at hq
   cases hq
theorem Sim.still (h:Sim c N ⟨F,H⟩ a w) (hb:Go.RowKit.Below w.heap.size w w'):Sim c N ⟨F,H⟩ a w'∧Ext c w c w':=by
 have hheap:∀ k,k<w.heap.size→w'.heap[k]? = w.heap[k]? := fun k hk=>hb.block k hk
 have:=h.past (c3:=⟨c.I,[],fun _ => .out⟩) (c0:=⟨c.I,[],fun _ => .out⟩) (H' := []) (w':=w') rfl (fun _=>rfl)
  ⟨fun b o v hv=>by
   have:=h.inv.imm b o v hv
   rw [World.cell?_of_block (a:=⟨b,o,none⟩) (hheap b (World.block_lt_of_cell? w ⟨b,o,none⟩ this))]
   exact this,rfl,fun b hb=>absurd rfl hb,fun b b' r hb=>(by cases hb),fun id b k hb hk=>(by simp at hb)⟩
  ⟨hb.os,hb.tape,hb.output,hb.size,fun k hk _=>⟨hheap k hk,rfl,fun _=>rfl⟩,fun _ _ _ h=>h,fun _ _ h=>by simp at h⟩
 exact ⟨this.1,⟨hb.os,hb.tape,hb.output,hb.size,fun k hk ho=>⟨hheap k hk,ho,fun _=>rfl⟩,fun _ _ _ h=>h,fun _ _ h=>h⟩⟩
end
structure qoG {α:Type} (P:Program) (f:FuncId) (extra:List Value) (e sz:Nat) (enc:α→List Value) (ret:Bool) (R:List α→List α→Prop):Prop where
 row:∀ (blk cap:Nat) (zs:List α) (w:World),zs.length<4611686018427387904→w.ownsRow 0 e sz (.slice (some ⟨blk,0,none⟩) zs.length cap) zs.length (zs.flatMap enc) →
  Calls P f (.slice (some ⟨blk,0,none⟩) zs.length cap::extra).toArray w fun e' w'=>∃ ys,R zs ys∧e' = .returned (if ret then .slice (some ⟨blk,0,none⟩) ys.length cap else .tuple #[])∧(ret=false→ys.length=zs.length)∧qe1 w w' blk e sz ys.length cap (ys.flatMap enc)
 none:∀ (w:World),Calls P f (.slice none 0 0::extra).toArray w fun e' w'=>R [] []∧e' = .returned (if ret then .slice none 0 0 else .tuple #[])∧Go.RowKit.Below w.heap.size w w'
section
variable {α:Type} {P:Program} {N:Nat} {id:Nat} {ops:Array Oper} {Q:Exit→St→Prop} {F:Fr} {H:List Bk} {f:FuncId} {extra:List Value} {e sz n:Nat} {enc:α→List Value} {R:List α→List α→Prop} {o1 o2:Oper} {rest:List Oper} {t u d:Nat} {zs:List α} {xs:List Operand} {args:Array Operand} {ts:Array TypeId}
theorem AW.qob (hf:qoG P f extra e sz enc false R) (hen:Enters P f) (h1c:∀ x,∀ v∈enc x,v.oneCell'=true)
  (hops:ops.toList=o1::o2::rest) (h1:o1.op = .move (.tmp u)) (hd1:o1.dst=some t) (hg1:o1.guard=none) (h2:o2.op = .call { callee := .value (.func f),args:=args,argTypes:=ts }) (hargs:args = #[.tmp t]++xs.toArray) (hxs:∀ a:Act,xs.map a.eval=extra) (hd2:o2.dst=some d) (hg2:o2.guard=none)
  (htu:t≠u) (hdu:d≠u) (ht:t<N) (hd:d<N) (hF:qm u F=some (.own true e n sz (scs enc zs))) (hr:F.all (fun p => !p.2.refers (.slot u))=true) (hn:n=zs.length) (hsz:zs.length<4611686018427387904)
  (hQ:∀ ys,R zs ys→ys.length=zs.length→YB P N ops.toList rest (Q .normal) ⟨vO d .any (yR u (.own true e n sz (scs enc ys)) (vO t .any F)),H⟩):AW P N (.region id ops false) Q ⟨F,H⟩:=fun c a w hs=>by
 subst hn hargs
 obtain ⟨v,hv,h0,vs,r1,r2,r3,r4⟩:=hs.fr u _ (QO hF)
 obtain rfl:=qh8 r1
 have s1:=hs.put (t:=t) (x := .any) (v:=v) ht trivial trivial
 have e1:a.eval (.tmp u)=v:=by simp [Act.eval,hv]
 have hu1:(a.put (some t) v).tmps[u]? = some v:=by simp [Act.put,Array.getElem?_setIfInBounds,htu,hv]
 have hts:t<a.tmps.size:=by rw [hs.size]; exact ht
 have e2:(a.put (some t) v).eval (.tmp t)=v:=by simp [Act.put,Act.eval,Array.getElem?_setIfInBounds,hts]
 have x1:Ext c w (c.free (.slot t)) w:=Ext.free c w _
 have hF1:∀ k x,(k,x)∈vO t .any F→x.refers (.slot u)=false:=fun k x hx=>by
  unfold vO at hx
  rcases List.mem_cons.1 hx with e | hx
  ·cases e; rfl
  ·have:=List.all_eq_true.1 hr _ (QL hx).1
   simpa using this
 have hend:∀ w' ys,R zs ys→ys.length=zs.length→∀ c',Ext c w c' w'→Sim c' N ⟨yR u (.own true e zs.length sz (scs enc ys)) (vO t .any F),H⟩ (a.put (some t) v) w'→wpList P ops (qcx c w N Q) rest ((a.put (some t) v).put (some d) (.tuple #[])) w':=fun w' ys hR hl c' hx hsim =>
  X6 (hsim.put (t:=d) (x := .any) (v := .tuple #[]) hd trivial trivial) (hQ ys hR hl) fun a' w'' hp=>Post.step (hx.trans (Ext.free _ _ _)) hp
 have acts1:Yl P o1 a w fun a' w'=>a'=a.put (some t) v∧w'=w:=by
  refine Reads.acts ⟨v,fun w' _ => ?_,by rw [hd1]; exact ⟨rfl,rfl⟩⟩
  simp [execOp,h1,e1]
 have acts2:Yl P o2 (a.put (some t) v) w (fun a' w'=>wpList P ops (qcx c w N Q) rest a' w'):=by
  obtain ⟨fn,q1,q2,q3⟩:=hen
  unfold Yl Oper.wp
  have hrun:(execOp (a.put (some t) v).eval o2).run P w = .ok (.enter f (v::extra).toArray) w:=by
   have hfv:(a.put (some t) v).eval (.func f) = .func (.func f) #[] #[]:=rfl
   have e4:fn.body.isNone=false:=by cases hb:fn.body <;> simp_all
   have e5:=hxs (a.put (some t) v)
   unfold execOp
   simp only [h2,resolve,hfv,Deferred.ofValue,Sem.run_bind,Sem.run_pure,Result.andThen_ok,invoke,callFunc,run_program,q1,q3,Bool.false_eq_true,if_false,e4]
   simp [e2,← e5]
  rw [hrun,Oper.upon_enter]
  rcases r2.2 with ⟨rfl,hnil⟩ | ⟨g,cap,cur,rfl,hbase,g1,g2,g3,g4,g5⟩
  ·have hz:zs = []:=by
    cases zs with
    | nil=>rfl
    | cons z zs=>simp at hnil
   subst hz
   refine (hf.none w).mono fun e' w' he => ?_
   obtain ⟨hR0,rfl,hbl⟩:=he
   rw [hd2]
   obtain ⟨s2,x2⟩:=s1.still hbl
   refine hend w' [] hR0 rfl _ (x1.trans x2) ⟨s2.inv,s2.size,s2.defers,fun t' x hx => ?_⟩
   rcases KD hx with ⟨rfl,rfl⟩ | ⟨_,hx⟩
   ·exact ⟨_,hu1,qcn h0⟩
   ·exact s2.fr t' x hx
  ·obtain ⟨p1,p2⟩:=r4 g rfl
   have hR:(c.free (.slot t)).R g = .own (.slot u):=WQ p1 (by simpa using htu.symm)
   refine (hf.row g cap zs w hsz r2).mono fun e' w' he => ?_
   obtain ⟨ys,hRy,rfl,hl,ht'⟩:=he
   have hl:=hl rfl
   rw [hl] at ht'
   rw [hd2]
   refine hend _ ys hRy hl _ (x1.trans ⟨ht'.os,ht'.tape,ht'.output,ht'.size,fun b hb ho=>⟨ht'.other b (by rintro rfl; rw [hR] at ho; cases ho) hb,ho,fun _=>rfl⟩,fun _ _ _ h=>h,fun _ _ h=>h⟩) ?_
   refine s1.rewrite hR p2 ⟨_,_,_,g1⟩ hF1 ht'.other ht'.size hu1 ?_
   exact ⟨h0,_,qh6,ht'.row,fun x hx=>by obtain ⟨z,_,hz⟩:=List.mem_flatMap.1 hx; exact h1c z x hz,fun b hb=>by
    cases hb
    exact ⟨hR,p2⟩⟩
 refine wp_region_list ?_
 rw [hops]
 refine wpList_step fun K' hK' => ?_
 rw [if_pos (by simp [Region.wanted,hg1])]
 refine Mix.ZX (Mix.Zt (fun d v w' h2 => ?_) (Mix.Jh acts1))
 obtain ⟨ea,rfl⟩:=h2
 refine hK' _ _ ?_
 rw [ea]
 refine wpList_step fun K' hK' => ?_
 rw [if_pos (by simp [Region.wanted,hg2])]
 refine Mix.ZX (Mix.Zt (fun d v w' h2 => ?_) (Mix.Jh acts2))
 exact hK' _ _ h2
theorem AW.qoc (hf:qoG P f extra e sz enc true R) (hen:Enters P f) (h1c:∀ x,∀ v∈enc x,v.oneCell'=true)
  (hops:ops.toList=o1::o2::rest) (h1:o1.op = .move (.tmp u)) (hd1:o1.dst=some t) (hg1:o1.guard=none) (h2:o2.op = .call { callee := .value (.func f),args:=args,argTypes:=ts }) (hargs:args = #[.tmp t]++xs.toArray) (hxs:∀ a:Act,xs.map a.eval=extra) (hd2:o2.dst=some d) (hg2:o2.guard=none)
  (htu:t≠u) (ht:t<N) (hd:d<N) (hF:qm u F=some (.own true e n sz (scs enc zs))) (hn:n=zs.length) (hsz:zs.length<4611686018427387904)
  (hQ:∀ ys,R zs ys→YB P N ops.toList rest (Q .normal) ⟨vO d (.own true e ys.length sz (scs enc ys)) (del u (vO t .any F)),H⟩):AW P N (.region id ops false) Q ⟨F,H⟩:=fun c a w hs=>by
 subst hn hargs
 obtain ⟨v,hv,h0,vs,r1,r2,r3,r4⟩:=hs.fr u _ (QO hF)
 obtain rfl:=qh8 r1
 have s0:=hs.put (t:=t) (x := .any) (v:=v) ht trivial trivial
 have s1:=s0.sub (F':=del u (vO t .any F)) fun p hp=>(QL (x:=p.2) (k:=p.1) hp).1
 have e1:a.eval (.tmp u)=v:=by simp [Act.eval,hv]
 have hts:t<a.tmps.size:=by rw [hs.size]; exact ht
 have e2:(a.put (some t) v).eval (.tmp t)=v:=by simp [Act.put,Act.eval,Array.getElem?_setIfInBounds,hts]
 have x1:Ext c w (c.free (.slot t)) w:=Ext.free c w _
 have hF1:∀ k x,(k,x)∈del u (vO t .any F)→k≠u∧x.refers (.slot u)=false:=fun k x hx=>(QL hx).2
 have acts1:Yl P o1 a w fun a' w'=>a'=a.put (some t) v∧w'=w:=by
  refine Reads.acts ⟨v,fun w' _ => ?_,by rw [hd1]; exact ⟨rfl,rfl⟩⟩
  simp [execOp,h1,e1]
 have acts2:Yl P o2 (a.put (some t) v) w (fun a' w'=>wpList P ops (qcx c w N Q) rest a' w'):=by
  obtain ⟨fn,q1,q2,q3⟩:=hen
  unfold Yl Oper.wp
  have hrun:(execOp (a.put (some t) v).eval o2).run P w = .ok (.enter f (v::extra).toArray) w:=by
   have hfv:(a.put (some t) v).eval (.func f) = .func (.func f) #[] #[]:=rfl
   have e4:fn.body.isNone=false:=by cases hb:fn.body <;> simp_all
   have e5:=hxs (a.put (some t) v)
   unfold execOp
   simp only [h2,resolve,hfv,Deferred.ofValue,Sem.run_bind,Sem.run_pure,Result.andThen_ok,invoke,callFunc,run_program,q1,q3,Bool.false_eq_true,if_false,e4]
   simp [e2,← e5]
  rw [hrun,Oper.upon_enter]
  rcases r2.2 with ⟨rfl,hnil⟩ | ⟨g,cap,cur,rfl,hbase,g1,g2,g3,g4,g5⟩
  ·have hz:zs = []:=by
    cases zs with
    | nil=>rfl
    | cons z zs=>simp at hnil
   subst hz
   refine (hf.none w).mono fun e' w' he => ?_
   obtain ⟨hR0,rfl,hbl⟩:=he
   rw [hd2]
   obtain ⟨s2,x2⟩:=s1.still hbl
   exact X6 (s2.put' (t:=d) (x := .own true e 0 sz []) (v := .slice none 0 0) hd (qcn h0)) (hQ [] hR0) fun a' w'' hp=>Post.step ((x1.trans x2).trans (Ext.free _ _ _)) hp
  ·obtain ⟨p1,p2⟩:=r4 g rfl
   have hR:(c.free (.slot t)).R g = .own (.slot u):=WQ p1 (by simpa using htu.symm)
   refine (hf.row g cap zs w hsz r2).mono fun e' w' he => ?_
   obtain ⟨ys,hRy,rfl,_,ht'⟩:=he
   rw [hd2]
   have s2:=s1.turned hR p2 ⟨_,_,_,g1⟩ hF1 ht'.other ht'.size
   have hgl:g<w'.heap.size:=Nat.lt_of_lt_of_le (XI g1) ht'.size
   have s3:=s2.qfP (t:=d) (b:=g) (pr:=true) (e:=e) (n:=ys.length) (sz:=sz) (cs:=scs enc ys) (v := .slice (some ⟨g,0,none⟩) ys.length cap) hd hgl (fun id=>by rw [hR]; simp) (fun id j=>by rw [hR]; simp)
    (fun k x hx=>by
     obtain ⟨f1,f2⟩:=hF1 k x (QL hx).1
     refine ⟨by rw [hR]; simpa using Ne.symm f1,fun q hq => ?_⟩
     rw [hR] at hq
     cases hq
     exact f2)
    ⟨h0,_,qh6,ht'.row,fun x hx=>by obtain ⟨z,_,hz⟩:=List.mem_flatMap.1 hx; exact h1c z x hz,fun b hb=>by
     cases hb
     exact ⟨YW,p2⟩⟩
   have x2:Ext (c.free (.slot t)) w ((c.free (.slot t)).give g (.slot d)) w':=⟨ht'.os,ht'.tape,ht'.output,ht'.size,fun b hb ho=>by
    have hbg:b≠g:=by rintro rfl; rw [hR] at ho; cases ho
    exact ⟨ht'.other b hbg hb,by simp [Cx.give,hbg,ho],fun _=>rfl⟩,fun _ _ _ h=>h,fun _ _ h=>h⟩
   exact X6 s3 (hQ ys hRy) fun a' w'' hp=>Post.step (x1.trans x2) hp
 refine wp_region_list ?_
 rw [hops]
 refine wpList_step fun K' hK' => ?_
 rw [if_pos (by simp [Region.wanted,hg1])]
 refine Mix.ZX (Mix.Zt (fun d v w' h2 => ?_) (Mix.Jh acts1))
 obtain ⟨ea,rfl⟩:=h2
 refine hK' _ _ ?_
 rw [ea]
 refine wpList_step fun K' hK' => ?_
 rw [if_pos (by simp [Region.wanted,hg2])]
 refine Mix.ZX (Mix.Zt (fun d v w' h2 => ?_) (Mix.Jh acts2))
 exact hK' _ _ h2
end
theorem own_slF {c:Cx} {w:World} {r:Root} {e n sz:Nat} {cs:List V} {v:Value} (h:QF c w r (.own false e n sz cs) v):Rel c.I c.φ (.sl n sz cs) v:=by
 obtain ⟨h0,vs,r1,r2,r3,r4⟩:=h
 rcases r2.2 with ⟨rfl,rfl⟩ | ⟨g,cap,cur,rfl,_,g1,g2,g3,g4,g5⟩
 ·obtain ⟨rfl,rfl⟩:=KU r1 r2
  exact Rel.sl0
 ·obtain ⟨_,k2⟩:=r4 g rfl
  exact Rel.sl r1 (fun j u hu=>by rw [Nat.zero_add,k2]; simpa using hu) (by rw [r1.len,r2.1]) g2 g3 r3
theorem Inv.qhy {c:Cx} {H:List Bk} {w:World} {id off:Nat} {ks:List SV} {e n sz:Nat} {cs:List V} (h:Inv c H w) (hk:H[id]? = some (.cells ks)) (hj:ks[off]? = some (.own false e n sz cs)):Inv c (qo H id off (.v (.sl n sz cs))) w:=by
 rw [zF hk]
 refine ⟨h.imm,by rw [List.length_set]; exact h.len,h.lt,h.uniq,fun id' b k hb hk' => ?_⟩
 rw [List.getElem?_set] at hk'
 split at hk'
 ·rename_i e
  subst e
  split at hk'
  ·simp only [Option.some.injEq] at hk'
   subst hk'
   obtain ⟨h1,h2,arr,e,q1,q2,q3,q4⟩:=h.blk id b _ hb hk
   refine ⟨h1,h2,arr,e,q1,by rw [List.length_set]; exact q2,q3,fun j y v hy hv => ?_⟩
   rw [List.getElem?_set] at hy
   split at hy
   ·rename_i e
    subst e
    split at hy
    ·simp only [Option.some.injEq] at hy
     subst hy
     exact ⟨rfl,own_slF (q4 off _ v hj hv).2⟩
    ·cases hy
   ·exact q4 j y v hy hv
  ·cases hk'
 ·exact h.blk id' b k hb hk'
theorem AW.asSlCell {P:Program} {N:Nat} {F:Fr} {H:List Bk} {x:Code} {Q:Exit→St→Prop} {id off:Nat} {ks:List SV} {pr:Bool} {e n sz:Nat} {cs:List V} (hl:H[id]? = some (.cells ks)) (hj:ks[off]? = some (.own pr e n sz cs))
  (h:AW P N x Q ⟨F,H.set id (.cells (ks.set off (.v (.sl n sz cs))))⟩):AW P N x Q ⟨F,H⟩:=fun c a w hs=>by
 obtain ⟨b,hb⟩:∃ b,c.φ[id]? = some b:=by
  have h1:=(List.getElem?_eq_some_iff.1 hl).1
  have h2:=hs.inv.len
  simp only at h2
  exact ⟨c.φ[id],List.getElem?_eq_getElem (by rw [h2]; exact h1)⟩
 obtain ⟨c',u,_,_,h3,h4,_⟩:=Sim.qgm hs hb hl hj
 rw [zF hl] at h3
 have hj1:id<H.length:=(List.getElem?_eq_some_iff.1 hl).1
 have ho1:off<ks.length:=(List.getElem?_eq_some_iff.1 hj).1
 have h5:=h3.inv.qhy (id:=id) (off:=off) (ks:=ks.set off (.own false e n sz cs)) (List.getElem?_set_self hj1) (List.getElem?_set_self ho1)
 rw [zF (List.getElem?_set_self hj1),List.set_set,List.set_set] at h5
 refine wp_mono (h c' a w ⟨h5,h3.size,h3.defers,h3.fr⟩) fun e a' w' he=>Post.step h4 he
theorem AFn.qaL {P:Program} {f:FuncId} {xs:List V} {H:List Bk} {Q:V→List Bk→Prop} {id off:Nat} {ks:List SV} (y:SV) (hk:H[id]? = some (.cells ks)) (hj:ks[off]? = some (.v .nil)) (hz:qW y) (hf:y.flat=true)
  (h:AFn P f xs (qo H id off y) Q):AFn P f xs H Q:=⟨h.1,fun c w vs hi hs hr=>h.2 c w vs (hi.weakC hk hj hz hf) hs hr⟩
end AM
end Go.Proofs.YtnconfggojpkcaaGreat
namespace Go.Proofs.YtnconfggojpkcaaGreat
structure Ent where
 k:Int
 t:Int
 i:Int
 deriving DecidableEq
namespace Ent
def lt (a b:Ent):Bool:=decide (a.k<b.k∨a.k=b.k∧(a.t<b.t∨a.t=b.t∧a.i<b.i))
theorem lt_iff (a b:Ent):a.lt b=true↔(a.k<b.k∨a.k=b.k∧(a.t<b.t∨a.t=b.t∧a.i<b.i)):=by unfold lt; simp
theorem WL (a b:Ent):a.lt b=false↔¬ (a.k<b.k∨a.k=b.k∧(a.t<b.t∨a.t=b.t∧a.i<b.i)):=by unfold lt; simp
theorem ext_ {a b:Ent} (h1:a.k=b.k) (h2:a.t=b.t) (h3:a.i=b.i):a=b:=by
 cases a; cases b; simp_all
theorem lt_irrefl (a:Ent):a.lt a=false:=by rw [WL]; omega
theorem lt_asymm {a b:Ent} (h:a.lt b=true):b.lt a=false:=by rw [lt_iff] at h; rw [WL]; omega
theorem le_trans {a b c:Ent} (h:b.lt a=false) (k:c.lt b=false):c.lt a=false:=by rw [WL] at *; omega
theorem le_antisymm {a b:Ent} (h:b.lt a=false) (k:a.lt b=false):a=b:=by
 rw [WL] at *
 exact ext_ (by omega) (by omega) (by omega)
end Ent
def put:List Ent→Ent→List Ent
 | [],e => [e]
 | x::l,e=>if e.lt x then e::x::l else x::put l e
theorem Xg (l:List Ent) (e:Ent):(put l e).Perm (e::l):=by
 induction l with
 | nil=>exact List.Perm.refl _
 | cons x l ih =>
  unfold put
  split
  ·exact List.Perm.refl _
  ·exact (List.Perm.cons x ih).trans (List.Perm.swap e x l)
def Srt (l:List Ent):Prop:=l.Pairwise fun a b=>b.lt a=false
theorem qog {l:List Ent} (h:Srt l) (e:Ent):Srt (put l e):=by
 induction l with
 | nil=>exact List.pairwise_singleton _ _
 | cons x l ih =>
  have hx:=List.pairwise_cons.1 h
  unfold put
  split
  ·rename_i he
   refine List.pairwise_cons.2 ⟨fun b hb => ?_,h⟩
   rcases List.mem_cons.1 hb with rfl | hb
   ·exact Ent.lt_asymm he
   ·exact Ent.le_trans (Ent.lt_asymm he) (hx.1 b hb)
  ·rename_i he
   have he:e.lt x=false:=by simpa using he
   refine List.pairwise_cons.2 ⟨fun b hb => ?_,ih hx.2⟩
   rcases List.mem_cons.1 ((Xg l e).mem_iff.1 hb) with rfl | hb
   ·exact he
   ·exact hx.1 b hb
theorem qaj {l m:List Ent} (hl:Srt l) (hm:Srt m) (h:l.Perm m):l=m:=by
 induction l generalizing m with
 | nil=>exact (List.nil_perm.1 h).symm
 | cons x l ih =>
  cases m with
  | nil=>exact absurd h.length_eq (by simp)
  | cons y m =>
   have hx:=List.pairwise_cons.1 hl
   have hy:=List.pairwise_cons.1 hm
   have e:x=y:=by
    rcases List.mem_cons.1 (h.mem_iff.1 (List.mem_cons_self ..)) with h1 | h1
    ·exact h1
    ·rcases List.mem_cons.1 (h.mem_iff.2 (List.mem_cons_self ..)) with h2 | h2
     ·exact h2.symm
     ·exact Ent.le_antisymm (hx.1 y h2) (hy.1 x h1)
   subst e
   rw [ih hx.2 hy.2 (List.Perm.cons_inv h)]
def at_ (l:List Ent) (i:Nat):Ent:=(l[i]?).getD ⟨0,0,0⟩
theorem at_eq {l:List Ent} {i:Nat} (h:i<l.length):at_ l i=l[i]:=by unfold at_; rw [List.getElem?_eq_getElem h]; rfl
def Xe (l:List Ent) (i j:Nat):List Ent :=
 match l[i]?,l[j]? with
 | some x,some y=>(l.set i y).set j x
 | _,_=>l
theorem qhX {l:List Ent} {i j:Nat} (hi:i<l.length) (hj:j<l.length):Xe l i j=(l.set i l[j]).set j l[i]:=by
 unfold Xe
 rw [List.getElem?_eq_getElem hi,List.getElem?_eq_getElem hj]
theorem Yp (l:List Ent) (i j:Nat):(Xe l i j).length=l.length:=by
 unfold Xe
 split <;> simp
theorem qhY {l:List Ent} {i j:Nat} (hi:i<l.length) (hj:j<l.length) (k:Nat):at_ (Xe l i j) k=if k=j then at_ l i else if k=i then at_ l j else at_ l k:=by
 rw [qhX hi hj]
 unfold at_
 by_cases h1:k=j
 ·subst h1
  simp [hi,hj]
 ·rw [if_neg h1,List.getElem?_set_ne (fun h=>h1 h.symm)]
  by_cases h2:k=i
  ·subst h2
   simp [hi,hj]
  ·rw [if_neg h2,List.getElem?_set_ne (fun h=>h2 h.symm)]
theorem qfg {l:List Ent} {i j:Nat} (hi:i<l.length) (hj:j<l.length):(Xe l i j).Perm l:=by
 rw [qhX hi hj]
 have h:=Array.swap_perm (xs:=l.toArray) (i:=i) (j:=j) (by simpa using hi) (by simpa using hj)
 have h2:=Array.perm_iff_toList_perm.1 h
 simpa [Array.toList_swap] using h2
def upF:Nat→List Ent→Nat→List Ent
 | 0,l,_=>l
 | f+1,l,j=>if j≠0∧(at_ l j).lt (at_ l ((j - 1)/2))=true then upF f (Xe l ((j - 1)/2) j) ((j - 1)/2) else l
def X8:Nat→List Ent→Nat→Nat→List Ent
 | 0,l,_,_=>l
 | f+1,l,i,n =>
  if n≤2*i+1 then l else
  if (at_ l (if 2*i+2<n∧(at_ l (2*i+2)).lt (at_ l (2*i+1))=true then 2*i+2 else 2*i+1)).lt (at_ l i)=true then
   X8 f (Xe l i (if 2*i+2<n∧(at_ l (2*i+2)).lt (at_ l (2*i+1))=true then 2*i+2 else 2*i+1)) (if 2*i+2<n∧(at_ l (2*i+2)).lt (at_ l (2*i+1))=true then 2*i+2 else 2*i+1) n
  else l
theorem qpp (f:Nat):∀ (l:List Ent) (i n:Nat),(X8 f l i n).length=l.length:=by
 induction f with
 | zero=>intro l i n; rfl
 | succ f ih =>
  intro l i n
  unfold X8
  repeat' split
  all_goals first | rfl | rw [ih,Yp]
def qoI (l:List Ent) (n:Nat):Prop:=∀ c,0<c→c<n→(at_ l c).lt (at_ l ((c - 1)/2))=false
theorem heap_min {l:List Ent} {n:Nat} (h:qoI l n):∀ (k:Nat),k<n→(at_ l k).lt (at_ l 0)=false:=by
 intro k
 induction k using Nat.strongRecOn with
 | _ k ih =>
  intro hk
  by_cases h0:k=0
  ·subst h0; exact Ent.lt_irrefl _
  ·exact Ent.le_trans (ih ((k - 1)/2) (by omega) (by omega)) (h k (by omega) hk)
theorem up_law (f:Nat):∀ (l:List Ent) (j:Nat),j<l.length→j≤f→(∀ c,0<c→c<l.length→c≠j→(at_ l c).lt (at_ l ((c - 1)/2))=false) →
  (∀ c,0<c→c<l.length→(c - 1)/2=j→0<j→(at_ l c).lt (at_ l ((j - 1)/2))=false) →
  qoI (upF f l j) l.length∧(upF f l j).Perm l:=by
 induction f with
 | zero =>
  intro l j hj hf h1 _
  obtain rfl:j=0:=by omega
  exact ⟨fun c hc hl=>h1 c hc hl (by omega),List.Perm.refl _⟩
 | succ f ih =>
  intro l j hj hf h1 h2
  unfold upF
  split
  ·rename_i hlt
   obtain ⟨h0,hlt⟩:=hlt
   have hp:(j - 1)/2<l.length:=by omega
   have hat:=qhY hp hj
   have hperm:=qfg hp hj
   have:=ih (Xe l ((j - 1)/2) j) ((j - 1)/2) (by rw [Yp]; exact hp) (by omega) (by
    intro c hc hcl hne
    rw [Yp] at hcl
    rw [hat,hat]
    by_cases e1:c=j
    ·subst e1
     rw [if_pos rfl,if_neg (by omega),if_pos rfl]
     exact Ent.lt_asymm hlt
    ·rw [if_neg e1,if_neg hne]
     by_cases e2:(c - 1)/2=j
     ·rw [if_pos e2]
      exact h2 c hc hcl e2 (by omega)
     ·rw [if_neg e2]
      by_cases e3:(c - 1)/2=(j - 1)/2
      ·rw [if_pos e3]
       have:=h1 c hc hcl e1
       rw [e3] at this
       exact Ent.le_trans (Ent.lt_asymm hlt) this
      ·rw [if_neg e3]
       exact h1 c hc hcl e1) (by
    intro c hc hcl hpar h00
    rw [Yp] at hcl
    rw [hat,hat]
    rw [if_neg (show ¬ ((j - 1)/2 - 1)/2=j by omega),if_neg (show ¬ ((j - 1)/2 - 1)/2=(j - 1)/2 by omega)]
    have hpp:=h1 ((j - 1)/2) h00 hp (by omega)
    by_cases e1:c=j
    ·rw [if_pos e1]; exact hpp
    ·rw [if_neg e1,if_neg (by omega)]
     have:=h1 c hc hcl e1
     rw [hpar] at this
     exact Ent.le_trans hpp this)
   rw [Yp] at this
   exact ⟨this.1,this.2.trans hperm⟩
  ·rename_i hlt
   refine ⟨fun c hc hl => ?_,List.Perm.refl _⟩
   by_cases e1:c=j
   ·subst e1
    have h0:c≠0:=by omega
    simpa [h0] using hlt
   ·exact h1 c hc hl e1
theorem down_law (f:Nat):∀ (l:List Ent) (i n:Nat),n≤l.length→n≤f+i→(∀ c,0<c→c<n→(c - 1)/2≠i→(at_ l c).lt (at_ l ((c - 1)/2))=false) →
  (∀ c,0<c→c<n→(c - 1)/2=i→0<i→(at_ l c).lt (at_ l ((i - 1)/2))=false) →
  qoI (X8 f l i n) n∧(X8 f l i n).Perm l∧∀ k,n≤k→at_ (X8 f l i n) k=at_ l k:=by
 induction f with
 | zero =>
  intro l i n hn hf h1 _
  exact ⟨fun c hc hl=>h1 c hc hl (by omega),List.Perm.refl _,fun _ _=>rfl⟩
 | succ f ih =>
  intro l i n hn hf h1 h2
  unfold X8
  split
  ·exact ⟨fun c hc hl=>h1 c hc hl (by omega),List.Perm.refl _,fun _ _=>rfl⟩
  ·rename_i hlast
   obtain ⟨j,hj⟩:∃ j,j=(if 2*i+2<n∧(at_ l (2*i+2)).lt (at_ l (2*i+1))=true then 2*i+2 else 2*i+1):=⟨_,rfl⟩
   have hjn:j<n∧(j - 1)/2=i∧i<j∧∀ c,0<c→c<n→(c - 1)/2=i→(at_ l c).lt (at_ l j)=false:=by
    split at hj
    ·rename_i hc
     subst hj
     refine ⟨hc.1,by omega,by omega,fun c h0 hcn hp => ?_⟩
     by_cases e:c=2*i+2
     ·rw [e]; exact Ent.lt_irrefl _
     ·obtain rfl:c=2*i+1:=by omega
      exact Ent.lt_asymm hc.2
    ·rename_i hc
     subst hj
     refine ⟨by omega,by omega,by omega,fun c h0 hcn hp => ?_⟩
     by_cases e:c=2*i+1
     ·rw [e]; exact Ent.lt_irrefl _
     ·obtain rfl:c=2*i+2:=by omega
      simpa [hcn] using hc
   rw [← hj]
   obtain ⟨hjn,hjp,hij,hmin⟩:=hjn
   split
   ·rename_i hlt
    have hil:i<l.length:=by omega
    have hjl:j<l.length:=by omega
    have hat:=qhY hil hjl
    have hperm:=qfg hil hjl
    have:=ih (Xe l i j) j n (by rw [Yp]; exact hn) (by omega) (by
     intro c hc hcn hne
     rw [hat,hat,if_neg hne]
     by_cases e1:c=j
     ·subst e1
      rw [if_pos rfl,if_pos hjp]
      exact Ent.lt_asymm hlt
     ·rw [if_neg e1]
      by_cases e2:c=i
      ·subst e2
       rw [if_pos rfl,if_neg (by omega)]
       exact h2 j (by omega) hjn hjp hc
      ·rw [if_neg e2]
       by_cases e3:(c - 1)/2=i
       ·rw [if_pos e3]; exact hmin c hc hcn e3
       ·rw [if_neg e3]; exact h1 c hc hcn e3) (by
     intro c hc hcn hpar _
     rw [hat,hat,hjp,if_neg (by omega),if_neg (by omega),if_neg (by omega),if_pos rfl]
     have:=h1 c hc hcn (by omega)
     rwa [hpar] at this)
    refine ⟨this.1,this.2.1.trans hperm,fun k hk => ?_⟩
    rw [this.2.2 k hk,hat,if_neg (by omega),if_neg (by omega)]
   ·rename_i hlt
    refine ⟨fun c hc hcn => ?_,List.Perm.refl _,fun _ _=>rfl⟩
    by_cases e:(c - 1)/2=i
    ·have h3:=hmin c hc hcn e
     rw [e]
     exact Ent.le_trans (by simpa using hlt) h3
    ·exact h1 c hc hcn e
def Held (es hs:List Ent):Prop:=qoI es es.length∧es.Perm hs∧Srt hs
theorem Held.nil:Held [] []:=⟨fun c _ h=>by simp at h,List.Perm.refl _,List.Pairwise.nil⟩
theorem Held.len {es hs:List Ent} (h:Held es hs):es.length=hs.length:=h.2.1.length_eq
theorem Held.push {es hs:List Ent} (h:Held es hs) (e:Ent):Held (upF es.length (es ++ [e]) es.length) (put hs e):=by
 have hat:∀ c,c<es.length→at_ (es ++ [e]) c=at_ es c:=fun c hc=>by unfold at_; rw [List.getElem?_append_left hc]
 have h1:=up_law es.length (es ++ [e]) es.length (by simp) (Nat.le_refl _) (fun c hc hcl hne=>by
  simp at hcl
  rw [hat c (by omega),hat _ (by omega)]
  exact h.1 c hc (by omega)) (fun c hc hcl hp h0=>by simp at hcl; omega)
 refine ⟨fun c hc hl=>h1.1 c hc (by rw [← h1.2.length_eq]; exact hl),?_,qog h.2.2 e⟩
 refine h1.2.trans ((List.perm_append_comm).trans ?_)
 exact (List.Perm.cons e h.2.1).trans (Xg hs e).symm
theorem Held.top {es:List Ent} {x:Ent} {hs:List Ent} (h:Held es (x::hs)):at_ es 0=x:=by
 have hl:=h.len
 simp at hl
 have h0:at_ es 0∈es:=by rw [at_eq (by omega)]; exact List.getElem_mem _
 obtain ⟨k,hk,hkx⟩:=List.getElem_of_mem (h.2.1.mem_iff.2 (List.mem_cons_self ..))
 have h1:=heap_min h.1 k hk
 rw [at_eq hk,hkx] at h1
 rcases List.mem_cons.1 (h.2.1.mem_iff.1 h0) with h2 | h2
 ·exact h2
 ·exact (Ent.le_antisymm h1 ((List.pairwise_cons.1 h.2.2).1 _ h2))
theorem Held.pop {es:List Ent} {x:Ent} {hs:List Ent} (h:Held es (x::hs)) :
  at_ (X8 (es.length - 1) (Xe es 0 (es.length - 1)) 0 (es.length - 1)) (es.length - 1)=x ∧
   Held (X8 (es.length - 1) (Xe es 0 (es.length - 1)) 0 (es.length - 1)).dropLast hs:=by
 have hl:=h.len
 simp at hl
 have hat:=qhY (l:=es) (i:=0) (j:=es.length - 1) (by omega) (by omega)
 have hd:=down_law (es.length - 1) (Xe es 0 (es.length - 1)) 0 (es.length - 1) (by rw [Yp]; omega) (by omega) (fun c hc hcn hne=>by
  rw [hat,hat,if_neg (by omega),if_neg (by omega),if_neg (by omega),if_neg (by omega)]
  exact h.1 c hc (by omega)) (fun c _ _ _ h0=>by omega)
 obtain ⟨h1,h2,h3⟩:=hd
 have hlen:=h2.length_eq
 rw [Yp] at hlen
 have hx:at_ (X8 (es.length - 1) (Xe es 0 (es.length - 1)) 0 (es.length - 1)) (es.length - 1)=x:=by
  rw [h3 _ (Nat.le_refl _),hat,if_pos rfl]
  exact h.top
 refine ⟨hx,?_⟩
 generalize X8 (es.length - 1) (Xe es 0 (es.length - 1)) 0 (es.length - 1)=r at *
 have hperm:r.Perm (x::hs):=(h2.trans (qfg (by omega) (by omega))).trans h.2.1
 refine ⟨fun c hc hcl => ?_,?_,(List.pairwise_cons.1 h.2.2).2⟩
 ·rw [List.length_dropLast] at hcl
  have e:∀ c,c<r.length - 1→at_ r.dropLast c=at_ r c:=fun c hc=>by
   unfold at_
   rw [List.getElem?_dropLast,if_pos hc]
  rw [e c hcl,e _ (by omega)]
  exact h1 c hc (by omega)
 ·have hne:r ≠ []:=by intro h0; rw [h0] at hlen; simp at hlen; omega
  have hsplit:=List.dropLast_concat_getLast hne
  have hlast:r.getLast hne=x:=by
   rw [← hx,at_eq (by omega),List.getLast_eq_getElem]
   congr 1
   omega
  rw [hlast] at hsplit
  rw [← hsplit] at hperm
  exact List.Perm.cons_inv ((List.perm_append_comm (l₁ := [x]) (l₂:=r.dropLast)).trans hperm)
def sort (l:List Ent):List Ent:=l.foldl put []
theorem qj8 (l:List Ent):∀ acc:List Ent,Srt acc→Srt (l.foldl put acc)∧(l.foldl put acc).Perm (l++acc):=by
 induction l with
 | nil=>intro acc h; exact ⟨h,List.Perm.refl _⟩
 | cons x l ih =>
  intro acc h
  obtain ⟨h1,h2⟩:=ih (put acc x) (qog h x)
  refine ⟨h1,h2.trans ?_⟩
  refine (List.Perm.append_left l (Xg acc x)).trans ?_
  exact List.perm_middle
theorem Ku (l:List Ent):Srt (sort l):=(qj8 l [] List.Pairwise.nil).1
theorem ZY (l:List Ent):(sort l).Perm l:=by
 have h:=(qj8 l [] List.Pairwise.nil).2
 rw [List.append_nil] at h
 exact h
theorem VW {l m:List Ent} (h:l.Perm m):sort l=sort m :=
 qaj (Ku l) (Ku m) ((ZY l).trans (h.trans (ZY m).symm))
end Go.Proofs.YtnconfggojpkcaaGreat
namespace Go.Proofs.YtnconfggojpkcaaGreat
namespace Can
structure Run (L:Type) where
 a:Int
 b:Int
 z:L
 deriving DecidableEq,Inhabited
variable {L:Type} [DecidableEq L]
def sep (r s:Run L):Prop:=r.b<s.a∧(r.b+1=s.a→r.z≠s.z)
def yV (R:List (Run L)) (x:Int) (z:L):Prop:=∃ r∈R,r.a≤x∧x≤r.b∧r.z=z
structure Can (f:Int→Option L) (R:List (Run L)):Prop where
 le:∀ r∈R,r.a≤r.b
 pw:R.Pairwise sep
 iff:∀ x z,f x=some z↔yV R x z
theorem qgJ {r:Run L} {R:List (Run L)} {x:Int} {z:L}:yV (r::R) x z↔(r.a≤x∧x≤r.b∧r.z=z)∨yV R x z:=by
 unfold yV
 simp
theorem qhi {R S:List (Run L)} {x:Int} {z:L}:yV (R++S) x z↔yV R x z∨yV S x z:=by
 unfold yV
 simp only [List.mem_append]
 constructor
 ·rintro ⟨r,h | h,k⟩
  ·exact .inl ⟨r,h,k⟩
  ·exact .inr ⟨r,h,k⟩
 ·rintro (⟨r,h,k⟩ | ⟨r,h,k⟩)
  ·exact ⟨r,.inl h,k⟩
  ·exact ⟨r,.inr h,k⟩
theorem Can.tail {f:Int→Option L} {r:Run L} {R:List (Run L)} (h:Can f (r::R)):Can (fun x=>if x≤r.b then none else f x) R:=by
 refine ⟨fun s hs=>h.le s (List.mem_cons_of_mem _ hs),(List.pairwise_cons.1 h.pw).2,fun x z => ?_⟩
 have h1:=(List.pairwise_cons.1 h.pw).1
 by_cases hx:x≤r.b
 ·simp only [hx,if_true]
  constructor
  ·intro e; cases e
  ·rintro ⟨s,hs,k1,k2,k3⟩
   have:=(h1 s hs).1
   omega
 ·simp only [hx,if_false]
  rw [h.iff,qgJ]
  constructor
  ·rintro (⟨_,k,_⟩ | k)
   ·exact absurd k hx
   ·exact k
  ·exact .inr
theorem Can.head {f:Int→Option L} {r:Run L} {R:List (Run L)} (h:Can f (r::R)):f r.a=some r.z:=(h.iff _ _).2 (qgJ.2 (.inl ⟨Int.le_refl _,h.le r (by simp),rfl⟩))
theorem Can.ahead {f:Int→Option L} {r:Run L} {R:List (Run L)} (h:Can f (r::R)) {x:Int} {z:L} (hx:f x=some z):r.a≤x:=by
 obtain ⟨s,hs,k1,k2,k3⟩:=(h.iff _ _).1 hx
 rcases List.mem_cons.1 hs with rfl | hs
 ·exact k1
 ·have:=((List.pairwise_cons.1 h.pw).1 s hs).1
  have:=h.le r (by simp)
  omega
theorem Can.qot {f:Int→Option L} {r s:Run L} {R S:List (Run L)} (h:Can f (r::R)) (k:Can f (s::S)) (ha:r.a=s.a) (hz:r.z=s.z):s.b≤r.b:=by
 apply Int.le_of_not_gt
 intro hlt
 have hs:=k.le s (by simp)
 have hr:=h.le r (by simp)
 have h1:f (r.b+1)=some r.z:=(k.iff _ _).2 (qgJ.2 (.inl ⟨by omega,by omega,hz.symm⟩))
 obtain ⟨t,ht,t1,t2,t3⟩:=(h.iff _ _).1 h1
 rcases List.mem_cons.1 ht with rfl | ht
 ·omega
 ·obtain ⟨q1,q2⟩:=(List.pairwise_cons.1 h.pw).1 t ht
  exact q2 (by omega) t3.symm
theorem Can.uniq:∀ {f:Int→Option L} {R S:List (Run L)},Can f R→Can f S→R=S
 | f,[],[],_,_=>rfl
 | f,[],s::S,h,k=>by
  have:=k.head
  rw [h.iff] at this
  obtain ⟨_,h,_⟩:=this
  cases h
 | f,r::R,[],h,k=>by
  have:=h.head
  rw [k.iff] at this
  obtain ⟨_,h,_⟩:=this
  cases h
 | f,r::R,s::S,h,k=>by
  have ha:r.a=s.a:=by
   have h1:=h.ahead k.head
   have h2:=k.ahead h.head
   omega
  have hz:r.z=s.z:=by
   have h1:=h.head
   have h2:=k.head
   rw [ha,h2] at h1
   exact (Option.some.inj h1).symm
  have hb:r.b=s.b:=by
   have h1:=h.qot k ha hz
   have h2:=k.qot h ha.symm hz.symm
   omega
  have e:r=s:=by
   cases r; cases s
   simp only at ha hz hb
   subst ha hz hb
   rfl
  subst e
  rw [Can.uniq h.tail k.tail]
def push (R:List (Run L)) (n m:Int) (z:L):List (Run L):=match R.getLast? with
 | some r=>if r.b+1=n∧r.z=z then R.dropLast ++ [⟨r.a,m - 1,z⟩] else R ++ [⟨n,m - 1,z⟩]
 | none => [⟨n,m - 1,z⟩]
def step (f:Int→Option L) (R:List (Run L)) (n m:Int):List (Run L):=match f n with
 | some z=>push R n m z
 | none=>R
def qaf (f:Int→Option L) (n:Int) (R:List (Run L)):Prop:=Can (fun x=>if x<n then f x else none) R
theorem qaf.lt {f:Int→Option L} {n:Int} {R:List (Run L)} (h:qaf f n R):∀ r∈R,r.b<n:=by
 intro r hr
 have:=(h.iff r.b r.z).2 ⟨r,hr,h.le r hr,Int.le_refl _,rfl⟩
 try simp only at this
 split at this
 ·assumption
 ·cases this
theorem qaf.none {f:Int→Option L} {n m:Int} {R:List (Run L)} (h:qaf f n R) (hn:∀ x,n≤x→x<m→f x=none) (hm:n≤m):qaf f m R:=by
 refine ⟨h.le,h.pw,fun x z => ?_⟩
 rw [← h.iff]
 try simp only
 by_cases h1:x<n
 ·rw [if_pos h1,if_pos (by omega)]
 ·rw [if_neg h1]
  by_cases h2:x<m
  ·rw [if_pos h2,hn x (by omega) h2]
  ·rw [if_neg h2]
theorem qaf.fresh {f:Int→Option L} {n m:Int} {z:L} {R:List (Run L)} (h:qaf f n R) (hn:∀ x,n≤x→x<m→f x=some z) (hm:n<m) (hl:∀ r∈R,r.b+1=n→r.z≠z):qaf f m (R ++ [⟨n,m - 1,z⟩]):=by
 refine ⟨fun r hr => ?_,?_,fun x u => ?_⟩
 ·rcases List.mem_append.1 hr with hr | hr
  ·exact h.le r hr
  ·simp at hr; subst hr; simp only; omega
 ·rw [List.pairwise_append]
  refine ⟨h.pw,by simp,fun r hr s hs => ?_⟩
  simp at hs
  subst hs
  exact ⟨h.lt r hr,hl r hr⟩
 ·rw [qhi,← h.iff]
  simp only [yV,List.mem_singleton,exists_eq_left]
  by_cases h1:x<n
  ·rw [if_pos h1,if_pos (by omega)]
   constructor
   ·exact .inl
   ·rintro (k | ⟨k,_⟩)
    ·exact k
    ·omega
  ·rw [if_neg h1]
   by_cases h2:x<m
   ·rw [if_pos h2,hn x (by omega) h2]
    constructor
    ·intro e; cases e; exact .inr ⟨by omega,by omega,rfl⟩
    ·rintro (k | ⟨_,_,rfl⟩)
     ·cases k
     ·rfl
   ·rw [if_neg h2]
    constructor
    ·intro e; cases e
    ·rintro (k | ⟨_,k,_⟩)
     ·cases k
     ·omega
theorem qaf.more {f:Int→Option L} {n m:Int} {r:Run L} {R:List (Run L)} (h:qaf f n (R ++ [r])) (hb:r.b+1=n) (hn:∀ x,n≤x→x<m→f x=some r.z) (hm:n<m):qaf f m (R ++ [⟨r.a,m - 1,r.z⟩]):=by
 have hr:=h.le r (by simp)
 obtain ⟨p1,_,p3⟩:=List.pairwise_append.1 h.pw
 refine ⟨fun s hs => ?_,?_,fun x u => ?_⟩
 ·rcases List.mem_append.1 hs with hs | hs
  ·exact h.le s (by simp [hs])
  ·simp at hs; subst hs; simp only; omega
 ·rw [List.pairwise_append]
  refine ⟨p1,by simp,fun t ht s hs => ?_⟩
  simp at hs
  subst hs
  exact p3 t ht r (by simp)
 ·have hi:=h.iff x u
  rw [qhi] at hi ⊢
  simp only [yV,List.mem_singleton,exists_eq_left] at hi ⊢
  by_cases h1:x<n
  ·rw [if_pos h1] at hi
   rw [if_pos (by omega),hi]
   constructor
   ·rintro (k | ⟨k1,k2,k3⟩)
    ·exact .inl k
    ·exact .inr ⟨k1,by omega,k3⟩
   ·rintro (k | ⟨k1,k2,k3⟩)
    ·exact .inl k
    ·exact .inr ⟨k1,by omega,k3⟩
  ·rw [if_neg h1] at hi
   have hno:¬ ∃ s∈R,s.a≤x∧x≤s.b∧s.z=u:=by
    intro k
    have:=hi.2 (.inl k)
    cases this
   by_cases h2:x<m
   ·rw [if_pos h2,hn x (by omega) h2]
    constructor
    ·intro e; cases e; exact .inr ⟨by omega,by omega,rfl⟩
    ·rintro (k | ⟨_,_,rfl⟩)
     ·exact absurd k hno
     ·rfl
   ·rw [if_neg h2]
    constructor
    ·intro e; cases e
    ·rintro (k | ⟨_,k,_⟩)
     ·exact absurd k hno
     ·omega
theorem qaf.push {f:Int→Option L} {n m:Int} {z:L} {R:List (Run L)} (h:qaf f n R) (hn:∀ x,n≤x→x<m→f x=some z) (hm:n<m):qaf f m (push R n m z):=by
 rcases List.eq_nil_or_concat R with rfl | ⟨R',r,rfl⟩
 ·exact h.fresh hn hm (by simp)
 ·unfold Can.push
  simp only [List.concat_eq_append] at h ⊢
  simp only [List.getLast?_append,List.getLast?_singleton,Option.some_or,List.dropLast_concat]
  split
  ·rename_i hc
   obtain ⟨h1,rfl⟩:=hc
   exact h.more h1 hn hm
  ·rename_i hc
   refine h.fresh hn hm fun s hs hb => ?_
   rcases List.mem_append.1 hs with hs | hs
   ·obtain ⟨_,_,p3⟩:=List.pairwise_append.1 h.pw
    have:=(p3 s hs r (by simp)).1
    have:=h.lt r (by simp)
    have:=h.le r (by simp)
    omega
   ·simp at hs
    subst hs
    exact fun e=>hc ⟨hb,e⟩
theorem qaf.step {f:Int→Option L} {n m:Int} {R:List (Run L)} (h:qaf f n R) (hn:∀ x,n≤x→x<m→f x=f n) (hm:n<m):qaf f m (step f R n m):=by
 unfold Can.step
 split
 ·rename_i z hz
  exact h.push (fun x h1 h2=>(hn x h1 h2).trans hz) hm
 ·rename_i hz
  exact h.none (fun x h1 h2=>(hn x h1 h2).trans hz) (by omega)
def JI (f:Int→Option L) (xs:List Int):Nat→List (Run L)
 | 0 => []
 | k+1=>match xs[k]?,xs[k+1]? with
  | some n,some m=>step f (JI f xs k) n m
  | _,_=>JI f xs k
theorem qbE {f:Int→Option L} {xs:List Int} {k:Nat} (h:k+1<xs.length):JI f xs (k+1)=step f (JI f xs k) xs[k] xs[k+1]:=by
 have h1:xs[k]? = some xs[k]:=List.getElem?_eq_getElem (by omega)
 have h2:xs[k+1]? = some xs[k+1]:=List.getElem?_eq_getElem h
 rw [JI,h1,h2]
structure qmN (f:Int→Option L) (xs:List Int):Prop where
 lt:xs.Pairwise (· < ·)
 same:∀ x y,(∀ c∈xs,c≤x↔c≤y)→f x=f y
 low:∀ x,(∀ c∈xs,¬ c≤x)→f x=none
 high:∀ x,(∀ c∈xs,c≤x)→f x=none
theorem qcm {xs:List Int} (h:xs.Pairwise (· < ·)) {i j:Nat} (hi:i<xs.length) (hj:j<xs.length) (hij:i<j):xs[i]<xs[j]:=(List.pairwise_iff_getElem.1 h) i j hi hj hij
theorem qmN.between {f:Int→Option L} {xs:List Int} (h:qmN f xs) {k:Nat} (hk:k+1<xs.length) {x:Int} (h1:xs[k]≤x) (h2:x<xs[k+1]):f x=f xs[k]:=by
 refine h.same _ _ fun c hc => ?_
 obtain ⟨i,hi,rfl⟩:=List.getElem_of_mem hc
 by_cases hik:i≤k
 ·have:xs[i]≤xs[k]:=by
   by_cases e:i=k
   ·subst e; exact Int.le_refl _
   ·exact Int.le_of_lt (qcm h.lt hi (by omega) (by omega))
  omega
 ·have:xs[k+1]≤xs[i]:=by
   by_cases e:i=k+1
   ·subst e; exact Int.le_refl _
   ·exact Int.le_of_lt (qcm h.lt hk hi (by omega))
  have:=qcm h.lt (i:=k) (j:=k+1) (by omega) hk (by omega)
  omega
theorem qmN.to {f:Int→Option L} {xs:List Int} (h:qmN f xs):∀ {k:Nat} (hk:k<xs.length),qaf f xs[k] (JI f xs k)
 | 0,hk=>by
  refine ⟨by simp [JI],by simp [JI],fun x z => ?_⟩
  constructor
  ·intro e
   try simp only at e
   split at e
   ·rename_i hlt
    rw [h.low x (fun c hc => ?_)] at e
    ·cases e
    ·obtain ⟨i,hi,rfl⟩:=List.getElem_of_mem hc
     by_cases e0:i=0
     ·subst e0; omega
     ·have:=qcm h.lt hk hi (by omega)
      omega
   ·cases e
  ·rintro ⟨_,k,_⟩
   cases k
 | k+1,hk=>by
  rw [qbE hk]
  exact (h.to (k:=k) (by omega)).step (fun x h1 h2=>h.between hk h1 h2) (qcm h.lt (by omega) hk (by omega))
theorem qmN.can {f:Int→Option L} {xs:List Int} (h:qmN f xs):Can f (JI f xs (xs.length - 1)):=by
 cases hl:xs.length with
 | zero =>
  have hx:xs = []:=List.eq_nil_of_length_eq_zero hl
  subst hx
  refine ⟨by simp [JI],by simp [JI],fun x z => ?_⟩
  rw [h.low x (by simp)]
  constructor
  ·intro e; cases e
  ·rintro ⟨_,k,_⟩; cases k
 | succ n =>
  have h1:=h.to (k:=n) (by omega)
  rw [Nat.add_sub_cancel]
  refine ⟨h1.le,h1.pw,fun x z => ?_⟩
  rw [← h1.iff]
  try simp only
  by_cases hx:x<xs[n]
  ·rw [if_pos hx]
  ·rw [if_neg hx,h.high x fun c hc => ?_]
   obtain ⟨i,hi,rfl⟩:=List.getElem_of_mem hc
   by_cases e:i=n
   ·subst e; omega
   ·have:=qcm h.lt hi (show n<xs.length by omega) (by omega)
    omega
theorem Can.KU {f:Int→Option L} (h:∀ x,f x=none):Can f ([]:List (Run L)) :=
 ⟨by simp,by simp,fun x z=>⟨fun e=>(by rw [h] at e; cases e),fun ⟨_,k,_⟩=>(by cases k)⟩⟩
structure Rc (L:Type) where
 x0:Int
 y0:Int
 x1:Int
 y1:Int
 z:L
 deriving DecidableEq,Inhabited
variable {L:Type} [DecidableEq L]
def Xq (R:Int→List (Run L)) (y:Int):Option (List (Run L)):=if R y = [] then none else some (R y)
def qhv (y0 y1:Int) (r:Run L):Rc L:=⟨r.a,y0,r.b,y1,r.z⟩
def qhx (b:Run (List (Run L))):List (Rc L):=b.z.map (qhv b.a b.b)
def emit (B:List (Run (List (Run L)))):List (Rc L):=B.flatMap qhx
def Rows (F:Int→Int→Option L) (R:Int→List (Run L)):Prop:=∀ y,Can (fun x=>F x y) (R y)
def Form (F:Int→Int→Option L) (out:List (Rc L)):Prop:=∃ R B,Rows F R∧Can (Xq R) B∧out=emit B
def atR (q:Rc L) (x y:Int):Prop:=q.x0≤x∧x≤q.x1∧q.y0≤y∧y≤q.y1
theorem qiu {B:List (Run (List (Run L)))} {q:Rc L}:q∈emit B↔∃ b∈B,∃ r∈b.z,q=qhv b.a b.b r:=by
 unfold emit qhx
 simp only [List.mem_flatMap,List.mem_map]
 constructor
 ·rintro ⟨b,h1,r,h2,rfl⟩; exact ⟨b,h1,r,h2,rfl⟩
 ·rintro ⟨b,h1,r,h2,rfl⟩; exact ⟨b,h1,r,h2,rfl⟩
theorem qa7 {R:Int→List (Run L)} {B:List (Run (List (Run L)))} (h:Can (Xq R) B) {b:Run (List (Run L))} (hb:b∈B) {y:Int} (h1:b.a≤y) (h2:y≤b.b):R y=b.z∧b.z ≠ []:=by
 have:=(h.iff y b.z).2 ⟨b,hb,h1,h2,rfl⟩
 unfold Xq at this
 split at this
 ·cases this
 ·rename_i hn
  have e:=Option.some.inj this
  exact ⟨e,by rw [← e]; exact hn⟩
theorem Form.iff {F:Int→Int→Option L} {o:List (Rc L)} (h:Form F o) (x y:Int) (z:L):F x y=some z↔∃ q∈o,atR q x y∧q.z=z:=by
 obtain ⟨R,B,h1,h2,rfl⟩:=h
 constructor
 ·intro e
  obtain ⟨r,hr,k1,k2,k3⟩:=((h1 y).iff x z).1 e
  have hn:R y ≠ []:=fun e'=>by rw [e'] at hr; cases hr
  obtain ⟨b,hb,q1,q2,q3⟩:=(h2.iff y (R y)).1 (by unfold Xq; rw [if_neg hn])
  exact ⟨qhv b.a b.b r,qiu.2 ⟨b,hb,r,by rw [q3]; exact hr,rfl⟩,⟨k1,k2,q1,q2⟩,k3⟩
 ·rintro ⟨q,hq,⟨k1,k2,k3,k4⟩,rfl⟩
  obtain ⟨b,hb,r,hr,rfl⟩:=qiu.1 hq
  obtain ⟨e,_⟩:=qa7 h2 hb (y:=y) k3 k4
  exact ((h1 y).iff x r.z).2 ⟨r,by rw [e]; exact hr,k1,k2,rfl⟩
theorem Form.le {F:Int→Int→Option L} {o:List (Rc L)} (h:Form F o) {q:Rc L} (hq:q∈o):q.x0≤q.x1∧q.y0≤q.y1:=by
 obtain ⟨R,B,h1,h2,rfl⟩:=h
 obtain ⟨b,hb,r,hr,rfl⟩:=qiu.1 hq
 have hbb:=h2.le b hb
 obtain ⟨e,_⟩:=qa7 h2 hb (y:=b.a) (Int.le_refl _) hbb
 have:=(h1 b.a).le r (by rw [e]; exact hr)
 exact ⟨this,hbb⟩
theorem Form.corner {F:Int→Int→Option L} {o:List (Rc L)} (h:Form F o) {q:Rc L} (hq:q∈o):F q.x0 q.y0=some q.z∧F q.x1 q.y1=some q.z:=by
 have:=h.le hq
 exact ⟨(h.iff _ _ _).2 ⟨q,hq,⟨Int.le_refl _,this.1,Int.le_refl _,this.2⟩,rfl⟩,(h.iff _ _ _).2 ⟨q,hq,⟨this.1,Int.le_refl _,this.2,Int.le_refl _⟩,rfl⟩⟩
theorem Rows.congr {F:Int→Int→Option L} {R:Int→List (Run L)} (h:Rows F R) {y y':Int} (e:∀ x,F x y=F x y'):R y=R y':=by
 have h1:=h y
 have e':(fun x=>F x y)=fun x=>F x y':=funext e
 rw [e'] at h1
 exact h1.uniq (h y')
theorem Rows.none {F:Int→Int→Option L} {R:Int→List (Run L)} (h:Rows F R) {y:Int} (e:∀ x,F x y=none):R y = []:=(h y).uniq (Can.KU e)
structure qmM (F:Int→Int→Option L) (ys:List Int):Prop where
 lt:ys.Pairwise (· < ·)
 same:∀ x y y',(∀ c∈ys,c≤y↔c≤y')→F x y=F x y'
 low:∀ x y,(∀ c∈ys,¬ c≤y)→F x y=none
 high:∀ x y,(∀ c∈ys,c≤y)→F x y=none
theorem qmM.bands {F:Int→Int→Option L} {R:Int→List (Run L)} {ys:List Int} (h:qmM F ys) (hR:Rows F R):qmN (Xq R) ys:=by
 refine ⟨h.lt,fun y y' hy => ?_,fun y hy => ?_,fun y hy => ?_⟩
 ·unfold Xq
  rw [hR.congr (fun x=>h.same x y y' hy)]
 ·unfold Xq
  rw [if_pos (hR.none fun x=>h.low x y hy)]
 ·unfold Xq
  rw [if_pos (hR.none fun x=>h.high x y hy)]
theorem qmM.form {F:Int→Int→Option L} {R:Int→List (Run L)} {ys:List Int} (h:qmM F ys) (hR:Rows F R):Form F (emit (JI (Xq R) ys (ys.length - 1))):=⟨R,_,hR,(h.bands hR).can,rfl⟩
end Can
end Go.Proofs.YtnconfggojpkcaaGreat
namespace Go.Proofs.YtnconfggojpkcaaGreat
open Go.RowKit AM
def qo9 {α:Type} (f:α→α):Nat→List α→List α
 | _,[] => []
 | 0,x::xs=>f x::xs
 | k+1,x::xs=>x::qo9 f k xs
theorem qo8 {α:Type} {f:α→α} {xs:List α} {x:α}:qo9 f xs.length (xs ++ [x])=xs ++ [f x]:=by
 induction xs with
 | nil=>rfl
 | cons y ys ih=>simp [qo9,ih]
theorem qmg {α:Type} {enc:α→List V} {sz o:Nat} {v:V} {f:α→α} (hsz:∀ x,(enc x).length=sz) (ho:o<sz) (hf:∀ x,(enc x).set o v=enc (f x)):∀ {k:Nat} {xs:List α},k<xs.length→(xs.flatMap enc).set (k*sz+o) v=(qo9 f k xs).flatMap enc
 | _,[],h=>by simp at h
 | 0,x::xs,_=>by
  rw [List.flatMap_cons,qo9,List.flatMap_cons,Nat.zero_mul,Nat.zero_add,List.set_append_left _ _ (by rw [hsz]; exact ho),hf]
 | k+1,x::xs,h=>by
  rw [List.flatMap_cons,qo9,List.flatMap_cons,List.set_append_right _ _ (by rw [hsz,Nat.succ_mul]; omega),hsz]
  have:(k+1)*sz+o - sz=k*sz+o:=by rw [Nat.succ_mul]; omega
  rw [this,qmg hsz ho hf (by simpa using h)]
theorem JZ {H:List Bk} {xs:List SV} {ys:List V} (h:xs.length=ys.length):setCells (H ++ [.cells xs]) H.length 0 ys=H ++ [.cells (ys.map .v)]:=by
 have go:∀ (ys:List V) (pre xs:List SV),xs.length=ys.length→setCells (H ++ [.cells (pre++xs)]) H.length pre.length ys=H ++ [.cells (pre++ys.map .v)]:=by
  intro ys
  induction ys with
  | nil=>intro pre xs h; cases xs with
   | nil=>rfl
   | cons=>simp at h
  | cons y ys ih =>
   intro pre xs h
   cases xs with
   | nil=>simp at h
   | cons x xs =>
    have h2:=ih (pre ++ [.v y]) xs (by simpa using h)
    simp only [setCells]
    have e:qo (H ++ [.cells (pre++x::xs)]) H.length pre.length (.v y)=H ++ [.cells ((pre ++ [.v y])++xs)]:=by simp [qo]
    rw [e]
    simpa using h2
 simpa using go ys [] xs h
theorem setP {H:List Bk} {cs:List SV} {j:Nat} {x:V}:setCells (H ++ [.cells cs]) H.length j [x]=H ++ [.cells (cs.set j (.v x))]:=by simp [setCells,qo]
theorem qab {H:List Bk} {b:Bk}:(H ++ [b])[H.length]? = some b:=by simp
end Go.Proofs.YtnconfggojpkcaaGreat
namespace Go.Proofs.YtnconfggojpkcaaGreat
namespace Can
variable {L:Type} [DecidableEq L]
theorem qo2 {R:List (Run L)} {n m:Int} {z:L}:∃ R' a,push R n m z=R' ++ [⟨a,m - 1,z⟩]:=by
 unfold push
 split
 ·rename_i r hr
  split
  ·exact ⟨_,_,rfl⟩
  ·exact ⟨_,_,rfl⟩
 ·exact ⟨[],n,rfl⟩
theorem qjK {R:List (Run L)} {r:Run L} {n m:Int} {z:L} (h1:r.b+1=n) (h2:r.z=z):push (R ++ [r]) n m z=R ++ [⟨r.a,m - 1,z⟩]:=by
 unfold push
 simp [h1,h2]
theorem qig {R:List (Run L)} {n m:Int} {z:L} (h:∀ R' r,R=R' ++ [r]→r.b+1=n→r.z≠z):push R n m z=R ++ [⟨n,m - 1,z⟩]:=by
 rcases List.eq_nil_or_concat R with rfl | ⟨R',r,rfl⟩
 ·rfl
 ·unfold push
  simp only [List.concat_eq_append] at h ⊢
  simp only [List.getLast?_append,List.getLast?_singleton,Option.some_or,List.dropLast_concat]
  rw [if_neg]
  rintro ⟨h1,h2⟩
  exact h R' r rfl h1 h2
theorem qmy {α:Type} {A B:List α} {x y:α} (h:A ++ [x]=B ++ [y]):A=B∧x=y:=by
 have h1:=List.append_inj' h rfl
 exact ⟨h1.1,by simpa using h1.2⟩
theorem qjF {f:Int→Option L} {xs:List Int} (hs:xs.Pairwise (· < ·)):∀ {k:Nat} (hk:k<xs.length) {R':List (Run L)} {r:Run L},JI f xs k=R' ++ [r] →
  r.b+1≤xs[k]∧(r.b+1=xs[k]→∃ j,∃ hj:j<xs.length,k=j+1∧f xs[j]=some r.z)
 | 0,hk,R',r,h=>by simp [JI] at h
 | k+1,hk,R',r,h=>by
  rw [qbE hk] at h
  have hlt:=qcm hs (i:=k) (j:=k+1) (by omega) hk (by omega)
  unfold step at h
  split at h
  ·rename_i z hz
   obtain ⟨R2,a,e⟩:=qo2 (R:=JI f xs k) (n:=xs[k]) (m:=xs[k+1]) (z:=z)
   rw [e] at h
   obtain ⟨_,rfl⟩:=qmy h
   refine ⟨by simp only; omega,fun _=>⟨k,by omega,rfl,hz⟩⟩
  ·have:=(qjF hs (k:=k) (by omega) h).1
   exact ⟨by omega,fun e=>by omega⟩
theorem qje {f:Int→Option L} {xs:List Int} (hs:xs.Pairwise (· < ·)) {i k:Nat} (hik:i<k) (hk:k<xs.length) (hnew:∀ j,∀ hj:j<xs.length,i=j+1→f xs[j]≠f (xs[i]'(by omega)))
  (hsame:∀ j,∀ hj:j<xs.length,i≤j→j<k→f xs[j]=f (xs[i]'(by omega))):JI f xs k=JI f xs i++(match f (xs[i]'(by omega)) with
   | some z => [⟨xs[i]'(by omega),xs[k] - 1,z⟩]
   | none => []):=by
 have hi:i<xs.length:=by omega
 have go:∀ d,∀ h:i+d+1<xs.length,i+d+1≤k→JI f xs (i+d+1)=JI f xs i++(match f (xs[i]'hi) with
   | some z => [⟨xs[i]'hi,xs[i+d+1] - 1,z⟩]
   | none => []):=by
  intro d
  induction d with
  | zero =>
   intro h hle
   rw [qbE (k:=i+0) h]
   simp only [Nat.add_zero]
   unfold step
   cases hz:f (xs[i]'hi) with
   | none=>simp
   | some z =>
    simp only
    rw [qig]
    intro R' r e hb hz'
    obtain ⟨j,hj,e1,e2⟩:=(qjF hs hi e).2 hb
    refine hnew j hj e1 ?_
    rw [e2,hz,hz']
  | succ d ih =>
   intro h hle
   have h':i+d+1+1<xs.length:=h
   have hle':i+d+1+1≤k:=hle
   show JI f xs (i+d+1+1)=JI f xs i++(match f (xs[i]'hi) with
    | some z => [⟨xs[i]'hi,xs[i+d+1+1] - 1,z⟩]
    | none => [])
   clear h hle
   have h:=h'
   have hle:=hle'
   rw [qbE (k:=i+d+1) h,ih (by omega) (by omega)]
   have e:=hsame (i+d+1) (by omega) (by omega) (by omega)
   unfold step
   rw [e]
   cases hz:f (xs[i]'hi) with
   | none=>simp
   | some z =>
    simp only
    rw [qjK (Int.sub_add_cancel _ _) rfl]
 have h2:=go (k - i - 1) (by omega) (by omega)
 have e3:i+(k - i - 1)+1=k:=by omega
 simp only [e3] at h2
 exact h2
theorem qmv {R:Int→List (Run L)} {y y':Int}:Xq R y=Xq R y'↔R y=R y':=by
 unfold Xq
 by_cases h:R y = [] <;> by_cases h':R y' = []
 ·simp [h,h']
 ·simp [h,h']
 ·simp [h,h']
 ·simp [h,h']
theorem qmo {B C:List (Run (List (Run L)))}:emit (B++C)=emit B++emit C:=by simp [emit]
theorem qk7 {R:Int→List (Run L)} {ys:List Int} (hs:ys.Pairwise (· < ·)) {i k:Nat} (hik:i<k) (hk:k<ys.length) (hnew:∀ j,∀ hj:j<ys.length,i=j+1→R ys[j]≠R (ys[i]'(by omega)))
  (hsame:∀ j,∀ hj:j<ys.length,i≤j→j<k→R ys[j]=R (ys[i]'(by omega))):emit (JI (Xq R) ys k)=emit (JI (Xq R) ys i)++(R (ys[i]'(by omega))).map (qhv (ys[i]'(by omega)) (ys[k] - 1)):=by
 rw [qje hs hik hk (fun j hj e=>fun h=>hnew j hj e (qmv.1 h)) (fun j hj h1 h2=>qmv.2 (hsame j hj h1 h2)),qmo]
 congr 1
 cases hz:Xq R (ys[i]'(by omega)) with
 | none =>
  unfold Xq at hz
  split at hz
  ·rename_i hn
   rw [hn]
   rfl
  ·cases hz
 | some z =>
  unfold Xq at hz
  split at hz
  ·cases hz
  ·cases hz
   simp [emit,qhx]
end Can
end Go.Proofs.YtnconfggojpkcaaGreat
namespace Go.Proofs.YtnconfggojpkcaaGreat
open Go.RowKit AM Can
theorem qlc {zs:List Int} (h:zs.Pairwise (· ≤ ·)):(Go.Lib.compact zs).Pairwise (· < ·)∧∀ z,z∈Go.Lib.compact zs↔z∈zs:=by
 have get:∀ j,∀ hj:j<zs.length,zs.toArray[j]! = zs[j]:=fun j hj=>by rw [getElem!_pos zs.toArray j (by simpa using hj)]; simp
 have key:∀ m,m≤zs.length→(Go.Lib.compactUpTo zs.toArray m).Pairwise (· < ·)∧(∀ z,z∈Go.Lib.compactUpTo zs.toArray m↔z∈zs.take m):=by
  intro m
  induction m with
  | zero=>intro _; simp [Go.Lib.compactUpTo]
  | succ m ih =>
   intro hm
   obtain ⟨h1,h2⟩:=ih (by omega)
   have hml:m<zs.length:=by omega
   rw [Go.Lib.compactUpTo_succ,List.take_succ_eq_append_getElem hml]
   by_cases hk:Go.Lib.keeps zs.toArray m=true
   ·rw [if_pos hk,get m hml]
    refine ⟨?_,fun z=>by rw [List.mem_append,h2,List.mem_append]⟩
    rw [List.pairwise_append]
    refine ⟨h1,by simp,fun x hx y hy => ?_⟩
    simp at hy
    subst hy
    rw [h2] at hx
    obtain ⟨i,hi,rfl⟩:=List.getElem_of_mem hx
    rw [List.getElem_take]
    rw [List.length_take] at hi
    have hle:∀ i,∀ hi:i<m,zs[i]≤zs[m]:=fun i hi=>(List.pairwise_iff_getElem.1 h) i m (by omega) hml hi
    unfold Go.Lib.keeps at hk
    simp only [decide_eq_true_eq] at hk
    rcases hk with hk | hk
    ·omega
    ·rw [get m hml,get (m - 1) (by omega)] at hk
     have h3:=hle (m - 1) (by omega)
     have h4:zs[i]≤zs[m - 1]:=by
      by_cases e:i=m - 1
      ·subst e; exact Int.le_refl _
      ·exact (List.pairwise_iff_getElem.1 h) i (m - 1) (by omega) (by omega) (by omega)
     omega
   ·rw [if_neg hk]
    refine ⟨by simpa using h1,fun z => ?_⟩
    rw [List.append_nil,h2,List.mem_append]
    refine ⟨.inl,fun hz=>hz.elim id fun hz => ?_⟩
    simp at hz
    subst hz
    unfold Go.Lib.keeps at hk
    simp only [decide_eq_true_eq,not_or,ne_eq,Classical.not_not] at hk
    rw [get m hml,get (m - 1) (by omega)] at hk
    rw [hk.2]
    rw [List.mem_take_iff_getElem]
    exact ⟨m - 1,by omega,rfl⟩
 obtain ⟨h1,h2⟩:=key zs.length (Nat.le_refl _)
 exact ⟨h1,fun z=>by unfold Go.Lib.compact; rw [h2,List.take_length]⟩
def qek (zs:List Int):List Int:=Go.Lib.compact (sorted' zs)
theorem VL (zs:List Int):(qek zs).Pairwise (· < ·)∧∀ z,z∈qek zs↔z∈zs:=by
 obtain ⟨h1,h2⟩:=qlc (qjb zs)
 exact ⟨h1,fun z=>by
  unfold qek
  rw [h2]
  exact (List.mergeSort_perm zs _).mem_iff⟩
end Go.Proofs.YtnconfggojpkcaaGreat
namespace Go.Proofs.YtnconfggojpkcaaGreat
open Go.ChangeShapes Go.WideShapes Go.ChangeAt Go.RowKit
theorem own:ownKnob Tryz.prog.godebug=none:=by kernel_rfl
theorem laidOut:laidOutB Tryz.prog=true:=by kernel_rfl
section
variable {H:Type} {enc:TypeId×Value→H} {P:Program}
theorem Wx {base:Nat} {spare:Nat→Bool} {held:Bool} {w:World}:∀ {ts:List TypeId} {vs:List Value} {ds:List (DataW H)} {ps:List MemPlace},DataW.TrodAll enc P w base spare held ts vs ds ps→ds.length=ts.length
 | [],_,_,_,h=>by
  obtain ⟨rfl,rfl,_⟩:=trodAll_nil h
  rfl
 | _::_,_,_,_,h=>by
  obtain ⟨v,vs',d,ds',p,q,rfl,rfl,rfl,_,h1⟩:=trodAll_cons h
  simp [Wx h1]
theorem X5 (hl:laidOutB P=true) {W W':World} (hb:Below W.heap.size W W') {sp:Nat→Bool}:∀ {ts:List TypeId} {vs:List Value} {ds:List (DataW H)} {ps:List MemPlace},
  (∀ t∈ts,P.readableRec t=true∧t<P.types.size)→DataW.TrodAll enc P W 0 (fun _=>true) true ts vs ds ps→(∀ x∈ps,x.block<W.heap.size)→(∀ x∈ps,sp x.block=true) →
  DataW.TrodAll enc P W' 0 sp true ts vs ds ps
 | [],vs,ds,ps,_,h,_,_=>by
  obtain ⟨rfl,rfl,rfl⟩:=trodAll_nil h
  exact trodAll_mk0
 | t::ts,vs,ds,ps,ht,h,hlt,hsp=>by
  obtain ⟨v,vs',d,ds',p,q,rfl,rfl,rfl,h0,h1⟩:=trodAll_cons h
  have ht0:=ht t (List.mem_cons_self ..)
  exact trodAll_cons_mk (WideElems.Trod_stays hl ht0.1 ht0.2 h0 (fun x hx=>hb.same (hlt x (List.mem_append_left _ hx))) (fun x hx=>hsp x (List.mem_append_left _ hx)))
   (X5 hl hb (fun t h=>ht t (List.mem_cons_of_mem _ h)) h1 (fun x hx=>hlt x (List.mem_append_right _ hx)) (fun x hx=>hsp x (List.mem_append_right _ hx)))
theorem V3 {f:Func} {s:ChangeSpec} {apart fresh handsOn again:Bool} {W W':World} {args:Array Value} {v:Value} {ds gs:List (DataW H)} {before pa pv:List MemPlace}
  (hW:DataW.Whole enc P f.params.toList s.vars apart W args.toList ds gs before)
  (hres:∀ (b:Nat) (sp:Nat→Bool) (hd:Bool),DataW.TrodAll enc P W' b sp hd f.resultTypes.toList (v.resultList f.resultTypes.size) (s.fn H (ds++gs)).results [])
  (hargs:∀ sp:Nat→Bool,(∀ p∈before,sp p.block=true)→DataW.TrodAll enc P W' 0 sp true f.params.toList args.toList (s.fn H (ds++gs)).args pa)
  (hvars:∀ sp:Nat→Bool,(∀ p∈before,sp p.block=true)→DataW.TrodVars enc P W' sp s.vars (s.fn H (ds++gs)).vars pv)
  (hps:before=pa++pv) (hb:Below W.heap.size W W')
  (hok:∀ (j:Nat) (t:TypeId) (r:Value),f.resultTypes[j]? = some t→(v.resultList f.resultTypes.size)[j]? = some r→Value.okWide P W' .any 0 t r) :
  s.post enc P f apart fresh handsOn again W args v W':=by
 have hlt:∀ p∈before,p.block<W.heap.size:=fun p hp=>hW.lt p hp
 have hold:∀ p∈before,(fun b=>decide (b<W.heap.size)) p.block=true:=fun p hp=>by simpa using hlt p hp
 refine ⟨ds,gs,before,[],pa,pv,hW,hres _ _ _,hargs _ hold,hvars _ hold,World.keptBut_mono (fun p hp=>⟨hp,?_⟩) (hb.frame (· ∈ before)),fun _ => ?_⟩
 ·rw [hps,List.mem_append] at hp
  exact Or.inr hp
 ·obtain ⟨_,_,_,_,_,hz,hn⟩:=hW
  refine ⟨hok,_,_,([]++pa)++pv,⟨[]++pa,pv,trodAll_append (hargs _ (fun _ _=>rfl)) (hres _ _ _),hvars _ (fun _ _=>rfl),rfl,?_,?_⟩,?_⟩
  ·intro b off hp
   have hin:MemPlace.cell b off∈before:=by rw [hps]; simpa using hp
   rw [hb.frozen (hlt _ hin)]
   exact hz b off hin
  ·intro ha
   have:=hn ha
   rw [hps] at this
   simpa using this
  ·intro p hp _
   rw [hps]
   simpa using hp
end
end Go.Proofs.YtnconfggojpkcaaGreat
namespace Go.Proofs.YtnconfggojpkcaaGreat
open Go.ChangeShapes Go.WideShapes Go.Deep
structure Fits (k:IntKind) (n:Int):Prop where
 wf:(Lit.int k n).wf=true
inductive Leaf | int (k:IntKind) | bool | text
namespace Leaf
def ok:Leaf→Value→Prop
 | .int k,v=>∃ n,v = .int k n∧Fits k n
 | .bool,v=>∃ b,v = .bool b
 | .text,v=>∃ s:ByteArray,v = .string s∧s.size≤maxLen
def all:List Leaf→List Value→Prop
 | [],vs=>vs = []
 | l::ls,vs=>∃ v vs',vs=v::vs'∧l.ok v∧all ls vs'
theorem all_append:∀ {ls ms:List Leaf} {vs ws:List Value},all ls vs→all ms ws→all (ls++ms) (vs++ws)
 | [],_,_,_,h,k=>by
  cases h
  exact k
 | _::_,_,_,_,⟨v,vs',rfl,h1,h2⟩,k=>⟨v,_,rfl,h1,all_append h2 k⟩
theorem vB {k:IntKind} {ls:List Leaf} {vs:List Value} (h:all (.int k::ls) vs):∃ n vs',vs = .int k n::vs'∧Fits k n∧all ls vs':=by
 obtain ⟨v,vs',rfl,⟨n,rfl,hn⟩,h2⟩:=h
 exact ⟨n,vs',rfl,hn,h2⟩
theorem qpr {ls:List Leaf} {vs:List Value} (h:all (.bool::ls) vs):∃ b vs',vs = .bool b::vs'∧all ls vs':=by
 obtain ⟨v,vs',rfl,⟨b,rfl⟩,h2⟩:=h
 exact ⟨b,vs',rfl,h2⟩
theorem all_nil {vs:List Value} (h:all [] vs):vs = []:=h
end Leaf
def qeo (P:Program) (g:TypeId→Option (List Leaf)) (size:Nat):Nat→List Field→Option (List Leaf)
 | off,[]=>if off=size then some [] else none
 | off,f::fs=>if f.offset=off then (g f.type).bind fun ls=>if ls.length=P.cellsOf f.type then (qeo P g size (off+ls.length) fs).map (ls ++ ·) else none else none
def VT (P:Program):Nat→TypeId→Option (List Leaf)
 | 0,_=>none
 | n+1,t =>
  match P.underlying t with
  | some .bool=>some [.bool]
  | some (.int k)=>some [.int k]
  | some .string=>some [.text]
  | some (.struct fs)=>qeo P (VT P n) (P.cellsOf t) 0 fs.toList
  | _=>none
section
variable {H:Type} {enc:TypeId×Value→H} {P:Program} {w:World} {base:Nat} {spare:Nat→Bool} {held:Bool}
theorem qe5 {g:TypeId→Option (List Leaf)} {size m:Nat} {cs:List Value} (hg:∀ t ls n cs x,g t=some ls→DataW.trod enc P w base spare held n t cs=some x→Leaf.all ls cs) (hcs:cs.length=size) :
  ∀ (fs:List Field) (off:Nat) (ls:List Leaf),qeo P g size off fs=some ls→(∀ f∈fs,∃ x,DataW.trod enc P w base spare held m f.type ((cs.drop f.offset).take (P.cellsOf f.type))=some x)→Leaf.all ls (cs.drop off)
 | [],off,ls,h,_=>by
  unfold qeo at h
  split at h
  ·cases h
   rename_i ho
   show cs.drop off = []
   rw [List.drop_eq_nil_of_le (by omega)]
  ·cases h
 | f::fs,off,ls,h,hf=>by
  unfold qeo at h
  split at h
  ·rename_i ho
   obtain ⟨l1,h1,h2⟩:=Option.bind_eq_some_iff.1 h
   split at h2
   ·rename_i hl
    obtain ⟨l2,h3,rfl⟩:=Option.map_eq_some_iff.1 h2
    obtain ⟨x,hx⟩:=hf f (List.mem_cons_self ..)
    have a1:=hg f.type l1 m _ x h1 hx
    have a2:=qe5 hg hcs fs _ l2 h3 (fun f h=>hf f (List.mem_cons_of_mem _ h))
    have a3:=Leaf.all_append a1 a2
    rw [ho,hl,← List.drop_drop,List.take_append_drop] at a3
    exact a3
   ·cases h2
  ·cases h
theorem Zz:∀ (k:Nat) (t:TypeId) (ls:List Leaf) (n:Nat) (cs:List Value) (x:DataW H×List MemPlace),VT P k t=some ls→DataW.trod enc P w base spare held n t cs=some x→Leaf.all ls cs
 | 0,_,_,_,_,_,h,_=>by cases h
 | k+1,t,ls,n,cs,x,h,hx=>by
  unfold VT at h
  split at h
  ·rename_i hu
   cases h
   obtain ⟨b,rfl,_⟩:=DataW.trod_bool hu hx
   exact ⟨_,_,rfl,⟨b,rfl⟩,rfl⟩
  ·rename_i hu
   cases h
   obtain ⟨n,rfl,_,hwf⟩:=DataW.trod_int hu hx
   exact ⟨_,_,rfl,⟨n,rfl,⟨hwf⟩⟩,rfl⟩
  ·rename_i hu
   cases h
   obtain ⟨s,rfl,_,hs⟩:=DataW.trod_string hu hx
   exact ⟨_,_,rfl,⟨s,rfl,hs⟩,rfl⟩
  ·rename_i fs hu
   obtain ⟨xs,m,_,_,hl,hlen,hf⟩:=DataW.trod_struct hu hx
   have:=qe5 (enc:=enc) (w:=w) (base:=base) (spare:=spare) (held:=held) (m:=m) (fun t ls n cs x h h'=>Zz k t ls n cs x h h') hl fs.toList 0 ls h (fun f hf'=>by
    obtain ⟨i,hi⟩:=List.getElem?_of_mem hf'
    have hi':fs[i]? = some f:=by rw [← hi]; simp
    have hil:i<fs.size:=by
     rcases Nat.lt_or_ge i fs.size with h | h
     ·exact h
     ·rw [Array.getElem?_eq_none h] at hi'; cases hi'
    exact ⟨xs[i]'(by omega),by rw [hf i f hi',List.getElem?_eq_getElem (by omega)]⟩)
   simpa using this
  ·cases h
theorem qjj {w:World} {a:Addr} {v:Value} (h:w.cell? a=some v):a.block<w.heap.size∧a.spot=none:=by
 unfold World.cell? at h
 split at h
 ·rename_i hb
  refine ⟨?_,?_⟩
  ·rcases Nat.lt_or_ge a.block w.heap.size with h1 | h1
   ·exact h1
   ·rw [Array.getElem?_eq_none h1] at hb
    cases hb
  ·cases hs:a.spot with
   | none=>rfl
   | some x=>rw [hs] at h; simp at h
 ·cases h
theorem addr_add {a:Addr} (ha:a.spot=none) (n:Nat):a.add n=⟨a.block,a.off+n,none⟩:=by
 obtain ⟨b,o,s⟩:=a
 cases ha
 unfold Addr.add
 split
 ·simp_all
 ·rfl
end
end Go.Proofs.YtnconfggojpkcaaGreat
namespace Go.Proofs.YtnconfggojpkcaaGreat
open Go.RowKit
theorem qj9 {α:Type} {cells:α→List Value} {sz:Nat} (hlen:∀ x,(cells x).length=sz) {u:Value}:∀ {xs:List α} {j:Nat},(xs.flatMap cells)[j]? = some u→∃ i x j',xs[i]? = some x∧(cells x)[j']? = some u∧j=i*sz+j'
 | [],j,h=>by simp at h
 | x::xs,j,h=>by
  rw [List.flatMap_cons] at h
  by_cases hj:j<sz
  ·rw [List.getElem?_append_left (by rw [hlen]; exact hj)] at h
   exact ⟨0,x,j,rfl,h,by simp⟩
  ·rw [List.getElem?_append_right (by rw [hlen]; omega),hlen] at h
   obtain ⟨i,y,j',h1,h2,h3⟩:=qj9 hlen h
   refine ⟨i+1,y,j',by simpa using h1,h2,?_⟩
   rw [Nat.succ_mul]
   omega
namespace AM
def said (W:World) (b o:Nat):Option Value:=W.cell? ⟨b,o,none⟩
theorem AFn.yes {P:Program} {f:FuncId} {xs:List V} {vs:List Value} {W:World} {Q:V→List Bk→Prop} (h:AFn P f xs [] Q) (hq:∀ y H,Q y H→y = .sc (.bool true)) (hr:vM (said W) [] xs vs):Calls P f vs.toArray W (Yes W):=by
 let c0:Cx:=⟨said W,[],fun _ => .out⟩
 have hi0:Inv c0 [] W:=⟨fun b o v hv=>hv,rfl,fun b hb=>absurd rfl hb,fun b b' r hb=>(by cases hb),fun id b k hb hk=>(by simp [c0] at hb)⟩
 refine (h.2 c0 W vs hi0 (fun b t e=>by cases e) hr).mono fun e w' he => ?_
 obtain ⟨v,y,H',c',rfl,k1,k2,k3,k4,k5⟩:=he
 obtain rfl:=hq _ _ k5
 refine ⟨by rw [Rel.exact k1 rfl],⟨k4.os,k4.tape,k4.output,k4.size,fun k hk=>(k4.out k hk rfl).1⟩⟩
theorem Yr {I:Nat→Nat→Option Value} {φ:List Nat}:∀ {vs:List Value},vM I φ (vs.map .sc) vs
 | [] => .nil
 | v::vs => .cons (.sc v) Yr
end AM
section
open Go.ChangeShapes Go.WideShapes Go.Deep
variable {H:Type} {enc:TypeId×Value→H} {P:Program} {w:World} {base:Nat} {held:Bool}
end
end Go.Proofs.YtnconfggojpkcaaGreat
namespace Go.Proofs.YtnconfggojpkcaaGreat
open Go.RowKit AM
attribute [local simp] zQ qU jL zT zq zR zS zo jM zu qV Z8 Qm jC Ql yc ZE vZ slF qG Qo zK yx zA shares jh yt ze Qz QI qY ZF qZ qM vX zH yu Qe qL zD zG vU slV jE jG yE zU ZJ jB jF aMM aUn Qp vW jD zC jA qJ vV Qu vY vS Zw y9 qK Qs ZK zJ zI jH jR ZH eval zZ AM.valOf qm vO yR del SV.refers zY vQ jU shift ldV V.exact V.jg V.ofValue V.vP V.vL V.cells V.one Value.oneCell' ZI QY jV Q5 ZM ZC Qa Zy jl jI Qi ZL y8 yX Qr calm Qt Zn Qk feeds shrinks Qx looks isT Qf vK Qd putAt jT jc Zm sliceB isEq Qg zk qH zO zn qR zl zm qQ zP zi qP ZW Qw yB Zl QZ inO y7 Zi Mix.vT Mix.Qc QB QX qz qj qW zh qO ZV Qq yg yh ZG Zb yw yO Q8 jW V.fixed V.vC
structure Pt where
 x:Int
 y:Int
 deriving DecidableEq,Inhabited
namespace Pt
def cs (p:Pt):List V := [.sc (.int .i64 p.x),.sc (.int .i64 p.y)]
def v (p:Pt):V := .agg p.cs
end Pt
structure Ce where
 l:Int
 x:Int
 y:Int
 deriving DecidableEq,Inhabited
namespace Ce
def cs (p:Ce):List V := [.sc (.int .i64 p.l),.sc (.int .i64 p.x),.sc (.int .i64 p.y)]
def v (p:Ce):V := .agg p.cs
def zero:Ce:=⟨0,0,0⟩
end Ce
structure Re where
 x0:Int
 y0:Int
 x1:Int
 y1:Int
 deriving DecidableEq,Inhabited
namespace Re
def cs (p:Re):List V := [.sc (.int .i64 p.x0),.sc (.int .i64 p.y0),.sc (.int .i64 p.x1),.sc (.int .i64 p.y1)]
def v (p:Re):V := .agg p.cs
def zero:Re:=⟨0,0,0,0⟩
end Re
def inside (n:Int):Bool:=decide (0≤n∧n≤65535)
def fits (p:Pt):Bool:=inside p.x&&inside p.y
def qd (r:Re):Bool:=inside r.x0&&inside r.x1&&inside r.y0&&inside r.y1&&decide (r.x0≤r.x1)&&decide (r.y0≤r.y1)
def yV (r:Re) (p:Pt):Bool:=qd r&&decide (r.x0≤p.x)&&decide (p.x≤r.x1)&&decide (r.y0≤p.y)&&decide (p.y≤r.y1)
def vR (l:Int):Bool:=decide (0≤l∧l≤16)
def two (n:Int):Int:=2 ^ n.toNat
def yj (c:Ce):Bool:=vR c.l&&decide (0≤c.x)&&decide (0≤c.y)&&decide (c.x<two c.l)&&decide (c.y<two c.l)
def side (l:Int):Int:=two (16 - l)
def cellOf (p:Pt) (l:Int):Ce:=⟨l,p.x/side l,p.y/side l⟩
def ofR (p:Pt) (l:Int):Ce×Bool:=if vR l&&fits p then (cellOf p l,true) else (.zero,false)
def jy (c:Ce):Re:=⟨side c.l*c.x,side c.l*c.y,side c.l*c.x+side c.l - 1,side c.l*c.y+side c.l - 1⟩
def JD (c:Ce):Re×Bool:=if yj c then (jy c,true) else (.zero,false)
def Xn (c:Ce) (i:Int):Ce×Bool:=if yj c && !decide (c.l=16)&&decide (0≤i∧i≤3) then (⟨c.l+1,2*c.x+i%2,2*c.y+i/2⟩,true) else (.zero,false)
theorem qii {k n:Nat} (h:k≤n):(2:Int) ^ k≤2 ^ n:=by
 have:=Nat.pow_le_pow_right (n:=2) (by decide) h
 exact_mod_cast this
theorem qee (k:Nat):(0:Int)<2 ^ k:=Int.pow_pos (by decide)
theorem qmZ {n:Int} (h:n≤16):two n≤65536:=by
 unfold two
 have:=qii (k:=n.toNat) (n:=16) (by omega)
 have e:(2:Int) ^ 16=65536:=by decide
 omega
theorem two_pos (n:Int):0<two n:=by
 unfold two
 exact Int.pow_pos (by decide)
theorem qn3 (n:Nat):two n=((2 ^ n:Nat):Int):=by simp [two]
theorem vwa {N:Nat} {x:Code} {Q:Exit→St→Prop} {s:St} (bad:List (Nat×Nat×List Nat)) (h:awx Tryz.prog N bad x Q s) (ho:okx bad x=true := by kernel_rfl):AW Tryz.prog N x Q s := AW.ofx bad mixed ho h
theorem vwb {N:Nat} {x:Code} {Q:Exit→St→Prop} {s:St} (h:awx Tryz.prog N [] x Q s) (ho:okx [] x=true := by kernel_rfl):AW Tryz.prog N x Q s := AW.ofx [] mixed ho h
theorem vwc {f:FuncId} {fn:Func} {code:Code} {xs:List V} {H:List Bk} {Q:V→List Bk→Prop} (hb:fn.body=some code) (h:AW Tryz.prog fn.ntmps code (ZM Tryz.prog fn.results.toList Q) ⟨ql 0 xs,H⟩) (hf:Tryz.prog.funcs[f]? = some fn := by kernel_rfl) (hn:(fn.name == "runtime.NumGoroutine")=false := by kernel_rfl) (hN:xs.length≤fn.ntmps := by simp):AFn Tryz.prog f xs H Q := AFn.intro hf hb hn hN h
theorem KG (p:Pt):PFn Tryz.prog 57 [p.v] (.sc (.bool (fits p))):=by
 unfold Pt.v Pt.cs
 refine vwc (fn:=Tryz.f57) rfl (vwb ?_)
 simp only [Tryz.f57,ql]
 simp
 simp [gd,fits,inside]
 grind
theorem qlb (n:Int):PFn Tryz.prog 98 [.sc (.int .i64 n)] (.sc (.bool (vR n))):=by
 refine vwc (fn:=Tryz.f98) rfl (vwb ?_)
 simp only [Tryz.f98,ql]
 simp
 simp [gd,vR]
 grind
end Go.Proofs.YtnconfggojpkcaaGreat
namespace Go.Proofs.YtnconfggojpkcaaGreat
open Go.RowKit AM
attribute [local simp] zQ qU jL zT zq zR zS zo jM zu qV Z8 Qm jC Ql yc ZE vZ slF qG Qo zK yx zA shares jh yt ze Qz QI qY ZF qZ qM vX zH yu Qe qL zD zG vU slV jE jG yE zU ZJ jB jF aMM aUn Qp vW jD zC jA qJ vV Qu vY vS Zw y9 qK Qs ZK zJ zI jH jR ZH eval zZ AM.valOf qm vO yR del SV.refers zY vQ jU shift ldV V.exact V.jg V.ofValue V.vP V.vL V.cells V.one Value.oneCell' ZI QY jV Q5 ZM ZC Qa Zy jl jI Qi ZL y8 yX Qr calm Qt Zn Qk feeds shrinks Qx looks isT Qf vK Qd putAt jT jc Zm sliceB isEq Qg zk qH zO zn qR zl zm qQ zP zi qP ZW Qw yB Zl QZ inO y7 Zi Mix.vT Mix.Qc QB QX qz qj qW zh qO ZV Qq yg yh ZG Zb yw yO Q8 jW V.fixed V.vC
theorem zy {l:Int}:vR l=true↔0≤l∧l≤16:=by simp [vR]
theorem qc7 {p:Pt}:fits p=true↔(0≤p.x∧p.x≤65535)∧0≤p.y∧p.y≤65535:=by simp [fits,inside]
theorem VP (l:Int):0<side l:=two_pos _
theorem yI {c:Ce}:yj c=true↔(0≤c.l∧c.l≤16)∧0≤c.x∧0≤c.y∧c.x<two c.l∧c.y<two c.l:=by
 simp [yj,vR]
 grind
theorem two_mul {a b:Int} (ha:0≤a) (hb:0≤b):two (a+b)=two a*two b:=by
 obtain ⟨m,rfl⟩:=Int.eq_ofNat_of_zero_le ha
 obtain ⟨n,rfl⟩:=Int.eq_ofNat_of_zero_le hb
 unfold two
 rw [← Int.pow_add]
 congr 1
theorem qgT {c:Ce} (h:yj c=true):(0≤side c.l*c.x∧side c.l*c.x+side c.l≤65536)∧0≤side c.l*c.y∧side c.l*c.y+side c.l≤65536:=by
 obtain ⟨h1,h2,h3,h4,h5⟩:=yI.1 h
 have hs:=VP c.l
 have e:side c.l*two c.l=65536:=by
  unfold side
  rw [← two_mul (by omega) h1.1,show 16 - c.l+c.l=16 by omega]
  decide
 have k1:side c.l*(c.x+1)≤side c.l*two c.l:=Int.mul_le_mul_of_nonneg_left (by omega) (by omega)
 have k2:side c.l*(c.y+1)≤side c.l*two c.l:=Int.mul_le_mul_of_nonneg_left (by omega) (by omega)
 have k3:=Int.mul_nonneg (a:=side c.l) (b:=c.x) (by omega) h2
 have k4:=Int.mul_nonneg (a:=side c.l) (b:=c.y) (by omega) h3
 rw [Int.mul_add] at k1 k2
 omega
theorem shl_two {l:Int} (h:0≤l) (h':l≤16):shlI .i64 1 l=two l:=by
 obtain ⟨n,rfl⟩:=Int.eq_ofNat_of_zero_le h
 have:=Nat.pow_le_pow_right (n:=2) (by decide) (show n≤16 by omega)
 have e:2 ^ 16=65536:=by decide
 have:=qlH 1 n (by omega) (by omega)
 simpa [two] using this
theorem qld (c:Ce):PFn Tryz.prog 114 [c.v] (.sc (.bool (yj c))):=by
 unfold Ce.v Ce.cs
 refine vwc (fn:=Tryz.f114) rfl (vwb ?_)
 simp only [Tryz.f114,ql]
 simp
 refine qc.pure (qlb _) rfl rfl ?_
 cases h1:vR c.l
 ·simp [yj,h1]
 have h:=zy.1 h1
 have hn:¬ c.l<0:=by omega
 simp [qiY,hn,shl_two h.1 h.2]
 simp [gd,yj,h1]
 grind
theorem qnJ (l:Int) (h:0≤l) (h':l≤16):PFn Tryz.prog 162 [.sc (.int .i64 l)] (.sc (.int .i64 (16 - l))):=by
 refine vwc (fn:=Tryz.f162) rfl (vwb ?_)
 simp only [Tryz.f162,ql]
 have w1:IntKind.i64.wrap (16 - l)=16 - l:=by rw [wrap_i64] <;> omega
 simp [w1]
theorem shr_side {l:Int} (h:0≤l) (h':l≤16) {n:Int} (hn:0≤n):qkD .i64 n (16 - l)=n/side l:=by
 obtain ⟨k,rfl⟩:=Int.eq_ofNat_of_zero_le h
 obtain ⟨m,rfl⟩:=Int.eq_ofNat_of_zero_le hn
 have e:16 - (k:Int)=((16 - k:Nat):Int):=by omega
 unfold side
 rw [e,qh3 _ _ (by show 16 - k≤64; omega),qn3]
 exact Int.natCast_ediv m (2 ^ (16 - k))
theorem cDown (l n:Int) (h:0≤l) (h':l≤16) (hn:0≤n):PFn Tryz.prog 147 [.sc (.int .i64 l),.sc (.int .i64 n)] (.sc (.int .i64 (n/side l))):=by
 refine vwc (fn:=Tryz.f147) rfl (vwb ?_)
 simp only [Tryz.f147,ql]
 simp
 refine qc.pure (qnJ l h h') rfl rfl ?_
 have:¬ 16 - l<0:=by omega
 simp [qiX,this,shr_side h h' hn]
theorem cPair (x y x' y':Int) (f:FuncId) (l:Int) (h1:PFn Tryz.prog f [.sc (.int .i64 l),.sc (.int .i64 x)] (.sc (.int .i64 x'))) (h2:PFn Tryz.prog f [.sc (.int .i64 l),.sc (.int .i64 y)] (.sc (.int .i64 y'))) :
  PFn Tryz.prog 115 [.sc (.int .i64 x),.sc (.int .i64 y),.fn (.func f) [.sc (.int .i64 l)] []] (.tup [.sc (.int .i64 x'),.sc (.int .i64 y')]):=by
 refine vwc (fn:=Tryz.f115) rfl (vwb ?_)
 simp only [Tryz.f115,ql]
 simp
 refine qc.pure h1 rfl rfl ?_
 simp
 refine qc.pure h2 rfl rfl ?_
 simp
theorem cof (p:Pt) (l:Int) (h:0≤l) (h':l≤16) (hx:0≤p.x) (hy:0≤p.y):PFn Tryz.prog 99 [p.v,.sc (.int .i64 l)] (cellOf p l).v:=by
 unfold Pt.v Pt.cs
 refine vwc (fn:=Tryz.f99) rfl (vwb ?_)
 simp only [Tryz.f99,ql]
 simp
 refine qc.pure (cPair _ _ _ _ _ _ (cDown l p.x h h' hx) (cDown l p.y h h' hy)) rfl rfl ?_
 simp [setCells,qo,cellOf,Ce.v,Ce.cs]
theorem cOf (p:Pt) (l:Int):PFn Tryz.prog 63 [p.v,.sc (.int .i64 l)] (.tup [(ofR p l).1.v,.sc (.bool (ofR p l).2)]):=by
 have hF:=KG p
 have hO:=cof p l
 unfold Pt.v Pt.cs at hF hO ⊢
 refine vwc (fn:=Tryz.f63) rfl (vwb ?_)
 simp only [Tryz.f63,ql]
 simp
 refine qc.pure (qlb _) rfl rfl ?_
 cases h1:vR l
 ·simp [setCells,qo,ofR,h1,Ce.v,Ce.cs,Ce.zero]
 simp
 refine qc.pure hF rfl rfl ?_
 cases h2:fits p
 ·simp [setCells,qo,ofR,h1,h2,Ce.v,Ce.cs,Ce.zero]
 have h:=zy.1 h1
 have h3:=qc7.1 h2
 simp
 refine qc.pure (hO h.1 h.2 h3.1.1 h3.2.1) rfl rfl ?_
 simp [setCells,qo,ofR,h1,h2,Ce.v,Ce.cs]
theorem gLow (r:Re):PFn Tryz.prog 143 [r.v] (⟨r.x0,r.y0⟩:Pt).v:=by
 unfold Re.v Re.cs
 refine vwc (fn:=Tryz.f143) rfl (vwb ?_)
 simp only [Tryz.f143,ql]
 simp [setCells,qo,Pt.v,Pt.cs]
theorem gHigh (r:Re):PFn Tryz.prog 144 [r.v] (⟨r.x1,r.y1⟩:Pt).v:=by
 unfold Re.v Re.cs
 refine vwc (fn:=Tryz.f144) rfl (vwb ?_)
 simp only [Tryz.f144,ql]
 simp [setCells,qo,Pt.v,Pt.cs]
theorem qpk (r:Re):PFn Tryz.prog 95 [r.v,.fn (.func 57) [] []] (.sc (.bool (fits ⟨r.x0,r.y0⟩&&fits ⟨r.x1,r.y1⟩))):=by
 have h1:=gLow r
 have h2:=gHigh r
 have h3:=KG ⟨r.x0,r.y0⟩
 have h4:=KG ⟨r.x1,r.y1⟩
 unfold Re.v Re.cs at h1 h2 ⊢
 unfold Pt.v Pt.cs at h1 h2 h3 h4
 refine vwc (fn:=Tryz.f95) rfl (vwb ?_)
 simp only [Tryz.f95,ql]
 simp
 refine qc.pure h1 rfl rfl ?_
 simp
 refine qc.pure h3 rfl rfl ?_
 cases e:fits ⟨r.x0,r.y0⟩ with
 | false=>simp
 | true =>
  simp
  refine qc.pure h2 rfl rfl ?_
  simp
  refine qc.pure h4 rfl rfl ?_
  simp
theorem qlR (r:Re):qd r=(fits ⟨r.x0,r.y0⟩&&fits ⟨r.x1,r.y1⟩&&decide (r.x0≤r.x1)&&decide (r.y0≤r.y1)):=by
 unfold qd fits
 cases inside r.x0 <;> cases inside r.x1 <;> cases inside r.y0 <;> cases inside r.y1 <;> simp
theorem Jc (r:Re):PFn Tryz.prog 48 [r.v] (.sc (.bool (qd r))):=by
 have h1:=qpk r
 rw [qlR]
 unfold Re.v Re.cs at h1 ⊢
 refine vwc (fn:=Tryz.f48) rfl (vwb ?_)
 simp only [Tryz.f48,ql]
 simp
 refine qc.pure h1 rfl rfl ?_
 generalize (fits ⟨r.x0,r.y0⟩&&fits ⟨r.x1,r.y1⟩)=b
 cases b with
 | false=>simp
 | true =>
  simp
  refine gd.intro (fun e => ?_) (fun e => ?_)
  ·simp at e
   simp [e]
  ·simp at e
   have:¬ r.x0≤r.x1:=by omega
   simp [this]
theorem qF {r:Re}:qd r=true↔(0≤r.x0∧r.x0≤r.x1∧r.x1≤65535)∧0≤r.y0∧r.y0≤r.y1∧r.y1≤65535:=by
 unfold qd inside
 simp
 omega
theorem ZR {r:Re} {p:Pt}:yV r p=true↔qd r=true∧(r.x0≤p.x∧p.x≤r.x1)∧r.y0≤p.y∧p.y≤r.y1:=by
 unfold yV
 simp
 grind
theorem qk2 (r:Re) (p:Pt):PFn Tryz.prog 154 [r.v,p.v] (.sc (.bool (decide ((r.x0≤p.x∧p.x≤r.x1)∧r.y0≤p.y∧p.y≤r.y1)))):=by
 unfold Re.v Re.cs Pt.v Pt.cs
 refine vwc (fn:=Tryz.f154) rfl (vwb ?_)
 simp only [Tryz.f154,ql]
 simp
 simp [gd]
 grind
theorem gHas (r:Re) (p:Pt):PFn Tryz.prog 106 [r.v,p.v] (.sc (.bool (yV r p))):=by
 have h1:=Jc r
 have h2:=KG p
 have h3:=qk2 r p
 unfold Re.v Re.cs at h1 h3 ⊢
 unfold Pt.v Pt.cs at h2 h3 ⊢
 refine vwc (fn:=Tryz.f106) rfl (vwb ?_)
 simp only [Tryz.f106,ql]
 simp
 refine qc.pure h1 rfl rfl ?_
 cases e:qd r with
 | false =>
  have:yV r p=false:=by simp [yV,e]
  simp [this]
 | true =>
  simp
  refine qc.pure h2 rfl rfl ?_
  cases e2:fits p with
  | false =>
   have:yV r p=false:=by
    rw [Bool.eq_false_iff]
    intro h
    obtain ⟨q1,q2⟩:=ZR.1 h
    have q3:=qF.1 q1
    rw [show fits p=true from qc7.2 (by omega)] at e2
    cases e2
   simp [this]
  | true =>
   simp
   refine qc.pure h3 rfl rfl ?_
   have:yV r p=decide ((r.x0≤p.x∧p.x≤r.x1)∧r.y0≤p.y∧p.y≤r.y1):=by
    rw [Bool.eq_iff_iff,ZR]
    simp [e]
   simp [this]
def qE (a b:Re):Bool:=qd a&&qd b&&decide (a.x0≤b.x1∧b.x0≤a.x1∧a.y0≤b.y1∧b.y0≤a.y1)
theorem qbZ (a b:Re):PFn Tryz.prog 130 [a.v,b.v] (.sc (.bool (qE a b))):=by
 have h1:=Jc a
 have h2:=Jc b
 unfold qE
 unfold Re.v Re.cs at h1 h2 ⊢
 refine vwc (fn:=Tryz.f130) rfl (vwb ?_)
 simp only [Tryz.f130,ql]
 simp
 refine qc.pure h1 rfl rfl ?_
 cases e:qd a with
 | false=>simp
 | true =>
  simp
  refine qc.pure h2 rfl rfl ?_
  cases e2:qd b with
  | false=>simp
  | true =>
   simp
   simp [gd]
   grind
def slR (xs:List Re):V := .sl xs.length 4 (xs.flatMap Re.cs)
theorem qbA (xs:List Re):V.closed (slR xs)=true:=by simp [slR,V.closed,zV (enc:=Re.cs) (fun _=>rfl)]
theorem qcH {xs:List Re} {k:Nat} (h:k<xs.length):AM.rowAt 4 (xs.flatMap Re.cs) (k:Int) = [.sc (.int .i64 xs[k].x0),.sc (.int .i64 xs[k].y0),.sc (.int .i64 xs[k].x1),.sc (.int .i64 xs[k].y1)]:=WA (enc:=Re.cs) (sz:=4) (fun _=>rfl) h
theorem qk4 (a b c d a' b' c' d':Int):eqT Tryz.prog 10 24 (.agg #[.int .i64 a,.int .i64 b,.int .i64 c,.int .i64 d]) (.agg #[.int .i64 a',.int .i64 b',.int .i64 c',.int .i64 d'])=some (a==a'&&(b==b'&&(c==c'&&(d==d'&&true)))):=by kernel_rfl
def reB (r:Re):Bk := .cells [.v (.sc (.int .i64 r.x0)),.v (.sc (.int .i64 r.y0)),.v (.sc (.int .i64 r.x1)),.v (.sc (.int .i64 r.y1))]
def inB (a b:Re):Bool:=qd a&&qd b&&decide (b.x0≤a.x0∧a.x1≤b.x1∧b.y0≤a.y0∧a.y1≤b.y1)
theorem shr_div {k:IntKind} {y i:Int} (hk:k = .i64∨k = .u64) (h:0≤y) (hi:0≤i) (h':i≤64):qkD k y i=y/2 ^ i.toNat:=by
 obtain ⟨n,rfl⟩:=Int.eq_ofNat_of_zero_le h
 obtain ⟨m,rfl⟩:=Int.eq_ofNat_of_zero_le hi
 rw [qh3 _ _ (by rcases hk with rfl | rfl <;> (show m≤64; omega))]
 simp
def slI (xs:List Int):V := .sl xs.length 1 (ints xs)
def JE (xs:List Int):SV := .own true 3 xs.length 1 (ints xs)
theorem ints_len (xs:List Int):(ints xs).length=xs.length:=by simp [ints]
theorem Kw {xs:List Int} {k:Nat} (h:k<xs.length):AM.rowAt 1 (ints xs) (k:Int) = [.sc (.int .i64 xs[k])]:=by
 unfold AM.rowAt ints
 rw [Int.toNat_natCast,Nat.mul_one,← List.map_drop,← List.map_take,List.drop_eq_getElem_cons h]
 rfl
theorem qa6:∀ xs:List Int,V.qA (ints xs)=true
 | []=>rfl
 | x::xs=>by
  have:=qa6 xs
  simpa [ints,V.qA,V.closed] using this
theorem J6 (xs:List Int):V.closed (slI xs)=true:=by simp [slI,V.closed,qa6]
end Go.Proofs.YtnconfggojpkcaaGreat
namespace Go.Proofs.YtnconfggojpkcaaGreat
open Go.RowKit AM
def Zv (h:Ce) (l:Int):Ce:=⟨l,h.x/two (h.l - l),h.y/two (h.l - l)⟩
def qbe (h:Ce) (l:Int):Ce×Bool:=if yj h&&decide (0≤l∧l≤h.l) then (Zv h l,true) else (.zero,false)
def QH (c h:Ce):Bool:=decide (c.l≤h.l∧Zv h c.l=c)
def qD (c:Ce) (i:Int):Ce:=⟨c.l+1,2*c.x+i%2,2*c.y+i/2⟩
def qaM (c h:Ce):Int:=(Zv h (c.l+1)).x%2+(Zv h (c.l+1)).y%2*2
theorem qly:two 0=1:=rfl
theorem qkz:two 1=2:=rfl
theorem qnP (h:Ce):Zv h h.l=h:=by
 unfold Zv
 simp [qly]
theorem JM {c h:Ce}:QH c h=true↔c.l≤h.l∧Zv h c.l=c:=by simp [QH]
theorem qhW {c h:Ce} (h1:QH c h=true) (h2:c≠h):c.l<h.l:=by
 obtain ⟨a,b⟩:=JM.1 h1
 rcases Int.lt_or_eq_of_le a with h3 | h3
 ·exact h3
 ·rw [h3,qnP] at b
  exact absurd b.symm h2
theorem qhD {n a b:Int} (ha:0≤a) (hb:0≤b):n/two a/two b=n/two (a+b):=by
 rw [Int.ediv_ediv_of_nonneg (by have:=two_pos a; omega),two_mul ha hb]
theorem qhq {h:Ce} {l k:Int} (h1:k≤l) (h2:l≤h.l):Zv (Zv h l) k=Zv h k:=by
 unfold Zv
 simp only
 rw [qhD (by omega) (by omega),qhD (by omega) (by omega),show h.l - l+(l - k)=h.l - k by omega]
theorem qoN (c h:Ce):0≤qaM c h∧qaM c h≤3:=by
 unfold qaM
 omega
theorem qmB {c h:Ce} (h1:c.l<h.l) (h2:Zv h c.l=c):Zv h (c.l+1)=qD c (qaM c h):=by
 have e:Zv (Zv h (c.l+1)) c.l=c:=by rw [qhq (by omega) (by omega),h2]
 unfold qD qaM
 generalize ha:Zv h (c.l+1)=a at *
 have hl:a.l=c.l+1:=by rw [← ha]; rfl
 obtain ⟨al,ax,ay⟩:=a
 simp only at *
 subst hl
 unfold Zv at e
 simp only [show c.l+1 - c.l=1 by omega,qkz] at e
 rw [← e]
 simp only [Ce.mk.injEq]
 refine ⟨trivial,?_,?_⟩ <;> omega
theorem qg4 {c h:Ce} (h1:QH c h=true) (h2:c≠h):QH (qD c (qaM c h)) h=true:=by
 have h3:=qhW h1 h2
 obtain ⟨_,h4⟩:=JM.1 h1
 exact JM.2 ⟨by simp only [qD]; omega,by rw [← qmB h3 h4]; rfl⟩
theorem qhl {c h:Ce} {i:Int} (hi:0≤i∧i≤3) (h1:QH (qD c i) h=true):QH c h=true∧c≠h∧qaM c h=i:=by
 obtain ⟨a,b⟩:=JM.1 h1
 have a':c.l+1≤h.l:=a
 have b':Zv h (c.l+1)=qD c i:=b
 refine ⟨JM.2 ⟨by omega,?_⟩,fun e => ?_,?_⟩
 ·rw [← qhq (h:=h) (l:=c.l+1) (by omega) a',b']
  unfold Zv qD
  simp only [show c.l+1 - c.l=1 by omega,qkz]
  obtain ⟨cl,cx,cy⟩:=c
  simp only [Ce.mk.injEq]
  refine ⟨trivial,?_,?_⟩ <;> omega
 ·subst e; omega
 ·unfold qaM
  rw [b']
  simp only [qD]
  omega
theorem Y7 {c:Ce} {i:Int} (hc:yj c=true) (hl:c.l<16) (hi:0≤i∧i≤3):yj (qD c i)=true:=by
 obtain ⟨h1,h2,h3,h4,h5⟩:=yI.1 hc
 have e:two (c.l+1)=two c.l*2:=by rw [two_mul h1.1 (by omega),qkz]
 rw [yI]
 simp only [qD]
 rw [e]
 generalize two c.l=t at *
 omega
theorem qkl {c:Ce} {i:Int} (hc:yj c=true) (hl:c.l<16):Xn c i=if 0≤i∧i≤3 then (qD c i,true) else (.zero,false):=by
 have:¬ c.l=16:=by omega
 simp [Xn,hc,this,qD]
theorem qhp {h:Ce} {l:Int} (hh:yj h=true) (h0:0≤l) (hl:l≤h.l):yj (Zv h l)=true:=by
 obtain ⟨h1,h2,h3,h4,h5⟩:=yI.1 hh
 have p:=two_pos (h.l - l)
 have e:two h.l=two l*two (h.l - l):=by rw [← two_mul h0 (by omega)]; congr 1; omega
 rw [e] at h4 h5
 rw [yI]
 refine ⟨⟨h0,by simp only [Zv]; omega⟩,Int.ediv_nonneg h2 (by omega),Int.ediv_nonneg h3 (by omega),Int.ediv_lt_of_lt_mul p h4,Int.ediv_lt_of_lt_mul p h5⟩
theorem qnO {h:Ce} (hh:yj h=true):Zv h 0=⟨0,0,0⟩:=by
 have h0:=(yI.1 hh).1.1
 have:=qhp hh (l:=0) (by omega) h0
 obtain ⟨h1,h2,h3,h4,h5⟩:=yI.1 this
 simp only [Zv] at *
 rw [qly] at h4 h5
 simp only [Ce.mk.injEq]
 refine ⟨trivial,?_,?_⟩ <;> omega
theorem qhV {h:Ce} (hh:yj h=true):QH ⟨0,0,0⟩ h=true:=JM.2 ⟨(yI.1 hh).1.1,qnO hh⟩
def Re.lo (r:Re):Pt:=⟨r.x0,r.y0⟩
def Re.hi (r:Re):Pt:=⟨r.x1,r.y1⟩
def X7 (r:Re):Nat→Nat
 | 0=>0
 | n+1=>if cellOf r.lo (n+1:Nat)=cellOf r.hi (n+1:Nat) then n+1 else X7 r n
def qet (r:Re):Ce:=cellOf r.lo (X7 r 16:Nat)
def qes (r:Re):Ce×Bool:=if qd r then (qet r,true) else (.zero,false)
theorem Zf {p:Pt} {l k:Int} (h0:k≤l) (hl:l≤16):Zv (cellOf p l) k=cellOf p k:=by
 unfold Zv cellOf side
 simp only
 rw [qhD (by omega) (by omega),qhD (by omega) (by omega),show 16 - l+(l - k)=16 - k by omega]
theorem qcV (r:Re):∀ n,X7 r n≤n
 | 0=>Nat.le_refl _
 | n+1=>by
  unfold X7
  split
  ·exact Nat.le_refl _
  ·exact Nat.le_succ_of_le (qcV r n)
theorem Xl {p:Pt} (h:fits p=true):cellOf p 0=⟨0,0,0⟩:=by
 unfold fits inside at h
 simp at h
 have e:side 0=65536:=by decide
 simp only [cellOf,e,Ce.mk.injEq]
 refine ⟨trivial,?_,?_⟩ <;> omega
theorem JH {r:Re} (h:qd r=true):fits r.lo=true∧fits r.hi=true:=by
 have:=qF.1 h
 unfold fits inside Re.lo Re.hi
 simp
 omega
theorem yU {p:Pt} (h:fits p=true) {l:Int} (h0:0≤l) (hl:l≤16):yj (cellOf p l)=true:=by
 unfold fits inside at h
 simp at h
 have e:two l*side l=65536:=by
  unfold side
  rw [← two_mul h0 (by omega),show l+(16 - l)=16 by omega]
  decide
 have hp:=VP l
 rw [yI]
 refine ⟨⟨h0,hl⟩,Int.ediv_nonneg h.1.1 (by omega),Int.ediv_nonneg h.2.1 (by omega),Int.ediv_lt_of_lt_mul hp (by show p.x<two l*side l; omega),Int.ediv_lt_of_lt_mul hp (by show p.y<two l*side l; omega)⟩
theorem qfy {r:Re} (h:qd r=true):yj (qet r)=true:=yU (JH h).1 (by omega) (by have:=qcV r 16; omega)
theorem cells_up {r:Re} {l k:Int} (h:cellOf r.lo l=cellOf r.hi l) (h0:k≤l) (hl:l≤16):cellOf r.lo k=cellOf r.hi k:=by
 rw [← Zf (p:=r.lo) h0 hl,h,Zf h0 hl]
theorem ql8 {r:Re} {n:Nat} (h1:∀ k:Nat,k≤n→cellOf r.lo k=cellOf r.hi k) (h2:n=16∨cellOf r.lo (n+1:Nat)≠cellOf r.hi (n+1:Nat)):∀ m,n≤m→m≤16→X7 r m=n
 | 0,h,_=>by
  have:n=0:=by omega
  subst this; rfl
 | m+1,h,hm=>by
  unfold X7
  split
  ·rename_i e
   rcases h2 with rfl | h2
   ·omega
   ·rcases Nat.lt_or_ge n (m+1) with h3 | h3
    ·exact absurd (cells_up (r:=r) (k:=(n+1:Nat)) e (by omega) (by omega)) h2
    ·omega
  ·rename_i e
   rcases Nat.lt_or_ge n (m+1) with h3 | h3
   ·exact ql8 h1 h2 m (by omega) (by omega)
   ·exact absurd (h1 (m+1) (by omega)) e
end Go.Proofs.YtnconfggojpkcaaGreat
namespace Go.Proofs.YtnconfggojpkcaaGreat
open Go.RowKit Go.ChangeShapes Go.WideShapes AM
section
variable {H:Type} {enc:TypeId×Value→H} {w:World} {base:Nat} {held:Bool} {r:Reach} {b0:Nat} {v:Value} {d:DataW H} {p:List MemPlace}
namespace Pt
def vals (a:Pt):List Value := [.int .i64 a.x,.int .i64 a.y]
end Pt
namespace Ce
def vals (a:Ce):List Value := [.int .i64 a.l,.int .i64 a.x,.int .i64 a.y]
end Ce
theorem ptLeaves:VT Tryz.prog 6 30=some [.int .i64,.int .i64]:=by kernel_rfl
theorem qkQ {cs:List Value} (h:Leaf.all [.int .i64,.int .i64] cs):∃ x:Pt,x.vals=cs:=by
 obtain ⟨a,_,rfl,_,h⟩:=Leaf.vB h
 obtain ⟨b,_,rfl,_,h⟩:=Leaf.vB h
 obtain rfl:=Leaf.all_nil h
 exact ⟨⟨a,b⟩,rfl⟩
end
end Go.Proofs.YtnconfggojpkcaaGreat
namespace Go.Proofs.YtnconfggojpkcaaGreat
open Go.RowKit Go.ChangeShapes Go.WideShapes AM
section
variable {H:Type} {enc:TypeId×Value→H} {w:World} {base:Nat} {held:Bool} {r:Reach} {b0:Nat} {v:Value} {d:DataW H} {p:List MemPlace}
namespace Re
def vals (a:Re):List Value := [.int .i64 a.x0,.int .i64 a.y0,.int .i64 a.x1,.int .i64 a.y1]
end Re
theorem qlW:VT Tryz.prog 6 24=some [.int .i64,.int .i64,.int .i64,.int .i64]:=by kernel_rfl
theorem qfO {cs:List Value} (h:Leaf.all [.int .i64,.int .i64,.int .i64,.int .i64] cs):∃ x:Re,x.vals=cs:=by
 obtain ⟨a,_,rfl,_,h⟩:=Leaf.vB h
 obtain ⟨b,_,rfl,_,h⟩:=Leaf.vB h
 obtain ⟨c,_,rfl,_,h⟩:=Leaf.vB h
 obtain ⟨e,_,rfl,_,h⟩:=Leaf.vB h
 obtain rfl:=Leaf.all_nil h
 exact ⟨⟨a,b,c,e⟩,rfl⟩
end
end Go.Proofs.YtnconfggojpkcaaGreat
namespace Go.Proofs.YtnconfggojpkcaaGreat
open Go.RowKit AM
attribute [local simp] zQ qU jL zT zq zR zS zo jM zu qV Z8 Qm jC Ql yc ZE vZ slF qG Qo zK yx zA shares jh yt ze Qz QI qY ZF qZ qM vX zH yu Qe qL zD zG vU slV jE jG yE zU ZJ jB jF aMM aUn Qp vW jD zC jA qJ vV Qu vY vS Zw y9 qK Qs ZK zJ zI jH jR ZH eval zZ AM.valOf qm vO yR del SV.refers zY vQ jU shift ldV V.exact V.jg V.ofValue V.vP V.vL V.cells V.one Value.oneCell' ZI QY jV Q5 ZM ZC Qa Zy jl jI Qi ZL y8 yX Qr calm Qt Zn Qk feeds shrinks Qx looks isT Qf vK Qd putAt jT jc Zm sliceB isEq Qg zk qH zO zn qR zl zm qQ zP zi qP ZW Qw yB Zl QZ inO y7 Zi Mix.vT Mix.Qc QB QX qz qj qW zh qO ZV Qq yg yh ZG Zb yw yO Q8 jW V.fixed V.vC
theorem hEqCe (a b c a' b' c':Int):eqT Tryz.prog 10 116 (.agg #[.int .i64 a,.int .i64 b,.int .i64 c]) (.agg #[.int .i64 a',.int .i64 b',.int .i64 c'])=some (a==a'&&(b==b'&&(c==c'&&true))):=by kernel_rfl
theorem qph:Tryz.prog.eqGuardType Tryz.prog.depth 116=false:=by kernel_rfl
theorem ce_eq {a b:Ce}:a=b↔a.l=b.l∧a.x=b.x∧a.y=b.y:=by
 cases a; cases b; simp
theorem qpi (p q:Ce):eqT Tryz.prog 10 116 (.agg #[.int .i64 p.l,.int .i64 p.x,.int .i64 p.y]) (.agg #[.int .i64 q.l,.int .i64 q.x,.int .i64 q.y])=some (decide (p=q)):=by
 rw [hEqCe]
 congr 1
 rw [Bool.eq_iff_iff,decide_eq_true_iff,ce_eq]
 simp
theorem qn9 {x n:Int} (h:0≤x) (h0:0≤n) (h1:n≤64):qkD .i64 x n=x/two n:=shr_div (.inl rfl) h h0 h1
theorem cAbove (h:Ce) (l:Int):PFn Tryz.prog 173 [h.v,.sc (.int .i64 l)] (.tup [(qbe h l).1.v,.sc (.bool (qbe h l).2)]):=by
 have hF:=qld h
 unfold Ce.v Ce.cs at hF ⊢
 refine vwc (fn:=Tryz.f173) rfl (vwb ?_)
 simp only [Tryz.f173,ql]
 simp
 refine qc.pure hF rfl rfl ?_
 cases h1:yj h
 ·simp [setCells,qo,qbe,h1,Ce.v,Ce.cs,Ce.zero]
 have hc:=yI.1 h1
 simp
 refine qc.pure (qlb _) rfl rfl ?_
 cases h2:vR l
 ·have:¬ (0≤l∧l≤h.l):=fun e=>by
   have:=zy.2 (show 0≤l∧l≤16 by omega)
   rw [h2] at this; cases this
  simp only [Classical.not_and_iff_not_or_not,Int.not_le] at this
  have e:(decide (0≤l)&&decide (l≤h.l))=false:=by simp; omega
  simp [setCells,qo,qbe,h1,e,Ce.v,Ce.cs,Ce.zero]
 have h3:=zy.1 h2
 simp
 by_cases h4:h.l<l
 ·have e:(decide (0≤l)&&decide (l≤h.l))=false:=by simp; omega
  simp [setCells,qo,qbe,h1,e,h4,Ce.v,Ce.cs,Ce.zero]
 have e:(decide (0≤l)&&decide (l≤h.l))=true:=by simp; omega
 have w1:IntKind.i64.wrap (h.l - l)=h.l - l:=by rw [wrap_i64] <;> omega
 have s1:qkD .i64 h.x (h.l - l)=h.x/two (h.l - l):=qn9 hc.2.1 (by omega) (by omega)
 have s2:qkD .i64 h.y (h.l - l)=h.y/two (h.l - l):=qn9 hc.2.2.1 (by omega) (by omega)
 have hn:¬ h.l - l<0:=by omega
 simp [setCells,qo,qbe,h1,e,h4,w1,hn,qiX,s1,s2,Ce.v,Ce.cs,Zv]
theorem cChild (c:Ce) (i:Int):PFn Tryz.prog 142 [c.v,.sc (.int .i64 i)] (.tup [(Xn c i).1.v,.sc (.bool (Xn c i).2)]):=by
 have hF:=qld c
 unfold Ce.v Ce.cs at hF ⊢
 refine vwc (fn:=Tryz.f142) rfl (vwb ?_)
 simp only [Tryz.f142,ql]
 simp
 refine qc.pure hF rfl rfl ?_
 cases h1:yj c
 ·simp [setCells,qo,Xn,h1,Ce.v,Ce.cs,Ce.zero]
 have h:=yI.1 h1
 have hb:=qmZ h.1.2
 simp
 by_cases h2:c.l=16
 ·simp [setCells,qo,Xn,h1,h2,Ce.v,Ce.cs,Ce.zero]
 have h2':(c.l==16)=false:=by simpa using h2
 simp [h2']
 by_cases h3:i<0
 ·have:¬ 0≤i:=by omega
  simp [setCells,qo,Xn,h1,h2,h3,this,Ce.v,Ce.cs,Ce.zero]
 simp [h3]
 by_cases h4:3<i
 ·have:¬ i≤3:=by omega
  simp [setCells,qo,Xn,h1,h2,h4,this,Ce.v,Ce.cs,Ce.zero]
 have h5:0≤i∧i≤3:=by omega
 have m1:=Int.emod_nonneg i (b:=2) (by decide)
 have m2:=Int.emod_lt_of_pos i (b:=2) (by decide)
 have w1:IntKind.i64.wrap (c.l+1)=c.l+1:=by rw [wrap_i64] <;> omega
 have w2:IntKind.i64.wrap (2*c.x)=2*c.x:=by rw [wrap_i64] <;> omega
 have w3:IntKind.i64.wrap (2*c.y)=2*c.y:=by rw [wrap_i64] <;> omega
 have w4:i.tmod 2=i%2:=Int.tmod_eq_emod_of_nonneg h5.1
 have w5:IntKind.i64.wrap (i.tdiv 2)=i/2:=by rw [Int.tdiv_eq_ediv_of_nonneg h5.1,wrap_i64] <;> omega
 have w6:IntKind.i64.wrap (2*c.x+i%2)=2*c.x+i%2:=by rw [wrap_i64] <;> omega
 have w7:IntKind.i64.wrap (2*c.y+i/2)=2*c.y+i/2:=by rw [wrap_i64] <;> omega
 simp [h4,Yi,KH,w1,w2,w3,w4,w5,w6,w7,setCells,qo,Xn,h1,h2,h5,Ce.v,Ce.cs]
theorem qlG {l n:Int} (h:0≤l) (h':l≤16) (hn:0≤n) (hn':n≤65536):shlI .i64 n (16 - l)=side l*n:=by
 obtain ⟨k,rfl⟩:=Int.eq_ofNat_of_zero_le h
 obtain ⟨m,rfl⟩:=Int.eq_ofNat_of_zero_le hn
 have e:16 - (k:Int)=((16 - k:Nat):Int):=by omega
 have hp:=Nat.pow_le_pow_right (n:=2) (by decide) (show 16 - k≤16 by omega)
 have e16:2 ^ 16=65536:=by decide
 have hm:m*2 ^ (16 - k)≤65536*65536:=Nat.mul_le_mul (by omega) (by omega)
 unfold side
 rw [e,qlH _ _ (by omega) (by omega),qn3]
 simp [Int.mul_comm]
theorem cFirst (l n:Int) (h:0≤l) (h':l≤16) (hn:0≤n) (hn':n≤65536):PFn Tryz.prog 116 [.sc (.int .i64 l),.sc (.int .i64 n)] (.sc (.int .i64 (side l*n))):=by
 refine vwc (fn:=Tryz.f116) rfl (vwb ?_)
 simp only [Tryz.f116,ql]
 simp
 refine qc.pure (qnJ l h h') rfl rfl ?_
 have:¬ 16 - l<0:=by omega
 simp [qiY,this,qlG h h' hn hn']
theorem cLast (l n:Int) (h:0≤l) (h':l≤16) (hn:0≤n) (hn':n<65536) (hb:side l*n+side l≤65536) (hb0:0≤side l*n):PFn Tryz.prog 117 [.sc (.int .i64 l),.sc (.int .i64 n)] (.sc (.int .i64 (side l*n+side l - 1))):=by
 refine vwc (fn:=Tryz.f117) rfl (vwb ?_)
 simp only [Tryz.f117,ql]
 have w1:IntKind.i64.wrap (n+1)=n+1:=by rw [wrap_i64] <;> omega
 simp [w1]
 refine qc.pure (qnJ l h h') rfl rfl ?_
 have:¬ 16 - l<0:=by omega
 have s1:=qlG h h' (n:=n+1) (by omega) (by omega)
 rw [Int.mul_add,Int.mul_one] at s1
 have hp:=VP l
 have w2:IntKind.i64.wrap (side l*n+side l - 1)=side l*n+side l - 1:=by rw [wrap_i64] <;> omega
 simp [qiY,this,s1,w2]
theorem qiV (c:Ce):PFn Tryz.prog 64 [c.v] (.tup [(JD c).1.v,.sc (.bool (JD c).2)]):=by
 have hF:=qld c
 unfold Ce.v Ce.cs at hF ⊢
 refine vwc (fn:=Tryz.f64) rfl ?_
 simp only [Tryz.f64,ql]
 refine AW.seq (vwb ?_)
 simp
 refine AW.seq (vwb ?_)
 simp
 refine qc.pure hF rfl rfl ?_
 cases h1:yj c
 ·simp [setCells,qo,JD,h1,Re.v,Re.cs,Re.zero]
 have h:=yI.1 h1
 have hb:=qgT h1
 have ht:=qmZ h.1.2
 simp
 refine AW.seq (vwb ?_)
 simp
 refine AW.seq (vwb ?_)
 simp
 refine qc.pure (cPair _ _ _ _ _ _ (cFirst c.l c.x h.1.1 h.1.2 h.2.1 (by omega)) (cFirst c.l c.y h.1.1 h.1.2 h.2.2.1 (by omega))) rfl rfl ?_
 simp
 refine AW.seq (vwb ?_)
 simp
 refine qc.pure (cPair _ _ _ _ _ _ (cLast c.l c.x h.1.1 h.1.2 h.2.1 (by omega) hb.1.2 hb.1.1) (cLast c.l c.y h.1.1 h.1.2 h.2.2.1 (by omega) hb.2.2 hb.2.1)) rfl rfl ?_
 simp
 refine vwb ?_
 simp [setCells,qo,JD,h1,Re.v,Re.cs,jy]
theorem gBothHas (r b:Re):PFn Tryz.prog 95 [r.v,.fn (.func 154) [b.v] []] (.sc (.bool (decide (b.x0≤r.x0∧r.x0≤b.x1∧b.y0≤r.y0∧r.y0≤b.y1)&&decide (b.x0≤r.x1∧r.x1≤b.x1∧b.y0≤r.y1∧r.y1≤b.y1)))):=by
 have h1:=gLow r
 have h2:=gHigh r
 have h3:=qk2 b ⟨r.x0,r.y0⟩
 have h4:=qk2 b ⟨r.x1,r.y1⟩
 simp only [and_assoc] at h3 h4
 unfold Re.v Re.cs at h1 h2 h3 h4 ⊢
 unfold Pt.v Pt.cs at h1 h2 h3 h4
 generalize decide (b.x0≤r.x0∧r.x0≤b.x1∧b.y0≤r.y0∧r.y0≤b.y1)=d1 at *
 generalize decide (b.x0≤r.x1∧r.x1≤b.x1∧b.y0≤r.y1∧r.y1≤b.y1)=d2 at *
 refine vwc (fn:=Tryz.f95) rfl (vwb ?_)
 simp only [Tryz.f95,ql]
 simp
 refine qc.pure h1 rfl rfl ?_
 simp
 refine qc.pure h3 rfl rfl ?_
 cases d1 with
 | false=>simp
 | true =>
  simp
  refine qc.pure h2 rfl rfl ?_
  simp
  refine qc.pure h4 rfl rfl ?_
  simp
theorem inB_of {a b:Re} (ha:qd a=true) (hb:qd b=true):(decide (b.x0≤a.x0∧a.x0≤b.x1∧b.y0≤a.y0∧a.y0≤b.y1)&&decide (b.x0≤a.x1∧a.x1≤b.x1∧b.y0≤a.y1∧a.y1≤b.y1))=inB a b:=by
 have h1:=qF.1 ha
 have h2:=qF.1 hb
 rw [Bool.eq_iff_iff]
 simp only [inB,ha,hb,Bool.true_and,Bool.and_eq_true,decide_eq_true_iff]
 omega
theorem gIn (a b:Re):PFn Tryz.prog 118 [a.v,b.v] (.sc (.bool (inB a b))):=by
 have h1:=Jc a
 have h2:=Jc b
 have h3:=gBothHas a b
 have h4:=inB_of (a:=a) (b:=b)
 cases e:qd a with
 | false =>
  have:inB a b=false:=by simp [inB,e]
  rw [this]
  rw [e] at h1
  unfold Re.v Re.cs at h1 ⊢
  refine vwc (fn:=Tryz.f118) rfl (vwb ?_)
  simp only [Tryz.f118,ql]
  simp
  refine qc.pure h1 rfl rfl ?_
  simp
 | true =>
  rw [e] at h1
  cases e2:qd b with
  | false =>
   have:inB a b=false:=by simp [inB,e2]
   rw [this]
   rw [e2] at h2
   unfold Re.v Re.cs at h1 h2 ⊢
   refine vwc (fn:=Tryz.f118) rfl (vwb ?_)
   simp only [Tryz.f118,ql]
   simp
   refine qc.pure h1 rfl rfl ?_
   simp
   refine qc.pure h2 rfl rfl ?_
   simp
  | true =>
   rw [e2] at h2
   rw [h4 e e2] at h3
   unfold Re.v Re.cs at h1 h2 h3 ⊢
   refine vwc (fn:=Tryz.f118) rfl (vwb ?_)
   simp only [Tryz.f118,ql]
   simp
   refine qc.pure h1 rfl rfl ?_
   simp
   refine qc.pure h2 rfl rfl ?_
   simp
   refine qc.pure h3 rfl rfl ?_
   simp
def ceB (c:Ce):Bk := .cells [.v (.sc (.int .i64 c.l)),.v (.sc (.int .i64 c.x)),.v (.sc (.int .i64 c.y))]
def homeK (r:Re) (k:Nat):Ce:=if k=0 then ⟨0,0,0⟩ else cellOf r.lo ((k - 1:Nat):Int)
def HomeI (r:Re) (k:Nat) (F:Fr) (H:List Bk):Prop:=(∀ j:Nat,j<k→cellOf r.lo j=cellOf r.hi j)∧∃ L h,h=homeK r k∧H=reB r::ceB ⟨0,0,0⟩::ceB h::L ∧
 F = [(1,.v (.ptr 0 0)),(2,.v (.ptr 1 0)),(4,.v (.ptr 2 0)),(11,.v (.sc (.int .i64 k)))]
theorem cHome (r:Re):PFn Tryz.prog 92 [r.v] (.tup [(qes r).1.v,.sc (.bool (qes r).2)]):=by
 have hR:=Jc r
 have hlo:=cof r.lo
 have hhi:=cof r.hi
 unfold Re.v Re.cs at hR ⊢
 unfold Pt.v Pt.cs at hlo hhi
 simp only [Re.lo,Re.hi] at hlo hhi
 refine vwc (fn:=Tryz.f92) rfl ?_
 simp only [Tryz.f92,ql]
 refine AW.seq (vwa [(8,8,[1,5,6])] ?_)
 simp
 refine AW.scope ?_
 refine AW.seq (vwa [(8,8,[1,5,6])] ?_)
 simp
 refine qc.pure hR rfl rfl ?_
 cases h1:qd r
 ·simp [Zh,setCells,qo,qes,h1,Ce.v,Ce.cs,Ce.zero]
 have hr:=qF.1 h1
 simp
 refine AW.seq (vwa [(8,8,[1,5,6])] ?_)
 simp
 refine AW.seq (vwa [(8,8,[1,5,6])] ?_)
 simp
 refine AW.seq (AW.seq (vwa [(8,8,[1,5,6])] ?_))
 simp
 refine AW.block ?_
 refine AW.count 17 (HomeI r) ⟨_,?_,by simp,[],⟨0,0,0⟩,rfl,rfl,rfl⟩ ?_
 ·simp [qz,qj,qm]
 rintro k F H hk ⟨heq,L,h,hh,rfl,rfl⟩
 have done:∀ n:Nat,k=n+1→(n=16∨cellOf r.lo (n+1:Nat)≠cellOf r.hi (n+1:Nat))→qes r=(h,true):=fun n hn h2=>by
  have hle:n≤16:=by omega
  have:=ql8 (r:=r) (n:=n) (fun j hj=>heq j (by omega)) h2 16 hle (Nat.le_refl _)
  simp [qes,h1,qet,this,hh,homeK,hn]
 refine AW.seq (vwa [(8,8,[1,5,6])] ?_)
 by_cases hlt:k<17
 ·have hlt':(k:Int)<17:=by omega
  have w1:IntKind.i64.wrap ((k:Int)+1)=(k:Int)+1:=by rw [wrap_i64] <;> omega
  unfold reB ceB
  simp [hlt']
  refine AW.seq (vwa [(8,8,[1,5,6])] ?_)
  simp [hlt']
  refine AW.seq (AW.block (AW.seq (vwa [(8,8,[1,5,6])] ?_)))
  simp
  refine AW.seq (vwa [(8,8,[1,5,6])] ?_)
  simp
  refine qc.pure (hlo k (by omega) (by omega) (by omega) (by omega)) rfl rfl ?_
  unfold Ce.v Ce.cs
  simp [setCells,qo]
  refine AW.seq (vwa [(8,8,[1,5,6])] ?_)
  simp
  refine qc.pure (hhi k (by omega) (by omega) (by omega) (by omega)) rfl rfl ?_
  unfold Ce.v Ce.cs
  simp only [Re.lo,Re.hi] at heq done
  have hz:k=0→cellOf ⟨r.x0,r.y0⟩ k=cellOf ⟨r.x1,r.y1⟩ k:=fun e=>by
   subst e
   exact (Xl (JH h1).1).trans (Xl (JH h1).2).symm
  by_cases he:cellOf ⟨r.x0,r.y0⟩ k=cellOf ⟨r.x1,r.y1⟩ k
  ·simp [qpi,qph,he]
   refine vwa [(8,8,[1,5,6])] ?_
   simp [setCells,qo]
   refine vwa [(8,8,[1,5,6])] ?_
   simp [w1]
   refine ⟨hlt,_,?_,fun j hj => ?_,L ++ [ceB (cellOf r.hi k)],cellOf r.hi k,?_,rfl,rfl⟩
   ·simp [qz,qj,qm]
   ·rcases Nat.lt_or_ge j k with h | h
    ·exact heq j h
    ·have:j=k:=by omega
     subst this; exact he
   ·simp [homeK,Re.lo,Re.hi,he]
  ·have he':¬ cellOf ⟨r.x1,r.y1⟩ k=cellOf ⟨r.x0,r.y0⟩ k:=fun e=>he e.symm
   have hk0:k≠0:=fun e=>he (hz e)
   have hd:=done (k - 1) (by omega) (.inr (by rw [show k - 1+1=k by omega]; exact he))
   simp [qpi,qph,he']
   refine vwa [(8,8,[1,5,6])] ?_
   simp [setCells,qo,Zh,hd]
 ·have hlt':¬ (k:Int)<17:=by omega
  have hd:=done 16 (by omega) (.inl rfl)
  unfold reB ceB
  simp [hlt']
  refine vwa [(8,8,[1,5,6])] ?_
  simp
  refine vwa [(8,8,[1,5,6])] ?_
  simp [setCells,qo,Zh,hd,Ce.v,Ce.cs]
theorem Qj {c:Ce} (h:yj c=true):qd (jy c)=true:=by
 have:=qgT h
 have hp:=VP c.l
 rw [qF]
 simp only [jy]
 omega
theorem cWay (c h:Ce) (hh:yj h=true) (h0:0≤c.l) (hl:c.l<h.l):PFn Tryz.prog 141 [c.v,h.v] (.sc (.int .i64 (qaM c h))):=by
 have hA:=cAbove h (c.l+1)
 have hc:=yI.1 hh
 have ha:qbe h (c.l+1)=(Zv h (c.l+1),true):=by
  have e:(decide (0≤c.l+1)&&decide (c.l+1≤h.l))=true:=by simp; omega
  simp [qbe,hh,e]
 have hw:qaM c h=(Zv h (c.l+1)).x%2+(Zv h (c.l+1)).y%2*2:=rfl
 have hr:=yI.1 (qhp hh (l:=c.l+1) (by omega) (by omega))
 rw [ha] at hA
 rw [hw]
 generalize Zv h (c.l+1)=a at *
 unfold Ce.v Ce.cs at hA ⊢
 have w1:IntKind.i64.wrap (c.l+1)=c.l+1:=by rw [wrap_i64] <;> omega
 have q1:=Int.emod_nonneg a.x (b:=2) (by decide)
 have q2:=Int.emod_lt_of_pos a.x (b:=2) (by decide)
 have q3:=Int.emod_nonneg a.y (b:=2) (by decide)
 have q4:=Int.emod_lt_of_pos a.y (b:=2) (by decide)
 have t1:a.x.tmod 2=a.x%2:=Int.tmod_eq_emod_of_nonneg (by omega)
 have t2:a.y.tmod 2=a.y%2:=Int.tmod_eq_emod_of_nonneg (by omega)
 have w2:IntKind.i64.wrap (a.y%2*2)=a.y%2*2:=by rw [wrap_i64] <;> omega
 have w3:IntKind.i64.wrap (a.x%2+a.y%2*2)=a.x%2+a.y%2*2:=by rw [wrap_i64] <;> omega
 refine vwc (fn:=Tryz.f141) rfl (vwb ?_)
 simp only [Tryz.f141,ql]
 simp [w1]
 refine qc.pure hA rfl rfl ?_
 simp [setCells,qo,KH,t1,t2,w2,w3]
end Go.Proofs.YtnconfggojpkcaaGreat
namespace Go.Proofs.YtnconfggojpkcaaGreat
open Go.RowKit AM
structure Sh where
 id:Int
 box:Re
 lab:Int
 deriving DecidableEq,Inhabited
namespace Sh
def cs (s:Sh):List V := [.sc (.int .i64 s.id),.sc (.int .i64 s.box.x0),.sc (.int .i64 s.box.y0),.sc (.int .i64 s.box.x1),.sc (.int .i64 s.box.y1),.sc (.int .i64 s.lab)]
def v (s:Sh):V := .agg s.cs
def zero:Sh:=⟨0,⟨0,0,0,0⟩,0⟩
end Sh
def hm (s:Sh):Ce:=qet s.box
def J5 (s:Sh):Value×V:=(.int .i64 s.id,s.v)
def XB (k:Int):List Sh→Nat→Option (Nat×Sh)
 | [],_=>none
 | e::es,i=>if k=e.id then some (i,e) else XB k es (i+1)
theorem KL {k:Int}:∀ {es:List Sh} {i:Nat},qcp (.int .i64) (.int .i64 k) (es.map J5) i=some ((XB k es i).map fun p=>(p.1,p.2.v))
 | [],i=>rfl
 | e::es,i=>by
  have:Instr.sameNow (.int .i64) (.int .i64 k) (.int .i64 e.id)=some (k==e.id):=rfl
  simp only [List.map_cons,J5,qcp,XB,this]
  by_cases h:k=e.id
  ·simp [h]
  ·have:(k==e.id)=false:=by simpa using h
   rw [this,if_neg h]
   exact KL
theorem qfh {k:Int}:∀ {es:List Sh} {i:Nat},(∀ e∈es,e.id≠k)→XB k es i=none
 | [],_,_=>rfl
 | e::es,i,h=>by
  unfold XB
  rw [if_neg (fun e'=>h e (by simp) e'.symm)]
  exact qfh fun x hx=>h x (by simp [hx])
theorem qdi {s:Sh}:∀ {es:List Sh} {i:Nat},s∈es→(es.map Sh.id).Nodup→∃ j,XB s.id es i=some (i+j,s)∧es.eraseIdx j=es.filter fun t => !decide (t.id=s.id)
 | e::es,i,h,hn=>by
  rw [List.map_cons,List.nodup_cons] at hn
  unfold XB
  by_cases he:s.id=e.id
  ·have hs:s=e:=by
    rcases List.mem_cons.1 h with h | h
    ·exact h
    ·exact absurd (List.mem_map.2 ⟨s,h,he⟩) hn.1
   subst hs
   refine ⟨0,by simp,?_⟩
   rw [List.eraseIdx_cons_zero,List.filter_cons]
   simp only [decide_true,Bool.not_true,Bool.false_eq_true,if_false]
   refine (List.filter_eq_self.2 fun x hx => ?_).symm
   have:x.id≠s.id:=fun e=>hn.1 (List.mem_map.2 ⟨x,hx,e⟩)
   simpa using this
  ·rw [if_neg he]
   have hm:s∈es:=by
    rcases List.mem_cons.1 h with rfl | h
    ·exact absurd rfl he
    ·exact h
   obtain ⟨j,h1,h2⟩:=qdi (i:=i+1) hm hn.2
   refine ⟨j+1,by rw [h1]; congr 2; omega,?_⟩
   rw [List.eraseIdx_cons_succ,h2,List.filter_cons,if_pos]
   simpa using fun e=>he e.symm
theorem qjB {k:Int} {s:Sh}:∀ {es:List Sh} {i j:Nat},XB k es i=some (j,s)→s∈es∧s.id=k
 | e::es,i,j,h=>by
  unfold XB at h
  by_cases he:k=e.id
  ·rw [if_pos he] at h
   cases h
   exact ⟨by simp,he.symm⟩
  ·rw [if_neg he] at h
   obtain ⟨h1,h2⟩:=qjB h
   exact ⟨by simp [h1],h2⟩
theorem qjA {k:Int}:∀ {es:List Sh} {i:Nat},XB k es i=none→∀ e∈es,e.id≠k
 | [],_,_,_,h=>by cases h
 | e::es,i,h,x,hx=>by
  unfold XB at h
  by_cases he:k=e.id
  ·rw [if_pos he] at h; cases h
  ·rw [if_neg he] at h
   rcases List.mem_cons.1 hx with rfl | hx
   ·exact fun e'=>he e'.symm
   ·exact qjA h x hx
def Kp (I:Nat→Prop) (H H':List Bk):Prop:=∀ i b,¬ I i→H[i]? = some b→(∀ n l cu,b ≠ .iter n l cu)→H'[i]? = some b
section
variable {I J:Nat→Prop} {H H1 H2:List Bk}
theorem Kp.refl:Kp I H H:=fun _ _ _ h _=>h
theorem Kp.trans (h:Kp I H H1) (h1:Kp I H1 H2):Kp I H H2:=fun i b hi hb hn=>h1 i b hi (h i b hi hb hn) hn
theorem Kp.weak (h:Kp I H H1) (hs:∀ x,I x→J x):Kp J H H1:=fun i b hi hb hn=>h i b (fun e=>hi (hs i e)) hb hn
theorem hget {L:List Bk} {i:Nat} {b:Bk} (h:H[i]? = some b):(H++L)[i]? = some b:=by
 rw [List.getElem?_append_left (List.getElem?_eq_some_iff.1 h).1]
 exact h
theorem Kp.app {L:List Bk} (h:Kp I H H1):Kp I H (H1++L):=fun i b hi hb hn=>hget (h i b hi hb hn)
theorem Kp.set {m:Nat} {k:Bk} (h:Kp I H H1) (hm:I m):Kp I H (H1.set m k):=fun i b hi hb hn=>by
 rw [List.getElem?_set_ne (by rintro rfl; exact hi hm)]
 exact h i b hi hb hn
theorem qeu {m i:Nat} {b:Bk} (h:H[i]? = some b) (hn:∀ n l cu,b ≠ .iter n l cu):(Zk m H)[i]? = some b:=by
 unfold Zk
 rw [List.getElem?_map,h]
 cases b with
 | iter n l cu=>exact absurd rfl (hn n l cu)
 | _=>rfl
theorem Wn {m:Nat}:(Zk m H).length=H.length:=by simp [Zk]
theorem Kp.killed {m:Nat} {k:Bk} (h:Kp I H H1) (hm:I m):Kp I H ((Zk m H1).set m k):=fun i b hi hb hn=>by
 rw [List.getElem?_set_ne (by rintro rfl; exact hi hm)]
 exact qeu (h i b hi hb hn) hn
theorem Kp.new (h:Kp (fun x=>I x∨H.length≤x) H H1):Kp I H H1:=fun i b hi hb hn=>h i b (by
 rintro (h | h)
 ·exact hi h
 ·have:=(List.getElem?_eq_some_iff.1 hb).1
  omega) hb hn
theorem Kp.cells {i:Nat} {cs:List SV} (h:Kp I H H1) (hi:¬ I i) (hb:H[i]? = some (.cells cs)):H1[i]? = some (.cells cs):=h i _ hi hb fun _ _ _ e=>by cases e
theorem Kp.map {i:Nat} {es:List (Value×V)} (h:Kp I H H1) (hi:¬ I i) (hb:H[i]? = some (.map es)):H1[i]? = some (.map es):=h i _ hi hb fun _ _ _ e=>by cases e
end
def JC:Option Nat→V
 | none => .sc (.pointer none)
 | some b => .ptr b 0
def Zc (c:Ce) (k:Nat→Option Nat) (n m:Nat):List SV := [.v (.sc (.int .i64 c.l)),.v (.sc (.int .i64 c.x)),.v (.sc (.int .i64 c.y)),.v (JC (k 0)),.v (JC (k 1)),.v (JC (k 2)),.v (JC (k 3)),.v (.sc (.int .i64 n)),.v (.map m)]
def at' (c:Ce) (S:List Sh):List Sh:=S.filter fun s=>decide (hm s=c)
def sub' (c:Ce) (S:List Sh):List Sh:=S.filter fun s=>QH c (hm s)
def Kd (N:List Sh→Nat→(Nat→Prop)→Prop) (S:List Sh) (k:Option Nat) (J:Nat→Prop):Prop:=(S = []∧k=none∧∀ x,¬ J x)∨(S ≠ []∧∃ b,k=some b∧N S b J)
def Nd (H:List Bk):Nat→Ce→List Sh→Nat→(Nat→Prop)→Prop
 | 0,_,_,_,_=>False
 | d+1,c,S,b,I=>∃ (m:Nat) (es:List Sh) (k:Nat→Option Nat) (J:Nat→Nat→Prop),
   H[b]? = some (.cells (Zc c k S.length m))∧H[m]? = some (.map (es.map J5))∧es.Perm (at' c S)∧(∀ x,I x↔x=b∨x=m∨∃ i,i<4∧J i x) ∧
   (∀ i,i<4→¬ J i b∧¬ J i m∧∀ j x,j<4→i≠j→J i x→¬ J j x) ∧
   ∀ i,i<4→Kd (Nd H d (qD c (i:Nat))) (sub' (qD c (i:Nat)) S) (k i) (J i)
theorem Nd.lt {H:List Bk}:∀ {d:Nat} {c:Ce} {S:List Sh} {b:Nat} {I:Nat→Prop},Nd H d c S b I→∀ x,I x→x<H.length∧∀ n l cu,H[x]? ≠ some (.iter n l cu)
 | 0,_,_,_,_,h,_,_=>h.elim
 | d+1,c,S,b,I,h,x,hx=>by
  obtain ⟨m,es,k,J,h1,h2,h3,h4,h5,h6⟩:=h
  rcases (h4 x).1 hx with rfl | rfl | ⟨i,hi,hj⟩
  ·exact ⟨(List.getElem?_eq_some_iff.1 h1).1,fun n l cu e=>by rw [h1] at e; cases e⟩
  ·exact ⟨(List.getElem?_eq_some_iff.1 h2).1,fun n l cu e=>by rw [h2] at e; cases e⟩
  ·rcases h6 i hi with ⟨_,_,h7⟩ | ⟨_,b',_,h7⟩
   ·exact absurd hj (h7 x)
   ·exact Nd.lt h7 x hj
theorem Nd.keep {H H':List Bk} {T:Nat→Prop} (hk:Kp T H H'):∀ {d:Nat} {c:Ce} {S:List Sh} {b:Nat} {I:Nat→Prop},Nd H d c S b I→(∀ x,I x→¬ T x)→Nd H' d c S b I
 | 0,_,_,_,_,h,_=>h
 | d+1,c,S,b,I,h,hT=>by
  obtain ⟨m,es,k,J,h1,h2,h3,h4,h5,h6⟩:=h
  refine ⟨m,es,k,J,hk.cells (hT b ((h4 b).2 (.inl rfl))) h1,hk.map (hT m ((h4 m).2 (.inr (.inl rfl)))) h2,h3,h4,h5,fun i hi => ?_⟩
  rcases h6 i hi with h7 | ⟨h7,b',h8,h9⟩
  ·exact .inl h7
  ·exact .inr ⟨h7,b',h8,Nd.keep hk h9 fun x hx=>hT x ((h4 x).2 (.inr (.inr ⟨i,hi,hx⟩)))⟩
theorem Nd.fresh {H:List Bk} {d:Nat} {c:Ce} {b m:Nat} (hd:0<d) (h1:H[b]? = some (.cells (Zc c (fun _=>none) 0 m))) (h2:H[m]? = some (.map [])) (hbm:b≠m):Nd H d c [] b fun x=>x=b∨x=m:=by
 cases d with
 | zero=>omega
 | succ d =>
  refine ⟨m,[],fun _=>none,fun _ _=>False,h1,h2,.nil,fun x => ?_,fun i hi=>⟨id,id,fun _ _ _ _ h=>h.elim⟩,fun i hi => .inl ⟨rfl,rfl,fun _ h=>h⟩⟩
  simp
theorem Xz {c:Ce} {s:Sh} {S:List Sh}:sub' c (s::S)=if QH c (hm s)=true then s::sub' c S else sub' c S:=by
 unfold sub'
 rw [List.filter_cons]
theorem qaH {c:Ce} {s:Sh} {S:List Sh}:at' c (s::S)=if hm s=c then s::at' c S else at' c S:=by
 unfold at'
 rw [List.filter_cons]
 simp
theorem Qh {c:Ce} {s:Sh} {i:Nat} (hi:i<4) (h:hm s=c):QH (qD c (i:Nat)) (hm s)=false:=by
 rw [Bool.eq_false_iff]
 intro e
 exact (qhl (i:=(i:Nat)) (by omega) e).2.1 h.symm
theorem JK {c h:Ce} {i:Nat} (hi:i<4) (hu:QH c h=true) (hne:c≠h):QH (qD c (i:Nat)) h=true↔qaM c h=(i:Nat):=by
 refine ⟨fun e=>(qhl (i:=(i:Nat)) (by omega) e).2.2,fun e => ?_⟩
 rw [← e]
 exact qg4 hu hne
theorem qeH (c h:Ce):∃ i:Nat,i<4∧qaM c h=(i:Nat):=by
 have:=qoN c h
 exact ⟨(qaM c h).toNat,by omega,by omega⟩
def qcc {α:Type} (f:Nat→α) (i:Nat) (x:α):Nat→α:=fun j=>if j=i then x else f j
theorem YH {α:Type} {f:Nat→α} {i:Nat} {x:α}:qcc f i x i=x:=by simp [qcc]
theorem VJ {α:Type} {f:Nat→α} {i j:Nat} {x:α} (h:j≠i):qcc f i x j=f j:=by simp [qcc,h]
theorem Nd.here {H H':List Bk} {d:Nat} {c:Ce} {S:List Sh} {s:Sh} {b m:Nat} {es:List Sh} {k:Nat→Option Nat} {J:Nat→Nat→Prop} {I:Nat→Prop}
  (h1:H'[b]? = some (.cells (Zc c k (S.length+1) m))) (h2:H'[m]? = some (.map ((es ++ [s]).map J5))) (h3:es.Perm (at' c S)) (h4:∀ x,I x↔x=b∨x=m∨∃ i,i<4∧J i x) (h5:∀ i,i<4→¬ J i b∧¬ J i m∧∀ j x,j<4→i≠j→J i x→¬ J j x)
  (h6:∀ i,i<4→Kd (Nd H d (qD c (i:Nat))) (sub' (qD c (i:Nat)) S) (k i) (J i)) (hk:Kp (fun x=>x=b∨x=m) H H') (hs:hm s=c):Nd H' (d+1) c (s::S) b I:=by
 refine ⟨m,es ++ [s],k,J,h1,h2,?_,h4,h5,fun i hi => ?_⟩
 ·rw [qaH,if_pos hs]
  exact List.perm_append_comm.trans (h3.cons s)
 ·rw [Xz,Qh hi hs]
  simp only [Bool.false_eq_true,if_false]
  rcases h6 i hi with h7 | ⟨h7,b',h8,h9⟩
  ·exact .inl h7
  ·refine .inr ⟨h7,b',h8,Nd.keep hk h9 fun x hx => ?_⟩
   rintro (rfl | rfl)
   ·exact (h5 i hi).1 hx
   ·exact (h5 i hi).2.1 hx
theorem Nd.below {H H':List Bk} {d:Nat} {c:Ce} {S:List Sh} {s:Sh} {b m i b':Nat} {es:List Sh} {k:Nat→Option Nat} {J:Nat→Nat→Prop} {I J':Nat→Prop}
  (h1:H'[b]? = some (.cells (Zc c (qcc k i (some b')) (S.length+1) m))) (h2:H'[m]? = some (.map (es.map J5))) (h3:es.Perm (at' c S)) (h4:∀ x,I x↔x=b∨x=m∨∃ i,i<4∧J i x) (h5:∀ i,i<4→¬ J i b∧¬ J i m∧∀ j x,j<4→i≠j→J i x→¬ J j x)
  (h6:∀ i,i<4→Kd (Nd H d (qD c (i:Nat))) (sub' (qD c (i:Nat)) S) (k i) (J i)) (hb:b<H.length) (hm':m<H.length) (hk:Kp (fun x=>x=b∨J i x) H H') (hi:i<4) (hu:QH c (hm s)=true) (hs:c≠hm s) (hw:qaM c (hm s)=(i:Nat))
  (hN:Nd H' d (qD c (i:Nat)) (s::sub' (qD c (i:Nat)) S) b' J') (hJ:∀ x,J' x→J i x∨H.length≤x):∃ I',Nd H' (d+1) c (s::S) b I'∧∀ x,I' x→I x∨H.length≤x:=by
 have hlt:∀ j x,j<4→J j x→x<H.length:=fun j x hj hx=>by
  rcases h6 j hj with ⟨_,_,h7⟩ | ⟨_,b',_,h7⟩
  ·exact absurd hx (h7 x)
  ·exact (Nd.lt h7 x hx).1
 refine ⟨fun x=>x=b∨x=m∨∃ j,j<4∧qcc J i J' j x,⟨m,es,qcc k i (some b'),qcc J i J',h1,h2,?_,fun x=>Iff.rfl,fun j hj => ?_,fun j hj => ?_⟩,fun x hx => ?_⟩
 ·rw [qaH,if_neg (Ne.symm hs)]
  exact h3
 ·have old:=h5 j hj
  have oldi:=h5 i hi
  by_cases e:j=i
  ·subst e
   rw [YH]
   refine ⟨fun hx => ?_,fun hx => ?_,fun j2 x hj2 hne hx => ?_⟩
   ·rcases hJ _ hx with h | h
    ·exact old.1 h
    ·omega
   ·rcases hJ _ hx with h | h
    ·exact old.2.1 h
    ·omega
   ·rw [VJ (Ne.symm hne)]
    intro hx2
    rcases hJ _ hx with h | h
    ·exact old.2.2 j2 x hj2 hne h hx2
    ·have:=hlt j2 x hj2 hx2
     omega
  ·rw [VJ e]
   refine ⟨old.1,old.2.1,fun j2 x hj2 hne hx => ?_⟩
   by_cases e2:j2=i
   ·subst e2
    rw [YH]
    intro hx2
    rcases hJ _ hx2 with h | h
    ·exact old.2.2 j2 x hj2 hne hx h
    ·have:=hlt j x hj hx
     omega
   ·rw [VJ e2]
    exact old.2.2 j2 x hj2 hne hx
 ·by_cases e:j=i
  ·subst e
   rw [YH,YH,Xz,if_pos ((JK hj hu hs).2 hw)]
   exact .inr ⟨by simp,b',rfl,hN⟩
  ·have hn:¬ QH (qD c (j:Nat)) (hm s)=true:=fun h=>e (by
    have:=(JK hj hu hs).1 h
    omega)
   rw [VJ e,VJ e,Xz,if_neg hn]
   rcases h6 j hj with h7 | ⟨h7,b2,h8,h9⟩
   ·exact .inl h7
   ·refine .inr ⟨h7,b2,h8,Nd.keep hk h9 fun x hx => ?_⟩
    rintro (rfl | h)
    ·exact (h5 j hj).1 hx
    ·exact (h5 j hj).2.2 i x hi e hx h
 ·rcases hx with rfl | rfl | ⟨j,hj,hx⟩
  ·exact .inl ((h4 _).2 (.inl rfl))
  ·exact .inl ((h4 _).2 (.inr (.inl rfl)))
  ·by_cases e:j=i
   ·subst e
    rw [YH] at hx
    rcases hJ x hx with h | h
    ·exact .inl ((h4 x).2 (.inr (.inr ⟨j,hj,h⟩)))
    ·exact .inr h
   ·rw [VJ e] at hx
    exact .inl ((h4 x).2 (.inr (.inr ⟨j,hj,hx⟩)))
def less (S:List Sh) (k:Int):List Sh:=S.filter fun t => !decide (t.id=k)
theorem qiy {S:List Sh} {k:Int} {c:Ce}:sub' c (less S k)=less (sub' c S) k:=by
 unfold sub' less
 rw [List.filter_filter,List.filter_filter]
 congr 1
 funext t
 exact Bool.and_comm _ _
theorem qoo {S:List Sh} {k:Int} {c:Ce}:at' c (less S k)=less (at' c S) k:=by
 unfold at' less
 rw [List.filter_filter,List.filter_filter]
 congr 1
 funext t
 exact Bool.and_comm _ _
theorem qeT {S:List Sh} {k:Int} (h:∀ t∈S,t.id≠k):less S k=S:=List.filter_eq_self.2 fun t ht=>by simpa using h t ht
theorem less_len {s:Sh} {S:List Sh} (h:s∈S) (hn:(S.map Sh.id).Nodup):(less S s.id).length+1=S.length:=by
 obtain ⟨j,h1,h2⟩:=qdi (i:=0) h hn
 have hj:j<S.length:=by
  have hlt:=h2
  rcases Nat.lt_or_ge j S.length with h | hge
  ·exact h
  ·rw [List.eraseIdx_of_length_le hge] at h2
   have hm:s∈S.filter fun t => !decide (t.id=s.id):=h2▸h
   simp at hm
 unfold less
 rw [← h2,List.length_eraseIdx_of_lt hj]
 omega
theorem qcO {S:List Sh} {p:Sh→Bool} (h:(S.map Sh.id).Nodup):((S.filter p).map Sh.id).Nodup:=List.Nodup.sublist (List.Sublist.map _ List.filter_sublist) h
theorem qcA {S:List Sh} (h:(S.map Sh.id).Nodup) {s t:Sh} (hs:s∈S) (ht:t∈S) (e:s.id=t.id):s=t:=by
 induction S with
 | nil=>cases hs
 | cons a S ih =>
  rw [List.map_cons,List.nodup_cons] at h
  rcases List.mem_cons.1 hs with h1 | h1 <;> rcases List.mem_cons.1 ht with h2 | h2
  ·rw [h1,h2]
  ·subst h1; exact absurd (List.mem_map.2 ⟨t,h2,e.symm⟩) h.1
  ·subst h2; exact absurd (List.mem_map.2 ⟨s,h1,e⟩) h.1
  ·exact ih h.2 h1 h2
theorem Nd.hence {H H':List Bk} {d:Nat} {c:Ce} {S:List Sh} {s:Sh} {b m:Nat} {es es':List Sh} {k:Nat→Option Nat} {J:Nat→Nat→Prop} {I:Nat→Prop}
  (h1:H'[b]? = some (.cells (Zc c k (less S s.id).length m))) (h2:H'[m]? = some (.map (es'.map J5))) (he:es'=less es s.id) (h3:es.Perm (at' c S)) (h4:∀ x,I x↔x=b∨x=m∨∃ i,i<4∧J i x) (h5:∀ i,i<4→¬ J i b∧¬ J i m∧∀ j x,j<4→i≠j→J i x→¬ J j x)
  (h6:∀ i,i<4→Kd (Nd H d (qD c (i:Nat))) (sub' (qD c (i:Nat)) S) (k i) (J i)) (hk:Kp (fun x=>x=b∨x=m) H H') (hs:hm s=c) (hS:s∈S) (hn:(S.map Sh.id).Nodup):Nd H' (d+1) c (less S s.id) b I:=by
 refine ⟨m,es',k,J,h1,h2,?_,h4,h5,fun i hi => ?_⟩
 ·rw [he,qoo]
  exact h3.filter _
 ·have e:sub' (qD c (i:Nat)) (less S s.id)=sub' (qD c (i:Nat)) S:=by
   rw [qiy]
   refine qeT fun t ht e => ?_
   obtain ⟨ht1,ht2⟩:=List.mem_filter.1 ht
   have:=qcA hn ht1 hS e
   subst this
   rw [Qh hi hs] at ht2
   cases ht2
  rw [e]
  rcases h6 i hi with h7 | ⟨h7,b',h8,h9⟩
  ·exact .inl h7
  ·refine .inr ⟨h7,b',h8,Nd.keep hk h9 fun x hx => ?_⟩
   rintro (rfl | rfl)
   ·exact (h5 i hi).1 hx
   ·exact (h5 i hi).2.1 hx
theorem Nd.off {H H':List Bk} {d:Nat} {c:Ce} {S:List Sh} {s:Sh} {b m i:Nat} {es:List Sh} {k:Nat→Option Nat} {ki:Option Nat} {J:Nat→Nat→Prop} {I J':Nat→Prop}
  (h1:H'[b]? = some (.cells (Zc c (qcc k i ki) (less S s.id).length m))) (h2:H'[m]? = some (.map (es.map J5))) (h3:es.Perm (at' c S)) (h4:∀ x,I x↔x=b∨x=m∨∃ i,i<4∧J i x) (h5:∀ i,i<4→¬ J i b∧¬ J i m∧∀ j x,j<4→i≠j→J i x→¬ J j x)
  (h6:∀ i,i<4→Kd (Nd H d (qD c (i:Nat))) (sub' (qD c (i:Nat)) S) (k i) (J i)) (hk:Kp (fun x=>x=b∨J i x) H H') (hi:i<4) (hu:QH c (hm s)=true) (hs:c≠hm s) (hw:qaM c (hm s)=(i:Nat)) (hS:s∈S) (hn:(S.map Sh.id).Nodup)
  (hN:Kd (Nd H' d (qD c (i:Nat))) (less (sub' (qD c (i:Nat)) S) s.id) ki J') (hJ:∀ x,J' x→J i x):∃ I',Nd H' (d+1) c (less S s.id) b I'∧∀ x,I' x→I x:=by
 refine ⟨fun x=>x=b∨x=m∨∃ j,j<4∧qcc J i J' j x,⟨m,es,qcc k i ki,qcc J i J',h1,h2,?_,fun x=>Iff.rfl,fun j hj => ?_,fun j hj => ?_⟩,fun x hx => ?_⟩
 ·rw [qoo]
  rw [qeT]
  ·exact h3
  ·intro t ht e
   obtain ⟨ht1,ht2⟩:=List.mem_filter.1 ht
   have:=qcA hn ht1 hS e
   subst this
   exact hs (by simpa using ht2:hm t=c).symm
 ·have old:=h5 j hj
  by_cases e:j=i
  ·subst e
   rw [YH]
   refine ⟨fun hx=>old.1 (hJ _ hx),fun hx=>old.2.1 (hJ _ hx),fun j2 x hj2 hne hx => ?_⟩
   rw [VJ (Ne.symm hne)]
   exact old.2.2 j2 x hj2 hne (hJ _ hx)
  ·rw [VJ e]
   refine ⟨old.1,old.2.1,fun j2 x hj2 hne hx => ?_⟩
   by_cases e2:j2=i
   ·subst e2
    rw [YH]
    exact fun hx2=>old.2.2 j2 x hj2 hne hx (hJ _ hx2)
   ·rw [VJ e2]
    exact old.2.2 j2 x hj2 hne hx
 ·by_cases e:j=i
  ·subst e
   rw [YH,YH,qiy]
   exact hN
  ·have en:sub' (qD c (j:Nat)) (less S s.id)=sub' (qD c (j:Nat)) S:=by
    rw [qiy]
    refine qeT fun t ht e' => ?_
    obtain ⟨ht1,ht2⟩:=List.mem_filter.1 ht
    have:=qcA hn ht1 hS e'
    subst this
    have:=(JK hj hu hs).1 ht2
    omega
   rw [VJ e,VJ e,en]
   rcases h6 j hj with h7 | ⟨h7,b2,h8,h9⟩
   ·exact .inl h7
   ·refine .inr ⟨h7,b2,h8,Nd.keep hk h9 fun x hx => ?_⟩
    rintro (rfl | h)
    ·exact (h5 j hj).1 hx
    ·exact (h5 j hj).2.2 i x hi e hx h
 ·rcases hx with rfl | rfl | ⟨j,hj,hx⟩
  ·exact (h4 _).2 (.inl rfl)
  ·exact (h4 _).2 (.inr (.inl rfl))
  ·by_cases e:j=i
   ·subst e
    rw [YH] at hx
    exact (h4 x).2 (.inr (.inr ⟨j,hj,hJ x hx⟩))
   ·rw [VJ e] at hx
    exact (h4 x).2 (.inr (.inr ⟨j,hj,hx⟩))
def KpA (I:Nat→Prop) (H H':List Bk):Prop:=∀ i b,¬ I i→H[i]? = some b→H'[i]? = some b
section
variable {I J:Nat→Prop} {H H1 H2:List Bk}
theorem KpA.refl:KpA I H H:=fun _ _ _ h=>h
theorem KpA.trans (h:KpA I H H1) (h1:KpA I H1 H2):KpA I H H2:=fun i b hi hb=>h1 i b hi (h i b hi hb)
theorem KpA.app {L:List Bk} (h:KpA I H H1):KpA I H (H1++L):=fun i b hi hb=>hget (h i b hi hb)
theorem KpA.set {m:Nat} {k:Bk} (h:KpA I H H1) (hm:I m):KpA I H (H1.set m k):=fun i b hi hb=>by
 rw [List.getElem?_set_ne (by rintro rfl; exact hi hm)]
 exact h i b hi hb
theorem KpA.V8 (h:KpA I H H1):Kp I H H1:=fun i b hi hb _=>h i b hi hb
theorem KpA.cells {i:Nat} {cs:List SV} (h:KpA I H H1) (hi:¬ I i) (hb:H[i]? = some (.cells cs)):H1[i]? = some (.cells cs):=h i _ hi hb
end
def VQ:Ce:=⟨0,0,0⟩
def NoB:Nat→Prop:=fun _=>False
end Go.Proofs.YtnconfggojpkcaaGreat
