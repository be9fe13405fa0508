/- A quadtree of points: each record is told; the places below a node are free; a merged node. -/
import Derived.Test.YtmjnffjacgjfmaaJd1
namespace Go.Proofs.Ytmjnffjacgjfmaa
set_option linter.all false
open Go.RowKit AM
set_option maxRecDepth 10000
attribute [local simp] aw_skip' aw_region' aw_seq' aw_cond' aw_block' aw_loop' aw_exit' aw_label' aw_ret' aops_nil' aops_cons' aop' aMove aAssign aPick aAlloc aBox aBuild slF aBuildSlice aLoad aLoadOwn aLoadS sharesAt shares sharedV aStore aStoreOwn isOwn delR aNilCheck aBin aMakeFunc aFieldAddr aField aIndexOp aIndex partV aIndexAddr aExtract aSliceOp aSlice slV aShrink aCallOp aCall' aInvoke' aLen aLenMap aDelete aMM aUn aConv aIface aAssert aMakeMap aLookup aMapUpdate aRange aNext aEntry entsOf keyB seekK aMakeSlice lookV aApp aAppendB aAppendF aAppend putK layK eval evalV AM.valOf getF putF setF del SV.refers cellsAt rootSV plains shift ldV V.exact V.exactL V.ofValue V.ofPart V.ofCell V.cells V.one Value.oneCell' fitB qSeq qBlock getB afin aret resVs resV resTmps shareF evalS tupV valsS valsV pickV calm calmB lenV useOf feeds shrinks stows looks isT newsV partsV fillV putAt zerosV fitsNil nilB sliceB isEq isNeq awx_skip' awx_region' awx_seq' awx_cond' awx_block' awx_loop' awx_exit' awx_label' awx_ret' xops_nil' xops_cons' xop' xload xcall' addO delO inO putD memB Mix.effB Mix.laysB keysF badK subW weakV zeroRow yops_nil' yops_cons' yop' yload yindex yfield ylen oldO dropO takeO oldL exactB V.fixed V.fixedL
attribute [local simp] awz_skip' awz_region' awz_seq' awz_cond' awz_block' awz_loop' awz_exit' awz_label' awz_ret' zops_nil' zops_cons' zop' zload zloadOwn zcall' zlenK z0 new0 remF old0 dltB
/-- A closure that is told records: what it keeps stands at block o. -/
structure Tells (g : FuncId) (first cap : List V) (o : Nat) (Tl : List Pr → Bk → Prop) : Prop where
  tell : ∀ (told : List Pr) (bk : Bk) (H : List Bk) (rc : Pr), H[o]? = some bk → Tl told bk → told.length ≤ 1000000000000 → AFn Try.prog g (first ++ [rc.v] ++ cap) H fun y H' => KpA (fun x => x = o) H H' ∧ H.length ≤ H'.length ∧ ∃ bk', H'[o]? = some bk' ∧ Tl (told ++ [rc]) bk'
/-- The block of a node that is looked at. -/
def ndB (q : Qn) : Bk := .cells [.v (.sc (.int .i64 q.c.l)), .v (.sc (.int .i64 q.c.x)), .v (.sc (.int .i64 q.c.y)), .v (.sc (.int .i64 q.k0)), .v (.sc (.int .i64 q.k1)), .v (.sc (.int .i64 q.k2)), .v (.sc (.int .i64 q.k3)), .v (.sc (.int .i64 q.many)), .v (.sc (.bool q.split)), .v (lV q.l)]
def Told (H : List Bk) (o : Nat) (Tl : List Pr → Bk → Prop) (L : List Pr) (H1 : List Bk) : Prop := KpA (fun x => x = o) H H1 ∧ H.length ≤ H1.length ∧ ∃ bk, H1[o]? = some bk ∧ Tl L bk
def EachI (H : List Bk) (r a o nd : Nat) (q : Qn) (fv : V) (Tl : List Pr → Bk → Prop) (told : List Pr) (i : Nat) (F : Fr) (H1 : List Bk) : Prop :=
  Told H o Tl (told ++ q.l.take i) H1 ∧ H1[nd]? = some (ndB q) ∧ F = [(0, .v (.ptr r 0)), (1, .v (.sc (.int .i64 a))), (2, .v fv), (6, .v (.ptr nd 0)), (19, .v (lV q.l)), (20, .v (.sc (.int .i64 q.l.length))), (21, .v (.sc (.int .i64 i)))]
theorem ndB_wk {L : List Bk} {q : Qn} : Wk (L ++ [.cells [.v (.sc (.int .i64 q.c.l)), .v (.sc (.int .i64 q.c.x)), .v (.sc (.int .i64 q.c.y)), .v (.sc (.int .i64 q.k0)), .v (.sc (.int .i64 q.k1)), .v (.sc (.int .i64 q.k2)), .v (.sc (.int .i64 q.k3)), .v (.sc (.int .i64 q.many)), .v (.sc (.bool q.split)), .v (.fs q.l.length 4 (q.l.flatMap Pr.cs))]]) (L ++ [ndB q]) := by
  have := Wk.cell (H := L ++ [.cells [.v (.sc (.int .i64 q.c.l)), .v (.sc (.int .i64 q.c.x)), .v (.sc (.int .i64 q.c.y)), .v (.sc (.int .i64 q.k0)), .v (.sc (.int .i64 q.k1)), .v (.sc (.int .i64 q.k2)), .v (.sc (.int .i64 q.k3)), .v (.sc (.int .i64 q.many)), .v (.sc (.bool q.split)), .v (.fs q.l.length 4 (q.l.flatMap Pr.cs))]]) (id := L.length) (off := 9) (x := .v (.fs q.l.length 4 (q.l.flatMap Pr.cs))) (y := .v (lV q.l)) (by simp; rfl) rfl ⟨rfl, fun c w r v hv => lV_weak _ _ _ _ hv⟩
  simpa [ndB] using this
theorem Told.trans {H H1 H2 : List Bk} {o : Nat} {Tl : List Pr → Bk → Prop} {L : List Pr} (h : KpA (fun x => x = o) H H1) (hl : H.length ≤ H1.length) (k : Told H1 o Tl L H2) : Told H o Tl L H2 := ⟨h.trans k.1, by have := k.2.1; omega, k.2.2⟩
/-- The kids, one by one. -/
def EachK (H : List Bk) (r a o : Nat) (A : List Qn) (n : Nat) (q : Qn) (fv : V) (Tl : List Pr → Bk → Prop) (told : List Pr) (i : Nat) (F : Fr) (H1 : List Bk) : Prop :=
  ∃ Lk, runs (kidDo q fun u a' => (eachF A n a').map (u ++ ·)) q.l i = some Lk ∧ Told H o Tl (told ++ Lk) H1 ∧
    F = [(0, .v (.ptr r 0)), (1, .v (.sc (.int .i64 a))), (2, .v fv), (32, .v (.agg [.sc (.int .i64 q.k0), .sc (.int .i64 q.k1), .sc (.int .i64 q.k2), .sc (.int .i64 q.k3)])), (33, .v (.sc (.int .i64 i)))]
set_option maxHeartbeats 4000000 in
theorem weach {g : FuncId} {first cap' : List V} {o : Nat} {Tl : List Pr → Bk → Prop} (hg : Tells g first cap' o Tl) {b nb mb cap r : Nat} {s : Ar} {es : List Pr} (hor : o ≠ r) (hon : o ≠ nb) (hom : o ≠ mb) :
    ∀ (n a : Nat) (H : List Bk) (told L : List Pr) (bk : Bk), TrA H r b nb mb cap s es → H[o]? = some bk → Tl told bk → eachF s.A n a = some L → told.length + L.length ≤ 1000000000000 →
    AFn Try.prog 71 [.ptr r 0, .sc (.int .i64 a), .fn (.func g) first cap'] H fun y H' => Told H o Tl (told ++ L) H' := by
  intro n
  induction n with
  | zero => intro a H told L bk _ _ _ h; cases h
  | succ n ih =>
  intro a H told L bk hT ho htl hL hlen
  obtain ⟨n', q, hn', hq, hok, hcase⟩ := eachF_some hL
  cases hn'
  obtain ⟨hc, hm1, hm2, hl⟩ := hok
  have hc0 := hT.cap0 hq
  have hr := hT.cr
  have hn := hT.cn hc0
  have hal := (List.getElem?_eq_some_iff.1 hq).1
  unfold trC at hr
  obtain ⟨t0, d0⟩ := drop_cell hq ((cap - s.A.length) * 10)
  refine AFn.intro (fn := Try.f71) (by kernel_rfl) rfl (by kernel_rfl) (by simp) ?_
  simp only [Try.f71, argsF]
  refine AW.mid (fun F H1 => F = [(0, .v (.ptr r 0)), (1, .v (.sc (.int .i64 a))), (2, .v (.fn (.func g) first cap')), (6, .v (.ptr H.length 0))] ∧ Wk H1 (H ++ [ndB q])) (AW.ofx [] mixed (by kernel_rfl) ?_) ?_
  · by_cases hql : q.full = true
    · simp only [hql, lC_fs] at d0
      simp [hr, hn, hal, d0]
      rw [setCells_last rfl]
      refine ⟨_, ?_, rfl, ndB_wk⟩
      simp [subW, weakV, getF]
    · have hql : q.full = false := by simpa using hql
      simp only [hql, lC_own] at d0
      simp [hr, hn, hal, d0]
      rw [setCells_last rfl]
      refine ⟨_, ?_, rfl, Wk.refl _⟩
      simp [subW, weakV, getF]
  · rintro F H1 ⟨rfl, hwk⟩
    refine AW.wk hwk ?_
    have hol := (List.getElem?_eq_some_iff.1 ho).1
    have hnd : (H ++ [ndB q])[H.length]? = some (ndB q) := by simp
    have hnd' := hnd
    have hk1 : KpA (fun x => x = o) H (H ++ [ndB q]) := KpA.refl.app
    have hl1 : H.length ≤ (H ++ [ndB q]).length := by simp
    have ho1 := hget (L := [ndB q]) ho
    clear hwk
    generalize H ++ [ndB q] = H1 at *
    unfold ndB lV at hnd'
    refine AW.mid (EachI H r a o H.length q (.fn (.func g) first cap') Tl told q.l.length) ?_ ?_
    · refine AW.seq (AW.ofx [] mixed (by kernel_rfl) ?_)
      simp [hnd']
      refine AW.block (AW.count q.l.length (EachI H r a o H.length q (.fn (.func g) first cap') Tl told) ⟨[(0, .v (.ptr r 0)), (1, .v (.sc (.int .i64 a))), (2, .v (.fn (.func g) first cap')), (6, .v (.ptr H.length 0)), (19, .v (lV q.l)), (20, .v (.sc (.int .i64 q.l.length))), (21, .v (.sc (.int .i64 0)))], ?_, ⟨hk1, hl1, bk, ho1, by simpa using htl⟩, hnd, rfl⟩ ?_)
      · simp [subW, weakV, getF, lV]
      rintro k F H2 hk ⟨g1, g2, rfl⟩
      unfold lV
      by_cases hkl : k = q.l.length
      · subst hkl
        refine AW.seq (AW.ofx [] mixed (by kernel_rfl) ?_)
        simp
        refine AW.seq (AW.ofx [] mixed (by kernel_rfl) ?_)
        simp
        refine ⟨_, ?_, g1, g2, rfl⟩
        simp [subW, weakV, getF, lV]
      · have hlt : k < q.l.length := by omega
        have hltI : (k : Int) < (q.l.length : Int) := by omega
        have hrow := rowP hlt
        obtain ⟨e1, e2, bk1, e3, e4⟩ := g1
        have hlen1 : (told ++ q.l.take k).length ≤ 1000000000000 := by
          have : q.l.length ≤ L.length := by
            rcases hcase with ⟨_, rfl⟩ | ⟨_, hrun⟩
            · exact Nat.le_refl _
            · exact runs_len hrun (Nat.zero_le _) rfl
          simp
          omega
        have hTell := hg.tell _ bk1 (H2 ++ [prB q.l[k]]) q.l[k] (hget e3) e4 hlen1
        have htk : told ++ q.l.take k ++ [q.l[k]] = told ++ q.l.take (k + 1) := by rw [List.append_assoc, ← List.take_succ_eq_append_getElem hlt]
        rw [htk] at hTell
        clear htk
        generalize q.l[k] = rc at *
        unfold Pr.v at hTell
        rw [Pr.cs_eq] at hTell hrow
        unfold prB at hTell
        simp only [List.append_assoc, List.cons_append, List.nil_append] at hTell
        refine AW.seq (AW.ofx [] mixed (by kernel_rfl) ?_)
        simp [hltI]
        refine AW.seq (AW.ofx [] mixed (by kernel_rfl) ?_)
        simp
        refine AW.seq (AW.block (AW.seq (AW.ofx [] mixed (by kernel_rfl) ?_)))
        simp [hltI, hlt, hrow]
        rw [setCells_last rfl]
        refine AW.sub [(0, .v (.ptr r 0)), (1, .v (.sc (.int .i64 a))), (2, .v (.fn (.func g) first cap')), (6, .v (.ptr H.length 0)), (19, .v (lV q.l)), (20, .v (.sc (.int .i64 q.l.length))), (21, .v (.sc (.int .i64 k))), (8, .v (.ptr H2.length 0))] (by simp [subF, getF, lV]) ?_
        refine AW.ofx [] mixed (by kernel_rfl) ?_
        simp
        refine callK.of hTell ?_
        rintro y H3 ⟨k1, k2, k3⟩
        simp
        refine AW.ofx [] mixed (by kernel_rfl) ?_
        have w1 : IntKind.i64.wrap ((k : Int) + 1) = (k + 1 : Nat) := by rw [wrap_i64] <;> omega
        simp [w1]
        refine ⟨_, ?_, ⟨(e1.app).trans k1, by simp at k2; omega, k3⟩, k1 _ _ (by omega) (hget g2), rfl⟩
        simp [subW, weakV, getF]
    · rintro F H2 ⟨g1, g2, rfl⟩
      rw [List.take_length] at g1
      unfold ndB lV at g2
      refine AW.seq (AW.ofx [] mixed (by kernel_rfl) ?_)
      simp [g2]
      rcases hcase with ⟨hs, rfl⟩ | ⟨hs, hrun⟩
      · refine AW.cond false (by simp [hs]) (fun e => by cases e) (fun _ => ?_)
        refine AW.ofx [] mixed (by kernel_rfl) ?_
        simp
        exact g1
      · refine AW.cond true (by simp [hs]) (fun _ => ?_) (fun e => by cases e)
        refine AW.seq (AW.ofx [] mixed (by kernel_rfl) ?_)
        simp [g2]
        refine AW.block (AW.count 4 (EachK H r a o s.A n q (.fn (.func g) first cap') Tl told) ⟨[(0, .v (.ptr r 0)), (1, .v (.sc (.int .i64 a))), (2, .v (.fn (.func g) first cap')), (32, .v (.agg [.sc (.int .i64 q.k0), .sc (.int .i64 q.k1), .sc (.int .i64 q.k2), .sc (.int .i64 q.k3)])), (33, .v (.sc (.int .i64 0)))], ?_, q.l, rfl, g1, rfl⟩ ?_)
        · simp [subW, weakV, getF]
        rintro k F H3 hk ⟨Lk, j1, j2, rfl⟩
        by_cases hk4 : k = 4
        · subst hk4
          rw [hrun] at j1
          cases j1
          refine AW.seq (AW.ofx [] mixed (by kernel_rfl) ?_)
          simp
          refine AW.seq (AW.ofx [] mixed (by kernel_rfl) ?_)
          simp
          exact j2
        · have hlt : k < 4 := by omega
          have hltI : (k : Int) < 4 := by omega
          obtain ⟨a', u', j3, j4, j5⟩ := kidRun_step hrun hlt j1
          obtain ⟨v, j6, rfl⟩ : ∃ v, eachF s.A n a' = some v ∧ u' = Lk ++ v := by
            cases hE : eachF s.A n a' with
            | none => rw [hE] at j4; cases j4
            | some v =>
              rw [hE] at j4
              simp at j4
              exact ⟨v, rfl, j4.symm⟩
          have hlenK := runs_len hrun (i := k + 1) (by omega) j5
          simp at hlenK
          obtain ⟨e1, e2, bk1, e3, e4⟩ := j2
          have hT3 := hT.keep e1 (Ne.symm hor) (fun _ => Ne.symm hon) (Ne.symm hom)
          have hR := ih a' H3 (told ++ Lk) v bk1 hT3 e3 e4 j6 (by simp; omega)
          have hkg := kid_get' (q := q) hlt
          rw [j3] at hkg
          refine AW.seq (AW.ofx [] mixed (by kernel_rfl) ?_)
          simp [hltI]
          refine AW.seq (AW.ofx [] mixed (by kernel_rfl) ?_)
          simp
          refine AW.seq (AW.block (AW.seq (AW.ofx [] mixed (by kernel_rfl) ?_)))
          simp [hltI, hlt, hkg]
          refine AW.sub [(0, .v (.ptr r 0)), (1, .v (.sc (.int .i64 a))), (2, .v (.fn (.func g) first cap')), (32, .v (.agg [.sc (.int .i64 q.k0), .sc (.int .i64 q.k1), .sc (.int .i64 q.k2), .sc (.int .i64 q.k3)])), (33, .v (.sc (.int .i64 k))), (10, .v (.sc (.int .i64 a')))] (by simp [subF, getF]) ?_
          refine AW.ofx [] mixed (by kernel_rfl) ?_
          simp
          refine callK.of hR ?_
          rintro y H4 hT4
          simp
          refine AW.ofx [] mixed (by kernel_rfl) ?_
          have w1 : IntKind.i64.wrap ((k : Int) + 1) = (k + 1 : Nat) := by rw [wrap_i64] <;> omega
          simp [w1]
          refine ⟨_, ?_, Lk ++ v, j5, by have := Told.trans e1 e2 hT4; simpa [List.append_assoc] using this, rfl⟩
          simp [subW, weakV, getF]
end Go.Proofs.Ytmjnffjacgjfmaa
namespace Go.Proofs.Ytmjnffjacgjfmaa
set_option linter.all false
open Go.RowKit AM
set_option maxRecDepth 10000
attribute [local simp] aw_skip' aw_region' aw_seq' aw_cond' aw_block' aw_loop' aw_exit' aw_label' aw_ret' aops_nil' aops_cons' aop' aMove aAssign aPick aAlloc aBox aBuild slF aBuildSlice aLoad aLoadOwn aLoadS sharesAt shares sharedV aStore aStoreOwn isOwn delR aNilCheck aBin aMakeFunc aFieldAddr aField aIndexOp aIndex partV aIndexAddr aExtract aSliceOp aSlice slV aShrink aCallOp aCall' aInvoke' aLen aLenMap aDelete aMM aUn aConv aIface aAssert aMakeMap aLookup aMapUpdate aRange aNext aEntry entsOf keyB seekK aMakeSlice lookV aApp aAppendB aAppendF aAppend putK layK eval evalV AM.valOf getF putF setF del SV.refers cellsAt rootSV plains shift ldV V.exact V.exactL V.ofValue V.ofPart V.ofCell V.cells V.one Value.oneCell' fitB qSeq qBlock getB afin aret resVs resV resTmps shareF evalS tupV valsS valsV pickV calm calmB lenV useOf feeds shrinks stows looks isT newsV partsV fillV putAt zerosV fitsNil nilB sliceB isEq isNeq awx_skip' awx_region' awx_seq' awx_cond' awx_block' awx_loop' awx_exit' awx_label' awx_ret' xops_nil' xops_cons' xop' xload xcall' addO delO inO putD memB Mix.effB Mix.laysB keysF badK subW weakV zeroRow yops_nil' yops_cons' yop' yload yindex yfield ylen oldO dropO takeO oldL exactB V.fixed V.fixedL
attribute [local simp] awz_skip' awz_region' awz_seq' awz_cond' awz_block' awz_loop' awz_exit' awz_label' awz_ret' zops_nil' zops_cons' zop' zload zloadOwn zcall' zlenK z0 new0 remF old0 dltB
def ClearK (H : List Bk) (r a b nb mb cap : Nat) (n : Nat) (q : Qn) (s : Ar) (es : List Pr) (i : Nat) (F : Fr) (H1 : List Bk) : Prop :=
  ∃ s1, runs (kidDo q fun u a' => (clearF n u a').bind (freeF a')) s i = some s1 ∧ TrA H1 r b nb mb cap s1 es ∧ Stp r nb H H1 nb ∧
    F = [(0, .v (.ptr r 0)), (1, .v (.sc (.int .i64 a))), (22, .v (.agg [.sc (.int .i64 q.k0), .sc (.int .i64 q.k1), .sc (.int .i64 q.k2), .sc (.int .i64 q.k3)])), (23, .v (.sc (.int .i64 i)))]
set_option maxHeartbeats 4000000 in
theorem wclear {b nb mb cap r : Nat} {es : List Pr} : ∀ (n a : Nat) (H : List Bk) (s s' : Ar), TrA H r b nb mb cap s es → clearF n s a = some s' →
    AFn Try.prog 85 [.ptr r 0, .sc (.int .i64 a)] H fun y H' => TrA H' r b nb mb cap s' es ∧ Stp r nb H H' nb := by
  intro n
  induction n with
  | zero => intro a H s s' _ h; cases h
  | succ n ih =>
  intro a H s s' hT hcl
  obtain ⟨n', q, hn', hq, hcase⟩ := clearF_some hcl
  cases hn'
  have hc0 := hT.cap0 hq
  have hr := hT.cr
  have hn := hT.cn hc0
  have hal := (List.getElem?_eq_some_iff.1 hq).1
  unfold trC at hr
  obtain ⟨t8, d8⟩ := drop_split hq ((cap - s.A.length) * 10)
  obtain ⟨t0, d0⟩ := drop_cell hq ((cap - s.A.length) * 10)
  have d3 : ∃ tl, (arC s.A ((cap - s.A.length) * 10)).drop (a * 10 + 3) = .v (.sc (.int .i64 q.k0)) :: .v (.sc (.int .i64 q.k1)) :: .v (.sc (.int .i64 q.k2)) :: .v (.sc (.int .i64 q.k3)) :: .v (.sc (.int .i64 q.many)) :: tl := by
    rw [arC_drop hq _ 3 (by omega)]
    exact ⟨_, rfl⟩
  obtain ⟨t3, d3⟩ := d3
  refine AFn.intro (fn := Try.f85) (by kernel_rfl) rfl (by kernel_rfl) (by simp) ?_
  simp only [Try.f85, argsF]
  refine AW.seq (AW.ofx [] mixed (by kernel_rfl) ?_)
  simp [hr, hn, hal, d8]
  rcases hcase with ⟨hs, rfl⟩ | ⟨hs, hrun⟩
  · simp [hs]
    exact ⟨hT, Stp.refl⟩
  · simp [hs]
    refine AW.seq (AW.ofx [] mixed (by kernel_rfl) ?_)
    simp [hr, hn, hal, d3]
    refine AW.block (AW.count 4 (ClearK H r a b nb mb cap n q s es) ⟨[(0, .v (.ptr r 0)), (1, .v (.sc (.int .i64 a))), (22, .v (.agg [.sc (.int .i64 q.k0), .sc (.int .i64 q.k1), .sc (.int .i64 q.k2), .sc (.int .i64 q.k3)])), (23, .v (.sc (.int .i64 0)))], ?_, s, rfl, hT, Stp.refl, rfl⟩ ?_)
    · simp [subW, weakV, getF]
    rintro k F H1 hk ⟨s1, j1, j2, j3, rfl⟩
    by_cases hk4 : k = 4
    · subst hk4
      rw [hrun] at j1
      cases j1
      refine AW.seq (AW.ofx [] mixed (by kernel_rfl) ?_)
      simp
      refine AW.seq (AW.ofx [] mixed (by kernel_rfl) ?_)
      simp
      exact ⟨j2, j3⟩
    · have hlt : k < 4 := by omega
      have hltI : (k : Int) < 4 := by omega
      obtain ⟨a', u', l1, l2, l3⟩ := kidRun_step hrun hlt j1
      obtain ⟨s2, l4, l5⟩ : ∃ s2, clearF n s1 a' = some s2 ∧ freeF a' s2 = some u' := by
        cases hE : clearF n s1 a' with
        | none => rw [hE] at l2; cases l2
        | some v => rw [hE] at l2; exact ⟨v, rfl, l2⟩
      obtain ⟨m1, m2, rfl⟩ := freeF_some l5
      have hR := ih a' H1 s1 s2 j2 l4
      have hkg := kid_get' (q := q) hlt
      rw [l1] at hkg
      refine AW.seq (AW.ofx [] mixed (by kernel_rfl) ?_)
      simp [hltI]
      refine AW.seq (AW.ofx [] mixed (by kernel_rfl) ?_)
      simp
      refine AW.seq (AW.block (AW.seq (AW.ofx [] mixed (by kernel_rfl) ?_)))
      simp [hltI, hlt, hkg]
      refine AW.sub [(0, .v (.ptr r 0)), (1, .v (.sc (.int .i64 a))), (22, .v (.agg [.sc (.int .i64 q.k0), .sc (.int .i64 q.k1), .sc (.int .i64 q.k2), .sc (.int .i64 q.k3)])), (23, .v (.sc (.int .i64 k))), (5, .v (.sc (.int .i64 a')))] (by simp [subF, getF]) ?_
      refine AW.seq (AW.ofx [] mixed (by kernel_rfl) ?_)
      simp
      refine callK.of hR ?_
      rintro y H2 ⟨e1, e2⟩
      simp
      have hr2 := e1.cr
      have hn2 := e1.cn hc0
      have hrn2 := e1.rn hc0
      have hlen2 := arC_len s2.A ((cap - s2.A.length) * 10)
      have hW := storeN (q := zeroN) hn2 m1 ⟨rfl, rfl⟩
      have hT3 := e1.node zeroN (List.getElem?_eq_getElem m1)
      have hS3 := (j3.trans e2).set (i := nb) (k := .cells (arC (s2.A.set a' zeroN) ((cap - s2.A.length) * 10))) (.inr (.inl rfl))
      unfold trC at hr2
      unfold ndV zeroN at hW
      refine AW.seq (AW.ofx [] mixed (by kernel_rfl) ?_)
      simp [hr2, hn2, m1]
      refine ⟨by omega, AW.wk hW ?_⟩
      change AW _ _ _ _ ⟨_, H2.set nb (.cells (arC (s2.A.set a' zeroN) ((cap - s2.A.length) * 10)))⟩
      refine AW.sub [(0, .v (.ptr r 0)), (1, .v (.sc (.int .i64 a))), (22, .v (.agg [.sc (.int .i64 q.k0), .sc (.int .i64 q.k1), .sc (.int .i64 q.k2), .sc (.int .i64 q.k3)])), (23, .v (.sc (.int .i64 k))), (5, .v (.sc (.int .i64 a')))] (by simp [subF, getF]) ?_
      clear hW
      generalize H2.set nb _ = H3 at *
      have hr3 := hT3.cr
      have hT4 := hT3.free (s2.fr ++ [a'])
      have hS4 := hS3.set (i := r) (k := .cells (trC b nb (s2.A.set a' zeroN).length cap (s2.fr ++ [a']) mb)) (.inl rfl)
      have hrl3 := hT3.rl
      unfold trC at hr3 hT4 hS4
      rw [← frS_app, List.length_append] at hT4 hS4
      simp only [List.length_cons, List.length_nil, Nat.zero_add, List.length_set] at hT4 hS4 hr3
      unfold big at m2
      have f1 : ∀ x, setBlk H3 r 2 x = H3.set r (.cells [.v (.sc (.int .i64 b)), .v (.slb nb 0 s2.A.length cap), x, .v (.map mb)]) := fun x => by rw [setBlk_eq' hr3]; rfl
      have f2 : ∀ x z, setBlk (H3.set r (.cells [.v (.sc (.int .i64 b)), .v (.slb nb 0 s2.A.length cap), x, .v (.map mb)])) r 2 z = H3.set r (.cells [.v (.sc (.int .i64 b)), .v (.slb nb 0 s2.A.length cap), z, .v (.map mb)]) := fun x z => by rw [setBlk_eq' (List.getElem?_set_self hrl3), List.set_set]; rfl
      have f3 : ∀ K, (H3.set r K)[r]? = some K := fun K => List.getElem?_set_self hrl3
      refine AW.ofx [] mixed (by kernel_rfl) ?_
      simp [hr3, f1, f2, f3]
      refine ⟨⟨by omega, by omega⟩, ?_⟩
      refine AW.ofx [] mixed (by kernel_rfl) ?_
      have w1 : IntKind.i64.wrap ((k : Int) + 1) = (k + 1 : Nat) := by rw [wrap_i64] <;> omega
      simp [w1]
      refine ⟨_, ?_, _, l3, hT4, hS4, rfl⟩
      simp [subW, weakV, getF]
end Go.Proofs.Ytmjnffjacgjfmaa
namespace Go.Proofs.Ytmjnffjacgjfmaa
set_option linter.all false
open Go.RowKit AM
set_option maxRecDepth 10000
attribute [local simp] aw_skip' aw_region' aw_seq' aw_cond' aw_block' aw_loop' aw_exit' aw_label' aw_ret' aops_nil' aops_cons' aop' aMove aAssign aPick aAlloc aBox aBuild slF aBuildSlice aLoad aLoadOwn aLoadS sharesAt shares sharedV aStore aStoreOwn isOwn delR aNilCheck aBin aMakeFunc aFieldAddr aField aIndexOp aIndex partV aIndexAddr aExtract aSliceOp aSlice slV aShrink aCallOp aCall' aInvoke' aLen aLenMap aDelete aMM aUn aConv aIface aAssert aMakeMap aLookup aMapUpdate aRange aNext aEntry entsOf keyB seekK aMakeSlice lookV aApp aAppendB aAppendF aAppend putK layK eval evalV AM.valOf getF putF setF del SV.refers cellsAt rootSV plains shift ldV V.exact V.exactL V.ofValue V.ofPart V.ofCell V.cells V.one Value.oneCell' fitB qSeq qBlock getB afin aret resVs resV resTmps shareF evalS tupV valsS valsV pickV calm calmB lenV useOf feeds shrinks stows looks isT newsV partsV fillV putAt zerosV fitsNil nilB sliceB isEq isNeq awx_skip' awx_region' awx_seq' awx_cond' awx_block' awx_loop' awx_exit' awx_label' awx_ret' xops_nil' xops_cons' xop' xload xcall' addO delO inO putD memB Mix.effB Mix.laysB keysF badK subW weakV zeroRow yops_nil' yops_cons' yop' yload yindex yfield ylen oldO dropO takeO oldL exactB V.fixed V.fixedL
attribute [local simp] awz_skip' awz_region' awz_seq' awz_cond' awz_block' awz_loop' awz_exit' awz_label' awz_ret' zops_nil' zops_cons' zop' zload zloadOwn zcall' zlenK z0 new0 remF old0 dltB
def ownP (l : List Pr) : SV := .own true 32 l.length 4 (l.flatMap Pr.cs)
theorem wtold (f : FuncId) (hen : ∀ (told : List Pr) (H : List Bk) (o : Nat) (rc : Pr), H[o]? = some (.cells [ownP told]) → told.length ≤ 1000000000000 → AFn Try.prog f [rc.v, .ptr o 0] H fun y H' => H' = (H ++ [prB rc]).set o (.cells [ownP (told ++ [rc])])) (o : Nat) : Tells f [] [.ptr o 0] o fun told bk => bk = .cells [ownP told] := ⟨by
  rintro told bk H rc ho rfl hl
  have h := hen told H o rc ho hl
  refine AFn.conv h ?_
  rintro y H' rfl
  have hol := (List.getElem?_eq_some_iff.1 ho).1
  exact ⟨_, ⟨KpA.refl.app.set rfl, by simp, _, List.getElem?_set_self (by simp; omega), rfl⟩, fun _ _ _ h => h⟩⟩
theorem wmerge1 (told : List Pr) (H : List Bk) (o : Nat) (rc : Pr) (ho : H[o]? = some (.cells [ownP told])) (hl : told.length ≤ 1000000000000) : AFn Try.prog 84 [rc.v, .ptr o 0] H fun y H' => H' = (H ++ [prB rc]).set o (.cells [ownP (told ++ [rc])]) := by
  unfold ownP at ho ⊢
  rw [flat_snoc, snoc_len]
  unfold Pr.v Pr.cs prB
  have hol := (List.getElem?_eq_some_iff.1 ho).1
  have ho' := fun L => hget (L := L) ho
  refine AFn.intro (fn := Try.f84) (by kernel_rfl) rfl (by kernel_rfl) (by simp) ?_
  simp only [Try.f84, argsF]
  refine AW.seq (AW.ofx [] mixed (by kernel_rfl) ?_)
  simp
  have hrc : (H ++ [Bk.cells [.v (.sc (.int .i64 rc.id)), .v (.sc (.int .i64 rc.at_.x)), .v (.sc (.int .i64 rc.at_.y)), .v (.sc (.int .i64 rc.lab))]])[H.length]? = some (.cells [.v (.sc (.int .i64 rc.id)), .v (.sc (.int .i64 rc.at_.x)), .v (.sc (.int .i64 rc.at_.y)), .v (.sc (.int .i64 rc.lab))]) := by simp
  have ho2 := ho' [Bk.cells [.v (.sc (.int .i64 rc.id)), .v (.sc (.int .i64 rc.at_.x)), .v (.sc (.int .i64 rc.at_.y)), .v (.sc (.int .i64 rc.lab))]]
  generalize H ++ [_] = H2 at *
  have hol2 := (List.getElem?_eq_some_iff.1 ho2).1
  have f1 : ∀ x, setBlk H2 o 0 x = H2.set o (.cells [x]) := fun x => by rw [setBlk_eq' ho2]; rfl
  have f2 : ∀ x z, setBlk (H2.set o (.cells [x])) o 0 z = H2.set o (.cells [z]) := fun x z => by rw [setBlk_eq' (List.getElem?_set_self hol2), List.set_set]; rfl
  have f3 : ∀ K, (H2.set o K)[o]? = some K := fun K => List.getElem?_set_self hol2
  have f4 : ∀ K, (H2.set o K)[H.length]? = some (.cells [.v (.sc (.int .i64 rc.id)), .v (.sc (.int .i64 rc.at_.x)), .v (.sc (.int .i64 rc.at_.y)), .v (.sc (.int .i64 rc.lab))]) := fun K => by rw [List.getElem?_set_ne (by omega)]; exact hrc
  refine AW.ofx [] mixed (by kernel_rfl) ?_
  simp [ho2, hrc, f1, f2, f3, f4]
  exact ⟨⟨by omega, by omega⟩, rfl⟩
set_option maxHeartbeats 4000000 in
theorem wmerge {b nb mb cap r : Nat} {es : List Pr} {a : Nat} {H : List Bk} {s s' : Ar} (hT : TrA H r b nb mb cap s es) (hm : mergeF 18 s a = some s') :
    AFn Try.prog 66 [.ptr r 0, .sc (.int .i64 a)] H fun y H' => TrA H' r b nb mb cap s' es ∧ Stp r nb H H' nb := by
  obtain ⟨l, s1, q, hE, ⟨hl1, hl2⟩, hC, hq, rfl⟩ := mergeF_some hm
  have hc0 : cap ≠ 0 := by
    obtain ⟨_, q0, _, hq0, _⟩ := eachF_some hE
    exact hT.cap0 hq0
  have hrl := hT.rl
  have hnl := (List.getElem?_eq_some_iff.1 (hT.cn hc0)).1
  have hml := (List.getElem?_eq_some_iff.1 hT.cm).1
  refine AFn.post (Q := fun y H' => ∃ H2, Wk H' H2 ∧ TrA H2 r b nb mb cap ⟨s1.A.set a { q with l := l, full := false, split := false, k0 := -1, k1 := -1, k2 := -1, k3 := -1 }, s1.fr⟩ es ∧ Stp r nb H H2 nb) ?_ fun _ _ h => h
  refine AFn.intro (fn := Try.f66) (by kernel_rfl) rfl (by kernel_rfl) (by simp) ?_
  simp only [Try.f66, argsF]
  refine AW.seq (AW.ofx [] mixed (by kernel_rfl) ?_)
  simp
  refine AW.wk (Wk.cell (id := H.length) (off := 0) (x := .v .nil) (y := ownP []) (by simp; rfl) rfl (cellWk.nil rfl ⟨rfl, rfl, by decide⟩)) ?_
  have hset : (H ++ [Bk.cells [SV.v V.nil]]).set H.length (.cells ([SV.v V.nil].set 0 (ownP []))) = H ++ [.cells [ownP []]] := by simp
  rw [hset]
  have hT1 := hT.app (L := [.cells [ownP []]])
  have hA := weach (wtold 84 (fun told H o rc ho hl => wmerge1 told H o rc ho hl) H.length) (by omega) (by omega) (by omega) 18 a (H ++ [.cells [ownP []]]) [] l _ hT1 (by simp) rfl hE (by simp; omega)
  refine AW.seq (AW.ofx [] mixed (by kernel_rfl) ?_)
  simp
  refine callK.of hA ?_
  rintro y H2 ⟨k1, k2, bk, k3, rfl⟩
  simp only [List.nil_append] at k3
  simp
  have hT2 := hT1.keep k1 (by omega) (fun _ => by omega) (by omega)
  have hCl := wclear 18 a H2 s s1 hT2 hC
  refine AW.seq (AW.ofx [] mixed (by kernel_rfl) ?_)
  simp
  refine callK.of hCl ?_
  rintro y H3 ⟨hT3, hS3⟩
  simp
  have ho3 : H3[H.length]? = some (.cells [ownP l]) := hS3.kp _ _ (by omega) k3
  have hr3 := hT3.cr
  have hn3 := hT3.cn hc0
  have hal := (List.getElem?_eq_some_iff.1 hq).1
  have hnl3 := (List.getElem?_eq_some_iff.1 hn3).1
  have hol3 := (List.getElem?_eq_some_iff.1 ho3).1
  unfold trC at hr3
  unfold ownP at ho3
  obtain ⟨P, D, hP, hcut, hcut'⟩ := cutN hq ((cap - s1.A.length) * 10)
  refine AW.seq (AW.ofx [] mixed (by kernel_rfl) ?_)
  simp [hr3, hn3, hal]
  have g1 : ∀ x, setBlk H3 H.length 0 x = H3.set H.length (.cells [x]) := fun x => by rw [setBlk_eq' ho3]; rfl
  have hn4 : ∀ K, (H3.set H.length K)[nb]? = some (.cells (arC s1.A ((cap - s1.A.length) * 10))) := fun K => by rw [List.getElem?_set_ne (by omega)]; exact hn3
  have hT4 : ∀ K, TrA (H3.set H.length K) r b nb mb cap s1 es := fun K => hT3.keep (I := fun x => x = H.length) (KpA.refl.set rfl) (by omega) (fun _ => by omega) (by omega)
  have hS2 : Stp r nb H H2 nb := ⟨fun i x hi hx => k1 i x (by have := (List.getElem?_eq_some_iff.1 hx).1; omega) (hget hx), by simp at k2; omega, .inl rfl⟩
  have hS4 : ∀ K, Stp r nb H (H3.set H.length K) nb := fun K => (hS2.trans hS3).set (.inr (.inr (Nat.le_refl _)))
  have hn5 := hn4
  rw [hcut] at hn5
  unfold ndC at hn5
  have hTn : ∀ K, TrA ((H3.set H.length K).set nb (.cells (P ++ (ndC { q with l := l, full := false, split := false, k0 := -1, k1 := -1, k2 := -1, k3 := -1 } ++ D)))) r b nb mb cap ⟨s1.A.set a { q with l := l, full := false, split := false, k0 := -1, k1 := -1, k2 := -1, k3 := -1 }, s1.fr⟩ es := fun K => by
    rw [← hcut']
    exact (hT4 K).node _ hq
  have hSn : ∀ K K', Stp r nb H ((H3.set H.length K).set nb K') nb := fun K K' => (hS4 K).set (.inr (.inl rfl))
  have hol4 : ∀ K, nb < (H3.set H.length K).length := fun K => by simpa using hnl3
  have f3 : ∀ K K', ((H3.set H.length K).set nb K')[nb]? = some K' := fun K K' => List.getElem?_set_self (hol4 K)
  have st0 : ∀ K x, setBlk (H3.set H.length K) nb (a * 10 + 9) x = (H3.set H.length K).set nb (.cells (P ++ ([.v (.sc (.int .i64 q.c.l)), .v (.sc (.int .i64 q.c.x)), .v (.sc (.int .i64 q.c.y)), .v (.sc (.int .i64 q.k0)), .v (.sc (.int .i64 q.k1)), .v (.sc (.int .i64 q.k2)), .v (.sc (.int .i64 q.k3)), .v (.sc (.int .i64 q.many)), .v (.sc (.bool q.split)), x] ++ D))) := fun K x => by
    rw [setBlk_eq' (hn5 K), set_mid hP (by simp)]
    rfl
  have st8 : ∀ K x y z, setBlk ((H3.set H.length K).set nb (.cells (P ++ ([.v (.sc (.int .i64 q.c.l)), .v (.sc (.int .i64 q.c.x)), .v (.sc (.int .i64 q.c.y)), .v (.sc (.int .i64 q.k0)), .v (.sc (.int .i64 q.k1)), .v (.sc (.int .i64 q.k2)), .v (.sc (.int .i64 q.k3)), .v (.sc (.int .i64 q.many)), y, x] ++ D)))) nb (a * 10 + 8) z = (H3.set H.length K).set nb (.cells (P ++ ([.v (.sc (.int .i64 q.c.l)), .v (.sc (.int .i64 q.c.x)), .v (.sc (.int .i64 q.c.y)), .v (.sc (.int .i64 q.k0)), .v (.sc (.int .i64 q.k1)), .v (.sc (.int .i64 q.k2)), .v (.sc (.int .i64 q.k3)), .v (.sc (.int .i64 q.many)), z, x] ++ D))) := fun K x y z => by
    rw [setBlk_eq' (f3 _ _), set_mid hP (by simp), List.set_set]
    rfl
  have st3 : ∀ K (x y m : SV) (k0 k1 k2 k3 : SV) (z0 z1 z2 z3 : V), setCells ((H3.set H.length K).set nb (.cells (P ++ ([.v (.sc (.int .i64 q.c.l)), .v (.sc (.int .i64 q.c.x)), .v (.sc (.int .i64 q.c.y)), k0, k1, k2, k3, m, y, x] ++ D)))) nb (a * 10 + 3) [z0, z1, z2, z3] = (H3.set H.length K).set nb (.cells (P ++ ([.v (.sc (.int .i64 q.c.l)), .v (.sc (.int .i64 q.c.x)), .v (.sc (.int .i64 q.c.y)), .v z0, .v z1, .v z2, .v z3, m, y, x] ++ D))) := fun K x y m k0 k1 k2 k3 z0 z1 z2 z3 => by
    rw [setCells_mid hP (f3 _ _) (by simp), List.set_set]
    rfl
  simp only [List.cons_append, List.nil_append] at st0 st8 st3
  refine AW.ofx [] mixed (by kernel_rfl) ?_
  simp [ho3, g1, hn5, f3, st0, st8, st3, setCells_one]
  refine ⟨by omega, by omega, by omega, _, ?_, hTn (.cells [.any]), hSn (.cells [.any]) _⟩
  have hsh := Wk.share (H := (H3.set H.length (.cells [.any])).set nb (.cells (P ++ ([.v (.sc (.int .i64 q.c.l)), .v (.sc (.int .i64 q.c.x)), .v (.sc (.int .i64 q.c.y)), .v (.sc (.int .i64 (-1))), .v (.sc (.int .i64 (-1))), .v (.sc (.int .i64 (-1))), .v (.sc (.int .i64 (-1))), .v (.sc (.int .i64 q.many)), .v (.sc (.bool false)), .own true 32 l.length 4 (l.flatMap Pr.cs)] ++ D)))) (id := nb) (off := a * 10 + 9) (pr := true) (e := 32) (n := l.length) (sz := 4) (cs := l.flatMap Pr.cs) (f3 _ _) (by
    rw [List.getElem?_append_right (by omega), hP, Nat.add_sub_cancel_left]
    rfl)
  rw [List.set_set, set_mid hP (by simp)] at hsh
  unfold ndC
  rw [lC_own]
  simpa using hsh
end Go.Proofs.Ytmjnffjacgjfmaa
