/- The law PtquadChanges, over the abstract memory. -/
import Derived.Test.YtmjnffjacgjfmaaJt
namespace Go.Proofs.Ytmjnffjacgjfmaa
set_option linter.all false
open Go.RowKit AM
set_option maxRecDepth 10000
attribute [local simp] aw_skip' aw_region' aw_seq' aw_cond' aw_block' aw_loop' aw_exit' aw_label' aw_ret' aops_nil' aops_cons' aop' aMove aAssign aPick aAlloc aBox aBuild slF aBuildSlice aLoad aLoadOwn aLoadS sharesAt shares sharedV aStore aStoreOwn isOwn delR aNilCheck aBin aMakeFunc aFieldAddr aField aIndexOp aIndex partV aIndexAddr aExtract aSliceOp aSlice slV aShrink aCallOp aCall' aInvoke' aLen aLenMap aDelete aMM aUn aConv aIface aAssert aMakeMap aLookup aMapUpdate aRange aNext aEntry entsOf keyB seekK aMakeSlice lookV aApp aAppendB aAppendF aAppend putK layK eval evalV AM.valOf getF putF setF del SV.refers cellsAt rootSV plains shift ldV V.exact V.exactL V.ofValue V.ofPart V.ofCell V.cells V.one Value.oneCell' fitB qSeq qBlock getB afin aret resVs resV resTmps shareF evalS tupV valsS valsV pickV calm calmB lenV useOf feeds shrinks stows looks isT newsV partsV fillV putAt zerosV fitsNil nilB sliceB isEq isNeq awx_skip' awx_region' awx_seq' awx_cond' awx_block' awx_loop' awx_exit' awx_label' awx_ret' xops_nil' xops_cons' xop' xload xcall' addO delO inO putD memB Mix.effB Mix.laysB keysF badK subW weakV zeroRow yops_nil' yops_cons' yop' yload yindex yfield ylen oldO dropO takeO oldL exactB
attribute [local simp] awz_skip' awz_region' awz_seq' awz_cond' awz_block' awz_loop' awz_exit' awz_label' awz_ret' zops_nil' zops_cons' zop' zload zloadOwn zcall' zlenK z0 new0 remF old0 dltB
theorem TrP.un {H : List Bk} {r b : Nat} {S : List Pr} {T : Nat → Prop} (h : TrP H r b S T) : ∀ t ∈ S, Un root0 t.at_ := by
  obtain ⟨nb, mb, cap, s, es, I, h, hT⟩ := h
  exact h.ok.u
theorem lwhole : PFn Try.prog 30 [] gridR.v := by
  refine AFn.intro (fn := Try.f30) (by kernel_rfl) rfl (by kernel_rfl) (by simp) (AW.ofx [] mixed (by kernel_rfl) ?_)
  simp only [Try.f30, argsF]
  simp [setCells, setBlk, gridR, Re.v, Re.cs]
theorem boolEqP {x y : Operand} (a b : Bool) : binR Try.prog .eql 4 x y (.bool a) (.bool b) = some (.bool (a == b)) := by
  cases a <;> cases b <;> kernel_rfl
theorem chgE_eq (S : List Pr) (rc : Pr) : chgE S rc = if fits rc.at_ then (if hasQ S rc.id then 0 else 21) else 1 := rfl
theorem delE_eq (S : List Pr) (k : Int) : delE S k = if hasQ S k then 0 else 21 := rfl
set_option maxHeartbeats 4000000 in
theorem lawChanges (v : Int) (l : List Pr) (r : Pr) (H : List Bk) : AFn Try.prog 7 [.sc (.int .i64 v), lV l, r.v] H fun y _ => y = .sc (.bool true) := by
  have hB := fun H => lbuiltP v l H
  unfold lV at hB ⊢
  unfold Pr.v Pr.cs
  refine AFn.intro (fn := Try.f7) (by kernel_rfl) rfl (by kernel_rfl) (by simp) ?_
  simp only [Try.f7, argsF]
  refine AW.seq (AW.ofx [] mixed (by kernel_rfl) ?_)
  simp
  refine AW.seq (AW.ofx [] mixed (by kernel_rfl) ?_)
  simp
  refine callK.of (hB _) ?_
  rintro y H1 (⟨hl, rfl, k1⟩ | ⟨hv, hl, q, b, T, hb, rfl, t1, k1, f1⟩)
  · simp
    refine AW.seq (AW.ofx [] mixed (by kernel_rfl) ?_)
    simp
    refine callK.of (hB _) ?_
    rintro y H2 (⟨hl, rfl, k2⟩ | ⟨hv, hl2, q, b, T, hb, rfl, t1, k1, f1⟩)
    rotate_left
    · exact absurd ⟨hv, hl2⟩ hl
    simp
    refine AW.seq (AW.ofx [] mixed (by kernel_rfl) ?_)
    simp [nilPtE]
    refine callK.of (lknownP _) ?_
    rintro y H3 ⟨rfl, k3⟩
    simp
  · have hbc := k1.cells (i := H.length) (fun h => h) (by simp; rfl)
    simp [lV]
    refine AW.seq (AW.ofx [] mixed (by kernel_rfl) ?_)
    simp
    refine callK.of (hB _) ?_
    rintro y H2 (⟨hl2, rfl, k2⟩ | ⟨_, _, q2, b2, T2, hb2, rfl, t2, k2, f2⟩)
    · exact absurd ⟨hv, hl⟩ hl2
    have hbe : b2 = b := by omega
    subst hbe
    have hbc2 := k2.cells (fun h => h) hbc
    have t1' := t1.keep0 k2
    have hd12 : ∀ x, T2 x → ¬ T x := fun x hx hy => by
      have := f2 x hx
      have := t1.lt x hy
      omega
    have hsp := havP_spec l
    have hFd := refFindP (havP l) r.id (by omega)
    rw [pfndV_eq] at hFd
    have hCh := pChange t1' r (by omega)
    have hR := refFits r.at_
    have hso := hsp.1.sort
    have hSm := refSameP (havP l) (havP l) (by omega)
    generalize fndQ (havP l) r.id = pq at *
    have hcs : chgE (havP l) r = 0 → chgS (havP l) r = r :: lessP (havP l) r.id := fun e => by unfold chgS; rw [if_pos e]
    have hcs2 : chgE (havP l) r ≠ 0 → chgS (havP l) r = havP l := fun e => by unfold chgS; rw [if_neg e]
    rw [chgE_eq] at hCh hcs hcs2
    unfold lV at hFd hSm
    unfold Pt.v Pt.cs at hR
    rw [prv_eq] at hCh
    simp [lV]
    refine AW.seq (AW.ofx [] mixed (by kernel_rfl) ?_)
    simp
    refine AW.seq (AW.ofx [] mixed (by kernel_rfl) ?_)
    simp [hbc2]
    refine callK.of hCh ?_
    rintro y H3 ⟨rfl, k3, T3, t3, f3⟩
    have hHT : ∀ x, T x → H.length < x := fun x hx => by
      have := f1 x hx
      simp at this
      omega
    have hHT2 : ∀ x, T2 x → H.length < x := fun x hx => by
      have := f2 x hx
      have := (List.getElem?_eq_some_iff.1 hbc).1
      omega
    have hbc3 := k3.cells (fun h => by have := hHT _ h; omega) hbc2
    have t2' := t2.keep k3 (fun x hx => hd12 x hx)
    simp
    refine AW.seq (AW.ofx [] mixed (by kernel_rfl) ?_)
    simp [hbc3]
    refine callK.pure hFd (lV_closedI _ _) rfl ?_
    simp
    rw [setCells_last rfl]
    have t3' := t3.app (L := [Bk.cells ([.sc (.int .i64 pq.id), .sc (.int .i64 pq.at_.x), .sc (.int .i64 pq.at_.y), .sc (.int .i64 pq.lab)].map SV.v)])
    have t2'' := t2'.app (L := [Bk.cells ([.sc (.int .i64 pq.id), .sc (.int .i64 pq.at_.x), .sc (.int .i64 pq.at_.y), .sc (.int .i64 pq.lab)].map SV.v)])
    have hbc4 := hget (L := [Bk.cells ([.sc (.int .i64 pq.id), .sc (.int .i64 pq.at_.x), .sc (.int .i64 pq.at_.y), .sc (.int .i64 pq.lab)].map SV.v)]) hbc3
    have hd3 : ∀ x, T2 x → ¬ T3 x := fun x hx hy => by
      rcases f3 x hy with h | h
      · exact hd12 x hx h
      · have := t2.lt x hx
        omega
    generalize H3 ++ [_] = H4 at *
    refine AW.sub [(5, .v (.ptr H.length 0)), (7, .v (.ptr q 0)), (8, .v (.sl (havP l).length 4 ((havP l).flatMap Pr.cs))), (9, .v (.ptr q2 0)), (11, .v (.sc (.int .i64 (if fits r.at_ = true then if hasQ (havP l) r.id = true then 0 else 21 else 1)))), (13, .v (.sc (.bool (hasQ (havP l) r.id))))] (by simp [subF, getF, lV]) ?_
    refine AW.seq ?_
    refine AW.seq (AW.ofx [] mixed (by kernel_rfl) ?_)
    simp [hbc4]
    refine callK.pure hR rfl rfl ?_
    cases hf : fits r.at_ with
    | false =>
      have he := hcs2 (by simp [hf])
      rw [hf] at hR
      rw [he] at t3'
      have hAl := pAll t3'
      rw [hso] at hAl
      simp
      refine AW.cond true (by simp) (fun _ => ?_) (fun e => by cases e)
      refine AW.seq (AW.ofx [] mixed (by kernel_rfl) ?_)
      simp [hbc4, boolEqP]
      refine callK.pure hR rfl rfl ?_
      simp [hbc4, boolEqP]
      refine callK.pure hR rfl rfl ?_
      simp [boolEqP]
      refine callK.of hAl ?_
      rintro y H5 ⟨rfl, k5⟩
      have hk5 := k5.keepP fun _ h => h
      simp [lV, hk5]
      refine callK.pure hSm (lV_closed2 _ _) rfl ?_
      simp [hk5]
      refine callK.of (lknownP _) ?_
      rintro y H6 ⟨rfl, k6⟩
      have hk6 := (k5.trans k6).keepP fun _ h => h
      simp [hk6]
      refine AW.ofx [] mixed (by kernel_rfl) ?_
      simp
    | true =>
      rw [hf] at hR
      cases hh : hasQ (havP l) r.id with
      | false =>
        have he := hcs2 (by simp [hf, hh])
        rw [he] at t3'
        have hAl := pAll t3'
        rw [hso] at hAl
        simp
        refine AW.cond true (by simp) (fun _ => ?_) (fun e => by cases e)
        refine AW.seq (AW.ofx [] mixed (by kernel_rfl) ?_)
        simp [hbc4, boolEqP]
        refine callK.pure hR rfl rfl ?_
        simp [hbc4, boolEqP]
        refine callK.pure hR rfl rfl ?_
        simp [boolEqP]
        refine callK.of hAl ?_
        rintro y H5 ⟨rfl, k5⟩
        have hk5 := k5.keepP fun _ h => h
        simp [lV, hk5]
        refine callK.pure hSm (lV_closed2 _ _) rfl ?_
        simp [hk5]
        refine callK.of (lknownP _) ?_
        rintro y H6 ⟨rfl, k6⟩
        have hk6 := (k5.trans k6).keepP fun _ h => h
        simp [hk6]
        refine AW.ofx [] mixed (by kernel_rfl) ?_
        simp
      | true =>
        have he := hcs (by simp [hf, hh])
        rw [he] at t3'
        have hDl := pDelete t2'' r.id
        rw [delE_eq, hh] at hDl
        have hie : insE (lessP (havP l) r.id) r = 0 := by simp [insE, hf, pfnd_less]
        have his : insS (lessP (havP l) r.id) r = r :: lessP (havP l) r.id := by unfold insS; rw [if_pos hie]
        have hll : (lessP (havP l) r.id).length ≤ (havP l).length := List.length_filter_le _ _
        have hun := grid_all (t3'.un)
        simp
        refine AW.cond false (by simp) (fun e => by cases e) (fun _ => ?_)
        refine AW.ofx [] mixed (by kernel_rfl) ?_
        simp
        refine AW.seq ?_
        refine AW.seq (AW.ofx [] mixed (by kernel_rfl) ?_)
        simp [hbc4]
        refine callK.of hDl ?_
        rintro y H5 ⟨rfl, k5, T5, t5, f5⟩
        have hIn := pInsert t5 r (by omega)
        rw [hie, his, prv_eq] at hIn
        have hl4 := t3'.lt
        have hbq : H.length < H4.length := (List.getElem?_eq_some_iff.1 hbc4).1
        have hbc5 := k5.cells (fun h => by have := hHT2 _ h; omega) hbc4
        have t3b := t3'.keep k5 (fun x hx hy => hd3 x hy (by assumption))
        have hd5 : ∀ x, T3 x → ¬ T5 x := fun x hx hy => by
          rcases f5 x hy with h | h
          · exact hd3 x h hx
          · have := hl4 x hx
            omega
        simp [hbc5]
        refine callK.of hIn ?_
        rintro y H6 ⟨rfl, k6, T6, t6, f6⟩
        have t3c := t3b.keep k6 (fun x hx => hd5 x hx)
        generalize hS' : r :: lessP (havP l) r.id = S' at *
        have hSl : (sortP S').length ≤ 1000 := by
          rw [(sortP_perm S').length_eq, ← hS']
          simp
          omega
        have hSm2 := refSameP (sortP S') (sortP S') (by omega)
        unfold lV at hSm2
        have hlw := lwhole
        unfold gridR Re.v Re.cs at hlw
        simp
        refine AW.cond false (by simp) (fun e => by cases e) (fun _ => ?_)
        refine AW.ofx [] mixed (by kernel_rfl) ?_
        simp
        refine AW.sub [(7, .v (.ptr q 0)), (9, .v (.ptr q2 0))] (by simp [subF, getF]) ?_
        refine AW.seq (AW.ofx [] mixed (by kernel_rfl) ?_)
        simp
        refine callK.of (pAll t3c) ?_
        rintro y H7 ⟨rfl, k7⟩
        have t6a := t6.keep0 k7
        have t3d := t3c.keep0 k7
        simp [lV]
        refine callK.of (pAll t6a) ?_
        rintro y H8 ⟨rfl, k8⟩
        have t6b := t6a.keep0 k8
        have t3e := t3d.keep0 k8
        simp [lV]
        refine callK.pure hSm2 (lV_closed2 _ _) rfl ?_
        simp
        refine callK.of (pNodes t3e) ?_
        rintro y H9 ⟨rfl, rfl⟩
        simp
        refine callK.of (pNodes t6b) ?_
        rintro y H9 ⟨rfl, rfl⟩
        simp
        refine callK.of (pAll t3e) ?_
        rintro y H10 ⟨rfl, k10⟩
        have t3f := t3e.keep0 k10
        have hCn := pCount t3f gridR
        rw [hun] at hCn
        unfold gridR Re.v Re.cs at hCn
        simp [lV]
        refine callK.pure hlw rfl rfl ?_
        simp
        refine callK.of hCn ?_
        rintro y H11 ⟨rfl, k11⟩
        simp
        refine callK.of (lknownP _) ?_
        rintro y H12 ⟨rfl, k12⟩
        simp
        refine AW.ofx [] mixed (by kernel_rfl) ?_
        simp
theorem lawChanges0 (v : Int) (l : List Pr) (r : Pr) : PFn Try.prog 7 [.sc (.int .i64 v), lV l, r.v] (.sc (.bool true)) := lawChanges v l r []
end Go.Proofs.Ytmjnffjacgjfmaa
