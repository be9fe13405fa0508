/- The shape by the document; trees that are built of a row of records. -/
import Derived.Test.YtmjnffjacgjfmaaJq1
namespace Go.Proofs.Ytmjnffjacgjfmaa
set_option linter.all false
open Go.RowKit AM
set_option maxRecDepth 10000
attribute [local simp] aw_skip' aw_region' aw_seq' aw_cond' aw_block' aw_loop' aw_exit' aw_label' aw_ret' aops_nil' aops_cons' aop' aMove aAssign aPick aAlloc aBox aBuild slF aBuildSlice aLoad aLoadOwn aLoadS sharesAt shares sharedV aStore aStoreOwn isOwn delR aNilCheck aBin aMakeFunc aFieldAddr aField aIndexOp aIndex partV aIndexAddr aExtract aSliceOp aSlice slV aShrink aCallOp aCall' aInvoke' aLen aLenMap aDelete aMM aUn aConv aIface aAssert aMakeMap aLookup aMapUpdate aRange aNext aEntry entsOf keyB seekK aMakeSlice lookV aApp aAppendB aAppendF aAppend putK layK eval evalV AM.valOf getF putF setF del SV.refers cellsAt rootSV plains shift ldV V.exact V.exactL V.ofValue V.ofPart V.ofCell V.cells V.one Value.oneCell' fitB qSeq qBlock getB afin aret resVs resV resTmps shareF evalS tupV valsS valsV pickV calm calmB lenV useOf feeds shrinks stows looks isT newsV partsV fillV putAt zerosV fitsNil nilB sliceB isEq isNeq awx_skip' awx_region' awx_seq' awx_cond' awx_block' awx_loop' awx_exit' awx_label' awx_ret' xops_nil' xops_cons' xop' xload xcall' addO delO inO putD memB Mix.effB Mix.laysB keysF badK subW weakV zeroRow yops_nil' yops_cons' yop' yload yindex yfield ylen oldO dropO takeO oldL exactB V.fixed V.fixedL
attribute [local simp] awz_skip' awz_region' awz_seq' awz_cond' awz_block' awz_loop' awz_exit' awz_label' awz_ret' zops_nil' zops_cons' zop' zload zloadOwn zcall' zlenK z0 new0 remF old0 dltB
theorem prv_eq (s : Pr) : s.v = .agg [.sc (.int .i64 s.id), .sc (.int .i64 s.at_.x), .sc (.int .i64 s.at_.y), .sc (.int .i64 s.lab)] := rfl
def fndQ (S : List Pr) (k : Int) : Pr := (pfnd S k).getD zeroP
def hasQ (S : List Pr) (k : Int) : Bool := (pfnd S k).isSome
theorem pfndV_eq (S : List Pr) (k : Int) : pfndV S k = .tup [.agg [.sc (.int .i64 (fndQ S k).id), .sc (.int .i64 (fndQ S k).at_.x), .sc (.int .i64 (fndQ S k).at_.y), .sc (.int .i64 (fndQ S k).lab)], .sc (.bool (hasQ S k))] := by
  unfold pfndV fndQ hasQ
  cases pfnd S k <;> rfl
theorem insE_eq (S : List Pr) (rc : Pr) : insE S rc = if fits rc.at_ then (if hasQ S rc.id then 20 else 0) else 1 := rfl
def BtP (H0 : List Bk) (r b v : Nat) (l : List Pr) (k : Nat) (F : Fr) (H : List Bk) : Prop :=
  (∃ T, TrP H r b (havP (l.take k)) T ∧ Kp NoB H0 H ∧ ∀ x, T x → H0.length ≤ x) ∧ F = [(1, .v (lV l)), (6, .v (.ptr r 0)), (8, .v (lV (havP (l.take k)))), (9, .v (.sc (.int .i64 k)))]
def BtPQ (H : List Bk) (v : Int) (l : List Pr) (y : V) (H' : List Bk) : Prop := (¬ (newE v = true ∧ l.length ≤ 80) ∧ y = .tup [.sc (.pointer none), .nil] ∧ Kp NoB H H') ∨ (newE v = true ∧ l.length ≤ 80 ∧ ∃ r b T, v = (b : Nat) ∧ y = .tup [.ptr r 0, lV (havP l)] ∧ TrP H' r b (havP l) T ∧ Kp NoB H H' ∧ ∀ x, T x → H.length ≤ x)
theorem lbuiltP (v : Int) (l : List Pr) (H : List Bk) : AFn Try.prog 9 [.sc (.int .i64 v), lV l] H (BtPQ H v l) := by
  have hN := pNew v H
  unfold lV
  refine AFn.intro (fn := Try.f9) (by kernel_rfl) rfl (by kernel_rfl) (by simp) ?_
  simp only [Try.f9, argsF]
  refine AW.seq (AW.ofx [] mixed (by kernel_rfl) ?_)
  simp
  refine AW.seq (AW.ofx [] mixed (by kernel_rfl) ?_)
  simp
  refine callK.of hN ?_
  rintro y H1 ⟨hy1, hy2⟩
  cases hv : newE v with
  | false =>
    obtain ⟨rfl, rfl⟩ := hy1 hv
    simp
    refine AW.seq (AW.ofx [] mixed (by kernel_rfl) ?_)
    simp
    exact .inl ⟨by simp [hv], rfl, Kp.refl⟩
  | true =>
  obtain ⟨r, b, T, rfl, hb, t1, k1, f1⟩ := hy2 hv
  simp
  refine AW.seq (AW.ofx [] mixed (by kernel_rfl) ?_)
  by_cases hl : 80 < l.length
  · have hl' : (80 : Int) < l.length := by omega
    simp [hl']
    exact .inl ⟨fun e => by omega, rfl, k1⟩
  · have hl' : ¬ (80 : Int) < l.length := by omega
    simp [hl']
    refine AW.seq (AW.ofx [] mixed (by kernel_rfl) ?_)
    simp
    refine AW.seq (AW.seq (AW.ofx [] mixed (by kernel_rfl) ?_))
    simp
    refine AW.block (AW.count l.length (BtP H r b 0 l) ⟨_, ?_, ⟨T, t1, k1, f1⟩, rfl⟩ ?_)
    · simp [subW, weakV, getF, lV, zeroRow, havP]
    rintro k F H2 hk ⟨⟨T2, t2, k2, f2⟩, rfl⟩
    have hsp := havP_spec (l.take k)
    rw [List.length_take, Nat.min_eq_left hk] at hsp
    unfold lV
    refine AW.seq (AW.ofx [] mixed (by kernel_rfl) ?_)
    by_cases hlt : k < l.length
    · have w1 : IntKind.i64.wrap ((k : Int) + 1) = (k : Int) + 1 := by rw [wrap_i64] <;> omega
      have hsn := havP_snoc hlt
      have hFd := refFindP (havP (l.take k)) l[k].id (by omega)
      have hR := refFits l[k].at_
      have hP := refPutP (havP (l.take k)) l[k] (by omega)
      have hhp := havSP_perm (s := l[k]) hsp.1
      have hdef : havSP (havP (l.take k)) l[k] = if insE (havP (l.take k)) l[k] = 0 then putDP (havP (l.take k)) l[k] else havP (l.take k) := rfl
      have hll : (havP (l.take k)).length ≤ 80 := by omega
      unfold lV at hP hFd
      unfold Pt.v Pt.cs at hR
      simp [hlt]
      refine AW.seq (AW.block (AW.seq (AW.ofx [] mixed (by kernel_rfl) ?_)))
      simp [hlt, rowPr]
      rw [pfndV_eq] at hFd
      refine callK.pure hFd (by simp [V.closedL, V.closed, closed_flat (enc := Pr.cs) (fun _ => rfl)]) rfl ?_
      generalize fndQ (havP (l.take k)) l[k].id = pq at *
      simp
      rw [setCells_last rfl]
      have t2' := t2.app (L := [.cells ([.sc (.int .i64 pq.id), .sc (.int .i64 pq.at_.x), .sc (.int .i64 pq.at_.y), .sc (.int .i64 pq.lab)].map SV.v)])
      have k2' := Kp.app (L := [.cells ([.sc (.int .i64 pq.id), .sc (.int .i64 pq.at_.x), .sc (.int .i64 pq.at_.y), .sc (.int .i64 pq.lab)].map SV.v)]) k2
      have hI := pInsert t2' l[k] (by omega)
      have hr1 : H.length ≤ H2.length := by
        have a := f2 r t2.self
        have b := t2.lt r t2.self
        omega
      rw [prv_eq] at hI hP
      have hnxt : ∀ H3, (∃ T', TrP H3 r b (insS (havP (l.take k)) l[k]) T' ∧ ∀ x, T' x → T2 x ∨ (H2 ++ [Bk.cells ([.sc (.int .i64 pq.id), .sc (.int .i64 pq.at_.x), .sc (.int .i64 pq.at_.y), .sc (.int .i64 pq.lab)].map SV.v)]).length ≤ x) → Kp T2 (H2 ++ [Bk.cells ([.sc (.int .i64 pq.id), .sc (.int .i64 pq.at_.x), .sc (.int .i64 pq.at_.y), .sc (.int .i64 pq.lab)].map SV.v)]) H3 → ∃ T, TrP H3 r b (havP (l.take (k + 1))) T ∧ Kp NoB H H3 ∧ ∀ x, T x → H.length ≤ x := by
        rintro H3 ⟨T', t3, f3⟩ k3
        rw [hsn]
        exact ⟨T', t3.perm hhp.symm, Kp.new ((k2'.weak fun _ h => h.elim).trans (k3.weak fun x hx => .inr (f2 x hx))), fun x hx => (f3 x hx).elim (f2 x) fun h => by simp at h; omega⟩
      generalize H2 ++ [_] = H3 at *
      refine AW.seq (AW.ofx [] mixed (by kernel_rfl) ?_)
      simp [hlt, rowPr]
      refine callK.of hI ?_
      rintro y H4 ⟨rfl, k4, h4⟩
      have hn4 := hnxt H4 h4 k4
      clear hnxt h4 k4
      rw [insE_eq] at hdef ⊢
      cases hf : fits l[k].at_ with
      | false =>
        simp [hf] at hdef
        rw [hsn, hdef] at hn4
        simp
        refine AW.ofx [] mixed (by kernel_rfl) ?_
        simp
        refine AW.ofx [] mixed (by kernel_rfl) ?_
        simp [w1]
        refine ⟨_, ?_, by rw [hsn, hdef]; exact hn4, rfl⟩
        rw [hsn, hdef]
        simp [subW, weakV, getF, lV]
      | true =>
        rw [hf] at hR
        cases hh : hasQ (havP (l.take k)) l[k].id with
        | true =>
          simp [hf, hh] at hdef
          rw [hsn, hdef] at hn4
          simp
          refine AW.ofx [] mixed (by kernel_rfl) ?_
          simp
          refine AW.ofx [] mixed (by kernel_rfl) ?_
          simp [w1]
          refine ⟨_, ?_, by rw [hsn, hdef]; exact hn4, rfl⟩
          rw [hsn, hdef]
          simp [subW, weakV, getF, lV]
        | false =>
          simp [hf, hh] at hdef
          rw [hsn, hdef] at hn4
          simp [hlt, rowPr]
          refine callK.pure hR rfl rfl ?_
          simp [hlt, rowPr]
          refine AW.ofx [] mixed (by kernel_rfl) ?_
          simp [hlt, rowPr]
          refine callK.pure hP (by simp [V.closedL, V.closed, closed_flat (enc := Pr.cs) (fun _ => rfl)]) (by simp [V.closed, closed_flat (enc := Pr.cs) (fun _ => rfl)]) ?_
          simp
          refine AW.ofx [] mixed (by kernel_rfl) ?_
          simp [w1]
          refine ⟨_, ?_, by rw [hsn, hdef]; exact hn4, rfl⟩
          rw [hsn, hdef]
          simp [subW, weakV, getF, lV]
    · have hk' : k = l.length := by omega
      subst hk'
      rw [List.take_length] at t2 ⊢
      simp
      refine AW.ofx [] mixed (by kernel_rfl) ?_
      simp
      exact .inr ⟨hv, by omega, r, b, T2, hb, rfl, t2, k2, f2⟩
end Go.Proofs.Ytmjnffjacgjfmaa
