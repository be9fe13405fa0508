/- The law PtquadWindows, over the abstract memory. -/
import Derived.Test.YtmjnffjacgjfmaaJr
namespace Go.Proofs.Ytmjnffjacgjfmaa
set_option linter.all false
open Go.RowKit AM
set_option maxRecDepth 10000
attribute [local simp] aw_skip' aw_region' aw_seq' aw_cond' aw_block' aw_loop' aw_exit' aw_label' aw_ret' aops_nil' aops_cons' aop' aMove aAssign aPick aAlloc aBox aBuild slF aBuildSlice aLoad aLoadOwn aLoadS sharesAt shares sharedV aStore aStoreOwn isOwn delR aNilCheck aBin aMakeFunc aFieldAddr aField aIndexOp aIndex partV aIndexAddr aExtract aSliceOp aSlice slV aShrink aCallOp aCall' aInvoke' aLen aLenMap aDelete aMM aUn aConv aIface aAssert aMakeMap aLookup aMapUpdate aRange aNext aEntry entsOf keyB seekK aMakeSlice lookV aApp aAppendB aAppendF aAppend putK layK eval evalV AM.valOf getF putF setF del SV.refers cellsAt rootSV plains shift ldV V.exact V.exactL V.ofValue V.ofPart V.ofCell V.cells V.one Value.oneCell' fitB qSeq qBlock getB afin aret resVs resV resTmps shareF evalS tupV valsS valsV pickV calm calmB lenV useOf feeds shrinks stows looks isT newsV partsV fillV putAt zerosV fitsNil nilB sliceB isEq isNeq awx_skip' awx_region' awx_seq' awx_cond' awx_block' awx_loop' awx_exit' awx_label' awx_ret' xops_nil' xops_cons' xop' xload xcall' addO delO inO putD memB Mix.effB Mix.laysB keysF badK subW weakV zeroRow yops_nil' yops_cons' yop' yload yindex yfield ylen oldO dropO takeO oldL exactB V.fixed V.fixedL
attribute [local simp] awz_skip' awz_region' awz_seq' awz_cond' awz_block' awz_loop' awz_exit' awz_label' awz_ret' zops_nil' zops_cons' zop' zload zloadOwn zcall' zlenK z0 new0 remF old0 dltB
theorem lV_closed1 (zs : List Pr) : V.closed (.sl zs.length 4 (zs.flatMap Pr.cs)) = true := by simp [V.closed, closed_flat (enc := Pr.cs) (fun _ => rfl)]
theorem lV_closedR (zs : List Pr) (r : Re) : V.closedL [.sl zs.length 4 (zs.flatMap Pr.cs), .agg [.sc (.int .i64 r.x0), .sc (.int .i64 r.y0), .sc (.int .i64 r.x1), .sc (.int .i64 r.y1)]] = true := by simp [V.closedL, V.closed, closed_flat (enc := Pr.cs) (fun _ => rfl)]
theorem lV_closed2 (zs ys : List Pr) : V.closedL [.sl zs.length 4 (zs.flatMap Pr.cs), .sl ys.length 4 (ys.flatMap Pr.cs)] = true := by simp [V.closedL, V.closed, closed_flat (enc := Pr.cs) (fun _ => rfl)]
theorem lV_closedI (zs : List Pr) (i : Int) : V.closedL [.sl zs.length 4 (zs.flatMap Pr.cs), .sc (.int .i64 i)] = true := by simp [V.closedL, V.closed, closed_flat (enc := Pr.cs) (fun _ => rfl)]
theorem lV_closedP (zs : List Pr) (s : Pr) : V.closedL [.sl zs.length 4 (zs.flatMap Pr.cs), .agg [.sc (.int .i64 s.id), .sc (.int .i64 s.at_.x), .sc (.int .i64 s.at_.y), .sc (.int .i64 s.lab)]] = true := by simp [V.closedL, V.closed, closed_flat (enc := Pr.cs) (fun _ => rfl)]
theorem win_filter {rc : Re} {S : List Pr} (hi : IncP S) : winL rc S = S.filter fun x => hasR rc x.at_ := by
  unfold winL
  cases hb : rightR rc with
  | true => exact (hi.filter _).sort
  | false =>
    refine (List.filter_eq_nil_iff.2 fun s _ e => ?_).symm
    have := (hasR_iff.1 e).1
    rw [hb] at this
    cases this
theorem Kp.keepP {I : Nat → Prop} {H H1 : List Bk} (h : Kp I H H1) (hI : ∀ x, ¬ I x) : keepS H H1 = True := eq_true fun id ks hk _ => h.cells (hI id) hk
set_option maxHeartbeats 2000000 in
theorem lawWindows (v : Int) (l : List Pr) (r : Re) (H : List Bk) : AFn Try.prog 6 [.sc (.int .i64 v), lV l, r.v] H fun y _ => y = .sc (.bool true) := by
  have hB := fun L => lbuiltP v l (H ++ L)
  unfold lV at hB ⊢
  unfold Re.v Re.cs
  refine AFn.intro (fn := Try.f6) (by kernel_rfl) rfl (by kernel_rfl) (by simp) ?_
  simp only [Try.f6, argsF]
  refine AW.seq (AW.ofx [] mixed (by kernel_rfl) ?_)
  simp
  refine AW.seq (AW.ofx [] mixed (by kernel_rfl) ?_)
  simp
  refine callK.of (hB _) ?_
  rintro y H1 (⟨hl, rfl, k1⟩ | ⟨hv, hl, q, b, T, hb, rfl, t1, k1, f1⟩)
  · simp
    refine AW.seq (AW.ofx [] mixed (by kernel_rfl) ?_)
    simp [nilPtE]
    refine callK.of (lknownP _) ?_
    rintro y H2 ⟨rfl, k2⟩
    simp
  · have hbc := k1.cells (i := H.length) (fun h => h) (by simp; rfl)
    have hsp := havP_spec l
    have hW := fun {Hx} (t : TrP Hx q b (havP l) T) => pWindow t r
    have hC := fun {Hx} (t : TrP Hx q b (havP l) T) => pCount t r
    have e1 := win_filter (rc := r) hsp.1
    simp only [e1] at hW hC
    have hD := refWindowP (havP l) r (by omega)
    have hA1 : ((havP l).filter fun t => hasR r t.at_).length ≤ (havP l).length := List.length_filter_le _ _
    have hS := refSameP ((havP l).filter fun t => hasR r t.at_) ((havP l).filter fun t => hasR r t.at_) (by omega)
    generalize ((havP l).filter fun t => hasR r t.at_) = A at *
    generalize havP l = S at *
    unfold lV at hW hD hS
    unfold Re.v Re.cs at hW hC hD
    simp [lV]
    refine AW.seq (AW.ofx [] mixed (by kernel_rfl) ?_)
    simp
    refine AW.seq (AW.ofx [] mixed (by kernel_rfl) ?_)
    simp [hbc]
    refine callK.pure hD (lV_closedR _ _) (lV_closed1 _) ?_
    simp
    refine AW.ofx [] mixed (by kernel_rfl) ?_
    simp [hbc]
    refine callK.of (hW t1) ?_
    rintro y H2 ⟨rfl, k2⟩
    have t2 := t1.keep0 k2
    have hk2 := k2.keepP fun _ h => h
    have hbc2 := k2.cells (fun h => h) hbc
    simp [hk2]
    refine callK.pure hS (lV_closed2 _ _) rfl ?_
    simp [hbc2, hk2]
    refine callK.of (hC t2) ?_
    rintro y H3 ⟨rfl, k3⟩
    have t3 := t2.keep0 k3
    have hk3 := (k2.trans k3).keepP fun _ h => h
    simp [hk3]
    refine callK.of (pLen t3) ?_
    rintro y H4 ⟨rfl, rfl⟩
    simp [hk3]
    refine callK.of (lknownP _) ?_
    rintro y H5 ⟨rfl, k5⟩
    have hk5 := ((k2.trans k3).trans k5).keepP fun _ h => h
    simp [hk5]
theorem lawWindows0 (v : Int) (l : List Pr) (r : Re) : PFn Try.prog 6 [.sc (.int .i64 v), lV l, r.v] (.sc (.bool true)) := lawWindows v l r []
end Go.Proofs.Ytmjnffjacgjfmaa
