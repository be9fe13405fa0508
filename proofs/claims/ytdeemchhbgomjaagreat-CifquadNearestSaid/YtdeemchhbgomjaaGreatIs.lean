/- The law CifquadNearest, over the abstract memory. -/
import Derived.Test.YtdeemchhbgomjaaGreatIr
namespace Go.Proofs.YtdeemchhbgomjaaGreat
set_option linter.all false
open Go.RowKit AM
set_option maxRecDepth 10000
attribute [local simp] aw_skip' aw_region' aw_seq' aw_cond' aw_block' aw_loop' aw_exit' aw_label' aw_ret' aops_nil' aops_cons' aop' aMove aAssign aPick aAlloc aBox aBuild slF aBuildSlice aLoad aLoadOwn aStore aStoreOwn isOwn delR aNilCheck aBin aMakeFunc aFieldAddr aField aIndexOp aIndex partV aIndexAddr aExtract aSliceOp aSlice aShrink aCallOp aCall' aInvoke' aLen aLenMap aDelete aMM aUn aConv aIface aAssert aMakeMap aLookup aMapUpdate aRange aNext aEntry entsOf keyB seekK aMakeSlice lookV aAppend putK layK eval evalV AM.valOf getF putF setF del SV.refers cellsAt rootSV plains shift ldV V.exact V.exactL V.ofValue V.ofPart V.ofCell V.cells V.one Value.oneCell' fitB qSeq qBlock getB afin aret resVs resV resTmps shareF evalS tupV valsS valsV pickV calm calmB lenV useOf feeds shrinks stows looks isT newsV partsV fillV putAt zerosV fitsNil nilB sliceB isEq isNeq awx_skip' awx_region' awx_seq' awx_cond' awx_block' awx_loop' awx_exit' awx_label' awx_ret' xops_nil' xops_cons' xop' xload xcall' addO delO inO putD memB Mix.effB Mix.laysB keysF badK subW weakV zeroRow yops_nil' yops_cons' yop' yload yindex yfield ylen oldO dropO takeO oldL exactB
attribute [local simp] awz_skip' awz_region' awz_seq' awz_cond' awz_block' awz_loop' awz_exit' awz_label' awz_ret' zops_nil' zops_cons' zop' zload zloadOwn zcall' zlenK z0 new0 remF old0 dltB

/-- A label is asked. -/
theorem lkeep (lab : Int) (lb : Nat) : KeepOK (.fn (.func 11) [] [.ptr lb 0]) lb (some (.cells [.v (.sc (.int .i64 lab))])) (fun s => decide (s.lab = lab)) := by
  refine .inr ⟨_, _, rfl, rfl, fun H s h => ?_⟩
  have hq := fun L => hget (L := L) (h _ rfl)
  rw [shv_eq]
  refine AFn.intro (fn := Tryz.f11) (by kernel_rfl) rfl (by kernel_rfl) (by simp) ?_
  simp only [Tryz.f11, argsF]
  refine AW.seq (AW.ofx [] mixed (by kernel_rfl) ?_)
  simp
  refine AW.ofx [] mixed (by kernel_rfl) ?_
  simp [hq]
  exact Bool.eq_iff_iff.2 (by simp)
def kpL (lab : Int) (s : Sh) : Bool := decide (lab < 0) || decide (s.lab = lab)
def NlI (r q u : Nat) (p : Pt) (n lv lab : Int) (S : List Sh) (H0 : List Bk) (k : Nat) (F : Fr) (H : List Bk) : Prop :=
  H = H0 ∧ F = [(2, .v (.sc (.int .i64 n))), (3, .v (.sc (.int .i64 lv))), (6, .v (.ptr q 0)), (9, .v (.ptr u 0)), (11, .v (.ptr r 0)), (12, .v (slS S)), (13, ownS ((S.take k).filter (kpL lab))), (14, .v (.sc (.int .i64 k)))]
set_option maxHeartbeats 4000000 in
theorem lawNearest (l : List Sh) (p : Pt) (n lv lab : Int) (H : List Bk) : AFn Tryz.prog 3 [slS l, p.v, .sc (.int .i64 n), .sc (.int .i64 lv), .sc (.int .i64 lab)] H fun y _ => y = .sc (.bool true) := by
  have hB := fun L => lbuilt l (H ++ L)
  unfold slS at hB ⊢
  unfold Pt.v Pt.cs
  refine AFn.intro (fn := Tryz.f3) (by kernel_rfl) rfl (by kernel_rfl) (by simp) ?_
  simp only [Tryz.f3, argsF]
  refine AW.seq (AW.ofx [(11, 9, [11, 6, 2, 3, 13])] mixed (by kernel_rfl) ?_)
  simp
  refine AW.seq (AW.ofx [(11, 9, [11, 6, 2, 3, 13])] mixed (by kernel_rfl) ?_)
  simp
  refine callK.of (hB _) ?_
  rintro y H1 (⟨hl, rfl, k1⟩ | ⟨hl, r, T, rfl, t1, k1, f1⟩)
  · have hl' : (80 : Int) < l.length := by omega
    simp
    refine AW.seq (AW.seq (AW.ofx [(11, 9, [11, 6, 2, 3, 13])] mixed (by kernel_rfl) ?_))
    simp [nilTrE]
    refine AW.ofx [(11, 9, [11, 6, 2, 3, 13])] mixed (by kernel_rfl) ?_
    simp [hl']
    refine callK.of (lknown _) ?_
    rintro y H2 ⟨rfl, k2⟩
    simp
  · have hpb := k1.cells (i := H.length) (fun h => h) (by simp; rfl)
    have hlb := k1.cells (i := H.length + 1) (fun h => h) (by simp; rfl)
    have hsp := hav_spec l
    generalize hav l = S at *
    simp
    refine AW.seq (AW.seq (AW.ofx [(11, 9, [11, 6, 2, 3, 13])] mixed (by kernel_rfl) ?_))
    simp
    refine AW.ofx [(11, 9, [11, 6, 2, 3, 13])] mixed (by kernel_rfl) ?_
    simp
    refine AW.seq (AW.ofx [(11, 9, [11, 6, 2, 3, 13])] mixed (by kernel_rfl) ?_)
    simp
    refine AW.seq (AW.seq (AW.ofx [(11, 9, [11, 6, 2, 3, 13])] mixed (by kernel_rfl) ?_))
    simp
    refine AW.block (AW.count S.length (NlI r H.length (H.length + 1) p n lv lab S H1) ⟨_, ?_, rfl, rfl⟩ ?_)
    · simp [subW, weakV, getF, slS, zeroRow, ownS]
    rintro k F H2 hk ⟨rfl, rfl⟩
    have hle : ((S.take k).filter (kpL lab)).length ≤ k := by
      have e1 : ((S.take k).filter (kpL lab)).length ≤ (S.take k).length := List.length_filter_le _ _
      rw [List.length_take] at e1
      omega
    by_cases hlt : k < S.length
    · have w1 : IntKind.i64.wrap ((k : Int) + 1) = (k : Int) + 1 := by rw [wrap_i64] <;> omega
      have r1 := rowSh hlt
      have hsn : (S.take (k + 1)).filter (kpL lab) = (S.take k).filter (kpL lab) ++ (if kpL lab S[k] then [S[k]] else []) := by
        rw [take_snoc hlt, List.filter_append]
        congr 1
        simp [List.filter_cons]
      generalize hfl : (S.take k).filter (kpL lab) = fl at *
      unfold ownS slS
      refine AW.seq (AW.seq (AW.ofx [(11, 9, [11, 6, 2, 3, 13])] mixed (by kernel_rfl) ?_))
      simp [hlt]
      refine AW.ofx [(11, 9, [11, 6, 2, 3, 13])] mixed (by kernel_rfl) ?_
      simp
      refine AW.seq (AW.block (AW.seq (AW.ofx [(11, 9, [11, 6, 2, 3, 13])] mixed (by kernel_rfl) ?_)))
      by_cases c1 : lab < 0
      · have hkp : kpL lab S[k] = true := by simp [kpL, c1]
        rw [if_pos hkp] at hsn
        simp [hlb, c1]
        refine AW.ofx [(11, 9, [11, 6, 2, 3, 13])] mixed (by kernel_rfl) ?_
        simp [hlt, r1]
        refine ⟨by omega, ?_⟩
        refine AW.ofx [(11, 9, [11, 6, 2, 3, 13])] mixed (by kernel_rfl) ?_
        simp [w1]
        refine ⟨_, ?_, rfl, rfl⟩
        rw [hsn]
        simp [subW, weakV, getF, ownS, slS, Sh.cs]
      · by_cases c2 : S[k].lab = lab
        · have hkp : kpL lab S[k] = true := by simp [kpL, c2]
          rw [if_pos hkp] at hsn
          simp [hlb, c1, c2, hlt, r1]
          refine AW.ofx [(11, 9, [11, 6, 2, 3, 13])] mixed (by kernel_rfl) ?_
          simp [hlt, r1]
          refine ⟨by omega, ?_⟩
          refine AW.ofx [(11, 9, [11, 6, 2, 3, 13])] mixed (by kernel_rfl) ?_
          simp [w1]
          refine ⟨_, ?_, rfl, rfl⟩
          rw [hsn]
          simp [subW, weakV, getF, ownS, slS, Sh.cs]
        · have hkp : kpL lab S[k] = false := by simp [kpL, c1, c2]
          rw [hkp] at hsn
          simp only [Bool.false_eq_true, if_false, List.append_nil] at hsn
          have c2' : (S[k].lab == lab) = false := by simpa using c2
          simp [hlb, c1, c2, c2', hlt, r1]
          refine AW.ofx [(11, 9, [11, 6, 2, 3, 13])] mixed (by kernel_rfl) ?_
          simp
          refine AW.ofx [(11, 9, [11, 6, 2, 3, 13])] mixed (by kernel_rfl) ?_
          simp [w1]
          refine ⟨_, ?_, rfl, rfl⟩
          rw [hsn]
          simp [subW, weakV, getF, ownS, slS]
    · have hk' : k = S.length := by omega
      subst hk'
      rw [List.take_length]
      have hKi : ((S.filter (kpL lab)).map Sh.id).Nodup := (hsp.1.filter _).nodup
      have hKl : (S.filter (kpL lab)).length ≤ S.length := List.length_filter_le _ _
      generalize hK : S.filter (kpL lab) = K at *
      have hD := fun H => dnear K (by omega) hKi p n lv H
      unfold Pt.v Pt.cs slS at hD
      unfold ownS slS
      refine AW.seq (AW.seq (AW.ofx [(11, 9, [11, 6, 2, 3, 13])] mixed (by kernel_rfl) ?_))
      simp
      refine AW.ofx [(11, 9, [11, 6, 2, 3, 13])] mixed (by kernel_rfl) ?_
      simp
      refine AW.seq (AW.seq (AW.ofx [(11, 9, [11, 6, 2, 3, 13])] mixed (by kernel_rfl) ?_))
      simp [hlb]
      refine AW.asSl 13 rfl ?_
      by_cases c1 : lab < 0
      · have hTn := tnear t1 (by omega) p n lv (.sc .nilFunc) (fun _ => true) noKeep (fun _ h => by cases h)
        unfold Pt.v Pt.cs at hTn
        have hKS : K = S.filter (fun _ => true) := by
          rw [← hK]
          exact List.filter_congr fun s _ => by simp [kpL, c1]
        refine AW.cond true (by simp [getB, getF, setF, eval, c1]) (fun _ => AW.seq (AW.ofx [(11, 9, [11, 6, 2, 3, 13])] mixed (by kernel_rfl) ?_)) (fun h => by cases h)
        simp [hpb]
        refine callK.of hTn ?_
        rintro y H3 ⟨R, rfl, hR, k3⟩
        have hk3 := k3.keepS fun _ h => h
        simp [hpb, hk3, slS]
        refine callK.of (hD _) ?_
        rintro y H4 ⟨R', rfl, hR', rfl⟩
        obtain rfl := near_same hKS hKi hR hR'
        have hSm := refSame R R (by have := near_len hR; omega)
        simp at hSm
        unfold slS at hSm
        have kp4 : Kp NoB H2 (H3 ++ [ptB p]) := k3.app
        have hk4 := kp4.keepS fun _ h => h
        simp [hk4, slS]
        refine callK.pure hSm (slS_closed2' _ _) rfl ?_
        simp [hk4]
        refine callK.of (lknown _) ?_
        rintro y H5 ⟨rfl, k5⟩
        have hk5 := (kp4.trans k5).keepS fun _ h => h
        simp [hk5]
        refine AW.ofx [(11, 9, [11, 6, 2, 3, 13])] mixed (by kernel_rfl) ?_
        simp
      · have hTn := tnear t1 (by omega) p n lv _ _ (lkeep lab (H.length + 1)) (fun x hx => by
          cases hx
          exact ⟨hlb, fun _ _ _ e => by cases e⟩)
        unfold Pt.v Pt.cs at hTn
        have hKS : K = S.filter (fun s => decide (s.lab = lab)) := by
          rw [← hK]
          exact List.filter_congr fun s _ => by simp [kpL, c1]
        refine AW.cond false (by simp [getB, getF, setF, eval, c1]) (fun h => by cases h) (fun _ => ?_)
        refine AW.ofx [(11, 9, [11, 6, 2, 3, 13])] mixed (by kernel_rfl) ?_
        simp
        refine AW.seq (AW.ofx [(11, 9, [11, 6, 2, 3, 13])] mixed (by kernel_rfl) ?_)
        simp [hpb]
        refine callK.of hTn ?_
        rintro y H3 ⟨R, rfl, hR, k3⟩
        have hpb3 := k3.cells (fun h => h) hpb
        simp [slS]
        refine AW.ofx [(11, 9, [11, 6, 2, 3, 13])] mixed (by kernel_rfl) ?_
        simp [hpb3]
        refine callK.of (hD _) ?_
        rintro y H4 ⟨R', rfl, hR', rfl⟩
        obtain rfl := near_same hKS hKi hR hR'
        have hSm := refSame R R (by have := near_len hR; omega)
        simp at hSm
        unfold slS at hSm
        simp [slS]
        refine callK.pure hSm (slS_closed2' _ _) rfl ?_
        simp
        refine callK.of (lknown _) ?_
        rintro y H5 ⟨rfl, k5⟩
        simp
theorem lawNearest0 (l : List Sh) (p : Pt) (n lv lab : Int) : PFn Tryz.prog 3 [slS l, p.v, .sc (.int .i64 n), .sc (.int .i64 lv), .sc (.int .i64 lab)] (.sc (.bool true)) := lawNearest l p n lv lab []
end Go.Proofs.YtdeemchhbgomjaaGreat
