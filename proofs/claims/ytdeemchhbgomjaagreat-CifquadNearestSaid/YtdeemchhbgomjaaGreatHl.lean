/- A quadtree of shapes: how many are under a cell. -/
import Derived.Test.YtdeemchhbgomjaaGreatHk
namespace Go.Proofs.YtdeemchhbgomjaaGreat
set_option linter.all false
open Go.RowKit AM
set_option maxRecDepth 10000
attribute [local simp] aw_skip' aw_region' aw_seq' aw_cond' aw_block' aw_loop' aw_exit' aw_label' aw_ret' aops_nil' aops_cons' aop' aMove aAssign aPick aAlloc aBox aBuild slF aBuildSlice aLoad aLoadOwn aStore aStoreOwn isOwn delR aNilCheck aBin aMakeFunc aFieldAddr aField aIndexOp aIndex partV aIndexAddr aExtract aSliceOp aSlice aShrink aCallOp aCall' aInvoke' aLen aLenMap aDelete aMM aUn aConv aIface aAssert aMakeMap aLookup aMapUpdate aRange aNext aEntry entsOf keyB seekK aMakeSlice lookV aAppend putK layK eval evalV AM.valOf getF putF setF del SV.refers cellsAt rootSV plains shift ldV V.exact V.exactL V.ofValue V.ofPart V.ofCell V.cells V.one Value.oneCell' fitB qSeq qBlock getB afin aret resVs resV resTmps shareF evalS tupV valsS valsV pickV calm calmB lenV useOf feeds shrinks stows looks isT newsV partsV fillV putAt zerosV fitsNil nilB sliceB isEq isNeq awx_skip' awx_region' awx_seq' awx_cond' awx_block' awx_loop' awx_exit' awx_label' awx_ret' xops_nil' xops_cons' xop' xload xcall' addO delO inO putD memB Mix.effB Mix.laysB keysF badK subW weakV zeroRow yops_nil' yops_cons' yop' yload yindex yfield ylen oldO dropO takeO oldL exactB
attribute [local simp] awz_skip' awz_region' awz_seq' awz_cond' awz_block' awz_loop' awz_exit' awz_label' awz_ret' zops_nil' zops_cons' zop' zload zloadOwn zcall' zlenK z0 new0 remF old0 dltB

def underN (S : List Sh) (c : Ce) : Nat := if rightC c then (sub' c S).length else 0
theorem sub_sub {a c : Ce} {S : List Sh} (h : underC a c = true) : sub' c (sub' a S) = sub' c S := by
  unfold sub'
  rw [List.filter_filter]
  refine List.filter_congr fun s _ => ?_
  cases hc : underC c (hm s) with
  | false => rfl
  | true => simp [under_trans h hc]
def UnI (S : List Sh) (H : List Bk) (q : Nat) (c : Ce) (n : Nat) (F : Fr) (H1 : List Bk) : Prop :=
  H1 = H ∧ ((F = [(3, .v (.ptr q 0)), (5, .v (.sc (.pointer none)))] ∧ (sub' c S).length = 0 ∧ n = 0) ∨
    ∃ (d : Nat) (a : Ce) (b : Nat) (I : Nat → Prop), n = d ∧ F = [(3, .v (.ptr q 0)), (5, .v (.ptr b 0))] ∧ Nd H d a (sub' a S) b I ∧ underC a c = true ∧ rightC a = true ∧ (d : Int) + a.l = 17)
theorem sub_root {S : List Sh} (h : ∀ s ∈ S, rightR s.box = true) : sub' root0 S = S := List.filter_eq_self.2 fun s hs => root_under (h s hs)
theorem tunder {H : List Bk} {r : Nat} {S : List Sh} {T : Nat → Prop} (ht : TrS H r S T) (c : Ce) : AFn Tryz.prog 18 [.ptr r 0, c.v] H fun y H' => y = .sc (.int .i64 (underN S c)) ∧ Kp NoB H H' := by
  have hM := fun L => tmade (ht.app (L := L))
  obtain ⟨b, m, I, es, hb, hT⟩ := id ht
  have hr' := fun L => hget (L := L) hb.cr
  have hR := cRightC c
  unfold underN
  unfold Ce.v Ce.cs at hR ⊢
  refine AFn.intro (fn := Tryz.f18) (by kernel_rfl) rfl (by kernel_rfl) (by simp) ?_
  simp only [Tryz.f18, argsF]
  refine AW.seq (AW.ofx [(5, 9, [5, 3])] mixed (by kernel_rfl) ?_)
  simp
  refine AW.seq (AW.ofx [(5, 9, [5, 3])] mixed (by kernel_rfl) ?_)
  simp
  refine callK.of (hM _) ?_
  rintro y H1 ⟨rfl, rfl⟩
  simp
  refine callK.pure hR rfl rfl ?_
  cases hc : rightC c with
  | false =>
    simp
    exact Kp.refl.app
  | true =>
    simp
    refine AW.seq (AW.ofx [(5, 9, [5, 3])] mixed (by kernel_rfl) ?_)
    simp [hr']
    have hq : (H ++ [ceB c])[H.length]? = some (ceB c) := by simp
    have hnd := Nd.keep (Kp.refl.app (L := [ceB c]) (I := NoB)) hb.nd fun _ _ => id
    have kp : Kp NoB H (H ++ [ceB c]) := Kp.refl.app
    unfold ceB at hq hnd kp
    generalize H ++ [Bk.cells [.v (.sc (.int .i64 c.l)), .v (.sc (.int .i64 c.x)), .v (.sc (.int .i64 c.y))]] = H2 at *
    generalize H.length = q at *
    refine AW.seq (AW.block (AW.loopW (UnI S H2 q c) ⟨17, _, ?_, rfl, .inr ⟨17, root0, b, I, rfl, rfl, by rw [sub_root hb.right]; exact hnd, under_root hc, root_right, by decide⟩⟩ ?_))
    · simp [subW, weakV, getF]
    rintro n F H3 ⟨rfl, hI⟩
    rcases hI with ⟨rfl, hz, rfl⟩ | ⟨d', a, b', I', hnd', rfl, hN, hu, ha, hd⟩
    · refine AW.seq (AW.ofx [(5, 9, [5, 3])] mixed (by kernel_rfl) ?_)
      simp [hNilN']
      refine AW.ofx [(5, 9, [5, 3])] mixed (by kernel_rfl) ?_
      simp [hNilN]
      exact ⟨by omega, kp⟩
    · obtain ⟨d, rfl⟩ : ∃ d, d' = d + 1 := by
        cases d' with
        | zero => exact hN.elim
        | succ d => exact ⟨d, rfl⟩
      obtain ⟨m', es', k, J, h1, h2, h3, h4, h5, h6⟩ := id hN
      unfold nodeCs at h1
      by_cases hac : a = c
      · refine AW.seq (AW.ofx [(5, 9, [5, 3])] mixed (by kernel_rfl) ?_)
        simp [h1, hq, hEq2, hGCe, hac]
        refine AW.ofx [(5, 9, [5, 3])] mixed (by kernel_rfl) ?_
        simp [h1]
        rw [hac]
        exact ⟨rfl, kp⟩
      · have hcr := rightC_iff.1 hc
        have har := rightC_iff.1 ha
        have hlt := under_lt hu hac
        obtain ⟨i, hi, hw⟩ := way_nat a c
        have hW := cWay a c hc har.1.1 hlt
        rw [hw] at hW
        unfold Ce.v Ce.cs at hW
        have hucc : underC (childOf a (i : Nat)) c = true := (under_child_iff hi hu hac).2 hw
        have hccr := child_right (c := a) (i := (i : Nat)) ha (by omega) (by omega)
        have hss := sub_sub (S := S) (c := c) hu
        have hss2 := sub_sub (S := S) (a := a) (c := childOf a (i : Nat)) (by rw [← under_child_iff hi hu hac] at hw; exact (by
          refine underC_iff.2 ⟨by show a.l ≤ a.l + 1; omega, ?_⟩
          obtain ⟨q1, q2⟩ := underC_iff.1 hucc
          rw [← q2]
          rw [above_above (by show a.l ≤ a.l + 1; omega) q1]
          exact (underC_iff.1 hu).2))
        have h6i := h6 i hi
        rw [hss2] at h6i
        refine AW.seq (AW.ofx [(5, 9, [5, 3])] mixed (by kernel_rfl) ?_)
        simp [h1, hq, hEq2, hGCe, hac]
        refine AW.block (AW.ofz [(5, 9, [5, 3])] mixed (by kernel_rfl) ?_)
        simp [h1, hq]
        refine zcallK.of hW rfl rfl ?_
        rcases h6i with ⟨he, hki, _⟩ | ⟨he, b2, hki, hN2⟩
        · have hz : (sub' c S).length = 0 := by
            have := sub_sub (S := S) hucc
            rw [he] at this
            rw [← this]
            rfl
          clear h6
          rcases (show i = 0 ∨ i = 1 ∨ i = 2 ∨ i = 3 by omega) with rfl | rfl | rfl | rfl
          all_goals
            simp [h1, hki, kidV]
            refine ⟨0, by omega, _, ?_, rfl, .inl ⟨rfl, hz, rfl⟩⟩
            simp [subW, weakV, getF]
        · have hI2 : UnI S H3 q c d [(3, .v (.ptr q 0)), (5, .v (.ptr b2 0))] H3 := ⟨rfl, .inr ⟨d, childOf a (i : Nat), b2, J i, rfl, rfl, hN2, hucc, hccr, by show (d : Int) + (a.l + 1) = 17; omega⟩⟩
          clear h6
          rcases (show i = 0 ∨ i = 1 ∨ i = 2 ∨ i = 3 by omega) with rfl | rfl | rfl | rfl
          all_goals
            simp [h1, hki, kidV]
            refine ⟨d, by omega, _, ?_, hI2⟩
            simp [subW, weakV, getF]
end Go.Proofs.YtdeemchhbgomjaaGreat
