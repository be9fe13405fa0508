/- Grant: the law GrantPatches, walked. -/
import Derived.Test.YtmkeeghjpdnknaaKv
namespace Go.Proofs.Ytmkeeghjpdnknaa
set_option linter.all false
open Go.RowKit AM Can
set_option maxRecDepth 10000
attribute [local simp] aw_skip' aw_region' aw_seq' aw_cond' aw_block' aw_loop' aw_exit' aw_label' aw_ret' aops_nil' aops_cons' aop' aMove aAssign aPick aAlloc aBox aBuild slF aBuildSlice aLoad aLoadOwn aStore aStoreOwn isOwn delR aNilCheck aBin aMakeFunc aFieldAddr aField aIndexAddr aExtract aSliceOp aSlice aCallOp aCall' aLen aLenMap aDelete aMM aUn aConv aIface aAssert aMakeMap aLookup aMapUpdate aRange aNext aEntry entsOf keyB seekK aMakeSlice lookV aAppend putK layK eval evalV AM.valOf getF putF setF del SV.refers cellsAt rootSV plains shift ldV V.exact V.exactL V.ofValue V.ofPart V.ofCell V.cells V.one Value.oneCell' fitB qSeq qBlock getB afin aret resVs resV resTmps shareF evalS tupV valsS valsV pickV calm calmB lenV useOf feeds looks isT newsV partsV fillV putAt zerosV fitsNil nilB sliceB isEq isNeq awx_skip' awx_region' awx_seq' awx_cond' awx_block' awx_loop' awx_exit' awx_label' awx_ret' xops_nil' xops_cons' xop' xload xcall' addO delO inO putD memB Mix.effB Mix.laysB keysF badK subW weakV zeroRow yops_nil' yops_cons' yop' yload yindex yfield ylen oldO dropO takeO oldL exactB
attribute [local simp] awz_skip' awz_region' awz_seq' awz_cond' awz_block' awz_loop' awz_exit' awz_label' awz_ret' zops_nil' zops_cons' zop' zload zcall' z0 new0 remF old0 dltB

theorem boolEqG {x y : Operand} {u v : Bool} : binR Try.prog .eql 4 x y (.bool u) (.bool v) = some (.bool (u == v)) := by cases u <;> cases v <;> kernel_rfl
theorem rel_sl_len {I : Nat → Nat → Option Value} {φ : List Nat} {n sz : Nat} {cs : List V} {v : Value} (h : Rel I φ (.sl n sz cs) v) : n ≤ 9223372036854775807 := by
  cases h with
  | sl _ _ _ h1 h2 _ =>
    unfold maxLen at h2
    omega
  | sl0 => simp
theorem rel_slU_len {I : Nat → Nat → Option Value} {φ : List Nat} {l : List Ru} {v : Value} (h : Rel I φ (slU l) v) : l.length ≤ 9223372036854775807 := rel_sl_len h
theorem boxes_right {l : List Ru} (ha : l.all ruRight = true) : ∀ b ∈ boxesU l, rightR b = true := fun b hb => by
  obtain ⟨r, hr, hb⟩ := List.mem_flatMap.1 hb
  have h := List.all_eq_true.1 ha r hr
  unfold ruRight at h
  split at h
  · simp at h
    rw [h.1.2] at hb
    cases hb
  · simp at h
    exact h.1.2 b hb
set_option maxHeartbeats 16000000 in
theorem patchesLaw (l : List Ru) (a : Wh) (hl : l.length ≤ 1048576) (hn : (boxesU l).length ≤ 1048576) : AFn Try.prog 8 [slU l, a.v] [] fun y _ => y = .sc (.bool true) := by
  have hb := rule_le hn
  have hb' : ∀ r ∈ l, r.boxes.length ≤ 9223372036854775807 := fun r hr => by have := hb r hr; omega
  have c1 := slU_closed l
  have hK := fun H => lknownG H
  have hA := refAll l (by omega) hb'
  by_cases h32 : 32 < l.length
  · have hN := gnewLong l h32
    have h32' : (32 : Int) < l.length := by omega
    unfold newV at hN
    unfold Wh.v Wh.cs
    refine AFn.intro (fn := Try.f8) (by kernel_rfl) rfl (by kernel_rfl) (by simp) (AW.ofx [(11, 23, [0, 7, 3, 5])] mixed (by kernel_rfl) ?_)
    simp only [Try.f8, argsF]
    simp
    refine callK.pure hN (by simp [V.closedL, c1]) rfl ?_
    simp [neqTb, slU, h32', h32]
    refine callK.of (hK _) ?_
    rintro y H ⟨rfl, hs⟩
    simp
  have h32' : ¬ (32 : Int) < l.length := by omega
  cases ha : l.all ruRight with
  | false =>
    have hN := gnewArg l (by omega) hb' ha
    rw [ha] at hA
    unfold newV at hN
    unfold Wh.v Wh.cs
    refine AFn.intro (fn := Try.f8) (by kernel_rfl) rfl (by kernel_rfl) (by simp) (AW.ofx [(11, 23, [0, 7, 3, 5])] mixed (by kernel_rfl) ?_)
    simp only [Try.f8, argsF]
    simp
    refine callK.pure hN (by simp [V.closedL, c1]) rfl ?_
    unfold slU at hA c1
    simp [neqTb, slU, h32', h32]
    refine callK.pure hA (by simp [V.closedL, c1]) rfl ?_
    simp [neqTb]
    refine callK.of (hK _) ?_
    rintro y H ⟨rfl, hs⟩
    simp
  | true =>
    have hN := gnew l (by omega) (fun r hr => by have := hb r hr; omega) ha [whB a]
    rw [ha] at hA
    unfold whB at hN
    unfold Wh.v Wh.cs
    refine AFn.intro (fn := Try.f8) (by kernel_rfl) rfl (by kernel_rfl) (by simp) (AW.ofx [(11, 23, [0, 7, 3, 5])] mixed (by kernel_rfl) ?_)
    simp only [Try.f8, argsF]
    simp
    refine callK.of hN ?_
    rintro y H1 ⟨t, m, rfl, hT, ht, hm, hs⟩
    have b0 := hs.cells (i := 0) rfl
    simp only [List.length_cons, List.length_nil] at hm
    have c1' := c1
    unfold slU at hA c1'
    have c2 : V.closedL (List.flatMap Ru.cs l) = true := by simpa [V.closed] using c1'
    simp [neqTb, slU, h32', h32, b0]
    refine callK.pure hA (by simp [V.closedL, c1']) rfl ?_
    simp [neqTb, b0]
    have hG := gPatches l a.ro a.ti a.la (by omega) hn t m [] H1 hT (fun e he => by cases he)
    refine callK.of hG ?_
    rintro y H2 ⟨rfl, hK2⟩
    have d0 := hK2.see (by omega) b0
    have k2 := hK2.keep hT
    obtain ⟨⟨es2, hT2, hM2⟩, _⟩ := hK2
    have hR := lright a.ro a.ti a.la
    simp [d0]
    refine callK.pure hR rfl rfl ?_
    cases e : numsU a.ro a.ti a.la with
    | false =>
      simp [slP]
      refine callK.of (hK _) ?_
      rintro y H3 ⟨rfl, hs3⟩
      simp
    | true =>
      have hS := lsmallU l (by omega) (fun r hr => by have := hb r hr; omega)
      have hC := gCloaks l a.ro (by omega) hb' t m es2 H2 hT2 hM2
      have hD := refCloaks l a.ro (by omega) hb'
      rw [← cloaks_doc] at hD
      unfold slU at hS hD
      simp [d0]
      refine callK.pure hS (by simp [V.closedL, c1']) rfl ?_
      cases es : smallU l with
      | false =>
        simp [d0]
        refine callK.of hC ?_
        rintro y H3 ⟨rfl, hK3⟩
        have d0' := hK3.see (by omega) d0
        have k3 := hK3.keep hT2
        simp [d0, d0']
        refine ⟨k3, ?_⟩
        refine callK.pure hD (by simp [V.closedL, V.closed, c2]) rfl ?_
        simp [d0, d0', boolEqG]
        refine callK.of (hK _) ?_
        rintro y H4 ⟨rfl, hs4⟩
        simp
      | true =>
        have hsm := of_decide_eq_true es
        have hP := refPatches l a.ro a.ti a.la (by omega) (by omega) (boxes_right ha)
        rw [← pat_doc ha] at hP
        have hPl := patF_len l a.ro a.ti a.la
        have hSm := refSameP (patF l a.ro a.ti a.la) (patF l a.ro a.ti a.la) (by omega)
        have cP := slP_closed (patF l a.ro a.ti a.la)
        rw [decide_eq_true rfl] at hSm
        unfold slU at hP
        simp [d0]
        refine callK.pure hP (by simp [V.closedL, V.closed, c2]) cP ?_
        simp [d0]
        refine callK.pure hSm (by simp [V.closedL, cP]) rfl ?_
        simp [d0]
        refine callK.of hC ?_
        rintro y H3 ⟨rfl, hK3⟩
        have d0' := hK3.see (by omega) d0
        have k3 := hK3.keep hT2
        simp [d0, d0']
        refine ⟨k3, ?_⟩
        refine callK.pure hD (by simp [V.closedL, V.closed, c2]) rfl ?_
        simp [d0, d0', boolEqG]
        refine callK.of (hK _) ?_
        rintro y H4 ⟨rfl, hs4⟩
        simp
end Go.Proofs.Ytmkeeghjpdnknaa
