/- The law CifquadUnder, over the abstract memory. -/
import Derived.Test.YtdeemchhbgomjaaGreatHq
namespace Go.Proofs.YtdeemchhbgomjaaGreat
set_option linter.all false
open Go.RowKit AM
set_option maxRecDepth 10000
attribute [local simp] aw_skip' aw_region' aw_seq' aw_cond' aw_block' aw_loop' aw_exit' aw_label' aw_ret' aops_nil' aops_cons' aop' aMove aAssign aPick aAlloc aBox aBuild slF aBuildSlice aLoad aLoadOwn aStore aStoreOwn isOwn delR aNilCheck aBin aMakeFunc aFieldAddr aField aIndexOp aIndex partV aIndexAddr aExtract aSliceOp aSlice aShrink aCallOp aCall' aInvoke' aLen aLenMap aDelete aMM aUn aConv aIface aAssert aMakeMap aLookup aMapUpdate aRange aNext aEntry entsOf keyB seekK aMakeSlice lookV aAppend putK layK eval evalV AM.valOf getF putF setF del SV.refers cellsAt rootSV plains shift ldV V.exact V.exactL V.ofValue V.ofPart V.ofCell V.cells V.one Value.oneCell' fitB qSeq qBlock getB afin aret resVs resV resTmps shareF evalS tupV valsS valsV pickV calm calmB lenV useOf feeds shrinks stows looks isT newsV partsV fillV putAt zerosV fitsNil nilB sliceB isEq isNeq awx_skip' awx_region' awx_seq' awx_cond' awx_block' awx_loop' awx_exit' awx_label' awx_ret' xops_nil' xops_cons' xop' xload xcall' addO delO inO putD memB Mix.effB Mix.laysB keysF badK subW weakV zeroRow yops_nil' yops_cons' yop' yload yindex yfield ylen oldO dropO takeO oldL exactB
attribute [local simp] awz_skip' awz_region' awz_seq' awz_cond' awz_block' awz_loop' awz_exit' awz_label' awz_ret' zops_nil' zops_cons' zop' zload zloadOwn zcall' zlenK z0 new0 remF old0 dltB

theorem und_iff {S : List Sh} (hS : ∀ s ∈ S, rightR s.box = true) (c : Ce) : (S.filter (undP c)).length = underN S c := by
  unfold underN
  by_cases hc : rightC c = true
  · rw [if_pos hc]
    unfold sub'
    congr 1
    refine List.filter_congr fun s hs => ?_
    have h0 := (rightC_iff.1 hc).1.1
    have hr := home_right (hS s hs)
    have hh : homeR s.box = (hm s, true) := by simp [homeR, hS s hs, hm]
    rw [Bool.eq_iff_iff, underC_iff]
    unfold undP
    rw [hh]
    unfold aboveR
    have hr' : rightC (hm s) = true := hr
    by_cases hl : c.l ≤ (hm s).l
    · simp [hr', h0, hl]
    · simp [hr', h0, hl, Ce.zero]
  · rw [if_neg hc]
    rw [List.length_eq_zero_iff, List.filter_eq_nil_iff]
    intro s hs h
    have hr := home_right (hS s hs)
    have hh : homeR s.box = (hm s, true) := by simp [homeR, hS s hs, hm]
    unfold undP at h
    rw [hh] at h
    unfold aboveR at h
    have hr' : rightC (hm s) = true := hr
    by_cases hl : 0 ≤ c.l ∧ c.l ≤ (hm s).l
    · simp [hr', hl] at h
      have := above_right hr' hl.1 hl.2
      rw [h] at this
      exact hc this
    · have : (decide (0 ≤ c.l ∧ c.l ≤ (hm s).l)) = false := decide_eq_false hl
      rw [this] at h
      simp at h
theorem hav_right (l : List Sh) : ∀ s ∈ hav l, rightR s.box = true := by
  have go : ∀ n, n ≤ l.length → ∀ s ∈ hav (l.take n), rightR s.box = true := by
    intro n
    induction n with
    | zero => intro _ s hs; simp [hav] at hs
    | succ n ih =>
      intro hn s hs
      rw [hav_snoc (by omega)] at hs
      have hi := (hav_spec (l.take n)).1
      have := (havS_perm (s := l[n]) hi).mem_iff.1 hs
      unfold putS at this
      split at this
      · rename_i h
        rcases List.mem_cons.1 this with rfl | h2
        · exact h
        · exact ih (by omega) s (List.mem_filter.1 h2).1
      · exact ih (by omega) s this
  have := go l.length (Nat.le_refl _)
  rwa [List.take_length] at this
theorem under_zero (S : List Sh) (hS : ∀ s ∈ S, rightR s.box = true) : underN S ⟨0, 0, 0⟩ = S.length := by
  unfold underN
  rw [if_pos (by decide)]
  have := sub_root hS
  unfold root0 at this
  rw [this]
theorem Kp.keepS {I : Nat → Prop} {H H1 : List Bk} (h : Kp I H H1) (hI : ∀ x, ¬ I x) : keepS H H1 = True := eq_true fun id ks hk _ => h.cells (hI id) hk
end Go.Proofs.YtdeemchhbgomjaaGreat
