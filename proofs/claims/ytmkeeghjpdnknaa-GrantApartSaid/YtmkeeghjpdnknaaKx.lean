/- Grant: the law GrantShapes, walked. -/
import Derived.Test.YtmkeeghjpdnknaaKw
namespace Go.Proofs.Ytmkeeghjpdnknaa
set_option linter.all false
open Go.RowKit AM Can
set_option maxRecDepth 10000
attribute [local simp] aw_skip' aw_region' aw_seq' aw_cond' aw_block' aw_loop' aw_exit' aw_label' aw_ret' aops_nil' aops_cons' aop' aMove aAssign aPick aAlloc aBox aBuild slF aBuildSlice aLoad aLoadOwn aStore aStoreOwn isOwn delR aNilCheck aBin aMakeFunc aFieldAddr aField aIndexAddr aExtract aSliceOp aSlice aCallOp aCall' aLen aLenMap aDelete aMM aUn aConv aIface aAssert aMakeMap aLookup aMapUpdate aRange aNext aEntry entsOf keyB seekK aMakeSlice lookV aAppend putK layK eval evalV AM.valOf getF putF setF del SV.refers cellsAt rootSV plains shift ldV V.exact V.exactL V.ofValue V.ofPart V.ofCell V.cells V.one Value.oneCell' fitB qSeq qBlock getB afin aret resVs resV resTmps shareF evalS tupV valsS valsV pickV calm calmB lenV useOf feeds looks isT newsV partsV fillV putAt zerosV fitsNil nilB sliceB isEq isNeq awx_skip' awx_region' awx_seq' awx_cond' awx_block' awx_loop' awx_exit' awx_label' awx_ret' xops_nil' xops_cons' xop' xload xcall' addO delO inO putD memB Mix.effB Mix.laysB keysF badK subW weakV zeroRow yops_nil' yops_cons' yop' yload yindex yfield ylen oldO dropO takeO oldL exactB
attribute [local simp] awz_skip' awz_region' awz_seq' awz_cond' awz_block' awz_loop' awz_exit' awz_label' awz_ret' zops_nil' zops_cons' zop' zload zcall' z0 new0 remF old0 dltB

/-- What the program tells of a rectangle. -/
def ofV (l : List Ru) (ro ti la : Int) (r : Re) : Int := if numsU ro ti la && rightR r then ofP (patF l ro ti la) r else 0
set_option maxHeartbeats 16000000 in
theorem shapesLaw (l : List Ru) (a : Wh) (r : Re) (hl : l.length ≤ 9223372036854775807) (hb : ∀ r ∈ l, r.boxes.length ≤ 4398046511104) : AFn Try.prog 4 [slU l, a.v, r.v] [] fun y _ => y = .sc (.bool true) := by
  have hb' : ∀ r ∈ l, r.boxes.length ≤ 9223372036854775807 := fun r hr => by have := hb r hr; omega
  have c1 := slU_closed l
  have hK := fun H => lknownG H
  have hS := lsmallU l (by omega) hb
  by_cases h32 : 32 < l.length
  · have hN := gnewLong l h32
    unfold newV at hN
    unfold Wh.v Wh.cs Re.v Re.cs
    refine AFn.intro (fn := Try.f4) (by kernel_rfl) rfl (by kernel_rfl) (by simp) (AW.ofx [] mixed (by kernel_rfl) ?_)
    simp only [Try.f4, argsF]
    simp
    refine callK.pure hN (by simp [V.closedL, c1]) rfl ?_
    simp [neqTb]
    refine callK.of (hK _) ?_
    rintro y H ⟨rfl, hs⟩
    simp
  cases ha : l.all ruRight with
  | false =>
    have hN := gnewArg l (by omega) hb' ha
    unfold newV at hN
    unfold Wh.v Wh.cs Re.v Re.cs
    refine AFn.intro (fn := Try.f4) (by kernel_rfl) rfl (by kernel_rfl) (by simp) (AW.ofx [] mixed (by kernel_rfl) ?_)
    simp only [Try.f4, argsF]
    simp
    refine callK.pure hN (by simp [V.closedL, c1]) rfl ?_
    simp [neqTb]
    refine callK.of (hK _) ?_
    rintro y H ⟨rfl, hs⟩
    simp
  | true =>
    have hN := gnew l (by omega) hb ha [whB a, reB r]
    have hRr := refRightR r
    unfold whB reB at hN
    unfold Wh.v Wh.cs
    unfold Re.v Re.cs at hRr ⊢
    refine AFn.intro (fn := Try.f4) (by kernel_rfl) rfl (by kernel_rfl) (by simp) (AW.ofx [] mixed (by kernel_rfl) ?_)
    simp only [Try.f4, argsF]
    simp
    refine callK.of hN ?_
    rintro y H1 ⟨t, m, rfl, hT, ht, hm, hs⟩
    have b0 := hs.cells (i := 0) rfl
    have b1 := hs.cells (i := 1) rfl
    simp only [List.length_cons, List.length_nil] at hm
    simp [neqTb, b0, b1]
    refine callK.pure hS (by simp [V.closedL, c1]) rfl ?_
    cases es : smallU l with
    | false =>
      simp [neqTb, b0, b1]
      refine callK.of (hK _) ?_
      rintro y H3 ⟨rfl, hs3⟩
      simp
    | true =>
      have hsm := of_decide_eq_true es
      have hG := gOf l a.ro a.ti a.la r (by omega) (by omega) t m [] H1 hT (fun e he => by cases he)
      change AFn _ _ _ _ (fun y H' => y = .sc (.int .i64 (ofV l a.ro a.ti a.la r)) ∧ Kept l t m H1 H') at hG
      unfold Re.v Re.cs at hG
      simp [neqTb, b0, b1]
      refine callK.of hG ?_
      rintro y H2 ⟨rfl, hK2⟩
      have d0 := hK2.see (by omega) b0
      have d1 := hK2.see (by omega) b1
      have hR := lright a.ro a.ti a.la
      simp [d0, d1]
      refine callK.pure hRr rfl rfl ?_
      cases er : rightR r with
      | false =>
        have e0 : ofV l a.ro a.ti a.la r = 0 := by simp [ofV, er]
        rw [e0]
        simp [d0, d1]
        refine callK.of (hK _) ?_
        rintro y H3 ⟨rfl, hs3⟩
        simp
      | true =>
        simp [d0, d1]
        refine callK.pure hR rfl rfl ?_
        cases e : numsU a.ro a.ti a.la with
        | false =>
          have e0 : ofV l a.ro a.ti a.la r = 0 := by simp [ofV, e]
          rw [e0]
          simp [d0, d1]
          refine callK.of (hK _) ?_
          rintro y H3 ⟨rfl, hs3⟩
          simp
        | true =>
          have e0 : ofV l a.ro a.ti a.la r = ofRD l a.ro a.ti a.la r := by simp [ofV, e, er, of_doc ha er]
          have hO := refOfP l a.ro a.ti a.la r (by omega) (by omega) (boxes_right ha) er
          unfold Re.v Re.cs at hO
          rw [e0]
          simp [d0, d1]
          refine callK.pure hO (by simp [V.closedL, V.closed, c1]) rfl ?_
          simp [d0, d1]
          refine callK.of (hK _) ?_
          rintro y H3 ⟨rfl, hs3⟩
          simp
end Go.Proofs.Ytmkeeghjpdnknaa
