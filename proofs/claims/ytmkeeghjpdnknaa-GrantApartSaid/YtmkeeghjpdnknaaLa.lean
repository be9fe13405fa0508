/- Grant: the law GrantApart, walked. -/
import Derived.Test.YtmkeeghjpdnknaaKz
import Derived.Test.YtmkeeghjpdnknaaKy
namespace Go.Proofs.Ytmkeeghjpdnknaa
set_option linter.all false
open Go.RowKit AM Can
set_option maxRecDepth 10000
attribute [local simp] aw_skip' aw_region' aw_seq' aw_cond' aw_block' aw_loop' aw_exit' aw_label' aw_ret' aops_nil' aops_cons' aop' aMove aAssign aPick aAlloc aBox aBuild slF aBuildSlice aLoad aLoadOwn aStore aStoreOwn isOwn delR aNilCheck aBin aMakeFunc aFieldAddr aField aIndexAddr aExtract aSliceOp aSlice aCallOp aCall' aLen aLenMap aDelete aMM aUn aConv aIface aAssert aMakeMap aLookup aMapUpdate aRange aNext aEntry entsOf keyB seekK aMakeSlice lookV aAppend putK layK eval evalV AM.valOf getF putF setF del SV.refers cellsAt rootSV plains shift ldV V.exact V.exactL V.ofValue V.ofPart V.ofCell V.cells V.one Value.oneCell' fitB qSeq qBlock getB afin aret resVs resV resTmps shareF evalS tupV valsS valsV pickV calm calmB lenV useOf feeds looks isT newsV partsV fillV putAt zerosV fitsNil nilB sliceB isEq isNeq awx_skip' awx_region' awx_seq' awx_cond' awx_block' awx_loop' awx_exit' awx_label' awx_ret' xops_nil' xops_cons' xop' xload xcall' addO delO inO putD memB Mix.effB Mix.laysB keysF badK subW weakV zeroRow yops_nil' yops_cons' yop' yload yindex yfield ylen oldO dropO takeO oldL exactB
attribute [local simp] awz_skip' awz_region' awz_seq' awz_cond' awz_block' awz_loop' awz_exit' awz_label' awz_ret' zops_nil' zops_cons' zop' zload zcall' z0 new0 remF old0 dltB

def ApO (qs : List (Rc Int)) (k : Nat) (F : Fr) (_ : List Bk) : Prop := F = [(4, .v (.sc (.bool false))), (7, .v (slP qs)), (8, .v (.sc (.int .i64 k)))]
def ApN (qs : List (Rc Int)) (i : Nat) (k : Nat) (F : Fr) (_ : List Bk) : Prop := F = [(4, .v (.sc (.bool false))), (7, .v (slP qs)), (8, .v (.sc (.int .i64 i))), (9, .v (.sc (.int .i64 k)))]
theorem patV_right {l : List Ru} (ha : l.all ruRight = true) (ro ti la : Int) : ∀ q ∈ patV l ro ti la, rightR (boxP q) = true ∧ 1 ≤ q.z ∧ q.z ≤ 16 := fun q hq => by
  unfold patV at hq
  split at hq
  · exact pat_right (form_prog ha ro ti la) q hq
  · cases hq
theorem patV_apart {l : List Ru} (ha : l.all ruRight = true) (ro ti la : Int) {i k : Nat} (hi : i < (patV l ro ti la).length) (hk : k < i) : meetsR (boxP (patV l ro ti la)[i]) (boxP (patV l ro ti la)[k]) = false := by
  have hall : ∀ qs : List (Rc Int), qs = patV l ro ti la → ∀ (h1 : i < qs.length), meetsR (boxP qs[i]) (boxP qs[k]) = false := fun qs e h1 => by
    unfold patV at e
    split at e
    · subst e
      exact pat_apart (form_prog ha ro ti la) h1 hk
    · subst e
      cases h1
  exact hall _ rfl hi
set_option maxHeartbeats 16000000 in
theorem apartLaw (l : List Ru) (a : Wh) (hl : l.length ≤ 9223372036854775807) (hb : ∀ r ∈ l, r.boxes.length ≤ 4398046511104) : AFn Try.prog 3 [slU l, a.v] [] fun y _ => y = .sc (.bool true) := by
  have hb' : ∀ r ∈ l, r.boxes.length ≤ 9223372036854775807 := fun r hr => by have := hb r hr; omega
  have c1 := slU_closed l
  have hK := fun H => lknownG H
  have hS := lsmallU l (by omega) hb
  by_cases h32 : 32 < l.length
  · have hN := gnewLong l h32
    unfold newV at hN
    unfold Wh.v Wh.cs
    refine AFn.intro (fn := Try.f3) (by kernel_rfl) rfl (by kernel_rfl) (by simp) (AW.off [] [(13, 14, 16, [7, 8, 9])] mixed (by kernel_rfl) ?_)
    simp only [Try.f3, argsF]
    simp [awf_skip', awf_region', awf_seq', awf_cond', awf_block', awf_loop', awf_exit', awf_label', awf_ret', flK, floatY', yopsB_nil', yopsB_cons', ystep']
    refine callK.pure hN (by simp [V.closedL, c1]) rfl ?_
    simp [awf_skip', awf_region', awf_seq', awf_cond', awf_block', awf_loop', awf_exit', awf_label', awf_ret', flK, floatY', yopsB_nil', yopsB_cons', ystep', neqTb]
    refine callK.of (hK _) ?_
    rintro y H ⟨rfl, hs⟩
    simp [awf_skip', awf_region', awf_seq', awf_cond', awf_block', awf_loop', awf_exit', awf_label', awf_ret', flK, floatY', yopsB_nil', yopsB_cons', ystep']
  cases ha : l.all ruRight with
  | false =>
    have hN := gnewArg l (by omega) hb' ha
    unfold newV at hN
    unfold Wh.v Wh.cs
    refine AFn.intro (fn := Try.f3) (by kernel_rfl) rfl (by kernel_rfl) (by simp) (AW.off [] [(13, 14, 16, [7, 8, 9])] mixed (by kernel_rfl) ?_)
    simp only [Try.f3, argsF]
    simp [awf_skip', awf_region', awf_seq', awf_cond', awf_block', awf_loop', awf_exit', awf_label', awf_ret', flK, floatY', yopsB_nil', yopsB_cons', ystep']
    refine callK.pure hN (by simp [V.closedL, c1]) rfl ?_
    simp [awf_skip', awf_region', awf_seq', awf_cond', awf_block', awf_loop', awf_exit', awf_label', awf_ret', flK, floatY', yopsB_nil', yopsB_cons', ystep', neqTb]
    refine callK.of (hK _) ?_
    rintro y H ⟨rfl, hs⟩
    simp [awf_skip', awf_region', awf_seq', awf_cond', awf_block', awf_loop', awf_exit', awf_label', awf_ret', flK, floatY', yopsB_nil', yopsB_cons', ystep']
  | true =>
    have hN := gnew l (by omega) hb ha [whB a]
    unfold whB at hN
    unfold Wh.v Wh.cs
    refine AFn.intro (fn := Try.f3) (by kernel_rfl) rfl (by kernel_rfl) (by simp) ?_
    simp only [Try.f3, argsF]
    refine AW.seq (AW.off [] [(13, 14, 16, [7, 8, 9])] mixed (by kernel_rfl) ?_)
    simp [awf_skip', awf_region', awf_seq', awf_cond', awf_block', awf_loop', awf_exit', awf_label', awf_ret', flK, floatY', yopsB_nil', yopsB_cons', ystep']
    refine AW.seq (AW.off [] [(13, 14, 16, [7, 8, 9])] mixed (by kernel_rfl) ?_)
    simp [awf_skip', awf_region', awf_seq', awf_cond', awf_block', awf_loop', awf_exit', awf_label', awf_ret', flK, floatY', yopsB_nil', yopsB_cons', ystep']
    refine callK.of hN ?_
    rintro y H1 ⟨t, m, rfl, hT, ht, hm, hs⟩
    have b0 := hs.cells (i := 0) rfl
    simp only [List.length_cons, List.length_nil] at hm ht
    simp [awf_skip', awf_region', awf_seq', awf_cond', awf_block', awf_loop', awf_exit', awf_label', awf_ret', flK, floatY', yopsB_nil', yopsB_cons', ystep', b0]
    refine AW.seq (AW.off [] [(13, 14, 16, [7, 8, 9])] mixed (by kernel_rfl) ?_)
    simp [awf_skip', awf_region', awf_seq', awf_cond', awf_block', awf_loop', awf_exit', awf_label', awf_ret', flK, floatY', yopsB_nil', yopsB_cons', ystep', neqTb, b0]
    refine callK.pure hS (by simp [V.closedL, c1]) rfl ?_
    cases es : smallU l with
    | false =>
      simp [awf_skip', awf_region', awf_seq', awf_cond', awf_block', awf_loop', awf_exit', awf_label', awf_ret', flK, floatY', yopsB_nil', yopsB_cons', ystep', neqTb, b0]
      refine callK.of (hK _) ?_
      rintro y H3 ⟨rfl, hs3⟩
      simp [awf_skip', awf_region', awf_seq', awf_cond', awf_block', awf_loop', awf_exit', awf_label', awf_ret', flK, floatY', yopsB_nil', yopsB_cons', ystep']
    | true =>
      have hsm := of_decide_eq_true es
      have hG := gPatches l a.ro a.ti a.la (by omega) (by omega) t m [] H1 hT (fun e he => by cases he)
      change AFn _ _ _ _ (fun y H' => y = slP (patV l a.ro a.ti a.la) ∧ Kept l t m H1 H') at hG
      obtain ⟨qs, hqe, hqr, hqa, hql⟩ : ∃ qs, patV l a.ro a.ti a.la = qs ∧ (∀ q ∈ qs, rightR (boxP q) = true ∧ 1 ≤ q.z ∧ q.z ≤ 16) ∧ (∀ (i k : Nat) (hi : i < qs.length) (hk : k < i), meetsR (boxP qs[i]) (boxP qs[k]) = false) ∧ qs.length ≤ 1000000000000 :=
        ⟨_, rfl, patV_right ha a.ro a.ti a.la, fun i k hi hk => patV_apart ha a.ro a.ti a.la hi hk, patV_len l a.ro a.ti a.la⟩
      rw [hqe] at hG
      simp [awf_skip', awf_region', awf_seq', awf_cond', awf_block', awf_loop', awf_exit', awf_label', awf_ret', flK, floatY', yopsB_nil', yopsB_cons', ystep', neqTb, b0]
      refine AW.seq (AW.off [] [(13, 14, 16, [7, 8, 9])] mixed (by kernel_rfl) ?_)
      simp [awf_skip', awf_region', awf_seq', awf_cond', awf_block', awf_loop', awf_exit', awf_label', awf_ret', flK, floatY', yopsB_nil', yopsB_cons', ystep', b0]
      refine callK.of hG ?_
      rintro y H2 ⟨rfl, _⟩
      have cP := slP_closed qs
      simp [awf_skip', awf_region', awf_seq', awf_cond', awf_block', awf_loop', awf_exit', awf_label', awf_ret', flK, floatY', yopsB_nil', yopsB_cons', ystep']
      refine AW.seq (AW.off [] [(13, 14, 16, [7, 8, 9])] mixed (by kernel_rfl) ?_)
      simp [awf_skip', awf_region', awf_seq', awf_cond', awf_block', awf_loop', awf_exit', awf_label', awf_ret', flK, floatY', yopsB_nil', yopsB_cons', ystep']
      refine AW.count qs.length (ApO qs) ⟨_, ?_, rfl⟩ ?_
      · simp [subW, weakV, getF]
      rintro k F H hk rfl
      refine AW.off [] [(13, 14, 16, [7, 8, 9])] mixed (by kernel_rfl) ?_
      by_cases hlt : k < qs.length
      · have w1 : IntKind.i64.wrap ((k : Int) + 1) = (k : Int) + 1 := by rw [wrap_i64] <;> omega
        have hrow := rowP hlt
        obtain ⟨q1, q2, q3⟩ := hqr qs[k] (List.getElem_mem hlt)
        have hRt := refRightR (boxP qs[k])
        rw [q1] at hRt
        unfold boxP Re.v Re.cs at hRt
        have n1 : ¬ qs[k].z < 1 := by omega
        have n2 : ¬ (16 : Int) < qs[k].z := by omega
        simp [awf_skip', awf_region', awf_seq', awf_cond', awf_block', awf_loop', awf_exit', awf_label', awf_ret', flK, floatY', yopsB_nil', yopsB_cons', ystep', slP, hlt, hrow]
        refine callK.pure hRt rfl rfl ?_
        simp [awf_skip', awf_region', awf_seq', awf_cond', awf_block', awf_loop', awf_exit', awf_label', awf_ret', flK, floatY', yopsB_nil', yopsB_cons', ystep', slP, hlt, hrow, n1, n2]
        refine AW.count k (ApN qs k) ⟨_, ?_, rfl⟩ ?_
        · simp [subW, weakV, getF, slP]
        rintro j F H1 hj rfl
        refine AW.off [] [(13, 14, 16, [7, 8, 9])] mixed (by kernel_rfl) ?_
        by_cases hjk : j < k
        · have w2 : IntKind.i64.wrap ((j : Int) + 1) = (j : Int) + 1 := by rw [wrap_i64] <;> omega
          have hjl : j < qs.length := by omega
          have hrj := rowP hjl
          have hM := refMeet (boxP qs[k]) (boxP qs[j])
          have hno := hqa k j hlt hjk
          unfold meetV meetP at hM
          rw [hno] at hM
          unfold boxP Re.v Re.cs at hM
          have hz := appL (H := H1) (b := .cells [.v (.sc (.int .i64 0)), .v (.sc (.int .i64 0)), .v (.sc (.int .i64 0)), .v (.sc (.int .i64 0))])
          simp [awf_skip', awf_region', awf_seq', awf_cond', awf_block', awf_loop', awf_exit', awf_label', awf_ret', flK, floatY', yopsB_nil', yopsB_cons', ystep', slP, hlt, hrow, hjl, hrj, hjk]
          refine ⟨callK.pure hM rfl rfl ?_, callK.pure hM rfl rfl ?_⟩
          all_goals
            simp [awf_skip', awf_region', awf_seq', awf_cond', awf_block', awf_loop', awf_exit', awf_label', awf_ret', flK, floatY', yopsB_nil', yopsB_cons', ystep', slP, hlt, hrow, hjl, hrj, hjk, setL, hz, w2, reZ]
            refine ⟨_, ?_, rfl⟩
            simp [subW, weakV, getF, slP]
        · have hk' : j = k := by omega
          subst hk'
          simp [awf_skip', awf_region', awf_seq', awf_cond', awf_block', awf_loop', awf_exit', awf_label', awf_ret', flK, floatY', yopsB_nil', yopsB_cons', ystep', slP, w1]
          refine ⟨_, ?_, rfl⟩
          simp [subW, weakV, getF, slP]
      · have hk' : k = qs.length := by omega
        subst hk'
        simp [awf_skip', awf_region', awf_seq', awf_cond', awf_block', awf_loop', awf_exit', awf_label', awf_ret', flK, floatY', yopsB_nil', yopsB_cons', ystep', slP]
        refine AW.off [] [(13, 14, 16, [7, 8, 9])] mixed (by kernel_rfl) ?_
        simp [awf_skip', awf_region', awf_seq', awf_cond', awf_block', awf_loop', awf_exit', awf_label', awf_ret', flK, floatY', yopsB_nil', yopsB_cons', ystep']
        refine callK.of (hK _) ?_
        rintro y H3 ⟨rfl, hs3⟩
        simp [awf_skip', awf_region', awf_seq', awf_cond', awf_block', awf_loop', awf_exit', awf_label', awf_ret', flK, floatY', yopsB_nil', yopsB_cons', ystep']
end Go.Proofs.Ytmkeeghjpdnknaa
