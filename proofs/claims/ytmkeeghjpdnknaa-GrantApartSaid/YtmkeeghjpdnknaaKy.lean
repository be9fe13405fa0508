/- Grant: the law GrantLevels, walked. -/
import Derived.Test.YtmkeeghjpdnknaaKx
namespace Go.Proofs.Ytmkeeghjpdnknaa
set_option linter.all false
open Go.RowKit AM Can
set_option maxRecDepth 10000
attribute [local simp] aw_skip' aw_region' aw_seq' aw_cond' aw_block' aw_loop' aw_exit' aw_label' aw_ret' aops_nil' aops_cons' aop' aMove aAssign aPick aAlloc aBox aBuild slF aBuildSlice aLoad aLoadOwn aStore aStoreOwn isOwn delR aNilCheck aBin aMakeFunc aFieldAddr aField aIndexAddr aExtract aSliceOp aSlice aCallOp aCall' aLen aLenMap aDelete aMM aUn aConv aIface aAssert aMakeMap aLookup aMapUpdate aRange aNext aEntry entsOf keyB seekK aMakeSlice lookV aAppend putK layK eval evalV AM.valOf getF putF setF del SV.refers cellsAt rootSV plains shift ldV V.exact V.exactL V.ofValue V.ofPart V.ofCell V.cells V.one Value.oneCell' fitB qSeq qBlock getB afin aret resVs resV resTmps shareF evalS tupV valsS valsV pickV calm calmB lenV useOf feeds looks isT newsV partsV fillV putAt zerosV fitsNil nilB sliceB isEq isNeq awx_skip' awx_region' awx_seq' awx_cond' awx_block' awx_loop' awx_exit' awx_label' awx_ret' xops_nil' xops_cons' xop' xload xcall' addO delO inO putD memB Mix.effB Mix.laysB keysF badK subW weakV zeroRow yops_nil' yops_cons' yop' yload yindex yfield ylen oldO dropO takeO oldL exactB
attribute [local simp] awz_skip' awz_region' awz_seq' awz_cond' awz_block' awz_loop' awz_exit' awz_label' awz_ret' zops_nil' zops_cons' zop' zload zcall' z0 new0 remF old0 dltB

theorem boxesU_rev (l : List Ru) : (boxesU l.reverse).length = (boxesU l).length := by
  unfold boxesU
  rw [← List.reverse_reverse (l.reverse.flatMap _)]
  rw [List.length_reverse]
  simp [List.flatMap_reverse, List.length_flatMap]
def patV (l : List Ru) (ro ti la : Int) : List (Rc Int) := if numsU ro ti la then patF l ro ti la else []
theorem patV_rev {l : List Ru} (ha : l.all ruRight = true) (ro ti la : Int) : patV l.reverse ro ti la = patV l ro ti la := by
  unfold patV
  rw [pat_rev ha]
theorem patV_len (l : List Ru) (ro ti la : Int) : (patV l ro ti la).length ≤ 1000000000000 := by
  unfold patV
  have := patF_len l ro ti la
  split
  · omega
  · simp
def levV (l : List Ru) (ro ti : Int) : List Int := if numsU ro ti 0 then numsC (levG l ro ti 8) else []
def LvJ (l : List Ru) (t : Nat) (H0 : List Bk) (k : Nat) (F : Fr) (H : List Bk) : Prop := H = H0 ∧ F = [(0, .v (slU l)), (3, .v (.ptr 0 0)), (4, .v (.sc (.bool false))), (5, .v (.ptr t 0)), (7, ownU (l.reverse.take k)), (8, .v (.sc (.int .i64 ((l.length : Int) - 1 - k))))]
def LvE (zs : List Int) (k : Nat) (F : Fr) (_ : List Bk) : Prop := F = [(4, .v (.sc (.bool false))), (11, .v (slI zs)), (12, .v (slI zs)), (13, .v (.sc (.int .i64 k)))]
set_option maxHeartbeats 16000000 in
theorem levelsLaw (l : List Ru) (a : Wh) (hl : l.length ≤ 9223372036854775807) (hb : ∀ r ∈ l, r.boxes.length ≤ 4398046511104) : AFn Try.prog 7 [slU l, a.v] [] fun y _ => y = .sc (.bool true) := by
  have hb' : ∀ r ∈ l, r.boxes.length ≤ 9223372036854775807 := fun r hr => by have := hb r hr; omega
  have c1 := slU_closed l
  have hK := fun H => lknownG H
  have hS := lsmallU l (by omega) hb
  by_cases h32 : 32 < l.length
  · have hN := gnewLong l h32
    unfold newV at hN
    unfold Wh.v Wh.cs
    refine AFn.intro (fn := Try.f7) (by kernel_rfl) rfl (by kernel_rfl) (by simp) (AW.ofx [(10, 22, [10, 9, 5, 3])] mixed (by kernel_rfl) ?_)
    simp only [Try.f7, argsF]
    simp
    refine callK.pure hN (by simp [V.closedL, c1]) rfl ?_
    simp [neqTb]
    refine callK.of (hK _) ?_
    rintro y H ⟨rfl, hs⟩
    simp
  cases ha : l.all ruRight with
  | false =>
    have hN := gnewArg l (by omega) hb' ha
    unfold newV at hN
    unfold Wh.v Wh.cs
    refine AFn.intro (fn := Try.f7) (by kernel_rfl) rfl (by kernel_rfl) (by simp) (AW.ofx [(10, 22, [10, 9, 5, 3])] mixed (by kernel_rfl) ?_)
    simp only [Try.f7, argsF]
    simp
    refine callK.pure hN (by simp [V.closedL, c1]) rfl ?_
    simp [neqTb]
    refine callK.of (hK _) ?_
    rintro y H ⟨rfl, hs⟩
    simp
  | true =>
    have hN := gnew l (by omega) hb ha [whB a]
    unfold whB at hN
    unfold Wh.v Wh.cs
    refine AFn.intro (fn := Try.f7) (by kernel_rfl) rfl (by kernel_rfl) (by simp) ?_
    simp only [Try.f7, argsF]
    refine AW.seq (AW.ofx [(10, 22, [10, 9, 5, 3])] mixed (by kernel_rfl) ?_)
    simp
    refine AW.seq (AW.ofx [(10, 22, [10, 9, 5, 3])] mixed (by kernel_rfl) ?_)
    simp
    refine callK.of hN ?_
    rintro y H1 ⟨t, m, rfl, hT, ht, hm, hs⟩
    have b0 := hs.cells (i := 0) rfl
    simp only [List.length_cons, List.length_nil] at hm ht
    simp [b0]
    refine AW.seq (AW.ofx [(10, 22, [10, 9, 5, 3])] mixed (by kernel_rfl) ?_)
    simp [neqTb, b0]
    refine callK.pure hS (by simp [V.closedL, c1]) rfl ?_
    cases es : smallU l with
    | false =>
      simp [neqTb, b0]
      refine callK.of (hK _) ?_
      rintro y H3 ⟨rfl, hs3⟩
      simp
    | true =>
      have hsm := of_decide_eq_true es
      simp [neqTb, b0]
      refine AW.seq (AW.ofx [(10, 22, [10, 9, 5, 3])] mixed (by kernel_rfl) ?_)
      simp
      refine AW.seq (AW.ofx [(10, 22, [10, 9, 5, 3])] mixed (by kernel_rfl) ?_)
      have w0 : IntKind.i64.wrap ((l.length : Int) - 1) = (l.length : Int) - 1 := by rw [wrap_i64] <;> omega
      simp [slU, w0]
      refine AW.count l.length (LvJ l t H1) ⟨_, ?_, rfl, rfl⟩ ?_
      · simp [subW, weakV, getF, slU, ownU, zeroRow]
      rintro k F H hk ⟨rfl, rfl⟩
      refine AW.ofx [(10, 22, [10, 9, 5, 3])] mixed (by kernel_rfl) ?_
      by_cases hlt : k < l.length
      · have hj : l.length - 1 - k < l.length := by omega
        have ej : (l.length : Int) - 1 - k = ((l.length - 1 - k : Nat) : Int) := by omega
        have hrow := rowU hj
        have hge : (0 : Int) ≤ ((l.length - 1 - k : Nat) : Int) := by omega
        have w1 : IntKind.i64.wrap (((l.length - 1 - k : Nat) : Int) - 1) = (l.length : Int) - 1 - ((k + 1 : Nat) : Int) := by rw [wrap_i64] <;> omega
        have htk : l.reverse.take (k + 1) = l.reverse.take k ++ [l[l.length - 1 - k]] := by
          rw [List.take_succ_eq_append_getElem (by simpa using hlt), List.getElem_reverse]
        have htl : (l.reverse.take k).length ≤ 1000000 := by
          rw [List.length_take, List.length_reverse]
          omega
        rw [ej]
        unfold LvJ
        rw [htk]
        generalize l.reverse.take k = ms at *
        generalize l.length - 1 - k = j at *
        unfold slR at hrow
        simp [slU, ownU, hge, hj, hrow, w1]
        exact ⟨by omega, hlt, rfl⟩
      · have hk' : k = l.length := by omega
        subst hk'
        have hng : (l.length : Int) - 1 - l.length = -1 := by omega
        have ha' : l.reverse.all ruRight = true := by rw [List.all_reverse]; exact ha
        have hN2 := gnew l.reverse (by rw [List.length_reverse]; omega) (fun r hr => hb r (List.mem_reverse.1 hr)) ha' H
        unfold slU at hN2
        rw [List.length_reverse] at hN2
        rw [List.take_of_length_le (by simp), hng]
        simp [slU, ownU]
        refine AW.asSl 7 rfl ?_
        simp [setF]
        refine AW.seq (AW.ofx [(10, 22, [10, 9, 5, 3])] mixed (by kernel_rfl) ?_)
        simp
        refine callK.of hN2 ?_
        rintro y H2 ⟨t', m', rfl, hT', ht', hm', hs2⟩
        have b0' := hs2.cells b0
        have hT1 := hT.stays hs2
        have hmH := (List.getElem?_eq_some_iff.1 hT.m).1
        have htH := (List.getElem?_eq_some_iff.1 hT.t).1
        simp
        refine AW.seq (AW.ofx [(10, 22, [10, 9, 5, 3])] mixed (by kernel_rfl) ?_)
        have hG := gPatches l a.ro a.ti a.la (by omega) (by omega) t m [] H2 hT1 (fun e he => by cases he)
        change AFn _ _ _ _ (fun y H' => y = slP (patV l a.ro a.ti a.la) ∧ Kept l t m H2 H') at hG
        have cP := slP_closed (patV l a.ro a.ti a.la)
        have hSm := refSameP (patV l a.ro a.ti a.la) (patV l a.ro a.ti a.la) (patV_len l _ _ _)
        rw [decide_eq_true rfl] at hSm
        simp [neqTb, b0']
        refine callK.of hG ?_
        rintro y H3 ⟨rfl, hK3⟩
        have k3 := hK3.keep hT1
        have d0 := hK3.see (by omega) b0'
        have hT3' : Tab H3 t' m' l.reverse [] := ⟨hK3.see (by omega) hT'.t, hK3.2.map (by omega) hT'.m⟩
        have hm3 := (List.getElem?_eq_some_iff.1 hT3'.m).1
        obtain ⟨⟨es3, hT3, hM3⟩, _⟩ := hK3
        have hG2 := gPatches l.reverse a.ro a.ti a.la (by rw [List.length_reverse]; omega) (by rw [boxesU_rev]; omega) t' m' [] H3 hT3' (fun e he => by cases he)
        change AFn _ _ _ _ (fun y H' => y = slP (patV l.reverse a.ro a.ti a.la) ∧ Kept l.reverse t' m' H3 H') at hG2
        rw [patV_rev ha] at hG2
        simp [b0', d0]
        refine ⟨k3, ?_⟩
        refine callK.of hG2 ?_
        rintro y H4 ⟨rfl, hK4⟩
        have k4 := keepS.trans k3 (hK4.keep hT3')
        have f0 := hK4.see (by omega) d0
        have hT4 : Tab H4 t m l es3 := ⟨hK4.see (by omega) hT3.t, hK4.2.map (by omega) hT3.m⟩
        simp [b0', d0, f0]
        refine callK.pure hSm (by simp [V.closedL, cP]) rfl ?_
        have hLv := gLevels l a.ro a.ti (by omega) (by omega) t m es3 H4 hT4 hM3
        change AFn _ _ _ _ (fun y H' => y = slI (levV l a.ro a.ti) ∧ Kept l t m H4 H') at hLv
        simp [b0', d0, f0]
        refine AW.seq (AW.ofx [(10, 22, [10, 9, 5, 3])] mixed (by kernel_rfl) ?_)
        simp [f0]
        refine callK.of hLv ?_
        rintro y H5 ⟨rfl, hK5⟩
        have g0 := hK5.see (by omega) f0
        simp [g0]
        refine AW.seq (AW.ofx [(10, 22, [10, 9, 5, 3])] mixed (by kernel_rfl) ?_)
        have hR := lright a.ro a.ti 0
        simp [g0]
        refine callK.pure hR rfl rfl ?_
        cases e : numsU a.ro a.ti 0 with
        | false =>
          have e0 : levV l a.ro a.ti = [] := by simp [levV, e]
          rw [e0]
          simp [slI]
          refine callK.of (hK _) ?_
          rintro y H6 ⟨rfl, hs6⟩
          simp
        | true =>
          have e0 : levV l a.ro a.ti = levR l a.ro a.ti 8 := by simp [levV, e, lev_doc ha]
          have hRL := refLevels l a.ro a.ti (by omega) (by omega) (boxes_right ha)
          have hlen := levR_len l a.ro a.ti (by omega) 8
          unfold slU at hRL c1
          rw [e0]
          generalize levR l a.ro a.ti 8 = zs at *
          have cz := slI_closed zs
          simp
          refine AW.seq (AW.ofx [(10, 22, [10, 9, 5, 3])] mixed (by kernel_rfl) ?_)
          simp [g0]
          refine callK.pure hRL (by simp [V.closedL, c1, V.closed.eq_def (.sc _)]) cz ?_
          simp
          refine AW.seq (AW.ofx [(10, 22, [10, 9, 5, 3])] mixed (by kernel_rfl) ?_)
          simp [slI]
          refine AW.seq (AW.ofx [(10, 22, [10, 9, 5, 3])] mixed (by kernel_rfl) ?_)
          simp [slI]
          refine AW.count zs.length (LvE zs) ⟨_, ?_, rfl⟩ ?_
          · simp [subW, weakV, getF, slI]
          rintro k F H6 hk rfl
          refine AW.ofx [(10, 22, [10, 9, 5, 3])] mixed (by kernel_rfl) ?_
          by_cases hlt : k < zs.length
          · have w1 : IntKind.i64.wrap ((k : Int) + 1) = (k : Int) + 1 := by rw [wrap_i64] <;> omega
            have hrow := rowI hlt
            simp [slI, hlt, hrow, w1]
            refine ⟨_, ?_, rfl⟩
            simp [subW, weakV, getF, slI]
          · have hk' : k = zs.length := by omega
            subst hk'
            simp [slI]
            refine AW.ofx [(10, 22, [10, 9, 5, 3])] mixed (by kernel_rfl) ?_
            simp
            refine callK.of (hK _) ?_
            rintro y H6 ⟨rfl, hs6⟩
            simp
end Go.Proofs.Ytmkeeghjpdnknaa
