/- Regions: areas add up. -/
import Derived.Test.YtoooldijnilpaaaVn
namespace Go.Proofs.Ytoooldijnilpaaa
set_option linter.all false
open Go.RowKit AM Can
set_option maxRecDepth 10000
attribute [local simp] aw_skip' aw_region' aw_seq' aw_cond' aw_block' aw_loop' aw_exit' aw_label' aw_ret' aops_nil' aops_cons' aop' aMove aAssign aPick aAlloc aBox aBuild aBuildSlice aLoad aLoadOwn aStore aStoreOwn isOwn delR aNilCheck aBin aMakeFunc aFieldAddr aField aIndexAddr aExtract aSliceOp aSlice aCallOp aCall' aLen aLenMap aDelete aMM aUn aConv aIface aAssert aMakeMap aLookup aMapUpdate aRange aNext aEntry entsOf keyB lookV aAppend putK layK eval evalV AM.valOf getF putF setF del SV.refers cellsAt rootSV plains shift ldV V.exact V.exactL V.ofValue V.ofPart V.ofCell V.cells V.one Value.oneCell' fitB qSeq qBlock getB afin aret resVs resV resTmps shareF evalS tupV valsS valsV pickV calm calmB lenV useOf feeds looks isT newsV partsV fillV putAt zerosV fitsNil nilB isEq isNeq awx_skip' awx_region' awx_seq' awx_cond' awx_block' awx_loop' awx_exit' awx_label' awx_ret' xops_nil' xops_cons' xop' xload xcall' addO delO inO putD memB Mix.effB Mix.laysB keysF badK subW weakV zeroRow yops_nil' yops_cons' yop' yload yindex yfield ylen oldO dropO takeO oldL exactB
attribute [local simp] awz_skip' awz_region' awz_seq' awz_cond' awz_block' awz_loop' awz_exit' awz_label' awz_ret' zops_nil' zops_cons' zop' zload zcall' z0 new0 remF old0 dltB

theorem ownR_snoc' (l : List Re) (r : Re) : ownR (l ++ [r]) = .own true 61 (l.length + 1) 4 (l.flatMap Re.cs ++ [.sc (.int .i64 r.x0), .sc (.int .i64 r.y0), .sc (.int .i64 r.x1), .sc (.int .i64 r.y1)]) := by
  unfold ownR
  rw [List.length_append, List.flatMap_append]
  simp [Re.cs]
theorem areas_big (a b : List Re) (h : 12 < a.length ∨ 12 < b.length) : PFn Try.prog 11 [slR a, slR b] (.sc (.bool true)) := by
  have hk := lknown
  refine AFn.intro (fn := Try.f11) (by kernel_rfl) rfl (by kernel_rfl) (by simp) ?_
  simp only [Try.f11, argsF]
  by_cases h1 : (12 : Int) < a.length
  · refine AW.seq (AW.ofx [] mixed (by kernel_rfl) ?_)
    simp
    refine AW.seq (AW.ofx [] mixed (by kernel_rfl) ?_)
    simp [slR, h1]
    refine callK.pure hk rfl rfl ?_
    simp
  · have h2 : (12 : Int) < b.length := by omega
    refine AW.seq (AW.ofx [] mixed (by kernel_rfl) ?_)
    simp
    refine AW.seq (AW.ofx [] mixed (by kernel_rfl) ?_)
    simp [slR, h1, h2]
    refine callK.pure hk rfl rfl ?_
    simp
def AaA (a b : List Re) (k : Nat) (F : Fr) (H : List Bk) : Prop := F = [(0, .v (slR a)), (1, .v (slR b)), (5, ownR (a.take k)), (6, .v (.sc (.int .i64 k)))]
def AaB (a b : List Re) (k : Nat) (F : Fr) (H : List Bk) : Prop := F = [(0, .v (slR a)), (1, .v (slR b)), (5, ownR (a ++ b.take k)), (7, .v (.sc (.int .i64 k)))]
set_option maxHeartbeats 4000000 in
theorem areas_small (a b : List Re) (h1 : a.length ≤ 12) (h2 : b.length ≤ 12) : PFn Try.prog 11 [slR a, slR b] (.sc (.bool true)) := by
  have hk := lknown
  have h1' : ¬ (12 : Int) < a.length := by omega
  have h2' : ¬ (12 : Int) < b.length := by omega
  have hM := rMeet a b
  have hA := rArea a
  have hB := rArea b
  have hU := rArea (a ++ b)
  have hT := rArea (opL andB a b)
  have c1 := slR_closed a
  have c2 := slR_closed b
  have c3 := slR_closed (a ++ b)
  have c4 := slR_closed (opL andB a b)
  have cp := pairV_closed (opL andB a b) (bothR a b)
  have hw := wrong_append h1 h2
  have b1 := unL_area a
  have b2 := unL_area b
  have b3 := unL_area (a ++ b)
  have b4 := unL_area (opL andB a b)
  have hyes : bothR a b = 0 → wrongR a = 0 ∧ wrongR b = 0 ∧ ((opL andB a b).length ≤ 256 → wrongR (opL andB a b) = 0 ∧ areaL (unL a) + areaL (unL b) = areaL (unL (a ++ b)) + areaL (unL (opL andB a b))) := fun h => ⟨(bothR_ok.1 h).1, (bothR_ok.1 h).2, fun hl => ⟨opL_wrong rfl _ _ hl, areas_sum h1 h2 h hl⟩⟩
  have hno : bothR a b ≠ 0 → (wrongR a ≠ 0 ∨ wrongR b ≠ 0) ∧ areaL (unL (a ++ b)) = 0 := fun h => by
    refine ⟨?_, ?_⟩
    · by_cases h3 : wrongR a = 0
      · exact .inr fun h4 => h (bothR_ok.2 ⟨h3, h4⟩)
      · exact .inl h3
    · rw [unL_no (by rw [hw]; exact h)]
      rfl
  rw [hw] at hU
  unfold areaV at hA hB hU hT
  generalize areaL (unL a) = aa at *
  generalize areaL (unL b) = ab at *
  generalize areaL (unL (a ++ b)) = au at *
  generalize areaL (unL (opL andB a b)) = at' at *
  generalize wrongR (opL andB a b) = wt at *
  generalize opL andB a b = t at *
  generalize wrongR a = wa at *
  generalize wrongR b = wb at *
  generalize bothR a b = w at *
  have c1' := c1
  have c2' := c2
  have c3' := c3
  unfold slR at c1' c2' c3'
  have w0 : IntKind.u64.wrap 0 = 0 := by decide
  refine AFn.intro (fn := Try.f11) (by kernel_rfl) rfl (by kernel_rfl) (by simp) ?_
  simp only [Try.f11, argsF]
  refine AW.seq (AW.ofx [] mixed (by kernel_rfl) ?_)
  simp
  refine AW.seq (AW.ofx [] mixed (by kernel_rfl) ?_)
  simp [slR, h1', h2']
  refine AW.seq (AW.ofx [] mixed (by kernel_rfl) ?_)
  simp
  refine AW.seq (AW.ofx [] mixed (by kernel_rfl) ?_)
  simp
  refine AW.count a.length (AaA a b) ⟨_, ?_, rfl⟩ ?_
  · simp [subW, weakV, getF, slR, ownR, zeroRow]
  · rintro k F H hk' rfl
    refine AW.ofx [] mixed (by kernel_rfl) ?_
    by_cases hlt : k < a.length
    · have hrow := rowR hlt
      have w2 : IntKind.i64.wrap ((k : Int) + 1) = (k : Int) + 1 := by rw [wrap_i64] <;> omega
      have hst := List.take_succ_eq_append_getElem hlt
      have hlk : (a.take k).length = k := by simp; omega
      generalize a.take k = o at *
      simp [slR, ownR, hlt, hrow, w2]
      refine ⟨by omega, _, ?_, rfl⟩
      rw [hst, ownR_snoc']
      simp [subW, weakV, getF, slR]
    · have hkn : k = a.length := by omega
      subst hkn
      rw [List.take_length]
      simp [slR, ownR]
      refine AW.sub [(0, .v (slR a)), (1, .v (slR b)), (5, ownR a)] (by simp [subF, getF, slR, ownR]) ?_
      refine AW.seq (AW.ofx [] mixed (by kernel_rfl) ?_)
      simp
      refine AW.count b.length (AaB a b) ⟨_, ?_, rfl⟩ ?_
      · simp [subW, weakV, getF, slR, ownR]
      rintro j F2 H2 hj rfl
      refine AW.ofx [] mixed (by kernel_rfl) ?_
      by_cases hjl : j < b.length
      · have hrow := rowR hjl
        have w2 : IntKind.i64.wrap ((j : Int) + 1) = (j : Int) + 1 := by rw [wrap_i64] <;> omega
        have hst : a ++ b.take (j + 1) = (a ++ b.take j) ++ [b[j]] := by rw [List.take_succ_eq_append_getElem hjl, List.append_assoc]
        have hol : (a ++ b.take j).length ≤ 100 := by simp; omega
        generalize a ++ b.take j = o at *
        simp [slR, ownR, hjl, hrow, w2]
        refine ⟨⟨by omega, by omega⟩, _, ?_, rfl⟩
        rw [hst, ownR_snoc']
        simp [subW, weakV, getF, slR]
      · have hjj : j = b.length := by omega
        subst hjj
        rw [List.take_length]
        simp [slR, ownR]
        refine AW.sub [(0, .v (slR a)), (1, .v (slR b)), (5, ownR (a ++ b))] (by simp [subF, getF, slR, ownR]) ?_
        generalize a ++ b = ab2 at *
        refine AW.seq (AW.ofx [] mixed (by kernel_rfl) ?_)
        simp
        refine callK.pure hM (by simp [V.closedL, c1, c2]) cp ?_
        simp [pairV]
        refine AW.seq (AW.ofx [] mixed (by kernel_rfl) ?_)
        simp
        refine callK.pure hA (by simp [V.closedL, c1]) rfl ?_
        simp
        refine AW.seq (AW.ofx [] mixed (by kernel_rfl) ?_)
        simp
        refine callK.pure hB (by simp [V.closedL, c2]) rfl ?_
        simp
        refine AW.seq (AW.ofx [] mixed (by kernel_rfl) ?_)
        simp [ownR]
        refine callK.pure hU (by simp [V.closedL, c3']) rfl ?_
        simp
        refine AW.sub [(8, .v (slR t)), (9, .v (.sc (.int .i64 w))), (10, .v (.sc (.int .u64 aa))), (11, .v (.sc (.int .i64 wa))), (12, .v (.sc (.int .u64 ab))), (13, .v (.sc (.int .i64 wb))), (14, .v (.sc (.int .u64 au))), (15, .v (.sc (.int .i64 w)))] (by simp [subF, getF]) ?_
        by_cases hw0 : w = 0
        · subst hw0
          obtain ⟨rfl, rfl, hy⟩ := hyes rfl
          refine AW.seq (AW.ofx [] mixed (by kernel_rfl) ?_)
          simp
          by_cases hl : 256 < t.length
          · have hl' : (256 : Int) < t.length := by omega
            refine AW.seq (AW.ofx [] mixed (by kernel_rfl) ?_)
            simp [slR, hl']
            refine callK.pure hk rfl rfl ?_
            simp
          · have hl' : ¬ (256 : Int) < t.length := by omega
            obtain ⟨rfl, hsum⟩ := hy (by omega)
            have ws1 : IntKind.u64.wrap ((aa : Int) + ab) = (aa : Int) + ab := by rw [wrap_u64] <;> omega
            have ws2 : IntKind.u64.wrap ((au : Int) + at') = (aa : Int) + ab := by rw [wrap_u64] <;> omega
            refine AW.seq (AW.ofx [] mixed (by kernel_rfl) ?_)
            simp [slR, hl']
            refine AW.seq (AW.ofx [] mixed (by kernel_rfl) ?_)
            simp
            refine callK.pure hT (by simp [V.closedL, V.closed, closed_flat (enc := Re.cs) (fun _ => rfl)]) rfl ?_
            simp
            refine AW.ofx [] mixed (by kernel_rfl) ?_
            simp [ws1, ws2]
            refine callK.pure hk rfl rfl ?_
            simp
        · obtain ⟨hor, rfl⟩ := hno hw0
          have hwn : (w == 0) = false := by simpa using hw0
          have hwn2 : (w != 0) = true := by simpa using hw0
          by_cases ha0 : wa = 0
          · subst ha0
            have hb0 : wb ≠ 0 := hor.resolve_left (fun h => h rfl)
            have hbn : (wb == 0) = false := by simpa using hb0
            have hbn2 : (wb != 0) = true := by simpa using hb0
            refine AW.seq (AW.ofx [] mixed (by kernel_rfl) ?_)
            simp [hwn, hwn2, hbn, hbn2]
            refine callK.pure hk rfl rfl ?_
            simp
          · have han : (wa == 0) = false := by simpa using ha0
            have han2 : (wa != 0) = true := by simpa using ha0
            refine AW.seq (AW.ofx [] mixed (by kernel_rfl) ?_)
            simp [hwn, hwn2, han, han2]
            refine callK.pure hk rfl rfl ?_
            simp
theorem areasLaw (a b : List Re) : PFn Try.prog 11 [slR a, slR b] (.sc (.bool true)) := by
  by_cases h : 12 < a.length ∨ 12 < b.length
  · exact areas_big a b h
  · exact areas_small a b (by omega) (by omega)
end Go.Proofs.Ytoooldijnilpaaa
