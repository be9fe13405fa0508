/- Regions: the order of the rectangles does not matter. -/
import Derived.Test.YtoooldijnilpaaaVn
namespace Go.Proofs.Ytoooldijnilpaaa
set_option linter.all false
open Go.RowKit AM Can
set_option maxRecDepth 10000
attribute [local simp] aw_skip' aw_region' aw_seq' aw_cond' aw_block' aw_loop' aw_exit' aw_label' aw_ret' aops_nil' aops_cons' aop' aMove aAssign aPick aAlloc aBox aBuild aBuildSlice aLoad aLoadOwn aStore aStoreOwn isOwn delR aNilCheck aBin aMakeFunc aFieldAddr aField aIndexAddr aExtract aSliceOp aSlice aCallOp aCall' aLen aLenMap aDelete aMM aUn aConv aIface aAssert aMakeMap aLookup aMapUpdate aRange aNext aEntry entsOf keyB lookV aAppend putK layK eval evalV AM.valOf getF putF setF del SV.refers cellsAt rootSV plains shift ldV V.exact V.exactL V.ofValue V.ofPart V.ofCell V.cells V.one Value.oneCell' fitB qSeq qBlock getB afin aret resVs resV resTmps shareF evalS tupV valsS valsV pickV calm calmB lenV useOf feeds looks isT newsV partsV fillV putAt zerosV fitsNil nilB isEq isNeq awx_skip' awx_region' awx_seq' awx_cond' awx_block' awx_loop' awx_exit' awx_label' awx_ret' xops_nil' xops_cons' xop' xload xcall' addO delO inO putD memB Mix.effB Mix.laysB keysF badK subW weakV zeroRow yops_nil' yops_cons' yop' yload yindex yfield ylen oldO dropO takeO oldL exactB
attribute [local simp] awz_skip' awz_region' awz_seq' awz_cond' awz_block' awz_loop' awz_exit' awz_label' awz_ret' zops_nil' zops_cons' zop' zload zcall' z0 new0 remF old0 dltB

def turnL (l : List Re) (n : Nat) : List Re := l.reverse.take n ++ l
theorem turnL_mem (l : List Re) (n : Nat) (r : Re) : r ∈ l ↔ r ∈ turnL l n := by
  unfold turnL
  rw [List.mem_append]
  constructor
  · exact .inr
  · rintro (h | h)
    · exact List.mem_reverse.1 (List.mem_of_mem_take h)
    · exact h
theorem ownR_snoc (l : List Re) (r : Re) : ownR (l ++ [r]) = .own true 61 (l.length + 1) 4 (l.flatMap Re.cs ++ [.sc (.int .i64 r.x0), .sc (.int .i64 r.y0), .sc (.int .i64 r.x1), .sc (.int .i64 r.y1)]) := by
  unfold ownR
  rw [List.length_append, List.flatMap_append]
  simp [Re.cs]
theorem turned_big (l : List Re) (z : Int) (h : 40 < l.length ∨ z < 0 ∨ (l.length : Int) < z) : PFn Try.prog 10 [slR l, .sc (.int .i64 z)] (.sc (.bool true)) := by
  have hk := lknown
  refine AFn.intro (fn := Try.f10) (by kernel_rfl) rfl (by kernel_rfl) (by simp) ?_
  simp only [Try.f10, argsF]
  by_cases h1 : (40 : Int) < l.length
  · refine AW.seq (AW.ofx [] mixed (by kernel_rfl) ?_)
    simp
    refine AW.seq (AW.ofx [] mixed (by kernel_rfl) ?_)
    simp [slR, h1]
    refine callK.pure hk rfl rfl ?_
    simp
  · by_cases h2 : z < 0
    · refine AW.seq (AW.ofx [] mixed (by kernel_rfl) ?_)
      simp
      refine AW.seq (AW.ofx [] mixed (by kernel_rfl) ?_)
      simp [slR, h1, h2]
      refine callK.pure hk rfl rfl ?_
      simp
    · have h3 : (l.length : Int) < z := by omega
      refine AW.seq (AW.ofx [] mixed (by kernel_rfl) ?_)
      simp
      refine AW.seq (AW.ofx [] mixed (by kernel_rfl) ?_)
      simp [slR, h1, h2, h3]
      refine callK.pure hk rfl rfl ?_
      simp
def TuA (l : List Re) (z : Int) (k : Nat) (F : Fr) (H : List Bk) : Prop := F = [(0, .v (slR l)), (1, .v (.sc (.int .i64 z))), (5, ownR (l.reverse.take k)), (6, .v (.sc (.int .i64 ((l.length : Int) - 1 - k))))]
def TuB (l : List Re) (n : Nat) (k : Nat) (F : Fr) (H : List Bk) : Prop := F = [(0, .v (slR l)), (5, ownR (l.reverse.take n ++ l.take k)), (7, .v (.sc (.int .i64 k)))]
set_option maxHeartbeats 4000000 in
theorem turned_small (l : List Re) (z : Int) (h1 : l.length ≤ 40) (h2 : 0 ≤ z) (h3 : z ≤ l.length) : PFn Try.prog 10 [slR l, .sc (.int .i64 z)] (.sc (.bool true)) := by
  have hk := lknown
  have h1' : ¬ (40 : Int) < l.length := by omega
  have h2' : ¬ z < 0 := by omega
  have h3' : ¬ (l.length : Int) < z := by omega
  obtain ⟨n, hn⟩ : ∃ n : Nat, z = (l.length : Int) - n := ⟨(l.length - z).toNat, by omega⟩
  have hnl : n ≤ l.length := by omega
  have w1 : IntKind.i64.wrap ((l.length : Int) - 1) = (l.length : Int) - 1 := by rw [wrap_i64] <;> omega
  refine AFn.intro (fn := Try.f10) (by kernel_rfl) rfl (by kernel_rfl) (by simp) ?_
  simp only [Try.f10, argsF]
  refine AW.seq (AW.ofx [] mixed (by kernel_rfl) ?_)
  simp
  refine AW.seq (AW.ofx [] mixed (by kernel_rfl) ?_)
  simp [slR, h1', h2', h3']
  refine AW.seq (AW.ofx [] mixed (by kernel_rfl) ?_)
  simp
  refine AW.seq (AW.ofx [] mixed (by kernel_rfl) ?_)
  simp [slR, w1]
  refine AW.count n (TuA l z) ⟨_, ?_, rfl⟩ ?_
  · simp [subW, weakV, getF, slR, ownR, zeroRow]
  · rintro k F H hk' rfl
    refine AW.ofx [] mixed (by kernel_rfl) ?_
    by_cases hlt : k < n
    · have hi : (l.length : Int) - 1 - k = ((l.length - 1 - k : Nat) : Int) := by omega
      have hlt2 : l.length - 1 - k < l.length := by omega
      have hge : z ≤ ((l.length - 1 - k : Nat) : Int) := by omega
      have hrow := rowR hlt2
      have w2 : IntKind.i64.wrap (((l.length - 1 - k : Nat) : Int) - 1) = (l.length : Int) - 1 - (k + 1 : Nat) := by rw [wrap_i64] <;> omega
      have hst : l.reverse.take (k + 1) = l.reverse.take k ++ [l[l.length - 1 - k]] := by
        rw [List.take_succ_eq_append_getElem (by simp; omega), List.getElem_reverse]
      have hlk : (l.reverse.take k).length = k := by simp; omega
      rw [hi]
      generalize l.reverse.take k = o at *
      simp [slR, ownR, hlt2, hge, hrow, w2]
      refine ⟨⟨by omega, by omega⟩, by omega, _, ?_, rfl⟩
      rw [hst, ownR_snoc]
      simp [subW, weakV, getF, slR]
    · have hkn : k = n := by omega
      subst hkn
      have hge : ¬ z ≤ (l.length : Int) - 1 - k := by omega
      simp [slR, ownR, hge]
      have hU := rUnion l
      have hU2 := rUnion (turnL l k)
      have hS := rSame l (turnL l k)
      have htl : (turnL l k).length ≤ 80 := by unfold turnL; simp; omega
      have e1 := unL_mem (turnL_mem l k) (by omega) (by omega)
      have e2 := wrongR_mem (turnL_mem l k) (by omega) (by omega)
      have hq := sameU (unL l) rfl (by have := unL_len l; omega)
      have hsm : sameL l (turnL l k) = decide (wrongR l = 0) := by
        unfold sameL
        rw [← e1, ← e2]
        simp
      rw [hsm] at hS
      rw [← e1, ← e2] at hU2
      have c1 := slR_closed l
      have c2 := slR_closed (turnL l k)
      have c3 := slR_closed (unL l)
      have cp := pairV_closed (unL l) (wrongR l)
      refine AW.sub [(0, .v (slR l)), (5, ownR (l.reverse.take k))] (by simp [subF, getF, slR, ownR]) ?_
      refine AW.seq (AW.ofx [] mixed (by kernel_rfl) ?_)
      simp
      refine AW.count l.length (TuB l k) ⟨_, ?_, rfl⟩ ?_
      · simp [subW, weakV, getF, slR, ownR]
      rintro j F2 H2 hj rfl
      refine AW.ofx [] mixed (by kernel_rfl) ?_
      by_cases hjl : j < l.length
      · have hrow := rowR hjl
        have w2 : IntKind.i64.wrap ((j : Int) + 1) = (j : Int) + 1 := by rw [wrap_i64] <;> omega
        have hst : l.reverse.take k ++ l.take (j + 1) = (l.reverse.take k ++ l.take j) ++ [l[j]] := by rw [List.take_succ_eq_append_getElem hjl, List.append_assoc]
        have hol : (l.reverse.take k ++ l.take j).length ≤ 100 := by simp; omega
        generalize l.reverse.take k ++ l.take j = o at *
        simp [slR, ownR, hjl, hrow, w2]
        refine ⟨⟨by omega, by omega⟩, _, ?_, rfl⟩
        rw [hst, ownR_snoc]
        simp [subW, weakV, getF, slR]
      · have hjj : j = l.length := by omega
        subst hjj
        rw [List.take_length]
        have et : l.reverse.take k ++ l = turnL l k := rfl
        rw [et]
        generalize turnL l k = tn at *
        generalize unL l = u at *
        generalize wrongR l = w at *
        simp [slR, ownR]
        refine AW.sub [(0, .v (slR l)), (5, ownR tn)] (by simp [subF, getF, slR, ownR]) ?_
        refine AW.seq (AW.ofx [] mixed (by kernel_rfl) ?_)
        simp
        refine callK.pure hU (by simp [V.closedL, c1]) cp ?_
        simp [pairV]
        refine AW.seq (AW.ofx [] mixed (by kernel_rfl) ?_)
        simp [ownR]
        refine callK.pure hU2 (by simp [V.closedL, V.closed, closed_flat (enc := Re.cs) (fun _ => rfl)]) cp ?_
        simp [pairV]
        refine AW.sub [(0, .v (slR l)), (5, .own false 61 tn.length 4 (tn.flatMap Re.cs)), (8, .v (slR u)), (9, .v (.sc (.int .i64 w))), (10, .v (slR u)), (11, .v (.sc (.int .i64 w)))] (by simp [subF, getF]) ?_
        by_cases hw0 : w = 0
        · subst hw0
          refine AW.ofx [] mixed (by kernel_rfl) ?_
          simp
          refine callK.pure hq (by simp [V.closedL, c3]) rfl ?_
          simp
          refine callK.pure hS (by simp [V.closedL, V.closed, c1, closed_flat (enc := Re.cs) (fun _ => rfl)]) rfl ?_
          simp [boolEq]
          refine callK.pure hk rfl rfl ?_
          simp
        · have hwn : (w == 0) = false := by simpa using hw0
          rw [decide_eq_false hw0] at hS
          refine AW.ofx [] mixed (by kernel_rfl) ?_
          simp
          refine callK.pure hq (by simp [V.closedL, c3]) rfl ?_
          simp
          refine callK.pure hS (by simp [V.closedL, V.closed, c1, closed_flat (enc := Re.cs) (fun _ => rfl)]) rfl ?_
          simp [boolEq, hwn]
          refine callK.pure hk rfl rfl ?_
          simp
theorem turnedLaw (l : List Re) (z : Int) : PFn Try.prog 10 [slR l, .sc (.int .i64 z)] (.sc (.bool true)) := by
  by_cases h : 40 < l.length ∨ z < 0 ∨ (l.length : Int) < z
  · exact turned_big l z h
  · exact turned_small l z (by omega) (by omega) (by omega)
end Go.Proofs.Ytoooldijnilpaaa
