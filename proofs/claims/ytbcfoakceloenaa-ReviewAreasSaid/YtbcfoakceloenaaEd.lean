/- Review: of each zoom how many points have it, by the document. -/
import Derived.Test.YtbcfoakceloenaaEe
import Derived.Test.YtbcfoakceloenaaDn1
namespace Go.Proofs.Ytbcfoakceloenaa
set_option linter.all false
open Go.RowKit AM Can
set_option maxRecDepth 10000
attribute [local simp] aw_skip' aw_region' aw_seq' aw_cond' aw_block' aw_loop' aw_exit' aw_label' aw_ret' aops_nil' aops_cons' aop' aMove aAssign aPick aAlloc aBox aBuild slF aBuildSlice aLoad aLoadOwn aStore aStoreOwn isOwn delR aNilCheck aBin aMakeFunc aFieldAddr aField aIndexAddr aExtract aSliceOp aSlice aCallOp aCall' aLen aLenMap aDelete aMM aUn aConv aIface aAssert aMakeMap aLookup aMapUpdate aRange aNext aEntry entsOf keyB seekK aMakeSlice lookV aAppend putK layK eval evalV AM.valOf getF putF setF del SV.refers cellsAt rootSV plains shift ldV V.exact V.exactL V.ofValue V.ofPart V.ofCell V.cells V.one Value.oneCell' fitB qSeq qBlock getB afin aret resVs resV resTmps shareF evalS tupV valsS valsV pickV calm calmB lenV useOf feeds looks isT newsV partsV fillV putAt zerosV fitsNil nilB sliceB isEq isNeq awx_skip' awx_region' awx_seq' awx_cond' awx_block' awx_loop' awx_exit' awx_label' awx_ret' xops_nil' xops_cons' xop' xload xcall' addO delO inO putD memB Mix.effB Mix.laysB keysF badK subW weakV zeroRow yops_nil' yops_cons' yop' yload yindex yfield ylen oldO dropO takeO oldL exactB
attribute [local simp] awz_skip' awz_region' awz_seq' awz_cond' awz_block' awz_loop' awz_exit' awz_label' awz_ret' zops_nil' zops_cons' zop' zload zloadOwn zcall' z0 new0 remF old0 dltB

def rowA (l : List Ru) (w : Wo) (xs ys : List Int) (i k : Nat) : List (Rc (Int × Int)) := (List.range k).map fun j => cellA l w xs ys i j
theorem rowA_succ (l : List Ru) (w : Wo) (xs ys : List Int) (i k : Nat) : rowA l w xs ys i (k + 1) = rowA l w xs ys i k ++ [cellA l w xs ys i k] := by simp [rowA, List.range_succ]
theorem cellsA_succ (l : List Ru) (w : Wo) (xs ys : List Int) (i : Nat) : cellsA l w xs ys (i + 1) = cellsA l w xs ys i ++ rowA l w xs ys i (ys.length - 1) := by simp [cellsA, rowA, List.range_succ]
def AdZ (l : List Ru) (w : Wo) (k : Nat) (F : Fr) (H : List Bk) : Prop := Stays [woB w] H ∧ F = [(0, .v (slU l)), (3, .v (.ptr 0 0)), (5, ownA (List.replicate k 0)), (6, .v (.sc (.int .i64 k)))]
def AdI (l : List Ru) (w : Wo) (xs ys : List Int) (i : Nat) (F : Fr) (H : List Bk) : Prop := Stays [woB w] H ∧ F = [(0, .v (slU l)), (3, .v (.ptr 0 0)), (5, ownA (arP (cellsA l w xs ys i))), (8, .v (slI xs)), (9, .v (slI ys)), (10, .v (.sc (.int .i64 i)))]
def AdK (l : List Ru) (w : Wo) (xs ys : List Int) (i k : Nat) (F : Fr) (H : List Bk) : Prop := Stays [woB w] H ∧ F = [(0, .v (slU l)), (3, .v (.ptr 0 0)), (5, ownA (arP (cellsA l w xs ys i ++ rowA l w xs ys i k))), (8, .v (slI xs)), (9, .v (slI ys)), (10, .v (.sc (.int .i64 i))), (11, .v (.sc (.int .i64 k)))]
set_option maxHeartbeats 16000000 in
theorem dAreas (l : List Ru) (w : Wo) (h1 : l.length ≤ 1000) (n1 : (boxesU l).length ≤ 1000) (hr : ∀ b ∈ boxesU l, rightR b = true) :
    PFn Try.prog 25 [slU l, w.v] (slA (arP (cellsA l w (edgesR (boxesU l) false) (edgesR (boxesU l) true) ((edgesR (boxesU l) false).length - 1)))) := by
  have c1 := slU_closed l
  have hbl : ∀ r ∈ l, r.boxes.length ≤ 9223372036854775807 := fun r hr => by have := mem_le n1 r hr; omega
  have hB := dBoxes l [] (by omega) (by simp) (by omega) (by simp [boxesU])
  have hB : PFn Try.prog 35 [slU l, .sl 0 7 []] (slR (boxesU l)) := by simpa [boxesU, slU] using hB
  have hE := fun d => refEdges (boxesU l) [] d (by omega) (by simp) hr (by simp)
  simp only [List.append_nil] at hE
  have hEx : PFn Try.prog 36 [slR (boxesU l), .sl 0 4 [], .sc (.bool false)] (slI (edgesR (boxesU l) false)) := hE false
  have hEy : PFn Try.prog 36 [slR (boxesU l), .sl 0 4 [], .sc (.bool true)] (slI (edgesR (boxesU l) true)) := hE true
  have cb := slR_closed (boxesU l)
  have cx := slI_closed (edgesR (boxesU l) false)
  have cy := slI_closed (edgesR (boxesU l) true)
  have hx := edgesR_cut hr false
  have hy := edgesR_cut hr true
  have hlx := edgesR_len false (boxesU l)
  have hly := edgesR_len true (boxesU l)
  have hZ := fun x y => dZoom l w x y (by omega) hbl
  clear hE
  generalize edgesR (boxesU l) false = xs at *
  generalize edgesR (boxesU l) true = ys at *
  unfold Wo.v Wo.cs at hZ ⊢
  have hzx : 0 < xs.length := List.length_pos_of_mem hx.zero
  have hzy : 0 < ys.length := List.length_pos_of_mem hy.zero
  refine AFn.intro (fn := Try.f25) (by kernel_rfl) rfl (by kernel_rfl) (by simp) ?_
  simp only [Try.f25, argsF]
  refine AW.seq (AW.ofx [(16, 29, [5, 12, 8, 10, 9, 11])] mixed (by kernel_rfl) ?_)
  simp
  refine AW.seq (AW.ofx [(16, 29, [5, 12, 8, 10, 9, 11])] mixed (by kernel_rfl) ?_)
  simp
  refine AW.seq (AW.ofx [(16, 29, [5, 12, 8, 10, 9, 11])] mixed (by kernel_rfl) ?_)
  simp
  refine AW.count 17 (AdZ l w) ⟨_, ?_, .refl, rfl⟩ ?_
  · simp [subW, weakV, getF, ownA, us, zeroRow]
  rintro k F H hk ⟨hst, rfl⟩
  refine AW.ofx [(16, 29, [5, 12, 8, 10, 9, 11])] mixed (by kernel_rfl) ?_
  by_cases hlt : k < 17
  · have hlt' : (k : Int) ≤ 16 := by omega
    have w1 : IntKind.i64.wrap ((k : Int) + 1) = (k : Int) + 1 := by rw [wrap_i64] <;> omega
    have hus : us (List.replicate (k + 1) 0) = us (List.replicate k 0) ++ [V.sc (.int .u64 0)] := by simp [us, List.replicate_succ']
    simp [hlt', ownA, w1]
    refine ⟨by omega, by omega, _, ?_, hst, rfl⟩
    rw [ownA, hus]
    simp [subW, weakV, getF]
  have hk' : k = 17 := by omega
  subst hk'
  simp [ownA]
  have e0 : List.replicate 17 (0 : Int) = arP [] := rfl
  refine AW.seq (AW.ofx [(16, 29, [5, 12, 8, 10, 9, 11])] mixed (by kernel_rfl) ?_)
  simp
  refine callK.pure hB (by simp [V.closedL, V.closed, c1]) cb ?_
  simp
  refine AW.seq (AW.ofx [(16, 29, [5, 12, 8, 10, 9, 11])] mixed (by kernel_rfl) ?_)
  simp
  refine callK.pure hEx (by simp [V.closedL, V.closed, cb]) cx ?_
  simp
  refine AW.seq (AW.ofx [(16, 29, [5, 12, 8, 10, 9, 11])] mixed (by kernel_rfl) ?_)
  simp
  refine callK.pure hEy (by simp [V.closedL, V.closed, cb]) cy ?_
  simp
  refine AW.seq (AW.ofx [(16, 29, [5, 12, 8, 10, 9, 11])] mixed (by kernel_rfl) ?_)
  simp
  refine AW.count (xs.length - 1) (AdI l w xs ys) ⟨_, ?_, hst, rfl⟩ ?_
  · simp [subW, weakV, getF, ownA, us, cellsA, arP]
  clear hst
  rintro i F H hi ⟨hst, rfl⟩
  have h0 : H[0]? = some (woB w) := hst.cells rfl
  unfold woB at h0
  have w1 : IntKind.i64.wrap ((i : Int) + 1) = (i : Int) + 1 := by rw [wrap_i64] <;> omega
  by_cases hlt : i + 1 < xs.length
  · have hlt1 : i < xs.length := by omega
    have hlt2 : (i : Int) + 1 < xs.length := by omega
    have hr1 := rowI hlt1
    have hr2 : AM.rowAt 1 (ints xs) ((i : Int) + 1) = [.sc (.int .i64 xs[i + 1])] := by simpa using rowI hlt
    have gx1 : xs.getD i 0 = xs[i] := by rw [List.getD_eq_getElem?_getD, List.getElem?_eq_getElem hlt1]; rfl
    have gx2 : xs.getD (i + 1) 0 = xs[i + 1] := by rw [List.getD_eq_getElem?_getD, List.getElem?_eq_getElem hlt]; rfl
    have bx2 := hx.within _ (List.getElem_mem hlt)
    have wx : IntKind.i64.wrap (xs[i + 1] - 1) = xs[i + 1] - 1 := by rw [wrap_i64] <;> omega
    refine AW.seq (AW.ofx [(16, 29, [5, 12, 8, 10, 9, 11])] mixed (by kernel_rfl) ?_)
    simp [slI, ownA, w1, hlt2]
    refine AW.seq (AW.block (AW.ofx [(16, 29, [5, 12, 8, 10, 9, 11])] mixed (by kernel_rfl) ?_))
    simp
    refine AW.count (ys.length - 1) (AdK l w xs ys i) ⟨_, ?_, hst, rfl⟩ ?_
    · simp [subW, weakV, getF, slI, ownA, rowA]
    clear h0 hst
    rintro k F H hk ⟨hst, rfl⟩
    have h0 : H[0]? = some (woB w) := hst.cells rfl
    unfold woB at h0
    have w2 : IntKind.i64.wrap ((k : Int) + 1) = (k : Int) + 1 := by rw [wrap_i64] <;> omega
    by_cases hkl : k + 1 < ys.length
    · have hk1 : k < ys.length := by omega
      have hk2 : (k : Int) + 1 < ys.length := by omega
      have hs1 := rowI hk1
      have hs2 : AM.rowAt 1 (ints ys) ((k : Int) + 1) = [.sc (.int .i64 ys[k + 1])] := by simpa using rowI hkl
      have gy1 : ys.getD k 0 = ys[k] := by rw [List.getD_eq_getElem?_getD, List.getElem?_eq_getElem hk1]; rfl
      have gy2 : ys.getD (k + 1) 0 = ys[k + 1] := by rw [List.getD_eq_getElem?_getD, List.getElem?_eq_getElem hkl]; rfl
      have by2 := hy.within _ (List.getElem_mem hkl)
      have wy : IntKind.i64.wrap (ys[k + 1] - 1) = ys[k + 1] - 1 := by rw [wrap_i64] <;> omega
      have hza := hZ xs[i] ys[k]
      have hzr := zoomR_range l w.ro w.ti w.la ⟨xs[i], ys[k]⟩
      have hcell : cellA l w xs ys i k = ⟨xs[i], ys[k], xs[i + 1] - 1, ys[k + 1] - 1, (zoomR l w.ro w.ti w.la ⟨xs[i], ys[k]⟩, 0)⟩ := by unfold cellA; rw [gx1, gx2, gy1, gy2]
      have hA := refArea ⟨xs[i], ys[k], xs[i + 1] - 1, ys[k + 1] - 1⟩
      unfold Re.v Re.cs at hA
      have hap : arP (cellsA l w xs ys i ++ rowA l w xs ys i (k + 1)) = arS (arP (cellsA l w xs ys i ++ rowA l w xs ys i k)) (cellA l w xs ys i k) := by rw [rowA_succ, ← List.append_assoc, arP, List.foldl_append]; rfl
      have hl17 := arP_len (cellsA l w xs ys i ++ rowA l w xs ys i k)
      unfold AdK
      rw [hap, hcell]
      generalize arP (cellsA l w xs ys i ++ rowA l w xs ys i k) = zs at *
      generalize zoomR l w.ro w.ti w.la ⟨xs[i], ys[k]⟩ = z at *
      obtain ⟨n, rfl⟩ : ∃ n : Nat, z = n := ⟨z.toNat, by omega⟩
      have hn17 : n < zs.length := by omega
      have hn17' : (n : Int) < zs.length := by omega
      have hat : (us zs)[n]? = some (.sc (.int .u64 zs[n])) := by simp [us, hn17]
      have hul : (us zs).length = 17 := by simp [us, hl17]
      have eS : arS zs ⟨xs[i], ys[k], xs[i + 1] - 1, ys[k + 1] - 1, ((n : Int), 0)⟩ = zs.set n (IntKind.u64.wrap (zs[n] + (areaR ⟨xs[i], ys[k], xs[i + 1] - 1, ys[k + 1] - 1⟩ : Nat))) := by
        unfold arS
        simp only [Int.toNat_natCast, boxC]
        rw [List.getD_eq_getElem?_getD, List.getElem?_eq_getElem hn17]
        rfl
      rw [eS]
      generalize areaR ⟨xs[i], ys[k], xs[i + 1] - 1, ys[k + 1] - 1⟩ = ar at *
      have hus : us (zs.set n (IntKind.u64.wrap (zs[n] + (ar : Nat)))) = (us zs).take n ++ V.sc (.int .u64 (IntKind.u64.wrap (zs[n] + (ar : Nat)))) :: (us zs).drop (n + 1) := by
        unfold us
        rw [List.map_set, List.set_eq_take_append_cons_drop, if_pos (by simpa using hn17)]
      unfold ownA
      rw [hus, List.length_set]
      refine AW.seq (AW.ofx [(16, 29, [5, 12, 8, 10, 9, 11])] mixed (by kernel_rfl) ?_)
      simp [slI, ownA, w2, hk2]
      refine AW.seq (AW.block (AW.seq (AW.ofx [(16, 29, [5, 12, 8, 10, 9, 11])] mixed (by kernel_rfl) ?_)))
      simp [slI, hlt1, hr1, hk1, hs1, h0]
      refine callK.pure hza (by simp [V.closedL, V.closed, c1]) rfl ?_
      simp
      refine AW.ofz [(16, 29, [5, 12, 8, 10, 9, 11])] mixed (by kernel_rfl) ?_
      have hi0 : (0 : Int) ≤ (i : Int) + 1 := by omega
      have hk0 : (0 : Int) ≤ (k : Int) + 1 := by omega
      simp [slI, hi0, hk0, hlt1, hr1, hr2, hlt2, hlt, hk1, hs1, hs2, hk2, hkl, w1, w2, wx, wy, hn17, hn17', hat]
      refine xcallK.of hA rfl rfl ?_
      simp [slI, hn17, hn17', hat, w2, hul]
      refine ⟨by omega, AW.ofx [(16, 29, [5, 12, 8, 10, 9, 11])] mixed (by kernel_rfl) ?_⟩
      simp [w2]
      exact ⟨by omega, hst⟩
    · have hj' : k = ys.length - 1 := by omega
      have hj2 : ¬ (k : Int) + 1 < ys.length := by omega
      refine AW.seq (AW.ofx [(16, 29, [5, 12, 8, 10, 9, 11])] mixed (by kernel_rfl) ?_)
      simp [slI, ownA, w2, hj2]
      refine AW.ofx [(16, 29, [5, 12, 8, 10, 9, 11])] mixed (by kernel_rfl) ?_
      simp [w1]
      refine ⟨by omega, _, ?_, hst, rfl⟩
      rw [cellsA_succ, ← hj']
      simp [subW, weakV, getF, slI, ownA]
  · have hi' : i = xs.length - 1 := by omega
    have hlt2 : ¬ (i : Int) + 1 < xs.length := by omega
    refine AW.seq (AW.ofx [(16, 29, [5, 12, 8, 10, 9, 11])] mixed (by kernel_rfl) ?_)
    simp [slI, ownA, w1, hlt2]
    refine AW.ofx [(16, 29, [5, 12, 8, 10, 9, 11])] mixed (by kernel_rfl) ?_
    simp [slI, ownA, slA, ← hi']
end Go.Proofs.Ytbcfoakceloenaa
