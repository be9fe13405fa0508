/- Grant: the numbers at which something may change, by the program. -/
import Derived.Test.YtmkeeghjpdnknaaWk1
import Derived.Test.YtmkeeghjpdnknaaIs1
import Derived.Test.YtmkeeghjpdnknaaBc
namespace Go.Proofs.Ytmkeeghjpdnknaa
set_option linter.all false
open Go.RowKit AM Can
set_option maxRecDepth 10000
attribute [local simp] aw_skip' aw_region' aw_seq' aw_cond' aw_block' aw_loop' aw_exit' aw_label' aw_ret' aops_nil' aops_cons' aop' aMove aAssign aPick aAlloc aBox aBuild slF aBuildSlice aLoad aLoadOwn aStore aStoreOwn isOwn delR aNilCheck aBin aMakeFunc aFieldAddr aField aIndexAddr aExtract aSliceOp aSlice aCallOp aCall' aLen aLenMap aDelete aMM aUn aConv aIface aAssert aMakeMap aLookup aMapUpdate aRange aNext aEntry entsOf keyB seekK aMakeSlice lookV aAppend putK layK eval evalV AM.valOf getF putF setF del SV.refers cellsAt rootSV plains shift ldV V.exact V.exactL V.ofValue V.ofPart V.ofCell V.cells V.one Value.oneCell' fitB qSeq qBlock getB afin aret resVs resV resTmps shareF evalS tupV valsS valsV pickV calm calmB lenV useOf feeds looks isT newsV partsV fillV putAt zerosV fitsNil nilB sliceB isEq isNeq awx_skip' awx_region' awx_seq' awx_cond' awx_block' awx_loop' awx_exit' awx_label' awx_ret' xops_nil' xops_cons' xop' xload xcall' addO delO inO putD memB Mix.effB Mix.laysB keysF badK subW weakV zeroRow yops_nil' yops_cons' yop' yload yindex yfield ylen oldO dropO takeO oldL exactB
attribute [local simp] awz_skip' awz_region' awz_seq' awz_cond' awz_block' awz_loop' awz_exit' awz_label' awz_ret' zops_nil' zops_cons' zop' zload zcall' z0 new0 remF old0 dltB

def boxesU (l : List Ru) : List Re := l.flatMap Ru.boxes
def endsD (d : Bool) (l : List Re) : List Int := l.flatMap fun r => [lo d r, hi d r + 1]
theorem endsD_len (d : Bool) (l : List Re) : (endsD d l).length = 2 * l.length := ends_len2 l
theorem endsD_mem {d : Bool} {l : List Re} {z : Int} : z ∈ endsD d l ↔ ∃ r ∈ l, z = lo d r ∨ z = hi d r + 1 := by simp [endsD]
theorem endsD_append (d : Bool) (a b : List Re) : endsD d (a ++ b) = endsD d a ++ endsD d b := by simp [endsD]
/-- What of gives: the first and the last number of a rectangle. -/
def OfD (P : Program) (f : FuncId) (d : Bool) : Prop := ∀ b : Re, PFn P f [b.v] (.tup [.sc (.int .i64 (lo d b)), .sc (.int .i64 (hi d b))])
theorem gbX : OfD Try.prog 76 false := fun b => by
  unfold Re.v Re.cs
  refine AFn.intro (fn := Try.f76) (by kernel_rfl) rfl (by kernel_rfl) (by simp) (AW.ofx [] mixed (by kernel_rfl) ?_)
  simp only [Try.f76, argsF]
  simp [lo, hi]
theorem gbY : OfD Try.prog 77 true := fun b => by
  unfold Re.v Re.cs
  refine AFn.intro (fn := Try.f77) (by kernel_rfl) rfl (by kernel_rfl) (by simp) (AW.ofx [] mixed (by kernel_rfl) ?_)
  simp only [Try.f77, argsF]
  simp [lo, hi]
def EgA (f : FuncId) (d : Bool) (l : List Ru) (k : Nat) (F : Fr) (H : List Bk) : Prop := F = [(1, .v (.fn (.func f) [] [])), (5, ownI (endsD d (boxesU (l.take k)))), (12, .v (slU l)), (13, .v (.sc (.int .i64 l.length))), (14, .v (.sc (.int .i64 k)))]
def EgB (f : FuncId) (d : Bool) (l : List Ru) (k : Nat) (c : List Re) (j : Nat) (F : Fr) (H : List Bk) : Prop := F = [(1, .v (.fn (.func f) [] [])), (5, ownI (endsD d (boxesU (l.take k)) ++ endsD d (c.take j))), (12, .v (slU l)), (13, .v (.sc (.int .i64 l.length))), (14, .v (.sc (.int .i64 k))), (19, .v (slR c)), (20, .v (.sc (.int .i64 c.length))), (21, .v (.sc (.int .i64 j)))]
theorem boxesU_take {l : List Ru} {k : Nat} (h : k < l.length) : boxesU (l.take (k + 1)) = boxesU (l.take k) ++ l[k].boxes := flat_take_succ h
theorem boxesU_take_len (l : List Ru) (k : Nat) : (boxesU (l.take k)).length ≤ (boxesU l).length := by
  have := congrArg (fun x => (boxesU x).length) (List.take_append_drop k l)
  simp only [boxesU, List.flatMap_append, List.length_append] at this ⊢
  omega
theorem boxesU_mem {l : List Ru} {r : Ru} (h : r ∈ l) {b : Re} (hb : b ∈ r.boxes) : b ∈ boxesU l := List.mem_flatMap.2 ⟨r, h, hb⟩
set_option maxHeartbeats 4000000 in
theorem gedges (f : FuncId) (d : Bool) (hf : OfD Try.prog f d) (l : List Ru) (hl : l.length ≤ 1000000) (hn : (boxesU l).length ≤ 1048576) (hr : ∀ b ∈ boxesU l, rightR b = true) :
    PFn Try.prog 75 [slU l, .fn (.func f) [] []] (slI (numsC (endsD d (boxesU l)))) := by
  unfold OfD Re.v Re.cs at hf
  refine AFn.intro (fn := Try.f75) (by kernel_rfl) rfl (by kernel_rfl) (by simp) ?_
  simp only [Try.f75, argsF]
  refine AW.seq (AW.ofz [] mixed (by kernel_rfl) ?_)
  simp
  refine AW.seq (AW.ofz [] mixed (by kernel_rfl) ?_)
  simp
  refine AW.seq (AW.ofz [] mixed (by kernel_rfl) ?_)
  simp [slU]
  refine AW.count l.length (EgA f d l) ⟨_, ?_, rfl⟩ ?_
  · simp [subW, weakV, getF, ownI, zeroRow, endsD, boxesU, ints, slU]
  rintro k F H hk rfl
  refine AW.ofz [] mixed (by kernel_rfl) ?_
  have w1 : IntKind.i64.wrap ((k : Int) + 1) = (k : Int) + 1 := by rw [wrap_i64] <;> omega
  by_cases hlt : k < l.length
  · have hrow := rowU hlt
    have hcm : ∀ b ∈ l[k].boxes, rightR b = true := fun b hb => hr b (boxesU_mem (List.getElem_mem hlt) hb)
    have hst := boxesU_take hlt
    have hpre := boxesU_take_len l (k + 1)
    rw [hst, List.length_append] at hpre
    have hel := endsD_len d (boxesU (l.take k))
    have hnx : endsD d (boxesU (l.take (k + 1))) = endsD d (boxesU (l.take k)) ++ endsD d l[k].boxes := by rw [hst, endsD_append]
    generalize hc : l[k].boxes = c at *
    unfold slR at hrow
    simp [slU, ownI, hlt, hrow, setL]
    refine AW.count c.length (EgB f d l k c) ⟨_, ?_, rfl⟩ ?_
    · simp [subW, weakV, getF, ownI, endsD, slU, slR]
    rintro j F H2 hj rfl
    refine AW.ofz [] mixed (by kernel_rfl) ?_
    have hlj := endsD_len d (c.take j)
    rw [List.length_take] at hlj
    by_cases hjl : j < c.length
    · have w2 : IntKind.i64.wrap ((j : Int) + 1) = (j : Int) + 1 := by rw [wrap_i64] <;> omega
      have hrj := rowR hjl
      have hbj := rightR_iff.1 (hcm _ (List.getElem_mem hjl))
      have w3 : IntKind.i64.wrap (hi d c[j] + 1) = hi d c[j] + 1 := by
        unfold hi
        rw [wrap_i64] <;> split <;> omega
      have hn := hf c[j]
      have hst : endsD d (c.take (j + 1)) = endsD d (c.take j) ++ [lo d c[j], hi d c[j] + 1] := flat_take_succ hjl
      simp [slU, hjl, hrj, slR, ownI, setL, w2]
      refine callK.pure hn rfl rfl ?_
      simp [slU, slR, w2, w3, ownI]
      refine ⟨by omega, _, ?_, rfl⟩
      rw [hst]
      simp [subW, weakV, getF, ownI, slU, slR, ints]
      omega
    · have hjj : j = c.length := by omega
      subst hjj
      rw [List.take_length, ← hnx]
      simp [slU, slR, ownI, w1]
      refine ⟨_, ?_, rfl⟩
      simp [subW, weakV, getF, ownI, slU]
  · have hk2 : k = l.length := by omega
    subst hk2
    rw [List.take_length]
    have hz := endsD_len d (boxesU l)
    simp [slU, ownI]
    generalize endsD d (boxesU l) = zs at *
    refine AW.seq (AW.rowCall (u := 5) (e := 3) (sz := 1) (n := zs.length) (zs := zs) (xs := []) sortI ⟨_, Try.func48, rfl, by kernel_rfl⟩ (fun x v hv => by simp at hv; subst hv; rfl) rfl rfl rfl rfl rfl rfl (fun a => rfl) rfl rfl (by decide) (by decide) (by decide) (by decide) (by simp [getF, scs_int]) rfl rfl (by omega) ?_)
    rintro ys rfl hyl
    rw [scs_int]
    have hN : numsC zs = Go.Lib.compact (sorted' zs) := rfl
    rw [← hyl]
    rw [hN]
    generalize sorted' zs = qs at *
    simp
    refine AW.seq (AW.rowBack (u := 5) (e := 3) (sz := 1) (n := qs.length) (zs := qs) (xs := []) compactI ⟨_, Try.func49, rfl, by kernel_rfl⟩ (fun x v hv => by simp at hv; subst hv; rfl) rfl rfl rfl rfl rfl rfl (fun a => rfl) rfl rfl (by decide) (by decide) (by decide) (by simp [getF, scs_int]) rfl (by omega) ?_)
    rintro ys rfl
    rw [scs_int]
    generalize Go.Lib.compact qs = rs at *
    simp
    refine AW.ofz [] mixed (by kernel_rfl) ?_
    simp [slI]
end Go.Proofs.Ytmkeeghjpdnknaa
