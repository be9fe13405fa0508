/- Rows of shapes by the document: within a rectangle, under a cell, the same. -/
import Derived.Test.YtdeemchhbgomjaaHn
namespace Go.Proofs.Ytdeemchhbgomjaa
set_option linter.all false
open Go.RowKit AM
set_option maxRecDepth 10000
attribute [local simp] aw_skip' aw_region' aw_seq' aw_cond' aw_block' aw_loop' aw_exit' aw_label' aw_ret' aops_nil' aops_cons' aop' aMove aAssign aPick aAlloc aBox aBuild slF aBuildSlice aLoad aLoadOwn aStore aStoreOwn isOwn delR aNilCheck aBin aMakeFunc aFieldAddr aField aIndexOp aIndex partV aIndexAddr aExtract aSliceOp aSlice aShrink aCallOp aCall' aInvoke' aLen aLenMap aDelete aMM aUn aConv aIface aAssert aMakeMap aLookup aMapUpdate aRange aNext aEntry entsOf keyB seekK aMakeSlice lookV aAppend putK layK eval evalV AM.valOf getF putF setF del SV.refers cellsAt rootSV plains shift ldV V.exact V.exactL V.ofValue V.ofPart V.ofCell V.cells V.one Value.oneCell' fitB qSeq qBlock getB afin aret resVs resV resTmps shareF evalS tupV valsS valsV pickV calm calmB lenV useOf feeds shrinks stows looks isT newsV partsV fillV putAt zerosV fitsNil nilB sliceB isEq isNeq awx_skip' awx_region' awx_seq' awx_cond' awx_block' awx_loop' awx_exit' awx_label' awx_ret' xops_nil' xops_cons' xop' xload xcall' addO delO inO putD memB Mix.effB Mix.laysB keysF badK subW weakV zeroRow yops_nil' yops_cons' yop' yload yindex yfield ylen oldO dropO takeO oldL exactB
attribute [local simp] awz_skip' awz_region' awz_seq' awz_cond' awz_block' awz_loop' awz_exit' awz_label' awz_ret' zops_nil' zops_cons' zop' zload zloadOwn zcall' z0 new0 remF old0 dltB

def WiI (xs : List Sh) (r : Re) (k : Nat) (F : Fr) (H : List Bk) : Prop := ∃ L, H = reB r :: L ∧ F = [(0, .v (slS xs)), (3, .v (.ptr 0 0)), (5, ownS ((xs.take k).filter fun t => inB t.box r)), (6, .v (.sc (.int .i64 k)))]
theorem refWithin (xs : List Sh) (r : Re) (hx : xs.length ≤ 1000000) : PFn Try.prog 21 [slS xs, r.v] (slS (xs.filter fun t => inB t.box r)) := by
  unfold Re.v Re.cs
  refine AFn.intro (fn := Try.f21) (by kernel_rfl) rfl (by kernel_rfl) (by simp) ?_
  simp only [Try.f21, argsF]
  refine AW.seq (AW.ofx [] mixed (by kernel_rfl) ?_)
  simp [slS]
  refine AW.seq (AW.ofx [] mixed (by kernel_rfl) ?_)
  simp
  refine AW.seq (AW.seq (AW.ofx [] mixed (by kernel_rfl) ?_))
  simp
  refine AW.block (AW.count xs.length (WiI xs r) ⟨_, ?_, [], by simp [reB], rfl⟩ ?_)
  · simp [subW, weakV, getF, slS, ownS, zeroRow]
  rintro k F H hk ⟨L, rfl, rfl⟩
  have hle := flt_le (xs := xs) (p := fun t => inB t.box r) (k := k)
  unfold reB
  refine AW.ofx [] mixed (by kernel_rfl) ?_
  by_cases hlt : k < xs.length
  · have w1 : IntKind.i64.wrap ((k : Int) + 1) = (k : Int) + 1 := by rw [wrap_i64] <;> omega
    have ho := own_take (p := fun t => inB t.box r) hlt
    have hM := refInB xs[k].box r
    unfold Re.v Re.cs at hM
    generalize ((xs.take k).filter fun t => inB t.box r) = zs at *
    simp [slS, ownS, hlt, rowSh]
    refine callK.pure hM rfl rfl ?_
    cases hb : inB xs[k].box r with
    | false =>
      rw [if_neg (by simp [hb])] at ho
      simp [slS, ownS, hlt, rowSh, w1]
      refine ⟨_, ?_, _, rfl, rfl⟩
      rw [ho]
      simp [subW, weakV, getF, slS, ownS]
    | true =>
      rw [if_pos hb] at ho
      simp [slS, ownS, hlt, rowSh, w1]
      refine ⟨by omega, _, ?_, _, rfl, rfl⟩
      rw [ho]
      simp [subW, weakV, getF, slS, ownS, Sh.cs]
  · have hk' : k = xs.length := by omega
    subst hk'
    simp [slS, ownS]
    refine AW.ofx [] mixed (by kernel_rfl) ?_
    simp
/-! ## Under -/
def undP (c : Ce) (s : Sh) : Bool := (aboveR (homeR s.box).1 c.l).2 && decide ((aboveR (homeR s.box).1 c.l).1 = c)
def UdI (xs : List Sh) (c : Ce) (k : Nat) (F : Fr) (H : List Bk) : Prop := ∃ L, H = ceB c :: L ∧ F = [(0, .v (slS xs)), (3, .v (.ptr 0 0)), (5, .v (.sc (.int .i64 ((xs.take k).filter (undP c)).length))), (6, .v (.sc (.int .i64 k)))]
theorem len_take {xs : List Sh} {p : Sh → Bool} {k : Nat} (h : k < xs.length) : ((xs.take (k + 1)).filter p).length = ((xs.take k).filter p).length + if p xs[k] = true then 1 else 0 := by
  rw [take_snoc h, List.filter_append, List.length_append]
  cases hp : p xs[k] <;> simp [hp]
theorem refUnder (xs : List Sh) (c : Ce) (hx : xs.length ≤ 1000000) : PFn Try.prog 10 [slS xs, c.v] (.sc (.int .i64 (xs.filter (undP c)).length)) := by
  unfold Ce.v Ce.cs
  refine AFn.intro (fn := Try.f10) (by kernel_rfl) rfl (by kernel_rfl) (by simp) ?_
  simp only [Try.f10, argsF]
  refine AW.seq (AW.ofx [] mixed (by kernel_rfl) ?_)
  simp [slS]
  refine AW.seq (AW.ofx [] mixed (by kernel_rfl) ?_)
  simp
  refine AW.seq (AW.seq (AW.ofx [] mixed (by kernel_rfl) ?_))
  simp
  refine AW.block (AW.count xs.length (UdI xs c) ⟨_, ?_, [], by simp [ceB], rfl⟩ ?_)
  · simp [subW, weakV, getF, slS]
  rintro k F H hk ⟨L, rfl, rfl⟩
  have hle := flt_le (xs := xs) (p := undP c) (k := k)
  unfold ceB
  refine AW.seq (AW.ofx [] mixed (by kernel_rfl) ?_)
  by_cases hlt : k < xs.length
  · have w1 : IntKind.i64.wrap ((k : Int) + 1) = (k : Int) + 1 := by rw [wrap_i64] <;> omega
    have hn := len_take (p := undP c) hlt
    have hHo := refHome xs[k].box
    have hAb := refAbove (homeR xs[k].box).1 c.l
    have hu : undP c xs[k] = ((aboveR (homeR xs[k].box).1 c.l).2 && decide ((aboveR (homeR xs[k].box).1 c.l).1 = c)) := rfl
    generalize aboveR (homeR xs[k].box).1 c.l = ab at *
    obtain ⟨a1, a2⟩ := ab
    generalize homeR xs[k].box = ho at *
    obtain ⟨h1, h2⟩ := ho
    generalize ((xs.take k).filter (undP c)).length = n at *
    have w2 : IntKind.i64.wrap ((n : Int) + 1) = (n : Int) + 1 := by rw [wrap_i64] <;> omega
    simp only at hu hAb hHo
    unfold Re.v Re.cs Ce.v Ce.cs at hHo
    unfold Ce.v Ce.cs at hAb
    simp [slS, hlt]
    refine AW.seq (AW.block (AW.seq (AW.ofx [] mixed (by kernel_rfl) ?_)))
    simp [hlt, rowSh]
    refine callK.pure hHo rfl rfl ?_
    simp [setCells, setBlk]
    refine AW.seq (AW.ofx [] mixed (by kernel_rfl) ?_)
    simp
    refine callK.pure hAb rfl rfl ?_
    simp [setCells, setBlk]
    refine AW.ofx [] mixed (by kernel_rfl) ?_
    cases a2 with
    | false =>
      simp at hu
      rw [hu] at hn
      simp
      refine AW.ofx [] mixed (by kernel_rfl) ?_
      simp [w1]
      refine ⟨_, ?_, _, rfl, rfl⟩
      rw [hn]
      simp [subW, weakV, getF, slS]
    | true =>
      by_cases hac : a1 = c
      · simp [hac] at hu
        rw [hu] at hn
        simp [hEq2, hGCe, hac]
        refine AW.ofx [] mixed (by kernel_rfl) ?_
        simp [w1, w2]
        refine ⟨_, ?_, _, rfl, rfl⟩
        rw [hn]
        simp [subW, weakV, getF, slS]
      · simp [hac] at hu
        rw [hu] at hn
        simp [hEq2, hGCe, hac]
        refine AW.ofx [] mixed (by kernel_rfl) ?_
        simp [w1]
        refine ⟨_, ?_, _, rfl, rfl⟩
        rw [hn]
        simp [subW, weakV, getF, slS]
  · have hk' : k = xs.length := by omega
    subst hk'
    simp [slS]
    refine AW.ofx [] mixed (by kernel_rfl) ?_
    simp
/-! ## The same -/
theorem hEqSh0 (a b c d e f a' b' c' d' e' f' : Int) : eqT Try.prog 10 38 (.agg #[.int .i64 a, .int .i64 b, .int .i64 c, .int .i64 d, .int .i64 e, .int .i64 f]) (.agg #[.int .i64 a', .int .i64 b', .int .i64 c', .int .i64 d', .int .i64 e', .int .i64 f']) = some (a == a' && ((b == b' && (c == c' && (d == d' && (e == e' && true)))) && (f == f' && true))) := by kernel_rfl
theorem hGSh : Try.prog.eqGuardType Try.prog.depth 38 = false := by kernel_rfl
theorem sh_eq {a b : Sh} : a = b ↔ a.id = b.id ∧ (a.box.x0 = b.box.x0 ∧ a.box.y0 = b.box.y0 ∧ a.box.x1 = b.box.x1 ∧ a.box.y1 = b.box.y1) ∧ a.lab = b.lab := by
  obtain ⟨ai, ⟨a0, a1, a2, a3⟩, al⟩ := a
  obtain ⟨bi, ⟨b0, b1, b2, b3⟩, bl⟩ := b
  simp [and_assoc]
theorem hEqSh (p q : Sh) : eqT Try.prog 10 38 (.agg #[.int .i64 p.id, .int .i64 p.box.x0, .int .i64 p.box.y0, .int .i64 p.box.x1, .int .i64 p.box.y1, .int .i64 p.lab]) (.agg #[.int .i64 q.id, .int .i64 q.box.x0, .int .i64 q.box.y0, .int .i64 q.box.x1, .int .i64 q.box.y1, .int .i64 q.lab]) = some (decide (p = q)) := by
  rw [hEqSh0]
  congr 1
  rw [Bool.eq_iff_iff, decide_eq_true_iff, sh_eq]
  simp [and_assoc]
def SmI (xs ys : List Sh) (k : Nat) (F : Fr) (H : List Bk) : Prop := xs.take k = ys.take k ∧ H = [] ∧ F = [(0, .v (slS xs)), (1, .v (slS ys)), (5, .v (.sc (.int .i64 k)))]
theorem refSame (xs ys : List Sh) (hx : xs.length ≤ 1000000000) : PFn Try.prog 16 [slS xs, slS ys] (.sc (.bool (decide (xs = ys)))) := by
  refine AFn.intro (fn := Try.f16) (by kernel_rfl) rfl (by kernel_rfl) (by simp) (AW.ofx [] mixed (by kernel_rfl) ?_)
  simp only [Try.f16, argsF]
  simp [slS]
  by_cases hl : xs.length = ys.length
  · simp [slS, hl]
    refine AW.count xs.length (SmI xs ys) ⟨_, ?_, by simp, rfl, rfl⟩ ?_
    · simp [subW, weakV, getF, slS, hl]
    rintro k F H hk ⟨ht, rfl, rfl⟩
    refine AW.ofx [] mixed (by kernel_rfl) ?_
    by_cases hlt : k < xs.length
    · have hlt' : k < ys.length := by omega
      have w1 : IntKind.i64.wrap ((k : Int) + 1) = (k : Int) + 1 := by rw [wrap_i64] <;> omega
      by_cases he : xs[k] = ys[k]
      · simp [slS, hlt, hlt', rowSh, hEqSh, hGSh, w1, he]
        refine ⟨_, ?_, ?_, rfl, rfl⟩
        · simp [subW, weakV, getF, slS]
        · rw [take_snoc hlt, take_snoc hlt', ht, he]
      · have : ¬ xs = ys := fun e' => by
          subst e'
          exact he rfl
        simp [slS, hlt, hlt', rowSh, hEqSh, hGSh, w1, he, this]
    · have hk' : k = xs.length := by omega
      have he : xs = ys := by
        rw [hk', List.take_length, hl, List.take_length] at ht
        exact ht
      simp [slS, hlt]
      exact he
  · have : ¬ xs = ys := fun e => hl (by rw [e])
    have hl' : ((xs.length : Int) != ys.length) = true := by simp; omega
    simp [hl', this]
end Go.Proofs.Ytdeemchhbgomjaa
