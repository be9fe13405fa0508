/- The document's answers for the pyramid, further. -/
import Derived.Test.YtoooldijnilpaaaPa
namespace Go.Proofs.Ytoooldijnilpaaa
set_option linter.all false
open Go.RowKit AM
set_option maxRecDepth 10000
attribute [local simp] aw_skip' aw_region' aw_seq' aw_cond' aw_block' aw_loop' aw_exit' aw_label' aw_ret' aops_nil' aops_cons' aop' aMove aAssign aPick aAlloc aBox aBuild aBuildSlice aLoad aLoadOwn aStore aStoreOwn isOwn delR aNilCheck aBin aMakeFunc aFieldAddr aField aIndexAddr aExtract aSliceOp aSlice aCallOp aCall' aLen aLenMap aDelete aMM aUn aConv aIface aAssert aMakeMap aLookup aMapUpdate aRange aNext aEntry entsOf keyB lookV aAppend putK layK eval evalV AM.valOf getF putF setF del SV.refers cellsAt rootSV plains shift ldV V.exact V.exactL V.ofValue V.ofPart V.ofCell V.cells V.one Value.oneCell' fitB qSeq qBlock getB afin aret resVs resV resTmps shareF evalS tupV valsS valsV pickV calm calmB lenV useOf feeds looks isT newsV partsV fillV putAt zerosV fitsNil nilB isEq isNeq awx_skip' awx_region' awx_seq' awx_cond' awx_block' awx_loop' awx_exit' awx_label' awx_ret' xops_nil' xops_cons' xop' xload xcall' addO delO inO putD memB Mix.effB Mix.laysB keysF badK subW weakV zeroRow yops_nil' yops_cons' yop' yload yindex yfield ylen oldO dropO takeO oldL exactB

/-! ## Without -/
def wiS (p : Pt) (s : List Pt × Bool) (x : Pt) : List Pt × Bool := if s.2 = false ∧ x = p then (s.1, true) else (s.1 ++ [x], s.2)
def wiL (xs : List Pt) (p : Pt) : List Pt × Bool := xs.foldl (wiS p) ([], false)
theorem wiL_succ {p : Pt} {xs : List Pt} {k : Nat} (h : k < xs.length) : wiL (xs.take (k + 1)) p = wiS p (wiL (xs.take k) p) xs[k] := by
  unfold wiL
  rw [List.take_succ_eq_append_getElem h, List.foldl_append]
  rfl
theorem wiF_len (p : Pt) : ∀ (xs : List Pt) (s : List Pt × Bool), (xs.foldl (wiS p) s).1.length ≤ s.1.length + xs.length
  | [], s => by simp
  | x :: xs, s => by
    have h1 := wiF_len p xs (wiS p s x)
    have h2 : (wiS p s x).1.length ≤ s.1.length + 1 := by unfold wiS; split <;> simp
    rw [List.foldl_cons]
    simp only [List.length_cons]
    omega
theorem wiL_len (p : Pt) (xs : List Pt) : (wiL xs p).1.length ≤ xs.length := by
  have := wiF_len p xs ([], false)
  simpa [wiL] using this
def WiI (xs : List Pt) (p : Pt) (k : Nat) (F : Fr) (H : List Bk) : Prop := H = [.cells [.v (.sc (.int .i64 p.x)), .v (.sc (.int .i64 p.y))]] ∧
  F = [(0, .v (slP xs)), (3, .v (.ptr 0 0)), (6, ownP (wiL (xs.take k) p).1), (7, .v (.sc (.bool (wiL (xs.take k) p).2))), (8, .v (.sc (.int .i64 k)))]
theorem refWithout (xs : List Pt) (p : Pt) (hx : xs.length ≤ 1000) : PFn Try.prog 31 [slP xs, p.v] (.tup [slP (wiL xs p).1, .sc (.bool (wiL xs p).2)]) := by
  unfold Pt.v Pt.cs
  refine AFn.intro (fn := Try.f31) (by kernel_rfl) rfl (by kernel_rfl) (by simp) (AW.ofx [] mixed (by kernel_rfl) ?_)
  simp only [Try.f31, argsF]
  simp [slP]
  refine AW.count xs.length (WiI xs p) ⟨_, ?_, rfl, rfl⟩ ?_
  · simp [subW, weakV, getF, slP, wiL, ownP]
  rintro k F H hk ⟨rfl, rfl⟩
  refine AW.ofx [] mixed (by kernel_rfl) ?_
  have l1 := wiL_len p (xs.take k)
  by_cases hlt : k < xs.length
  · have w1 : IntKind.i64.wrap ((k : Int) + 1) = (k : Int) + 1 := by rw [wrap_i64] <;> omega
    have hn := wiL_succ (p := p) hlt
    rw [List.length_take, Nat.min_eq_left hk] at l1
    generalize wiL (xs.take k) p = s at *
    obtain ⟨o, b⟩ := s
    simp only at l1
    cases b with
    | true =>
      have e : wiS p (o, true) xs[k] = (o ++ [xs[k]], true) := by simp [wiS]
      rw [e] at hn
      simp [slP, hlt, rowP, ownP]
      refine ⟨by omega, ?_⟩
      try simp [slP, ownP, w1]
      refine ⟨_, ?_, rfl, rfl⟩
      rw [hn]
      simp [subW, weakV, getF, slP, ownP, Pt.cs]
    | false =>
      simp [slP, hlt, rowP, ownP, eqPt, gPt]
      refine gd.intro (fun e => ?_) (fun e => ?_)
      · have he : xs[k] = p := by
          simp at e
          have e1 := e
          cases h1 : xs[k]
          cases p
          rw [h1] at e1
          simpa using e1
        have e : wiS p (o, false) xs[k] = (o, true) := by simp [wiS, he]
        rw [e] at hn
        try simp [slP, ownP, w1]
        refine ⟨_, ?_, rfl, rfl⟩
        rw [hn]
        simp [subW, weakV, getF, slP, ownP, Pt.cs, w1]
      · have he : ¬ xs[k] = p := by
          rintro rfl
          simp at e
        have e : wiS p (o, false) xs[k] = (o ++ [xs[k]], false) := by simp [wiS, he]
        rw [e] at hn
        try simp [slP, ownP, w1, hlt, rowP]
        refine ⟨by omega, ?_⟩
        try simp [slP, ownP, w1]
        refine ⟨_, ?_, rfl, rfl⟩
        rw [hn]
        simp [subW, weakV, getF, slP, ownP, Pt.cs, w1]
  · have hk' : k = xs.length := by omega
    subst hk'
    rw [List.take_length] at l1 ⊢
    simp [slP, ownP]
/-! ## Count -/
def cntR (xs : List Pt) (c : Ce) : Nat := if rightC c then (xs.filter (hasR (boxOf c))).length else 0
def CntI (xs : List Pt) (c : Ce) (b : Re) (ok : Bool) (k : Nat) (F : Fr) (H : List Bk) : Prop := H = [.cells [.v (.sc (.int .i64 c.l)), .v (.sc (.int .i64 c.x)), .v (.sc (.int .i64 c.y))], .cells [.v (.sc (.int .i64 b.x0)), .v (.sc (.int .i64 b.y0)), .v (.sc (.int .i64 b.x1)), .v (.sc (.int .i64 b.y1))]] ∧
  F = [(0, .v (slP xs)), (5, .v (.sc (.int .i64 ((xs.take k).filter (hasR b)).length))), (6, .v (.ptr 1 0)), (7, .v (.sc (.bool ok))), (8, .v (.sc (.int .i64 k)))]
theorem filter_succ {α : Type} {f : α → Bool} {xs : List α} {k : Nat} (h : k < xs.length) : ((xs.take (k + 1)).filter f).length = ((xs.take k).filter f).length + if f xs[k] then 1 else 0 := by
  rw [List.take_succ_eq_append_getElem h, List.filter_append, List.length_append]
  cases hf : f xs[k] <;> simp [hf]
theorem refCount (xs : List Pt) (c : Ce) (hx : xs.length ≤ 1000) : PFn Try.prog 19 [slP xs, c.v] (.sc (.int .i64 (cntR xs c))) := by
  have hB := refBox c
  have hH := fun p => refHas (boxR c).1 p
  unfold Ce.v Ce.cs Re.v Re.cs at hB
  unfold Ce.v Ce.cs
  unfold Re.v Re.cs Pt.v Pt.cs at hH
  refine AFn.intro (fn := Try.f19) (by kernel_rfl) rfl (by kernel_rfl) (by simp) (AW.ofx [] mixed (by kernel_rfl) ?_)
  simp only [Try.f19, argsF]
  simp [slP]
  refine callK.pure hB rfl rfl ?_
  have hcnt : ∀ b ok, boxR c = (b, ok) → cntR xs c = if ok then (xs.filter (hasR b)).length else 0 := fun b ok h => by
    unfold boxR at h
    unfold cntR
    split at h
    · rename_i hr
      cases h
      rw [if_pos hr]
      rfl
    · rename_i hr
      cases h
      rw [if_neg hr]
      rfl
  cases hb : boxR c with
  | mk b ok =>
  rw [hcnt b ok hb]
  rw [hb] at hH
  simp [slP, setCells, setBlk]
  cases ok with
  | false =>
    refine AW.count 0 (CntI xs c b false) ⟨_, ?_, rfl, rfl⟩ ?_
    · simp [subW, weakV, getF, slP]
    rintro k F H hk ⟨rfl, rfl⟩
    have hk0 : k = 0 := by omega
    subst hk0
    refine AW.ofx [] mixed (by kernel_rfl) ?_
    simp [slP]
    cases xs <;> simp [slP]
  | true =>
    refine AW.count xs.length (CntI xs c b true) ⟨_, ?_, rfl, rfl⟩ ?_
    · simp [subW, weakV, getF, slP]
    rintro k F H hk ⟨rfl, rfl⟩
    refine AW.ofx [] mixed (by kernel_rfl) ?_
    have hle : ((xs.take k).filter (hasR b)).length ≤ k := Nat.le_trans (List.length_filter_le _ _) (by rw [List.length_take]; omega)
    by_cases hlt : k < xs.length
    · have w1 : IntKind.i64.wrap ((k : Int) + 1) = (k : Int) + 1 := by rw [wrap_i64] <;> omega
      have w2 : IntKind.i64.wrap ((((xs.take k).filter (hasR b)).length : Int) + 1) = (((xs.take k).filter (hasR b)).length : Int) + 1 := by rw [wrap_i64] <;> omega
      have hn := filter_succ (f := hasR b) hlt
      simp [slP, hlt, rowP]
      refine callK.pure (hH xs[k]) rfl rfl ?_
      cases hf : hasR b xs[k] with
      | true =>
        simp [slP, hlt, w1, w2, hf]
        refine ⟨_, ?_, rfl, rfl⟩
        rw [hn, hf]
        simp [subW, weakV, getF, slP]
      | false =>
        simp [slP, hlt, w1, hf]
        refine ⟨_, ?_, rfl, rfl⟩
        rw [hn, hf]
        simp [subW, weakV, getF, slP]
    · have hk' : k = xs.length := by omega
      subst hk'
      simp [slP]
end Go.Proofs.Ytoooldijnilpaaa
