/- The document's answers for the pyramid: points in a row. -/
import Derived.Test.YtoooldijnilpaaaGe
namespace Go.Proofs.Ytoooldijnilpaaa
set_option linter.all false
open Go.RowKit AM
set_option maxRecDepth 10000
attribute [local simp] aw_skip' aw_region' aw_seq' aw_cond' aw_block' aw_loop' aw_exit' aw_label' aw_ret' aops_nil' aops_cons' aop' aMove aAssign aPick aAlloc aBox aBuild aBuildSlice aLoad aLoadOwn aStore aStoreOwn isOwn delR aNilCheck aBin aMakeFunc aFieldAddr aField aIndexAddr aExtract aSliceOp aSlice aCallOp aCall' aLen aLenMap aDelete aMM aUn aConv aIface aAssert aMakeMap aLookup aMapUpdate aRange aNext aEntry entsOf keyB lookV aAppend putK layK eval evalV AM.valOf getF putF setF del SV.refers cellsAt rootSV plains shift ldV V.exact V.exactL V.ofValue V.ofPart V.ofCell V.cells V.one Value.oneCell' fitB qSeq qBlock getB afin aret resVs resV resTmps shareF evalS tupV valsS valsV pickV calm calmB lenV useOf feeds looks isT newsV partsV fillV putAt zerosV fitsNil nilB isEq isNeq awx_skip' awx_region' awx_seq' awx_cond' awx_block' awx_loop' awx_exit' awx_label' awx_ret' xops_nil' xops_cons' xop' xload xcall' addO delO inO putD memB Mix.effB Mix.laysB keysF badK subW weakV zeroRow yops_nil' yops_cons' yop' yload yindex yfield ylen oldO dropO takeO oldL exactB

def slP (xs : List Pt) : V := .sl xs.length 2 (xs.flatMap Pt.cs)
def ownP (xs : List Pt) : SV := .own true 43 xs.length 2 (xs.flatMap Pt.cs)
theorem slP_closed (xs : List Pt) : V.closed (slP xs) = true := by simp [slP, V.closed, closed_flat (enc := Pt.cs) (fun _ => rfl)]
theorem rowP {xs : List Pt} {k : Nat} (h : k < xs.length) : AM.rowAt 2 (xs.flatMap Pt.cs) (k : Int) = [.sc (.int .i64 xs[k].x), .sc (.int .i64 xs[k].y)] := row_flat (enc := Pt.cs) (sz := 2) (fun _ => rfl) h
theorem eqPt (a b a' b' : Int) : eqT Try.prog 10 43 (.agg #[.int .i64 a, .int .i64 b]) (.agg #[.int .i64 a', .int .i64 b']) = some (a == a' && (b == b' && true)) := by kernel_rfl
theorem gPt : Try.prog.eqGuardType Try.prog.depth 43 = false := by kernel_rfl
theorem eqCe (a b c a' b' c' : Int) : eqT Try.prog 10 24 (.agg #[.int .i64 a, .int .i64 b, .int .i64 c]) (.agg #[.int .i64 a', .int .i64 b', .int .i64 c']) = some (a == a' && (b == b' && (c == c' && true))) := by kernel_rfl
theorem gCe : Try.prog.eqGuardType Try.prog.depth 24 = false := by kernel_rfl
theorem boolIs {x y : Operand} {u v : Bool} : binR Try.prog .eql 4 x y (.bool u) (.bool v) = some (.bool (u == v)) := by cases u <;> cases v <;> kernel_rfl
theorem boolNe {x y : Operand} {u v : Bool} : binR Try.prog .neq 4 x y (.bool u) (.bool v) = some (.bool (u != v)) := by cases u <;> cases v <;> kernel_rfl

/-! ## Same -/
def SameI (xs ys : List Pt) (k : Nat) (F : Fr) (H : List Bk) : Prop := xs.take k = ys.take k ∧ H = [] ∧ F = [(0, .v (slP xs)), (1, .v (slP ys)), (5, .v (.sc (.int .i64 k)))]
theorem refSame (xs ys : List Pt) (hx : xs.length ≤ 1000) : PFn Try.prog 28 [slP xs, slP ys] (.sc (.bool (decide (xs = ys)))) := by
  refine AFn.intro (fn := Try.f28) (by kernel_rfl) rfl (by kernel_rfl) (by simp) (AW.ofx [] mixed (by kernel_rfl) ?_)
  simp only [Try.f28, argsF]
  simp [slP]
  by_cases hl : xs.length = ys.length
  · simp [slP, hl]
    refine AW.count xs.length (SameI xs ys) ⟨_, ?_, by simp, rfl, rfl⟩ ?_
    · simp [subW, weakV, getF, slP, hl]
    rintro k F H hk ⟨ht, rfl, rfl⟩
    refine AW.ofx [] mixed (by kernel_rfl) ?_
    by_cases hlt : k < xs.length
    · have hlt' : k < ys.length := by omega
      have w1 : IntKind.i64.wrap ((k : Int) + 1) = (k : Int) + 1 := by rw [wrap_i64] <;> omega
      simp [slP, hlt, hlt', rowP, eqPt, gPt, w1]
      refine gd.intro (fun e => ?_) (fun e => ?_)
      · have : ¬ xs = ys := fun e' => by
          subst e'
          simp at e
        simp [this]
      · have he : xs[k] = ys[k] := by
          simp at e
          have := e
          cases h1 : xs[k]
          cases h2 : ys[k]
          simp [h1, h2] at this
          simp [this]
        refine ⟨_, ?_, ?_, rfl, rfl⟩
        · simp [subW, weakV, getF, slP]
        · rw [List.take_succ_eq_append_getElem hlt, List.take_succ_eq_append_getElem hlt', ht, he]
    · have hk' : k = xs.length := by omega
      have he : xs = ys := by
        rw [hk', List.take_length, hl, List.take_length] at ht
        exact ht
      simp [slP, hlt]
      exact he
  · have : ¬ xs = ys := fun e => hl (by rw [e])
    have hl' : ((xs.length : Int) != ys.length) = true := by simp; omega
    simp [hl', this]
/-! ## Put -/
def putS (p : Pt) (s : List Pt × Bool) (x : Pt) : List Pt × Bool := if s.2 = false ∧ pcode p < pcode x then (s.1 ++ [p, x], true) else (s.1 ++ [x], s.2)
def putG (p : Pt) (xs : List Pt) : List Pt × Bool := xs.foldl (putS p) ([], false)
def putL (xs : List Pt) (p : Pt) : List Pt := if (putG p xs).2 then (putG p xs).1 else (putG p xs).1 ++ [p]
theorem putG_succ {p : Pt} {xs : List Pt} {k : Nat} (h : k < xs.length) : putG p (xs.take (k + 1)) = putS p (putG p (xs.take k)) xs[k] := by
  unfold putG
  rw [List.take_succ_eq_append_getElem h, List.foldl_append]
  rfl
theorem putF_len (p : Pt) : ∀ (xs : List Pt) (s : List Pt × Bool), (xs.foldl (putS p) s).1.length ≤ s.1.length + xs.length + 1 ∧ (s.2 = true → (xs.foldl (putS p) s).1.length = s.1.length + xs.length ∧ (xs.foldl (putS p) s).2 = true) ∧ ((xs.foldl (putS p) s).2 = false → (xs.foldl (putS p) s).1.length = s.1.length + xs.length)
  | [], s => by simp
  | x :: xs, s => by
    obtain ⟨h1, h2, h3⟩ := putF_len p xs (putS p s x)
    rw [List.foldl_cons]
    simp only [List.length_cons]
    by_cases h : s.2 = false ∧ pcode p < pcode x
    · have e : putS p s x = (s.1 ++ [p, x], true) := by unfold putS; rw [if_pos h]
      rw [e] at h1 h2 h3 ⊢
      have h2 := h2 rfl
      generalize xs.foldl (putS p) (s.1 ++ [p, x], true) = r at *
      simp only [List.length_append, List.length_cons, List.length_nil] at h1 h2 h3
      refine ⟨by omega, fun e => (by rw [h.1] at e; cases e), fun e => (by rw [h2.2] at e; cases e)⟩
    · have e : putS p s x = (s.1 ++ [x], s.2) := by unfold putS; rw [if_neg h]
      rw [e] at h1 h2 h3 ⊢
      generalize xs.foldl (putS p) (s.1 ++ [x], s.2) = r at *
      simp only [List.length_append, List.length_cons, List.length_nil] at h1 h2 h3
      refine ⟨by omega, fun e => ?_, fun e => (by have := h3 e; omega)⟩
      have := h2 e
      exact ⟨by omega, this.2⟩
theorem putG_len (p : Pt) (xs : List Pt) : (putG p xs).1.length ≤ xs.length + 1 ∧ ((putG p xs).2 = false → (putG p xs).1.length = xs.length) := by
  obtain ⟨h1, _, h3⟩ := putF_len p xs ([], false)
  simp only [List.length_nil] at h1 h3
  exact ⟨by unfold putG; omega, fun e => by have := h3 e; unfold putG; omega⟩
def PutI (xs : List Pt) (p : Pt) (k : Nat) (F : Fr) (H : List Bk) : Prop := H = [.cells [.v (.sc (.int .i64 p.x)), .v (.sc (.int .i64 p.y))]] ∧
  F = [(0, .v (slP xs)), (3, .v (.ptr 0 0)), (5, ownP (putG p (xs.take k)).1), (6, .v (.sc (.bool (putG p (xs.take k)).2))), (7, .v (.sc (.int .i64 k)))]
theorem refPut (xs : List Pt) (p : Pt) (hx : xs.length ≤ 1000) : PFn Try.prog 30 [slP xs, p.v] (slP (putL xs p)) := by
  have hC := refPcode
  unfold Pt.v Pt.cs at hC ⊢
  refine AFn.intro (fn := Try.f30) (by kernel_rfl) rfl (by kernel_rfl) (by simp) (AW.ofx [(6, 9, [6, 3, 0, 7])] mixed (by kernel_rfl) ?_)
  simp only [Try.f30, argsF]
  simp [slP]
  refine AW.count xs.length (PutI xs p) ⟨_, ?_, rfl, rfl⟩ ?_
  · simp [subW, weakV, getF, slP, putG, ownP]
  rintro k F H hk ⟨rfl, rfl⟩
  refine AW.ofx [(6, 9, [6, 3, 0, 7])] mixed (by kernel_rfl) ?_
  obtain ⟨l1, l2⟩ := putG_len p (xs.take k)
  by_cases hlt : k < xs.length
  · have w1 : IntKind.i64.wrap ((k : Int) + 1) = (k : Int) + 1 := by rw [wrap_i64] <;> omega
    have hn := putG_succ (p := p) hlt
    rw [List.length_take, Nat.min_eq_left hk] at l1 l2
    generalize putG p (xs.take k) = s at *
    obtain ⟨o, b⟩ := s
    simp only at l1 l2
    cases b with
    | true =>
      have e : putS p (o, true) xs[k] = (o ++ [xs[k]], true) := by simp [putS]
      rw [e] at hn
      simp [slP, hlt, rowP, ownP]
      refine ⟨by omega, ?_⟩
      try simp [slP, ownP, w1]
      refine ⟨_, ?_, rfl, rfl⟩
      rw [hn]
      simp [subW, weakV, getF, slP, ownP, Pt.cs]
    | false =>
      have l2 := l2 rfl
      simp [slP, hlt, rowP, ownP]
      refine callK.pure (hC p) rfl rfl ?_
      simp [slP, hlt, rowP, ownP]
      refine callK.pure (hC xs[k]) rfl rfl ?_
      by_cases hc : pcode p < pcode xs[k]
      · have e : putS p (o, false) xs[k] = (o ++ [p, xs[k]], true) := by simp [putS, hc]
        rw [e] at hn
        simp [slP, hlt, rowP, ownP, hc]
        refine ⟨by omega, ?_⟩
        try simp [slP, hlt, rowP, ownP, w1]
        refine ⟨by omega, ?_⟩
        try simp [slP, hlt, rowP, ownP, w1]
        refine ⟨_, ?_, rfl, rfl⟩
        rw [hn]
        simp [subW, weakV, getF, slP, ownP, Pt.cs]
      · have e : putS p (o, false) xs[k] = (o ++ [xs[k]], false) := by simp [putS, hc]
        rw [e] at hn
        simp [slP, hlt, rowP, ownP, hc]
        refine ⟨by omega, ?_⟩
        try simp [slP, hlt, rowP, ownP, w1]
        refine ⟨_, ?_, rfl, rfl⟩
        rw [hn]
        simp [subW, weakV, getF, slP, ownP, Pt.cs]
  · have hk' : k = xs.length := by omega
    subst hk'
    rw [List.take_length] at l1 l2 ⊢
    unfold putL
    generalize putG p xs = s at *
    obtain ⟨o, b⟩ := s
    simp only at l1 l2
    cases b with
    | true => simp [slP, ownP]
    | false =>
      have l2 := l2 rfl
      simp [slP, ownP]
      refine ⟨by omega, ?_⟩
      try simp [slP, ownP, Pt.cs]
end Go.Proofs.Ytoooldijnilpaaa
