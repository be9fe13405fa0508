/- Rows of records by the document and by their numbers; what must come of fixed calls. -/
import Derived.Test.YtmjnffjacgjfmaaJo1
import Derived.Test.YtmjnffjacgjfmaaGb1
namespace Go.Proofs.Ytmjnffjacgjfmaa
set_option linter.all false
open Go.RowKit AM
set_option maxRecDepth 10000
attribute [local simp] aw_skip' aw_region' aw_seq' aw_cond' aw_block' aw_loop' aw_exit' aw_label' aw_ret' aops_nil' aops_cons' aop' aMove aAssign aPick aAlloc aBox aBuild slF aBuildSlice aLoad aLoadOwn aLoadS sharesAt shares sharedV aStore aStoreOwn isOwn delR aNilCheck aBin aMakeFunc aFieldAddr aField aIndexOp aIndex partV aIndexAddr aExtract aSliceOp aSlice slV aShrink aCallOp aCall' aInvoke' aLen aLenMap aDelete aMM aUn aConv aIface aAssert aMakeMap aLookup aMapUpdate aRange aNext aEntry entsOf keyB seekK aMakeSlice lookV aApp aAppendB aAppendF aAppend putK layK eval evalV AM.valOf getF putF setF del SV.refers cellsAt rootSV plains shift ldV V.exact V.exactL V.ofValue V.ofPart V.ofCell V.cells V.one Value.oneCell' fitB qSeq qBlock getB afin aret resVs resV resTmps shareF evalS tupV valsS valsV pickV calm calmB lenV useOf feeds shrinks stows looks isT newsV partsV fillV putAt zerosV fitsNil nilB sliceB isEq isNeq awx_skip' awx_region' awx_seq' awx_cond' awx_block' awx_loop' awx_exit' awx_label' awx_ret' xops_nil' xops_cons' xop' xload xcall' addO delO inO putD memB Mix.effB Mix.laysB keysF badK subW weakV zeroRow yops_nil' yops_cons' yop' yload yindex yfield ylen oldO dropO takeO oldL exactB V.fixed V.fixedL
attribute [local simp] awz_skip' awz_region' awz_seq' awz_cond' awz_block' awz_loop' awz_exit' awz_label' awz_ret' zops_nil' zops_cons' zop' zload zloadOwn zcall' zlenK z0 new0 remF old0 dltB
theorem rowPr {xs : List Pr} {k : Nat} (h : k < xs.length) : AM.rowAt 4 (xs.flatMap Pr.cs) (k : Int) = [.sc (.int .i64 xs[k].id), .sc (.int .i64 xs[k].at_.x), .sc (.int .i64 xs[k].at_.y), .sc (.int .i64 xs[k].lab)] := row_flat (enc := Pr.cs) (sz := 4) (fun _ => rfl) h
theorem take_snocP {α : Type} {xs : List α} {k : Nat} (h : k < xs.length) : xs.take (k + 1) = xs.take k ++ [xs[k]] := List.take_succ_eq_append_getElem h
def FdP (xs : List Pr) (i : Int) (k : Nat) (F : Fr) (H : List Bk) : Prop := pfnd (xs.take k) i = none ∧ H = [.cells [.v (.sc (.int .i64 0)), .v (.sc (.int .i64 0)), .v (.sc (.int .i64 0)), .v (.sc (.int .i64 0))]] ∧
  F = [(0, .v (lV xs)), (1, .v (.sc (.int .i64 i))), (4, .v (.ptr 0 0)), (6, .v (.sc (.int .i64 k)))]
theorem pfnd_snoc {xs : List Pr} {i : Int} {k : Nat} (hk : k < xs.length) (h : pfnd (xs.take k) i = none) : pfnd (xs.take (k + 1)) i = if xs[k].id = i then some xs[k] else none := by
  unfold pfnd at *
  rw [take_snocP hk, List.find?_append, h]
  by_cases e : xs[k].id = i <;> simp [e]
theorem pfnd_take {xs : List Pr} {i : Int} {k : Nat} {s : Pr} (h : pfnd (xs.take k) i = some s) : pfnd xs i = some s := by
  unfold pfnd at *
  rw [← List.take_append_drop k xs, List.find?_append, h]
  rfl
theorem refFindP (xs : List Pr) (i : Int) (hx : xs.length ≤ 1000000000) : PFn Try.prog 16 [lV xs, .sc (.int .i64 i)] (pfndV xs i) := by
  refine AFn.intro (fn := Try.f16) (by kernel_rfl) rfl (by kernel_rfl) (by simp) (AW.ofx [] mixed (by kernel_rfl) ?_)
  simp only [Try.f16, argsF]
  simp [lV]
  refine AW.count xs.length (FdP xs i) ⟨_, ?_, by simp [pfnd], rfl, rfl⟩ ?_
  · simp [subW, weakV, getF, lV]
  rintro k F H hk ⟨ht, rfl, rfl⟩
  refine AW.ofx [] mixed (by kernel_rfl) ?_
  by_cases hlt : k < xs.length
  · have w1 : IntKind.i64.wrap ((k : Int) + 1) = (k : Int) + 1 := by rw [wrap_i64] <;> omega
    have hs := pfnd_snoc hlt ht
    by_cases he : xs[k].id = i
    · rw [if_pos he] at hs
      have hf := pfnd_take hs
      simp [lV, hlt, rowPr, he, setCells, setBlk, pfndV, hf, Pr.v, Pr.cs]
    · rw [if_neg he] at hs
      have he' : (xs[k].id == i) = false := by simpa using he
      simp [lV, hlt, rowPr, he', w1]
      refine ⟨_, ?_, hs, rfl, rfl⟩
      simp [subW, weakV, getF, lV]
  · have hk' : k = xs.length := by omega
    rw [hk', List.take_length] at ht
    simp [lV, hlt, setCells, setBlk, pfndV, ht, Pr.v, Pr.cs, zeroP]
def FlP (xs : List Pr) (p : Pr → Bool) (G : Fr) (a b : Nat) (H0 : List Bk) (k : Nat) (F : Fr) (H : List Bk) : Prop := (∃ L, H = H0 ++ L) ∧ F = (0, .v (lV xs)) :: (a, ownP ((xs.take k).filter p)) :: (b, .v (.sc (.int .i64 k))) :: G
theorem own_takeP {xs : List Pr} {p : Pr → Bool} {k : Nat} (h : k < xs.length) : ownP ((xs.take (k + 1)).filter p) = if p xs[k] = true then .own true 32 (((xs.take k).filter p).length + 1) 4 (((xs.take k).filter p).flatMap Pr.cs ++ xs[k].cs) else ownP ((xs.take k).filter p) := by
  rw [take_snocP h, List.filter_append]
  by_cases hp : p xs[k] = true
  · rw [if_pos hp]
    simp [hp, ownP]
  · rw [if_neg hp]
    simp [hp]
theorem flt_leP {xs : List Pr} {p : Pr → Bool} {k : Nat} : ((xs.take k).filter p).length ≤ xs.length := by
  have h1 := List.length_filter_le p (xs.take k)
  rw [List.length_take] at h1
  omega
theorem refWithoutP (xs : List Pr) (i : Int) (hx : xs.length ≤ 1000000) : PFn Try.prog 43 [lV xs, .sc (.int .i64 i)] (lV (lessP xs i)) := by
  refine AFn.intro (fn := Try.f43) (by kernel_rfl) rfl (by kernel_rfl) (by simp) (AW.ofx [] mixed (by kernel_rfl) ?_)
  simp only [Try.f43, argsF]
  simp [lV]
  refine AW.count xs.length (FlP xs (fun t => !decide (t.id = i)) [(1, .v (.sc (.int .i64 i)))] 5 6 []) ⟨_, ?_, ⟨[], rfl⟩, rfl⟩ ?_
  · simp [subW, weakV, getF, lV, ownP, zeroRow]
  rintro k F H hk ⟨⟨L, rfl⟩, rfl⟩
  have hle := flt_leP (xs := xs) (p := fun t => !decide (t.id = i)) (k := k)
  refine AW.ofx [] mixed (by kernel_rfl) ?_
  by_cases hlt : k < xs.length
  · have w1 : IntKind.i64.wrap ((k : Int) + 1) = (k : Int) + 1 := by rw [wrap_i64] <;> omega
    have ho := own_takeP (p := fun t => !decide (t.id = i)) hlt
    generalize ((xs.take k).filter fun t => !decide (t.id = i)) = zs at *
    by_cases he : xs[k].id = i
    · have he2 : (xs[k].id != i) = false := by simpa using he
      rw [if_neg (by simp [he])] at ho
      simp [lV, ownP, hlt, rowPr, he2, w1]
      refine ⟨_, ?_, ⟨_, rfl⟩, rfl⟩
      rw [ho]
      simp [subW, weakV, getF, lV, ownP]
    · have he2 : (xs[k].id != i) = true := by simpa using he
      rw [if_pos (by simp [he])] at ho
      simp [lV, ownP, hlt, rowPr, he2, w1]
      refine ⟨by omega, _, ?_, ⟨_, rfl⟩, rfl⟩
      rw [ho]
      simp [subW, weakV, getF, lV, ownP, Pr.cs]
  · have hk' : k = xs.length := by omega
    subst hk'
    simp [lV, ownP, lessP]
/-! ## Put -/
def piSP (s : Pr) (a : List Pr × Bool) (x : Pr) : List Pr × Bool := if (!a.2 && decide (s.id < x.id)) = true then (a.1 ++ [s] ++ [x], true) else (a.1 ++ [x], a.2)
def piDP (s : Pr) (zs : List Pr) : List Pr × Bool := zs.foldl (piSP s) ([], false)
def putDP (xs : List Pr) (s : Pr) : List Pr := if (piDP s xs).2 = true then (piDP s xs).1 else (piDP s xs).1 ++ [s]
theorem piDP_snoc {s : Pr} {zs : List Pr} {k : Nat} (h : k < zs.length) : piDP s (zs.take (k + 1)) = piSP s (piDP s (zs.take k)) zs[k] := by
  unfold piDP
  rw [take_snocP h, List.foldl_append]
  rfl
theorem piDP_len {s : Pr} : ∀ zs : List Pr, (piDP s zs).1.length ≤ zs.length + 1 ∧ ((piDP s zs).2 = false → (piDP s zs).1.length = zs.length) := by
  intro zs
  have go : ∀ (n : Nat), n ≤ zs.length → (piDP s (zs.take n)).1.length ≤ n + 1 ∧ ((piDP s (zs.take n)).2 = false → (piDP s (zs.take n)).1.length = n) := by
    intro n
    induction n with
    | zero => intro _; simp [piDP]
    | succ n ih =>
      intro hn
      have ih := ih (by omega)
      rw [piDP_snoc (by omega)]
      unfold piSP
      cases hb : (piDP s (zs.take n)).2 with
      | false =>
        have := ih.2 hb
        split <;> simp <;> omega
      | true => simp; omega
  have := go zs.length (Nat.le_refl _)
  rwa [List.take_length] at this
def PdIP (zs : List Pr) (s : Pr) (k : Nat) (F : Fr) (H : List Bk) : Prop := ∃ L, H = prB s :: L ∧ F = [(0, .v (lV zs)), (3, .v (.ptr 0 0)), (5, ownP (piDP s (zs.take k)).1), (6, .v (.sc (.bool (piDP s (zs.take k)).2))), (7, .v (.sc (.int .i64 k)))]
theorem refPutP (xs : List Pr) (s : Pr) (hx : xs.length ≤ 1000000) : PFn Try.prog 24 [lV xs, s.v] (lV (putDP xs s)) := by
  unfold putDP
  generalize xs = zs at *
  unfold Pr.v Pr.cs
  refine AFn.intro (fn := Try.f24) (by kernel_rfl) rfl (by kernel_rfl) (by simp) ?_
  simp only [Try.f24, argsF]
  refine AW.seq (AW.ofx [] mixed (by kernel_rfl) ?_)
  simp
  refine AW.seq (AW.ofx [] mixed (by kernel_rfl) ?_)
  simp
  refine AW.seq (AW.ofx [] mixed (by kernel_rfl) ?_)
  simp
  simp only [lV]
  refine AW.seq (AW.seq (AW.ofx [] mixed (by kernel_rfl) ?_))
  simp
  refine AW.block ?_
  refine AW.count zs.length (PdIP zs s) ⟨_, ?_, [], by simp [prB], rfl⟩ ?_
  · simp [subW, weakV, getF, lV, ownP, zeroRow, piDP]
  rintro k F H hk ⟨L, rfl, rfl⟩
  have hpl := piDP_len (s := s) (zs.take k)
  rw [List.length_take, Nat.min_eq_left hk] at hpl
  unfold prB
  refine AW.ofx [] mixed (by kernel_rfl) ?_
  by_cases hlt : k < zs.length
  · have w1 : IntKind.i64.wrap ((k : Int) + 1) = (k : Int) + 1 := by rw [wrap_i64] <;> omega
    have hs := piDP_snoc (s := s) hlt
    generalize piDP s (zs.take k) = a at *
    obtain ⟨l, b⟩ := a
    unfold piSP at hs
    simp only at hs hpl
    cases b with
    | true =>
      simp at hs
      simp [lV, ownP, hlt, rowPr, w1]
      refine ⟨by omega, _, ?_, _, rfl, rfl⟩
      rw [hs]
      simp [subW, weakV, getF, lV, ownP, Pr.cs]
    | false =>
      by_cases he : s.id < zs[k].id
      · simp [he] at hs
        simp [lV, ownP, hlt, rowPr, w1, he]
        refine ⟨by omega, by omega, _, ?_, _, rfl, rfl⟩
        rw [hs]
        simp [subW, weakV, getF, lV, ownP, Pr.cs]
      · simp [he] at hs
        simp [lV, ownP, hlt, rowPr, w1, he]
        refine ⟨by omega, _, ?_, _, rfl, rfl⟩
        rw [hs]
        simp [subW, weakV, getF, lV, ownP, Pr.cs]
  · have hk' : k = zs.length := by omega
    subst hk'
    rw [List.take_length]
    rw [List.take_length] at hpl
    generalize piDP s zs = a at *
    obtain ⟨l, b⟩ := a
    simp [lV, ownP]
    cases b with
    | true =>
      refine AW.ofx [] mixed (by kernel_rfl) ?_
      simp [lV, ownP]
    | false =>
      refine AW.ofx [] mixed (by kernel_rfl) ?_
      simp [lV, ownP]
      simp at hpl
      exact ⟨by omega, rfl⟩
/-! ## The same -/
theorem hEqPr0 (a b c f a' b' c' f' : Int) : eqT Try.prog 10 32 (.agg #[.int .i64 a, .int .i64 b, .int .i64 c, .int .i64 f]) (.agg #[.int .i64 a', .int .i64 b', .int .i64 c', .int .i64 f']) = some (a == a' && ((b == b' && (c == c' && true)) && (f == f' && true))) := by kernel_rfl
theorem hGPr : Try.prog.eqGuardType Try.prog.depth 32 = false := by kernel_rfl
theorem pr_eq {a b : Pr} : a = b ↔ a.id = b.id ∧ (a.at_.x = b.at_.x ∧ a.at_.y = b.at_.y) ∧ a.lab = b.lab := by
  obtain ⟨ai, ⟨a0, a1⟩, al⟩ := a
  obtain ⟨bi, ⟨b0, b1⟩, bl⟩ := b
  simp [and_assoc]
theorem hEqPr (p q : Pr) : eqT Try.prog 10 32 (.agg #[.int .i64 p.id, .int .i64 p.at_.x, .int .i64 p.at_.y, .int .i64 p.lab]) (.agg #[.int .i64 q.id, .int .i64 q.at_.x, .int .i64 q.at_.y, .int .i64 q.lab]) = some (decide (p = q)) := by
  rw [hEqPr0]
  congr 1
  rw [Bool.eq_iff_iff, decide_eq_true_iff, pr_eq]
  simp [and_assoc]
def SmP (xs ys : List Pr) (k : Nat) (F : Fr) (H : List Bk) : Prop := xs.take k = ys.take k ∧ H = [] ∧ F = [(0, .v (lV xs)), (1, .v (lV ys)), (5, .v (.sc (.int .i64 k)))]
theorem refSameP (xs ys : List Pr) (hx : xs.length ≤ 1000000000) : PFn Try.prog 11 [lV xs, lV ys] (.sc (.bool (decide (xs = ys)))) := by
  refine AFn.intro (fn := Try.f11) (by kernel_rfl) rfl (by kernel_rfl) (by simp) (AW.ofx [] mixed (by kernel_rfl) ?_)
  simp only [Try.f11, argsF]
  simp [lV]
  by_cases hl : xs.length = ys.length
  · simp [lV, hl]
    refine AW.count xs.length (SmP xs ys) ⟨_, ?_, by simp, rfl, rfl⟩ ?_
    · simp [subW, weakV, getF, lV, hl]
    rintro k F H hk ⟨ht, rfl, rfl⟩
    refine AW.ofx [] mixed (by kernel_rfl) ?_
    by_cases hlt : k < xs.length
    · have hlt' : k < ys.length := by omega
      have w1 : IntKind.i64.wrap ((k : Int) + 1) = (k : Int) + 1 := by rw [wrap_i64] <;> omega
      by_cases he : xs[k] = ys[k]
      · simp [lV, hlt, hlt', rowPr, hEqPr, hGPr, w1, he]
        refine ⟨_, ?_, ?_, rfl, rfl⟩
        · simp [subW, weakV, getF, lV]
        · rw [take_snocP hlt, take_snocP hlt', ht, he]
      · have : ¬ xs = ys := fun e' => by
          subst e'
          exact he rfl
        simp [lV, hlt, hlt', rowPr, hEqPr, hGPr, w1, he, this]
    · have hk' : k = xs.length := by omega
      have he : xs = ys := by
        rw [hk', List.take_length, hl, List.take_length] at ht
        exact ht
      simp [lV, hlt]
      exact he
  · have : ¬ xs = ys := fun e => hl (by rw [e])
    have hl' : ((xs.length : Int) != ys.length) = true := by simp; omega
    simp [hl', this]

def reCs (r : Re) : List SV := [.v (.sc (.int .i64 r.x0)), .v (.sc (.int .i64 r.y0)), .v (.sc (.int .i64 r.x1)), .v (.sc (.int .i64 r.y1))]
def WnP (xs : List Pr) (r : Re) (k : Nat) (F : Fr) (H : List Bk) : Prop := (∃ L, H = Bk.cells (reCs r) :: L) ∧ F = [(0, .v (lV xs)), (3, .v (.ptr 0 0)), (5, ownP ((xs.take k).filter fun t => hasR r t.at_)), (6, .v (.sc (.int .i64 k)))]
theorem refWindowP (xs : List Pr) (r : Re) (hx : xs.length ≤ 1000000) : PFn Try.prog 26 [lV xs, r.v] (lV (xs.filter fun t => hasR r t.at_)) := by
  unfold Re.v Re.cs
  refine AFn.intro (fn := Try.f26) (by kernel_rfl) rfl (by kernel_rfl) (by simp) ?_
  simp only [Try.f26, argsF]
  refine AW.seq (AW.ofx [] mixed (by kernel_rfl) ?_)
  simp [lV]
  refine AW.seq (AW.ofx [] mixed (by kernel_rfl) ?_)
  simp
  refine AW.seq (AW.seq (AW.ofx [] mixed (by kernel_rfl) ?_))
  simp
  refine AW.block (AW.count xs.length (WnP xs r) ⟨_, ?_, ⟨[], by simp [reCs]⟩, rfl⟩ ?_)
  · simp [subW, weakV, getF, lV, ownP, zeroRow]
  rintro k F H hk ⟨⟨L, rfl⟩, rfl⟩
  have hle := flt_leP (xs := xs) (p := fun t => hasR r t.at_) (k := k)
  unfold reCs
  refine AW.ofx [] mixed (by kernel_rfl) ?_
  by_cases hlt : k < xs.length
  · have w1 : IntKind.i64.wrap ((k : Int) + 1) = (k : Int) + 1 := by rw [wrap_i64] <;> omega
    have ho := own_takeP (p := fun t => hasR r t.at_) hlt
    have hM := refHas r xs[k].at_
    unfold Re.v Re.cs Pt.v Pt.cs at hM
    generalize ((xs.take k).filter fun t => hasR r t.at_) = zs at *
    simp [lV, ownP, hlt, rowPr]
    refine callK.pure hM rfl rfl ?_
    cases hb : hasR r xs[k].at_ with
    | false =>
      rw [if_neg (by simp [hb])] at ho
      simp [lV, ownP, hlt, rowPr, w1]
      refine ⟨_, ?_, ⟨_, rfl⟩, rfl⟩
      rw [ho]
      simp [subW, weakV, getF, lV, ownP]
    | true =>
      rw [if_pos hb] at ho
      simp [lV, ownP, hlt, rowPr, w1]
      refine ⟨by omega, _, ?_, ⟨_, rfl⟩, rfl⟩
      rw [ho]
      simp [subW, weakV, getF, lV, ownP, Pr.cs]
  · have hk' : k = xs.length := by omega
    subst hk'
    simp [lV, ownP]
    refine AW.ofx [] mixed (by kernel_rfl) ?_
    simp
end Go.Proofs.Ytmjnffjacgjfmaa
namespace Go.Proofs.Ytmjnffjacgjfmaa
set_option linter.all false
open Go.RowKit AM
set_option maxRecDepth 10000
attribute [local simp] aw_skip' aw_region' aw_seq' aw_cond' aw_block' aw_loop' aw_exit' aw_label' aw_ret' aops_nil' aops_cons' aop' aMove aAssign aPick aAlloc aBox aBuild slF aBuildSlice aLoad aLoadOwn aLoadS sharesAt shares sharedV aStore aStoreOwn isOwn delR aNilCheck aBin aMakeFunc aFieldAddr aField aIndexOp aIndex partV aIndexAddr aExtract aSliceOp aSlice slV aShrink aCallOp aCall' aInvoke' aLen aLenMap aDelete aMM aUn aConv aIface aAssert aMakeMap aLookup aMapUpdate aRange aNext aEntry entsOf keyB seekK aMakeSlice lookV aApp aAppendB aAppendF aAppend putK layK eval evalV AM.valOf getF putF setF del SV.refers cellsAt rootSV plains shift ldV V.exact V.exactL V.ofValue V.ofPart V.ofCell V.cells V.one Value.oneCell' fitB qSeq qBlock getB afin aret resVs resV resTmps shareF evalS tupV valsS valsV pickV calm calmB lenV useOf feeds shrinks stows looks isT newsV partsV fillV putAt zerosV fitsNil nilB sliceB isEq isNeq awx_skip' awx_region' awx_seq' awx_cond' awx_block' awx_loop' awx_exit' awx_label' awx_ret' xops_nil' xops_cons' xop' xload xcall' addO delO inO putD memB Mix.effB Mix.laysB keysF badK subW weakV zeroRow yops_nil' yops_cons' yop' yload yindex yfield ylen oldO dropO takeO oldL exactB V.fixed V.fixedL
attribute [local simp] awz_skip' awz_region' awz_seq' awz_cond' awz_block' awz_loop' awz_exit' awz_label' awz_ret' zops_nil' zops_cons' zop' zload zloadOwn zcall' zlenK z0 new0 remF old0 dltB
/-! ## Rows by their numbers -/
def IncP (S : List Pr) : Prop := S.Pairwise fun p q => p.id < q.id
theorem IncP.nodup {S : List Pr} (h : IncP S) : (S.map Pr.id).Nodup := List.pairwise_map.2 (h.imp fun h => by omega)
theorem IncP.filter {S : List Pr} (h : IncP S) (p : Pr → Bool) : IncP (S.filter p) := List.Pairwise.sublist List.filter_sublist h
theorem IncP.sort {S : List Pr} (h : IncP S) : sortP S = S := (sortP_unique h.nodup (List.Perm.refl S) (h.imp fun h => by omega)).symm
theorem sortP_congr {S S' : List Pr} (hn : (S'.map Pr.id).Nodup) (hp : S.Perm S') : sortP S = sortP S' := sortP_unique hn ((sortP_perm S).trans hp) (sortP_rises S)
theorem IncP.lessP {S : List Pr} (h : IncP S) (k : Int) : IncP (lessP S k) := h.filter _
theorem incP_pre {zs : List Pr} (hz : IncP zs) {n : Nat} (hlt : n < zs.length) : ∀ t ∈ zs.take n, t.id < zs[n].id := fun t ht => by
  obtain ⟨i, hi, e⟩ := List.getElem_of_mem ht
  rw [List.length_take] at hi
  rw [List.getElem_take] at e
  rw [← e]
  exact List.pairwise_iff_getElem.1 hz i n (by omega) hlt (by omega)
theorem piDP_spec {s : Pr} {zs : List Pr} (hz : IncP zs) (hn : ∀ t ∈ zs, t.id ≠ s.id) : ∀ n, n ≤ zs.length → ((piDP s (zs.take n)).2 = true → (piDP s (zs.take n)).1.Perm (s :: zs.take n) ∧ IncP (piDP s (zs.take n)).1 ∧ ∃ t ∈ zs.take n, s.id < t.id) ∧ ((piDP s (zs.take n)).2 = false → (piDP s (zs.take n)).1 = zs.take n ∧ ∀ t ∈ zs.take n, t.id < s.id) := by
  intro n
  induction n with
  | zero => intro _; simp [piDP]
  | succ n ih =>
    intro hle
    have hlt : n < zs.length := by omega
    have ih := ih (by omega)
    have hs := piDP_snoc (s := s) hlt
    have hpre := incP_pre hz hlt
    have hinc : IncP (zs.take n) := List.Pairwise.sublist (List.take_sublist n zs) hz
    have hne : zs[n].id ≠ s.id := hn _ (List.getElem_mem hlt)
    rw [hs, take_snocP hlt]
    generalize hx : zs[n] = x at *
    generalize hp : zs.take n = pre at *
    generalize piDP s pre = a at *
    obtain ⟨l, b⟩ := a
    unfold piSP
    simp only at ih ⊢
    cases b with
    | true =>
      obtain ⟨h1, h2, t, h3, h4⟩ := ih.1 rfl
      simp only [Bool.not_true, Bool.false_and, Bool.false_eq_true, if_false]
      refine ⟨fun _ => ⟨h1.append_right [x], List.pairwise_append.2 ⟨h2, List.pairwise_singleton _ _, fun y hy z hz' => ?_⟩, t, by simp [h3], h4⟩, fun e => by cases e⟩
      rw [List.mem_singleton] at hz'
      subst hz'
      rcases List.mem_cons.1 (h1.mem_iff.1 hy) with rfl | hy
      · have := hpre t h3
        omega
      · exact hpre y hy
    | false =>
      obtain ⟨h1, h2⟩ := ih.2 rfl
      subst h1
      by_cases he : s.id < x.id
      · simp only [he, decide_true, Bool.not_false, Bool.and_self, if_true]
        refine ⟨fun _ => ⟨?_, ?_, x, by simp, he⟩, fun e => by cases e⟩
        · rw [List.append_assoc]
          exact List.perm_middle
        · refine List.pairwise_append.2 ⟨List.pairwise_append.2 ⟨hinc, List.pairwise_singleton _ _, fun y hy z hz' => ?_⟩, List.pairwise_singleton _ _, fun y hy z hz' => ?_⟩
          · rw [List.mem_singleton] at hz'
            subst hz'
            exact h2 y hy
          · rw [List.mem_singleton] at hz'
            subst hz'
            rcases List.mem_append.1 hy with hy | hy
            · exact hpre y hy
            · rw [List.mem_singleton] at hy
              subst hy
              exact he
      · simp only [he, decide_false, Bool.and_false, Bool.false_eq_true, if_false]
        refine ⟨fun e => (by cases e), fun _ => ⟨trivial, fun t ht => ?_⟩⟩
        rcases List.mem_append.1 ht with ht | ht
        · exact h2 t ht
        · rw [List.mem_singleton] at ht
          subst ht
          omega
theorem putDP_spec {xs : List Pr} {s : Pr} (hx : IncP xs) (hn : ∀ t ∈ xs, t.id ≠ s.id) : (putDP xs s).Perm (s :: xs) ∧ IncP (putDP xs s) := by
  have h := piDP_spec (s := s) hx hn _ (Nat.le_refl _)
  rw [List.take_length] at h
  unfold putDP
  cases hb : (piDP s xs).2 with
  | true =>
    obtain ⟨h1, h2, _⟩ := h.1 hb
    simp only [if_true]
    exact ⟨h1, h2⟩
  | false =>
    obtain ⟨h1, h2⟩ := h.2 hb
    simp only [Bool.false_eq_true, if_false, h1]
    refine ⟨List.perm_append_comm, List.pairwise_append.2 ⟨hx, List.pairwise_singleton _ _, fun y hy z hz' => ?_⟩⟩
    rw [List.mem_singleton] at hz'
    subst hz'
    exact h2 y hy

theorem pfnd_none_iff {S : List Pr} {k : Int} : pfnd S k = none ↔ ∀ t ∈ S, t.id ≠ k := ⟨pfnd_none, pfnd_no⟩
/-- What comes in. -/
def havSP (a : List Pr) (s : Pr) : List Pr := if insE a s = 0 then putDP a s else a
def havP (l : List Pr) : List Pr := l.foldl havSP []
theorem havP_snoc {l : List Pr} {k : Nat} (h : k < l.length) : havP (l.take (k + 1)) = havSP (havP (l.take k)) l[k] := by
  unfold havP
  rw [take_snocP h, List.foldl_append]
  rfl
theorem havSP_inc {a : List Pr} {s : Pr} (h : IncP a) : IncP (havSP a s) := by
  unfold havSP
  split
  · rename_i e
    exact (putDP_spec h (insE_zero e).2).2
  · exact h
theorem havSP_perm {a : List Pr} {s : Pr} (h : IncP a) : (havSP a s).Perm (insS a s) := by
  unfold havSP insS
  split
  · rename_i e
    exact (putDP_spec h (insE_zero e).2).1
  · exact List.Perm.refl _
theorem insS_len {a : List Pr} {s : Pr} : (insS a s).length ≤ a.length + 1 := by
  unfold insS
  split <;> simp
theorem havSP_len {a : List Pr} {s : Pr} (h : IncP a) : (havSP a s).length ≤ a.length + 1 := by
  rw [(havSP_perm h).length_eq]
  exact insS_len
theorem havP_spec (l : List Pr) : IncP (havP l) ∧ (havP l).length ≤ l.length := by
  have go : ∀ n, n ≤ l.length → IncP (havP (l.take n)) ∧ (havP (l.take n)).length ≤ n := by
    intro n
    induction n with
    | zero => intro _; simp [havP, IncP]
    | succ n ih =>
      intro hn
      obtain ⟨h1, h2⟩ := ih (by omega)
      rw [havP_snoc (by omega)]
      have := havSP_len (s := l[n]) h1
      exact ⟨havSP_inc h1, by omega⟩
  have := go l.length (Nat.le_refl _)
  rwa [List.take_length] at this
/-! ## What must come of fixed calls -/
theorem nilPtE {x y : Operand} : binR Try.prog .eql 27 x y (.pointer none) (.pointer none) = some (.bool true) := by kernel_rfl
theorem lrec (id x y : Int) : PFn Try.prog 34 [.sc (.int .i64 id), .sc (.int .i64 x), .sc (.int .i64 y)] (Pr.mk id ⟨x, y⟩ 0).v := by
  refine AFn.intro (fn := Try.f34) (by kernel_rfl) rfl (by kernel_rfl) (by simp) (AW.ofx [] mixed (by kernel_rfl) ?_)
  simp only [Try.f34, argsF]
  simp [setCells, setBlk, Pr.v, Pr.cs]
def q1 : Pr := ⟨1, ⟨0, 0⟩, 0⟩
def q2 : Pr := ⟨2, ⟨65535, 0⟩, 0⟩
def q3 : Pr := ⟨3, ⟨1, 0⟩, 0⟩
set_option maxRecDepth 100000 in
theorem knownP_facts : shapeP 1 16 root0 [q2, q1] = (5, 1) ∧ shapeP 1 16 root0 [q3, q2, q1] = (65, 16) := by
  refine ⟨by decide +kernel, by decide +kernel⟩
theorem lknownP (H : List Bk) : AFn Try.prog 10 [] H fun y H' => y = .sc (.bool true) ∧ Kp NoB H H' := by
  obtain ⟨n1, n2⟩ := knownP_facts
  have l1 := lrec 1 0 0
  have l2 := lrec 2 65535 0
  have l3 := lrec 3 1 0
  have e1 : insS [] q1 = [q1] := by decide +kernel
  have e2 : insS [q1] q2 = [q2, q1] := by decide +kernel
  have e3 : insS [q2, q1] q3 = [q3, q2, q1] := by decide +kernel
  have e4 : lessP [q3, q2, q1] 3 = [q2, q1] := by decide +kernel
  have p1 : insE [] q1 = 0 := by decide +kernel
  have p2 : insE [q1] q2 = 0 := by decide +kernel
  have p3 : insE [q2, q1] q3 = 0 := by decide +kernel
  have p4 : delE [q3, q2, q1] 3 = 0 := by decide +kernel
  have hN := pNew 1 H
  refine AFn.intro (fn := Try.f10) (by kernel_rfl) rfl (by kernel_rfl) (by simp) ?_
  simp only [Try.f10, argsF]
  refine AW.seq (AW.ofx [] mixed (by kernel_rfl) ?_)
  simp
  refine AW.seq (AW.ofx [] mixed (by kernel_rfl) ?_)
  simp
  refine callK.of hN ?_
  rintro y H1 ⟨_, hy⟩
  obtain ⟨r, b, T, rfl, hb, t1, k1, f1⟩ := hy rfl
  have hb1 : b = 1 := by omega
  subst hb1
  have hf1 := f1 r t1.self
  simp
  refine AW.seq (AW.ofx [] mixed (by kernel_rfl) ?_)
  simp
  refine callK.pure l1 rfl rfl ?_
  simp [Pr.v, Pr.cs]
  refine callK.of (pInsert t1 q1 (by simp)) ?_
  rintro y H2 ⟨rfl, k2, T2, t2, f2⟩
  rw [p1]
  rw [e1] at t2
  simp
  refine callK.pure l2 rfl rfl ?_
  simp [Pr.v, Pr.cs]
  refine callK.of (pInsert t2 q2 (by simp)) ?_
  rintro y H3 ⟨rfl, k3, T3, t3, f3⟩
  rw [p2]
  rw [e2] at t3
  have hl1 := t1.lt r t1.self
  have hl2 := t2.lt r t2.self
  have hl3 := t3.lt r t3.self
  have g2 : ∀ x, T2 x → H.length ≤ x := fun x hx => (f2 x hx).elim (f1 x) fun h => by omega
  have g3 : ∀ x, T3 x → H.length ≤ x := fun x hx => (f3 x hx).elim (g2 x) fun h => by omega
  have hk3 : Kp (fun x => H.length ≤ x) H H3 := Kp.trans (k1.weak fun _ h => h.elim) (Kp.trans (k2.weak fun x hx => f1 x hx) (k3.weak fun x hx => g2 x hx))
  clear k1 k2 k3
  simp
  refine AW.seq (AW.ofx [] mixed (by kernel_rfl) ?_)
  simp
  refine callK.of (pNodes t3) ?_
  rintro y H4 ⟨rfl, rfl⟩
  rw [n1]
  simp
  refine callK.of (pDepth t3) ?_
  rintro y H4 ⟨rfl, k4⟩
  have t4 := t3.keep0 k4
  rw [n1]
  simp
  refine AW.ofx [] mixed (by kernel_rfl) ?_
  simp
  refine callK.pure l3 rfl rfl ?_
  simp [Pr.v, Pr.cs]
  refine callK.of (pInsert t4 q3 (by simp)) ?_
  rintro y H5 ⟨rfl, k5, T5, t5, f5⟩
  rw [p3]
  rw [e3] at t5
  simp
  refine callK.of (pNodes t5) ?_
  rintro y H6 ⟨rfl, rfl⟩
  rw [n2]
  simp
  refine callK.of (pDepth t5) ?_
  rintro y H6 ⟨rfl, k6⟩
  have t6 := t5.keep0 k6
  rw [n2]
  simp
  refine callK.of (pDelete t6 3) ?_
  rintro y H7 ⟨rfl, k7, T7, t7, f7⟩
  rw [p4]
  rw [e4] at t7
  simp
  refine callK.of (pNodes t7) ?_
  rintro y H8 ⟨rfl, rfl⟩
  rw [n1]
  simp
  have hl4 := t4.lt r t4.self
  have hl5 := t5.lt r t5.self
  have g5 : ∀ x, T5 x → H.length ≤ x := fun x hx => (f5 x hx).elim (g3 x) fun h => by omega
  exact Kp.new (Kp.trans (hk3.weak fun _ h => .inr h) (Kp.trans (k4.weak fun _ h => h.elim) (Kp.trans (k5.weak fun x hx => .inr (g3 x hx)) (Kp.trans (k6.weak fun _ h => h.elim) (k7.weak fun x hx => .inr (g5 x hx))))))
end Go.Proofs.Ytmjnffjacgjfmaa
