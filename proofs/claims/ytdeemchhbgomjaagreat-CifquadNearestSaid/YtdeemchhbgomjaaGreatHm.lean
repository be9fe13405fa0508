/- Rows of shapes by the document. -/
import Derived.Test.YtdeemchhbgomjaaGreatHl
namespace Go.Proofs.YtdeemchhbgomjaaGreat
set_option linter.all false
open Go.RowKit AM
set_option maxRecDepth 10000
attribute [local simp] aw_skip' aw_region' aw_seq' aw_cond' aw_block' aw_loop' aw_exit' aw_label' aw_ret' aops_nil' aops_cons' aop' aMove aAssign aPick aAlloc aBox aBuild slF aBuildSlice aLoad aLoadOwn aStore aStoreOwn isOwn delR aNilCheck aBin aMakeFunc aFieldAddr aField aIndexOp aIndex partV aIndexAddr aExtract aSliceOp aSlice aShrink aCallOp aCall' aInvoke' aLen aLenMap aDelete aMM aUn aConv aIface aAssert aMakeMap aLookup aMapUpdate aRange aNext aEntry entsOf keyB seekK aMakeSlice lookV aAppend putK layK eval evalV AM.valOf getF putF setF del SV.refers cellsAt rootSV plains shift ldV V.exact V.exactL V.ofValue V.ofPart V.ofCell V.cells V.one Value.oneCell' fitB qSeq qBlock getB afin aret resVs resV resTmps shareF evalS tupV valsS valsV pickV calm calmB lenV useOf feeds shrinks stows looks isT newsV partsV fillV putAt zerosV fitsNil nilB sliceB isEq isNeq awx_skip' awx_region' awx_seq' awx_cond' awx_block' awx_loop' awx_exit' awx_label' awx_ret' xops_nil' xops_cons' xop' xload xcall' addO delO inO putD memB Mix.effB Mix.laysB keysF badK subW weakV zeroRow yops_nil' yops_cons' yop' yload yindex yfield ylen oldO dropO takeO oldL exactB

theorem rowSh {xs : List Sh} {k : Nat} (h : k < xs.length) : AM.rowAt 6 (xs.flatMap Sh.cs) (k : Int) = [.sc (.int .i64 xs[k].id), .sc (.int .i64 xs[k].box.x0), .sc (.int .i64 xs[k].box.y0), .sc (.int .i64 xs[k].box.x1), .sc (.int .i64 xs[k].box.y1), .sc (.int .i64 xs[k].lab)] := row_flat (enc := Sh.cs) (sz := 6) (fun _ => rfl) h
theorem take_snoc {α : Type} {xs : List α} {k : Nat} (h : k < xs.length) : xs.take (k + 1) = xs.take k ++ [xs[k]] := List.take_succ_eq_append_getElem h
def FdI (xs : List Sh) (i : Int) (k : Nat) (F : Fr) (H : List Bk) : Prop := fnd (xs.take k) i = none ∧ H = [.cells [.v (.sc (.int .i64 0)), .v (.sc (.int .i64 0)), .v (.sc (.int .i64 0)), .v (.sc (.int .i64 0)), .v (.sc (.int .i64 0)), .v (.sc (.int .i64 0))]] ∧
  F = [(0, .v (slS xs)), (1, .v (.sc (.int .i64 i))), (4, .v (.ptr 0 0)), (6, .v (.sc (.int .i64 k)))]
theorem fnd_snoc {xs : List Sh} {i : Int} {k : Nat} (hk : k < xs.length) (h : fnd (xs.take k) i = none) : fnd (xs.take (k + 1)) i = if xs[k].id = i then some xs[k] else none := by
  unfold fnd at *
  rw [take_snoc hk, List.find?_append, h]
  by_cases e : xs[k].id = i <;> simp [e]
theorem fnd_take {xs : List Sh} {i : Int} {k : Nat} {s : Sh} (h : fnd (xs.take k) i = some s) : fnd xs i = some s := by
  unfold fnd at *
  rw [← List.take_append_drop k xs, List.find?_append, h]
  rfl
def FlI (xs : List Sh) (p : Sh → Bool) (G : Fr) (a b : Nat) (H0 : List Bk) (k : Nat) (F : Fr) (H : List Bk) : Prop := (∃ L, H = H0 ++ L) ∧ F = (0, .v (slS xs)) :: (a, ownS ((xs.take k).filter p)) :: (b, .v (.sc (.int .i64 k))) :: G
theorem own_take {xs : List Sh} {p : Sh → Bool} {k : Nat} (h : k < xs.length) : ownS ((xs.take (k + 1)).filter p) = if p xs[k] = true then .own true 32 (((xs.take k).filter p).length + 1) 6 (((xs.take k).filter p).flatMap Sh.cs ++ xs[k].cs) else ownS ((xs.take k).filter p) := by
  rw [take_snoc h, List.filter_append]
  by_cases hp : p xs[k] = true
  · rw [if_pos hp]
    simp [hp, ownS]
  · rw [if_neg hp]
    simp [hp]
theorem flt_le {xs : List Sh} {p : Sh → Bool} {k : Nat} : ((xs.take k).filter p).length ≤ xs.length := by
  have h1 := List.length_filter_le p (xs.take k)
  rw [List.length_take] at h1
  omega
theorem refWithout (xs : List Sh) (i : Int) (hx : xs.length ≤ 1000000) : PFn Tryz.prog 34 [slS xs, .sc (.int .i64 i)] (slS (less xs i)) := by
  refine AFn.intro (fn := Tryz.f34) (by kernel_rfl) rfl (by kernel_rfl) (by simp) (AW.ofx [] mixed (by kernel_rfl) ?_)
  simp only [Tryz.f34, argsF]
  simp [slS]
  refine AW.count xs.length (FlI xs (fun t => !decide (t.id = i)) [(1, .v (.sc (.int .i64 i)))] 5 6 []) ⟨_, ?_, ⟨[], rfl⟩, rfl⟩ ?_
  · simp [subW, weakV, getF, slS, ownS, zeroRow]
  rintro k F H hk ⟨⟨L, rfl⟩, rfl⟩
  have hle := flt_le (xs := xs) (p := fun t => !decide (t.id = i)) (k := k)
  refine AW.ofx [] mixed (by kernel_rfl) ?_
  by_cases hlt : k < xs.length
  · have w1 : IntKind.i64.wrap ((k : Int) + 1) = (k : Int) + 1 := by rw [wrap_i64] <;> omega
    have ho := own_take (p := fun t => !decide (t.id = i)) hlt
    generalize ((xs.take k).filter fun t => !decide (t.id = i)) = zs at *
    by_cases he : xs[k].id = i
    · have he2 : (xs[k].id != i) = false := by simpa using he
      rw [if_neg (by simp [he])] at ho
      simp [slS, ownS, hlt, rowSh, he2, w1]
      refine ⟨_, ?_, ⟨_, rfl⟩, rfl⟩
      rw [ho]
      simp [subW, weakV, getF, slS, ownS]
    · have he2 : (xs[k].id != i) = true := by simpa using he
      rw [if_pos (by simp [he])] at ho
      simp [slS, ownS, hlt, rowSh, he2, w1]
      refine ⟨by omega, _, ?_, ⟨_, rfl⟩, rfl⟩
      rw [ho]
      simp [subW, weakV, getF, slS, ownS, Sh.cs]
  · have hk' : k = xs.length := by omega
    subst hk'
    simp [slS, ownS, less]
/-! ## Put -/
def piS (s : Sh) (a : List Sh × Bool) (x : Sh) : List Sh × Bool := if (!a.2 && decide (s.id < x.id)) = true then (a.1 ++ [s] ++ [x], true) else (a.1 ++ [x], a.2)
def piD (s : Sh) (zs : List Sh) : List Sh × Bool := zs.foldl (piS s) ([], false)
def putD (xs : List Sh) (s : Sh) : List Sh := if (piD s (less xs s.id)).2 = true then (piD s (less xs s.id)).1 else (piD s (less xs s.id)).1 ++ [s]
theorem piD_snoc {s : Sh} {zs : List Sh} {k : Nat} (h : k < zs.length) : piD s (zs.take (k + 1)) = piS s (piD s (zs.take k)) zs[k] := by
  unfold piD
  rw [take_snoc h, List.foldl_append]
  rfl
theorem piD_len {s : Sh} : ∀ zs : List Sh, (piD s zs).1.length ≤ zs.length + 1 ∧ ((piD s zs).2 = false → (piD s zs).1.length = zs.length) := by
  intro zs
  have go : ∀ (n : Nat), n ≤ zs.length → (piD s (zs.take n)).1.length ≤ n + 1 ∧ ((piD s (zs.take n)).2 = false → (piD s (zs.take n)).1.length = n) := by
    intro n
    induction n with
    | zero => intro _; simp [piD]
    | succ n ih =>
      intro hn
      have ih := ih (by omega)
      rw [piD_snoc (by omega)]
      unfold piS
      cases hb : (piD s (zs.take n)).2 with
      | false =>
        have := ih.2 hb
        split <;> simp <;> omega
      | true => simp; omega
  have := go zs.length (Nat.le_refl _)
  rwa [List.take_length] at this
def PdI (zs : List Sh) (s : Sh) (k : Nat) (F : Fr) (H : List Bk) : Prop := ∃ L, H = shB s :: L ∧ F = [(0, .v (slS zs)), (3, .v (.ptr 0 0)), (5, ownS (piD s (zs.take k)).1), (6, .v (.sc (.bool (piD s (zs.take k)).2))), (7, .v (.sc (.int .i64 k)))]
theorem refPut (xs : List Sh) (s : Sh) (hx : xs.length ≤ 1000000) : PFn Tryz.prog 24 [slS xs, s.v] (slS (putD xs s)) := by
  have hW := refWithout xs s.id hx
  have hl : (less xs s.id).length ≤ 1000000 := Nat.le_trans (List.length_filter_le _ _) hx
  unfold putD
  generalize less xs s.id = zs at *
  unfold Sh.v Sh.cs
  unfold slS at hW
  refine AFn.intro (fn := Tryz.f24) (by kernel_rfl) rfl (by kernel_rfl) (by simp) ?_
  simp only [Tryz.f24, argsF]
  refine AW.seq (AW.ofx [] mixed (by kernel_rfl) ?_)
  simp
  refine AW.seq (AW.ofx [] mixed (by kernel_rfl) ?_)
  simp
  refine AW.seq (AW.ofx [] mixed (by kernel_rfl) ?_)
  simp
  refine AW.seq (AW.ofx [] mixed (by kernel_rfl) ?_)
  simp [slS]
  refine callK.pure hW (by simp [V.closedL, V.closed, closed_flat (enc := Sh.cs) (fun _ => rfl)]) (by simp [V.closed, closed_flat (enc := Sh.cs) (fun _ => rfl)]) ?_
  simp
  refine AW.seq (AW.seq (AW.ofx [] mixed (by kernel_rfl) ?_))
  simp
  refine AW.block ?_
  refine AW.count zs.length (PdI zs s) ⟨_, ?_, [], by simp [shB], rfl⟩ ?_
  · simp [subW, weakV, getF, slS, ownS, zeroRow, piD]
  rintro k F H hk ⟨L, rfl, rfl⟩
  have hpl := piD_len (s := s) (zs.take k)
  rw [List.length_take, Nat.min_eq_left hk] at hpl
  unfold shB
  refine AW.ofx [] mixed (by kernel_rfl) ?_
  by_cases hlt : k < zs.length
  · have w1 : IntKind.i64.wrap ((k : Int) + 1) = (k : Int) + 1 := by rw [wrap_i64] <;> omega
    have hs := piD_snoc (s := s) hlt
    generalize piD s (zs.take k) = a at *
    obtain ⟨l, b⟩ := a
    unfold piS at hs
    simp only at hs hpl
    cases b with
    | true =>
      simp at hs
      simp [slS, ownS, hlt, rowSh, w1]
      refine ⟨by omega, _, ?_, _, rfl, rfl⟩
      rw [hs]
      simp [subW, weakV, getF, slS, ownS, Sh.cs]
    | false =>
      by_cases he : s.id < zs[k].id
      · simp [he] at hs
        simp [slS, ownS, hlt, rowSh, w1, he]
        refine ⟨by omega, by omega, _, ?_, _, rfl, rfl⟩
        rw [hs]
        simp [subW, weakV, getF, slS, ownS, Sh.cs]
      · simp [he] at hs
        simp [slS, ownS, hlt, rowSh, w1, he]
        refine ⟨by omega, _, ?_, _, rfl, rfl⟩
        rw [hs]
        simp [subW, weakV, getF, slS, ownS, Sh.cs]
  · have hk' : k = zs.length := by omega
    subst hk'
    rw [List.take_length]
    rw [List.take_length] at hpl
    generalize piD s zs = a at *
    obtain ⟨l, b⟩ := a
    simp [slS, ownS]
    cases b with
    | true =>
      refine AW.ofx [] mixed (by kernel_rfl) ?_
      simp [slS, ownS]
    | false =>
      refine AW.ofx [] mixed (by kernel_rfl) ?_
      simp [slS, ownS]
      simp at hpl
      exact ⟨by omega, rfl⟩
end Go.Proofs.YtdeemchhbgomjaaGreat
