/- Review: the document's changes. -/
import Derived.Test.YtbcfoakceloenaaDn1
namespace Go.Proofs.Ytbcfoakceloenaa
set_option linter.all false
open Go.RowKit AM Can
set_option maxRecDepth 10000
attribute [local simp] aw_skip' aw_region' aw_seq' aw_cond' aw_block' aw_loop' aw_exit' aw_label' aw_ret' aops_nil' aops_cons' aop' aMove aAssign aPick aAlloc aBox aBuild slF aBuildSlice aLoad aLoadOwn aStore aStoreOwn isOwn delR aNilCheck aBin aMakeFunc aFieldAddr aField aIndexAddr aExtract aSliceOp aSlice aCallOp aCall' aLen aLenMap aDelete aMM aUn aConv aIface aAssert aMakeMap aLookup aMapUpdate aRange aNext aEntry entsOf keyB seekK aMakeSlice lookV aAppend putK layK eval evalV AM.valOf getF putF setF del SV.refers cellsAt rootSV plains shift ldV V.exact V.exactL V.ofValue V.ofPart V.ofCell V.cells V.one Value.oneCell' fitB qSeq qBlock getB afin aret resVs resV resTmps shareF evalS tupV valsS valsV pickV calm calmB lenV useOf feeds looks isT newsV partsV fillV putAt zerosV fitsNil nilB sliceB isEq isNeq awx_skip' awx_region' awx_seq' awx_cond' awx_block' awx_loop' awx_exit' awx_label' awx_ret' xops_nil' xops_cons' xop' xload xcall' addO delO inO putD memB Mix.effB Mix.laysB keysF badK subW weakV zeroRow yops_nil' yops_cons' yop' yload yindex yfield ylen oldO dropO takeO oldL exactB
attribute [local simp] awz_skip' awz_region' awz_seq' awz_cond' awz_block' awz_loop' awz_exit' awz_label' awz_ret' zops_nil' zops_cons' zop' zload zloadOwn zcall' z0 new0 remF old0 dltB

theorem rowC' {qs : List (Rc (Int × Int))} {k : Nat} (h : k < qs.length) : AM.rowAt 6 (qs.flatMap ccs) (k : Int) = [.sc (.int .i64 qs[k].x0), .sc (.int .i64 qs[k].y0), .sc (.int .i64 qs[k].x1), .sc (.int .i64 qs[k].y1), .sc (.int .i64 qs[k].z.1), .sc (.int .i64 qs[k].z.2)] := rowC h
def setY1C (v : Int) (q : Rc (Int × Int)) : Rc (Int × Int) := { q with y1 := v }
def linC (was is : List Ru) (w : Wo) (xs : List Int) (y : Int) : List (Rc (Int × Int)) := (rowOf neB was is w xs y).map (rect y y)
theorem endsC_row (y0 y1 : Int) (R : List (Run (Int × Int))) : (R.map (rect y0 y1)).map endsC = R.map fun r => (r.a, r.b, r.z.1, r.z.2) := by simp [endsC, rect]
theorem runsC_inj : ∀ {R S : List (Run (Int × Int))}, (R.map fun r => (r.a, r.b, r.z.1, r.z.2)) = (S.map fun r => (r.a, r.b, r.z.1, r.z.2)) → R = S
  | [], [], _ => rfl
  | [], _ :: _, h => by simp at h
  | _ :: _, [], h => by simp at h
  | r :: R, s :: S, h => by
    simp only [List.map_cons, List.cons.injEq, Prod.mk.injEq] at h
    rw [runsC_inj h.2, spO_eq.2 h.1]
/-- The document's cuts. -/
def docB (was is : List Ru) : List Re := boxesU was ++ boxesU is
/-- The document's changes. -/
def chD (was is : List Ru) (w : Wo) : List (Rc (Int × Int)) := outO neB was is w (edgesR (docB was is) false) (edgesR (docB was is) true) ((edgesR (docB was is) true).length - 1)
def DcI (was is : List Ru) (w : Wo) (xs ys : List Int) (n : Nat) (F : Fr) (H : List Bk) : Prop := ∃ i, ∃ hi : i < ys.length, n = ys.length - i ∧ (∀ j, ∀ hj : j < ys.length, i = j + 1 → i + 1 < ys.length → rowOf neB was is w xs ys[j] ≠ rowOf neB was is w xs ys[i]) ∧ Stays [woB w] H ∧
  F = [(0, .v (slU was)), (1, .v (slU is)), (5, .v (.ptr 0 0)), (7, ownCD (outO neB was is w xs ys i)), (9, .v (slI xs)), (10, .v (slI ys)), (11, .v (.sc (.int .i64 i)))]
def DdI (was is : List Ru) (w : Wo) (xs ys : List Int) (i : Nat) (hi : i < ys.length) (n : Nat) (F : Fr) (H : List Bk) : Prop := ∃ k, ∃ hk : k < ys.length, n = ys.length - k ∧ i < k ∧ (∀ j, ∀ hj : j < ys.length, i ≤ j → j < k → rowOf neB was is w xs ys[j] = rowOf neB was is w xs ys[i]) ∧ Stays [woB w] H ∧
  F = [(0, .v (slU was)), (1, .v (slU is)), (5, .v (.ptr 0 0)), (7, ownCD (outO neB was is w xs ys i)), (9, .v (slI xs)), (10, .v (slI ys)), (11, .v (.sc (.int .i64 i))), (12, .v (slC (linC was is w xs ys[i]))), (13, .v (.sc (.int .i64 k)))]
def DeI (was is : List Ru) (w : Wo) (xs ys : List Int) (out now : List (Rc (Int × Int))) (v : Int) (k : Nat) (j : Nat) (F : Fr) (H : List Bk) : Prop := Stays [woB w] H ∧
  F = [(0, .v (slU was)), (1, .v (slU is)), (5, .v (.ptr 0 0)), (7, ownCD (out ++ (now.take j).map (setY1C v))), (9, .v (slI xs)), (10, .v (slI ys)), (12, .v (slC now)), (13, .v (.sc (.int .i64 k))), (14, .v (.sc (.int .i64 j)))]
set_option maxHeartbeats 16000000 in
theorem dChanges (was is : List Ru) (w : Wo) (h1 : was.length ≤ 1000) (h2 : is.length ≤ 1000) (n1 : (boxesU was).length ≤ 1000) (n2 : (boxesU is).length ≤ 1000) (hr : ∀ b ∈ docB was is, rightR b = true) :
    PFn Try.prog 16 [slU was, slU is, w.v] (slC (chD was is w)) := by
  have hbl := mem_le n1
  have hbl' := mem_le n2
  have hB := dBoxes was is (by omega) (by omega) (by omega) (by omega)
  have hnb : (docB was is).length ≤ 2000 := by unfold docB; rw [List.length_append]; omega
  have hE := fun d => refEdges (docB was is) [] d (by omega) (by simp) hr (by simp)
  have cb := slR_closed (docB was is)
  have c1 := slU_closed was
  have c2 := slU_closed is
  have c3 := fun d => slI_closed (edgesR (docB was is) d)
  have hinx := edges_in hr false
  have hiny := edges_in hr true
  have hsx := (edgesR_spec (docB was is) false).1
  have hsy := (edgesR_spec (docB was is) true).1
  have hx0 : 0 < (edgesR (docB was is) false).length := List.length_pos_of_mem (((edgesR_spec (docB was is) false).2 0).2 (.inl rfl))
  have hy0 : 0 < (edgesR (docB was is) true).length := List.length_pos_of_mem (((edgesR_spec (docB was is) true).2 0).2 (.inl rfl))
  have hlx := edgesR_len false (docB was is)
  have hly := edgesR_len true (docB was is)
  unfold chD
  change PFn _ _ _ (slR (docB was is)) at hB
  simp only [List.append_nil] at hE
  have hE' : ∀ d, PFn Try.prog 36 [slR (docB was is), .sl 0 4 [], .sc (.bool d)] (slI (edgesR (docB was is) d)) := hE
  have hL : ∀ xs : List Int, xs.length ≤ 10000000 → (∀ x ∈ xs, 0 ≤ x ∧ x ≤ 65536) → xs.Pairwise (· < ·) → ∀ y, PFn Try.prog 37 [slU was, slU is, w.v, slI xs, .sc (.int .i64 y)] (slC (linC was is w xs y)) := fun xs h1 h2 h3 y => dRow was is w xs y (by omega) (fun r hr => by have := hbl r hr; omega) (by omega) (fun r hr => by have := hbl' r hr; omega) h1 h2 h3
  unfold Wo.v Wo.cs at hL ⊢
  refine AFn.intro (fn := Try.f16) (by kernel_rfl) rfl (by kernel_rfl) (by simp) (AW.ofx [] mixed (by kernel_rfl) ?_)
  simp only [Try.f16, argsF]
  simp
  refine callK.pure hB (by simp [V.closedL, V.closed, c1, c2]) cb ?_
  simp
  refine callK.pure (hE' false) (by simp [V.closedL, V.closed, cb]) (c3 false) ?_
  simp
  refine callK.pure (hE' true) (by simp [V.closedL, V.closed, cb]) (c3 true) ?_
  have cx := c3 false
  have cy := c3 true
  clear hE hE' c3 hB cb
  generalize edgesR (docB was is) false = xs at *
  generalize edgesR (docB was is) true = ys at *
  have hL := hL xs (by omega) hinx hsx
  have cL := fun y => slC_closed (linC was is w xs y)
  have hRl := rowOf_len neB was is w xs
  have hLl : ∀ y, (linC was is w xs y).length ≤ xs.length := fun y => by unfold linC; rw [List.length_map]; exact hRl y
  have hOl := fun k => emit_len (R := rowOf neB was is w xs) (ys := ys) hRl k
  have hmul : ∀ k, k < ys.length → k * xs.length ≤ 100000000 := fun k hk => Nat.le_trans (Nat.mul_le_mul (show k ≤ 5000 by omega) (show xs.length ≤ 5000 by omega)) (by omega)
  simp
  refine AW.loopW (DcI was is w xs ys) ⟨_, _, ?_, 0, hy0, rfl, fun j hj e => by omega, .refl, rfl⟩ ?_
  · simp [subW, weakV, getF, ownCD, zeroRow, outO, runsK, emit]
  rintro n F H ⟨i, hi, rfl, hnew, hst, rfl⟩
  have h0 : H[0]? = some (woB w) := hst.cells rfl
  unfold woB at h0
  refine AW.ofx [] mixed (by kernel_rfl) ?_
  have w1 : IntKind.i64.wrap ((i : Int) + 1) = ((i + 1 : Nat) : Int) := by rw [wrap_i64] <;> omega
  have hol : (outO neB was is w xs ys i).length ≤ 100000000 := by
    have h1 := hOl i
    have h2 := hmul i hi
    unfold outO
    omega
  by_cases hlt : i + 1 < ys.length
  rotate_left
  · have hii : i = ys.length - 1 := by omega
    have hlt' : ¬ (i : Int) + 1 < ys.length := by omega
    simp [slI, w1, hlt', hlt, ownCD]
    rw [hii]
    simp [slC]
  have hlt' : (i : Int) + 1 < ys.length := by omega
  have hri := rowI hi
  simp [slI, w1, hlt', hlt, hi, hri, ownCD, h0]
  refine callK.pure (hL _) (by simp [V.closedL, V.closed, c1, c2, slI, closed_ints]) (cL _) ?_
  simp [slI, w1, hlt', hlt, hi, hri, ownCD]
  refine AW.loopW (DdI was is w xs ys i hi) ⟨_, _, ?_, i + 1, hlt, rfl, by omega, fun j hj h1 h2 => by
    have : j = i := by omega
    subst this
    rfl, hst, rfl⟩ ?_
  · simp [subW, weakV, getF, ownCD, slI, w1]
  clear h0
  rintro n F H2 ⟨k, hk, rfl, hik, hsame, hst2, rfl⟩
  have h0 : H2[0]? = some (woB w) := hst2.cells rfl
  unfold woB at h0
  refine AW.ofx [] mixed (by kernel_rfl) ?_
  have wk : IntKind.i64.wrap ((k : Int) + 1) = ((k + 1 : Nat) : Int) := by rw [wrap_i64] <;> omega
  have hrk := rowI hk
  have hbk := hiny _ (List.getElem_mem hk)
  have wv : IntKind.i64.wrap (ys[k] - 1) = ys[k] - 1 := by rw [wrap_i64] <;> omega
  have hal := fun y y' => dAlike (linC was is w xs y) (linC was is w xs y') (Nat.le_trans (hLl y) (by omega))
  have hdec : ∀ y y', decide ((linC was is w xs y).map endsC = (linC was is w xs y').map endsC) = decide (rowOf neB was is w xs y = rowOf neB was is w xs y') := fun y y' => by
    unfold linC
    rw [endsC_row, endsC_row]
    rw [decide_eq_decide]
    exact ⟨runsC_inj, fun e => by rw [e]⟩
  have cLs := fun y y' => (show V.closedL [slC (linC was is w xs y), slC (linC was is w xs y')] = true by simp [V.closedL, cL])
  by_cases hgo : k + 1 < ys.length ∧ rowOf neB was is w xs ys[k] = rowOf neB was is w xs ys[i]
  · obtain ⟨hg1, hg2⟩ := hgo
    have hg1' : (k : Int) + 1 < ys.length := by omega
    have ed : decide ((linC was is w xs ys[i]).map endsC = (linC was is w xs ys[k]).map endsC) = true := by
      rw [hdec, hg2]
      simp
    have halk := hal ys[i] ys[k]
    rw [ed] at halk
    simp [slI, wk, hg1, hg1', hk, hrk, ownCD, h0]
    refine callK.pure (hL _) (by simp [V.closedL, V.closed, c1, c2, slI, closed_ints]) (cL _) ?_
    simp
    refine callK.pure halk (cLs _ _) rfl ?_
    simp [wk]
    refine ⟨ys.length - (k + 1), by omega, _, ?_, k + 1, hg1, rfl, by omega, fun j hj h1 h2 => ?_, hst2, rfl⟩
    · simp [subW, weakV, getF, ownCD, slI]
    · by_cases e : j = k
      · subst e; exact hg2
      · exact hsame j hj h1 (by omega)
  have hfin : outO neB was is w xs ys k = outO neB was is w xs ys i ++ (linC was is w xs ys[i]).map (setY1C (ys[k] - 1)) := by
    unfold outO linC
    rw [emit_stretch hsy hik hk (fun j hj e => hnew j hj e hlt) (fun j hj h1 h2 => hsame j hj h1 h2), List.map_map]
    rfl
  have hnew2 : ∀ j, ∀ hj : j < ys.length, k = j + 1 → k + 1 < ys.length → rowOf neB was is w xs ys[j] ≠ rowOf neB was is w xs ys[k] := fun j hj e h1 e2 => hgo ⟨h1, by rw [← e2]; exact hsame j hj (by omega) (by omega)⟩
  have hol2 := hLl ys[i]
  by_cases hk1 : k + 1 < ys.length
  case' pos =>
    have hg1' : (k : Int) + 1 < ys.length := by omega
    have ed : decide ((linC was is w xs ys[i]).map endsC = (linC was is w xs ys[k]).map endsC) = false := by
      rw [hdec, decide_eq_false_iff_not]
      exact fun e => hgo ⟨hk1, e.symm⟩
    have halk := hal ys[i] ys[k]
    rw [ed] at halk
    simp [slI, wk, hk1, hg1', hk, hrk, ownCD, h0]
    refine callK.pure (hL _) (by simp [V.closedL, V.closed, c1, c2, slI, closed_ints]) (cL _) ?_
    simp
    refine callK.pure halk (cLs _ _) rfl ?_
    simp [wk]
  case' neg =>
    have hg1' : ¬ (k : Int) + 1 < ys.length := by omega
    simp [slI, wk, hk1, hg1', ownCD]
  all_goals
    clear h0
    refine AW.count (linC was is w xs ys[i]).length (DeI was is w xs ys (outO neB was is w xs ys i) (linC was is w xs ys[i]) (ys[k] - 1) k) ⟨_, ?_, hst2, rfl⟩ ?_
    · simp [subW, weakV, getF, ownCD, slI]
    rintro j F H3 hj ⟨hst3, rfl⟩
    refine AW.ofx [] mixed (by kernel_rfl) ?_
    have hn : ∀ p, linC was is w xs ys[i] = p → p.length ≤ xs.length := fun p e => by rw [← e]; exact hol2
    by_cases hjl : j < (linC was is w xs ys[i]).length
    · have hrj := rowC' hjl
      have w2 : IntKind.i64.wrap ((j : Int) + 1) = (j : Int) + 1 := by rw [wrap_i64] <;> omega
      have hst := List.take_succ_eq_append_getElem hjl
      generalize linC was is w xs ys[i] = now at *
      simp [slC, slI, ownCD, hjl, hrj, setL, setP, hk, hrk, wv, w2]
      have e1 : ownCD (outO neB was is w xs ys i ++ (now.take (j + 1)).map (setY1C (ys[k] - 1))) = .own true 39 ((outO neB was is w xs ys i).length + min j now.length + 1) 6
          ((outO neB was is w xs ys i).flatMap ccs ++ (((now.map (setY1C (ys[k] - 1))).take j).flatMap ccs ++ [.sc (.int .i64 now[j].x0), .sc (.int .i64 now[j].y0), .sc (.int .i64 now[j].x1), .sc (.int .i64 (ys[k] - 1)), .sc (.int .i64 now[j].z.1), .sc (.int .i64 now[j].z.2)])) := by
        unfold ownCD
        rw [hst, List.map_append, List.flatMap_append, List.flatMap_append, List.length_append, List.length_append, List.length_map, List.length_take, List.map_take]
        rfl
      refine ⟨⟨by omega, by omega⟩, _, ?_, hst3.append, rfl⟩
      rw [e1]
      simp [subW, weakV, getF, slI, slC]
    · have hjj : j = (linC was is w xs ys[i]).length := by omega
      subst hjj
      rw [List.take_length, ← hfin]
      simp [slC, slI, ownCD]
      refine ⟨ys.length - k, by omega, _, ?_, k, hk, rfl, hnew2, hst3, rfl⟩
      simp [subW, weakV, getF, ownCD, slI, slC]
end Go.Proofs.Ytbcfoakceloenaa
