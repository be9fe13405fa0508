/- The law PyramidTurned: its walk. -/
import Derived.Test.YtoooldijnilpaaaPn
namespace Go.Proofs.Ytoooldijnilpaaa
set_option linter.all false
open Go.RowKit AM
set_option maxRecDepth 10000
attribute [local simp] aw_skip' aw_region' aw_seq' aw_cond' aw_block' aw_loop' aw_exit' aw_label' aw_ret' aops_nil' aops_cons' aop' aMove aAssign aPick aAlloc aBox aBuild aBuildSlice aLoad aLoadOwn aStore aStoreOwn isOwn delR aNilCheck aBin aMakeFunc aFieldAddr aField aIndexAddr aExtract aSliceOp aSlice aCallOp aCall' aLen aLenMap aDelete aMM aUn aConv aIface aAssert aMakeMap aLookup aMapUpdate aRange aNext aEntry entsOf keyB lookV aAppend putK layK eval evalV AM.valOf getF putF setF del SV.refers cellsAt rootSV plains shift ldV V.exact V.exactL V.ofValue V.ofPart V.ofCell V.cells V.one Value.oneCell' fitB qSeq qBlock getB afin aret resVs resV resTmps shareF evalS tupV valsS valsV pickV calm calmB lenV useOf feeds looks isT newsV partsV fillV putAt zerosV fitsNil nilB isEq isNeq awx_skip' awx_region' awx_seq' awx_cond' awx_block' awx_loop' awx_exit' awx_label' awx_ret' xops_nil' xops_cons' xop' xload xcall' addO delO inO putD memB Mix.effB Mix.laysB keysF badK subW weakV zeroRow yops_nil' yops_cons' yop' yload yindex yfield ylen oldO dropO takeO oldL exactB

/-- Two pyramids, the second of which turns. -/
structure Both (H : List Bk) (ry : Nat) (my : List Nat) (ys : List Pt) (rz : Nat) (mz : List Nat) (zs : List Pt) : Prop where
  y : PyrS H ry my ys
  z : PyrS H rz mz zs
  ry : ry ∉ mz
  my : ∀ m ∈ my, m ∉ mz
theorem Both.turn {H H' : List Bk} {ry rz : Nat} {my mz : List Nat} {ys zs zs' : List Pt} (h : Both H ry my ys rz mz zs) (hk : KeptM mz H H') (hz : PyrS H' rz mz zs') : Both H' ry my ys rz mz zs' :=
  ⟨h.y.kept hk h.ry h.my, hz, h.ry, h.my⟩
theorem Both.perm {H : List Bk} {ry rz : Nat} {my mz : List Nat} {ys zs zs' : List Pt} (h : Both H ry my ys rz mz zs) (hp : zs.Perm zs') : Both H ry my ys rz mz zs' := ⟨h.y, h.z.perm hp, h.ry, h.my⟩
theorem PyrS.keepS {H H' : List Bk} {r : Nat} {ms : List Nat} {ps : List Pt} (h : PyrS H r ms ps) (k : KeptM ms H H') : AM.keepS H H' := fun id ks hk _ => k _ _ (fun hm => by
  obtain ⟨⟨M, hp, _⟩, _⟩ := h
  obtain ⟨j, hj, e⟩ := List.getElem_of_mem hm
  have := hp.m j id (by rw [List.getElem?_eq_getElem hj, e])
  rw [hk] at this
  cases this) hk (fun _ _ _ => by simp)
def TuA (l m : List Pt) (ry rz : Nat) (my mz : List Nat) (k : Nat) (F : Fr) (H : List Bk) : Prop := Both H ry my (haveL l) rz mz ((m.take k).filter fits) ∧
  F = [(1, .v (slP m)), (5, .v (.ptr ry 0)), (6, .v (slP (haveL l))), (7, .v (.ptr rz 0)), (8, .v (.sc (.int .i64 k)))]
def TuB (l m : List Pt) (ry rz : Nat) (my mz : List Nat) (k : Nat) (F : Fr) (H : List Bk) : Prop := Both H ry my (haveL l) rz mz (m.filter fits ++ (haveL l).drop ((haveL l).length - k)) ∧
  F = [(1, .v (slP m)), (5, .v (.ptr ry 0)), (6, .v (slP (haveL l))), (7, .v (.ptr rz 0)), (9, .v (.sc (.int .i64 (((haveL l).length : Int) - 1 - k))))]
def TuC (l m : List Pt) (ry rz : Nat) (my mz : List Nat) (k : Nat) (F : Fr) (H : List Bk) : Prop := Both H ry my (haveL l) rz mz (haveL l ++ (m.drop k).filter fits) ∧
  F = [(1, .v (slP m)), (5, .v (.ptr ry 0)), (7, .v (.ptr rz 0)), (10, .v (.sc (.int .i64 k)))]
set_option maxHeartbeats 2000000 in
theorem turnedLaw (l m : List Pt) : AFn Try.prog 6 [slP l, slP m] [] fun y _ => y = .sc (.bool true) := by
  have hlen := haveL_len l
  refine AFn.intro (fn := Try.f6) (by kernel_rfl) rfl (by kernel_rfl) (by simp) (AW.ofx [(17, 10, [7, 1, 10])] mixed (by kernel_rfl) ?_)
  simp only [Try.f6, argsF]
  by_cases hx : l.length ≤ 100
  rotate_left
  · simp
    refine callK.of (builtNot l (by omega) _) ?_
    rintro y H1 ⟨rfl, k1⟩
    have hx' : (100 : Int) < l.length := by omega
    simp
    refine callK.of (pnew _) ?_
    rintro y H2 ⟨r, ms, rfl, h1, k2, _, hm1⟩
    simp [nilPy, nilPy', slP, hx']
    refine callK.pure knownP rfl rfl ?_
    simp
  simp
  refine callK.of (built l hx _) ?_
  rintro y H1 ⟨ry, my, rfl, hy, k1, _, _⟩
  simp
  refine callK.of (pnew _) ?_
  rintro y H2 ⟨rz, mz, rfl, hz, k2, hr2, hm2⟩
  have hB : Both H2 ry my (haveL l) rz mz [] := by
    refine ⟨hy.kept k2 (by simp) (by simp), hz, fun hm => ?_, fun m hm hm' => ?_⟩
    · have h1 := hm2 _ hm
      obtain ⟨⟨M, hp, _⟩, _⟩ := hy
      have := (List.getElem?_eq_some_iff.1 hp.r).1
      omega
    · have h1 := hm2 _ hm'
      obtain ⟨⟨M, hp, _⟩, _⟩ := hy
      obtain ⟨j, hj, e⟩ := List.getElem_of_mem hm
      have := hp.m j m (by rw [List.getElem?_eq_getElem hj, e])
      have := (List.getElem?_eq_some_iff.1 this).1
      omega
  by_cases hmx : m.length ≤ 100
  rotate_left
  · have hx' : (100 : Int) < m.length := by omega
    simp [slP, hx']
    by_cases hl' : (100 : Int) < l.length
    · simp [hl']
      refine callK.pure knownP rfl rfl ?_
      simp
    · simp [hl']
      refine callK.pure knownP rfl rfl ?_
      simp
  have hx' : ¬ (100 : Int) < m.length := by omega
  simp [slP, hx']
  refine AW.count m.length (TuA l m ry rz my mz) ⟨_, ?_, by simpa using hB, rfl⟩ ?_
  · simp [subW, weakV, getF, slP]
  rintro k F H3 hk ⟨h3, rfl⟩
  refine AW.ofx [(17, 10, [7, 1, 10])] mixed (by kernel_rfl) ?_
  by_cases hlt : k < m.length
  · have w1 : IntKind.i64.wrap ((k : Int) + 1) = (k : Int) + 1 := by rw [wrap_i64] <;> omega
    have hfl := List.length_filter_le fits (m.take k)
    rw [List.length_take] at hfl
    have hadd := h3.z.add m[k] (by omega)
    unfold Pt.v Pt.cs at hadd
    simp [slP, hlt, rowP]
    refine callK.of hadd ?_
    rintro y H4 ⟨rfl, k4, h4⟩
    simp [slP, w1]
    refine ⟨_, ?_, (h3.turn k4 h4).perm ?_, rfl⟩
    · simp [subW, weakV, getF, slP]
    · rw [List.take_succ_eq_append_getElem hlt, List.filter_append]
      cases hf : fits m[k] with
      | true => simp [hf]; exact (List.perm_append_singleton _ _).symm
      | false => simp [hf]
  have hk' : k = m.length := by omega
  subst hk'
  rw [List.take_length] at h3
  have w0 : IntKind.i64.wrap (((haveL l).length : Int) - 1) = ((haveL l).length : Int) - 1 := by rw [wrap_i64] <;> omega
  simp [slP, w0]
  refine AW.count (haveL l).length (TuB l m ry rz my mz) ⟨_, ?_, by simpa using h3, rfl⟩ ?_
  · simp [subW, weakV, getF, slP]
  rintro k F H4 hk ⟨h4, rfl⟩
  refine AW.ofx [(17, 10, [7, 1, 10])] mixed (by kernel_rfl) ?_
  have hfl := List.length_filter_le fits m
  by_cases hlt : k < (haveL l).length
  · have hi : ((haveL l).length : Int) - 1 - k = (((haveL l).length - 1 - k : Nat) : Int) := by omega
    have w1 : IntKind.i64.wrap (((haveL l).length : Int) - 1 - k - 1) = ((haveL l).length : Int) - 1 - (k + 1 : Nat) := by rw [wrap_i64] <;> omega
    have hj : (haveL l).length - 1 - k < (haveL l).length := by omega
    have hge : (0 : Int) ≤ ((haveL l).length : Int) - 1 - k := by omega
    have hge2 : (k : Int) ≤ ((haveL l).length : Int) - 1 := by omega
    have hge' : ((haveL l).length : Int) - 1 - k < (haveL l).length := by omega
    have hf := h4.y.fits _ (List.getElem_mem hj)
    have hadd := h4.z.add (haveL l)[(haveL l).length - 1 - k] (by
      rw [List.length_append, List.length_drop]
      omega)
    rw [hf] at hadd
    unfold Pt.v Pt.cs at hadd
    have hrow := rowP hj
    rw [← hi] at hrow
    simp [slP, hge2, hge', hrow]
    refine callK.of hadd ?_
    rintro y H5 ⟨rfl, k5, h5⟩
    simp [slP, w1]
    refine ⟨hlt, _, ?_, (h4.turn k5 h5).perm ?_, rfl⟩
    · simp [subW, weakV, getF, slP]
    · have e1 : (haveL l).length - k = ((haveL l).length - 1 - k) + 1 := by omega
      have e2 : (haveL l).length - (k + 1) = (haveL l).length - 1 - k := by omega
      rw [e2, List.drop_eq_getElem_cons hj, e1]
      exact List.perm_middle.symm
  have hk' : k = (haveL l).length := by omega
  subst hk'
  have h4' : Both H4 ry my (haveL l) rz mz (haveL l ++ m.filter fits) := h4.perm (by
    rw [Nat.sub_self, List.drop_zero]
    exact List.perm_append_comm)
  have hneg : ¬ (0 : Int) ≤ ((haveL l).length : Int) - 1 - (haveL l).length := by omega
  have hneg2 : ¬ ((haveL l).length : Int) ≤ ((haveL l).length : Int) - 1 := by omega
  simp [slP, hneg, hneg2]
  refine AW.count m.length (TuC l m ry rz my mz) ⟨_, ?_, by simpa using h4', rfl⟩ ?_
  · simp [subW, weakV, getF, slP]
  rintro k F H5 hk ⟨h5, rfl⟩
  refine AW.ofx [(17, 10, [7, 1, 10])] mixed (by kernel_rfl) ?_
  by_cases hlt : k < m.length
  · have w1 : IntKind.i64.wrap ((k : Int) + 1) = (k : Int) + 1 := by rw [wrap_i64] <;> omega
    have hrem := h5.z.remove m[k]
    have hR1 := refFits m[k]
    unfold Pt.v Pt.cs at hrem hR1
    have e1 : decide (m[k] ∈ haveL l ++ (m.drop k).filter fits) = fits m[k] := by
      rw [List.drop_eq_getElem_cons hlt]
      cases hf : fits m[k] with
      | true =>
        simp only [List.filter_cons, hf, if_true, decide_eq_true_eq]
        exact List.mem_append_right _ List.mem_cons_self
      | false =>
        simp only [decide_eq_false_iff_not, List.mem_append, List.mem_filter, not_or, hf, Bool.false_eq_true, and_false, not_false_iff, and_true]
        intro hm
        have := h5.y.fits _ hm
        rw [hf] at this
        cases this
    rw [e1] at hrem
    simp [slP, hlt, rowP]
    refine callK.of hrem ?_
    rintro y H6 ⟨rfl, k6, h6⟩
    simp [slP, hlt, rowP]
    refine ⟨h5.z.keepS k6, ?_⟩
    refine callK.pure hR1 rfl rfl ?_
    simp [slP, w1, boolNe]
    refine ⟨_, ?_, (h5.turn k6 h6).perm ?_, rfl⟩
    · simp [subW, weakV, getF, slP]
    · rw [List.drop_eq_getElem_cons hlt]
      cases hf : fits m[k] with
      | true =>
        simp only [List.filter_cons, hf, if_true]
        exact (List.perm_middle.erase m[k]).trans (by simp)
      | false =>
        simp only [List.filter_cons, hf, Bool.false_eq_true, if_false]
        rw [List.erase_of_not_mem]
        intro hm
        rw [hf] at e1
        simp only [decide_eq_false_iff_not] at e1
        apply e1
        rw [List.drop_eq_getElem_cons hlt, List.filter_cons, hf]
        simpa using hm
  have hk' : k = m.length := by omega
  subst hk'
  have h6 : Both H5 ry my (haveL l) rz mz (haveL l) := h5.perm (by simp)
  have hSame := refSame (sortP (haveL l)) (sortP (haveL l)) (by rw [(sortP_perm _).length_eq]; omega)
  have hcl := slP_closed (sortP (haveL l))
  simp [slP]
  refine callK.of h6.y.points ?_
  rintro y H6 ⟨rfl, k6⟩
  simp
  have hz6 := h6.z.kept k6 (by simp) (by simp)
  refine callK.of hz6.points ?_
  rintro y H7 ⟨rfl, k7⟩
  simp
  refine callK.pure hSame (by simp [V.closedL, V.closed, hcl]) rfl ?_
  simp
  have hy7 := (h6.y.kept k6 (by simp) (by simp)).kept k7 (by simp) (by simp)
  have hz7 := hz6.kept k7 (by simp) (by simp)
  refine callK.of hy7.cells ?_
  rintro y H8 ⟨rfl, rfl⟩
  simp
  refine callK.of hz7.cells ?_
  rintro y H9 ⟨rfl, rfl⟩
  simp
  refine callK.pure knownP rfl rfl ?_
  simp
end Go.Proofs.Ytoooldijnilpaaa
