/- Regions: areas of forms, and which points a region has. -/
import Derived.Test.YtoooldijnilpaaaVk
namespace Go.Proofs.Ytoooldijnilpaaa
set_option linter.all false
open Go.RowKit AM Can
set_option maxRecDepth 10000
attribute [local simp] aw_skip' aw_region' aw_seq' aw_cond' aw_block' aw_loop' aw_exit' aw_label' aw_ret' aops_nil' aops_cons' aop' aMove aAssign aPick aAlloc aBox aBuild aBuildSlice aLoad aLoadOwn aStore aStoreOwn isOwn delR aNilCheck aBin aMakeFunc aFieldAddr aField aIndexAddr aExtract aSliceOp aSlice aCallOp aCall' aLen aLenMap aDelete aMM aUn aConv aIface aAssert aMakeMap aLookup aMapUpdate aRange aNext aEntry entsOf keyB lookV aAppend putK layK eval evalV AM.valOf getF putF setF del SV.refers cellsAt rootSV plains shift ldV V.exact V.exactL V.ofValue V.ofPart V.ofCell V.cells V.one Value.oneCell' fitB qSeq qBlock getB afin aret resVs resV resTmps shareF evalS tupV valsS valsV pickV calm calmB lenV useOf feeds looks isT newsV partsV fillV putAt zerosV fitsNil nilB isEq isNeq awx_skip' awx_region' awx_seq' awx_cond' awx_block' awx_loop' awx_exit' awx_label' awx_ret' xops_nil' xops_cons' xop' xload xcall' addO delO inO putD memB Mix.effB Mix.laysB keysF badK subW weakV zeroRow yops_nil' yops_cons' yop' yload yindex yfield ylen oldO dropO takeO oldL exactB
attribute [local simp] awz_skip' awz_region' awz_seq' awz_cond' awz_block' awz_loop' awz_exit' awz_label' awz_ret' zops_nil' zops_cons' zop' zload zcall' z0 new0 remF old0 dltB

/-! ## Forms lie in the square -/
theorem lab_some {cf : Bool → Bool → Bool} {a b : List Re} {x y : Int} {z : Unit} : Lab cf a b x y = some z ↔ cf (hasL a x y) (hasL b x y) = true := unitF_some
theorem lab_in {cf : Bool → Bool → Bool} (hno : cf false false = false) {a b : List Re} {x y : Int} {z : Unit} (h : Lab cf a b x y = some z) : (0 ≤ x ∧ x < (65536 : Nat)) ∧ 0 ≤ y ∧ y < (65536 : Nat) := by
  have h := lab_some.1 h
  cases ha : hasL a x y with
  | true => have := hasL_in ha; omega
  | false =>
    cases hb : hasL b x y with
    | true => have := hasL_in hb; omega
    | false =>
      rw [ha, hb, hno] at h
      cases h
theorem form_right {cf : Bool → Bool → Bool} (hno : cf false false = false) {a b : List Re} {o : List (Rc Unit)} (h : Can.Form (Lab cf a b) o) : ∀ r ∈ o.map toRe, rightR r = true := by
  intro r hr
  obtain ⟨q, hq, rfl⟩ := List.mem_map.1 hr
  have h1 := h.corner hq
  have h2 := h.le hq
  have h3 := lab_in hno h1.1
  have h4 := lab_in hno h1.2
  rw [rightR_iff]
  unfold toRe
  simp only
  omega
theorem form_has {cf : Bool → Bool → Bool} (hno : cf false false = false) {a b : List Re} {o : List (Rc Unit)} (h : Can.Form (Lab cf a b) o) (x y : Int) : hasL (o.map toRe) x y = cf (hasL a x y) (hasL b x y) := by
  rw [Bool.eq_iff_iff, hasL_iff, ← lab_some (z := ()), h.iff]
  constructor
  · rintro ⟨r, hr, _, h2, h3⟩
    obtain ⟨q, hq, rfl⟩ := List.mem_map.1 hr
    exact ⟨q, hq, ⟨h2.1, h2.2, h3.1, h3.2⟩, rfl⟩
  · rintro ⟨q, hq, ⟨h1, h2, h3, h4⟩, _⟩
    exact ⟨toRe q, List.mem_map.2 ⟨q, hq, rfl⟩, form_right hno h _ (List.mem_map.2 ⟨q, hq, rfl⟩), ⟨h1, h2⟩, h3, h4⟩
/-! ## Areas -/
def areaL (l : List Re) : Nat := (l.map areaR).sum
def one1 (_ : Unit) : Nat := 1
theorem form_area {cf : Bool → Bool → Bool} (hno : cf false false = false) {a b : List Re} {o : List (Rc Unit)} (h : Can.Form (Lab cf a b) o) : areaL (o.map toRe) = total one1 (Lab cf a b) 65536 := by
  rw [← h.area_eq (w := one1) (n := 65536) (fun x y z hz => lab_in hno hz)]
  have hr := form_right hno h
  unfold areaL areas
  rw [List.map_map]
  congr 1
  refine List.map_congr_left fun q hq => ?_
  have h1 := hr _ (List.mem_map.2 ⟨q, hq, rfl⟩)
  simp only [Function.comp_def]
  unfold areaR
  rw [if_pos h1]
  have h2 := rightR_iff.1 h1
  unfold toRe at h2 ⊢
  simp only at h2 ⊢
  unfold rcArea one1
  rw [Nat.mul_one, Int.toNat_mul (by omega) (by omega)]
theorem total_le (w : Unit → Nat) (hw : ∀ u, w u ≤ 1) (F : Int → Int → Option Unit) (n : Nat) : total w F n ≤ n * n := by
  unfold total
  refine Nat.le_trans (sumN_le (h := fun _ => n) fun k _ => ?_) (by rw [sumN_const]; exact Nat.le_refl _)
  refine Nat.le_trans (sumN_le (h := fun _ => 1) fun j _ => ?_) (by rw [sumN_const]; omega)
  unfold wgt
  split
  · exact hw _
  · omega
theorem unL_area (l : List Re) : areaL (unL l) ≤ 65536 * 65536 := by
  unfold unL
  split
  · rw [form_area (cf := orB) rfl (formL_form rfl l [])]
    exact total_le _ (fun _ => Nat.le_refl _) _ _
  · simp [areaL]
theorem areaL_take (l : List Re) (k : Nat) : areaL (l.take k) ≤ areaL l := by
  have : areaL l = areaL (l.take k) + areaL (l.drop k) := by
    unfold areaL
    rw [← List.sum_append, ← List.map_append, List.take_append_drop]
  omega
theorem areaL_succ {l : List Re} {k : Nat} (h : k < l.length) : areaL (l.take (k + 1)) = areaL (l.take k) + areaR l[k] := by
  unfold areaL
  rw [List.take_succ_eq_append_getElem h, List.map_append, List.sum_append]
  simp
def ArI (u : List Re) (e : Int) (k : Nat) (F : Fr) (H : List Bk) : Prop := F = [(5, .v (.sc (.int .i64 e))), (6, .v (.sc (.int .u64 (areaL (u.take k) : Nat)))), (14, .v (slR u)), (15, .v (.sc (.int .i64 u.length))), (16, .v (.sc (.int .i64 k)))]
def areaV (n : Nat) (e : Int) : V := .tup [.sc (.int .u64 n), .sc (.int .i64 e)]
theorem rArea (l : List Re) : PFn Try.prog 41 [slR l] (areaV (areaL (unL l)) (wrongR l)) := by
  have h1 := rUnion l
  have c1 := slR_closed l
  have c3 := pairV_closed (unL l) (wrongR l)
  have hl := unL_len l
  have hA := unL_area l
  have hG := gArea
  unfold Re.v Re.cs at hG
  generalize unL l = u at *
  generalize wrongR l = e at *
  unfold areaV
  refine AFn.intro (fn := Try.f41) (by kernel_rfl) rfl (by kernel_rfl) (by simp) (AW.ofx [] mixed (by kernel_rfl) ?_)
  simp only [Try.f41, argsF]
  simp
  refine callK.pure h1 (by simp [V.closedL, c1]) c3 ?_
  simp [pairV, slR]
  refine AW.count u.length (ArI u e) ⟨_, ?_, rfl⟩ ?_
  · simp [subW, weakV, getF, slR, areaL]
  rintro k F H hk rfl
  refine AW.ofx [] mixed (by kernel_rfl) ?_
  by_cases hlt : k < u.length
  · have w1 : IntKind.i64.wrap ((k : Int) + 1) = (k : Int) + 1 := by rw [wrap_i64] <;> omega
    have hs := areaL_succ hlt
    have ht := areaL_take u (k + 1)
    have w2 : IntKind.u64.wrap ((areaL (u.take k) : Nat) + (areaR u[k] : Nat)) = (areaL (u.take (k + 1)) : Nat) := by rw [wrap_u64] <;> omega
    simp [slR, hlt, rowR, setL]
    refine callK.pure (hG u[k]) rfl rfl ?_
    simp [slR, hlt, rowR, setL, w1, w2]
    refine ⟨_, ?_, rfl⟩
    simp [subW, weakV, getF, slR]
  · have hk' : k = u.length := by omega
    subst hk'
    rw [List.take_length]
    simp [slR]
/-! ## Which points a region has -/
def ptB (p : Pt) : Bk := .cells [.v (.sc (.int .i64 p.x)), .v (.sc (.int .i64 p.y))]
theorem rHas1 (r : Re) (p : Pt) (L : List Bk) : AFn Try.prog 84 [r.v, .ptr 0 0] (ptB p :: L) fun y H' => y = .sc (.bool (hasR r p)) ∧ ∃ L', H' = ptB p :: L' := by
  have hg := gHas r p
  unfold Re.v Re.cs Pt.v Pt.cs at hg
  unfold Re.v Re.cs ptB
  refine AFn.intro (fn := Try.f84) (by kernel_rfl) rfl (by kernel_rfl) (by simp) (AW.ofx [] mixed (by kernel_rfl) ?_)
  simp only [Try.f84, argsF]
  simp
  refine callK.pure hg rfl rfl ?_
  simp
def hasV : V := .fn (.func 84) [] [.ptr 0 0]
def InI (l : List Re) (p : Pt) (k : Nat) (F : Fr) (H : List Bk) : Prop := (∀ r ∈ l.take k, hasR r p = false) ∧ (∃ L, H = ptB p :: L) ∧ F = [(0, .v (slR l)), (1, .v hasV), (6, .v (slR l)), (7, .v (.sc (.int .i64 l.length))), (8, .v (.sc (.int .i64 k)))]
theorem rIndex (l : List Re) (p : Pt) (hl : l.length ≤ 1000000000) (L : List Bk) : AFn Try.prog 104 [slR l, hasV] (ptB p :: L) fun y H' => (∃ z : Int, y = .sc (.int .i64 z) ∧ (0 ≤ z ↔ hasL l p.x p.y = true)) ∧ ∃ L', H' = ptB p :: L' := by
  have hg := fun r L => rHas1 r p L
  unfold Re.v Re.cs at hg
  refine AFn.intro (fn := Try.f104) (by kernel_rfl) rfl (by kernel_rfl) (by simp) (AW.ofx [] mixed (by kernel_rfl) ?_)
  simp only [Try.f104, argsF]
  simp [slR]
  refine AW.count l.length (InI l p) ⟨_, ?_, by simp, ⟨L, rfl⟩, rfl⟩ ?_
  · simp [subW, weakV, getF, slR]
  rintro k F H hk ⟨ht, ⟨L2, rfl⟩, rfl⟩
  refine AW.ofx [] mixed (by kernel_rfl) ?_
  by_cases hlt : k < l.length
  · have w1 : IntKind.i64.wrap ((k : Int) + 1) = (k : Int) + 1 := by rw [wrap_i64] <;> omega
    simp [slR, hlt, rowR, hasV]
    refine callK.of (hg l[k] L2) ?_
    rintro y H' ⟨rfl, L3, rfl⟩
    cases hc : hasR l[k] p with
    | true =>
      have : hasL l p.x p.y = true := List.any_eq_true.2 ⟨_, List.getElem_mem hlt, hc⟩
      simp [this]
    | false =>
      simp [w1, slR, hlt, calm]
      refine ⟨_, ?_, ?_, ⟨L3, rfl⟩, rfl⟩
      · simp [subW, weakV, getF, slR, hasV]
      · rw [List.take_succ_eq_append_getElem hlt]
        intro r hm
        rcases List.mem_append.1 hm with hm | hm
        · exact ht r hm
        · simp at hm; subst hm; exact hc
  · have hk' : k = l.length := by omega
    subst hk'
    rw [List.take_length] at ht
    have : hasL l p.x p.y = false := by
      rw [Bool.eq_false_iff]
      intro h
      obtain ⟨r, hr, h1⟩ := List.any_eq_true.1 h
      have := ht r hr
      rw [this] at h1
      cases h1
    simp [slR, this]
theorem rContains (l : List Re) (p : Pt) (hl : l.length ≤ 1000000000) (L : List Bk) : AFn Try.prog 83 [slR l, hasV] (ptB p :: L) fun y H' => y = .sc (.bool (hasL l p.x p.y)) := by
  have hg := rIndex l p hl L
  unfold hasV at hg
  unfold hasV
  refine AFn.intro (fn := Try.f83) (by kernel_rfl) rfl (by kernel_rfl) (by simp) (AW.ofx [] mixed (by kernel_rfl) ?_)
  simp only [Try.f83, argsF]
  simp
  refine callK.of hg ?_
  rintro y H' ⟨⟨z, rfl, hz⟩, L3, rfl⟩
  simp
  rw [Bool.eq_iff_iff]
  simpa using hz
def hasP (l : List Re) (p : Pt) : Bool := decide (wrongR l = 0) && hasL l p.x p.y
theorem rHas (l : List Re) (p : Pt) : PFn Try.prog 49 [slR l, p.v] (.sc (.bool (hasP l p))) := by
  have h1 := rask l
  have c1 := slR_closed l
  unfold hasP Pt.v Pt.cs
  by_cases e1 : wrongR l = 0
  · have hl := (wrongR_ok.1 e1).1
    have hg := rContains l p (by omega) []
    unfold hasV ptB at hg
    rw [e1] at h1 ⊢
    refine AFn.intro (fn := Try.f49) (by kernel_rfl) rfl (by kernel_rfl) (by simp) (AW.ofx [] mixed (by kernel_rfl) ?_)
    simp only [Try.f49, argsF]
    simp
    refine callK.pure h1 (by simp [V.closedL, c1]) rfl ?_
    simp
    refine callK.of hg ?_
    rintro y H' rfl
    simp
  · have e1' : (wrongR l == 0) = false := by simpa using e1
    refine AFn.intro (fn := Try.f49) (by kernel_rfl) rfl (by kernel_rfl) (by simp) (AW.ofx [] mixed (by kernel_rfl) ?_)
    simp only [Try.f49, argsF]
    simp
    refine callK.pure h1 (by simp [V.closedL, c1]) rfl ?_
    simp [e1, e1']
end Go.Proofs.Ytoooldijnilpaaa
