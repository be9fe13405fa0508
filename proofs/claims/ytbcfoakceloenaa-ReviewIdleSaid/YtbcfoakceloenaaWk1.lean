/- Rules: who may cloak; labels of points. -/
import Derived.Test.YtbcfoakceloenaaWf1
namespace Go.Proofs.Ytbcfoakceloenaa
set_option linter.all false
open Go.RowKit AM
set_option maxRecDepth 10000
attribute [local simp] aw_skip' aw_region' aw_seq' aw_cond' aw_block' aw_loop' aw_exit' aw_label' aw_ret' aops_nil' aops_cons' aop' aMove aAssign aPick aAlloc aBox aBuild slF aBuildSlice aLoad aLoadOwn aStore aStoreOwn isOwn delR aNilCheck aBin aMakeFunc aFieldAddr aField aIndexAddr aExtract aSliceOp aSlice aCallOp aCall' aLen aLenMap aDelete aMM aUn aConv aIface aAssert aMakeMap aLookup aMapUpdate aRange aNext aEntry entsOf keyB seekK aMakeSlice lookV aAppend putK layK eval evalV AM.valOf getF putF setF del SV.refers cellsAt rootSV plains shift ldV V.exact V.exactL V.ofValue V.ofPart V.ofCell V.cells V.one Value.oneCell' fitB qSeq qBlock getB afin aret resVs resV resTmps shareF evalS tupV valsS valsV pickV calm calmB lenV useOf feeds looks isT newsV partsV fillV putAt zerosV fitsNil nilB sliceB isEq isNeq awx_skip' awx_region' awx_seq' awx_cond' awx_block' awx_loop' awx_exit' awx_label' awx_ret' xops_nil' xops_cons' xop' xload xcall' addO delO inO putD memB Mix.effB Mix.laysB keysF badK subW weakV zeroRow yops_nil' yops_cons' yop' yload yindex yfield ylen oldO dropO takeO oldL exactB
attribute [local simp] awz_skip' awz_region' awz_seq' awz_cond' awz_block' awz_loop' awz_exit' awz_label' awz_ret' zops_nil' zops_cons' zop' zload zloadOwn zcall' z0 new0 remF old0 dltB

def cloakS (ro : Int) (r : Ru) : Bool := decide (r.kind = 6) && inS r.roles ro
def cloaksU (l : List Ru) (ro : Int) : Bool := l.all ruRight && smallN ro 7 && l.any (cloakS ro)
def ClI (l : List Ru) (ro : Int) (k : Nat) (F : Fr) (H : List Bk) : Prop := (∀ r ∈ l.take k, cloakS ro r = false) ∧ F = [(1, .v (.sc (.int .i64 ro))), (15, .v (slU l)), (16, .v (.sc (.int .i64 l.length))), (17, .v (.sc (.int .i64 k)))]
set_option maxHeartbeats 4000000 in
theorem ucloaks (l : List Ru) (ro : Int) (hl : l.length ≤ 9223372036854775807) (hb : ∀ r ∈ l, r.boxes.length ≤ 9223372036854775807) : PFn Try.prog 67 [slU l, .sc (.int .i64 ro)] (.sc (.bool (cloaksU l ro))) := by
  have h1 := uRight l hl hb
  have h2 := usmall ro 7
  have c1 := slU_closed l
  unfold cloaksU
  cases e1 : l.all ruRight with
  | false =>
    rw [e1] at h1
    refine AFn.intro (fn := Try.f67) (by kernel_rfl) rfl (by kernel_rfl) (by simp) (AW.ofx [] mixed (by kernel_rfl) ?_)
    simp only [Try.f67, argsF]
    simp
    refine callK.pure h1 (by simp [V.closedL, c1]) rfl ?_
    simp
  | true =>
    rw [e1] at h1
    have hall := List.all_eq_true.1 e1
    cases e2 : smallN ro 7 with
    | false =>
      rw [e2] at h2
      refine AFn.intro (fn := Try.f67) (by kernel_rfl) rfl (by kernel_rfl) (by simp) (AW.ofx [] mixed (by kernel_rfl) ?_)
      simp only [Try.f67, argsF]
      simp
      refine callK.pure h1 (by simp [V.closedL, c1]) rfl ?_
      simp
      refine callK.pure h2 rfl rfl ?_
      simp
    | true =>
      rw [e2] at h2
      have hn : 0 ≤ ro ∧ ro ≤ 7 := by
        unfold smallN at e2
        simpa using e2
      refine AFn.intro (fn := Try.f67) (by kernel_rfl) rfl (by kernel_rfl) (by simp) (AW.ofx [] mixed (by kernel_rfl) ?_)
      simp only [Try.f67, argsF]
      simp
      refine callK.pure h1 (by simp [V.closedL, c1]) rfl ?_
      simp
      refine callK.pure h2 rfl rfl ?_
      simp [slU]
      refine AW.count l.length (ClI l ro) ⟨_, ?_, by simp, rfl⟩ ?_
      · simp [subW, weakV, getF, slU]
      rintro k F H hk ⟨ht, rfl⟩
      refine AW.ofx [] mixed (by kernel_rfl) ?_
      by_cases hlt : k < l.length
      · have w1 : IntKind.i64.wrap ((k : Int) + 1) = (k : Int) + 1 := by rw [wrap_i64] <;> omega
        have hin := uin l[k].roles ro (ruRight_roles (hall _ (List.getElem_mem hlt))) hn
        have hrow := rowU hlt
        unfold slR at hrow
        by_cases h6 : l[k].kind = 6
        · cases e3 : inS l[k].roles ro with
          | true =>
            rw [e3] at hin
            have hany : l.any (cloakS ro) = true := List.any_eq_true.2 ⟨_, List.getElem_mem hlt, by simp [cloakS, h6, e3]⟩
            simp [slU, hlt, hrow, setL, h6]
            refine callK.pure hin rfl rfl ?_
            simp [hany]
          | false =>
            rw [e3] at hin
            have hno : cloakS ro l[k] = false := by simp [cloakS, e3]
            simp [slU, hlt, hrow, setL, h6]
            refine callK.pure hin rfl rfl ?_
            simp [slU, hlt, w1]
            refine ⟨_, ?_, take_no ht hlt hno, rfl⟩
            simp [subW, weakV, getF, slU]
        · have n6 : (l[k].kind == 6) = false := by simpa using h6
          have hno : cloakS ro l[k] = false := by simp [cloakS, h6]
          simp [slU, hlt, hrow, setL, n6, w1]
          refine ⟨_, ?_, take_no ht hlt hno, rfl⟩
          simp [subW, weakV, getF, slU]
      · have hk' : k = l.length := by omega
        subst hk'
        rw [List.take_length] at ht
        have hany : l.any (cloakS ro) = false := any_no ht
        simp [slU, hany]
end Go.Proofs.Ytbcfoakceloenaa
namespace Go.Proofs.Ytbcfoakceloenaa
set_option linter.all false
open Go.RowKit AM
set_option maxRecDepth 10000
attribute [local simp] aw_skip' aw_region' aw_seq' aw_cond' aw_block' aw_loop' aw_exit' aw_label' aw_ret' aops_nil' aops_cons' aop' aMove aAssign aPick aAlloc aBox aBuild slF aBuildSlice aLoad aLoadOwn aStore aStoreOwn isOwn delR aNilCheck aBin aMakeFunc aFieldAddr aField aIndexAddr aExtract aSliceOp aSlice aCallOp aCall' aLen aLenMap aDelete aMM aUn aConv aIface aAssert aMakeMap aLookup aMapUpdate aRange aNext aEntry entsOf keyB seekK aMakeSlice lookV aAppend putK layK eval evalV AM.valOf getF putF setF del SV.refers cellsAt rootSV plains shift ldV V.exact V.exactL V.ofValue V.ofPart V.ofCell V.cells V.one Value.oneCell' fitB qSeq qBlock getB afin aret resVs resV resTmps shareF evalS tupV valsS valsV pickV calm calmB lenV useOf feeds looks isT newsV partsV fillV putAt zerosV fitsNil nilB sliceB isEq isNeq awx_skip' awx_region' awx_seq' awx_cond' awx_block' awx_loop' awx_exit' awx_label' awx_ret' xops_nil' xops_cons' xop' xload xcall' addO delO inO putD memB Mix.effB Mix.laysB keysF badK subW weakV zeroRow yops_nil' yops_cons' yop' yload yindex yfield ylen oldO dropO takeO oldL exactB
attribute [local simp] awz_skip' awz_region' awz_seq' awz_cond' awz_block' awz_loop' awz_exit' awz_label' awz_ret' zops_nil' zops_cons' zop' zload zloadOwn zcall' z0 new0 remF old0 dltB

def inT (sum n : Int) : Bool := (IntKind.i64.wrap (sum.tdiv (pw n.toNat : Nat))).tmod 2 == 1
theorem inT_inS {sum n : Int} (h1 : 0 ≤ sum ∧ sum ≤ 255) : inT sum n = inS sum n := by
  obtain ⟨s, rfl⟩ : ∃ s : Nat, sum = s := ⟨sum.toNat, by omega⟩
  unfold inT inS pw
  have hle : s / 2 ^ n.toNat ≤ s := Nat.div_le_self _ _
  have e : ((s : Int).tdiv ((2 ^ n.toNat : Nat) : Int)) = ((s / 2 ^ n.toNat : Nat) : Int) := rfl
  have e2 : ((s : Int) / 2 ^ n.toNat) = ((s / 2 ^ n.toNat : Nat) : Int) := by simp
  rw [e, e2]
  generalize s / 2 ^ n.toNat = q at *
  rw [wrap_i64 (by omega) (by omega), Int.tmod_eq_emod_of_nonneg (by omega), Bool.eq_iff_iff]
  simp
theorem refInT (sum n : Int) (h2 : 0 ≤ n ∧ n ≤ 7) : PFn Try.prog 69 [.sc (.int .i64 sum), .sc (.int .i64 n)] (.sc (.bool (inT sum n))) := by
  obtain ⟨m, rfl⟩ : ∃ m : Nat, n = m := ⟨n.toNat, by omega⟩
  have hT := refTwo12 m (by omega)
  have hpos : 0 < pw m := Nat.pow_pos (by decide)
  unfold inT
  rw [Int.toNat_natCast]
  generalize pw m = p at *
  have h0 : ¬ p = 0 := by omega
  generalize hq : IntKind.i64.wrap (sum.tdiv (p : Nat)) = q at *
  refine AFn.intro (fn := Try.f69) (by kernel_rfl) rfl (by kernel_rfl) (by simp) (AW.ofx [] mixed (by kernel_rfl) ?_)
  simp only [Try.f69, argsF]
  simp
  refine callK.pure hT rfl rfl ?_
  simp [binR_quo, binR_rem, h0, hq]
def cloakT (ro : Int) (r : Ru) : Bool := decide (r.kind = 6) && smallN ro 7 && inT r.roles ro
def cloaksD (l : List Ru) (ro : Int) : Bool := l.any (cloakT ro) && l.all ruRight
theorem cloaks_doc (l : List Ru) (ro : Int) : cloaksU l ro = cloaksD l ro := by
  unfold cloaksU cloaksD
  cases e1 : l.all ruRight with
  | false => simp
  | true =>
    have hall := List.all_eq_true.1 e1
    simp only [Bool.true_and, Bool.and_true]
    rw [Bool.eq_iff_iff, Bool.and_eq_true, List.any_eq_true, List.any_eq_true]
    constructor
    · rintro ⟨h1, r, hr, h2⟩
      refine ⟨r, hr, ?_⟩
      unfold cloakT cloakS at *
      rw [inT_inS (ruRight_roles (hall r hr)), h1]
      simpa using h2
    · rintro ⟨r, hr, h2⟩
      unfold cloakT at h2
      rw [inT_inS (ruRight_roles (hall r hr))] at h2
      simp at h2
      exact ⟨h2.1.2, r, hr, by simp [cloakS, h2.1.1, h2.2]⟩
def CdI (l : List Ru) (ro : Int) (k : Nat) (F : Fr) (H : List Bk) : Prop := (∀ r ∈ l.take k, cloakT ro r = false) ∧ F = [(0, .v (slU l)), (1, .v (.sc (.int .i64 ro))), (5, .v (.sc (.int .i64 k)))]
set_option maxHeartbeats 4000000 in
theorem refCloaks (l : List Ru) (ro : Int) (hl : l.length ≤ 9223372036854775807) (hb : ∀ r ∈ l, r.boxes.length ≤ 9223372036854775807) : PFn Try.prog 47 [slU l, .sc (.int .i64 ro)] (.sc (.bool (cloaksD l ro))) := by
  have h1 := refAll l hl hb
  have h2 := refNumber12 ro
  have c1 := slU_closed l
  unfold cloaksD
  refine AFn.intro (fn := Try.f47) (by kernel_rfl) rfl (by kernel_rfl) (by simp) (AW.ofx [] mixed (by kernel_rfl) ?_)
  simp only [Try.f47, argsF]
  simp
  refine AW.count l.length (CdI l ro) ⟨_, ?_, by simp, rfl⟩ ?_
  · simp [subW, weakV, getF, slU]
  rintro k F H hk ⟨ht, rfl⟩
  refine AW.ofx [] mixed (by kernel_rfl) ?_
  by_cases hlt : k < l.length
  · have w1 : IntKind.i64.wrap ((k : Int) + 1) = (k : Int) + 1 := by rw [wrap_i64] <;> omega
    have hrow := rowU hlt
    unfold slR at hrow
    by_cases h6 : l[k].kind = 6
    · cases e2 : smallN ro 7 with
      | false =>
        rw [e2] at h2
        have hno : cloakT ro l[k] = false := by simp [cloakT, e2]
        simp [slU, hlt, hrow, h6]
        refine callK.pure h2 rfl rfl ?_
        simp [slU, hlt, w1]
        refine ⟨_, ?_, take_no ht hlt hno, rfl⟩
        simp [subW, weakV, getF, slU]
      | true =>
        rw [e2] at h2
        have hn : 0 ≤ ro ∧ ro ≤ 7 := by
          unfold smallN at e2
          simpa using e2
        have hin := refInT l[k].roles ro hn
        cases e3 : inT l[k].roles ro with
        | true =>
          rw [e3] at hin
          have hany : l.any (cloakT ro) = true := List.any_eq_true.2 ⟨_, List.getElem_mem hlt, by simp [cloakT, h6, e2, e3]⟩
          simp [slU, hlt, hrow, h6]
          refine callK.pure h2 rfl rfl ?_
          simp [slU, hlt, hrow, h6]
          refine callK.pure hin rfl rfl ?_
          simp
          refine callK.pure h1 (by simp [V.closedL, V.closed, closed_flat (enc := Ru.cs) ru_closed]) rfl ?_
          simp [hany]
        | false =>
          rw [e3] at hin
          have hno : cloakT ro l[k] = false := by simp [cloakT, e3]
          simp [slU, hlt, hrow, h6]
          refine callK.pure h2 rfl rfl ?_
          simp [slU, hlt, hrow, h6]
          refine callK.pure hin rfl rfl ?_
          simp [slU, hlt, w1]
          refine ⟨_, ?_, take_no ht hlt hno, rfl⟩
          simp [subW, weakV, getF, slU]
    · have n6 : (l[k].kind == 6) = false := by simpa using h6
      have hno : cloakT ro l[k] = false := by simp [cloakT, h6]
      simp [slU, hlt, hrow, n6, w1]
      refine ⟨_, ?_, take_no ht hlt hno, rfl⟩
      simp [subW, weakV, getF, slU]
  · have hk' : k = l.length := by omega
    subst hk'
    rw [List.take_length] at ht
    have hany : l.any (cloakT ro) = false := any_no ht
    simp [slU, hany]
end Go.Proofs.Ytbcfoakceloenaa
namespace Go.Proofs.Ytbcfoakceloenaa
set_option linter.all false

theorem hasB_iff {l : List Re} {p : Pt} : hasB l p = true ↔ ∃ b ∈ l, rightR b = true ∧ (b.x0 ≤ p.x ∧ p.x ≤ b.x1) ∧ b.y0 ≤ p.y ∧ p.y ≤ b.y1 := by
  unfold hasB
  rw [List.any_eq_true]
  constructor
  · rintro ⟨r, hr, h⟩; exact ⟨r, hr, hasR_iff.1 h⟩
  · rintro ⟨r, hr, h⟩; exact ⟨r, hr, hasR_iff.2 h⟩
theorem hasB_sameX {l : List Re} {xs : List Int} (hx : ∀ r ∈ l, r.x0 ∈ xs ∧ r.x1 + 1 ∈ xs) {x x' : Int} (h : ∀ c ∈ xs, c ≤ x ↔ c ≤ x') (y : Int) : hasB l ⟨x, y⟩ = hasB l ⟨x', y⟩ := by
  rw [Bool.eq_iff_iff, hasB_iff, hasB_iff]
  constructor
  · rintro ⟨r, hr, h1, h2, h3⟩
    have a1 := h _ (hx r hr).1
    have a2 := h _ (hx r hr).2
    simp only at h2 h3
    exact ⟨r, hr, h1, by simp only; omega, h3⟩
  · rintro ⟨r, hr, h1, h2, h3⟩
    have a1 := h _ (hx r hr).1
    have a2 := h _ (hx r hr).2
    simp only at h2 h3
    exact ⟨r, hr, h1, by simp only; omega, h3⟩
theorem hasB_sameY {l : List Re} {ys : List Int} (hy : ∀ r ∈ l, r.y0 ∈ ys ∧ r.y1 + 1 ∈ ys) {y y' : Int} (h : ∀ c ∈ ys, c ≤ y ↔ c ≤ y') (x : Int) : hasB l ⟨x, y⟩ = hasB l ⟨x, y'⟩ := by
  rw [Bool.eq_iff_iff, hasB_iff, hasB_iff]
  constructor
  · rintro ⟨r, hr, h1, h2, h3⟩
    have a1 := h _ (hy r hr).1
    have a2 := h _ (hy r hr).2
    simp only at h2 h3
    exact ⟨r, hr, h1, h2, by simp only; omega⟩
  · rintro ⟨r, hr, h1, h2, h3⟩
    have a1 := h _ (hy r hr).1
    have a2 := h _ (hy r hr).2
    simp only at h2 h3
    exact ⟨r, hr, h1, h2, by simp only; omega⟩
/-- The label of a point: its zoom, if it has one. -/
def zoomF (l : List Ru) (ro ti la : Int) (x y : Int) : Option Int := if zoomL (for2U ro ti la ⟨x, y⟩) l = 0 then none else some (zoomL (for2U ro ti la ⟨x, y⟩) l)
theorem zoomL_congr {q q' : Ru → Bool} {l : List Ru} (h : ∀ r ∈ l, q r = q' r) : zoomL q l = zoomL q' l := by
  have go : ∀ (l : List Ru) (s : Int × Int), (∀ r ∈ l, q r = q' r) → l.foldl (zoomS q) s = l.foldl (zoomS q') s := by
    intro l
    induction l with
    | nil => intro s _; rfl
    | cons r l ih =>
      intro s h
      rw [List.foldl_cons, List.foldl_cons, ih _ fun r hr => h r (by simp [hr])]
      unfold zoomS
      rw [h r (by simp)]
  unfold zoomL
  rw [go l _ h]
end Go.Proofs.Ytbcfoakceloenaa
