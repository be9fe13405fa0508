/- Rules: what may be, and for whom, by the program. -/
import Derived.Test.YtbcfoakceloenaaWa1
namespace Go.Proofs.Ytbcfoakceloenaa
set_option linter.all false
open Go.RowKit AM
set_option maxRecDepth 10000
attribute [local simp] aw_skip' aw_region' aw_seq' aw_cond' aw_block' aw_loop' aw_exit' aw_label' aw_ret' aops_nil' aops_cons' aop' aMove aAssign aPick aAlloc aBox aBuild slF aBuildSlice aLoad aLoadOwn aStore aStoreOwn isOwn delR aNilCheck aBin aMakeFunc aFieldAddr aField aIndexAddr aExtract aSliceOp aSlice aCallOp aCall' aLen aLenMap aDelete aMM aUn aConv aIface aAssert aMakeMap aLookup aMapUpdate aRange aNext aEntry entsOf keyB seekK aMakeSlice lookV aAppend putK layK eval evalV AM.valOf getF putF setF del SV.refers cellsAt rootSV plains shift ldV V.exact V.exactL V.ofValue V.ofPart V.ofCell V.cells V.one Value.oneCell' fitB qSeq qBlock getB afin aret resVs resV resTmps shareF evalS tupV valsS valsV pickV calm calmB lenV useOf feeds looks isT newsV partsV fillV putAt zerosV fitsNil nilB sliceB isEq isNeq awx_skip' awx_region' awx_seq' awx_cond' awx_block' awx_loop' awx_exit' awx_label' awx_ret' xops_nil' xops_cons' xop' xload xcall' addO delO inO putD memB Mix.effB Mix.laysB keysF badK subW weakV zeroRow yops_nil' yops_cons' yop' yload yindex yfield ylen oldO dropO takeO oldL exactB
attribute [local simp] awz_skip' awz_region' awz_seq' awz_cond' awz_block' awz_loop' awz_exit' awz_label' awz_ret' zops_nil' zops_cons' zop' zload zloadOwn zcall' z0 new0 remF old0 dltB

theorem take_all {α : Type} {q : α → Bool} {l : List α} {k : Nat} (h : ∀ r ∈ l.take k, q r = true) (hk : k < l.length) (hr : q l[k] = true) : ∀ r ∈ l.take (k + 1), q r = true := by
  rw [List.take_succ_eq_append_getElem hk]
  intro r hm
  rcases List.mem_append.1 hm with hm | hm
  · exact h r hm
  · simp at hm; subst hm; exact hr
theorem all_full {α : Type} {q : α → Bool} {l : List α} (h : ∀ r ∈ l, q r = true) : l.all q = true := List.all_eq_true.2 h
theorem all_not {α : Type} {q : α → Bool} {l : List α} {k : Nat} (hk : k < l.length) (hr : q l[k] = false) : l.all q = false := by
  rw [Bool.eq_false_iff]
  intro h
  have := List.all_eq_true.1 h _ (List.getElem_mem hk)
  rw [hr] at this
  cases this
def BbI (l : List Re) (k : Nat) (F : Fr) (H : List Bk) : Prop := (∀ r ∈ l.take k, rightR r = true) ∧ F = [(5, .v (slR l)), (6, .v (.sc (.int .i64 l.length))), (7, .v (.sc (.int .i64 k)))]
theorem uboxes (l : List Re) (hl : l.length ≤ 9223372036854775807) : PFn Try.prog 83 [slR l] (.sc (.bool (l.all rightR))) := by
  have hR := gRight
  unfold Re.v Re.cs at hR
  refine AFn.intro (fn := Try.f83) (by kernel_rfl) rfl (by kernel_rfl) (by simp) (AW.ofx [] mixed (by kernel_rfl) ?_)
  simp only [Try.f83, argsF]
  simp [slR]
  refine AW.count l.length (BbI l) ⟨_, ?_, by simp, rfl⟩ ?_
  · simp [subW, weakV, getF, slR]
  rintro k F H hk ⟨ht, rfl⟩
  refine AW.ofx [] mixed (by kernel_rfl) ?_
  by_cases hlt : k < l.length
  · have w1 : IntKind.i64.wrap ((k : Int) + 1) = (k : Int) + 1 := by rw [wrap_i64] <;> omega
    have hRk := hR l[k]
    simp [slR, hlt, rowR, setL]
    refine callK.pure hRk rfl rfl ?_
    cases e : rightR l[k] with
    | false => simp [all_not hlt e]
    | true =>
      simp [w1, slR, hlt]
      refine ⟨_, ?_, take_all ht hlt e, rfl⟩
      simp [subW, weakV, getF, slR]
  · have hk' : k = l.length := by omega
    subst hk'
    rw [List.take_length] at ht
    simp [slR, all_full ht]
set_option maxHeartbeats 4000000 in
theorem uright (r : Ru) (hl : r.boxes.length ≤ 9223372036854775807) : PFn Try.prog 71 [r.v] (.sc (.bool (ruRight r))) := by
  have s1 := usmall r.roles 255
  have s2 := usmall r.labels 255
  have s3 := usmall r.zoom 16
  have hb := uboxes r.boxes hl
  have cb := slR_closed r.boxes
  have eb : (r.boxes = []) ↔ r.boxes.length = 0 := by simp
  unfold ruRight
  simp only [eb]
  unfold Ru.v Ru.cs
  generalize smallN r.roles 255 = b1 at *
  generalize smallN r.labels 255 = b2 at *
  generalize smallN r.zoom 16 = b3 at *
  generalize r.boxes.all rightR = b4 at *
  refine AFn.intro (fn := Try.f71) (by kernel_rfl) rfl (by kernel_rfl) (by simp) ?_
  simp only [Try.f71, argsF]
  by_cases h6 : r.kind = 6
  · rw [if_pos h6]
    refine AW.ofx [] mixed (by kernel_rfl) ?_
    simp [slR, h6]
    refine callK.pure s1 rfl rfl ?_
    have hz : ∀ n : Int, (n = 0 ∧ (n == 0) = true) ∨ (n ≠ 0 ∧ (n == 0) = false) := fun n => by
      by_cases h : n = 0
      · exact .inl ⟨h, by simpa using h⟩
      · exact .inr ⟨h, by simpa using h⟩
    have hy : (r.boxes = [] ∧ ((r.boxes.length : Int) == 0) = true) ∨ (r.boxes ≠ [] ∧ ((r.boxes.length : Int) == 0) = false) := by
      by_cases h : r.boxes = []
      · exact .inl ⟨h, by simp [h]⟩
      · exact .inr ⟨h, by simp [h]⟩
    cases b1 with
    | false => simp
    | true =>
      simp [slR]
      rcases hz r.lo with ⟨a1, x1⟩ | ⟨a1, x1⟩ <;> rcases hz r.hi with ⟨a2, x2⟩ | ⟨a2, x2⟩ <;> rcases hz r.labels with ⟨a3, x3⟩ | ⟨a3, x3⟩ <;> rcases hy with ⟨a4, x4⟩ | ⟨a4, x4⟩ <;> rcases hz r.zoom with ⟨a5, x5⟩ | ⟨a5, x5⟩ <;> simp [a1, a2, a3, a4, a5, x1, x2, x3, x4, x5]
  · rw [if_neg h6]
    have n6 : (r.kind == 6) = false := by simpa using h6
    by_cases h45 : r.kind = 4 ∨ r.kind = 5
    · refine AW.ofx [] mixed (by kernel_rfl) ?_
      rcases h45 with h4 | h4
      all_goals
        simp [slR, h6, h4]
        refine callK.pure s1 rfl rfl ?_
        cases b1 with
        | false => simp
        | true =>
          by_cases a1 : 0 ≤ r.lo
          · by_cases a2 : r.lo ≤ r.hi
            · by_cases a3 : r.hi ≤ 7
              · simp [slR, a1, a2, a3]
                refine callK.pure s2 rfl rfl ?_
                cases b2 with
                | false => simp
                | true =>
                  simp [slR]
                  refine callK.pure hb (by simp [V.closedL, V.closed, closed_flat (enc := Re.cs) (fun _ => rfl)]) rfl ?_
                  cases b4 with
                  | false => simp
                  | true =>
                    simp [slR]
                    refine callK.pure s3 rfl rfl ?_
                    simp
              · simp [slR, a1, a2, a3]
            · simp [slR, a1, a2]
          · simp [slR, a1]
    · have n4 : (r.kind == 4) = false := by simp; omega
      have n5 : (r.kind == 5) = false := by simp; omega
      refine AW.ofx [] mixed (by kernel_rfl) ?_
      simp [slR, n6, n4, n5, h45]
def UrI (l : List Ru) (k : Nat) (F : Fr) (H : List Bk) : Prop := (∀ r ∈ l.take k, ruRight r = true) ∧ F = [(5, .v (slU l)), (6, .v (.sc (.int .i64 l.length))), (7, .v (.sc (.int .i64 k)))]
theorem uRight (l : List Ru) (hl : l.length ≤ 9223372036854775807) (hb : ∀ r ∈ l, r.boxes.length ≤ 9223372036854775807) : PFn Try.prog 53 [slU l] (.sc (.bool (l.all ruRight))) := by
  have hR := fun r h => uright r (hb r h)
  unfold Ru.v Ru.cs at hR
  refine AFn.intro (fn := Try.f53) (by kernel_rfl) rfl (by kernel_rfl) (by simp) (AW.ofx [] mixed (by kernel_rfl) ?_)
  simp only [Try.f53, argsF]
  simp [slU]
  refine AW.count l.length (UrI l) ⟨_, ?_, by simp, rfl⟩ ?_
  · simp [subW, weakV, getF, slU]
  rintro k F H hk ⟨ht, rfl⟩
  refine AW.ofx [] mixed (by kernel_rfl) ?_
  by_cases hlt : k < l.length
  · have w1 : IntKind.i64.wrap ((k : Int) + 1) = (k : Int) + 1 := by rw [wrap_i64] <;> omega
    have hRk := hR l[k] (List.getElem_mem hlt)
    have hrow := rowU hlt
    unfold slR at hrow hRk
    simp [slU, hlt, hrow, setL]
    refine callK.pure hRk (by simp [V.closedL, V.closed, closed_flat (enc := Re.cs) (fun _ => rfl)]) rfl ?_
    cases e : ruRight l[k] with
    | false => simp [all_not hlt e]
    | true =>
      simp [w1, slU, hlt]
      refine ⟨_, ?_, take_all ht hlt e, rfl⟩
      simp [subW, weakV, getF, slU]
  · have hk' : k = l.length := by omega
    subst hk'
    rw [List.take_length] at ht
    simp [slU, all_full ht]
end Go.Proofs.Ytbcfoakceloenaa
namespace Go.Proofs.Ytbcfoakceloenaa
set_option linter.all false
open Go.RowKit AM
set_option maxRecDepth 10000
attribute [local simp] aw_skip' aw_region' aw_seq' aw_cond' aw_block' aw_loop' aw_exit' aw_label' aw_ret' aops_nil' aops_cons' aop' aMove aAssign aPick aAlloc aBox aBuild slF aBuildSlice aLoad aLoadOwn aStore aStoreOwn isOwn delR aNilCheck aBin aMakeFunc aFieldAddr aField aIndexAddr aExtract aSliceOp aSlice aCallOp aCall' aLen aLenMap aDelete aMM aUn aConv aIface aAssert aMakeMap aLookup aMapUpdate aRange aNext aEntry entsOf keyB seekK aMakeSlice lookV aAppend putK layK eval evalV AM.valOf getF putF setF del SV.refers cellsAt rootSV plains shift ldV V.exact V.exactL V.ofValue V.ofPart V.ofCell V.cells V.one Value.oneCell' fitB qSeq qBlock getB afin aret resVs resV resTmps shareF evalS tupV valsS valsV pickV calm calmB lenV useOf feeds looks isT newsV partsV fillV putAt zerosV fitsNil nilB sliceB isEq isNeq awx_skip' awx_region' awx_seq' awx_cond' awx_block' awx_loop' awx_exit' awx_label' awx_ret' xops_nil' xops_cons' xop' xload xcall' addO delO inO putD memB Mix.effB Mix.laysB keysF badK subW weakV zeroRow yops_nil' yops_cons' yop' yload yindex yfield ylen oldO dropO takeO oldL exactB
attribute [local simp] awz_skip' awz_region' awz_seq' awz_cond' awz_block' awz_loop' awz_exit' awz_label' awz_ret' zops_nil' zops_cons' zop' zload zloadOwn zcall' z0 new0 remF old0 dltB

theorem ruRight_roles {r : Ru} (h : ruRight r = true) : 0 ≤ r.roles ∧ r.roles ≤ 255 := by
  unfold ruRight smallN at h
  split at h
  · simp at h
    omega
  · simp at h
    omega
theorem ruRight_labels {r : Ru} (h : ruRight r = true) : 0 ≤ r.labels ∧ r.labels ≤ 255 := by
  unfold ruRight smallN at h
  split at h
  · simp at h
    omega
  · simp at h
    omega
set_option maxHeartbeats 4000000 in
theorem ufor (r : Ru) (ro ti la : Int) (hl : r.boxes.length ≤ 9223372036854775807) : PFn Try.prog 72 [r.v, .sc (.int .i64 ro), .sc (.int .i64 ti), .sc (.int .i64 la)] (.sc (.bool (forU r ro ti la))) := by
  have h1 := uright r hl
  have h2 := unumbers ro ti la
  have cv : V.closedL [r.v] = true := by simp [V.closedL, V.closed, Ru.v, ru_closed]
  unfold forU
  unfold Ru.v Ru.cs at h1 cv ⊢
  cases e1 : ruRight r with
  | false =>
    rw [e1] at h1
    refine AFn.intro (fn := Try.f72) (by kernel_rfl) rfl (by kernel_rfl) (by simp) (AW.ofx [] mixed (by kernel_rfl) ?_)
    simp only [Try.f72, argsF]
    simp [slR]
    refine callK.pure h1 cv rfl ?_
    simp
  | true =>
    rw [e1] at h1
    by_cases h6 : r.kind = 6
    · have n6 : (r.kind != 6) = false := by simpa using h6
      refine AFn.intro (fn := Try.f72) (by kernel_rfl) rfl (by kernel_rfl) (by simp) (AW.ofx [] mixed (by kernel_rfl) ?_)
      simp only [Try.f72, argsF]
      simp [slR]
      refine callK.pure h1 cv rfl ?_
      simp [n6, h6]
    · have n6 : (r.kind != 6) = true := by simpa using h6
      cases e2 : numsU ro ti la with
      | false =>
        rw [e2] at h2
        refine AFn.intro (fn := Try.f72) (by kernel_rfl) rfl (by kernel_rfl) (by simp) (AW.ofx [] mixed (by kernel_rfl) ?_)
        simp only [Try.f72, argsF]
        simp [slR]
        refine callK.pure h1 cv rfl ?_
        simp [n6, h6]
        refine callK.pure h2 rfl rfl ?_
        simp
      | true =>
        rw [e2] at h2
        have hn : (0 ≤ ro ∧ ro ≤ 7) ∧ (0 ≤ la ∧ la ≤ 7) := by
          unfold numsU smallN at e2
          simp at e2
          omega
        have h3 := uin r.roles ro (ruRight_roles e1) hn.1
        have h4 := uin r.labels la (ruRight_labels e1) hn.2
        generalize inS r.roles ro = b3 at *
        generalize inS r.labels la = b4 at *
        refine AFn.intro (fn := Try.f72) (by kernel_rfl) rfl (by kernel_rfl) (by simp) (AW.ofx [] mixed (by kernel_rfl) ?_)
        simp only [Try.f72, argsF]
        simp [slR]
        refine callK.pure h1 cv rfl ?_
        simp [n6, h6]
        refine callK.pure h2 rfl rfl ?_
        simp
        refine callK.pure h3 rfl rfl ?_
        cases b3 with
        | false => simp
        | true =>
          by_cases a1 : r.lo ≤ ti
          · by_cases a2 : ti ≤ r.hi
            · simp [a1, a2]
              refine callK.pure h4 rfl rfl ?_
              simp
            · simp [a1, a2]
          · simp [a1]
end Go.Proofs.Ytbcfoakceloenaa
