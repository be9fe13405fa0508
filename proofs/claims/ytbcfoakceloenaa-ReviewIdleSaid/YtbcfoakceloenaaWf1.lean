/- Rules: the document, from sets to zooms. -/
import Derived.Test.YtbcfoakceloenaaWc1
namespace Go.Proofs.Ytbcfoakceloenaa
set_option linter.all false
open Go.RowKit AM
set_option maxRecDepth 10000
attribute [local simp] aw_skip' aw_region' aw_seq' aw_cond' aw_block' aw_loop' aw_exit' aw_label' aw_ret' aops_nil' aops_cons' aop' aMove aAssign aPick aAlloc aBox aBuild slF aBuildSlice aLoad aLoadOwn aStore aStoreOwn isOwn delR aNilCheck aBin aMakeFunc aFieldAddr aField aIndexAddr aExtract aSliceOp aSlice aCallOp aCall' aLen aLenMap aDelete aMM aUn aConv aIface aAssert aMakeMap aLookup aMapUpdate aRange aNext aEntry entsOf keyB seekK aMakeSlice lookV aAppend putK layK eval evalV AM.valOf getF putF setF del SV.refers cellsAt rootSV plains shift ldV V.exact V.exactL V.ofValue V.ofPart V.ofCell V.cells V.one Value.oneCell' fitB qSeq qBlock getB afin aret resVs resV resTmps shareF evalS tupV valsS valsV pickV calm calmB lenV useOf feeds looks isT newsV partsV fillV putAt zerosV fitsNil nilB sliceB isEq isNeq awx_skip' awx_region' awx_seq' awx_cond' awx_block' awx_loop' awx_exit' awx_label' awx_ret' xops_nil' xops_cons' xop' xload xcall' addO delO inO putD memB Mix.effB Mix.laysB keysF badK subW weakV zeroRow yops_nil' yops_cons' yop' yload yindex yfield ylen oldO dropO takeO oldL exactB
attribute [local simp] awz_skip' awz_region' awz_seq' awz_cond' awz_block' awz_loop' awz_exit' awz_label' awz_ret' zops_nil' zops_cons' zop' zload zloadOwn zcall' z0 new0 remF old0 dltB

theorem refSet12 (n : Int) : PFn Try.prog 76 [.sc (.int .i64 n)] (.sc (.bool (smallN n 255))) := by
  unfold smallN
  refine AFn.intro (fn := Try.f76) (by kernel_rfl) rfl (by kernel_rfl) (by simp) (AW.ofx [] mixed (by kernel_rfl) ?_)
  simp only [Try.f76, argsF]
  by_cases h1 : 0 ≤ n
  · by_cases h2 : n ≤ 255
    · simp [h1, h2]
    · simp [h1, h2]
  · simp [h1]
theorem refNumber12 (n : Int) : PFn Try.prog 68 [.sc (.int .i64 n)] (.sc (.bool (smallN n 7))) := by
  unfold smallN
  refine AFn.intro (fn := Try.f68) (by kernel_rfl) rfl (by kernel_rfl) (by simp) (AW.ofx [] mixed (by kernel_rfl) ?_)
  simp only [Try.f68, argsF]
  by_cases h1 : 0 ≤ n
  · by_cases h2 : n ≤ 7
    · simp [h1, h2]
    · simp [h1, h2]
  · simp [h1]
def pw (k : Nat) : Nat := 2 ^ k
def TwI (n : Nat) (k : Nat) (F : Fr) (H : List Bk) : Prop := F = [(0, .v (.sc (.int .i64 n))), (3, .v (.sc (.int .i64 (pw k : Nat)))), (4, .v (.sc (.int .i64 k)))]
theorem refTwo12 (n : Nat) (h : n ≤ 7) : PFn Try.prog 80 [.sc (.int .i64 n)] (.sc (.int .i64 (pw n : Nat))) := by
  refine AFn.intro (fn := Try.f80) (by kernel_rfl) rfl (by kernel_rfl) (by simp) (AW.ofx [] mixed (by kernel_rfl) ?_)
  simp only [Try.f80, argsF]
  simp
  refine AW.count n (TwI n) ⟨_, ?_, rfl⟩ ?_
  · simp [subW, weakV, getF, pw]
  rintro k F H hk rfl
  refine AW.ofx [] mixed (by kernel_rfl) ?_
  by_cases hlt : k < n
  · have w1 : IntKind.i64.wrap ((k : Int) + 1) = (k : Int) + 1 := by rw [wrap_i64] <;> omega
    have hp : pw k ≤ 2 ^ 7 := Nat.pow_le_pow_right (by decide) (by omega)
    have e2 : pw (k + 1) = 2 * pw k := by unfold pw; rw [Nat.pow_succ]; omega
    have w2 : IntKind.i64.wrap (2 * ((pw k : Nat) : Int)) = ((pw (k + 1) : Nat) : Int) := by
      rw [e2]
      rw [wrap_i64] <;> omega
    have hlt' : (k : Int) < n := by omega
    simp [hlt, hlt', w1, w2]
    refine ⟨_, ?_, rfl⟩
    simp [subW, weakV, getF]
  · have hk' : k = n := by omega
    subst hk'
    simp
theorem refIn12 (sum n : Int) (h1 : 0 ≤ sum ∧ sum ≤ 255) (h2 : 0 ≤ n ∧ n ≤ 7) : PFn Try.prog 69 [.sc (.int .i64 sum), .sc (.int .i64 n)] (.sc (.bool (inS sum n))) := by
  obtain ⟨s, rfl⟩ : ∃ s : Nat, sum = s := ⟨sum.toNat, by omega⟩
  obtain ⟨m, rfl⟩ : ∃ m : Nat, n = m := ⟨n.toNat, by omega⟩
  have hT := refTwo12 m (by omega)
  have hpos : 0 < pw m := Nat.pow_pos (by decide)
  have e3 : inS (s : Int) (m : Int) = ((((s / pw m) % 2 : Nat) : Int) == 1) := by
    unfold inS pw
    rw [Bool.eq_iff_iff]
    simp
  rw [e3]
  generalize pw m = p at *
  have hle : s / p ≤ s := Nat.div_le_self _ _
  have e0 : (s : Int) / (p : Int) = ((s / p : Nat) : Int) := rfl
  have h0 : ¬ p = 0 := by omega
  generalize s / p = q at *
  have e1 : IntKind.i64.wrap (q : Int) = (q : Int) := by rw [wrap_i64] <;> omega
  have e2 : (q : Int).tmod 2 = (q : Int) % 2 := Int.tmod_eq_emod_of_nonneg (by omega)
  refine AFn.intro (fn := Try.f69) (by kernel_rfl) rfl (by kernel_rfl) (by simp) (AW.ofx [] mixed (by kernel_rfl) ?_)
  simp only [Try.f69, argsF]
  simp
  refine callK.pure hT rfl rfl ?_
  simp [binR_quo, binR_rem, e0, e1, e2, h0]
end Go.Proofs.Ytbcfoakceloenaa
namespace Go.Proofs.Ytbcfoakceloenaa
set_option linter.all false
open Go.RowKit AM
set_option maxRecDepth 10000
attribute [local simp] aw_skip' aw_region' aw_seq' aw_cond' aw_block' aw_loop' aw_exit' aw_label' aw_ret' aops_nil' aops_cons' aop' aMove aAssign aPick aAlloc aBox aBuild slF aBuildSlice aLoad aLoadOwn aStore aStoreOwn isOwn delR aNilCheck aBin aMakeFunc aFieldAddr aField aIndexAddr aExtract aSliceOp aSlice aCallOp aCall' aLen aLenMap aDelete aMM aUn aConv aIface aAssert aMakeMap aLookup aMapUpdate aRange aNext aEntry entsOf keyB seekK aMakeSlice lookV aAppend putK layK eval evalV AM.valOf getF putF setF del SV.refers cellsAt rootSV plains shift ldV V.exact V.exactL V.ofValue V.ofPart V.ofCell V.cells V.one Value.oneCell' fitB qSeq qBlock getB afin aret resVs resV resTmps shareF evalS tupV valsS valsV pickV calm calmB lenV useOf feeds looks isT newsV partsV fillV putAt zerosV fitsNil nilB sliceB isEq isNeq awx_skip' awx_region' awx_seq' awx_cond' awx_block' awx_loop' awx_exit' awx_label' awx_ret' xops_nil' xops_cons' xop' xload xcall' addO delO inO putD memB Mix.effB Mix.laysB keysF badK subW weakV zeroRow yops_nil' yops_cons' yop' yload yindex yfield ylen oldO dropO takeO oldL exactB
attribute [local simp] awz_skip' awz_region' awz_seq' awz_cond' awz_block' awz_loop' awz_exit' awz_label' awz_ret' zops_nil' zops_cons' zop' zload zloadOwn zcall' z0 new0 remF old0 dltB

def ruB (r : Ru) : Bk := .cells [.v (.sc (.int .i64 r.kind)), .v (.sc (.int .i64 r.roles)), .v (.sc (.int .i64 r.lo)), .v (.sc (.int .i64 r.hi)), .v (.sc (.int .i64 r.labels)), .v (slR r.boxes), .v (.sc (.int .i64 r.zoom))]
def RrI (r : Ru) (k : Nat) (F : Fr) (H : List Bk) : Prop := (∀ b ∈ r.boxes.take k, rightR b = true) ∧ H = [ruB r] ∧ F = [(1, .v (.ptr 0 0)), (3, .v (.sc (.int .i64 k)))]
theorem ruRight_bad {r : Ru} {k : Nat} (hk : k < r.boxes.length) (h : rightR r.boxes[k] = false) : ruRight r = false := by
  have h1 := all_not hk h
  unfold ruRight
  rw [h1]
  split
  · have : r.boxes ≠ [] := fun e => by rw [e] at hk; simp at hk
    simp [this]
  · simp
set_option maxHeartbeats 4000000 in
theorem refRule (r : Ru) (hl : r.boxes.length ≤ 9223372036854775807) : PFn Try.prog 58 [r.v] (.sc (.bool (ruRight r))) := by
  have hR := refRightR
  unfold Re.v Re.cs at hR
  have s1 := refSet12 r.roles
  have s2 := refSet12 r.labels
  unfold Ru.v Ru.cs
  refine AFn.intro (fn := Try.f58) (by kernel_rfl) rfl (by kernel_rfl) (by simp) (AW.ofx [] mixed (by kernel_rfl) ?_)
  simp only [Try.f58, argsF]
  simp [slR]
  refine AW.count r.boxes.length (RrI r) ⟨_, ?_, by simp, rfl, rfl⟩ ?_
  · simp [subW, weakV, getF]
  rintro k F H hk ⟨ht, rfl, rfl⟩
  unfold ruB
  refine AW.ofx [] mixed (by kernel_rfl) ?_
  by_cases hlt : k < r.boxes.length
  · have w1 : IntKind.i64.wrap ((k : Int) + 1) = (k : Int) + 1 := by rw [wrap_i64] <;> omega
    have hRk := hR r.boxes[k]
    have hrow := rowR hlt
    simp [slR, hlt, hrow]
    refine callK.pure hRk rfl rfl ?_
    cases e : rightR r.boxes[k] with
    | false => simp [ruRight_bad hlt e]
    | true =>
      simp [w1, slR, hlt]
      refine ⟨_, ?_, take_all ht hlt e, rfl, rfl⟩
      simp [subW, weakV, getF, slR]
  · have hk' : k = r.boxes.length := by omega
    subst hk'
    rw [List.take_length] at ht
    have hall := all_full ht
    by_cases h6 : r.kind = 6
    · have er : ruRight r = (smallN r.roles 255 && decide (r.lo = 0) && decide (r.hi = 0) && decide (r.labels = 0) && decide (r.boxes = []) && decide (r.zoom = 0)) := by
        unfold ruRight
        rw [if_pos h6]
      rw [er]
      generalize smallN r.roles 255 = b1 at *
      have hz : ∀ n : Int, (n = 0 ∧ (n == 0) = true) ∨ (n ≠ 0 ∧ (n == 0) = false) := fun n => by
        by_cases h : n = 0
        · exact .inl ⟨h, by simpa using h⟩
        · exact .inr ⟨h, by simpa using h⟩
      have hy : (r.boxes = [] ∧ ((r.boxes.length : Int) == 0) = true) ∨ (r.boxes ≠ [] ∧ ((r.boxes.length : Int) == 0) = false) := by
        by_cases h : r.boxes = []
        · exact .inl ⟨h, by simp [h]⟩
        · exact .inr ⟨h, by simp [h]⟩
      simp [slR, h6]
      refine callK.pure s1 rfl rfl ?_
      cases b1 with
      | false => simp
      | true =>
        simp [slR]
        rcases hz r.lo with ⟨a1, x1⟩ | ⟨a1, x1⟩ <;> rcases hz r.hi with ⟨a2, x2⟩ | ⟨a2, x2⟩ <;> rcases hz r.labels with ⟨a3, x3⟩ | ⟨a3, x3⟩ <;> rcases hy with ⟨a4, x4⟩ | ⟨a4, x4⟩ <;> rcases hz r.zoom with ⟨a5, x5⟩ | ⟨a5, x5⟩ <;> simp [a1, a2, a3, a4, a5, x1, x2, x3, x4, x5]
    · have er : ruRight r = (decide (r.kind = 4 ∨ r.kind = 5) && smallN r.roles 255 && decide (0 ≤ r.lo) && decide (r.lo ≤ r.hi) && decide (r.hi ≤ 7) && smallN r.labels 255 && true && decide (0 ≤ r.zoom ∧ r.zoom ≤ 16)) := by
        unfold ruRight
        rw [if_neg h6, hall]
        rfl
      rw [er]
      generalize smallN r.roles 255 = b1 at *
      generalize smallN r.labels 255 = b2 at *
      have n6 : (r.kind == 6) = false := by simpa using h6
      by_cases h45 : r.kind = 4 ∨ r.kind = 5
      · rcases h45 with h4 | h4
        all_goals
          simp [slR, n6, h4]
          refine callK.pure s1 rfl rfl ?_
          cases b1 with
          | false => simp
          | true =>
            simp [slR]
            refine callK.pure s2 rfl rfl ?_
            cases b2 with
            | false => simp
            | true =>
              by_cases a1 : 0 ≤ r.lo
              · by_cases a2 : r.lo ≤ r.hi
                · by_cases a3 : r.hi ≤ 7
                  · by_cases a4 : 0 ≤ r.zoom
                    · by_cases a5 : r.zoom ≤ 16
                      · simp [slR, a1, a2, a3, a4, a5]
                      · simp [slR, a1, a2, a3, a4, a5]
                    · simp [slR, a1, a2, a3, a4]
                  · simp [slR, a1, a2, a3]
                · simp [slR, a1, a2]
              · simp [slR, a1]
      · have n4 : (r.kind == 4) = false := by simp; omega
        have n5 : (r.kind == 5) = false := by simp; omega
        simp [slR, n6, n4, n5, h45]
end Go.Proofs.Ytbcfoakceloenaa
namespace Go.Proofs.Ytbcfoakceloenaa
set_option linter.all false
open Go.RowKit AM
set_option maxRecDepth 10000
attribute [local simp] aw_skip' aw_region' aw_seq' aw_cond' aw_block' aw_loop' aw_exit' aw_label' aw_ret' aops_nil' aops_cons' aop' aMove aAssign aPick aAlloc aBox aBuild slF aBuildSlice aLoad aLoadOwn aStore aStoreOwn isOwn delR aNilCheck aBin aMakeFunc aFieldAddr aField aIndexAddr aExtract aSliceOp aSlice aCallOp aCall' aLen aLenMap aDelete aMM aUn aConv aIface aAssert aMakeMap aLookup aMapUpdate aRange aNext aEntry entsOf keyB seekK aMakeSlice lookV aAppend putK layK eval evalV AM.valOf getF putF setF del SV.refers cellsAt rootSV plains shift ldV V.exact V.exactL V.ofValue V.ofPart V.ofCell V.cells V.one Value.oneCell' fitB qSeq qBlock getB afin aret resVs resV resTmps shareF evalS tupV valsS valsV pickV calm calmB lenV useOf feeds looks isT newsV partsV fillV putAt zerosV fitsNil nilB sliceB isEq isNeq awx_skip' awx_region' awx_seq' awx_cond' awx_block' awx_loop' awx_exit' awx_label' awx_ret' xops_nil' xops_cons' xop' xload xcall' addO delO inO putD memB Mix.effB Mix.laysB keysF badK subW weakV zeroRow yops_nil' yops_cons' yop' yload yindex yfield ylen oldO dropO takeO oldL exactB
attribute [local simp] awz_skip' awz_region' awz_seq' awz_cond' awz_block' awz_loop' awz_exit' awz_label' awz_ret' zops_nil' zops_cons' zop' zload zloadOwn zcall' z0 new0 remF old0 dltB

def RaI (l : List Ru) (k : Nat) (F : Fr) (H : List Bk) : Prop := (∀ r ∈ l.take k, ruRight r = true) ∧ F = [(0, .v (slU l)), (3, .v (.sc (.int .i64 k)))]
theorem refAll (l : List Ru) (hl : l.length ≤ 9223372036854775807) (hb : ∀ r ∈ l, r.boxes.length ≤ 9223372036854775807) : PFn Try.prog 34 [slU l] (.sc (.bool (l.all ruRight))) := by
  have hR := fun r h => refRule r (hb r h)
  unfold Ru.v Ru.cs at hR
  refine AFn.intro (fn := Try.f34) (by kernel_rfl) rfl (by kernel_rfl) (by simp) (AW.ofx [] mixed (by kernel_rfl) ?_)
  simp only [Try.f34, argsF]
  simp [slU]
  refine AW.count l.length (RaI l) ⟨_, ?_, by simp, rfl⟩ ?_
  · simp [subW, weakV, getF, slU]
  rintro k F H hk ⟨ht, rfl⟩
  refine AW.ofx [] mixed (by kernel_rfl) ?_
  by_cases hlt : k < l.length
  · have w1 : IntKind.i64.wrap ((k : Int) + 1) = (k : Int) + 1 := by rw [wrap_i64] <;> omega
    have hRk := hR l[k] (List.getElem_mem hlt)
    have hrow := rowU hlt
    unfold slR at hrow hRk
    simp [slU, hlt, hrow]
    refine callK.pure hRk (by simp [V.closedL, V.closed, closed_flat (enc := Re.cs) (fun _ => rfl)]) rfl ?_
    cases e : ruRight l[k] with
    | false => simp [all_not hlt e]
    | true =>
      simp [w1, slU, hlt]
      refine ⟨_, ?_, take_all ht hlt e, rfl⟩
      simp [subW, weakV, getF, slU]
  · have hk' : k = l.length := by omega
    subst hk'
    rw [List.take_length] at ht
    simp [slU, all_full ht]
theorem kind_lt {r : Ru} (h : ruRight r = true) : (r.kind < 6) ↔ ¬ r.kind = 6 := by
  unfold ruRight at h
  split at h
  · omega
  · simp at h
    omega
set_option maxHeartbeats 4000000 in
theorem refFor (r : Ru) (ro ti la : Int) (hl : r.boxes.length ≤ 9223372036854775807) : PFn Try.prog 60 [r.v, .sc (.int .i64 ro), .sc (.int .i64 ti), .sc (.int .i64 la)] (.sc (.bool (forU r ro ti la))) := by
  have h1 := refRule r hl
  have n1 := refNumber12 ro
  have n2 := refNumber12 ti
  have n3 := refNumber12 la
  have cv : V.closedL [r.v] = true := by simp [V.closedL, V.closed, Ru.v, ru_closed]
  unfold forU numsU
  unfold Ru.v Ru.cs at h1 cv ⊢
  cases e1 : ruRight r with
  | false =>
    rw [e1] at h1
    refine AFn.intro (fn := Try.f60) (by kernel_rfl) rfl (by kernel_rfl) (by simp) (AW.ofx [] mixed (by kernel_rfl) ?_)
    simp only [Try.f60, argsF]
    simp [slR]
    refine callK.pure h1 cv rfl ?_
    simp
  | true =>
    rw [e1] at h1
    have hk := kind_lt e1
    by_cases h6 : r.kind = 6
    · have n6 : ¬ r.kind < 6 := by omega
      refine AFn.intro (fn := Try.f60) (by kernel_rfl) rfl (by kernel_rfl) (by simp) (AW.ofx [] mixed (by kernel_rfl) ?_)
      simp only [Try.f60, argsF]
      simp [slR]
      refine callK.pure h1 cv rfl ?_
      simp [n6, h6]
    · have n6 : r.kind < 6 := hk.2 h6
      cases e2 : smallN ro 7 with
      | false =>
        rw [e2] at n1
        refine AFn.intro (fn := Try.f60) (by kernel_rfl) rfl (by kernel_rfl) (by simp) (AW.ofx [] mixed (by kernel_rfl) ?_)
        simp only [Try.f60, argsF]
        simp [slR]
        refine callK.pure h1 cv rfl ?_
        simp [n6, h6]
        refine callK.pure n1 rfl rfl ?_
        simp
      | true =>
        rw [e2] at n1
        cases e3 : smallN ti 7 with
        | false =>
          rw [e3] at n2
          refine AFn.intro (fn := Try.f60) (by kernel_rfl) rfl (by kernel_rfl) (by simp) (AW.ofx [] mixed (by kernel_rfl) ?_)
          simp only [Try.f60, argsF]
          simp [slR]
          refine callK.pure h1 cv rfl ?_
          simp [n6, h6]
          refine callK.pure n1 rfl rfl ?_
          simp
          refine callK.pure n2 rfl rfl ?_
          simp
        | true =>
          rw [e3] at n2
          cases e4 : smallN la 7 with
          | false =>
            rw [e4] at n3
            refine AFn.intro (fn := Try.f60) (by kernel_rfl) rfl (by kernel_rfl) (by simp) (AW.ofx [] mixed (by kernel_rfl) ?_)
            simp only [Try.f60, argsF]
            simp [slR]
            refine callK.pure h1 cv rfl ?_
            simp [n6, h6]
            refine callK.pure n1 rfl rfl ?_
            simp
            refine callK.pure n2 rfl rfl ?_
            simp
            refine callK.pure n3 rfl rfl ?_
            simp
          | true =>
            rw [e4] at n3
            have hn : (0 ≤ ro ∧ ro ≤ 7) ∧ (0 ≤ la ∧ la ≤ 7) := by
              unfold smallN at e2 e4
              simp at e2 e4
              omega
            have h3 := refIn12 r.roles ro (ruRight_roles e1) hn.1
            have h4 := refIn12 r.labels la (ruRight_labels e1) hn.2
            generalize inS r.roles ro = b3 at *
            generalize inS r.labels la = b4 at *
            refine AFn.intro (fn := Try.f60) (by kernel_rfl) rfl (by kernel_rfl) (by simp) (AW.ofx [] mixed (by kernel_rfl) ?_)
            simp only [Try.f60, argsF]
            simp [slR]
            refine callK.pure h1 cv rfl ?_
            simp [n6, h6]
            refine callK.pure n1 rfl rfl ?_
            simp
            refine callK.pure n2 rfl rfl ?_
            simp
            refine callK.pure n3 rfl rfl ?_
            simp
            refine callK.pure h3 rfl rfl ?_
            cases b3 with
            | false => simp
            | true =>
              by_cases a1 : r.lo ≤ ti
              · by_cases a2 : ti ≤ r.hi
                · simp [a1, a2]
                  refine callK.pure h4 rfl rfl ?_
                  simp
                · simp [a1, a2]
              · simp [a1]
end Go.Proofs.Ytbcfoakceloenaa
namespace Go.Proofs.Ytbcfoakceloenaa
set_option linter.all false
open Go.RowKit AM
set_option maxRecDepth 10000
attribute [local simp] aw_skip' aw_region' aw_seq' aw_cond' aw_block' aw_loop' aw_exit' aw_label' aw_ret' aops_nil' aops_cons' aop' aMove aAssign aPick aAlloc aBox aBuild slF aBuildSlice aLoad aLoadOwn aStore aStoreOwn isOwn delR aNilCheck aBin aMakeFunc aFieldAddr aField aIndexAddr aExtract aSliceOp aSlice aCallOp aCall' aLen aLenMap aDelete aMM aUn aConv aIface aAssert aMakeMap aLookup aMapUpdate aRange aNext aEntry entsOf keyB seekK aMakeSlice lookV aAppend putK layK eval evalV AM.valOf getF putF setF del SV.refers cellsAt rootSV plains shift ldV V.exact V.exactL V.ofValue V.ofPart V.ofCell V.cells V.one Value.oneCell' fitB qSeq qBlock getB afin aret resVs resV resTmps shareF evalS tupV valsS valsV pickV calm calmB lenV useOf feeds looks isT newsV partsV fillV putAt zerosV fitsNil nilB sliceB isEq isNeq awx_skip' awx_region' awx_seq' awx_cond' awx_block' awx_loop' awx_exit' awx_label' awx_ret' xops_nil' xops_cons' xop' xload xcall' addO delO inO putD memB Mix.effB Mix.laysB keysF badK subW weakV zeroRow yops_nil' yops_cons' yop' yload yindex yfield ylen oldO dropO takeO oldL exactB
attribute [local simp] awz_skip' awz_region' awz_seq' awz_cond' awz_block' awz_loop' awz_exit' awz_label' awz_ret' zops_nil' zops_cons' zop' zload zloadOwn zcall' z0 new0 remF old0 dltB

def for2U (ro ti la : Int) (p : Pt) (r : Ru) : Bool := forU r ro ti la && hasB r.boxes p
theorem hasB_fits {l : List Re} {p : Pt} (h : hasB l p = true) : fits p = true := by
  unfold hasB at h
  obtain ⟨b, _, h⟩ := List.any_eq_true.1 h
  obtain ⟨h1, h2, h3⟩ := hasR_iff.1 h
  have := rightR_iff.1 h1
  unfold fits inside
  simp
  omega
theorem any_no {α : Type} {q : α → Bool} {l : List α} (h : ∀ r ∈ l, q r = false) : l.any q = false := by
  rw [Bool.eq_false_iff]
  intro e
  obtain ⟨r, hr, k⟩ := List.any_eq_true.1 e
  rw [h r hr] at k
  cases k
theorem take_no {α : Type} {q : α → Bool} {l : List α} {k : Nat} (h : ∀ r ∈ l.take k, q r = false) (hk : k < l.length) (hr : q l[k] = false) : ∀ r ∈ l.take (k + 1), q r = false := by
  rw [List.take_succ_eq_append_getElem hk]
  intro r hm
  rcases List.mem_append.1 hm with hm | hm
  · exact h r hm
  · simp at hm; subst hm; exact hr
def ptB2 (p : Pt) : Bk := .cells [.v (.sc (.int .i64 p.x)), .v (.sc (.int .i64 p.y))]
def F2I (r : Ru) (p : Pt) (k : Nat) (F : Fr) (H : List Bk) : Prop := (∀ b ∈ r.boxes.take k, hasR b p = false) ∧ H = [ruB r, ptB2 p] ∧ F = [(5, .v (.ptr 0 0)), (9, .v (.ptr 1 0)), (11, .v (.sc (.int .i64 k)))]
set_option maxHeartbeats 4000000 in
theorem refFor2 (r : Ru) (ro ti la : Int) (p : Pt) (hl : r.boxes.length ≤ 9223372036854775807) : PFn Try.prog 40 [r.v, .sc (.int .i64 ro), .sc (.int .i64 ti), .sc (.int .i64 la), p.v] (.sc (.bool (for2U ro ti la p r))) := by
  have h1 := refFor r ro ti la hl
  have h2 := refFits p
  have hR := fun b => refHas b p
  have cv : V.closedL [r.v, .sc (.int .i64 ro), .sc (.int .i64 ti), .sc (.int .i64 la)] = true := by simp [V.closedL, V.closed, Ru.v, ru_closed]
  unfold for2U
  unfold Ru.v Ru.cs at h1 cv ⊢
  unfold Re.v Re.cs Pt.v Pt.cs at hR
  unfold Pt.v Pt.cs at h2 ⊢
  cases e1 : forU r ro ti la with
  | false =>
    rw [e1] at h1
    refine AFn.intro (fn := Try.f40) (by kernel_rfl) rfl (by kernel_rfl) (by simp) (AW.ofx [] mixed (by kernel_rfl) ?_)
    simp only [Try.f40, argsF]
    simp [slR]
    refine callK.pure h1 cv rfl ?_
    simp
  | true =>
    rw [e1] at h1
    cases e2 : fits p with
    | false =>
      rw [e2] at h2
      have hf : hasB r.boxes p = false := by
        rw [Bool.eq_false_iff]
        intro h
        rw [hasB_fits h] at e2
        cases e2
      refine AFn.intro (fn := Try.f40) (by kernel_rfl) rfl (by kernel_rfl) (by simp) (AW.ofx [] mixed (by kernel_rfl) ?_)
      simp only [Try.f40, argsF]
      simp [slR]
      refine callK.pure h1 cv rfl ?_
      simp
      refine callK.pure h2 rfl rfl ?_
      simp [hf]
    | true =>
      rw [e2] at h2
      refine AFn.intro (fn := Try.f40) (by kernel_rfl) rfl (by kernel_rfl) (by simp) (AW.ofx [] mixed (by kernel_rfl) ?_)
      simp only [Try.f40, argsF]
      simp [slR]
      refine callK.pure h1 cv rfl ?_
      simp
      refine callK.pure h2 rfl rfl ?_
      simp
      refine AW.count r.boxes.length (F2I r p) ⟨_, ?_, by simp, rfl, rfl⟩ ?_
      · simp [subW, weakV, getF]
      rintro k F H hk ⟨ht, rfl, rfl⟩
      unfold ruB ptB2
      refine AW.ofx [] mixed (by kernel_rfl) ?_
      by_cases hlt : k < r.boxes.length
      · have w1 : IntKind.i64.wrap ((k : Int) + 1) = (k : Int) + 1 := by rw [wrap_i64] <;> omega
        have hRk := hR r.boxes[k]
        have hrow := rowR hlt
        simp [slR, hlt, hrow]
        refine callK.pure hRk rfl rfl ?_
        cases e : hasR r.boxes[k] p with
        | true =>
          have : hasB r.boxes p = true := List.any_eq_true.2 ⟨_, List.getElem_mem hlt, e⟩
          simp [this]
        | false =>
          simp [w1, slR, hlt]
          refine ⟨_, ?_, take_no ht hlt e, rfl, rfl⟩
          simp [subW, weakV, getF, slR]
      · have hk' : k = r.boxes.length := by omega
        subst hk'
        rw [List.take_length] at ht
        have hall : hasB r.boxes p = false := any_no ht
        simp [slR, hall]
end Go.Proofs.Ytbcfoakceloenaa
namespace Go.Proofs.Ytbcfoakceloenaa
set_option linter.all false
open Go.RowKit AM
set_option maxRecDepth 10000
attribute [local simp] aw_skip' aw_region' aw_seq' aw_cond' aw_block' aw_loop' aw_exit' aw_label' aw_ret' aops_nil' aops_cons' aop' aMove aAssign aPick aAlloc aBox aBuild slF aBuildSlice aLoad aLoadOwn aStore aStoreOwn isOwn delR aNilCheck aBin aMakeFunc aFieldAddr aField aIndexAddr aExtract aSliceOp aSlice aCallOp aCall' aLen aLenMap aDelete aMM aUn aConv aIface aAssert aMakeMap aLookup aMapUpdate aRange aNext aEntry entsOf keyB seekK aMakeSlice lookV aAppend putK layK eval evalV AM.valOf getF putF setF del SV.refers cellsAt rootSV plains shift ldV V.exact V.exactL V.ofValue V.ofPart V.ofCell V.cells V.one Value.oneCell' fitB qSeq qBlock getB afin aret resVs resV resTmps shareF evalS tupV valsS valsV pickV calm calmB lenV useOf feeds looks isT newsV partsV fillV putAt zerosV fitsNil nilB sliceB isEq isNeq awx_skip' awx_region' awx_seq' awx_cond' awx_block' awx_loop' awx_exit' awx_label' awx_ret' xops_nil' xops_cons' xop' xload xcall' addO delO inO putD memB Mix.effB Mix.laysB keysF badK subW weakV zeroRow yops_nil' yops_cons' yop' yload yindex yfield ylen oldO dropO takeO oldL exactB
attribute [local simp] awz_skip' awz_region' awz_seq' awz_cond' awz_block' awz_loop' awz_exit' awz_label' awz_ret' zops_nil' zops_cons' zop' zload zloadOwn zcall' z0 new0 remF old0 dltB

def zoomR (l : List Ru) (ro ti la : Int) (p : Pt) : Int := if l.all ruRight then zoomD (for2U ro ti la p) l else 0
theorem foldl_take_succ' {α β : Type} {f : β → α → β} {b : β} {xs : List α} {k : Nat} (h : k < xs.length) : (xs.take (k + 1)).foldl f b = f ((xs.take k).foldl f b) xs[k] := by
  rw [List.take_succ_eq_append_getElem h, List.foldl_append]
  rfl
def ZaI (l : List Ru) (ro ti la : Int) (p : Pt) (k : Nat) (F : Fr) (H : List Bk) : Prop := H = [ptB2 p] ∧ F = [(0, .v (slU l)), (1, .v (.sc (.int .i64 ro))), (2, .v (.sc (.int .i64 ti))), (3, .v (.sc (.int .i64 la))), (9, .v (.ptr 0 0)), (11, .v (.sc (.int .i64 ((l.take k).foldl (allowS (for2U ro ti la p)) 0)))), (12, .v (.sc (.int .i64 k)))]
def ZcI (l : List Ru) (ro ti la : Int) (p : Pt) (a : Int) (k : Nat) (F : Fr) (H : List Bk) : Prop := H = [ptB2 p] ∧ F = [(0, .v (slU l)), (1, .v (.sc (.int .i64 ro))), (2, .v (.sc (.int .i64 ti))), (3, .v (.sc (.int .i64 la))), (9, .v (.ptr 0 0)), (11, .v (.sc (.int .i64 ((l.take k).foldl (capS (for2U ro ti la p)) a)))), (13, .v (.sc (.int .i64 k)))]
set_option maxHeartbeats 4000000 in
theorem refZoom (l : List Ru) (ro ti la : Int) (p : Pt) (hl : l.length ≤ 9223372036854775807) (hb : ∀ r ∈ l, r.boxes.length ≤ 9223372036854775807) : PFn Try.prog 18 [slU l, .sc (.int .i64 ro), .sc (.int .i64 ti), .sc (.int .i64 la), p.v] (.sc (.int .i64 (zoomR l ro ti la p))) := by
  have h1 := refAll l hl hb
  have h2 := fun r h => refFor2 r ro ti la p (hb r h)
  have c1 := slU_closed l
  unfold Ru.v Ru.cs Pt.v Pt.cs at h2
  unfold zoomR
  unfold Pt.v Pt.cs
  cases e1 : l.all ruRight with
  | false =>
    rw [e1] at h1
    refine AFn.intro (fn := Try.f18) (by kernel_rfl) rfl (by kernel_rfl) (by simp) (AW.ofx [] mixed (by kernel_rfl) ?_)
    simp only [Try.f18, argsF]
    simp
    refine callK.pure h1 (by simp [V.closedL, c1]) rfl ?_
    simp
  | true =>
    rw [e1] at h1
    refine AFn.intro (fn := Try.f18) (by kernel_rfl) rfl (by kernel_rfl) (by simp) (AW.ofx [] mixed (by kernel_rfl) ?_)
    simp only [Try.f18, argsF]
    simp
    refine callK.pure h1 (by simp [V.closedL, c1]) rfl ?_
    simp
    refine AW.count l.length (ZaI l ro ti la p) ⟨_, ?_, rfl, rfl⟩ ?_
    · simp [subW, weakV, getF]
    rintro k F H hk ⟨rfl, rfl⟩
    unfold ptB2
    refine AW.ofx [] mixed (by kernel_rfl) ?_
    by_cases hlt : k < l.length
    · have w1 : IntKind.i64.wrap ((k : Int) + 1) = (k : Int) + 1 := by rw [wrap_i64] <;> omega
      have hFk := h2 l[k] (List.getElem_mem hlt)
      have hrow := rowU hlt
      have hst := foldl_take_succ' (f := allowS (for2U ro ti la p)) (b := 0) hlt
      unfold slR at hrow hFk
      generalize (l.take k).foldl (allowS (for2U ro ti la p)) 0 = z at *
      by_cases h4 : l[k].kind = 4
      · by_cases hz : z < l[k].zoom
        · simp [slU, hlt, hrow, h4, hz]
          rw [h4] at hFk
          refine callK.pure hFk (by simp [V.closedL, V.closed, closed_flat (enc := Re.cs) (fun _ => rfl)]) rfl ?_
          cases e5 : for2U ro ti la p l[k] with
          | true =>
            have e : allowS (for2U ro ti la p) z l[k] = l[k].zoom := by unfold allowS; rw [if_pos ⟨h4, hz, e5⟩]
            rw [e] at hst
            simp [slU, hlt, hrow, w1]
            refine ⟨_, ?_, rfl, rfl⟩
            rw [hst]
            simp [subW, weakV, getF, slU]
          | false =>
            have e : allowS (for2U ro ti la p) z l[k] = z := by unfold allowS; rw [if_neg (fun h => by rw [e5] at h; exact absurd h.2.2 (by decide))]
            rw [e] at hst
            simp [slU, hlt, hrow, w1]
            refine ⟨_, ?_, rfl, rfl⟩
            rw [hst]
            simp [subW, weakV, getF, slU]
        · have e : allowS (for2U ro ti la p) z l[k] = z := by unfold allowS; rw [if_neg (fun h => hz h.2.1)]
          rw [e] at hst
          simp [slU, hlt, hrow, h4, hz, w1]
          refine ⟨_, ?_, rfl, rfl⟩
          rw [hst]
          simp [subW, weakV, getF, slU]
      · have e : allowS (for2U ro ti la p) z l[k] = z := by unfold allowS; rw [if_neg (fun h => h4 h.1)]
        rw [e] at hst
        have n4 : (l[k].kind == 4) = false := by simpa using h4
        simp [slU, hlt, hrow, n4, w1]
        refine ⟨_, ?_, rfl, rfl⟩
        rw [hst]
        simp [subW, weakV, getF, slU]
    · have hk' : k = l.length := by omega
      subst hk'
      rw [List.take_length]
      unfold zoomD
      generalize l.foldl (allowS (for2U ro ti la p)) 0 = a at *
      simp [slU]
      refine AW.count l.length (ZcI l ro ti la p a) ⟨_, ?_, rfl, rfl⟩ ?_
      · simp [subW, weakV, getF, slU]
      rintro k F H hk ⟨rfl, rfl⟩
      unfold ptB2
      refine AW.ofx [] mixed (by kernel_rfl) ?_
      by_cases hlt : k < l.length
      · have w1 : IntKind.i64.wrap ((k : Int) + 1) = (k : Int) + 1 := by rw [wrap_i64] <;> omega
        have hFk := h2 l[k] (List.getElem_mem hlt)
        have hrow := rowU hlt
        have hst := foldl_take_succ' (f := capS (for2U ro ti la p)) (b := a) hlt
        unfold slR at hrow hFk
        generalize (l.take k).foldl (capS (for2U ro ti la p)) a = z at *
        by_cases h4 : l[k].kind = 5
        · by_cases hz : l[k].zoom < z
          · simp [slU, hlt, hrow, h4, hz]
            rw [h4] at hFk
            refine callK.pure hFk (by simp [V.closedL, V.closed, closed_flat (enc := Re.cs) (fun _ => rfl)]) rfl ?_
            cases e5 : for2U ro ti la p l[k] with
            | true =>
              have e : capS (for2U ro ti la p) z l[k] = l[k].zoom := by unfold capS; rw [if_pos ⟨h4, hz, e5⟩]
              rw [e] at hst
              simp [slU, hlt, hrow, w1]
              refine ⟨_, ?_, rfl, rfl⟩
              rw [hst]
              simp [subW, weakV, getF, slU]
            | false =>
              have e : capS (for2U ro ti la p) z l[k] = z := by unfold capS; rw [if_neg (fun h => by rw [e5] at h; exact absurd h.2.2 (by decide))]
              rw [e] at hst
              simp [slU, hlt, hrow, w1]
              refine ⟨_, ?_, rfl, rfl⟩
              rw [hst]
              simp [subW, weakV, getF, slU]
          · have e : capS (for2U ro ti la p) z l[k] = z := by unfold capS; rw [if_neg (fun h => hz h.2.1)]
            rw [e] at hst
            simp [slU, hlt, hrow, h4, hz, w1]
            refine ⟨_, ?_, rfl, rfl⟩
            rw [hst]
            simp [subW, weakV, getF, slU]
        · have e : capS (for2U ro ti la p) z l[k] = z := by unfold capS; rw [if_neg (fun h => h4 h.1)]
          rw [e] at hst
          have n4 : (l[k].kind == 5) = false := by simpa using h4
          simp [slU, hlt, hrow, n4, w1]
          refine ⟨_, ?_, rfl, rfl⟩
          rw [hst]
          simp [subW, weakV, getF, slU]
      · have hk' : k = l.length := by omega
        subst hk'
        rw [List.take_length]
        simp [slU]
end Go.Proofs.Ytbcfoakceloenaa
