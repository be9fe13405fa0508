/- Review: the rules that do nothing, by the document. -/
import Derived.Test.YtbcfoakceloenaaDx
import Derived.Test.YtbcfoakceloenaaDk1
import Derived.Test.YtbcfoakceloenaaWk1
namespace Go.Proofs.Ytbcfoakceloenaa
set_option linter.all false
open Go.RowKit AM Can
set_option maxRecDepth 10000
attribute [local simp] aw_skip' aw_region' aw_seq' aw_cond' aw_block' aw_loop' aw_exit' aw_label' aw_ret' aops_nil' aops_cons' aop' aMove aAssign aPick aAlloc aBox aBuild slF aBuildSlice aLoad aLoadOwn aStore aStoreOwn isOwn delR aNilCheck aBin aMakeFunc aFieldAddr aField aIndexAddr aExtract aSliceOp aSlice aCallOp aCall' aLen aLenMap aDelete aMM aUn aConv aIface aAssert aMakeMap aLookup aMapUpdate aRange aNext aEntry entsOf keyB seekK aMakeSlice lookV aAppend putK layK eval evalV AM.valOf getF putF setF del SV.refers cellsAt rootSV plains shift ldV V.exact V.exactL V.ofValue V.ofPart V.ofCell V.cells V.one Value.oneCell' fitB qSeq qBlock getB afin aret resVs resV resTmps shareF evalS tupV valsS valsV pickV calm calmB lenV useOf feeds looks isT newsV partsV fillV putAt zerosV fitsNil nilB sliceB isEq isNeq awx_skip' awx_region' awx_seq' awx_cond' awx_block' awx_loop' awx_exit' awx_label' awx_ret' xops_nil' xops_cons' xop' xload xcall' addO delO inO putD memB Mix.effB Mix.laysB keysF badK subW weakV zeroRow yops_nil' yops_cons' yop' yload yindex yfield ylen oldO dropO takeO oldL exactB
attribute [local simp] awz_skip' awz_region' awz_seq' awz_cond' awz_block' awz_loop' awz_exit' awz_label' awz_ret' zops_nil' zops_cons' zop' zload zloadOwn zcall' z0 new0 remF old0 dltB

def restK (l : List Ru) (i k : Nat) : List Ru := if k ≤ i then l.take k else l.take i ++ (l.take k).drop (i + 1)
theorem restK_all (l : List Ru) {i : Nat} (hi : i < l.length) : restK l i l.length = restU l i := by
  unfold restK restU
  rw [if_neg (by omega), List.take_length]
theorem restK_same (l : List Ru) (i : Nat) : restK l i (i + 1) = restK l i i := by
  unfold restK
  rw [if_neg (by omega), if_pos (Nat.le_refl _), List.drop_of_length_le (by rw [List.length_take]; omega), List.append_nil]
theorem restK_more {l : List Ru} {i k : Nat} (hk : k < l.length) (hne : k ≠ i) : restK l i (k + 1) = restK l i k ++ [l[k]] := by
  unfold restK
  by_cases h : k < i
  · rw [if_pos (by omega), if_pos (by omega), List.take_succ_eq_append_getElem hk]
  · rw [if_neg (by omega), if_neg (by omega), List.take_succ_eq_append_getElem hk, List.drop_append_of_le_length (by rw [List.length_take]; omega), List.append_assoc]
theorem restK_len (l : List Ru) (i k : Nat) : (restK l i k).length ≤ k := by
  unfold restK
  split
  · rw [List.length_take]; omega
  · rw [List.length_append, List.length_drop, List.length_take, List.length_take]; omega
def clkD (l rest : List Ru) (r : Nat) : Bool := (List.range r).all fun n => cloaksD l (n : Nat) == cloaksD rest (n : Nat)
def nonD (l rest : List Ru) (n : Nat) : Bool := (List.range n).all fun n => !someD true l rest (personN n)
theorem range_all_succ {p : Nat → Bool} (n : Nat) : (List.range (n + 1)).all p = ((List.range n).all p && p n) := by
  rw [List.range_succ, List.all_append]
  simp
def idleD (l : List Ru) (i : Nat) : Bool := clkD l (restU l i) 8 && nonD l (restU l i) 512
def idlD (l : List Ru) (k : Nat) : List Int := ((List.range k).filter (idleD l)).map fun i : Nat => (i : Int)
theorem idlD_succ (l : List Ru) (k : Nat) : idlD l (k + 1) = if idleD l k then idlD l k ++ [(k : Int)] else idlD l k := by
  unfold idlD
  rw [List.range_succ, List.filter_append]
  cases h : idleD l k <;> simp [h]
theorem idlD_len (l : List Ru) (k : Nat) : (idlD l k).length ≤ k := by
  have := List.length_filter_le (idleD l) (List.range k)
  simpa [idlD] using this
def DiA (l : List Ru) (i : Nat) (F : Fr) (_ : List Bk) : Prop := F = [(0, .v (slU l)), (3, ownI (idlD l i)), (4, .v (.sc (.int .i64 i)))]
def DiB (l : List Ru) (i k : Nat) (F : Fr) (_ : List Bk) : Prop := F = [(0, .v (slU l)), (3, ownI (idlD l i)), (4, .v (.sc (.int .i64 i))), (5, ownU (restK l i k)), (6, .v (.sc (.int .i64 k)))]
def DiC (l rest : List Ru) (i r : Nat) (F : Fr) (_ : List Bk) : Prop := F = [(0, .v (slU l)), (3, ownI (idlD l i)), (4, .v (.sc (.int .i64 i))), (5, .v (slU rest)), (7, .v (.sc (.bool (clkD l rest r)))), (8, .v (.sc (.int .i64 r)))]
def DiD (l rest : List Ru) (i n : Nat) (F : Fr) (_ : List Bk) : Prop := F = [(0, .v (slU l)), (3, ownI (idlD l i)), (4, .v (.sc (.int .i64 i))), (5, .v (slU rest)), (7, .v (.sc (.bool (clkD l rest 8 && nonD l rest n)))), (9, .v (.sc (.int .i64 n)))]
theorem boolEqY {x y : Operand} {u v : Bool} : binR Try.prog .eql 4 x y (.bool u) (.bool v) = some (.bool (u == v)) := by cases u <;> cases v <;> kernel_rfl
theorem nonD_false {l rest : List Ru} {n m : Nat} (h : nonD l rest n = false) (hm : n ≤ m) : nonD l rest m = false := by
  rw [Bool.eq_false_iff] at h ⊢
  intro e
  refine h (List.all_eq_true.2 fun x hx => List.all_eq_true.1 e x ?_)
  simp only [List.mem_range] at hx ⊢
  omega
set_option maxHeartbeats 16000000 in
theorem dIdle (l : List Ru) (h1 : l.length ≤ 1000) (n1 : (boxesU l).length ≤ 1000) : PFn Try.prog 23 [slU l] (slI (idlD l l.length)) := by
  have c1 := slU_closed l
  have hbl : ∀ r ∈ l, r.boxes.length ≤ 9223372036854775807 := fun r hr => by have := mem_le n1 r hr; omega
  have hC := fun ro => refCloaks l ro (by omega) hbl
  refine AFn.intro (fn := Try.f23) (by kernel_rfl) rfl (by kernel_rfl) (by simp) ?_
  simp only [Try.f23, argsF]
  refine AW.seq (AW.ofx [] mixed (by kernel_rfl) ?_)
  simp
  refine AW.seq (AW.ofx [] mixed (by kernel_rfl) ?_)
  simp
  refine AW.seq (AW.ofx [] mixed (by kernel_rfl) ?_)
  simp
  refine AW.count l.length (DiA l) ⟨_, ?_, rfl⟩ ?_
  · simp [subW, weakV, getF, ownI, zeroRow, idlD, ints]
  rintro i F H hi rfl
  have w1 : IntKind.i64.wrap ((i : Int) + 1) = (i : Int) + 1 := by rw [wrap_i64] <;> omega
  by_cases hlt : i < l.length
  rotate_left
  · have hk' : i = l.length := by omega
    subst hk'
    refine AW.ofx [] mixed (by kernel_rfl) ?_
    simp [slU, ownI]
    refine AW.ofx [] mixed (by kernel_rfl) ?_
    simp [slI]
  refine AW.seq (AW.ofx [] mixed (by kernel_rfl) ?_)
  simp [slU, ownI, hlt]
  refine AW.seq (AW.block (AW.seq (AW.ofx [] mixed (by kernel_rfl) ?_)))
  simp
  refine AW.seq (AW.ofx [] mixed (by kernel_rfl) ?_)
  simp
  refine AW.count l.length (DiB l i) ⟨_, ?_, rfl⟩ ?_
  · simp [subW, weakV, getF, slU, ownU, ownI, restK, zeroRow]
  clear hi
  rintro k F H2 hk rfl
  by_cases hkl : k < l.length
  · have w2 : IntKind.i64.wrap ((k : Int) + 1) = (k : Int) + 1 := by rw [wrap_i64] <;> omega
    have hrow := rowU hkl
    have hrl := restK_len l i k
    refine AW.ofx [] mixed (by kernel_rfl) ?_
    by_cases hne : k = i
    · subst hne
      simp [slU, ownU, ownI, hkl, w2]
      refine ⟨_, ?_, rfl⟩
      rw [restK_same]
      simp [subW, weakV, getF, slU, ownU, ownI]
    · have hne2 : ¬ (k : Int) = (i : Int) := by omega
      have hb : ((k : Int) != (i : Int)) = true := by simp [hne2]
      have hrs := restK_more hkl hne
      simp [slU, ownU, ownI, hkl, hrow, hne2, hne, hb, w2]
      refine ⟨⟨by omega, by omega⟩, _, ?_, rfl⟩
      rw [hrs]
      simp [subW, weakV, getF, slU, ownU, ownI, Ru.cs]
  have hk' : k = l.length := by omega
  subst hk'
  refine AW.ofx [] mixed (by kernel_rfl) ?_
  rw [restK_all l hlt]
  simp [slU, ownU, ownI]
  have hR1 := restU_len l i
  have hR2 := restU_boxes l i
  have hCl := hC
  have hbr : ∀ r ∈ restU l i, r.boxes.length ≤ 9223372036854775807 := fun r hr => hbl r (restU_mem hr)
  have hCr := fun ro => refCloaks (restU l i) ro (by omega) hbr
  have hS := fun w => dSome true l (restU l i) w h1 (by omega) n1 (by omega)
  unfold Wo.v Wo.cs at hS
  have c2 := slU_closed (restU l i)
  have hid : idleD l i = (clkD l (restU l i) 8 && nonD l (restU l i) 512) := rfl
  have his := idlD_succ l i
  have hil := idlD_len l i
  rw [hid] at his
  generalize restU l i = rest at *
  refine AW.asSl 5 rfl ?_
  simp [setF]
  refine AW.seq (AW.ofx [] mixed (by kernel_rfl) ?_)
  simp
  refine AW.seq (AW.ofx [] mixed (by kernel_rfl) ?_)
  simp
  refine AW.count 8 (DiC l rest i) ⟨_, ?_, rfl⟩ ?_
  · simp [subW, weakV, getF, slU, ownI, clkD]
  clear hk
  rintro r F H3 hr8 rfl
  by_cases hrl : r < 8
  · have hrl' : (r : Int) < 8 := by omega
    have w2 : IntKind.i64.wrap ((r : Int) + 1) = (r : Int) + 1 := by rw [wrap_i64] <;> omega
    have hs : clkD l rest (r + 1) = (clkD l rest r && (cloaksD l (r : Nat) == cloaksD rest (r : Nat))) := range_all_succ (p := fun n => cloaksD l (n : Nat) == cloaksD rest (n : Nat)) r
    refine AW.seq (AW.ofx [] mixed (by kernel_rfl) ?_)
    simp [ownI, hrl']
    refine AW.seq (AW.block ?_)
    refine AW.ofx [] mixed (by kernel_rfl) ?_
    unfold DiC
    rw [hs]
    cases hb : clkD l rest r with
    | false =>
      simp
      refine AW.ofx [] mixed (by kernel_rfl) ?_
      simp [w2]
      exact ⟨by omega, by first | rfl | simp [slI] | simp_all⟩
    | true =>
      simp
      refine callK.pure (hCl r) (by simp [V.closedL, V.closed, c1]) rfl ?_
      simp
      refine callK.pure (hCr r) (by simp [V.closedL, V.closed, c2]) rfl ?_
      simp [boolEqY]
      refine AW.ofx [] mixed (by kernel_rfl) ?_
      simp [w2]
      exact ⟨by omega, by first | rfl | simp [slI] | simp_all⟩
  have hr' : r = 8 := by omega
  subst hr'
  refine AW.ofx [] mixed (by kernel_rfl) ?_
  simp [ownI]
  refine AW.seq (AW.ofx [] mixed (by kernel_rfl) ?_)
  simp
  refine AW.count 512 (DiD l rest i) ⟨_, ?_, rfl⟩ ?_
  · simp [subW, weakV, getF, slU, ownI, nonD]
  clear hr8
  rintro n F H4 hn rfl
  refine AW.seq (AW.ofx [] mixed (by kernel_rfl) ?_)
  by_cases hgo : n < 512 ∧ (clkD l rest 8 && nonD l rest n) = true
  · obtain ⟨hn1, hgo⟩ := hgo
    have hn1' : (n : Int) < 512 := by omega
    have w2 : IntKind.i64.wrap ((n : Int) + 1) = (n : Int) + 1 := by rw [wrap_i64] <;> omega
    have hs : nonD l rest (n + 1) = (nonD l rest n && !someD true l rest (personN n)) := range_all_succ (p := fun n => !someD true l rest (personN n)) n
    rw [Bool.and_eq_true] at hgo
    have hSn := hS (personN n)
    rw [hgo.1, hgo.2]
    simp [ownI, hn1']
    refine AW.seq (AW.block ?_)
    unfold DiD
    rw [hgo.1, hs, hgo.2, Bool.true_and, Bool.true_and]
    unfold personN at hSn ⊢
    have e1 : (n : Int) / 64 = ((n / 64 : Nat) : Int) := rfl
    have e2 : (n : Int) / 8 = ((n / 8 : Nat) : Int) := rfl
    have q3 : ((n / 8 : Nat) : Int).tmod 8 = ((n / 8 % 8 : Nat) : Int) := rfl
    have q4 : (n : Int).tmod 8 = ((n % 8 : Nat) : Int) := rfl
    have q1 : IntKind.i64.wrap ((n : Int) / 64) = ((n / 64 : Nat) : Int) := by rw [e1, wrap_i64] <;> omega
    have q2 : IntKind.i64.wrap ((n : Int) / 8) = ((n / 8 : Nat) : Int) := by rw [e2, wrap_i64] <;> omega
    clear e1 e2
    generalize n / 64 = d1 at *
    generalize n / 8 % 8 = d2 at *
    generalize n / 8 = d4 at *
    generalize n % 8 = d3 at *
    refine AW.ofx [] mixed (by kernel_rfl) ?_
    simp [binR_quo, binR_rem, q1, q2, q3, q4]
    refine callK.pure hSn (by simp [V.closedL, V.closed, c1, c2]) rfl ?_
    simp
    refine AW.ofx [] mixed (by kernel_rfl) ?_
    simp [w2]
    exact ⟨by omega, by first | rfl | simp [slI] | simp_all⟩
  · have hb : (clkD l rest 8 && nonD l rest n) = (clkD l rest 8 && nonD l rest 512) := by
      by_cases e : n = 512
      · rw [e]
      · have hf : (clkD l rest 8 && nonD l rest n) = false := by
          rw [Bool.eq_false_iff]
          exact fun h => hgo ⟨by omega, h⟩
        rw [hf]
        cases hc : clkD l rest 8 with
        | false => rfl
        | true =>
          rw [hc, Bool.true_and] at hf
          rw [nonD_false hf hn]
          rfl
    rw [hb] at hgo ⊢
    generalize (clkD l rest 8 && nonD l rest 512) = b at *
    have hcase : (n < 512 ∧ b = false) ∨ n = 512 := by
      by_cases e : n = 512
      · exact .inr e
      · refine .inl ⟨by omega, ?_⟩
        cases b with
        | false => rfl
        | true => exact absurd ⟨by omega, rfl⟩ hgo
    have w3 : IntKind.i64.wrap ((i : Int) + 1) = (i : Int) + 1 := w1
    rcases hcase with ⟨hn1, rfl⟩ | rfl
    · have hn1' : (n : Int) < 512 := by omega
      simp [hn1', ownI]
      refine AW.seq (AW.ofx [] mixed (by kernel_rfl) ?_)
      simp
      refine AW.ofx [] mixed (by kernel_rfl) ?_
      simp
      refine AW.ofx [] mixed (by kernel_rfl) ?_
      simp [w1]
      refine ⟨_, ?_, rfl⟩
      simp at his
      rw [his]
      simp [subW, weakV, getF, slU, ownI]
    · cases b with
      | false =>
        simp [ownI]
        refine AW.seq (AW.ofx [] mixed (by kernel_rfl) ?_)
        simp
        refine AW.ofx [] mixed (by kernel_rfl) ?_
        simp
        refine AW.ofx [] mixed (by kernel_rfl) ?_
        simp [w1]
        refine ⟨_, ?_, rfl⟩
        simp at his
        rw [his]
        simp [subW, weakV, getF, slU, ownI]
      | true =>
        simp [ownI]
        refine AW.seq (AW.ofx [] mixed (by kernel_rfl) ?_)
        simp
        refine AW.ofx [] mixed (by kernel_rfl) ?_
        simp
        refine ⟨⟨by omega, by omega⟩, AW.ofx [] mixed (by kernel_rfl) ?_⟩
        simp [w1]
        refine ⟨_, ?_, rfl⟩
        simp at his
        rw [his]
        simp [subW, weakV, getF, slU, ownI, ints]
end Go.Proofs.Ytbcfoakceloenaa
