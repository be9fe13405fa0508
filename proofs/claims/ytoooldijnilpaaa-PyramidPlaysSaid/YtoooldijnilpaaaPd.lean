/- The document's answers for the pyramid: how many cells of a level have points. -/
import Derived.Test.YtoooldijnilpaaaPc
namespace Go.Proofs.Ytoooldijnilpaaa
set_option linter.all false
open Go.RowKit AM
set_option maxRecDepth 10000
attribute [local simp] aw_skip' aw_region' aw_seq' aw_cond' aw_block' aw_loop' aw_exit' aw_label' aw_ret' aops_nil' aops_cons' aop' aMove aAssign aPick aAlloc aBox aBuild aBuildSlice aLoad aLoadOwn aStore aStoreOwn isOwn delR aNilCheck aBin aMakeFunc aFieldAddr aField aIndexAddr aExtract aSliceOp aSlice aCallOp aCall' aLen aLenMap aDelete aMM aUn aConv aIface aAssert aMakeMap aLookup aMapUpdate aRange aNext aEntry entsOf keyB lookV aAppend putK layK eval evalV AM.valOf getF putF setF del SV.refers cellsAt rootSV plains shift ldV V.exact V.exactL V.ofValue V.ofPart V.ofCell V.cells V.one Value.oneCell' fitB qSeq qBlock getB afin aret resVs resV resTmps shareF evalS tupV valsS valsV pickV calm calmB lenV useOf feeds looks isT newsV partsV fillV putAt zerosV fitsNil nilB isEq isNeq awx_skip' awx_region' awx_seq' awx_cond' awx_block' awx_loop' awx_exit' awx_label' awx_ret' xops_nil' xops_cons' xop' xload xcall' addO delO inO putD memB Mix.effB Mix.laysB keysF badK subW weakV zeroRow yops_nil' yops_cons' yop' yload yindex yfield ylen oldO dropO takeO oldL exactB

theorem setLast {H : List Bk} {xs : List SV} {ys : List V} (h : xs.length = ys.length) : setCells (H ++ [.cells xs]) H.length 0 ys = H ++ [.cells (ys.map .v)] := by
  have go : ∀ (ys : List V) (pre xs : List SV), xs.length = ys.length → setCells (H ++ [.cells (pre ++ xs)]) H.length pre.length ys = H ++ [.cells (pre ++ ys.map .v)] := by
    intro ys
    induction ys with
    | nil => intro pre xs h; cases xs with
      | nil => rfl
      | cons => cases h
    | cons y ys ih =>
      intro pre xs h
      match xs, h with
      | x :: xs, h =>
        have e : setBlk (H ++ [.cells (pre ++ x :: xs)]) H.length pre.length (.v y) = H ++ [.cells ((pre ++ [.v y]) ++ xs)] := by
          unfold setBlk
          simp
        unfold setCells
        rw [e]
        have := ih (pre ++ [.v y]) xs (by simpa using h)
        simpa using this
  simpa using go ys [] xs h
theorem get_app {H L : List Bk} {i : Nat} {b : Bk} (h : H[i]? = some b) : (H ++ L)[i]? = some b := by
  rw [List.getElem?_append_left (List.getElem?_eq_some_iff.1 h).1]
  exact h
theorem app_len {H : List Bk} {b : Bk} : (H ++ [b])[H.length]? = some b := by simp

def freshB (cs : List Ce) (i : Nat) : Bool := !decide (cs.getD i Ce.zero ∈ cs.take i)
def freshN (cs : List Ce) (k : Nat) : Nat := ((List.range k).filter (freshB cs)).length
theorem freshN_succ (cs : List Ce) (k : Nat) : freshN cs (k + 1) = freshN cs k + if freshB cs k then 1 else 0 := by
  unfold freshN
  rw [List.range_succ, List.filter_append, List.length_append]
  cases hf : freshB cs k <;> simp [hf]
theorem freshN_le (cs : List Ce) (k : Nat) : freshN cs k ≤ k := by
  unfold freshN
  exact Nat.le_trans (List.length_filter_le _ _) (by simp)
def cellsL (xs : List Pt) (l : Int) : List Ce := xs.map fun p => (ofR p l).1
def lvlR (xs : List Pt) (l : Int) : Nat := if rightL l then freshN (cellsL xs l) xs.length else 0
def LvO (xs : List Pt) (l : Int) (k : Nat) (F : Fr) (H : List Bk) : Prop := F = [(0, .v (slP xs)), (1, .v (.sc (.int .i64 l))), (5, .v (.sc (.int .i64 (freshN (cellsL xs l) k)))), (6, .v (.sc (.int .i64 k)))]
def LvI (xs : List Pt) (l : Int) (k n b : Nat) (a : Ce) (j : Nat) (F : Fr) (H : List Bk) : Prop := H[b]? = some (.cells [.v (.sc (.int .i64 a.l)), .v (.sc (.int .i64 a.x)), .v (.sc (.int .i64 a.y))]) ∧
  F = [(0, .v (slP xs)), (1, .v (.sc (.int .i64 l))), (5, .v (.sc (.int .i64 n))), (6, .v (.sc (.int .i64 k))), (7, .v (.sc (.bool (!decide (a ∈ (cellsL xs l).take j))))), (8, .v (.ptr b 0)), (10, .v (.sc (.int .i64 j)))]
theorem cellsL_get {xs : List Pt} {l : Int} {j : Nat} (h : j < xs.length) : (cellsL xs l).getD j Ce.zero = (ofR xs[j] l).1 := by
  unfold cellsL
  rw [List.getD_eq_getElem?_getD, List.getElem?_map, List.getElem?_eq_getElem h]
  rfl
theorem mem_take_succ {xs : List Pt} {l : Int} {j : Nat} {a : Ce} (h : j < xs.length) : (!decide (a ∈ (cellsL xs l).take (j + 1))) = (!decide (a ∈ (cellsL xs l).take j) && !decide (a = (ofR xs[j] l).1)) := by
  have hl : j < (cellsL xs l).length := by simpa [cellsL] using h
  have e : (cellsL xs l)[j] = (ofR xs[j] l).1 := by simp [cellsL]
  rw [List.take_succ_eq_append_getElem hl, e]
  simp
theorem refLevelN (xs : List Pt) (l : Int) (hx : xs.length ≤ 1000) : PFn Try.prog 17 [slP xs, .sc (.int .i64 l)] (.sc (.int .i64 (lvlR xs l))) := by
  have hL := refLevel l
  have hO := fun p => refOf p l
  unfold Pt.v Pt.cs Ce.v Ce.cs at hO
  refine AFn.intro (fn := Try.f17) (by kernel_rfl) rfl (by kernel_rfl) (by simp) (AW.ofx [] mixed (by kernel_rfl) ?_)
  simp only [Try.f17, argsF]
  simp [slP]
  cases h1 : rightL l with
  | false =>
    rw [h1] at hL
    refine AW.count 0 (LvO xs l) ⟨_, ?_, rfl⟩ ?_
    · simp [subW, weakV, getF, slP, freshN]
    rintro k F H hk rfl
    have hk0 : k = 0 := by omega
    subst hk0
    refine AW.ofx [] mixed (by kernel_rfl) ?_
    simp [slP]
    cases xs with
    | nil => simp [slP, lvlR, h1, freshN]
    | cons x xs =>
      simp [slP]
      refine callK.pure hL rfl rfl ?_
      simp [slP, lvlR, h1, freshN]
  | true =>
  rw [h1] at hL
  refine AW.count xs.length (LvO xs l) ⟨_, ?_, rfl⟩ ?_
  · simp [subW, weakV, getF, slP, freshN]
  rintro k F H hk rfl
  refine AW.ofx [] mixed (by kernel_rfl) ?_
  by_cases hlt : k < xs.length
  rotate_left
  · have hk' : k = xs.length := by omega
    subst hk'
    simp [slP, lvlR, h1]
  simp [slP, hlt]
  refine callK.pure hL rfl rfl ?_
  simp [slP, hlt, rowP]
  refine callK.pure (hO xs[k]) rfl rfl ?_
  have hn := freshN_succ (cellsL xs l) k
  have hf : freshB (cellsL xs l) k = !decide ((ofR xs[k] l).1 ∈ (cellsL xs l).take k) := by unfold freshB; rw [cellsL_get hlt]
  rw [hf] at hn
  have hle := freshN_le (cellsL xs l) k
  generalize freshN (cellsL xs l) k = n at *
  simp [slP, setLast]
  generalize (ofR xs[k] l).1 = a at *
  refine AW.count k (LvI xs l k n H.length a) ⟨_, ?_, app_len, rfl⟩ ?_
  · simp [subW, weakV, getF, slP]
  rintro j F H1 hj ⟨hb, rfl⟩
  refine AW.ofx [] mixed (by kernel_rfl) ?_
  have w1 : IntKind.i64.wrap ((k : Int) + 1) = (k : Int) + 1 := by rw [wrap_i64] <;> omega
  have w2 : IntKind.i64.wrap ((j : Int) + 1) = (j : Int) + 1 := by rw [wrap_i64] <;> omega
  have w3 : IntKind.i64.wrap ((n : Int) + 1) = (n : Int) + 1 := by rw [wrap_i64] <;> omega
  by_cases hjk : j < k
  · have hjx : j < xs.length := by omega
    have hm := mem_take_succ (xs := xs) (l := l) (j := j) (a := a) hjx
    simp [slP, hjk, hjx, rowP]
    refine callK.pure (hO xs[j]) rfl rfl ?_
    have hb' := fun L => get_app (L := L) hb
    simp [slP, setLast, hb, hb']
    generalize (ofR xs[j] l).1 = c at *
    by_cases hin : a ∈ (cellsL xs l).take j
    · simp [hin, hjk, w2]
      refine ⟨_, ?_, get_app hb, rfl⟩
      rw [hm]
      simp [subW, weakV, getF, slP, hin]
    · simp [hin, hjk, hb', eqCe, gCe, w2]
      refine ⟨_, ?_, get_app hb, rfl⟩
      rw [hm]
      simp [subW, weakV, getF, slP, hin]
      cases a
      cases c
      simp
      grind
  · have hjk' : j = k := by omega
    subst hjk'
    simp [slP]
    by_cases hin : a ∈ (cellsL xs l).take j
    · simp [hin] at hn
      simp [hin, hlt, w1]
      refine ⟨_, ?_, rfl⟩
      rw [hn]
      simp [subW, weakV, getF, slP]
    · simp [hin] at hn
      simp [hin, hlt, w1, w3]
      refine ⟨_, ?_, rfl⟩
      rw [hn]
      simp [subW, weakV, getF, slP]
end Go.Proofs.Ytoooldijnilpaaa
