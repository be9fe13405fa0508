/- Points, rectangles, cells: the functions that only reckon (geom, cell, and the document's answers for them). -/
import Derived.Test.YtmjnffjacgjfmaaTy
import Derived.Test.YtmjnffjacgjfmaaNu

namespace Go.Proofs.Ytmjnffjacgjfmaa
set_option linter.all false
open Go.RowKit AM
set_option maxRecDepth 10000
attribute [local simp] aw_skip' aw_region' aw_seq' aw_cond' aw_block' aw_loop' aw_exit' aw_label' aw_ret' aops_nil' aops_cons' aop' aMove aAssign aPick aAlloc aBox aBuild slF aBuildSlice aLoad aLoadOwn aLoadS sharesAt shares sharedV aStore aStoreOwn isOwn delR aNilCheck aBin aMakeFunc aFieldAddr aField aIndexOp aIndex partV aIndexAddr aExtract aSliceOp aSlice slV aShrink aCallOp aCall' aInvoke' aLen aLenMap aDelete aMM aUn aConv aIface aAssert aMakeMap aLookup aMapUpdate aRange aNext aEntry entsOf keyB seekK aMakeSlice lookV aApp aAppendB aAppendF aAppend putK layK eval evalV AM.valOf getF putF setF del SV.refers cellsAt rootSV plains shift ldV V.exact V.exactL V.ofValue V.ofPart V.ofCell V.cells V.one Value.oneCell' fitB qSeq qBlock getB afin aret resVs resV resTmps shareF evalS tupV valsS valsV pickV calm calmB lenV useOf feeds shrinks stows looks isT newsV partsV fillV putAt zerosV fitsNil nilB sliceB isEq isNeq awx_skip' awx_region' awx_seq' awx_cond' awx_block' awx_loop' awx_exit' awx_label' awx_ret' xops_nil' xops_cons' xop' xload xcall' addO delO inO putD memB Mix.effB Mix.laysB keysF badK subW weakV zeroRow yops_nil' yops_cons' yop' yload yindex yfield ylen oldO dropO takeO oldL exactB V.fixed V.fixedL
structure Pt where
  x : Int
  y : Int
  deriving DecidableEq, Inhabited
namespace Pt
def cs (p : Pt) : List V := [.sc (.int .i64 p.x), .sc (.int .i64 p.y)]
def v (p : Pt) : V := .agg p.cs
end Pt
structure Ce where
  l : Int
  x : Int
  y : Int
  deriving DecidableEq, Inhabited
namespace Ce
def cs (p : Ce) : List V := [.sc (.int .i64 p.l), .sc (.int .i64 p.x), .sc (.int .i64 p.y)]
def v (p : Ce) : V := .agg p.cs
def zero : Ce := ⟨0, 0, 0⟩
end Ce
structure Re where
  x0 : Int
  y0 : Int
  x1 : Int
  y1 : Int
  deriving DecidableEq, Inhabited
namespace Re
def cs (p : Re) : List V := [.sc (.int .i64 p.x0), .sc (.int .i64 p.y0), .sc (.int .i64 p.x1), .sc (.int .i64 p.y1)]
def v (p : Re) : V := .agg p.cs
def zero : Re := ⟨0, 0, 0, 0⟩
end Re

/-! ## The plain answers -/
def inside (n : Int) : Bool := decide (0 ≤ n ∧ n ≤ 65535)
def fits (p : Pt) : Bool := inside p.x && inside p.y
def rightR (r : Re) : Bool := inside r.x0 && inside r.x1 && inside r.y0 && inside r.y1 && decide (r.x0 ≤ r.x1) && decide (r.y0 ≤ r.y1)
def hasR (r : Re) (p : Pt) : Bool := rightR r && decide (r.x0 ≤ p.x) && decide (p.x ≤ r.x1) && decide (r.y0 ≤ p.y) && decide (p.y ≤ r.y1)
def rightL (l : Int) : Bool := decide (0 ≤ l ∧ l ≤ 16)
def two (n : Int) : Int := 2 ^ n.toNat
def rightC (c : Ce) : Bool := rightL c.l && decide (0 ≤ c.x) && decide (0 ≤ c.y) && decide (c.x < two c.l) && decide (c.y < two c.l)
def side (l : Int) : Int := two (16 - l)
def cellOf (p : Pt) (l : Int) : Ce := ⟨l, p.x / side l, p.y / side l⟩
def ofR (p : Pt) (l : Int) : Ce × Bool := if rightL l && fits p then (cellOf p l, true) else (.zero, false)
def boxOf (c : Ce) : Re := ⟨side c.l * c.x, side c.l * c.y, side c.l * c.x + side c.l - 1, side c.l * c.y + side c.l - 1⟩
def boxR (c : Ce) : Re × Bool := if rightC c then (boxOf c, true) else (.zero, false)
def codeR (c : Ce) : Nat × Bool := if rightC c then (mort c.l.toNat c.x.toNat c.y.toNat, true) else (0, false)
def childR (c : Ce) (i : Int) : Ce × Bool := if rightC c && !decide (c.l = 16) && decide (0 ≤ i ∧ i ≤ 3) then (⟨c.l + 1, 2 * c.x + i % 2, 2 * c.y + i / 2⟩, true) else (.zero, false)

theorem pow_le {k n : Nat} (h : k ≤ n) : (2 : Int) ^ k ≤ 2 ^ n := by
  have := Nat.pow_le_pow_right (n := 2) (by decide) h
  exact_mod_cast this
theorem pow_pos' (k : Nat) : (0 : Int) < 2 ^ k := Int.pow_pos (by decide)
theorem two_le {n : Int} (h : n ≤ 16) : two n ≤ 65536 := by
  unfold two
  have := pow_le (k := n.toNat) (n := 16) (by omega)
  have e : (2 : Int) ^ 16 = 65536 := by decide
  omega
theorem two_pos (n : Int) : 0 < two n := by
  unfold two
  exact Int.pow_pos (by decide)
theorem two_nat (n : Nat) : two n = ((2 ^ n : Nat) : Int) := by simp [two]

/-! ## The walks -/
theorem refInside (n : Int) : PFn Try.prog 49 [.sc (.int .i64 n)] (.sc (.bool (inside n))) := by
  refine AFn.intro (fn := Try.f49) (by kernel_rfl) rfl (by kernel_rfl) (by simp) (AW.ofx [] mixed (by kernel_rfl) ?_)
  simp only [Try.f49, argsF]
  simp
  simp [gd, inside]
  grind
theorem refFits (p : Pt) : PFn Try.prog 29 [p.v] (.sc (.bool (fits p))) := by
  unfold Pt.v Pt.cs
  refine AFn.intro (fn := Try.f29) (by kernel_rfl) rfl (by kernel_rfl) (by simp) (AW.ofx [] mixed (by kernel_rfl) ?_)
  simp only [Try.f29, argsF]
  simp
  refine callK.pure (refInside _) rfl rfl ?_
  simp
  refine gd.intro (fun e => ?_) (fun e => ?_)
  · refine callK.pure (refInside _) rfl rfl ?_
    simp [fits, e]
  · simp [fits]
    simp at e
    simp [e]
theorem gFits (p : Pt) : PFn Try.prog 36 [p.v] (.sc (.bool (fits p))) := by
  unfold Pt.v Pt.cs
  refine AFn.intro (fn := Try.f36) (by kernel_rfl) rfl (by kernel_rfl) (by simp) (AW.ofx [] mixed (by kernel_rfl) ?_)
  simp only [Try.f36, argsF]
  simp
  simp [gd, fits, inside]
  grind
theorem refRightR (p : Re) : PFn Try.prog 22 [p.v] (.sc (.bool (rightR p))) := by
  unfold Re.v Re.cs
  refine AFn.intro (fn := Try.f22) (by kernel_rfl) rfl (by kernel_rfl) (by simp) (AW.ofx [] mixed (by kernel_rfl) ?_)
  simp only [Try.f22, argsF]
  have e : ∀ b, rightR p = b → (inside p.x0 = true → inside p.x1 = true → inside p.y0 = true → inside p.y1 = true → (decide (p.x0 ≤ p.x1) && decide (p.y0 ≤ p.y1)) = b) := fun b h h1 h2 h3 h4 => by
    rw [← h]; simp [rightR, h1, h2, h3, h4]
  simp
  refine callK.pure (refInside _) rfl rfl ?_
  cases h1 : inside p.x0
  · simp [rightR, h1]
  simp
  refine callK.pure (refInside _) rfl rfl ?_
  cases h2 : inside p.x1
  · simp [rightR, h2]
  simp
  refine callK.pure (refInside _) rfl rfl ?_
  cases h3 : inside p.y0
  · simp [rightR, h3]
  simp
  refine callK.pure (refInside _) rfl rfl ?_
  cases h4 : inside p.y1
  · simp [rightR, h4]
  simp
  simp [gd, rightR, h1, h2, h3, h4]
  grind
theorem refHas (r : Re) (p : Pt) : PFn Try.prog 55 [r.v, p.v] (.sc (.bool (hasR r p))) := by
  have hR := refRightR r
  unfold Re.v Re.cs at hR ⊢
  unfold Pt.v Pt.cs
  refine AFn.intro (fn := Try.f55) (by kernel_rfl) rfl (by kernel_rfl) (by simp) (AW.ofx [] mixed (by kernel_rfl) ?_)
  simp only [Try.f55, argsF]
  simp
  refine callK.pure hR rfl rfl ?_
  cases h1 : rightR r
  · simp [hasR, h1]
  simp
  simp [gd, hasR, h1]
  grind
theorem refLevel (n : Int) : PFn Try.prog 41 [.sc (.int .i64 n)] (.sc (.bool (rightL n))) := by
  refine AFn.intro (fn := Try.f41) (by kernel_rfl) rfl (by kernel_rfl) (by simp) (AW.ofx [] mixed (by kernel_rfl) ?_)
  simp only [Try.f41, argsF]
  simp
  simp [gd, rightL]
  grind
theorem cright (n : Int) : PFn Try.prog 100 [.sc (.int .i64 n)] (.sc (.bool (rightL n))) := by
  refine AFn.intro (fn := Try.f100) (by kernel_rfl) rfl (by kernel_rfl) (by simp) (AW.ofx [] mixed (by kernel_rfl) ?_)
  simp only [Try.f100, argsF]
  simp
  simp [gd, rightL]
  grind
def TwoI (n : Int) (k : Nat) (F : Fr) (H : List Bk) : Prop := H = [] ∧ F = [(0, .v (.sc (.int .i64 n))), (3, .v (.sc (.int .i64 (2 ^ k)))), (4, .v (.sc (.int .i64 k)))]
theorem refTwo (n : Int) (h : n ≤ 16) : PFn Try.prog 98 [.sc (.int .i64 n)] (.sc (.int .i64 (two n))) := by
  refine AFn.intro (fn := Try.f98) (by kernel_rfl) rfl (by kernel_rfl) (by simp) (AW.ofx [] mixed (by kernel_rfl) ?_)
  simp only [Try.f98, argsF]
  simp
  refine AW.count n.toNat (TwoI n) ⟨_, ?_, rfl, rfl⟩ ?_
  · simp [subW, weakV, getF]
  rintro k F H hk ⟨rfl, rfl⟩
  refine AW.of mixed (by kernel_rfl) ?_
  by_cases hlt : (k : Int) < n
  · have hk15 : k ≤ 15 := by omega
    have e1 := pow_le (k := k) (n := 15) hk15
    have e2 := pow_pos' k
    have w1 : IntKind.i64.wrap ((k : Int) + 1) = (k : Int) + 1 := by rw [wrap_i64] <;> omega
    have w2 : IntKind.i64.wrap (2 * 2 ^ k) = 2 ^ (k + 1) := by
      rw [Int.pow_succ, Int.mul_comm]
      rw [wrap_i64]
      · generalize (2 : Int) ^ k = z at *; omega
      · have : (2 : Int) ^ 15 = 32768 := by decide
        generalize (2 : Int) ^ k = z at *; omega
    simp [hlt, w1, w2, TwoI]
  · have : n.toNat = k := by omega
    simp [hlt, two, this]
theorem refSide (l : Int) (h : 0 ≤ l) (h' : l ≤ 16) : PFn Try.prog 76 [.sc (.int .i64 l)] (.sc (.int .i64 (side l))) := by
  refine AFn.intro (fn := Try.f76) (by kernel_rfl) rfl (by kernel_rfl) (by simp) (AW.ofx [] mixed (by kernel_rfl) ?_)
  simp only [Try.f76, argsF]
  have w1 : IntKind.i64.wrap (16 - l) = 16 - l := by rw [wrap_i64] <;> omega
  simp [w1]
  refine callK.pure (refTwo _ (by omega)) rfl rfl ?_
  simp [side]
end Go.Proofs.Ytmjnffjacgjfmaa
