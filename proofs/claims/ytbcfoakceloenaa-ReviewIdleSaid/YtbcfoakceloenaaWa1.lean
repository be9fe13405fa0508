/- Rules: words; zooms (plain). -/
import Derived.Test.YtbcfoakceloenaaGg
import Derived.Test.YtbcfoakceloenaaCz
import Derived.Test.YtbcfoakceloenaaBc
namespace Go.Proofs.Ytbcfoakceloenaa
set_option linter.all false
open Go.RowKit AM
set_option maxRecDepth 10000
attribute [local simp] aw_skip' aw_region' aw_seq' aw_cond' aw_block' aw_loop' aw_exit' aw_label' aw_ret' aops_nil' aops_cons' aop' aMove aAssign aPick aAlloc aBox aBuild slF aBuildSlice aLoad aLoadOwn aStore aStoreOwn isOwn delR aNilCheck aBin aMakeFunc aFieldAddr aField aIndexAddr aExtract aSliceOp aSlice aCallOp aCall' aLen aLenMap aDelete aMM aUn aConv aIface aAssert aMakeMap aLookup aMapUpdate aRange aNext aEntry entsOf keyB seekK aMakeSlice lookV aAppend putK layK eval evalV AM.valOf getF putF setF del SV.refers cellsAt rootSV plains shift ldV V.exact V.exactL V.ofValue V.ofPart V.ofCell V.cells V.one Value.oneCell' fitB qSeq qBlock getB afin aret resVs resV resTmps shareF evalS tupV valsS valsV pickV calm calmB lenV useOf feeds looks isT newsV partsV fillV putAt zerosV fitsNil nilB sliceB isEq isNeq awx_skip' awx_region' awx_seq' awx_cond' awx_block' awx_loop' awx_exit' awx_label' awx_ret' xops_nil' xops_cons' xop' xload xcall' addO delO inO putD memB Mix.effB Mix.laysB keysF badK subW weakV zeroRow yops_nil' yops_cons' yop' yload yindex yfield ylen oldO dropO takeO oldL exactB
attribute [local simp] awz_skip' awz_region' awz_seq' awz_cond' awz_block' awz_loop' awz_exit' awz_label' awz_ret' zops_nil' zops_cons' zop' zload zloadOwn zcall' z0 new0 remF old0 dltB

structure Ru where
  kind : Int
  roles : Int
  lo : Int
  hi : Int
  labels : Int
  boxes : List Re
  zoom : Int
  deriving DecidableEq, Inhabited
namespace Ru
def cs (r : Ru) : List V := [.sc (.int .i64 r.kind), .sc (.int .i64 r.roles), .sc (.int .i64 r.lo), .sc (.int .i64 r.hi), .sc (.int .i64 r.labels), slR r.boxes, .sc (.int .i64 r.zoom)]
def v (r : Ru) : V := .agg r.cs
end Ru
def slU (xs : List Ru) : V := .sl xs.length 7 (xs.flatMap Ru.cs)
def ownU (xs : List Ru) : SV := .own true 60 xs.length 7 (xs.flatMap Ru.cs)
theorem ru_closed (r : Ru) : V.closedL r.cs = true := by simp [Ru.cs, V.closedL, V.closed, slR, closed_flat (enc := Re.cs) (fun _ => rfl)]
theorem slU_closed (xs : List Ru) : V.closed (slU xs) = true := by simp [slU, V.closed, closed_flat (enc := Ru.cs) ru_closed]
theorem rowU {xs : List Ru} {k : Nat} (h : k < xs.length) : AM.rowAt 7 (xs.flatMap Ru.cs) (k : Int) = [.sc (.int .i64 xs[k].kind), .sc (.int .i64 xs[k].roles), .sc (.int .i64 xs[k].lo), .sc (.int .i64 xs[k].hi), .sc (.int .i64 xs[k].labels), slR xs[k].boxes, .sc (.int .i64 xs[k].zoom)] := row_flat (enc := Ru.cs) (sz := 7) (fun _ => rfl) h
/-! ## Plain answers -/
def smallN (n most : Int) : Bool := decide (0 ≤ n ∧ n ≤ most)
def ruRight (r : Ru) : Bool := if r.kind = 6 then smallN r.roles 255 && decide (r.lo = 0) && decide (r.hi = 0) && decide (r.labels = 0) && decide (r.boxes = []) && decide (r.zoom = 0)
  else decide (r.kind = 4 ∨ r.kind = 5) && smallN r.roles 255 && decide (0 ≤ r.lo) && decide (r.lo ≤ r.hi) && decide (r.hi ≤ 7) && smallN r.labels 255 && r.boxes.all rightR && smallN r.zoom 16
def inS (sum n : Int) : Bool := decide (sum / 2 ^ n.toNat % 2 = 1)
def numsU (ro ti la : Int) : Bool := smallN ro 7 && smallN ti 7 && smallN la 7
def forU (r : Ru) (ro ti la : Int) : Bool := ruRight r && !decide (r.kind = 6) && numsU ro ti la && inS r.roles ro && decide (r.lo ≤ ti) && decide (ti ≤ r.hi) && inS r.labels la
def hasB (l : List Re) (p : Pt) : Bool := l.any fun b => hasR b p
/-! ## The program's functions -/
theorem usmall (n most : Int) : PFn Try.prog 78 [.sc (.int .i64 n), .sc (.int .i64 most)] (.sc (.bool (smallN n most))) := by
  unfold smallN
  refine AFn.intro (fn := Try.f78) (by kernel_rfl) rfl (by kernel_rfl) (by simp) (AW.ofx [] mixed (by kernel_rfl) ?_)
  simp only [Try.f78, argsF]
  by_cases h1 : 0 ≤ n
  · by_cases h2 : n ≤ most
    · simp [h1, h2]
    · simp [h1, h2]
  · simp [h1]
def BxI (l : List Re) (k : Nat) (F : Fr) (H : List Bk) : Prop := (∀ r ∈ l.take k, rightR r = true) ∧ ∃ t : Nat, F = [(t, .v (slR l)), (t + 1, .v (.sc (.int .i64 l.length))), (t + 2, .v (.sc (.int .i64 k)))]
theorem uin (sum n : Int) (h1 : 0 ≤ sum ∧ sum ≤ 255) (h2 : 0 ≤ n ∧ n ≤ 7) : PFn Try.prog 79 [.sc (.int .i64 sum), .sc (.int .i64 n)] (.sc (.bool (inS sum n))) := by
  obtain ⟨s, rfl⟩ : ∃ s : Nat, sum = s := ⟨sum.toNat, by omega⟩
  obtain ⟨m, rfl⟩ : ∃ m : Nat, n = m := ⟨n.toNat, by omega⟩
  have e1 : shrI .i64 (s : Int) (m : Int) = ((s / 2 ^ m : Nat) : Int) := shrI_nat s m (by simp [IntKind.bits]; omega)
  have hle : s / 2 ^ m ≤ s := Nat.div_le_self _ _
  have hm : ¬ (m : Int) < 0 := by omega
  have e3 : inS (s : Int) (m : Int) = ((((s / 2 ^ m) % 2 : Nat) : Int) == 1) := by
    unfold inS
    rw [Bool.eq_iff_iff]
    simp
  rw [e3]
  generalize s / 2 ^ m = q at *
  have e2 : andI .i64 (q : Int) 1 = ((q % 2 : Nat) : Int) := by
    have := andI_nat (k := .i64) q 1 (.inl rfl) (by omega) (by omega)
    rw [show ((1 : Nat) : Int) = 1 from rfl] at this
    rw [this, Nat.and_one_is_mod]
  refine AFn.intro (fn := Try.f79) (by kernel_rfl) rfl (by kernel_rfl) (by simp) (AW.ofx [] mixed (by kernel_rfl) ?_)
  simp only [Try.f79, argsF]
  simp [binR_shr, binR_and, e1, e2, hm]
theorem unumbers (ro ti la : Int) : PFn Try.prog 84 [.sc (.int .i64 ro), .sc (.int .i64 ti), .sc (.int .i64 la)] (.sc (.bool (numsU ro ti la))) := by
  have h1 := usmall ro 7
  have h2 := usmall ti 7
  have h3 := usmall la 7
  unfold numsU
  generalize smallN ro 7 = a at *
  generalize smallN ti 7 = b at *
  generalize smallN la 7 = c at *
  refine AFn.intro (fn := Try.f84) (by kernel_rfl) rfl (by kernel_rfl) (by simp) (AW.ofx [] mixed (by kernel_rfl) ?_)
  simp only [Try.f84, argsF]
  simp
  refine callK.pure h1 rfl rfl ?_
  cases a with
  | false => simp
  | true =>
    simp
    refine callK.pure h2 rfl rfl ?_
    cases b with
    | false => simp
    | true =>
      simp
      refine callK.pure h3 rfl rfl ?_
      simp
end Go.Proofs.Ytbcfoakceloenaa
namespace Go.Proofs.Ytbcfoakceloenaa
set_option linter.all false
/-- A rule's part in a zoom, of rules that are for someone at a point. -/
def zoomS (q : Ru → Bool) (s : Int × Int) (r : Ru) : Int × Int := if q r then (if r.kind = 4 then (max s.1 r.zoom, s.2) else (s.1, min s.2 r.zoom)) else s
def zoomL (q : Ru → Bool) (l : List Ru) : Int := min (l.foldl (zoomS q) (0, 16)).1 (l.foldl (zoomS q) (0, 16)).2
def allowS (q : Ru → Bool) (z : Int) (r : Ru) : Int := if r.kind = 4 ∧ z < r.zoom ∧ q r = true then r.zoom else z
def capS (q : Ru → Bool) (z : Int) (r : Ru) : Int := if r.kind = 5 ∧ r.zoom < z ∧ q r = true then r.zoom else z
/-- The document's zoom. -/
def zoomD (q : Ru → Bool) (l : List Ru) : Int := l.foldl (capS q) (l.foldl (allowS q) 0)
theorem zoom_fst {q : Ru → Bool} : ∀ (l : List Ru) (s : Int × Int), (∀ r ∈ l, q r = true → r.kind = 4 ∨ r.kind = 5) → (l.foldl (zoomS q) s).1 = l.foldl (allowS q) s.1
  | [], s, _ => rfl
  | r :: l, s, h => by
    rw [List.foldl_cons, List.foldl_cons, zoom_fst l _ fun r hr => h r (by simp [hr])]
    congr 1
    unfold zoomS allowS
    cases hq : q r with
    | false => simp
    | true =>
      by_cases h4 : r.kind = 4
      · simp [h4]
        omega
      · simp [h4]
theorem zoom_snd {q : Ru → Bool} : ∀ (l : List Ru) (s : Int × Int), (∀ r ∈ l, q r = true → r.kind = 4 ∨ r.kind = 5) → (l.foldl (zoomS q) s).2 = l.foldl (capS q) s.2
  | [], s, _ => rfl
  | r :: l, s, h => by
    rw [List.foldl_cons, List.foldl_cons, zoom_snd l _ fun r hr => h r (by simp [hr])]
    congr 1
    have hr := h r (by simp)
    unfold zoomS capS
    cases hq : q r with
    | false => simp
    | true =>
      rcases hr hq with h4 | h5
      · simp [h4]
      · simp [h5]
        omega
theorem cap_min {q : Ru → Bool} : ∀ (l : List Ru) (x y : Int), l.foldl (capS q) (min x y) = min x (l.foldl (capS q) y)
  | [], x, y => rfl
  | r :: l, x, y => by
    rw [List.foldl_cons, List.foldl_cons, ← cap_min l]
    congr 1
    unfold capS
    by_cases h : r.kind = 5 ∧ q r = true
    · simp only [h, true_and, and_true]
      split <;> split <;> omega
    · have h1 : ∀ z, ¬ (r.kind = 5 ∧ r.zoom < z ∧ q r = true) := fun z k => h ⟨k.1, k.2.2⟩
      rw [if_neg (h1 _), if_neg (h1 _)]
theorem allow_le {q : Ru → Bool} {M : Int} : ∀ (l : List Ru) (z : Int), (∀ r ∈ l, q r = true → r.zoom ≤ M) → z ≤ M → l.foldl (allowS q) z ≤ M
  | [], z, _, h => h
  | r :: l, z, hr, h => by
    rw [List.foldl_cons]
    refine allow_le l _ (fun r h => hr r (by simp [h])) ?_
    unfold allowS
    split
    · rename_i k
      exact hr r (by simp) k.2.2
    · exact h
theorem zoom_doc {q : Ru → Bool} {l : List Ru} (hk : ∀ r ∈ l, q r = true → r.kind = 4 ∨ r.kind = 5) (hz : ∀ r ∈ l, q r = true → r.zoom ≤ 16) : zoomL q l = zoomD q l := by
  unfold zoomL zoomD
  rw [zoom_fst l _ hk, zoom_snd l _ hk]
  have h := allow_le l 0 hz (by decide)
  simp only
  generalize l.foldl (allowS q) 0 = a at *
  rw [← cap_min, show min a 16 = a by omega]
end Go.Proofs.Ytbcfoakceloenaa
