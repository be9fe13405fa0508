/- Grant: spans that are equal, and patches that are told, by the program. -/
import Derived.Test.YtmkeeghjpdnknaaKb1
import Derived.Test.YtmkeeghjpdnknaaAz
namespace Go.Proofs.Ytmkeeghjpdnknaa
set_option linter.all false
open Go.RowKit AM Can
set_option maxRecDepth 10000
attribute [local simp] aw_skip' aw_region' aw_seq' aw_cond' aw_block' aw_loop' aw_exit' aw_label' aw_ret' aops_nil' aops_cons' aop' aMove aAssign aPick aAlloc aBox aBuild slF aBuildSlice aLoad aLoadOwn aStore aStoreOwn isOwn delR aNilCheck aBin aMakeFunc aFieldAddr aField aIndexAddr aExtract aSliceOp aSlice aCallOp aCall' aLen aLenMap aDelete aMM aUn aConv aIface aAssert aMakeMap aLookup aMapUpdate aRange aNext aEntry entsOf keyB seekK aMakeSlice lookV aAppend putK layK eval evalV AM.valOf getF putF setF del SV.refers cellsAt rootSV plains shift ldV V.exact V.exactL V.ofValue V.ofPart V.ofCell V.cells V.one Value.oneCell' fitB qSeq qBlock getB afin aret resVs resV resTmps shareF evalS tupV valsS valsV pickV calm calmB lenV useOf feeds looks isT newsV partsV fillV putAt zerosV fitsNil nilB sliceB isEq isNeq awx_skip' awx_region' awx_seq' awx_cond' awx_block' awx_loop' awx_exit' awx_label' awx_ret' xops_nil' xops_cons' xop' xload xcall' addO delO inO putD memB Mix.effB Mix.laysB keysF badK subW weakV zeroRow yops_nil' yops_cons' yop' yload yindex yfield ylen oldO dropO takeO oldL exactB
attribute [local simp] awz_skip' awz_region' awz_seq' awz_cond' awz_block' awz_loop' awz_exit' awz_label' awz_ret' zops_nil' zops_cons' zop' zload zcall' z0 new0 remF old0 dltB

theorem eqSp (a b c a' b' c' : Int) : eqT Try.prog 10 89 (.agg #[.int .i64 a, .int .i64 b, .int .i64 c]) (.agg #[.int .i64 a', .int .i64 b', .int .i64 c']) = some (a == a' && (b == b' && (c == c' && true))) := by kernel_rfl
theorem gSp : Try.prog.eqGuardType Try.prog.depth 89 = false := by kernel_rfl
theorem sp_eq {a b : Run Int} : a = b ↔ a.a = b.a ∧ a.b = b.b ∧ a.z = b.z := by
  cases a; cases b; simp
def EsI (xs ys : List (Run Int)) (k : Nat) (F : Fr) (H : List Bk) : Prop := xs.take k = ys.take k ∧ H = [] ∧ F = [(0, .v (slS xs)), (1, .v (slS ys)), (12, .v (.sc (.int .i64 xs.length))), (13, .v (.sc (.int .i64 k)))]
theorem eqSpans (xs ys : List (Run Int)) (hx : xs.length ≤ 1000000000) : PFn Try.prog 79 [slS xs, slS ys] (.sc (.bool (decide (xs = ys)))) := by
  refine AFn.intro (fn := Try.f79) (by kernel_rfl) rfl (by kernel_rfl) (by simp) (AW.ofx [] mixed (by kernel_rfl) ?_)
  simp only [Try.f79, argsF]
  simp [slS]
  by_cases hl : xs.length = ys.length
  · simp [slS, hl]
    refine AW.count xs.length (EsI xs ys) ⟨_, ?_, by simp, rfl, rfl⟩ ?_
    · simp [subW, weakV, getF, slS, hl]
    rintro k F H hk ⟨ht, rfl, rfl⟩
    refine AW.ofx [] mixed (by kernel_rfl) ?_
    by_cases hlt : k < xs.length
    · have hlt' : k < ys.length := by omega
      have w1 : IntKind.i64.wrap ((k : Int) + 1) = (k : Int) + 1 := by rw [wrap_i64] <;> omega
      simp [slS, hlt, hlt', rowS, eqSp, gSp, w1]
      refine gd.intro (fun e => ?_) (fun e => ?_)
      · have : ¬ xs = ys := fun e' => by
          subst e'
          simp at e
        simp [this]
      · have he : xs[k] = ys[k] := by
          rw [sp_eq]
          simpa using e
        refine ⟨_, ?_, ?_, rfl, rfl⟩
        · simp [subW, weakV, getF, slS, hl]
        · rw [List.take_succ_eq_append_getElem hlt, List.take_succ_eq_append_getElem hlt', ht, he]
    · have hk' : k = xs.length := by omega
      have he : xs = ys := by
        rw [hk', List.take_length, hl, List.take_length] at ht
        exact ht
      simp [slS, hlt]
      exact he
  · have : ¬ xs = ys := fun e => hl (by rw [e])
    have hl' : ((xs.length : Int) != ys.length) = true := by simp; omega
    simp [hl', this]
/-! ## Patches -/
def pcs (q : Rc Int) : List V := [.sc (.int .i64 q.x0), .sc (.int .i64 q.y0), .sc (.int .i64 q.x1), .sc (.int .i64 q.y1), .sc (.int .i64 q.z)]
def slP (qs : List (Rc Int)) : V := .sl qs.length 5 (qs.flatMap pcs)
def ownP (qs : List (Rc Int)) : SV := .own true 37 qs.length 5 (qs.flatMap pcs)
theorem slP_closed (qs : List (Rc Int)) : V.closed (slP qs) = true := by simp [slP, V.closed, closed_flat (enc := pcs) (fun _ => rfl)]
theorem rowP {qs : List (Rc Int)} {k : Nat} (h : k < qs.length) : AM.rowAt 5 (qs.flatMap pcs) (k : Int) = [.sc (.int .i64 qs[k].x0), .sc (.int .i64 qs[k].y0), .sc (.int .i64 qs[k].x1), .sc (.int .i64 qs[k].y1), .sc (.int .i64 qs[k].z)] := row_flat (enc := pcs) (sz := 5) (fun _ => rfl) h
theorem setBlk1 {H : List Bk} {id : Nat} {x y : SV} (h : H[id]? = some (.cells [x])) : setBlk H id 0 y = H.set id (.cells [y]) := by rw [setBlk_eq h]; rfl
def TeI (y0 y1 : Int) (R : List (Run Int)) (out : List (Rc Int)) (id : Nat) (H0 : List Bk) (k : Nat) (F : Fr) (H : List Bk) : Prop := H[id]? = some (.cells [ownP (out ++ (R.take k).map (rect y0 y1))]) ∧ StaysBut id H0 H ∧
  F = [(0, .v (.sc (.int .i64 y0))), (1, .v (.sc (.int .i64 y1))), (3, .v (.ptr id 0)), (9, .v (slS R)), (10, .v (.sc (.int .i64 R.length))), (11, .v (.sc (.int .i64 k)))]
set_option maxHeartbeats 4000000 in
theorem gtell (y0 y1 : Int) (R : List (Run Int)) (out : List (Rc Int)) (id : Nat) (H : List Bk) (h : H[id]? = some (.cells [ownP out])) (hn : out.length + R.length ≤ 1000000000000) :
    AFn Try.prog 60 [.sc (.int .i64 y0), .sc (.int .i64 y1), slS R, .ptr id 0] H fun y H' => H'[id]? = some (.cells [ownP (out ++ R.map (rect y0 y1))]) ∧ StaysBut id H H' := by
  refine AFn.intro (fn := Try.f60) (by kernel_rfl) rfl (by kernel_rfl) (by simp) (AW.ofx [] mixed (by kernel_rfl) ?_)
  simp only [Try.f60, argsF]
  simp [slS]
  refine AW.count R.length (TeI y0 y1 R out id H) ⟨_, ?_, by simpa using h, .refl, rfl⟩ ?_
  · simp [subW, weakV, getF, slS]
  rintro k F H1 hk ⟨hid, hs, rfl⟩
  refine AW.ofx [] mixed (by kernel_rfl) ?_
  by_cases hlt : k < R.length
  · have w1 : IntKind.i64.wrap ((k : Int) + 1) = (k : Int) + 1 := by rw [wrap_i64] <;> omega
    have hrow := rowS hlt
    have hst : out ++ (R.take (k + 1)).map (rect y0 y1) = out ++ (R.take k).map (rect y0 y1) ++ [rect y0 y1 R[k]] := by rw [List.take_succ_eq_append_getElem hlt, List.map_append, ← List.append_assoc]; rfl
    have hlo : (out ++ (R.take k).map (rect y0 y1)).length ≤ 1000000000000 := by
      rw [List.length_append, List.length_map, List.length_take]
      omega
    unfold TeI
    rw [hst]
    generalize out ++ (R.take k).map (rect y0 y1) = o at *
    have hne : id ≠ H1.length := Nat.ne_of_lt (List.getElem?_eq_some_iff.1 hid).1
    have hb := appL (H := H1) (b := .cells [.v (.sc (.int .i64 R[k].a)), .v (.sc (.int .i64 R[k].b)), .v (.sc (.int .i64 R[k].z))])
    have hid2 := getA (L := [.cells [.v (.sc (.int .i64 R[k].a)), .v (.sc (.int .i64 R[k].b)), .v (.sc (.int .i64 R[k].z))]]) hid
    have hs2 := hs.append (L := [.cells [.v (.sc (.int .i64 R[k].a)), .v (.sc (.int .i64 R[k].b)), .v (.sc (.int .i64 R[k].z))]])
    have q1 := setBlk1 (y := .any) hid2
    have q2 := fun X => setSelf (k := X) hid2
    have q3 := setOther hb hne
    have q3' := fun X h => (List.getElem_eq_iff (i := H1.length) h).2 (q3 X)
    have q4 := fun y => (setBlk1 (y := y) (q2 (.cells [.any]))).trans (List.set_set ..)
    unfold ownP at hid2
    simp [slS, hlt, hrow, setL, hid2, ownP, q1, q2, q3, q3', q4, w1]
    refine ⟨by omega, _, ?_, rfl, hs2.trans .set, rfl⟩
    simp [subW, weakV, getF]
  · have hk' : k = R.length := by omega
    subst hk'
    rw [List.take_length] at hid
    simp [slS]
    exact ⟨hid, hs⟩
end Go.Proofs.Ytmkeeghjpdnknaa
