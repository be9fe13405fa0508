/- Review: the document rows. -/
import Derived.Test.YtbcfoakceloenaaDk1
import Derived.Test.YtbcfoakceloenaaKk1
namespace Go.Proofs.Ytbcfoakceloenaa
set_option linter.all false
open Go.RowKit AM Can
set_option maxRecDepth 10000
attribute [local simp] aw_skip' aw_region' aw_seq' aw_cond' aw_block' aw_loop' aw_exit' aw_label' aw_ret' aops_nil' aops_cons' aop' aMove aAssign aPick aAlloc aBox aBuild slF aBuildSlice aLoad aLoadOwn aStore aStoreOwn isOwn delR aNilCheck aBin aMakeFunc aFieldAddr aField aIndexAddr aExtract aSliceOp aSlice aCallOp aCall' aLen aLenMap aDelete aMM aUn aConv aIface aAssert aMakeMap aLookup aMapUpdate aRange aNext aEntry entsOf keyB seekK aMakeSlice lookV aAppend putK layK eval evalV AM.valOf getF putF setF del SV.refers cellsAt rootSV plains shift ldV V.exact V.exactL V.ofValue V.ofPart V.ofCell V.cells V.one Value.oneCell' fitB qSeq qBlock getB afin aret resVs resV resTmps shareF evalS tupV valsS valsV pickV calm calmB lenV useOf feeds looks isT newsV partsV fillV putAt zerosV fitsNil nilB sliceB isEq isNeq awx_skip' awx_region' awx_seq' awx_cond' awx_block' awx_loop' awx_exit' awx_label' awx_ret' xops_nil' xops_cons' xop' xload xcall' addO delO inO putD memB Mix.effB Mix.laysB keysF badK subW weakV zeroRow yops_nil' yops_cons' yop' yload yindex yfield ylen oldO dropO takeO oldL exactB
attribute [local simp] awz_skip' awz_region' awz_seq' awz_cond' awz_block' awz_loop' awz_exit' awz_label' awz_ret' zops_nil' zops_cons' zop' zload zloadOwn zcall' z0 new0 remF old0 dltB

theorem dRight (w : Wo) : PFn Try.prog 15 [w.v] (.sc (.bool (numsU w.ro w.ti w.la))) := by
  unfold Wo.v Wo.cs
  refine AFn.intro (fn := Try.f15) (by kernel_rfl) rfl (by kernel_rfl) (by simp) (AW.ofx [] mixed (by kernel_rfl) ?_)
  simp only [Try.f15, argsF]
  simp
  simp [gd, numsU, smallN]
  grind
theorem dZoom (l : List Ru) (w : Wo) (x y : Int) (hl : l.length ≤ 9223372036854775807) (hb : ∀ r ∈ l, r.boxes.length ≤ 9223372036854775807) : PFn Try.prog 51 [slU l, w.v, .sc (.int .i64 x), .sc (.int .i64 y)] (.sc (.int .i64 (zoomR l w.ro w.ti w.la ⟨x, y⟩))) := by
  have hZ := refZoom l w.ro w.ti w.la ⟨x, y⟩ hl hb
  have c1 := slU_closed l
  unfold Pt.v Pt.cs at hZ
  unfold Wo.v Wo.cs
  refine AFn.intro (fn := Try.f51) (by kernel_rfl) rfl (by kernel_rfl) (by simp) (AW.ofx [] mixed (by kernel_rfl) ?_)
  simp only [Try.f51, argsF]
  simp
  refine callK.pure hZ (by simp [V.closedL, V.closed, c1]) rfl ?_
  simp
def DbA (a b : List Ru) (k : Nat) (F : Fr) (H : List Bk) : Prop := F = [(0, .v (slU a)), (1, .v (slU b)), (5, ownR (boxesU (a.take k))), (6, .v (.sc (.int .i64 k)))]
def DbB (a b : List Ru) (k : Nat) (c : List Re) (j : Nat) (F : Fr) (H : List Bk) : Prop := F = [(0, .v (slU a)), (1, .v (slU b)), (5, ownR (boxesU (a.take k) ++ c.take j)), (6, .v (.sc (.int .i64 k))), (7, .v (.sc (.int .i64 j)))]
def DbC (a b : List Ru) (k : Nat) (F : Fr) (H : List Bk) : Prop := F = [(1, .v (slU b)), (5, ownR (boxesU a ++ boxesU (b.take k))), (8, .v (.sc (.int .i64 k)))]
def DbD (a b : List Ru) (k : Nat) (c : List Re) (j : Nat) (F : Fr) (H : List Bk) : Prop := F = [(1, .v (slU b)), (5, ownR (boxesU a ++ boxesU (b.take k) ++ c.take j)), (8, .v (.sc (.int .i64 k))), (9, .v (.sc (.int .i64 j)))]
set_option maxHeartbeats 8000000 in
theorem dBoxes (a b : List Ru) (ha : a.length ≤ 1000000) (hb : b.length ≤ 1000000) (na : (boxesU a).length ≤ 1048576) (nb : (boxesU b).length ≤ 1048576) : PFn Try.prog 35 [slU a, slU b] (slR (boxesU a ++ boxesU b)) := by
  refine AFn.intro (fn := Try.f35) (by kernel_rfl) rfl (by kernel_rfl) (by simp) (AW.ofx [] mixed (by kernel_rfl) ?_)
  simp only [Try.f35, argsF]
  simp [slU]
  refine AW.count a.length (DbA a b) ⟨_, ?_, rfl⟩ ?_
  · simp [subW, weakV, getF, slU, ownR, zeroRow, boxesU]
  rintro k F H hk rfl
  refine AW.ofx [] mixed (by kernel_rfl) ?_
  have w1 : IntKind.i64.wrap ((k : Int) + 1) = (k : Int) + 1 := by rw [wrap_i64] <;> omega
  by_cases hlt : k < a.length
  · have hrow := rowU hlt
    have hst := boxesU_take hlt
    have hpre := boxesU_take_len a (k + 1)
    rw [hst, List.length_append] at hpre
    generalize hc : a[k].boxes = c at *
    simp [slU, ownR, hlt, hrow]
    refine AW.count c.length (DbB a b k c) ⟨_, ?_, rfl⟩ ?_
    · simp [subW, weakV, getF, slU, ownR]
    rintro j F H2 hj rfl
    refine AW.ofx [] mixed (by kernel_rfl) ?_
    unfold slR at hrow
    by_cases hjl : j < c.length
    · have w2 : IntKind.i64.wrap ((j : Int) + 1) = (j : Int) + 1 := by rw [wrap_i64] <;> omega
      have hrj := rowR hjl
      have hlo : (boxesU (a.take k) ++ c.take j).length ≤ 1048576 := by
        rw [List.length_append, List.length_take]
        omega
      have hsj : boxesU (a.take k) ++ c.take (j + 1) = boxesU (a.take k) ++ c.take j ++ [c[j]] := by rw [List.take_succ_eq_append_getElem hjl, List.append_assoc]
      generalize hgo : boxesU (a.take k) ++ c.take j = o at *
      simp [slU, slR, ownR, hlt, hrow, hjl, hrj, w2]
      refine ⟨by omega, _, ?_, rfl⟩
      rw [hsj]
      simp [subW, weakV, getF, slU, ownR, Re.cs]
    · have hjj : j = c.length := by omega
      subst hjj
      rw [List.take_length, ← hst]
      simp [slU, slR, ownR, hlt, hrow, w1]
      refine ⟨_, ?_, rfl⟩
      simp [subW, weakV, getF, slU, ownR]
  · have hk2 : k = a.length := by omega
    subst hk2
    rw [List.take_length]
    simp [slU, slR, ownR]
    refine AW.count b.length (DbC a b) ⟨_, ?_, rfl⟩ ?_
    · simp [subW, weakV, getF, slU, ownR, boxesU]
    rintro k F H hk rfl
    refine AW.ofx [] mixed (by kernel_rfl) ?_
    have w1 : IntKind.i64.wrap ((k : Int) + 1) = (k : Int) + 1 := by rw [wrap_i64] <;> omega
    by_cases hlt : k < b.length
    · have hrow := rowU hlt
      have hst := boxesU_take hlt
      have hpre := boxesU_take_len b (k + 1)
      rw [hst, List.length_append] at hpre
      generalize hc : b[k].boxes = c at *
      simp [slU, ownR, hlt, hrow]
      refine AW.count c.length (DbD a b k c) ⟨_, ?_, rfl⟩ ?_
      · simp [subW, weakV, getF, slU, ownR]
      rintro j F H2 hj rfl
      refine AW.ofx [] mixed (by kernel_rfl) ?_
      unfold slR at hrow
      by_cases hjl : j < c.length
      · have w2 : IntKind.i64.wrap ((j : Int) + 1) = (j : Int) + 1 := by rw [wrap_i64] <;> omega
        have hrj := rowR hjl
        have hlo : (boxesU a ++ boxesU (b.take k) ++ c.take j).length ≤ 3048576 := by
          rw [List.length_append, List.length_append, List.length_take]
          omega
        have hsj : boxesU a ++ boxesU (b.take k) ++ c.take (j + 1) = boxesU a ++ boxesU (b.take k) ++ c.take j ++ [c[j]] := by rw [List.take_succ_eq_append_getElem hjl, List.append_assoc (boxesU a ++ boxesU (b.take k))]
        unfold DbD
        rw [hsj]
        generalize hgo : boxesU a ++ boxesU (b.take k) ++ c.take j = o at *
        simp [slU, slR, ownR, hlt, hrow, hjl, hrj, w2, Re.cs]
        omega
      · have hjj : j = c.length := by omega
        subst hjj
        rw [List.take_length, List.append_assoc, ← hst]
        simp [slU, slR, ownR, hlt, hrow, w1]
        refine ⟨_, ?_, rfl⟩
        simp [subW, weakV, getF, slU, ownR]
    · have hk2 : k = b.length := by omega
      subst hk2
      rw [List.take_length]
      simp [slU, slR, ownR]
def DmI (l : List Ru) (w : Wo) (k : Nat) (F : Fr) (H : List Bk) : Prop := Stays [woB w] H ∧ F = [(0, .v (slU l)), (3, .v (.ptr 0 0)), (5, ownU ((l.take k).filter fun r => forU r w.ro w.ti w.la)), (6, .v (.sc (.int .i64 k)))]
set_option maxHeartbeats 4000000 in
theorem dMine (l : List Ru) (w : Wo) (hl : l.length ≤ 1000000) (hb : ∀ r ∈ l, r.boxes.length ≤ 9223372036854775807) : PFn Try.prog 65 [slU l, w.v] (slU (forL l w.ro w.ti w.la)) := by
  have hF := fun r h => refFor r w.ro w.ti w.la (hb r h)
  unfold Ru.v Ru.cs at hF
  unfold Wo.v Wo.cs
  refine AFn.intro (fn := Try.f65) (by kernel_rfl) rfl (by kernel_rfl) (by simp) (AW.ofx [] mixed (by kernel_rfl) ?_)
  simp only [Try.f65, argsF]
  simp [slU]
  refine AW.count l.length (DmI l w) ⟨_, ?_, .refl, rfl⟩ ?_
  · simp [subW, weakV, getF, slU, ownU, zeroRow]
  rintro k F H hk ⟨hs, rfl⟩
  refine AW.ofx [] mixed (by kernel_rfl) ?_
  have h0 : H[0]? = some (woB w) := hs.cells rfl
  unfold woB at h0
  have h0e := fun h => (List.getElem_eq_iff (i := 0) h).2 h0
  by_cases hlt : k < l.length
  · have w1 : IntKind.i64.wrap ((k : Int) + 1) = (k : Int) + 1 := by rw [wrap_i64] <;> omega
    have hrow := rowU hlt
    have hFk := hF _ (List.getElem_mem hlt)
    have hsc := filter_succ (q := fun r => forU r w.ro w.ti w.la) hlt
    have cv : V.closedL [l[k].v] = true := by simp [V.closedL, V.closed, Ru.v, ru_closed]
    have hfl : ((l.take k).filter fun r => forU r w.ro w.ti w.la).length ≤ 1000000 := by
      have h1 := List.length_filter_le (fun r => forU r w.ro w.ti w.la) (l.take k)
      rw [List.length_take] at h1
      omega
    generalize (l.take k).filter (fun r => forU r w.ro w.ti w.la) = ms at *
    unfold slR at hrow hFk
    unfold Ru.v Ru.cs slR at cv
    simp [slU, hlt, hrow, h0, h0e, ownU]
    refine callK.pure hFk (by simpa [V.closedL, V.closed] using cv) rfl ?_
    cases hq : forU l[k] w.ro w.ti w.la with
    | true =>
      simp [slU, ownU, w1, hlt, hrow]
      refine ⟨by omega, _, ?_, hs, rfl⟩
      rw [hsc, if_pos hq]
      simp [subW, weakV, getF, slU, ownU, Ru.cs, slR]
    | false =>
      simp [slU, ownU, w1, hlt]
      refine ⟨_, ?_, hs, rfl⟩
      rw [hsc, if_neg (by rw [hq]; decide)]
      simp [subW, weakV, getF, slU, ownU]
  · have hk' : k = l.length := by omega
    subst hk'
    rw [List.take_length]
    simp [slU, ownU, forL]
/-! ## Rows that are alike -/
def endsC (q : Rc (Int × Int)) : Int × Int × Int × Int := (q.x0, q.x1, q.z.1, q.z.2)
def DaI (xs ys : List (Rc (Int × Int))) (k : Nat) (F : Fr) (H : List Bk) : Prop := (xs.take k).map endsC = (ys.take k).map endsC ∧ F = [(0, .v (slC xs)), (1, .v (slC ys)), (5, .v (.sc (.int .i64 k)))]
set_option maxHeartbeats 4000000 in
theorem dAlike (xs ys : List (Rc (Int × Int))) (hx : xs.length ≤ 1000000000) : PFn Try.prog 38 [slC xs, slC ys] (.sc (.bool (decide (xs.map endsC = ys.map endsC)))) := by
  refine AFn.intro (fn := Try.f38) (by kernel_rfl) rfl (by kernel_rfl) (by simp) (AW.ofx [] mixed (by kernel_rfl) ?_)
  simp only [Try.f38, argsF]
  simp [slC]
  by_cases hl : xs.length = ys.length
  · simp [slC, hl]
    refine AW.count xs.length (DaI xs ys) ⟨_, ?_, by simp, rfl⟩ ?_
    · simp [subW, weakV, getF, slC, hl]
    rintro k F H hk ⟨ht, rfl⟩
    refine AW.ofx [] mixed (by kernel_rfl) ?_
    by_cases hlt : k < xs.length
    · have hlt' : k < ys.length := by omega
      have w1 : IntKind.i64.wrap ((k : Int) + 1) = (k : Int) + 1 := by rw [wrap_i64] <;> omega
      have hno : endsC xs[k] ≠ endsC ys[k] → ¬ xs.map endsC = ys.map endsC := fun hne e' => by
        have h1 : (xs.map endsC)[k]? = (ys.map endsC)[k]? := by rw [e']
        simp [hlt, hlt'] at h1
        exact hne h1
      by_cases e0 : xs[k].x0 = ys[k].x0
      · by_cases e1 : xs[k].x1 = ys[k].x1
        · by_cases e2 : xs[k].z.1 = ys[k].z.1
          · by_cases e3 : xs[k].z.2 = ys[k].z.2
            · simp [slC, hlt, hlt', rowC, ccs, w1, e0, e1, e2, e3]
              refine ⟨_, ?_, ?_, rfl⟩
              · simp [subW, weakV, getF, slC]
              · rw [List.take_succ_eq_append_getElem hlt, List.take_succ_eq_append_getElem hlt', List.map_append, List.map_append, ht]
                simp [endsC, e0, e1, e2, e3]
            · have e3' : (xs[k].z.2 != ys[k].z.2) = true := by simpa using e3
              have := hno (fun e => e3 (congrArg (fun p => p.2.2.2) e))
              simp [slC, hlt, hlt', rowC, ccs, w1, e0, e1, e2, e3', this]
          · have e2' : (xs[k].z.1 != ys[k].z.1) = true := by simpa using e2
            have := hno (fun e => e2 (congrArg (fun p => p.2.2.1) e))
            simp [slC, hlt, hlt', rowC, ccs, w1, e0, e1, e2', this]
        · have e1' : (xs[k].x1 != ys[k].x1) = true := by simpa using e1
          have := hno (fun e => e1 (congrArg (fun p => p.2.1) e))
          simp [slC, hlt, hlt', rowC, ccs, w1, e0, e1', this]
      · have e0' : (xs[k].x0 != ys[k].x0) = true := by simpa using e0
        have := hno (fun e => e0 (congrArg Prod.fst e))
        simp [slC, hlt, hlt', rowC, ccs, w1, e0', this]
    · have hk' : k = xs.length := by omega
      have he : xs.map endsC = ys.map endsC := by
        rw [hk', List.take_length, hl, List.take_length] at ht
        exact ht
      simp [slC, hlt, he]
  · have : ¬ xs.map endsC = ys.map endsC := fun e => hl (by simpa using congrArg List.length e)
    have hl' : ((xs.length : Int) != ys.length) = true := by simp; omega
    simp [hl', this]
end Go.Proofs.Ytbcfoakceloenaa
namespace Go.Proofs.Ytbcfoakceloenaa
set_option linter.all false
open Go.RowKit AM Can
set_option maxRecDepth 10000
attribute [local simp] aw_skip' aw_region' aw_seq' aw_cond' aw_block' aw_loop' aw_exit' aw_label' aw_ret' aops_nil' aops_cons' aop' aMove aAssign aPick aAlloc aBox aBuild slF aBuildSlice aLoad aLoadOwn aStore aStoreOwn isOwn delR aNilCheck aBin aMakeFunc aFieldAddr aField aIndexAddr aExtract aSliceOp aSlice aCallOp aCall' aLen aLenMap aDelete aMM aUn aConv aIface aAssert aMakeMap aLookup aMapUpdate aRange aNext aEntry entsOf keyB seekK aMakeSlice lookV aAppend putK layK eval evalV AM.valOf getF putF setF del SV.refers cellsAt rootSV plains shift ldV V.exact V.exactL V.ofValue V.ofPart V.ofCell V.cells V.one Value.oneCell' fitB qSeq qBlock getB afin aret resVs resV resTmps shareF evalS tupV valsS valsV pickV calm calmB lenV useOf feeds looks isT newsV partsV fillV putAt zerosV fitsNil nilB sliceB isEq isNeq awx_skip' awx_region' awx_seq' awx_cond' awx_block' awx_loop' awx_exit' awx_label' awx_ret' xops_nil' xops_cons' xop' xload xcall' addO delO inO putD memB Mix.effB Mix.laysB keysF badK subW weakV zeroRow yops_nil' yops_cons' yop' yload yindex yfield ylen oldO dropO takeO oldL exactB
attribute [local simp] awz_skip' awz_region' awz_seq' awz_cond' awz_block' awz_loop' awz_exit' awz_label' awz_ret' zops_nil' zops_cons' zop' zload zloadOwn zcall' z0 new0 remF old0 dltB

def ownCD (qs : List (Rc (Int × Int))) : SV := .own true 39 qs.length 6 (qs.flatMap ccs)
theorem lastAtC {R : List (Rc (Int × Int))} {q : Rc (Int × Int)} (o : Nat) (ho : o < 6) : ((R ++ [q]).flatMap ccs)[R.length * 6 + o]? = (ccs q)[o]? := by
  have hl := flat_len' (enc := ccs) (sz := 6) (fun _ => rfl) R
  rw [List.flatMap_append, List.getElem?_append_right (by omega), hl]
  simp
def setX1C (v : Int) (q : Rc (Int × Int)) : Rc (Int × Int) := { q with x1 := v }
theorem poke_cx1 {R : List (Rc (Int × Int))} {q : Rc (Int × Int)} {v : Int} : ((R ++ [q]).flatMap ccs).set (R.length * 6 + 2) (.sc (.int .i64 v)) = (R ++ [(⟨q.x0, q.y0, v, q.y1, q.z⟩ : Rc (Int × Int))]).flatMap ccs := by
  have := flat_mod (enc := ccs) (sz := 6) (o := 2) (v := .sc (.int .i64 v)) (f := setX1C v) (fun _ => rfl) (by decide) (fun _ => rfl) (k := R.length) (xs := R ++ [q]) (by simp)
  rw [this, modN_last]
  rfl
theorem runsK_prev' {L : Type} [DecidableEq L] {f : Int → Option L} {xs : List Int} {k : Nat} (h : k + 1 < xs.length) {z : L} (hz : f xs[k] = some z) : ∃ R' r, runsK f xs (k + 1) = R' ++ [r] ∧ r.b + 1 = xs[k + 1] ∧ r.z = z := by
  rw [runsK_succ h]
  unfold Can.step
  rw [hz]
  simp only
  obtain ⟨R', a, e⟩ := push_last (R := runsK f xs k) (n := xs[k]) (m := xs[k + 1]) (z := z)
  exact ⟨R', _, e, by simp only; omega, rfl⟩
def opK (f : Int → Option (Int × Int)) (xs : List Int) : Nat → Bool
  | 0 => false
  | k + 1 => match xs[k]? with
    | some x => (f x).isSome
    | none => false
def RdI (was is : List Ru) (w : Wo) (xs : List Int) (y : Int) (k : Nat) (F : Fr) (H : List Bk) : Prop := Stays [woB w] H ∧ F = [(0, .v (slU was)), (1, .v (slU is)), (3, .v (slI xs)), (4, .v (.sc (.int .i64 y))), (7, .v (.ptr 0 0)),
  (11, ownCD ((runsK (labO neB was is w y) xs k).map (rect y y))), (12, .v (.sc (.bool (opK (labO neB was is w y) xs k)))), (13, .v (.sc (.int .i64 k)))]
set_option maxHeartbeats 16000000 in
theorem dRow (was is : List Ru) (w : Wo) (xs : List Int) (y : Int) (hl : was.length ≤ 9223372036854775807) (hb : ∀ r ∈ was, r.boxes.length ≤ 9223372036854775807) (hl' : is.length ≤ 9223372036854775807) (hb' : ∀ r ∈ is, r.boxes.length ≤ 9223372036854775807) (hx : xs.length ≤ 10000000) (hxr : ∀ x ∈ xs, 0 ≤ x ∧ x ≤ 65536) (hs : xs.Pairwise (· < ·)) :
    PFn Try.prog 37 [slU was, slU is, w.v, slI xs, .sc (.int .i64 y)] (slC ((rowOf neB was is w xs y).map (rect y y))) := by
  have hZ := fun x => dZoom was w x y hl hb
  have hZ' := fun x => dZoom is w x y hl' hb'
  have c1 := slU_closed was
  have c2 := slU_closed is
  unfold Wo.v Wo.cs at hZ hZ' ⊢
  refine AFn.intro (fn := Try.f37) (by kernel_rfl) rfl (by kernel_rfl) (by simp) (AW.ofx [] mixed (by kernel_rfl) ?_)
  simp only [Try.f37, argsF]
  simp
  refine AW.count (xs.length - 1) (RdI was is w xs y) ⟨_, ?_, .refl, rfl⟩ ?_
  · simp [subW, weakV, getF, runsK, ownCD, zeroRow, opK]
  rintro k F H hk ⟨hst, rfl⟩
  have h0 : H[0]? = some (woB w) := hst.cells rfl
  unfold woB at h0
  refine AW.ofx [] mixed (by kernel_rfl) ?_
  have w1 : IntKind.i64.wrap ((k : Int) + 1) = (k : Int) + 1 := by rw [wrap_i64] <;> omega
  by_cases hlt : k + 1 < xs.length
  · have hlt1 : k < xs.length := by omega
    have hlt2 : (k : Int) + 1 < xs.length := by omega
    have hlt3 : (k : Int) < xs.length := by omega
    have hk0 : (0 : Int) ≤ (k : Int) + 1 := by omega
    have hn := runsK_succ (f := labO neB was is w y) hlt
    have l1 := runsK_len (f := labO neB was is w y) (xs := xs) k
    have hr1 := rowI hlt1
    have hr2 := rowI hlt
    have hr2' : AM.rowAt 1 (ints xs) ((k : Int) + 1) = [.sc (.int .i64 xs[k + 1])] := by simpa using hr2
    have hb2 := hxr _ (List.getElem_mem hlt)
    have wm : IntKind.i64.wrap (xs[k + 1] - 1) = xs[k + 1] - 1 := by rw [wrap_i64] <;> omega
    have hw1 : opK (labO neB was is w y) xs (k + 1) = (labO neB was is w y xs[k]).isSome := by simp [opK, hlt1]
    have hfin : ∀ s b, runsK (labO neB was is w y) xs (k + 1) = s → opK (labO neB was is w y) xs (k + 1) = b → RdI was is w xs y (k + 1) [(0, .v (slU was)), (1, .v (slU is)), (3, .v (slI xs)), (4, .v (.sc (.int .i64 y))), (7, .v (.ptr 0 0)),
        (11, ownCD (s.map (rect y y))), (12, .v (.sc (.bool b))), (13, .v (.sc (.int .i64 (k + 1 : Nat))))] H := fun s b e e' => by
      rw [RdI, e, e']
      exact ⟨hst, rfl⟩
    have hwas : opK (labO neB was is w y) xs k = true → ∃ R' r, runsK (labO neB was is w y) xs k = R' ++ [r] ∧ r.b + 1 = xs[k] := fun hw => by
      cases k with
      | zero => cases hw
      | succ j =>
        have hj : j < xs.length := by omega
        simp only [opK, List.getElem?_eq_getElem hj] at hw
        obtain ⟨z, hz⟩ := Option.isSome_iff_exists.1 hw
        obtain ⟨R', r, e1, e2, _⟩ := runsK_prev' hlt1 hz
        exact ⟨R', r, e1, e2⟩
    have hnot : opK (labO neB was is w y) xs k = false → ∀ R' r, runsK (labO neB was is w y) xs k = R' ++ [r] → r.b + 1 = xs[k] → False := fun hw R' r e hb => by
      obtain ⟨j, hj, rfl, e2⟩ := (runsK_end hs hlt1 e).2 hb
      simp only [opK, List.getElem?_eq_getElem hj, e2] at hw
      cases hw
    have hlab : labO neB was is w y xs[k] = if neB (zoomR was w.ro w.ti w.la ⟨xs[k], y⟩) (zoomR is w.ro w.ti w.la ⟨xs[k], y⟩) then some (zoomR was w.ro w.ti w.la ⟨xs[k], y⟩, zoomR is w.ro w.ti w.la ⟨xs[k], y⟩) else none := rfl
    have hZk := hZ xs[k]
    have hZk' := hZ' xs[k]
    unfold Can.step at hn
    rw [hlab] at hn hw1
    generalize opK (labO neB was is w y) xs k = was0 at *
    generalize runsK (labO neB was is w y) xs k = R at *
    generalize zoomR was w.ro w.ti w.la ⟨xs[k], y⟩ = za at *
    generalize zoomR is w.ro w.ti w.la ⟨xs[k], y⟩ = zb at *
    simp [slI, ownCD, w1, hlt2, hlt3, hlt1, hr1, h0]
    refine callK.pure hZk (by simp [V.closedL, V.closed, c1]) rfl ?_
    simp [slI, ownCD, w1, hlt2, hlt3, hlt1, hr1, h0]
    refine callK.pure hZk' (by simp [V.closedL, V.closed, c2]) rfl ?_
    by_cases hab : za = zb
    · have hq : neB za zb = false := by simp [neB, hab]
      have hab' : (za == zb) = true := by simpa using hab
      rw [hq] at hn hw1
      simp at hn hw1
      simp [hab', w1]
      refine ⟨by omega, _, ?_, hfin _ _ hn hw1⟩
      simp [subW, weakV, getF, slI, ownCD]
    · have hq : neB za zb = true := by simp [neB, hab]
      have hab' : (za == zb) = false := by simpa using hab
      rw [hq] at hn hw1
      simp only [if_true, Option.isSome_some] at hn hw1
      cases was0 with
      | false =>
        have hp := push_fresh (R := R) (n := xs[k]) (m := xs[k + 1]) (z := (za, zb)) (fun R' r e h1 _ => hnot rfl R' r e h1)
        rw [hp] at hn
        simp [slI, ownCD, w1, wm, hab', hlt2, hlt3, hlt1, hr1, hr2', hk0]
        refine ⟨⟨by omega, by omega⟩, by omega, _, ?_, hfin _ _ hn hw1⟩
        simp [subW, weakV, getF, slI, ownCD, ccs, rect]
      | true =>
        obtain ⟨R', r, rfl, hrb⟩ := hwas rfl
        rw [List.length_append, List.length_singleton] at l1
        have wl : IntKind.i64.wrap (((R' ++ [r]).length : Int) - 1) = (R'.length : Int) := by
          rw [List.length_append, List.length_singleton, wrap_i64] <;> omega
        have hm1 : (R' ++ [r]).map (rect y y) = R'.map (rect y y) ++ [rect y y r] := by simp
        have hl1 := lastAtC (R := R'.map (rect y y)) (q := rect y y r) 4 (by decide)
        have hl2 := lastAtC (R := R'.map (rect y y)) (q := rect y y r) 5 (by decide)
        rw [← hm1, List.length_map] at hl1 hl2
        have hl1 : (((R' ++ [r]).map (rect y y)).flatMap ccs)[R'.length * 6 + 4]? = some (.sc (.int .i64 r.z.1)) := hl1
        have hl2 : (((R' ++ [r]).map (rect y y)).flatMap ccs)[R'.length * 6 + 5]? = some (.sc (.int .i64 r.z.2)) := hl2
        have hlen : R'.length < (R' ++ [r]).length := by simp
        have hl0 : (R' ++ [r]).length = R'.length + 1 := by simp
        have hfl := flat_len' (enc := ccs) (sz := 6) (fun _ => rfl) ((R' ++ [r]).map (rect y y))
        rw [List.length_map] at hfl
        by_cases hz1 : r.z.1 = za
        · by_cases hz2 : r.z.2 = zb
          · have hrz : r.z = (za, zb) := Prod.ext hz1 hz2
            rw [push_more hrb hrz] at hn
            have hz1' : (r.z.1 == za) = true := by simpa using hz1
            have hz2' : (r.z.2 == zb) = true := by simpa using hz2
            have hpk := poke_cx1 (R := R'.map (rect y y)) (q := rect y y r) (v := xs[k + 1] - 1)
            have hm2 : (R' ++ [(⟨r.a, xs[k + 1] - 1, (za, zb)⟩ : Run (Int × Int))]).map (rect y y) = R'.map (rect y y) ++ [⟨(rect y y r).x0, (rect y y r).y0, xs[k + 1] - 1, (rect y y r).y1, (rect y y r).z⟩] := by simp [rect, hrz]
            rw [← hm1, ← hm2, List.length_map] at hpk
            have hnl : (R' ++ [r]).length = (R' ++ [(⟨r.a, xs[k + 1] - 1, (za, zb)⟩ : Run (Int × Int))]).length := by simp
            clear hm1 hm2 hnot hwas
            generalize R' ++ [r] = R1 at *
            generalize R' ++ [(⟨r.a, xs[k + 1] - 1, (za, zb)⟩ : Run (Int × Int))] = R2 at *
            simp [slI, ownCD, w1, wm, wl, hab', hlt2, hlt3, hlt1, hr1, hr2', hk0, hl1, hl2, hlen, hz1', hz2']
            refine ⟨by simp at hfl; omega, by omega, _, ?_, hfin _ _ hn hw1⟩
            simp [subW, weakV, getF, slI, ownCD, ← hpk, hnl]
            rw [List.set_eq_take_append_cons_drop, if_pos (by rw [hfl]; omega)]
          · have hz1' : (r.z.1 == za) = true := by simpa using hz1
            have hz2' : (r.z.2 == zb) = false := by simpa using hz2
            have hp := push_fresh (R := R' ++ [r]) (n := xs[k]) (m := xs[k + 1]) (z := (za, zb)) (fun A s e _ h2 => by
              obtain ⟨_, rfl⟩ := app_last e
              exact hz2 (by rw [h2]))
            rw [hp] at hn
            clear hm1 hnot hwas
            generalize R' ++ [r] = R1 at *
            simp [slI, ownCD, w1, wm, wl, hab', hlt2, hlt3, hlt1, hr1, hr2', hk0, hl1, hl2, hlen, hz1', hz2']
            refine ⟨⟨by omega, by omega⟩, by omega, _, ?_, hfin _ _ hn hw1⟩
            simp [subW, weakV, getF, slI, ownCD, ccs, rect]
        · have hz1' : (r.z.1 == za) = false := by simpa using hz1
          have hp := push_fresh (R := R' ++ [r]) (n := xs[k]) (m := xs[k + 1]) (z := (za, zb)) (fun A s e _ h2 => by
            obtain ⟨_, rfl⟩ := app_last e
            exact hz1 (by rw [h2]))
          rw [hp] at hn
          clear hm1 hnot hwas
          generalize R' ++ [r] = R1 at *
          simp [slI, ownCD, w1, wm, wl, hab', hlt2, hlt3, hlt1, hr1, hr2', hk0, hl1, hlen, hz1']
          refine ⟨⟨by omega, by omega⟩, by omega, _, ?_, hfin _ _ hn hw1⟩
          simp [subW, weakV, getF, slI, ownCD, ccs, rect]
  · have hk' : k = xs.length - 1 := by omega
    have hlt2 : ¬ (k : Int) + 1 < xs.length := by omega
    simp [slI, w1, hlt2, ownCD]
    unfold rowOf slC
    rw [← hk']
    simp
end Go.Proofs.Ytbcfoakceloenaa
