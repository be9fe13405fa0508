/- Grant: the document. -/
import Derived.Test.YtmkeeghjpdnknaaKd
import Derived.Test.YtmkeeghjpdnknaaWf1
import Derived.Test.YtmkeeghjpdnknaaBf
import Derived.Test.YtmkeeghjpdnknaaKa
import Derived.Test.YtmkeeghjpdnknaaKi1
namespace Go.Proofs.Ytmkeeghjpdnknaa
set_option linter.all false
open Go.RowKit AM Can
set_option maxRecDepth 10000
attribute [local simp] aw_skip' aw_region' aw_seq' aw_cond' aw_block' aw_loop' aw_exit' aw_label' aw_ret' aops_nil' aops_cons' aop' aMove aAssign aPick aAlloc aBox aBuild slF aBuildSlice aLoad aLoadOwn aStore aStoreOwn isOwn delR aNilCheck aBin aMakeFunc aFieldAddr aField aIndexAddr aExtract aSliceOp aSlice aCallOp aCall' aLen aLenMap aDelete aMM aUn aConv aIface aAssert aMakeMap aLookup aMapUpdate aRange aNext aEntry entsOf keyB seekK aMakeSlice lookV aAppend putK layK eval evalV AM.valOf getF putF setF del SV.refers cellsAt rootSV plains shift ldV V.exact V.exactL V.ofValue V.ofPart V.ofCell V.cells V.one Value.oneCell' fitB qSeq qBlock getB afin aret resVs resV resTmps shareF evalS tupV valsS valsV pickV calm calmB lenV useOf feeds looks isT newsV partsV fillV putAt zerosV fitsNil nilB sliceB isEq isNeq awx_skip' awx_region' awx_seq' awx_cond' awx_block' awx_loop' awx_exit' awx_label' awx_ret' xops_nil' xops_cons' xop' xload xcall' addO delO inO putD memB Mix.effB Mix.laysB keysF badK subW weakV zeroRow yops_nil' yops_cons' yop' yload yindex yfield ylen oldO dropO takeO oldL exactB
attribute [local simp] awz_skip' awz_region' awz_seq' awz_cond' awz_block' awz_loop' awz_exit' awz_label' awz_ret' zops_nil' zops_cons' zop' zload zcall' z0 new0 remF old0 dltB

/-! ## Zooms are small -/
theorem allow_ge {q : Ru → Bool} : ∀ (l : List Ru) (z : Int), 0 ≤ z → 0 ≤ l.foldl (allowS q) z
  | [], z, h => h
  | r :: l, z, h => by
    rw [List.foldl_cons]
    apply allow_ge l
    unfold allowS
    split
    · omega
    · exact h
theorem cap_range {q : Ru → Bool} : ∀ (l : List Ru) (z : Int), (∀ r ∈ l, q r = true → 0 ≤ r.zoom) → 0 ≤ z → z ≤ 16 → 0 ≤ l.foldl (capS q) z ∧ l.foldl (capS q) z ≤ 16
  | [], z, _, h0, h1 => ⟨h0, h1⟩
  | r :: l, z, h, h0, h1 => by
    rw [List.foldl_cons]
    have hz := h r (by simp)
    apply cap_range l _ fun r hr => h r (by simp [hr])
    all_goals
      unfold capS
      split
      · rename_i hc
        have := hz hc.2.2
        omega
      · assumption
theorem ruRight_zoom {r : Ru} (h : ruRight r = true) : 0 ≤ r.zoom ∧ r.zoom ≤ 16 := by
  unfold ruRight smallN at h
  split at h
  · simp at h
    omega
  · simp at h
    omega
theorem for2_right {r : Ru} {ro ti la : Int} {p : Pt} (h : for2U ro ti la p r = true) : ruRight r = true := by
  unfold for2U forU at h
  simp at h
  exact h.1.1.1.1.1.1.1
theorem zoomR_range (l : List Ru) (ro ti la : Int) (p : Pt) : 0 ≤ zoomR l ro ti la p ∧ zoomR l ro ti la p ≤ 16 := by
  unfold zoomR
  split
  · unfold zoomD
    have h1 := allow_ge (q := for2U ro ti la p) l 0 (by decide)
    have h2 := allow_le (q := for2U ro ti la p) l 0 (M := 16) (fun r _ hq => (ruRight_zoom (for2_right hq)).2) (by decide)
    exact cap_range l _ (fun r _ hq => (ruRight_zoom (for2_right hq)).1) h1 h2
  · omega
/-- The label of a point, by the document. -/
def labR (l : List Ru) (ro ti la : Int) (y x : Int) : Option Int := labZ (zoomR l ro ti la ⟨x, y⟩)
theorem labZ_some {n z : Int} (h : labZ n = some z) : n = z ∧ z ≠ 0 := by
  unfold labZ at h
  split at h
  · cases h
  · cases h; exact ⟨rfl, by assumption⟩
/-! ## Runs of a row -/
theorem runsK_prev {f : Int → Option Int} {xs : List Int} {k : Nat} (h : k + 1 < xs.length) {z : Int} (hz : f xs[k] = some z) : ∃ R' r, runsK f xs (k + 1) = R' ++ [r] ∧ r.b + 1 = xs[k + 1] ∧ r.z = z := by
  rw [runsK_succ h]
  unfold Can.step
  rw [hz]
  simp only
  obtain ⟨R', a, e⟩ := push_last (R := runsK f xs k) (n := xs[k]) (m := xs[k + 1]) (z := z)
  exact ⟨R', _, e, by simp only; omega, rfl⟩
def wasK (l : List Ru) (ro ti la y : Int) (xs : List Int) : Nat → Int
  | 0 => 0
  | k + 1 => zoomR l ro ti la ⟨xs.getD k 0, y⟩
def rowD (l : List Ru) (ro ti la : Int) (xs : List Int) (y : Int) : List (Run Int) := runsK (labR l ro ti la y) xs (xs.length - 1)
theorem rowD_len (l : List Ru) (ro ti la : Int) (xs : List Int) (y : Int) : (rowD l ro ti la xs y).length ≤ xs.length := by
  have := runsK_len (f := labR l ro ti la y) (xs := xs) (xs.length - 1)
  unfold rowD
  omega
def setX1P (v : Int) (q : Rc Int) : Rc Int := { q with x1 := v }
theorem poke_x1 {R : List (Rc Int)} {q : Rc Int} {v : Int} : ((R ++ [q]).flatMap pcs).set (R.length * 5 + 2) (.sc (.int .i64 v)) = (R ++ [(⟨q.x0, q.y0, v, q.y1, q.z⟩ : Rc Int)]).flatMap pcs := by
  have := flat_mod (enc := pcs) (sz := 5) (o := 2) (v := .sc (.int .i64 v)) (f := setX1P v) (fun _ => rfl) (by decide) (fun _ => rfl) (k := R.length) (xs := R ++ [q]) (by simp)
  rw [this, modN_last]
  rfl
def RwI (l : List Ru) (ro ti la : Int) (xs : List Int) (y : Int) (k : Nat) (F : Fr) (H : List Bk) : Prop := F = [(0, .v (slU l)), (1, .v (.sc (.int .i64 ro))), (2, .v (.sc (.int .i64 ti))), (3, .v (.sc (.int .i64 la))), (4, .v (slI xs)), (5, .v (.sc (.int .i64 y))),
  (13, ownP ((runsK (labR l ro ti la y) xs k).map (rect y y))), (14, .v (.sc (.int .i64 (wasK l ro ti la y xs k)))), (15, .v (.sc (.int .i64 k)))]
set_option maxHeartbeats 4000000 in
theorem refRow (l : List Ru) (ro ti la : Int) (xs : List Int) (y : Int) (hl : l.length ≤ 9223372036854775807) (hb : ∀ r ∈ l, r.boxes.length ≤ 9223372036854775807) (hx : xs.length ≤ 10000000) (hxr : ∀ x ∈ xs, 0 ≤ x ∧ x ≤ 65536) (hs : xs.Pairwise (· < ·)) :
    PFn Try.prog 52 [slU l, .sc (.int .i64 ro), .sc (.int .i64 ti), .sc (.int .i64 la), slI xs, .sc (.int .i64 y)] (slP ((rowD l ro ti la xs y).map (rect y y))) := by
  have hZ := fun p => refZoom l ro ti la p hl hb
  have c1 := slU_closed l
  unfold Pt.v Pt.cs at hZ
  refine AFn.intro (fn := Try.f52) (by kernel_rfl) rfl (by kernel_rfl) (by simp) (AW.ofx [] mixed (by kernel_rfl) ?_)
  simp only [Try.f52, argsF]
  simp
  refine AW.count (xs.length - 1) (RwI l ro ti la xs y) ⟨_, ?_, rfl⟩ ?_
  · simp [subW, weakV, getF, runsK, ownP, zeroRow, wasK]
  rintro k F H hk rfl
  refine AW.ofx [] mixed (by kernel_rfl) ?_
  have w1 : IntKind.i64.wrap ((k : Int) + 1) = (k : Int) + 1 := by rw [wrap_i64] <;> omega
  by_cases hlt : k + 1 < xs.length
  · have hlt1 : k < xs.length := by omega
    have hlt2 : (k : Int) + 1 < xs.length := by omega
    have hlt3 : (k : Int) < xs.length := by omega
    have hn := runsK_succ (f := labR l ro ti la y) hlt
    have l1 := runsK_len (f := labR l ro ti la y) (xs := xs) k
    have hr1 := rowI hlt1
    have hr2 := rowI hlt
    have hr2' : AM.rowAt 1 (ints xs) ((k : Int) + 1) = [.sc (.int .i64 xs[k + 1])] := by simpa using hr2
    have hb2 := hxr _ (List.getElem_mem hlt)
    have wm : IntKind.i64.wrap (xs[k + 1] - 1) = xs[k + 1] - 1 := by rw [wrap_i64] <;> omega
    have hw1 : wasK l ro ti la y xs (k + 1) = zoomR l ro ti la ⟨xs[k], y⟩ := by simp [wasK, hlt1]
    have hfin : ∀ s, runsK (labR l ro ti la y) xs (k + 1) = s → RwI l ro ti la xs y (k + 1) [(0, .v (slU l)), (1, .v (.sc (.int .i64 ro))), (2, .v (.sc (.int .i64 ti))), (3, .v (.sc (.int .i64 la))), (4, .v (slI xs)), (5, .v (.sc (.int .i64 y))),
        (13, ownP (s.map (rect y y))), (14, .v (.sc (.int .i64 (zoomR l ro ti la ⟨xs[k], y⟩)))), (15, .v (.sc (.int .i64 (k + 1 : Nat))))] H := fun s e => by
      rw [RwI, e, hw1]
    have hwas : ∀ z, z ≠ 0 → wasK l ro ti la y xs k = z → ∃ R' r, runsK (labR l ro ti la y) xs k = R' ++ [r] ∧ r.b + 1 = xs[k] ∧ r.z = z := fun z hz hw => by
      cases k with
      | zero => exact absurd hw.symm hz
      | succ j =>
        have hj : j < xs.length := by omega
        have e : labR l ro ti la y xs[j] = some z := by
          simp [wasK, hj] at hw
          unfold labR labZ
          rw [hw, if_neg hz]
        exact runsK_prev hlt1 e
    have hnot : ∀ z, wasK l ro ti la y xs k ≠ z → ∀ R' r, runsK (labR l ro ti la y) xs k = R' ++ [r] → r.b + 1 = xs[k] → r.z ≠ z := fun z hw R' r e hb he => by
      obtain ⟨j, hj, rfl, e2⟩ := (runsK_end hs hlt1 e).2 hb
      have := (labZ_some e2).1
      apply hw
      simp [wasK, hj, this, he]
    have hzr := zoomR_range l ro ti la ⟨xs[k], y⟩
    generalize wasK l ro ti la y xs k = was at *
    generalize runsK (labR l ro ti la y) xs k = R at *
    simp [slI, ownP, w1, hlt2, hlt3, hlt1, hr1]
    refine callK.pure (hZ ⟨xs[k], y⟩) (by simp [V.closedL, V.closed, c1]) rfl ?_
    have hlab : labR l ro ti la y xs[k] = labZ (zoomR l ro ti la ⟨xs[k], y⟩) := rfl
    unfold Can.step at hn
    rw [hlab] at hn
    generalize zoomR l ro ti la ⟨xs[k], y⟩ = z at *
    by_cases h0 : z = 0
    · have e : labZ z = none := by simp [labZ, h0]
      rw [e] at hn
      simp [w1, h0]
      refine ⟨by omega, _, ?_, hfin _ hn⟩
      simp [subW, weakV, getF, slI, ownP, h0]
    · have hz : 0 < z := by omega
      have e : labZ z = some z := by simp [labZ, h0]
      rw [e] at hn
      simp only at hn
      by_cases hw : was = z
      · obtain ⟨R', r, rfl, hrb, hrz⟩ := hwas z h0 hw
        rw [push_more hrb hrz] at hn
        rw [List.length_append, List.length_singleton] at l1
        have wl : IntKind.i64.wrap (((R' ++ [r]).length : Int) - 1) = (R'.length : Int) := by
          rw [List.length_append, List.length_singleton, wrap_i64] <;> omega
        have hpk := poke_x1 (R := R'.map (rect y y)) (q := rect y y r) (v := xs[k + 1] - 1)
        have hm1 : (R' ++ [r]).map (rect y y) = R'.map (rect y y) ++ [rect y y r] := by simp
        have hm2 : (R' ++ [(⟨r.a, xs[k + 1] - 1, z⟩ : Run Int)]).map (rect y y) = R'.map (rect y y) ++ [⟨(rect y y r).x0, (rect y y r).y0, xs[k + 1] - 1, (rect y y r).y1, (rect y y r).z⟩] := by simp [rect, hrz]
        have hlen : R'.length < (R' ++ [r]).length := by simp
        rw [← hm1, ← hm2, List.length_map] at hpk
        have hfl := flat_len' (enc := pcs) (sz := 5) (fun _ => rfl) ((R' ++ [r]).map (rect y y))
        have hl2 : (R' ++ [r]).length = (R' ++ [(⟨r.a, xs[k + 1] - 1, z⟩ : Run Int)]).length := by simp
        clear hm1 hm2 hnot hwas
        rw [List.length_map] at hfl
        generalize hR1 : R' ++ [r] = R1 at *
        generalize hR2 : R' ++ [(⟨r.a, xs[k + 1] - 1, z⟩ : Run Int)] = R2 at *
        simp [slI, ownP, w1, wl, hz, hw, hlen, hlt2, hlt3, hlt1, hr1, hr2', wm]
        refine ⟨by omega, by simp at hfl; omega, by omega, _, ?_, hfin _ hn⟩
        simp [subW, weakV, getF, slI, ownP, ← hpk, hl2]
        rw [List.set_eq_take_append_cons_drop, if_pos (by rw [hfl]; omega)]
      · have hq := push_fresh (R := R) (n := xs[k]) (m := xs[k + 1]) (z := z) (hnot z hw)
        rw [hq] at hn
        have hw' : (z == was) = false := by simp; omega
        have hw2 : (z != was) = true := by simp; omega
        simp [slI, ownP, w1, hz, hw', hw2, hlt2, hlt3, hlt1, hr1, hr2', wm]
        refine ⟨by omega, by omega, by omega, _, ?_, hfin _ hn⟩
        simp [subW, weakV, getF, slI, ownP, pcs, rect]
  · have hk' : k = xs.length - 1 := by omega
    have hlt2 : ¬ (k : Int) + 1 < xs.length := by omega
    simp [slI, w1, hlt2, ownP]
    unfold rowD slP
    rw [← hk']
    simp
/-! ## Rows that are alike -/
def ends3 (q : Rc Int) : Int × Int × Int := (q.x0, q.x1, q.z)
def AkI (xs ys : List (Rc Int)) (k : Nat) (F : Fr) (H : List Bk) : Prop := (xs.take k).map ends3 = (ys.take k).map ends3 ∧ F = [(0, .v (slP xs)), (1, .v (slP ys)), (5, .v (.sc (.int .i64 k)))]
set_option maxHeartbeats 4000000 in
theorem refAlikeP (xs ys : List (Rc Int)) (hx : xs.length ≤ 1000000000) : PFn Try.prog 53 [slP xs, slP ys] (.sc (.bool (decide (xs.map ends3 = ys.map ends3)))) := by
  refine AFn.intro (fn := Try.f53) (by kernel_rfl) rfl (by kernel_rfl) (by simp) (AW.ofx [] mixed (by kernel_rfl) ?_)
  simp only [Try.f53, argsF]
  simp [slP]
  by_cases hl : xs.length = ys.length
  · simp [slP, hl]
    refine AW.count xs.length (AkI xs ys) ⟨_, ?_, by simp, rfl⟩ ?_
    · simp [subW, weakV, getF, slP, hl]
    rintro k F H hk ⟨ht, rfl⟩
    refine AW.ofx [] mixed (by kernel_rfl) ?_
    by_cases hlt : k < xs.length
    · have hlt' : k < ys.length := by omega
      have w1 : IntKind.i64.wrap ((k : Int) + 1) = (k : Int) + 1 := by rw [wrap_i64] <;> omega
      have hno : ends3 xs[k] ≠ ends3 ys[k] → ¬ xs.map ends3 = ys.map ends3 := fun hne e' => by
        have h1 : (xs.map ends3)[k]? = (ys.map ends3)[k]? := by rw [e']
        simp [hlt, hlt'] at h1
        exact hne h1
      simp [slP, hlt, hlt', rowP, w1]
      by_cases e0 : xs[k].x0 = ys[k].x0
      · by_cases e1 : xs[k].x1 = ys[k].x1
        · by_cases e2 : xs[k].z = ys[k].z
          · simp [slP, hlt, hlt', rowP, w1, e0, e1, e2]
            refine ⟨_, ?_, ?_, rfl⟩
            · simp [subW, weakV, getF, slP]
            · rw [List.take_succ_eq_append_getElem hlt, List.take_succ_eq_append_getElem hlt', List.map_append, List.map_append, ht]
              simp [ends3, e0, e1, e2]
          · have e2' : (xs[k].z != ys[k].z) = true := by simpa using e2
            have := hno (fun e => e2 (congrArg (fun p => p.2.2) e))
            simp [slP, hlt, hlt', rowP, w1, e0, e1, e2', this]
        · have e1' : (xs[k].x1 != ys[k].x1) = true := by simpa using e1
          have := hno (fun e => e1 (congrArg (fun p => p.2.1) e))
          simp [slP, hlt, hlt', rowP, w1, e0, e1', this]
      · have e0' : (xs[k].x0 != ys[k].x0) = true := by simpa using e0
        have := hno (fun e => e0 (congrArg Prod.fst e))
        simp [slP, hlt, hlt', rowP, w1, e0', this]
    · have hk' : k = xs.length := by omega
      have he : xs.map ends3 = ys.map ends3 := by
        rw [hk', List.take_length, hl, List.take_length] at ht
        exact ht
      simp [slP, hlt, he]
  · have : ¬ xs.map ends3 = ys.map ends3 := fun e => hl (by simpa using congrArg List.length e)
    have hl' : ((xs.length : Int) != ys.length) = true := by simp; omega
    simp [hl', this]
/-! ## Patches that are the same -/
theorem eqPa (a b c d e a' b' c' d' e' : Int) : eqT Try.prog 10 37 (.agg #[.int .i64 a, .int .i64 b, .int .i64 c, .int .i64 d, .int .i64 e]) (.agg #[.int .i64 a', .int .i64 b', .int .i64 c', .int .i64 d', .int .i64 e']) = some ((a == a' && (b == b' && (c == c' && (d == d' && true)))) && (e == e' && true)) := by kernel_rfl
theorem gPa : Try.prog.eqGuardType Try.prog.depth 37 = false := by kernel_rfl
theorem pa_eq {a b : Rc Int} : a = b ↔ a.x0 = b.x0 ∧ a.y0 = b.y0 ∧ a.x1 = b.x1 ∧ a.y1 = b.y1 ∧ a.z = b.z := by
  cases a; cases b; simp
def SmI (xs ys : List (Rc Int)) (k : Nat) (F : Fr) (H : List Bk) : Prop := xs.take k = ys.take k ∧ F = [(0, .v (slP xs)), (1, .v (slP ys)), (5, .v (.sc (.int .i64 k)))]
set_option maxHeartbeats 4000000 in
theorem refSameP (xs ys : List (Rc Int)) (hx : xs.length ≤ 1000000000000) : PFn Try.prog 23 [slP xs, slP ys] (.sc (.bool (decide (xs = ys)))) := by
  refine AFn.intro (fn := Try.f23) (by kernel_rfl) rfl (by kernel_rfl) (by simp) (AW.ofx [] mixed (by kernel_rfl) ?_)
  simp only [Try.f23, argsF]
  simp [slP]
  by_cases hl : xs.length = ys.length
  · simp [slP, hl]
    refine AW.count xs.length (SmI xs ys) ⟨_, ?_, by simp, rfl⟩ ?_
    · simp [subW, weakV, getF, slP, hl]
    rintro k F H hk ⟨ht, rfl⟩
    refine AW.ofx [] mixed (by kernel_rfl) ?_
    by_cases hlt : k < xs.length
    · have hlt' : k < ys.length := by omega
      have w1 : IntKind.i64.wrap ((k : Int) + 1) = (k : Int) + 1 := by rw [wrap_i64] <;> omega
      simp [slP, hlt, hlt', rowP, eqPa, gPa, w1]
      refine gd.intro (fun e => ?_) (fun e => ?_)
      · have : ¬ xs = ys := fun e' => by
          subst e'
          simp at e
        simp [this]
      · have he : xs[k] = ys[k] := by
          rw [pa_eq]
          simp at e
          grind
        refine ⟨_, ?_, ?_, rfl⟩
        · simp [subW, weakV, getF, slP, hl]
        · rw [List.take_succ_eq_append_getElem hlt, List.take_succ_eq_append_getElem hlt', ht, he]
    · have hk' : k = xs.length := by omega
      have he : xs = ys := by
        rw [hk', List.take_length, hl, List.take_length] at ht
        exact ht
      have hlt' : ¬ k < ys.length := by omega
      simp [slP, hlt, hlt', he]
  · have : ¬ xs = ys := fun e => hl (by rw [e])
    have hl' : ((xs.length : Int) != ys.length) = true := by simp; omega
    simp [hl', this]
end Go.Proofs.Ytmkeeghjpdnknaa
namespace Go.Proofs.Ytmkeeghjpdnknaa
set_option linter.all false
open Go.RowKit AM Can
set_option maxRecDepth 10000
attribute [local simp] aw_skip' aw_region' aw_seq' aw_cond' aw_block' aw_loop' aw_exit' aw_label' aw_ret' aops_nil' aops_cons' aop' aMove aAssign aPick aAlloc aBox aBuild slF aBuildSlice aLoad aLoadOwn aStore aStoreOwn isOwn delR aNilCheck aBin aMakeFunc aFieldAddr aField aIndexAddr aExtract aSliceOp aSlice aCallOp aCall' aLen aLenMap aDelete aMM aUn aConv aIface aAssert aMakeMap aLookup aMapUpdate aRange aNext aEntry entsOf keyB seekK aMakeSlice lookV aAppend putK layK eval evalV AM.valOf getF putF setF del SV.refers cellsAt rootSV plains shift ldV V.exact V.exactL V.ofValue V.ofPart V.ofCell V.cells V.one Value.oneCell' fitB qSeq qBlock getB afin aret resVs resV resTmps shareF evalS tupV valsS valsV pickV calm calmB lenV useOf feeds looks isT newsV partsV fillV putAt zerosV fitsNil nilB sliceB isEq isNeq awx_skip' awx_region' awx_seq' awx_cond' awx_block' awx_loop' awx_exit' awx_label' awx_ret' xops_nil' xops_cons' xop' xload xcall' addO delO inO putD memB Mix.effB Mix.laysB keysF badK subW weakV zeroRow yops_nil' yops_cons' yop' yload yindex yfield ylen oldO dropO takeO oldL exactB
attribute [local simp] awz_skip' awz_region' awz_seq' awz_cond' awz_block' awz_loop' awz_exit' awz_label' awz_ret' zops_nil' zops_cons' zop' zload zcall' z0 new0 remF old0 dltB

def BoA (l : List Ru) (k : Nat) (F : Fr) (H : List Bk) : Prop := F = [(0, .v (slU l)), (3, ownR (boxesU (l.take k))), (4, .v (.sc (.int .i64 k)))]
def BoB (l : List Ru) (k : Nat) (c : List Re) (j : Nat) (F : Fr) (H : List Bk) : Prop := F = [(0, .v (slU l)), (3, ownR (boxesU (l.take k) ++ c.take j)), (4, .v (.sc (.int .i64 k))), (5, .v (.sc (.int .i64 j)))]
set_option maxHeartbeats 4000000 in
theorem refBoxes (l : List Ru) (hl : l.length ≤ 1000000) (hn : (boxesU l).length ≤ 1048576) : PFn Try.prog 43 [slU l] (slR (boxesU l)) := by
  refine AFn.intro (fn := Try.f43) (by kernel_rfl) rfl (by kernel_rfl) (by simp) (AW.ofx [] mixed (by kernel_rfl) ?_)
  simp only [Try.f43, argsF]
  simp [slU]
  refine AW.count l.length (BoA l) ⟨_, ?_, rfl⟩ ?_
  · simp [subW, weakV, getF, slU, ownR, zeroRow, boxesU]
  rintro k F H hk rfl
  refine AW.ofx [] mixed (by kernel_rfl) ?_
  have w1 : IntKind.i64.wrap ((k : Int) + 1) = (k : Int) + 1 := by rw [wrap_i64] <;> omega
  by_cases hlt : k < l.length
  · have hrow := rowU hlt
    have hst := boxesU_take hlt
    have hpre := boxesU_take_len l (k + 1)
    rw [hst, List.length_append] at hpre
    generalize hc : l[k].boxes = c at *
    simp [slU, ownR, hlt, hrow]
    refine AW.count c.length (BoB l k c) ⟨_, ?_, rfl⟩ ?_
    · simp [subW, weakV, getF, slU, ownR]
    rintro j F H2 hj rfl
    refine AW.ofx [] mixed (by kernel_rfl) ?_
    unfold slR at hrow
    by_cases hjl : j < c.length
    · have w2 : IntKind.i64.wrap ((j : Int) + 1) = (j : Int) + 1 := by rw [wrap_i64] <;> omega
      have hrj := rowR hjl
      have hlo : (boxesU (l.take k) ++ c.take j).length ≤ 1048576 := by
        rw [List.length_append, List.length_take]
        omega
      have hsj : boxesU (l.take k) ++ c.take (j + 1) = boxesU (l.take k) ++ c.take j ++ [c[j]] := by rw [List.take_succ_eq_append_getElem hjl, List.append_assoc]
      generalize hgo : boxesU (l.take k) ++ c.take j = o at *
      simp [slU, slR, ownR, hlt, hrow, hjl, hrj, w2]
      refine ⟨by omega, _, ?_, rfl⟩
      rw [hsj]
      simp [subW, weakV, getF, slU, ownR, Re.cs]
    · have hjj : j = c.length := by omega
      subst hjj
      rw [List.take_length, ← hst]
      simp [slU, slR, ownR, hlt, hrow, w1]
      refine ⟨_, ?_, rfl⟩
      simp [subW, weakV, getF, slU, ownR]
  · have hk2 : k = l.length := by omega
    subst hk2
    rw [List.take_length]
    simp [slU, slR, ownR]
/-! ## Patches -/
def setY1P (v : Int) (q : Rc Int) : Rc Int := { q with y1 := v }
def outD (R : Int → List (Run Int)) (ys : List Int) (k : Nat) : List (Rc Int) := emit (runsK (bandF R) ys k)
/-- The document's patches. -/
def patR (l : List Ru) (ro ti la : Int) : List (Rc Int) := outD (rowD l ro ti la (edgesR (boxesU l) false)) (edgesR (boxesU l) true) ((edgesR (boxesU l) true).length - 1)
theorem ends3_row (y0 y1 : Int) (R : List (Run Int)) : (R.map (rect y0 y1)).map ends3 = R.map fun r => (r.a, r.b, r.z) := by simp [ends3, rect]
theorem runs_inj : ∀ {R S : List (Run Int)}, (R.map fun r => (r.a, r.b, r.z)) = (S.map fun r => (r.a, r.b, r.z)) → R = S
  | [], [], _ => rfl
  | [], _ :: _, h => by simp at h
  | _ :: _, [], h => by simp at h
  | r :: R, s :: S, h => by
    simp only [List.map_cons, List.cons.injEq, Prod.mk.injEq] at h
    obtain ⟨⟨h1, h2, h4⟩, h3⟩ := h
    cases r; cases s
    simp only at h1 h2 h4
    subst h1 h2 h4
    rw [runs_inj h3]
theorem edges_in {l : List Re} (hr : ∀ b ∈ l, rightR b = true) (d : Bool) : ∀ x ∈ edgesR l d, 0 ≤ x ∧ x ≤ 65536 := fun x hx => by
  rcases ((edgesR_spec l d).2 x).1 hx with rfl | rfl | ⟨r, hr', h⟩
  · omega
  · omega
  · have := rightR_iff.1 (hr _ hr')
    unfold lo hi at h
    cases d <;> simp at h <;> omega
def lin (l : List Ru) (ro ti la : Int) (xs : List Int) (y : Int) : List (Rc Int) := (rowD l ro ti la xs y).map (rect y y)
def PoI (l : List Ru) (ro ti la : Int) (xs ys : List Int) (n : Nat) (F : Fr) (H : List Bk) : Prop := ∃ i, ∃ hi : i < ys.length, n = ys.length - i ∧ (∀ j, ∀ hj : j < ys.length, i = j + 1 → i + 1 < ys.length → rowD l ro ti la xs ys[j] ≠ rowD l ro ti la xs ys[i]) ∧
  F = [(0, .v (slU l)), (1, .v (.sc (.int .i64 ro))), (2, .v (.sc (.int .i64 ti))), (3, .v (.sc (.int .i64 la))), (9, ownP (outD (rowD l ro ti la xs) ys i)), (11, .v (slI xs)), (12, .v (slI ys)), (13, .v (.sc (.int .i64 i)))]
def PkI (l : List Ru) (ro ti la : Int) (xs ys : List Int) (i : Nat) (hi : i < ys.length) (n : Nat) (F : Fr) (H : List Bk) : Prop := ∃ k, ∃ hk : k < ys.length, n = ys.length - k ∧ i < k ∧ (∀ j, ∀ hj : j < ys.length, i ≤ j → j < k → rowD l ro ti la xs ys[j] = rowD l ro ti la xs ys[i]) ∧
  F = [(0, .v (slU l)), (1, .v (.sc (.int .i64 ro))), (2, .v (.sc (.int .i64 ti))), (3, .v (.sc (.int .i64 la))), (9, ownP (outD (rowD l ro ti la xs) ys i)), (11, .v (slI xs)), (12, .v (slI ys)), (13, .v (.sc (.int .i64 i))), (14, .v (slP (lin l ro ti la xs ys[i]))), (15, .v (.sc (.int .i64 k)))]
def PjI (l : List Ru) (ro ti la : Int) (xs ys : List Int) (out now : List (Rc Int)) (v : Int) (k : Nat) (j : Nat) (F : Fr) (H : List Bk) : Prop :=
  F = [(0, .v (slU l)), (1, .v (.sc (.int .i64 ro))), (2, .v (.sc (.int .i64 ti))), (3, .v (.sc (.int .i64 la))), (9, ownP (out ++ (now.take j).map (setY1P v))), (11, .v (slI xs)), (12, .v (slI ys)), (14, .v (slP now)), (15, .v (.sc (.int .i64 k))), (16, .v (.sc (.int .i64 j)))]
set_option maxHeartbeats 8000000 in
theorem refPatches (l : List Ru) (ro ti la : Int) (hl : l.length ≤ 1000) (hn : (boxesU l).length ≤ 1000) (hr : ∀ b ∈ boxesU l, rightR b = true) :
    PFn Try.prog 27 [slU l, .sc (.int .i64 ro), .sc (.int .i64 ti), .sc (.int .i64 la)] (slP (patR l ro ti la)) := by
  have hbl : ∀ r ∈ l, r.boxes.length ≤ 9223372036854775807 := fun r hr => by
    have h1 : r.boxes.length ≤ (boxesU l).length := by
      obtain ⟨s, t, rfl⟩ := List.append_of_mem hr
      simp [boxesU]
      omega
    omega
  have hB := refBoxes l (by omega) (by omega)
  have hE := fun d => refEdges (boxesU l) [] d (by omega) (by simp) hr (by simp)
  have cb := slR_closed (boxesU l)
  have c1 := slU_closed l
  have c3 := fun d => slI_closed (edgesR (boxesU l) d)
  have hinx := edges_in hr false
  have hiny := edges_in hr true
  have hsx := (edgesR_spec (boxesU l) false).1
  have hsy := (edgesR_spec (boxesU l) true).1
  have hx0 : 0 < (edgesR (boxesU l) false).length := List.length_pos_of_mem (((edgesR_spec (boxesU l) false).2 0).2 (.inl rfl))
  have hy0 : 0 < (edgesR (boxesU l) true).length := List.length_pos_of_mem (((edgesR_spec (boxesU l) true).2 0).2 (.inl rfl))
  have hlx := edgesR_len false (boxesU l)
  have hly := edgesR_len true (boxesU l)
  unfold patR
  simp only [List.append_nil] at hE
  have hE' : ∀ d, PFn Try.prog 44 [slR (boxesU l), .sl 0 4 [], .sc (.bool d)] (slI (edgesR (boxesU l) d)) := hE
  refine AFn.intro (fn := Try.f27) (by kernel_rfl) rfl (by kernel_rfl) (by simp) (AW.ofx [] mixed (by kernel_rfl) ?_)
  simp only [Try.f27, argsF]
  simp
  refine callK.pure hB (by simp [V.closedL, V.closed, c1]) cb ?_
  simp
  refine callK.pure (hE' false) (by simp [V.closedL, V.closed, cb]) (c3 false) ?_
  simp
  refine callK.pure (hE' true) (by simp [V.closedL, V.closed, cb]) (c3 true) ?_
  have cx := c3 false
  have cy := c3 true
  clear hE hE' c3
  generalize edgesR (boxesU l) false = xs at *
  generalize edgesR (boxesU l) true = ys at *
  have hL : ∀ y, PFn Try.prog 52 [slU l, .sc (.int .i64 ro), .sc (.int .i64 ti), .sc (.int .i64 la), slI xs, .sc (.int .i64 y)] (slP (lin l ro ti la xs y)) := fun y => refRow l ro ti la xs y (by omega) hbl (by omega) hinx hsx
  have cL := fun y => slP_closed (lin l ro ti la xs y)
  have hRl := rowD_len l ro ti la xs
  have hLl : ∀ y, (lin l ro ti la xs y).length ≤ xs.length := fun y => by unfold lin; rw [List.length_map]; exact hRl y
  have hOl := fun k => emit_len (R := rowD l ro ti la xs) (ys := ys) hRl k
  have hmul : ∀ k, k < ys.length → k * xs.length ≤ 100000000 := fun k hk => Nat.le_trans (Nat.mul_le_mul (show k ≤ 5000 by omega) (show xs.length ≤ 5000 by omega)) (by omega)
  simp
  refine AW.loopW (PoI l ro ti la xs ys) ⟨_, _, ?_, 0, hy0, rfl, fun j hj e => by omega, rfl⟩ ?_
  · simp [subW, weakV, getF, ownP, zeroRow, outD, runsK, emit]
  rintro n F H ⟨i, hi, rfl, hnew, rfl⟩
  refine AW.ofx [] mixed (by kernel_rfl) ?_
  have w1 : IntKind.i64.wrap ((i : Int) + 1) = ((i + 1 : Nat) : Int) := by rw [wrap_i64] <;> omega
  have hol : (outD (rowD l ro ti la xs) ys i).length ≤ 100000000 := by
    have h1 := hOl i
    have h2 := hmul i hi
    unfold outD
    omega
  by_cases hlt : i + 1 < ys.length
  rotate_left
  · have hii : i = ys.length - 1 := by omega
    have hlt' : ¬ (i : Int) + 1 < ys.length := by omega
    simp [slI, w1, hlt', hlt, ownP]
    rw [hii]
    simp [slP]
  have hlt' : (i : Int) + 1 < ys.length := by omega
  have hri := rowI hi
  simp [slI, w1, hlt', hlt, hi, hri, ownP]
  refine callK.pure (hL _) (by simp [V.closedL, V.closed, c1, slI, closed_ints]) (cL _) ?_
  simp [slI, w1, hlt', hlt, hi, hri, ownP]
  refine AW.loopW (PkI l ro ti la xs ys i hi) ⟨_, _, ?_, i + 1, hlt, rfl, by omega, fun j hj h1 h2 => by
    have : j = i := by omega
    subst this
    rfl, rfl⟩ ?_
  · simp [subW, weakV, getF, ownP, slI, w1]
  rintro n F H2 ⟨k, hk, rfl, hik, hsame, rfl⟩
  refine AW.ofx [] mixed (by kernel_rfl) ?_
  have wk : IntKind.i64.wrap ((k : Int) + 1) = ((k + 1 : Nat) : Int) := by rw [wrap_i64] <;> omega
  have hrk := rowI hk
  have hbk := hiny _ (List.getElem_mem hk)
  have wv : IntKind.i64.wrap (ys[k] - 1) = ys[k] - 1 := by rw [wrap_i64] <;> omega
  have hal := fun y y' => refAlikeP (lin l ro ti la xs y) (lin l ro ti la xs y') (Nat.le_trans (hLl y) (by omega))
  have hdec : ∀ y y', decide ((lin l ro ti la xs y).map ends3 = (lin l ro ti la xs y').map ends3) = decide (rowD l ro ti la xs y = rowD l ro ti la xs y') := fun y y' => by
    unfold lin
    rw [ends3_row, ends3_row]
    rw [decide_eq_decide]
    exact ⟨runs_inj, fun e => by rw [e]⟩
  have cLs := fun y y' => (show V.closedL [slP (lin l ro ti la xs y), slP (lin l ro ti la xs y')] = true by simp [V.closedL, cL])
  by_cases hgo : k + 1 < ys.length ∧ rowD l ro ti la xs ys[k] = rowD l ro ti la xs ys[i]
  · obtain ⟨hg1, hg2⟩ := hgo
    have hg1' : (k : Int) + 1 < ys.length := by omega
    have ed : decide ((lin l ro ti la xs ys[i]).map ends3 = (lin l ro ti la xs ys[k]).map ends3) = true := by
      rw [hdec, hg2]
      simp
    have halk := hal ys[i] ys[k]
    rw [ed] at halk
    simp [slI, wk, hg1, hg1', hk, hrk, ownP]
    refine callK.pure (hL _) (by simp [V.closedL, V.closed, c1, slI, closed_ints]) (cL _) ?_
    simp
    refine callK.pure halk (cLs _ _) rfl ?_
    simp [wk]
    refine ⟨ys.length - (k + 1), by omega, _, ?_, k + 1, hg1, rfl, by omega, fun j hj h1 h2 => ?_, rfl⟩
    · simp [subW, weakV, getF, ownP, slI]
    · by_cases e : j = k
      · subst e; exact hg2
      · exact hsame j hj h1 (by omega)
  have hfin : outD (rowD l ro ti la xs) ys k = outD (rowD l ro ti la xs) ys i ++ (lin l ro ti la xs ys[i]).map (setY1P (ys[k] - 1)) := by
    unfold outD lin
    rw [emit_stretch hsy hik hk (fun j hj e => hnew j hj e hlt) (fun j hj h1 h2 => hsame j hj h1 h2), List.map_map]
    rfl
  have hnew2 : ∀ j, ∀ hj : j < ys.length, k = j + 1 → k + 1 < ys.length → rowD l ro ti la xs ys[j] ≠ rowD l ro ti la xs ys[k] := fun j hj e h1 e2 => hgo ⟨h1, by rw [← e2]; exact hsame j hj (by omega) (by omega)⟩
  have hol2 := hLl ys[i]
  by_cases hk1 : k + 1 < ys.length
  case' pos =>
    have hg1' : (k : Int) + 1 < ys.length := by omega
    have ed : decide ((lin l ro ti la xs ys[i]).map ends3 = (lin l ro ti la xs ys[k]).map ends3) = false := by
      rw [hdec, decide_eq_false_iff_not]
      exact fun e => hgo ⟨hk1, e.symm⟩
    have halk := hal ys[i] ys[k]
    rw [ed] at halk
    simp [slI, wk, hk1, hg1', hk, hrk, ownP]
    refine callK.pure (hL _) (by simp [V.closedL, V.closed, c1, slI, closed_ints]) (cL _) ?_
    simp
    refine callK.pure halk (cLs _ _) rfl ?_
    simp [wk]
  case' neg =>
    have hg1' : ¬ (k : Int) + 1 < ys.length := by omega
    simp [slI, wk, hk1, hg1', ownP]
  all_goals
    refine AW.count (lin l ro ti la xs ys[i]).length (PjI l ro ti la xs ys (outD (rowD l ro ti la xs) ys i) (lin l ro ti la xs ys[i]) (ys[k] - 1) k) ⟨_, ?_, rfl⟩ ?_
    · simp [subW, weakV, getF, ownP, slI]
    rintro j F H3 hj rfl
    refine AW.ofx [] mixed (by kernel_rfl) ?_
    have hn : ∀ p, lin l ro ti la xs ys[i] = p → p.length ≤ xs.length := fun p e => by rw [← e]; exact hol2
    by_cases hjl : j < (lin l ro ti la xs ys[i]).length
    · have hrj := rowP hjl
      have w2 : IntKind.i64.wrap ((j : Int) + 1) = (j : Int) + 1 := by rw [wrap_i64] <;> omega
      have hst := List.take_succ_eq_append_getElem hjl
      generalize lin l ro ti la xs ys[i] = now at *
      simp [slP, slI, ownP, hjl, hrj, setL, setP, hk, hrk, wv, w2]
      have e1 : ownP (outD (rowD l ro ti la xs) ys i ++ (now.take (j + 1)).map (setY1P (ys[k] - 1))) = .own true 37 ((outD (rowD l ro ti la xs) ys i).length + min j now.length + 1) 5
          ((outD (rowD l ro ti la xs) ys i).flatMap pcs ++ (((now.map (setY1P (ys[k] - 1))).take j).flatMap pcs ++ [.sc (.int .i64 now[j].x0), .sc (.int .i64 now[j].y0), .sc (.int .i64 now[j].x1), .sc (.int .i64 (ys[k] - 1)), .sc (.int .i64 now[j].z)])) := by
        unfold ownP
        rw [hst, List.map_append, List.flatMap_append, List.flatMap_append, List.length_append, List.length_append, List.length_map, List.length_take, List.map_take]
        rfl
      refine ⟨⟨by omega, by omega⟩, _, ?_, rfl⟩
      rw [e1]
      simp [subW, weakV, getF, slI, slP]
    · have hjj : j = (lin l ro ti la xs ys[i]).length := by omega
      subst hjj
      rw [List.take_length, ← hfin]
      simp [slP, slI, ownP]
      refine ⟨ys.length - k, by omega, _, ?_, k, hk, rfl, hnew2, rfl⟩
      simp [subW, weakV, getF, ownP, slI, slP]
end Go.Proofs.Ytmkeeghjpdnknaa
namespace Go.Proofs.Ytmkeeghjpdnknaa
set_option linter.all false
open Go.RowKit AM Can
set_option maxRecDepth 10000
attribute [local simp] aw_skip' aw_region' aw_seq' aw_cond' aw_block' aw_loop' aw_exit' aw_label' aw_ret' aops_nil' aops_cons' aop' aMove aAssign aPick aAlloc aBox aBuild slF aBuildSlice aLoad aLoadOwn aStore aStoreOwn isOwn delR aNilCheck aBin aMakeFunc aFieldAddr aField aIndexAddr aExtract aSliceOp aSlice aCallOp aCall' aLen aLenMap aDelete aMM aUn aConv aIface aAssert aMakeMap aLookup aMapUpdate aRange aNext aEntry entsOf keyB seekK aMakeSlice lookV aAppend putK layK eval evalV AM.valOf getF putF setF del SV.refers cellsAt rootSV plains shift ldV V.exact V.exactL V.ofValue V.ofPart V.ofCell V.cells V.one Value.oneCell' fitB qSeq qBlock getB afin aret resVs resV resTmps shareF evalS tupV valsS valsV pickV calm calmB lenV useOf feeds looks isT newsV partsV fillV putAt zerosV fitsNil nilB sliceB isEq isNeq awx_skip' awx_region' awx_seq' awx_cond' awx_block' awx_loop' awx_exit' awx_label' awx_ret' xops_nil' xops_cons' xop' xload xcall' addO delO inO putD memB Mix.effB Mix.laysB keysF badK subW weakV zeroRow yops_nil' yops_cons' yop' yload yindex yfield ylen oldO dropO takeO oldL exactB
attribute [local simp] awz_skip' awz_region' awz_seq' awz_cond' awz_block' awz_loop' awz_exit' awz_label' awz_ret' zops_nil' zops_cons' zop' zload zcall' z0 new0 remF old0 dltB

def ofP1 (l : List Ru) (ro ti la : Int) (r : Re) (z : Int) (p : Pt) : Int := if hasR r p && decide (zoomR l ro ti la p < z) then zoomR l ro ti la p else z
def ofIn (l : List Ru) (ro ti la : Int) (r : Re) (ys : List Int) (z x : Int) : Int := ys.foldl (fun z y => ofP1 l ro ti la r z ⟨x, y⟩) z
/-- The document's zoom of a rectangle. -/
def ofRD (l : List Ru) (ro ti la : Int) (r : Re) : Int := (edgesR (boxesU l ++ [r]) false).foldl (ofIn l ro ti la r (edgesR (boxesU l ++ [r]) true)) 16
def OrA (l : List Ru) (ro ti la : Int) (r : Re) (xs ys : List Int) (i : Nat) (F : Fr) (H : List Bk) : Prop := Stays [reB r] H ∧ F = [(0, .v (slU l)), (1, .v (.sc (.int .i64 ro))), (2, .v (.sc (.int .i64 ti))), (3, .v (.sc (.int .i64 la))), (9, .v (.ptr 0 0)), (11, .v (.sc (.int .i64 ((xs.take i).foldl (ofIn l ro ti la r ys) 16)))), (13, .v (slI xs)), (14, .v (slI ys)), (15, .v (.sc (.int .i64 i)))]
def OrB (l : List Ru) (ro ti la : Int) (r : Re) (xs ys : List Int) (i : Nat) (x z0 : Int) (k : Nat) (F : Fr) (H : List Bk) : Prop := Stays [reB r] H ∧ F = [(0, .v (slU l)), (1, .v (.sc (.int .i64 ro))), (2, .v (.sc (.int .i64 ti))), (3, .v (.sc (.int .i64 la))), (9, .v (.ptr 0 0)), (11, .v (.sc (.int .i64 ((ys.take k).foldl (fun z y => ofP1 l ro ti la r z ⟨x, y⟩) z0)))), (13, .v (slI xs)), (14, .v (slI ys)), (15, .v (.sc (.int .i64 i))), (16, .v (.sc (.int .i64 k)))]
set_option maxHeartbeats 8000000 in
theorem refOfP (l : List Ru) (ro ti la : Int) (r : Re) (hl : l.length ≤ 1000) (hn : (boxesU l).length ≤ 1000) (hr : ∀ b ∈ boxesU l, rightR b = true) (hrr : rightR r = true) :
    PFn Try.prog 18 [slU l, .sc (.int .i64 ro), .sc (.int .i64 ti), .sc (.int .i64 la), r.v] (.sc (.int .i64 (ofRD l ro ti la r))) := by
  have hbl : ∀ r ∈ l, r.boxes.length ≤ 9223372036854775807 := fun r hr => by
    have h1 : r.boxes.length ≤ (boxesU l).length := by
      obtain ⟨s, t, rfl⟩ := List.append_of_mem hr
      simp [boxesU]
      omega
    omega
  have hB := refBoxes l (by omega) (by omega)
  have hE := fun d => refEdges (boxesU l) [r] d (by omega) (by simp) hr (by simpa using hrr)
  have hZ := fun p => refZoom l ro ti la p (by omega) hbl
  have hH := fun p => refHas r p
  have cb := slR_closed (boxesU l)
  have c1 := slU_closed l
  have c3 := fun d => slI_closed (edgesR (boxesU l ++ [r]) d)
  have hlx := edgesR_len false (boxesU l ++ [r])
  have hly := edgesR_len true (boxesU l ++ [r])
  rw [List.length_append, List.length_singleton] at hlx hly
  have hE' : ∀ d, PFn Try.prog 44 [slR (boxesU l), .sl 1 4 [.sc (.int .i64 r.x0), .sc (.int .i64 r.y0), .sc (.int .i64 r.x1), .sc (.int .i64 r.y1)], .sc (.bool d)] (slI (edgesR (boxesU l ++ [r]) d)) := hE
  unfold ofRD
  unfold Re.v Re.cs Pt.v Pt.cs at hH
  unfold Pt.v Pt.cs at hZ
  unfold Re.v Re.cs
  refine AFn.intro (fn := Try.f18) (by kernel_rfl) rfl (by kernel_rfl) (by simp) (AW.ofx [(11, 10, [13, 15, 14, 16])] mixed (by kernel_rfl) ?_)
  simp only [Try.f18, argsF]
  simp
  refine callK.pure hB (by simp [V.closedL, V.closed, c1]) cb ?_
  simp
  refine callK.pure (hE' false) (by simp [V.closedL, V.closed, cb]) (c3 false) ?_
  simp
  refine callK.pure (hE' true) (by simp [V.closedL, V.closed, cb]) (c3 true) ?_
  clear hE hE' c3
  generalize edgesR (boxesU l ++ [r]) false = xs at *
  generalize edgesR (boxesU l ++ [r]) true = ys at *
  simp
  refine AW.count xs.length (OrA l ro ti la r xs ys) ⟨_, ?_, .refl, rfl⟩ ?_
  · simp [subW, weakV, getF, slI]
  rintro i F H hi ⟨hs, rfl⟩
  refine AW.ofx [(11, 10, [13, 15, 14, 16])] mixed (by kernel_rfl) ?_
  by_cases hlt : i < xs.length
  · have w1 : IntKind.i64.wrap ((i : Int) + 1) = (i : Int) + 1 := by rw [wrap_i64] <;> omega
    have hri := rowI hlt
    have hst := foldl_take_succ' (f := ofIn l ro ti la r ys) (b := (16 : Int)) (xs := xs) (k := i) hlt
    generalize (xs.take i).foldl (ofIn l ro ti la r ys) 16 = z0 at *
    simp [slI, hlt]
    refine AW.count ys.length (OrB l ro ti la r xs ys i xs[i] z0) ⟨_, ?_, hs, rfl⟩ ?_
    · simp [subW, weakV, getF, slI]
    rintro k F H2 hk ⟨hs2, rfl⟩
    refine AW.ofx [(11, 10, [13, 15, 14, 16])] mixed (by kernel_rfl) ?_
    by_cases hkl : k < ys.length
    · have w2 : IntKind.i64.wrap ((k : Int) + 1) = (k : Int) + 1 := by rw [wrap_i64] <;> omega
      have hrk := rowI hkl
      have hsk := foldl_take_succ' (f := fun z y => ofP1 l ro ti la r z ⟨xs[i], y⟩) (b := z0) (xs := ys) (k := k) hkl
      have hHp := hH ⟨xs[i], ys[k]⟩
      have hZp := hZ ⟨xs[i], ys[k]⟩
      generalize (ys.take k).foldl (fun z y => ofP1 l ro ti la r z ⟨xs[i], y⟩) z0 = z at *
      have e0 : ofP1 l ro ti la r z ⟨xs[i], ys[k]⟩ = if hasR r ⟨xs[i], ys[k]⟩ && decide (zoomR l ro ti la ⟨xs[i], ys[k]⟩ < z) then zoomR l ro ti la ⟨xs[i], ys[k]⟩ else z := rfl
      rw [e0] at hsk
      have hb := hs2.cells (i := 0) rfl
      have hb' := fun L => getA (L := L) hb
      have hb0 := fun L h => (List.getElem_eq_iff (i := 0) h).2 (hb' L)
      have hbp := appL (H := H2) (b := ptB2 ⟨xs[i], ys[k]⟩)
      unfold ptB2 at hbp
      simp [slI, hlt, hkl, hri, hrk, setL, hb', hb0, hbp]
      refine callK.pure hHp rfl rfl ?_
      cases e : hasR r ⟨xs[i], ys[k]⟩ with
      | false =>
        rw [e] at hsk
        simp [w2]
        refine ⟨_, ?_, hs2.append, rfl⟩
        rw [hsk]
        simp [subW, weakV, getF, slI]
      | true =>
        rw [e] at hsk
        simp [slI, hbp]
        refine callK.pure hZp (by simp [V.closedL, V.closed, c1]) rfl ?_
        by_cases e2 : zoomR l ro ti la ⟨xs[i], ys[k]⟩ < z
        · simp [e2, hbp]
          refine callK.pure hZp (by simp [V.closedL, V.closed, c1]) rfl ?_
          simp [w2]
          refine ⟨_, ?_, hs2.append, rfl⟩
          rw [hsk]
          simp [subW, weakV, getF, slI, e2]
        · simp [e2, w2]
          refine ⟨_, ?_, hs2.append, rfl⟩
          rw [hsk]
          simp [subW, weakV, getF, slI, e2]
    · have hkk : k = ys.length := by omega
      subst hkk
      simp [slI, w1, List.take_length]
      refine ⟨_, ?_, hs2, rfl⟩
      rw [hst]
      simp [subW, weakV, getF, slI, ofIn]
  · have hii : i = xs.length := by omega
    subst hii
    simp [slI]
/-! ## Which zooms there are -/
def levIn (o : List Int) (qs : List (Rc Int)) : List Int := qs.foldl (fun o q => putI o q.z) o
/-- The document's zooms. -/
def levR (l : List Ru) (ro ti : Int) (n : Nat) : List Int := (List.range n).foldl (fun o (la : Nat) => levIn o (patR l ro ti la)) []
theorem levR_succ (l : List Ru) (ro ti : Int) (n : Nat) : levR l ro ti (n + 1) = levIn (levR l ro ti n) (patR l ro ti n) := by simp [levR, List.range_succ]
theorem levIn_len : ∀ (qs : List (Rc Int)) (o : List Int), (levIn o qs).length ≤ o.length + qs.length
  | [], o => by simp [levIn]
  | q :: qs, o => by
    have h1 := levIn_len qs (putI o q.z)
    have h2 := putI_len q.z o
    have e : levIn o (q :: qs) = levIn (putI o q.z) qs := rfl
    rw [e]
    simp
    omega
theorem patR_len (l : List Ru) (ro ti la : Int) (hn : (boxesU l).length ≤ 1000) : (patR l ro ti la).length ≤ 4008004 := by
  have h1 := emit_len (R := rowD l ro ti la (edgesR (boxesU l) false)) (ys := edgesR (boxesU l) true) (rowD_len l ro ti la _) ((edgesR (boxesU l) true).length - 1)
  have hlx := edgesR_len false (boxesU l)
  have hly := edgesR_len true (boxesU l)
  have h4 : ((edgesR (boxesU l) true).length - 1) * (edgesR (boxesU l) false).length ≤ 2002 * 2002 := Nat.mul_le_mul (by omega) (by omega)
  unfold patR outD
  omega
theorem levR_len (l : List Ru) (ro ti : Int) (hn : (boxesU l).length ≤ 1000) : ∀ n, (levR l ro ti n).length ≤ n * 4008004
  | 0 => by simp [levR]
  | n + 1 => by
    have h1 := levR_len l ro ti hn n
    have h2 := patR_len l ro ti n hn
    have h3 := levIn_len (patR l ro ti n) (levR l ro ti n)
    rw [levR_succ]
    omega
def LrI (l : List Ru) (ro ti : Int) (n : Nat) (F : Fr) (H : List Bk) : Prop := F = [(0, .v (slU l)), (1, .v (.sc (.int .i64 ro))), (2, .v (.sc (.int .i64 ti))), (7, .v (slI (levR l ro ti n))), (8, .v (.sc (.int .i64 n)))]
def LsI (l : List Ru) (ro ti : Int) (n : Nat) (qs : List (Rc Int)) (k : Nat) (F : Fr) (H : List Bk) : Prop := F = [(0, .v (slU l)), (1, .v (.sc (.int .i64 ro))), (2, .v (.sc (.int .i64 ti))), (7, .v (slI (levIn (levR l ro ti n) (qs.take k)))), (8, .v (.sc (.int .i64 n))), (9, .v (slP qs)), (10, .v (.sc (.int .i64 k)))]
set_option maxHeartbeats 8000000 in
theorem refLevels (l : List Ru) (ro ti : Int) (hl : l.length ≤ 1000) (hn : (boxesU l).length ≤ 1000) (hr : ∀ b ∈ boxesU l, rightR b = true) :
    PFn Try.prog 25 [slU l, .sc (.int .i64 ro), .sc (.int .i64 ti)] (slI (levR l ro ti 8)) := by
  have c1 := slU_closed l
  refine AFn.intro (fn := Try.f25) (by kernel_rfl) rfl (by kernel_rfl) (by simp) (AW.ofx [] mixed (by kernel_rfl) ?_)
  simp only [Try.f25, argsF]
  simp
  refine AW.count 8 (LrI l ro ti) ⟨_, ?_, rfl⟩ ?_
  · simp [subW, weakV, getF, slI, levR, ints, zeroRow]
  rintro n F H hn8 rfl
  refine AW.ofx [] mixed (by kernel_rfl) ?_
  by_cases hlt : n < 8
  · have w1 : IntKind.i64.wrap ((n : Int) + 1) = (n : Int) + 1 := by rw [wrap_i64] <;> omega
    have hlt' : (n : Int) < 8 := by omega
    have hP := refPatches l ro ti n hl hn hr
    have hpl := patR_len l ro ti n hn
    have hll := levR_len l ro ti hn n
    have hsu := levR_succ l ro ti n
    have hcl := slP_closed (patR l ro ti n)
    generalize patR l ro ti n = qs at *
    simp [hlt']
    refine callK.pure hP (by simp [V.closedL, V.closed, c1]) hcl ?_
    simp [slP]
    refine AW.count qs.length (LsI l ro ti n qs) ⟨_, ?_, rfl⟩ ?_
    · simp [subW, weakV, getF, slP, levIn]
    rintro k F H2 hk rfl
    refine AW.ofx [] mixed (by kernel_rfl) ?_
    by_cases hkl : k < qs.length
    · have w2 : IntKind.i64.wrap ((k : Int) + 1) = (k : Int) + 1 := by rw [wrap_i64] <;> omega
      have hrow := rowP hkl
      have hlo := levIn_len (qs.take k) (levR l ro ti n)
      rw [List.length_take] at hlo
      have hst : levIn (levR l ro ti n) (qs.take (k + 1)) = putI (levIn (levR l ro ti n) (qs.take k)) qs[k].z := by
        unfold levIn
        rw [List.take_succ_eq_append_getElem hkl, List.foldl_append]
        rfl
      generalize levIn (levR l ro ti n) (qs.take k) = o at *
      have hPu := refPutI o qs[k].z (by omega)
      have co := slI_closed o
      have cp := slI_closed (putI o qs[k].z)
      simp [slP, hkl, hrow]
      refine callK.pure hPu (by simp [V.closedL, V.closed, co]) cp ?_
      simp [w2]
      refine ⟨_, ?_, rfl⟩
      rw [hst]
      simp [subW, weakV, getF, slP]
    · have hk' : k = qs.length := by omega
      subst hk'
      simp [slP, w1]
      refine ⟨hlt, _, ?_, rfl⟩
      rw [hsu]
      simp [subW, weakV, getF, slI]
  · have hk' : n = 8 := by omega
    subst hk'
    simp
end Go.Proofs.Ytmkeeghjpdnknaa
