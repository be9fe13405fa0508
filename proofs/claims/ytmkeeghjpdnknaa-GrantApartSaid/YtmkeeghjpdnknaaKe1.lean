/- Grant: bands, a table that is made, and its patches, by the program. -/
import Derived.Test.YtmkeeghjpdnknaaKd
import Derived.Test.YtmkeeghjpdnknaaBf
namespace Go.Proofs.Ytmkeeghjpdnknaa
set_option linter.all false
open Go.RowKit AM Can
set_option maxRecDepth 10000
attribute [local simp] aw_skip' aw_region' aw_seq' aw_cond' aw_block' aw_loop' aw_exit' aw_label' aw_ret' aops_nil' aops_cons' aop' aMove aAssign aPick aAlloc aBox aBuild slF aBuildSlice aLoad aLoadOwn aStore aStoreOwn isOwn delR aNilCheck aBin aMakeFunc aFieldAddr aField aIndexAddr aExtract aSliceOp aSlice aCallOp aCall' aLen aLenMap aDelete aMM aUn aConv aIface aAssert aMakeMap aLookup aMapUpdate aRange aNext aEntry entsOf keyB seekK aMakeSlice lookV aAppend putK layK eval evalV AM.valOf getF putF setF del SV.refers cellsAt rootSV plains shift ldV V.exact V.exactL V.ofValue V.ofPart V.ofCell V.cells V.one Value.oneCell' fitB qSeq qBlock getB afin aret resVs resV resTmps shareF evalS tupV valsS valsV pickV calm calmB lenV useOf feeds looks isT newsV partsV fillV putAt zerosV fitsNil nilB sliceB isEq isNeq awx_skip' awx_region' awx_seq' awx_cond' awx_block' awx_loop' awx_exit' awx_label' awx_ret' xops_nil' xops_cons' xop' xload xcall' addO delO inO putD memB Mix.effB Mix.laysB keysF badK subW weakV zeroRow yops_nil' yops_cons' yop' yload yindex yfield ylen oldO dropO takeO oldL exactB
attribute [local simp] awz_skip' awz_region' awz_seq' awz_cond' awz_block' awz_loop' awz_exit' awz_label' awz_ret' zops_nil' zops_cons' zop' zload zcall' z0 new0 remF old0 dltB

theorem rises_at {xs : List Int} (h : xs.Pairwise (· < ·)) (h0 : ∀ x ∈ xs, 0 ≤ x) : ∀ (i : Nat) (hi : i < xs.length), (i : Int) ≤ xs[i]
  | 0, hi => by have := h0 _ (List.getElem_mem hi); simpa using this
  | i + 1, hi => by
    have h1 := rises_at h h0 i (by omega)
    have h2 := pair_lt h (i := i) (j := i + 1) (by omega) hi (by omega)
    omega
theorem rises_len {xs : List Int} {n : Nat} (h : xs.Pairwise (· < ·)) (h0 : ∀ x ∈ xs, 0 ≤ x ∧ x ≤ n) : xs.length ≤ n + 1 := by
  by_cases hl : xs.length = 0
  · omega
  have h1 := rises_at h (fun x hx => (h0 x hx).1) (xs.length - 1) (by omega)
  have h2 := (h0 _ (List.getElem_mem (l := xs) (n := xs.length - 1) (by omega))).2
  omega
def cutsG (l : List Ru) (d : Bool) : List Int := numsC (endsD d (boxesU l))
theorem cutsG_in {l : List Ru} (hr : ∀ b ∈ boxesU l, rightR b = true) (d : Bool) : ∀ x ∈ cutsG l d, 0 ≤ x ∧ x ≤ 65536 := fun x hx => by
  obtain ⟨b, hb, h⟩ := endsD_mem.1 (((numsC_spec _).2 x).1 hx)
  have := rightR_iff.1 (hr b hb)
  unfold lo hi at h
  cases d <;> simp at h <;> omega
theorem cutsG_len {l : List Ru} (hr : ∀ b ∈ boxesU l, rightR b = true) (d : Bool) : (cutsG l d).length ≤ 65537 := rises_len (n := 65536) (numsC_spec _).1 (cutsG_in hr d)
def outP (R : Int → List (Run Int)) (ys : List Int) (k : Nat) : List (Rc Int) := emit (runsK (bandF R) ys k)
/-- The patches of rules that are for someone. -/
def patG (l : List Ru) : List (Rc Int) := outP (rowG l (cutsG l false)) (cutsG l true) ((cutsG l true).length - 1)
def BoI (l : List Ru) (xs ys : List Int) (id : Nat) (H0 : List Bk) (n : Nat) (F : Fr) (H : List Bk) : Prop := ∃ i, (∀ hi : i < ys.length, ∀ j, ∀ hj : j < ys.length, i = j + 1 → i + 1 < ys.length → rowG l xs ys[j] ≠ rowG l xs ys[i]) ∧ i ≤ ys.length - 1 ∧ n = ys.length - i ∧
  H[id]? = some (.cells [ownP (outP (rowG l xs) ys i)]) ∧ StaysBut id H0 H ∧
  F = [(0, .v (slU l)), (1, .v (.fn (.func 60) [] [.ptr id 0])), (4, .v (slI xs)), (5, .v (slI ys)), (6, .v (.sc (.int .i64 i)))]
def BkI (l : List Ru) (xs ys : List Int) (id : Nat) (H1 : List Bk) (i : Nat) (hi : i < ys.length) (n : Nat) (F : Fr) (H : List Bk) : Prop := ∃ k, ∃ hk : k < ys.length, n = ys.length - k ∧ i < k ∧ (∀ j, ∀ hj : j < ys.length, i ≤ j → j < k → rowG l xs ys[j] = rowG l xs ys[i]) ∧ H = H1 ∧
  F = [(0, .v (slU l)), (1, .v (.fn (.func 60) [] [.ptr id 0])), (4, .v (slI xs)), (5, .v (slI ys)), (6, .v (.sc (.int .i64 i))), (7, .v (slS (rowG l xs ys[i]))), (8, .v (.sc (.int .i64 k)))]
set_option maxHeartbeats 4000000 in
theorem gbands (l : List Ru) (hl : l.length ≤ 1000000) (hn : (boxesU l).length ≤ 1048576) (hr : ∀ b ∈ boxesU l, rightR b = true) (id : Nat) (H : List Bk) (h : H[id]? = some (.cells [ownP []])) :
    AFn Try.prog 59 [slU l, .fn (.func 60) [] [.ptr id 0]] H fun y H' => H'[id]? = some (.cells [ownP (patG l)]) ∧ StaysBut id H H' := by
  have hb : ∀ r ∈ l, r.boxes.length ≤ 9223372036854775807 := fun r hr => by
    have h1 : r.boxes.length ≤ (boxesU l).length := by
      obtain ⟨s, t, rfl⟩ := List.append_of_mem hr
      simp [boxesU]
      omega
    omega
  have hEx := gedges _ _ gbX l hl hn hr
  have hEy := gedges _ _ gbY l hl hn hr
  have c1 := slU_closed l
  have hinx := cutsG_in hr false
  have hiny := cutsG_in hr true
  have hlx := cutsG_len hr false
  have hly := cutsG_len hr true
  have hsx : (cutsG l false).Pairwise (· < ·) := (numsC_spec _).1
  have hsy : (cutsG l true).Pairwise (· < ·) := (numsC_spec _).1
  unfold patG
  change PFn _ _ _ (slI (cutsG l false)) at hEx
  change PFn _ _ _ (slI (cutsG l true)) at hEy
  have cx := slI_closed (cutsG l false)
  have cy := slI_closed (cutsG l true)
  refine AFn.intro (fn := Try.f59) (by kernel_rfl) rfl (by kernel_rfl) (by simp) (AW.ofx [] mixed (by kernel_rfl) ?_)
  simp only [Try.f59, argsF]
  simp
  refine callK.pure hEx (by simp [V.closedL, V.closed, c1]) cx ?_
  simp
  refine callK.pure hEy (by simp [V.closedL, V.closed, c1]) cy ?_
  clear hEx hEy
  generalize cutsG l false = xs at *
  generalize cutsG l true = ys at *
  have hR := fun y => grow' l xs y (by omega) hb (by omega) hinx
  have hRl := fun y => rowG_len l xs y
  have cR := fun y => slS_closed (rowG l xs y)
  have hOl := fun k => emit_len (R := rowG l xs) (ys := ys) hRl k
  have hmul : ∀ k, k ≤ ys.length → k * xs.length ≤ 5000000000 := fun k hk => Nat.le_trans (Nat.mul_le_mul (show k ≤ 65537 by omega) hlx) (by omega)
  simp
  refine AW.loopW (BoI l xs ys id H) ⟨_, _, ?_, 0, fun hi j hj e => by omega, by omega, rfl, ?_, .refl, rfl⟩ ?_
  · simp [subW, weakV, getF]
  · simpa [outP, runsK, emit] using h
  rintro n F H1 ⟨i, hnew, hi0, rfl, hid, hst, rfl⟩
  refine AW.ofx [] mixed (by kernel_rfl) ?_
  have w1 : IntKind.i64.wrap ((i : Int) + 1) = ((i + 1 : Nat) : Int) := by rw [wrap_i64] <;> omega
  by_cases hlt : i + 1 < ys.length
  rotate_left
  · have hii : i = ys.length - 1 := by omega
    have hlt' : ¬ (i : Int) + 1 < ys.length := by omega
    simp [slI, w1, hlt', hlt]
    rw [← hii]
    exact ⟨hid, hst⟩
  have hi : i < ys.length := by omega
  have hlt' : (i : Int) + 1 < ys.length := by omega
  have hri := rowI hi
  simp [slI, w1, hlt', hlt, hi, hri]
  refine callK.pure (hR _) (by simp [V.closedL, V.closed, c1, slI, closed_ints]) (cR _) ?_
  simp [slI, w1, hlt', hlt, hi, hri]
  refine AW.loopW (BkI l xs ys id H1 i hi) ⟨_, _, ?_, i + 1, hlt, rfl, by omega, fun j hj h1 h2 => by
    have : j = i := by omega
    subst this
    rfl, rfl, rfl⟩ ?_
  · simp [subW, weakV, getF, slI, w1]
  rintro n F H2 ⟨k, hk, rfl, hik, hsame, rfl, rfl⟩
  refine AW.ofx [] mixed (by kernel_rfl) ?_
  have wk : IntKind.i64.wrap ((k : Int) + 1) = ((k + 1 : Nat) : Int) := by rw [wrap_i64] <;> omega
  have hrk := rowI hk
  have hbk := hiny _ (List.getElem_mem hk)
  have wv : IntKind.i64.wrap (ys[k] - 1) = ys[k] - 1 := by rw [wrap_i64] <;> omega
  have hal := fun y y' => eqSpans (rowG l xs y) (rowG l xs y') (Nat.le_trans (hRl y) (by omega))
  have cLs := fun y y' => (show V.closedL [slS (rowG l xs y), slS (rowG l xs y')] = true by simp [V.closedL, cR])
  by_cases hgo : k + 1 < ys.length ∧ rowG l xs ys[i] = rowG l xs ys[k]
  · obtain ⟨hg1, hg2⟩ := hgo
    have hg1' : (k : Int) + 1 < ys.length := by omega
    have halk := hal ys[i] ys[k]
    rw [decide_eq_true hg2] at halk
    simp [slI, wk, hg1, hg1', hk, hrk]
    refine callK.pure (hR _) (by simp [V.closedL, V.closed, c1, slI, closed_ints]) (cR _) ?_
    simp
    refine callK.pure halk (cLs _ _) rfl ?_
    simp [wk]
    refine ⟨ys.length - (k + 1), by omega, _, ?_, k + 1, hg1, rfl, by omega, fun j hj h1 h2 => ?_, rfl, rfl⟩
    · simp [subW, weakV, getF, slI]
    · by_cases e : j = k
      · subst e; exact hg2.symm
      · exact hsame j hj h1 (by omega)
  have hfin : outP (rowG l xs) ys k = outP (rowG l xs) ys i ++ (rowG l xs ys[i]).map (rect ys[i] (ys[k] - 1)) :=
    emit_stretch hsy hik hk (fun j hj e => hnew hi j hj e hlt) (fun j hj h1 h2 => hsame j hj h1 h2)
  have hnew2 : ∀ hk : k < ys.length, ∀ j, ∀ hj : j < ys.length, k = j + 1 → k + 1 < ys.length → rowG l xs ys[j] ≠ rowG l xs ys[k] := fun _ j hj e h1 e2 => hgo ⟨h1, by rw [← e2]; exact (hsame j hj (by omega) (by omega)).symm⟩
  have hT := gtell ys[i] (ys[k] - 1) (rowG l xs ys[i]) (outP (rowG l xs) ys i) id _ hid (by
    have h1 := hOl i
    have h2 := hmul i (by omega)
    have h3 := hRl ys[i]
    unfold outP
    omega)
  rw [← hfin] at hT
  by_cases hk1 : k + 1 < ys.length
  case' pos =>
    have hg1' : (k : Int) + 1 < ys.length := by omega
    have halk := hal ys[i] ys[k]
    rw [decide_eq_false (fun e => hgo ⟨hk1, e⟩)] at halk
    simp [slI, wk, hk1, hg1', hk, hrk]
    refine callK.pure (hR _) (by simp [V.closedL, V.closed, c1, slI, closed_ints]) (cR _) ?_
    simp
    refine callK.pure halk (cLs _ _) rfl ?_
    simp [wk, slI, hi, hk, hri, hrk, wv]
  case' neg =>
    have hg1' : ¬ (k : Int) + 1 < ys.length := by omega
    simp [slI, wk, hk1, hg1', hi, hk, hri, hrk, wv]
  all_goals
    refine callK.of hT ?_
    rintro y H3 ⟨hid3, hst3⟩
    simp [slI]
    refine ⟨ys.length - k, by omega, _, ?_, k, hnew2, by omega, rfl, hid3, hst.trans hst3, rfl⟩
    simp [subW, weakV, getF, slI]
end Go.Proofs.Ytmkeeghjpdnknaa
namespace Go.Proofs.Ytmkeeghjpdnknaa
set_option linter.all false
open Go.RowKit AM Can
set_option maxRecDepth 10000
attribute [local simp] aw_skip' aw_region' aw_seq' aw_cond' aw_block' aw_loop' aw_exit' aw_label' aw_ret' aops_nil' aops_cons' aop' aMove aAssign aPick aAlloc aBox aBuild slF aBuildSlice aLoad aLoadOwn aStore aStoreOwn isOwn delR aNilCheck aBin aMakeFunc aFieldAddr aField aIndexAddr aExtract aSliceOp aSlice aCallOp aCall' aLen aLenMap aDelete aMM aUn aConv aIface aAssert aMakeMap aLookup aMapUpdate aRange aNext aEntry entsOf keyB seekK aMakeSlice lookV aAppend putK layK eval evalV AM.valOf getF putF setF del SV.refers cellsAt rootSV plains shift ldV V.exact V.exactL V.ofValue V.ofPart V.ofCell V.cells V.one Value.oneCell' fitB qSeq qBlock getB afin aret resVs resV resTmps shareF evalS tupV valsS valsV pickV calm calmB lenV useOf feeds looks isT newsV partsV fillV putAt zerosV fitsNil nilB sliceB isEq isNeq awx_skip' awx_region' awx_seq' awx_cond' awx_block' awx_loop' awx_exit' awx_label' awx_ret' xops_nil' xops_cons' xop' xload xcall' addO delO inO putD memB Mix.effB Mix.laysB keysF badK subW weakV zeroRow yops_nil' yops_cons' yop' yload yindex yfield ylen oldO dropO takeO oldL exactB
attribute [local simp] awz_skip' awz_region' awz_seq' awz_cond' awz_block' awz_loop' awz_exit' awz_label' awz_ret' zops_nil' zops_cons' zop' zload zcall' z0 new0 remF old0 dltB

theorem gcloneB (bs : List Re) (hl : bs.length ≤ 4398046511104) : PFn Try.prog 31 [slR bs] (slR bs) := by
  have h : AFn Try.prog 31 [slR bs] [] fun y _ => y = slR bs ∨ (y = .nil ∧ bs = []) := by
    refine AFn.intro (fn := Try.f31) (by kernel_rfl) rfl (by kernel_rfl) (by simp) (AW.ofx [] mixed (by kernel_rfl) ?_)
    simp only [Try.f31, argsF]
    simp [slR]
    exact ⟨by omega, by omega⟩
  refine h.conv fun y H' hy => ⟨_, rfl, fun I φ v hv => ?_⟩
  rcases hy with rfl | ⟨rfl, rfl⟩
  · exact hv
  · exact rel_nil_row hv
theorem gcloneP (qs : List (Rc Int)) (hl : qs.length ≤ 1000000000000) : PFn Try.prog 35 [slP qs] (slP qs) := by
  have h : AFn Try.prog 35 [slP qs] [] fun y _ => y = slP qs ∨ (y = .nil ∧ qs = []) := by
    refine AFn.intro (fn := Try.f35) (by kernel_rfl) rfl (by kernel_rfl) (by simp) (AW.ofx [] mixed (by kernel_rfl) ?_)
    simp only [Try.f35, argsF]
    simp [slP]
    exact ⟨by omega, by omega⟩
  refine h.conv fun y H' hy => ⟨_, rfl, fun I φ v hv => ?_⟩
  rcases hy with rfl | ⟨rfl, rfl⟩
  · exact hv
  · exact rel_nil_row hv
/-- A table at block t, with what was reckoned in the map in block m. -/
structure Tab (H : List Bk) (t m : Nat) (l : List Ru) (es : List (Value × V)) : Prop where
  t : H[t]? = some (.cells [.v (slU l), .v (.map m)])
  m : H[m]? = some (.map es)
theorem Tab.ne {H : List Bk} {t m : Nat} {l : List Ru} {es : List (Value × V)} (h : Tab H t m l es) : t ≠ m := by
  rintro rfl
  have := h.t.symm.trans h.m
  simp at this
theorem Tab.stays {H H' : List Bk} {t m : Nat} {l : List Ru} {es : List (Value × V)} (h : Tab H t m l es) (hs : Stays H H') : Tab H' t m l es := ⟨hs.cells h.t, hs.map h.m⟩
def zcU : List V := [.sc (.int .i64 0), .sc (.int .i64 0), .sc (.int .i64 0), .sc (.int .i64 0), .sc (.int .i64 0), .nil, .sc (.int .i64 0)]
/-- A row of rules, of which the first k stand. -/
def preU (l : List Ru) (k : Nat) : List V := (l.take k).flatMap Ru.cs ++ zerosV (l.length - k) zcU
theorem preU_len {l : List Ru} {k : Nat} (h : k ≤ l.length) : (preU l k).length = l.length * 7 := by
  have h1 := flat_len' (enc := Ru.cs) (sz := 7) (fun _ => rfl) (l.take k)
  have h2 : (zerosV (l.length - k) zcU).length = (l.length - k) * 7 := by simp [zerosV, zcU]
  unfold preU
  rw [List.length_append, h1, h2, List.length_take]
  omega
theorem preU_put {l : List Ru} {k : Nat} (h : k < l.length) : (preU l k).take (k * 7) ++ l[k].cs ++ (preU l k).drop (k * 7 + 7) = preU l (k + 1) := by
  have h1 := flat_len' (enc := Ru.cs) (sz := 7) (fun _ => rfl) (l.take k)
  have e : l.length - k = (l.length - (k + 1)) + 1 := by omega
  unfold preU
  rw [e, zerosV_succ, flat_take_succ h, List.append_assoc ((l.take k).flatMap Ru.cs)]
  exact putRow (A := (l.take k).flatMap Ru.cs) (x := l[k].cs) (z := zcU) (B := zerosV (l.length - (k + 1)) zcU) (k := k * 7) (by rw [h1, List.length_take]; congr 1; omega) rfl
def NwI (l : List Ru) (H0 : List Bk) (k : Nat) (F : Fr) (H : List Bk) : Prop := (Stays H0 H ∧ H0.length ≤ H.length) ∧ F = [(4, .own true 55 l.length 7 (preU l k)), (18, .v (slU l)), (19, .v (.sc (.int .i64 l.length))), (20, .v (.sc (.int .i64 k)))]
set_option maxHeartbeats 4000000 in
theorem gnew (l : List Ru) (hl : l.length ≤ 32) (hb : ∀ r ∈ l, r.boxes.length ≤ 4398046511104) (hr : l.all ruRight = true) (H : List Bk) :
    AFn Try.prog 10 [slU l] H fun y H' => ∃ t m, y = .tup [.ptr t 0, .sc (.int .i64 0)] ∧ Tab H' t m l [] ∧ H.length ≤ t ∧ H.length ≤ m ∧ Stays H H' := by
  have hR := uRight l (by omega) (fun r h => by have := hb r h; omega)
  rw [hr] at hR
  have c1 := slU_closed l
  unfold slU at c1
  have n1 : ¬ (l.length : Int) > 32 := by omega
  refine AFn.intro (fn := Try.f10) (by kernel_rfl) rfl (by kernel_rfl) (by simp) (AW.ofx [] mixed (by kernel_rfl) ?_)
  simp only [Try.f10, argsF]
  simp [slU, n1]
  refine callK.pure hR (by simp [V.closedL, c1]) rfl ?_
  simp [slU]
  refine ⟨⟨by omega, by omega⟩, ?_⟩
  refine AW.count l.length (NwI l H) ⟨_, ?_, ⟨.refl, Nat.le_refl _⟩, rfl⟩ ?_
  · simp [subW, weakV, getF, slU, zcU, zerosV, preU]
  rintro k F H1 hk ⟨⟨hs, hsl⟩, rfl⟩
  refine AW.ofx [] mixed (by kernel_rfl) ?_
  have hpl := preU_len hk
  by_cases hlt : k < l.length
  · have w1 : IntKind.i64.wrap ((k : Int) + 1) = (k : Int) + 1 := by rw [wrap_i64] <;> omega
    have hrow := rowU hlt
    have hput := preU_put hlt
    have hC := gcloneB l[k].boxes (hb _ (List.getElem_mem hlt))
    have hc := slR_closed l[k].boxes
    unfold slR at hrow hC hc
    simp [slU, hlt, hrow, setL]
    refine callK.pure hC (by simp [V.closedL, hc]) hc ?_
    simp [Ru.cs, slR] at hput
    simp [slU, hlt, setP, w1, hpl]
    refine ⟨by omega, _, ?_, ⟨hs.append, by simp; omega⟩, rfl⟩
    rw [← hput]
    simp [subW, weakV, getF, slU]
  · have hk' : k = l.length := by omega
    subst hk'
    simp [slU, preU, zerosV]
    refine ⟨H1.length, ⟨by simp [slU], by simp⟩, by omega, hsl, hs.append⟩
end Go.Proofs.Ytmkeeghjpdnknaa
namespace Go.Proofs.Ytmkeeghjpdnknaa
set_option linter.all false
open Go.RowKit AM Can
set_option maxRecDepth 10000
attribute [local simp] aw_skip' aw_region' aw_seq' aw_cond' aw_block' aw_loop' aw_exit' aw_label' aw_ret' aops_nil' aops_cons' aop' aMove aAssign aPick aAlloc aBox aBuild slF aBuildSlice aLoad aLoadOwn aStore aStoreOwn isOwn delR aNilCheck aBin aMakeFunc aFieldAddr aField aIndexAddr aExtract aSliceOp aSlice aCallOp aCall' aLen aLenMap aDelete aMM aUn aConv aIface aAssert aMakeMap aLookup aMapUpdate aRange aNext aEntry entsOf keyB seekK aMakeSlice lookV aAppend putK layK eval evalV AM.valOf getF putF setF del SV.refers cellsAt rootSV plains shift ldV V.exact V.exactL V.ofValue V.ofPart V.ofCell V.cells V.one Value.oneCell' fitB qSeq qBlock getB afin aret resVs resV resTmps shareF evalS tupV valsS valsV pickV calm calmB lenV useOf feeds looks isT newsV partsV fillV putAt zerosV fitsNil nilB sliceB isEq isNeq awx_skip' awx_region' awx_seq' awx_cond' awx_block' awx_loop' awx_exit' awx_label' awx_ret' xops_nil' xops_cons' xop' xload xcall' addO delO inO putD memB Mix.effB Mix.laysB keysF badK subW weakV zeroRow yops_nil' yops_cons' yop' yload yindex yfield ylen oldO dropO takeO oldL exactB
attribute [local simp] awz_skip' awz_region' awz_seq' awz_cond' awz_block' awz_loop' awz_exit' awz_label' awz_ret' zops_nil' zops_cons' zop' zload zcall' z0 new0 remF old0 dltB

def keyW (ro ti la : Int) : Value := .agg #[.int .i64 ro, .int .i64 ti, .int .i64 la]
def forL (l : List Ru) (ro ti la : Int) : List Ru := l.filter fun r => forU r ro ti la
/-- The patches of rules, for someone. -/
def patF (l : List Ru) (ro ti la : Int) : List (Rc Int) := patG (forL l ro ti la)
/-- What was reckoned is right. -/
def Memo (l : List Ru) (es : List (Value × V)) : Prop := ∀ e ∈ es, ∃ ro ti la, e = (keyW ro ti la, slP (patF l ro ti la))
theorem wsame3 (a b c a' b' c' : Int) : wsame [.int .i64 a, .int .i64 b, .int .i64 c] [.int .i64 a', .int .i64 b', .int .i64 c'] = some (a == a' && (b == b' && (c == c' && true))) := by simp [wsame]
theorem wgo_memo {l : List Ru} {ro ti la : Int} : ∀ {es : List (Value × V)} {i : Nat}, Memo l es → wgo [.int .i64 ro, .int .i64 ti, .int .i64 la] es i = some none ∨ ∃ j, wgo [.int .i64 ro, .int .i64 ti, .int .i64 la] es i = some (some (j, slP (patF l ro ti la)))
  | [], _, _ => .inl rfl
  | e :: es, i, h => by
    obtain ⟨a, b, c, rfl⟩ := h e (by simp)
    have ih := wgo_memo (l := l) (ro := ro) (ti := ti) (la := la) (es := es) (i := i + 1) fun e he => h e (by simp [he])
    unfold keyW
    simp only [wgo, wsame3]
    cases hb : (ro == a && (ti == b && (la == c && true))) with
    | true =>
      simp at hb
      obtain ⟨rfl, rfl, rfl⟩ := hb
      exact .inr ⟨_, rfl⟩
    | false => exact ih
theorem wideKey : wideN Try.prog 83 = some 3 := by kernel_rfl
theorem seek_memo {l : List Ru} {ro ti la : Int} {es : List (Value × V)} (h : Memo l es) : wfind Try.prog 83 (.agg #[.int .i64 ro, .int .i64 ti, .int .i64 la]) es = some none ∨ ∃ j, wfind Try.prog 83 (.agg #[.int .i64 ro, .int .i64 ti, .int .i64 la]) es = some (some (j, slP (patF l ro ti la))) := by
  have e : wfind Try.prog 83 (.agg #[.int .i64 ro, .int .i64 ti, .int .i64 la]) es = wgo [.int .i64 ro, .int .i64 ti, .int .i64 la] es 0 := by
    unfold wfind
    rw [wideKey]
    rfl
  rw [e]
  exact wgo_memo h
theorem filter_succ {α : Type} {q : α → Bool} {xs : List α} {k : Nat} (h : k < xs.length) : (xs.take (k + 1)).filter q = if q xs[k] = true then (xs.take k).filter q ++ [xs[k]] else (xs.take k).filter q := by
  rw [List.take_succ_eq_append_getElem h, List.filter_append]
  cases hq : q xs[k] <;> simp [hq]
def kcs (ro ti la : Int) : Bk := .cells [.v (.sc (.int .i64 ro)), .v (.sc (.int .i64 ti)), .v (.sc (.int .i64 la))]
def PtI (l : List Ru) (ro ti la : Int) (t : Nat) (H0 : List Bk) (k : Nat) (F : Fr) (H : List Bk) : Prop := Stays (H0 ++ [kcs ro ti la]) H ∧ F = [(0, .v (.ptr t 0)), (1, .v (.sc (.int .i64 ro))), (2, .v (.sc (.int .i64 ti))), (3, .v (.sc (.int .i64 la))), (9, .v (.ptr H0.length 0)), (12, ownU ((l.take k).filter fun r => forU r ro ti la)), (34, .v (slU l)), (35, .v (.sc (.int .i64 l.length))), (36, .v (.sc (.int .i64 k)))]
theorem forL_boxes {l : List Ru} {ro ti la : Int} : ∀ b ∈ boxesU (forL l ro ti la), rightR b = true := fun b hb => by
  obtain ⟨r, hr, hb⟩ := List.mem_flatMap.1 hb
  have h := (List.mem_filter.1 hr).2
  unfold forU ruRight at h
  split at h
  · rename_i h6
    simp [h6] at h
  · simp at h
    exact h.1.1.1.1.1.1.1.2 b hb
theorem filter_flat_len {l : List Ru} {q : Ru → Bool} : (boxesU (l.filter q)).length ≤ (boxesU l).length := by
  induction l with
  | nil => simp [boxesU]
  | cons r l ih =>
    unfold boxesU at ih ⊢
    rw [List.filter_cons]
    split
    · simp only [List.flatMap_cons, List.length_append]; omega
    · simp only [List.flatMap_cons, List.length_append]; omega
theorem zPat : zeroV Try.prog 31 = some .nil := by kernel_rfl
set_option maxHeartbeats 4000000 in
theorem gpatches (l : List Ru) (ro ti la : Int) (hl : l.length ≤ 1000000) (hn : (boxesU l).length ≤ 1048576) (t m : Nat) (es : List (Value × V)) (H : List Bk) (hT : Tab H t m l es) (hM : Memo l es) :
    AFn Try.prog 36 [.ptr t 0, .sc (.int .i64 ro), .sc (.int .i64 ti), .sc (.int .i64 la)] H fun y H' => y = slP (patF l ro ti la) ∧ ∃ es', Tab H' t m l es' ∧ Memo l es' ∧ StaysBut m H H' := by
  have ht := hT.t
  have hm := hT.m
  have ht' := fun L => getA (L := L) ht
  have hm' := fun L => getA (L := L) hm
  have hbl : ∀ r ∈ l, r.boxes.length ≤ 9223372036854775807 := fun r hr => by
    have h1 : r.boxes.length ≤ (boxesU l).length := by
      obtain ⟨s, t, rfl⟩ := List.append_of_mem hr
      simp [boxesU]
      omega
    omega
  rcases seek_memo (ro := ro) (ti := ti) (la := la) hM with hs | ⟨j, hs⟩
  rotate_left
  ·
    refine AFn.intro (fn := Try.f36) (by kernel_rfl) rfl (by kernel_rfl) (by simp) (AW.ofx [] mixed (by kernel_rfl) ?_)
    simp only [Try.f36, argsF]
    simp [setL, ht, hm, ht', hm', hs, slP, zPat]
    exact ⟨es, ⟨ht' _, hm' _⟩, hM, .app⟩
  ·
    refine AFn.intro (fn := Try.f36) (by kernel_rfl) rfl (by kernel_rfl) (by simp) ?_
    simp only [Try.f36, argsF]
    refine AW.seq (AW.ofx [] mixed (by kernel_rfl) ?_)
    simp [setL, ht, hm, ht', hm', hs, slU, zPat]
    refine AW.seq (AW.ofx [] mixed (by kernel_rfl) ?_)
    simp [setL, ht, hm, ht', hm', hs, slU, zPat]
    refine AW.seq (AW.ofx [] mixed (by kernel_rfl) ?_)
    simp [setL, ht, hm, ht', hm', hs, slU, zPat]
    refine AW.seq (AW.ofx [] mixed (by kernel_rfl) ?_)
    simp [setL, ht, hm, ht', hm', hs, slU, zPat]
    refine AW.seq (AW.ofx [] mixed (by kernel_rfl) ?_)
    simp [setL, ht, hm, ht', hm', hs, slU, zPat]
    refine AW.count l.length (PtI l ro ti la t H) ⟨_, ?_, .refl, rfl⟩ ?_
    · simp [subW, weakV, getF, slU, ownU, zeroRow]
    rintro k F H1 hk ⟨hst, rfl⟩
    refine AW.ofx [] mixed (by kernel_rfl) ?_
    by_cases hlt : k < l.length
    · have w1 : IntKind.i64.wrap ((k : Int) + 1) = (k : Int) + 1 := by rw [wrap_i64] <;> omega
      have hrow := rowU hlt
      have hF := ufor l[k] ro ti la (hbl _ (List.getElem_mem hlt))
      have hsc := filter_succ (q := fun r => forU r ro ti la) hlt
      have cv : V.closedL [l[k].v] = true := by simp [V.closedL, V.closed, Ru.v, ru_closed]
      have hfl : ((l.take k).filter fun r => forU r ro ti la).length ≤ 1000000 := by
        have h1 := List.length_filter_le (fun r => forU r ro ti la) (l.take k)
        rw [List.length_take] at h1
        omega
      generalize (l.take k).filter (fun r => forU r ro ti la) = ms at *
      unfold Ru.v Ru.cs at hF cv
      unfold slR at hrow hF cv
      have hb := appL (H := H1) (b := .cells [.v (.sc (.int .i64 l[k].kind)), .v (.sc (.int .i64 l[k].roles)), .v (.sc (.int .i64 l[k].lo)), .v (.sc (.int .i64 l[k].hi)), .v (.sc (.int .i64 l[k].labels)), .v (.sl l[k].boxes.length 4 (l[k].boxes.flatMap Re.cs)), .v (.sc (.int .i64 l[k].zoom))])
      simp [slU, hlt, hrow, setL, ownU]
      refine callK.pure hF (by simpa [V.closedL, V.closed] using cv) rfl ?_
      cases hq : forU l[k] ro ti la with
      | true =>
        simp [slU, ownU, w1, hb]
        refine ⟨by omega, _, ?_, hst.append, rfl⟩
        rw [hsc, if_pos hq]
        simp [subW, weakV, getF, slU, ownU, Ru.cs, slR]
      | false =>
        simp [slU, ownU, w1]
        refine ⟨_, ?_, hst.append, rfl⟩
        rw [hsc, if_neg (by rw [hq]; decide)]
        simp [subW, weakV, getF, slU, ownU]
    · have hk' : k = l.length := by omega
      subst hk'
      rw [List.take_length]
      have e : (l.filter fun r => forU r ro ti la) = forL l ro ti la := rfl
      rw [e]
      simp [slU, ownU]
      refine AW.seq (AW.ofx [] mixed (by kernel_rfl) ?_)
      simp
      refine AW.seq (AW.ofx [] mixed (by kernel_rfl) ?_)
      simp [slU, ownU]
      have hb1 := appL (H := H1) (b := .cells [.v .nil])
      have hlt1 : H1.length < (H1 ++ [Bk.cells [.v .nil]]).length := by simp
      have hB := gbands (forL l ro ti la) (by have := List.length_filter_le (fun r => forU r ro ti la) l; unfold forL; omega) (Nat.le_trans filter_flat_len hn) forL_boxes H1.length (setBlk (H1 ++ [Bk.cells [.v .nil]]) H1.length 0 (ownP [])) (by
        rw [setBlk_eq' hb1]
        exact List.getElem?_set_self hlt1)
      have hB := hB.weakCell (ownP []) hb1 rfl (by simp [ownP, zeroRow]) rfl
      rw [setBlk_eq' hb1] at hB
      have hs1 : Stays (H ++ [kcs ro ti la]) (H1 ++ [Bk.cells [.v .nil]]) := hst.append
      have hlH : H.length < H1.length := (List.getElem?_eq_some_iff.1 (hst.cells (i := H.length) (by simp [kcs]; rfl))).1
      unfold slU at hB
      refine callK.of hB ?_
      rintro y H2 ⟨hid, hs2⟩
      have hs2 := StaysBut.trans .set hs2
      have hs3 : Stays (H ++ [kcs ro ti la]) (H2.set H1.length (.cells [.v (slP (patF l ro ti la))])) := (hst.but.trans (.app (L := [Bk.cells [.v .nil]]))).trans (hs2.trans .set) |>.new (by simp; omega)
      simp
      refine AW.asSlCell (off := 0) hid (by unfold ownP; rfl) ?_
      simp only [List.set_cons_zero]
      have hP : V.sl (patG (forL l ro ti la)).length 5 ((patG (forL l ro ti la)).flatMap pcs) = slP (patF l ro ti la) := rfl
      rw [hP]
      have hlt2 : H1.length < H2.length := (List.getElem?_eq_some_iff.1 hid).1
      have ht3 := hs3.cells (ht' _)
      have hm3 := hs3.map (hm' _)
      have hk3 := hs3.cells (i := H.length) (cs := [.v (.sc (.int .i64 ro)), .v (.sc (.int .i64 ti)), .v (.sc (.int .i64 la))]) (by simp [kcs])
      have hr3 := List.getElem?_set_self (a := Bk.cells [.v (slP (patF l ro ti la))]) hlt2
      generalize H2.set H1.length (.cells [.v (slP (patF l ro ti la))]) = H3 at *
      have hmH : m < H.length := (List.getElem?_eq_some_iff.1 hm).1
      have htH : t < H.length := (List.getElem?_eq_some_iff.1 ht).1
      have hne : t ≠ m := hT.ne
      have hq : ∀ X, ((killIt m H3).set m X)[H1.length]? = some (.cells [.v (slP (patF l ro ti la))]) := fun X => setOther (killA hr3 (by simp)) (by omega) X
      refine AW.ofx [] mixed (by kernel_rfl) ?_
      simp [ht3, hm3, hk3, hr3, hs, hq]
      refine ⟨_, ⟨setOther (killA ht3 (by simp)) (Ne.symm hne) _, killSelf hm3⟩, fun e he => ?_, ((Stays.app (L := [kcs ro ti la])).trans hs3).but.killed⟩
      rcases List.mem_append.1 he with he | he
      · exact hM e he
      · exact ⟨ro, ti, la, by simpa [keyW] using he⟩
end Go.Proofs.Ytmkeeghjpdnknaa
