/- Review: changes are the document changes; fixed calls. -/
import Derived.Test.YtbcfoakceloenaaDk1
import Derived.Test.YtbcfoakceloenaaDq
namespace Go.Proofs.Ytbcfoakceloenaa
set_option linter.all false
open Go.RowKit AM Can
set_option maxRecDepth 10000
attribute [local simp] aw_skip' aw_region' aw_seq' aw_cond' aw_block' aw_loop' aw_exit' aw_label' aw_ret' aops_nil' aops_cons' aop' aMove aAssign aPick aAlloc aBox aBuild slF aBuildSlice aLoad aLoadOwn aStore aStoreOwn isOwn delR aNilCheck aBin aMakeFunc aFieldAddr aField aIndexAddr aExtract aSliceOp aSlice aCallOp aCall' aLen aLenMap aDelete aMM aUn aConv aIface aAssert aMakeMap aLookup aMapUpdate aRange aNext aEntry entsOf keyB seekK aMakeSlice lookV aAppend putK layK eval evalV AM.valOf getF putF setF del SV.refers cellsAt rootSV plains shift ldV V.exact V.exactL V.ofValue V.ofPart V.ofCell V.cells V.one Value.oneCell' fitB qSeq qBlock getB afin aret resVs resV resTmps shareF evalS tupV valsS valsV pickV calm calmB lenV useOf feeds looks isT newsV partsV fillV putAt zerosV fitsNil nilB sliceB isEq isNeq awx_skip' awx_region' awx_seq' awx_cond' awx_block' awx_loop' awx_exit' awx_label' awx_ret' xops_nil' xops_cons' xop' xload xcall' addO delO inO putD memB Mix.effB Mix.laysB keysF badK subW weakV zeroRow yops_nil' yops_cons' yop' yload yindex yfield ylen oldO dropO takeO oldL exactB
attribute [local simp] awz_skip' awz_region' awz_seq' awz_cond' awz_block' awz_loop' awz_exit' awz_label' awz_ret' zops_nil' zops_cons' zop' zload zloadOwn zcall' z0 new0 remF old0 dltB

theorem boxes_rightU {l : List Ru} (h : l.all ruRight = true) : ∀ b ∈ boxesU l, rightR b = true := fun b hb => by
  obtain ⟨r, hr, hb⟩ := List.mem_flatMap.1 hb
  have h := List.all_eq_true.1 h r hr
  unfold ruRight at h
  split at h
  · simp at h
    rw [h.1.2] at hb
    cases hb
  · simp at h
    exact h.1.2 b hb
theorem docB_right {was is : List Ru} (ha : was.all ruRight = true) (hb : is.all ruRight = true) : ∀ b ∈ docB was is, rightR b = true := fun b h => by
  rcases List.mem_append.1 h with h | h
  · exact boxes_rightU ha b h
  · exact boxes_rightU hb b h
theorem chD_form {was is : List Ru} (ha : was.all ruRight = true) (hb : is.all ruRight = true) (w : Wo) : Can.Form (FZ2 neB was is w) (chD was is w) :=
  out_form ha hb (edgesR_cut (docB_right ha hb) false) (edgesR_cut (docB_right ha hb) true)
theorem ch_doc {was is : List Ru} (ha : was.all ruRight = true) (hb : is.all ruRight = true) (w : Wo) : ovP neB was is w = chD was is w := (ovP_form neB ha hb w).uniq (chD_form ha hb w)
/-! ## The laws' small functions -/
def smallV (l : List Ru) : Bool := decide (l.length ≤ 4 ∧ (boxesU l).length ≤ 5)
def SvI (l : List Ru) (k : Nat) (F : Fr) (H : List Bk) : Prop := (k ≤ 4 ∧ ∀ j, j < k → (boxesU (l.take j)).length ≤ 5) ∧ F = [(0, .v (slU l)), (3, .v (.sc (.int .i64 (boxesU (l.take k)).length))), (4, .v (.sc (.int .i64 k)))]
set_option maxHeartbeats 4000000 in
theorem lsmallV (l : List Ru) (hl : l.length ≤ 9223372036854775807) (hb : ∀ r ∈ l, r.boxes.length ≤ 4398046511104) : PFn Try.prog 11 [slU l] (.sc (.bool (smallV l))) := by
  refine AFn.intro (fn := Try.f11) (by kernel_rfl) rfl (by kernel_rfl) (by simp) (AW.ofx [] mixed (by kernel_rfl) ?_)
  simp only [Try.f11, argsF]
  simp [slU]
  refine AW.count l.length (SvI l) ⟨_, ?_, ⟨by omega, by omega⟩, rfl⟩ ?_
  · simp [subW, weakV, getF, slU, boxesU]
  rintro k F H hk ⟨⟨hk8, hpre⟩, rfl⟩
  refine AW.ofx [] mixed (by kernel_rfl) ?_
  have hle := boxesU_take_len l k
  by_cases hlt : k < l.length
  · by_cases h7 : 3 < k
    · have h7' : (3 : Int) < k := by omega
      have e : smallV l = false := by
        unfold smallV
        rw [decide_eq_false_iff_not]
        omega
      simp [slU, hlt, h7', h7, e]
    · have h7' : ¬ (3 : Int) < k := by omega
      by_cases h12 : 5 < (boxesU (l.take k)).length
      · have h12' : (5 : Int) < (boxesU (l.take k)).length := by omega
        have e : smallV l = false := by
          unfold smallV
          rw [decide_eq_false_iff_not]
          omega
        generalize (boxesU (l.take k)).length = n at *
        simp [slU, hlt, h7', h7, h12, h12', e]
      · have h12' : ¬ (5 : Int) < (boxesU (l.take k)).length := by omega
        have hrow := rowU hlt
        have hst : (boxesU (l.take (k + 1))).length = (boxesU (l.take k)).length + l[k].boxes.length := by rw [boxesU_take hlt, List.length_append]
        have hbl := hb _ (List.getElem_mem hlt)
        have w1 : IntKind.i64.wrap ((k : Int) + 1) = (k : Int) + 1 := by rw [wrap_i64] <;> omega
        have w2 : IntKind.i64.wrap (((boxesU (l.take k)).length : Int) + l[k].boxes.length) = ((boxesU (l.take (k + 1))).length : Int) := by rw [hst, wrap_i64] <;> omega
        have hp : ∀ j, j < k + 1 → (boxesU (l.take j)).length ≤ 5 := fun j hj => by
          by_cases e : j = k
          · subst e; omega
          · exact hpre j (by omega)
        unfold slR at hrow
        generalize hn1 : (boxesU (l.take k)).length = n at *
        generalize hn2 : (boxesU (l.take (k + 1))).length = n2 at *
        simp [slU, hlt, h7', h7, h12, h12', hrow, w1, w2]
        refine ⟨_, ?_, ⟨by omega, hp⟩, rfl⟩
        simp [subW, weakV, getF, slU, hn2]
  · have hk' : k = l.length := by omega
    subst hk'
    have e : smallV l = decide ((boxesU l).length ≤ 5) := by
      unfold smallV
      rw [decide_eq_decide]
      omega
    rw [List.take_length]
    generalize (boxesU l).length = n at *
    simp [slU, e]
    omega
theorem lwrongV (was is : List Ru) (h1 : was.length ≤ 9223372036854775807) (h2 : is.length ≤ 9223372036854775807) (b1 : ∀ r ∈ was, r.boxes.length ≤ 9223372036854775807) (b2 : ∀ r ∈ is, r.boxes.length ≤ 9223372036854775807) : PFn Try.prog 14 [slU was, slU is] (.sc (.int .i64 (askL [was, is]))) := by
  have hA := refAll was h1 b1
  have hB := refAll is h2 b2
  have c1 := slU_closed was
  have c2 := slU_closed is
  unfold slU at c1 c2 hA hB ⊢
  simp only [V.closed] at c1 c2
  by_cases hw : 32 < was.length
  · have e : askL [was, is] = 2 := by unfold askL; rw [if_neg (by simp; omega)]
    have hw' : (32 : Int) < was.length := by omega
    refine AFn.intro (fn := Try.f14) (by kernel_rfl) rfl (by kernel_rfl) (by simp) (AW.ofx [] mixed (by kernel_rfl) ?_)
    simp only [Try.f14, argsF]
    simp [hw, hw', e]
  · have hw' : ¬ (32 : Int) < was.length := by omega
    by_cases hi : 32 < is.length
    · have e : askL [was, is] = 2 := by unfold askL; rw [if_neg (by simp; omega)]
      have hi' : (32 : Int) < is.length := by omega
      refine AFn.intro (fn := Try.f14) (by kernel_rfl) rfl (by kernel_rfl) (by simp) (AW.ofx [] mixed (by kernel_rfl) ?_)
      simp only [Try.f14, argsF]
      simp [hw, hw', hi, hi', e]
    · have hi' : ¬ (32 : Int) < is.length := by omega
      have e : askL [was, is] = if was.all ruRight && is.all ruRight then 0 else 1 := by
        unfold askL
        rw [if_pos (by simp; omega)]
        simp
      cases hr : was.all ruRight with
      | false =>
        rw [hr] at hA e
        simp only [Bool.false_and] at e
        refine AFn.intro (fn := Try.f14) (by kernel_rfl) rfl (by kernel_rfl) (by simp) (AW.ofx [] mixed (by kernel_rfl) ?_)
        simp only [Try.f14, argsF]
        simp [hw, hw', hi, hi', e]
        refine callK.pure hA (by simp [V.closedL, V.closed, c1]) rfl ?_
        simp
      | true =>
        rw [hr] at hA e
        simp only [Bool.true_and] at e
        cases hs : is.all ruRight with
        | false =>
          rw [hs] at hB e
          refine AFn.intro (fn := Try.f14) (by kernel_rfl) rfl (by kernel_rfl) (by simp) (AW.ofx [] mixed (by kernel_rfl) ?_)
          simp only [Try.f14, argsF]
          simp [hw, hw', hi, hi', e]
          refine callK.pure hA (by simp [V.closedL, V.closed, c1]) rfl ?_
          simp
          refine callK.pure hB (by simp [V.closedL, V.closed, c2]) rfl ?_
          simp
        | true =>
          rw [hs] at hB e
          refine AFn.intro (fn := Try.f14) (by kernel_rfl) rfl (by kernel_rfl) (by simp) (AW.ofx [] mixed (by kernel_rfl) ?_)
          simp only [Try.f14, argsF]
          simp [hw, hw', hi, hi', e]
          refine callK.pure hA (by simp [V.closedL, V.closed, c1]) rfl ?_
          simp
          refine callK.pure hB (by simp [V.closedL, V.closed, c2]) rfl ?_
          simp
def ruleV (b : Re) (z : Int) : Ru := ⟨4, 255, 0, 7, 255, [b], z⟩
theorem lruleV (b : Re) (z : Int) : PFn Try.prog 26 [b.v, .sc (.int .i64 z)] (ruleV b z).v := by
  unfold Re.v Re.cs
  refine AFn.intro (fn := Try.f26) (by kernel_rfl) rfl (by kernel_rfl) (by simp) (AW.ofx [] mixed (by kernel_rfl) ?_)
  simp only [Try.f26, argsF]
  simp [setCells, setBlk, ruleV, Ru.v, Ru.cs, slR, Re.cs]
def wholeV : Re := ⟨0, 0, 65535, 65535⟩
theorem lwholeV : PFn Try.prog 27 [] wholeV.v := by
  refine AFn.intro (fn := Try.f27) (by kernel_rfl) rfl (by kernel_rfl) (by simp) (AW.ofx [] mixed (by kernel_rfl) ?_)
  simp only [Try.f27, argsF]
  simp [setCells, setBlk, wholeV, Re.v, Re.cs]
theorem eqCh (a b c d e f a' b' c' d' e' f' : Int) : eqT Try.prog 10 40 (.agg #[.int .i64 a, .int .i64 b, .int .i64 c, .int .i64 d, .int .i64 e, .int .i64 f]) (.agg #[.int .i64 a', .int .i64 b', .int .i64 c', .int .i64 d', .int .i64 e', .int .i64 f']) = some ((a == a' && (b == b' && (c == c' && (d == d' && true)))) && (e == e' && (f == f' && true))) := by kernel_rfl
theorem gCh : Try.prog.eqGuardType Try.prog.depth 40 = false := by kernel_rfl
theorem eqChD (a b c d e f a' b' c' d' e' f' : Int) : eqT Try.prog 10 39 (.agg #[.int .i64 a, .int .i64 b, .int .i64 c, .int .i64 d, .int .i64 e, .int .i64 f]) (.agg #[.int .i64 a', .int .i64 b', .int .i64 c', .int .i64 d', .int .i64 e', .int .i64 f']) = some ((a == a' && (b == b' && (c == c' && (d == d' && true)))) && (e == e' && (f == f' && true))) := by kernel_rfl
theorem gChD : Try.prog.eqGuardType Try.prog.depth 39 = false := by kernel_rfl
/-! ## Known answers -/
def kU1 : List Ru := [ruleV wholeV 5]
def kU2 : List Ru := [ruleV wholeV 5, ruleV ⟨0, 0, 3, 3⟩ 9]
def kU3 : List Ru := [ruleV wholeV 5, ruleV ⟨0, 0, 3, 3⟩ 4]
theorem kR1 : kU1.all ruRight = true := by decide +kernel
theorem kR2 : kU2.all ruRight = true := by decide +kernel
theorem kR3 : kU3.all ruRight = true := by decide +kernel
theorem kCh : ovP neB kU1 kU2 ⟨0, 0, 0⟩ = [⟨0, 0, 3, 3, (5, 9)⟩] := by
  rw [ch_doc kR1 kR2]
  decide +kernel
theorem kZ : ∀ n, n < 512 → zoomR kU1 (personN n).ro (personN n).ti (personN n).la ⟨0, 0⟩ = 5 ∧ zoomR kU2 (personN n).ro (personN n).ti (personN n).la ⟨0, 0⟩ = 9 := by decide +kernel
theorem kRises : (whoP ltB kU1 kU2 512).length = 512 := by
  have h : pickW (someP ltB kU1 kU2) 512 = (List.range 512).map personN := by
    unfold pickW
    rw [List.filter_eq_self]
    intro w hw
    obtain ⟨n, hn, rfl⟩ := List.mem_map.1 hw
    have hz := kZ n (List.mem_range.1 hn)
    refine (someP_iff ltB kR1 kR2 _).2 ⟨0, 0, by decide, ?_⟩
    rw [hz.1, hz.2]
    rfl
  unfold whoP
  rw [h]
  simp
theorem kRest : restU kU3 1 = kU1 ∧ restU kU3 0 = [ruleV ⟨0, 0, 3, 3⟩ 4] := ⟨rfl, rfl⟩
theorem kM : ∀ n, n < 512 → maskU kU3 (personN n) = maskU kU3 (personN 0) ∧ maskU kU1 (personN n) = maskU kU1 (personN 0) := by decide +kernel
theorem kCh3 : chD kU3 kU1 ⟨0, 0, 0⟩ = [] := by decide +kernel
theorem kIdle : idlK kU3 2 = [1] := by
  have h0 : idleB kU3 0 = false := by
    have hs : someP neB kU3 [ruleV ⟨0, 0, 3, 3⟩ 4] (personN 0) = true := (someP_iff neB kR3 (by decide +kernel) _).2 ⟨9, 9, by decide, by decide +kernel⟩
    have hp : 0 < (pickW (someP neB kU3 (restU kU3 0)) 512).length := by
      rw [kRest.2]
      refine List.length_pos_of_mem (a := personN 0) ?_
      exact List.mem_filter.2 ⟨List.mem_map.2 ⟨0, by simp, rfl⟩, hs⟩
    unfold idleB whoP
    rw [decide_eq_false (p := (List.take 1 (pickW (someP neB kU3 (restU kU3 0)) 512)).length = 0) (by rw [List.length_take]; omega), Bool.and_false]
  have h1 : idleB kU3 1 = true := by
    have hn : pickW (someP neB kU3 (restU kU3 1)) 512 = [] := by
      rw [kRest.1]
      unfold pickW
      rw [List.filter_eq_nil_iff]
      intro w hw
      obtain ⟨n, hn, rfl⟩ := List.mem_map.1 hw
      have hm := kM n (List.mem_range.1 hn)
      rw [byLot neB kR3 kR1 _ _ hm.1 hm.2]
      unfold someP
      rw [ch_doc kR3 kR1]
      have : personN 0 = ⟨0, 0, 0⟩ := rfl
      rw [this, kCh3]
      decide
    unfold idleB whoP
    rw [hn, kRest.1]
    decide +kernel
  rw [idlK_succ, idlK_succ, h0, h1]
  rfl
end Go.Proofs.Ytbcfoakceloenaa
namespace Go.Proofs.Ytbcfoakceloenaa
set_option linter.all false
open Go.RowKit AM Can
set_option maxRecDepth 10000
attribute [local simp] aw_skip' aw_region' aw_seq' aw_cond' aw_block' aw_loop' aw_exit' aw_label' aw_ret' aops_nil' aops_cons' aop' aMove aAssign aPick aAlloc aBox aBuild slF aBuildSlice aLoad aLoadOwn aStore aStoreOwn isOwn delR aNilCheck aBin aMakeFunc aFieldAddr aField aIndexAddr aExtract aSliceOp aSlice aCallOp aCall' aLen aLenMap aDelete aMM aUn aConv aIface aAssert aMakeMap aLookup aMapUpdate aRange aNext aEntry entsOf keyB seekK aMakeSlice lookV aAppend putK layK eval evalV AM.valOf getF putF setF del SV.refers cellsAt rootSV plains shift ldV V.exact V.exactL V.ofValue V.ofPart V.ofCell V.cells V.one Value.oneCell' fitB qSeq qBlock getB afin aret resVs resV resTmps shareF evalS tupV valsS valsV pickV calm calmB lenV useOf feeds looks isT newsV partsV fillV putAt zerosV fitsNil nilB sliceB isEq isNeq awx_skip' awx_region' awx_seq' awx_cond' awx_block' awx_loop' awx_exit' awx_label' awx_ret' xops_nil' xops_cons' xop' xload xcall' addO delO inO putD memB Mix.effB Mix.laysB keysF badK subW weakV zeroRow yops_nil' yops_cons' yop' yload yindex yfield ylen oldO dropO takeO oldL exactB
attribute [local simp] awz_skip' awz_region' awz_seq' awz_cond' awz_block' awz_loop' awz_exit' awz_label' awz_ret' zops_nil' zops_cons' zop' zload zloadOwn zcall' z0 new0 remF old0 dltB

theorem kAsk : askL [kU1, kU2] = 0 ∧ askL [kU3] = 0 := by decide +kernel
theorem kChP : chP kU1 kU2 ⟨0, 0, 0⟩ = [⟨0, 0, 3, 3, (5, 9)⟩] := by
  unfold chP
  rw [if_pos ⟨kAsk.1, by decide⟩, kCh]
theorem kChE : chE kU1 kU2 ⟨0, 0, 0⟩ = 0 := by
  unfold chE
  rw [if_pos kAsk.1]
  rfl
theorem kRsP : (rsP kU1 kU2).length = 512 := by
  unfold rsP
  rw [if_pos kAsk.1, kRises]
theorem kIdP : idP kU3 = [1] := by
  unfold idP
  rw [if_pos kAsk.2]
  exact kIdle
set_option maxHeartbeats 8000000 in
theorem lknownV : PFn Try.prog 12 [] (.sc (.bool true)) := by
  have hC := rchanges kU1 kU2 ⟨0, 0, 0⟩ (by decide) (by decide) (by decide) (by decide) (fun _ => by decide)
  have hR := rrises kU1 kU2 (by decide) (by decide) (by decide) (by decide) (fun _ => by decide)
  have hI := ridle kU3 (by decide) (by decide) (fun _ => by decide)
  have hW := lwholeV
  have r5 := lruleV wholeV 5
  have r9 := lruleV ⟨0, 0, 3, 3⟩ 9
  have r4 := lruleV ⟨0, 0, 3, 3⟩ 4
  rw [kChP, kChE] at hC
  rw [kAsk.1] at hR
  rw [kAsk.2, kIdP] at hI
  have hl := kRsP
  have cR := slW_closed (rsP kU1 kU2)
  unfold slW at hR cR
  simp only [V.closed] at cR
  generalize rsP kU1 kU2 = rs at *
  simp only [kU1, kU2, kU3, slU, ruleV, wholeV, Ru.v, Ru.cs, slR, Re.v, Re.cs, Wo.v, Wo.cs, slC, slI, List.length_cons, List.length_nil, List.flatMap_cons, List.flatMap_nil, List.append_nil, List.cons_append, List.nil_append, ccs, ints, List.map_cons, List.map_nil, hl] at hC hR hI hW r5 r9 r4
  refine AFn.intro (fn := Try.f12) (by kernel_rfl) rfl (by kernel_rfl) (by simp) (AW.ofx [] mixed (by kernel_rfl) ?_)
  simp only [Try.f12, argsF]
  simp
  refine callK.pure hW rfl rfl ?_
  simp
  refine callK.pure r5 rfl rfl ?_
  simp
  refine callK.pure hW rfl rfl ?_
  simp
  refine callK.pure r5 rfl rfl ?_
  simp
  refine callK.pure r9 rfl rfl ?_
  simp
  refine callK.pure hC rfl rfl ?_
  simp
  refine callK.pure hR rfl (by simp [V.closed, V.closedL, cR]) ?_
  simp
  refine callK.pure hW rfl rfl ?_
  simp
  refine callK.pure r5 rfl rfl ?_
  simp
  refine callK.pure r4 rfl rfl ?_
  simp
  refine callK.pure hI rfl rfl ?_
  have q1 : AM.rowAt 6 [V.sc (.int .i64 0), .sc (.int .i64 0), .sc (.int .i64 3), .sc (.int .i64 3), .sc (.int .i64 5), .sc (.int .i64 9)] 0 = [V.sc (.int .i64 0), .sc (.int .i64 0), .sc (.int .i64 3), .sc (.int .i64 3), .sc (.int .i64 5), .sc (.int .i64 9)] := rfl
  have q2 : AM.rowAt 1 [V.sc (.int .i64 1)] 0 = [V.sc (.int .i64 1)] := rfl
  simp [eqCh, gCh, q1, q2]
end Go.Proofs.Ytbcfoakceloenaa
