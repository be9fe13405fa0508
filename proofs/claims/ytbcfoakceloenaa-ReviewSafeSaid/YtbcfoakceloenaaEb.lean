/- Review: the law ReviewSafe, walked. -/
import Derived.Test.YtbcfoakceloenaaEa
import Derived.Test.YtbcfoakceloenaaDv
namespace Go.Proofs.Ytbcfoakceloenaa
set_option linter.all false
open Go.RowKit AM Can
set_option maxRecDepth 10000
attribute [local simp] aw_skip' aw_region' aw_seq' aw_cond' aw_block' aw_loop' aw_exit' aw_label' aw_ret' aops_nil' aops_cons' aop' aMove aAssign aPick aAlloc aBox aBuild slF aBuildSlice aLoad aLoadOwn aStore aStoreOwn isOwn delR aNilCheck aBin aMakeFunc aFieldAddr aField aIndexAddr aExtract aSliceOp aSlice aCallOp aCall' aLen aLenMap aDelete aMM aUn aConv aIface aAssert aMakeMap aLookup aMapUpdate aRange aNext aEntry entsOf keyB seekK aMakeSlice lookV aAppend putK layK eval evalV AM.valOf getF putF setF del SV.refers cellsAt rootSV plains shift ldV V.exact V.exactL V.ofValue V.ofPart V.ofCell V.cells V.one Value.oneCell' fitB qSeq qBlock getB afin aret resVs resV resTmps shareF evalS tupV valsS valsV pickV calm calmB lenV useOf feeds looks isT newsV partsV fillV putAt zerosV fitsNil nilB sliceB isEq isNeq awx_skip' awx_region' awx_seq' awx_cond' awx_block' awx_loop' awx_exit' awx_label' awx_ret' xops_nil' xops_cons' xop' xload xcall' addO delO inO putD memB Mix.effB Mix.laysB keysF badK subW weakV zeroRow yops_nil' yops_cons' yop' yload yindex yfield ylen oldO dropO takeO oldL exactB
attribute [local simp] awz_skip' awz_region' awz_seq' awz_cond' awz_block' awz_loop' awz_exit' awz_label' awz_ret' zops_nil' zops_cons' zop' zload zloadOwn zcall' z0 new0 remF old0 dltB

theorem eqWoP (a b c a' b' c' : Int) : eqT Try.prog 10 24 (.agg #[.int .i64 a, .int .i64 b, .int .i64 c]) (.agg #[.int .i64 a', .int .i64 b', .int .i64 c']) = some (a == a' && (b == b' && (c == c' && true))) := by kernel_rfl
theorem gWoP : Try.prog.eqGuardType Try.prog.depth 24 = false := by kernel_rfl
def sameW (w r : Wo) : Bool := r.ro == w.ro && (r.ti == w.ti && (r.la == w.la && true))
theorem sameW_iff {w r : Wo} : sameW w r = true ↔ r = w := by
  obtain ⟨a, b, c⟩ := w
  obtain ⟨a', b', c'⟩ := r
  simp [sameW]
theorem person_of {w : Wo} (h : numsU w.ro w.ti w.la = true) : ∃ n, n < 512 ∧ personN n = w := by
  obtain ⟨a, b, c⟩ := w
  unfold numsU smallN at h
  simp at h
  obtain ⟨a', rfl⟩ : ∃ n : Nat, a = n := ⟨a.toNat, by omega⟩
  obtain ⟨b', rfl⟩ : ∃ n : Nat, b = n := ⟨b.toNat, by omega⟩
  obtain ⟨c', rfl⟩ : ∃ n : Nat, c = n := ⟨c.toNat, by omega⟩
  refine ⟨64 * a' + 8 * b' + c', by omega, ?_⟩
  rw [person_at (by omega) (by omega)]
theorem fits_in {p : Pt} (h : fits p = true) : inG p.x p.y = true := by
  unfold fits inside at h
  unfold inG
  simp at h ⊢
  omega
/-- Where someone is not told, nothing is seen more closely. -/
theorem not_told {was is : List Ru} (h : askL [was, is] = 0) {w : Wo} (hn : (rsP was is).any (sameW w) = false) (p : Pt) : zoomR is w.ro w.ti w.la p ≤ zoomR was w.ro w.ti w.la p := by
  have hr := (askL_zero h).2
  have r1 := zoomR_range was w.ro w.ti w.la p
  cases hw : numsU w.ro w.ti w.la with
  | false => rw [zoomR_no hw, zoomR_no hw]; exact Int.le_refl _
  | true =>
    by_cases hz : zoomR is w.ro w.ti w.la p = 0
    · omega
    have hg := fits_in (zoom_fits hz)
    obtain ⟨n, hn512, hp⟩ := person_of hw
    have hs : someP ltB was is w = false := by
      rw [Bool.eq_false_iff]
      intro e
      have : w ∈ rsP was is := by
        unfold rsP whoP
        rw [if_pos h, List.take_of_length_le (pickW_len _ _)]
        exact List.mem_filter.2 ⟨List.mem_map.2 ⟨n, by simpa using hn512, hp⟩, e⟩
      have := List.any_eq_true.2 ⟨w, this, sameW_iff.2 rfl⟩
      rw [hn] at this
      cases this
    refine Classical.byContradiction fun hlt => ?_
    have := (someP_iff ltB (hr was (by simp)) (hr is (by simp)) w).2 ⟨p.x, p.y, hg, by unfold ltB; exact decide_eq_true (p := zoomR was w.ro w.ti w.la p < zoomR is w.ro w.ti w.la p) (by omega)⟩
    rw [hs] at this
    cases this
theorem any_take_succ {α : Type} {q : α → Bool} {xs : List α} {k : Nat} (h : k < xs.length) : (xs.take (k + 1)).any q = ((xs.take k).any q || q xs[k]) := by
  rw [List.take_succ_eq_append_getElem h, List.any_append]
  simp
def SfI (rs : List Wo) (w : Wo) (p : Pt) (was is : List Ru) (k : Nat) (F : Fr) (H : List Bk) : Prop := Stays [woB w, ptB2 p] H ∧ F = [(0, .v (slU was)), (1, .v (slU is)), (6, .v (.ptr 0 0)), (7, .v (.ptr 1 0)), (9, .v (slW rs)), (11, .v (.sc (.bool ((rs.take k).any (sameW w))))), (12, .v (.sc (.int .i64 k)))]
set_option maxHeartbeats 16000000 in
theorem safeLaw (was is : List Ru) (w : Wo) (p : Pt) (h1 : was.length ≤ 9223372036854775807) (h2 : is.length ≤ 9223372036854775807) (b1 : ∀ r ∈ was, r.boxes.length ≤ 4398046511104) (b2 : ∀ r ∈ is, r.boxes.length ≤ 4398046511104) :
    AFn Try.prog 7 [slU was, slU is, w.v, p.v] [] fun y _ => y = .sc (.bool true) := by
  have hK := lknownV
  have hS1 := lsmallV was h1 b1
  have hS2 := lsmallV is h2 b2
  have c1 := slU_closed was
  have c2 := slU_closed is
  have b1' : ∀ r ∈ was, r.boxes.length ≤ 9223372036854775807 := fun r hr => by have := b1 r hr; omega
  have b2' : ∀ r ∈ is, r.boxes.length ≤ 9223372036854775807 := fun r hr => by have := b2 r hr; omega
  cases s1 : smallV was with
  | false =>
    rw [s1] at hS1
    unfold Wo.v Wo.cs Pt.v Pt.cs
    refine AFn.intro (fn := Try.f7) (by kernel_rfl) rfl (by kernel_rfl) (by simp) (AW.ofx [] mixed (by kernel_rfl) ?_)
    simp only [Try.f7, argsF]
    simp
    refine callK.pure hS1 (by simp [V.closedL, V.closed, c1]) rfl ?_
    simp
    refine callK.pure hK rfl rfl ?_
    simp
  | true =>
    rw [s1] at hS1
    cases s2 : smallV is with
    | false =>
      rw [s2] at hS2
      unfold Wo.v Wo.cs Pt.v Pt.cs
      refine AFn.intro (fn := Try.f7) (by kernel_rfl) rfl (by kernel_rfl) (by simp) (AW.ofx [] mixed (by kernel_rfl) ?_)
      simp only [Try.f7, argsF]
      simp
      refine callK.pure hS1 (by simp [V.closedL, V.closed, c1]) rfl ?_
      simp
      refine callK.pure hS2 (by simp [V.closedL, V.closed, c2]) rfl ?_
      simp
      refine callK.pure hK rfl rfl ?_
      simp
    | true =>
      rw [s2] at hS2
      have m1 := of_decide_eq_true s1
      have m2 := of_decide_eq_true s2
      have hC := rrises was is h1 h2 b1' b2' (fun _ => ⟨by omega, by omega⟩)
      by_cases ha : askL [was, is] = 0
      · have hno := fun hn => not_told ha (w := w) hn p
        have hZ1 := refZoom was w.ro w.ti w.la p h1 b1'
        have hZ2 := refZoom is w.ro w.ti w.la p h2 b2'
        have hlen : (rsP was is).length ≤ 512 := by rw [rs_doc ha]; exact pickW_len _ _
        have cW := slW_closed (rsP was is)
        rw [ha] at hC
        generalize rsP was is = rs at *
        generalize zoomR was w.ro w.ti w.la p = za at *
        generalize zoomR is w.ro w.ti w.la p = zb at *
        unfold Pt.v Pt.cs at hZ1 hZ2 ⊢
        unfold Wo.v Wo.cs
        refine AFn.intro (fn := Try.f7) (by kernel_rfl) rfl (by kernel_rfl) (by simp) ?_
        simp only [Try.f7, argsF]
        refine AW.seq (AW.ofx [] mixed (by kernel_rfl) ?_)
        simp
        refine AW.seq (AW.ofx [] mixed (by kernel_rfl) ?_)
        simp
        refine callK.pure hS1 (by simp [V.closedL, V.closed, c1]) rfl ?_
        simp
        refine callK.pure hS2 (by simp [V.closedL, V.closed, c2]) rfl ?_
        simp
        refine AW.seq (AW.ofx [] mixed (by kernel_rfl) ?_)
        simp
        refine callK.pure hC (by simp [V.closedL, V.closed, c1, c2]) (by simp [V.closed, V.closedL, cW]) ?_
        simp [slW]
        refine AW.seq (AW.ofx [] mixed (by kernel_rfl) ?_)
        simp
        refine AW.seq (AW.ofx [] mixed (by kernel_rfl) ?_)
        simp
        refine AW.seq (AW.ofx [] mixed (by kernel_rfl) ?_)
        simp
        refine AW.count rs.length (SfI rs w p was is) ⟨_, ?_, .refl, rfl⟩ ?_
        · simp [subW, weakV, getF, slW]
        rintro k F H hk ⟨hst, rfl⟩
        have h0 : H[0]? = some (woB w) := hst.cells rfl
        have h1 : H[1]? = some (ptB2 p) := hst.cells rfl
        unfold woB at h0
        unfold ptB2 at h1
        refine AW.ofx [] mixed (by kernel_rfl) ?_
        by_cases hlt : k < rs.length
        · have w1 : IntKind.i64.wrap ((k : Int) + 1) = (k : Int) + 1 := by rw [wrap_i64] <;> omega
          have hrow := rowW' hlt
          have hst1 := any_take_succ (q := sameW w) hlt
          cases hb : (rs.take k).any (sameW w) with
          | true =>
            rw [hb, Bool.true_or] at hst1
            simp [slW, hlt, w1]
            refine ⟨_, ?_, hst, rfl⟩
            rw [hst1]
            simp [subW, weakV, getF, slW]
          | false =>
            rw [hb, Bool.false_or] at hst1
            unfold sameW at hst1
            simp only [Bool.and_true] at hst1
            have h0e := fun h => (List.getElem_eq_iff (i := 0) h).2 h0
            simp [slW, hlt, hrow, h0, h0e, eqWoP, gWoP, w1]
            refine ⟨_, ?_, hst, rfl⟩
            have e : ((rs.take (k + 1)).any (sameW w)) = (rs[k].ro == w.ro && (rs[k].ti == w.ti && rs[k].la == w.la)) := by
              rw [← hst1]
              congr 1
              funext r
              simp [sameW]
            rw [e]
            simp [subW, weakV, getF, slW]
        · have hk' : k = rs.length := by omega
          subst hk'
          rw [List.take_length]
          simp [slW]
          refine AW.seq (AW.ofx [] mixed (by kernel_rfl) ?_)
          simp [h0, h1]
          refine callK.pure hZ1 (by simp [V.closedL, V.closed, c1]) rfl ?_
          simp
          refine AW.seq (AW.ofx [] mixed (by kernel_rfl) ?_)
          simp [h0, h1]
          refine callK.pure hZ2 (by simp [V.closedL, V.closed, c2]) rfl ?_
          simp
          refine AW.ofx [] mixed (by kernel_rfl) ?_
          cases hb : rs.any (sameW w) with
          | true =>
            simp
            refine callK.pure hK rfl rfl ?_
            simp
          | false =>
            have := hno hb
            simp [this]
            refine callK.pure hK rfl rfl ?_
            simp
      · have e1 : rsP was is = [] := if_neg ha
        have hb : (askL [was, is] != 0) = true := by simpa using ha
        rw [e1] at hC
        generalize askL [was, is] = e at *
        unfold slW at hC
        unfold Wo.v Wo.cs Pt.v Pt.cs
        refine AFn.intro (fn := Try.f7) (by kernel_rfl) rfl (by kernel_rfl) (by simp) ?_
        simp only [Try.f7, argsF]
        refine AW.seq (AW.ofx [] mixed (by kernel_rfl) ?_)
        simp
        refine AW.seq (AW.ofx [] mixed (by kernel_rfl) ?_)
        simp
        refine callK.pure hS1 (by simp [V.closedL, V.closed, c1]) rfl ?_
        simp
        refine callK.pure hS2 (by simp [V.closedL, V.closed, c2]) rfl ?_
        simp
        refine AW.seq (AW.ofx [] mixed (by kernel_rfl) ?_)
        simp
        refine callK.pure hC (by simp [V.closedL, V.closed, c1, c2]) rfl ?_
        simp
        refine AW.seq (AW.ofx [] mixed (by kernel_rfl) ?_)
        simp [hb]
        refine callK.pure hK rfl rfl ?_
        simp
end Go.Proofs.Ytbcfoakceloenaa
