/- Review: the laws ReviewSafe and ReviewIdle, walked. -/
import Derived.Test.YtbcfoakceloenaaEa
import Derived.Test.YtbcfoakceloenaaDv
import Derived.Test.YtbcfoakceloenaaDy
namespace Go.Proofs.Ytbcfoakceloenaa
set_option linter.all false
open Go.RowKit AM Can
set_option maxRecDepth 10000
attribute [local simp] aw_skip' aw_region' aw_seq' aw_cond' aw_block' aw_loop' aw_exit' aw_label' aw_ret' aops_nil' aops_cons' aop' aMove aAssign aPick aAlloc aBox aBuild slF aBuildSlice aLoad aLoadOwn aStore aStoreOwn isOwn delR aNilCheck aBin aMakeFunc aFieldAddr aField aIndexAddr aExtract aSliceOp aSlice aCallOp aCall' aLen aLenMap aDelete aMM aUn aConv aIface aAssert aMakeMap aLookup aMapUpdate aRange aNext aEntry entsOf keyB seekK aMakeSlice lookV aAppend putK layK eval evalV AM.valOf getF putF setF del SV.refers cellsAt rootSV plains shift ldV V.exact V.exactL V.ofValue V.ofPart V.ofCell V.cells V.one Value.oneCell' fitB qSeq qBlock getB afin aret resVs resV resTmps shareF evalS tupV valsS valsV pickV calm calmB lenV useOf feeds looks isT newsV partsV fillV putAt zerosV fitsNil nilB sliceB isEq isNeq awx_skip' awx_region' awx_seq' awx_cond' awx_block' awx_loop' awx_exit' awx_label' awx_ret' xops_nil' xops_cons' xop' xload xcall' addO delO inO putD memB Mix.effB Mix.laysB keysF badK subW weakV zeroRow yops_nil' yops_cons' yop' yload yindex yfield ylen oldO dropO takeO oldL exactB
attribute [local simp] awz_skip' awz_region' awz_seq' awz_cond' awz_block' awz_loop' awz_exit' awz_label' awz_ret' zops_nil' zops_cons' zop' zload zloadOwn zcall' z0 new0 remF old0 dltB

theorem eqWoP (a b c a' b' c' : Int) : eqT Try.prog 10 24 (.agg #[.int .i64 a, .int .i64 b, .int .i64 c]) (.agg #[.int .i64 a', .int .i64 b', .int .i64 c']) = some (a == a' && (b == b' && (c == c' && true))) := by kernel_rfl
theorem gWoP : Try.prog.eqGuardType Try.prog.depth 24 = false := by kernel_rfl
def sameW (w r : Wo) : Bool := r.ro == w.ro && (r.ti == w.ti && (r.la == w.la && true))
theorem sameW_iff {w r : Wo} : sameW w r = true ↔ r = w := by
  obtain ⟨a, b, c⟩ := w
  obtain ⟨a', b', c'⟩ := r
  simp [sameW]
theorem person_of {w : Wo} (h : numsU w.ro w.ti w.la = true) : ∃ n, n < 512 ∧ personN n = w := by
  obtain ⟨a, b, c⟩ := w
  unfold numsU smallN at h
  simp at h
  obtain ⟨a', rfl⟩ : ∃ n : Nat, a = n := ⟨a.toNat, by omega⟩
  obtain ⟨b', rfl⟩ : ∃ n : Nat, b = n := ⟨b.toNat, by omega⟩
  obtain ⟨c', rfl⟩ : ∃ n : Nat, c = n := ⟨c.toNat, by omega⟩
  refine ⟨64 * a' + 8 * b' + c', by omega, ?_⟩
  rw [person_at (by omega) (by omega)]
theorem fits_in {p : Pt} (h : fits p = true) : inG p.x p.y = true := by
  unfold fits inside at h
  unfold inG
  simp at h ⊢
  omega
/-- Where someone is not told, nothing is seen more closely. -/
theorem not_told {was is : List Ru} (h : askL [was, is] = 0) {w : Wo} (hn : (rsP was is).any (sameW w) = false) (p : Pt) : zoomR is w.ro w.ti w.la p ≤ zoomR was w.ro w.ti w.la p := by
  have hr := (askL_zero h).2
  have r1 := zoomR_range was w.ro w.ti w.la p
  cases hw : numsU w.ro w.ti w.la with
  | false => rw [zoomR_no hw, zoomR_no hw]; exact Int.le_refl _
  | true =>
    by_cases hz : zoomR is w.ro w.ti w.la p = 0
    · omega
    have hg := fits_in (zoom_fits hz)
    obtain ⟨n, hn512, hp⟩ := person_of hw
    have hs : someP ltB was is w = false := by
      rw [Bool.eq_false_iff]
      intro e
      have : w ∈ rsP was is := by
        unfold rsP whoP
        rw [if_pos h, List.take_of_length_le (pickW_len _ _)]
        exact List.mem_filter.2 ⟨List.mem_map.2 ⟨n, by simpa using hn512, hp⟩, e⟩
      have := List.any_eq_true.2 ⟨w, this, sameW_iff.2 rfl⟩
      rw [hn] at this
      cases this
    refine Classical.byContradiction fun hlt => ?_
    have := (someP_iff ltB (hr was (by simp)) (hr is (by simp)) w).2 ⟨p.x, p.y, hg, by unfold ltB; exact decide_eq_true (p := zoomR was w.ro w.ti w.la p < zoomR is w.ro w.ti w.la p) (by omega)⟩
    rw [hs] at this
    cases this
theorem any_take_succ {α : Type} {q : α → Bool} {xs : List α} {k : Nat} (h : k < xs.length) : (xs.take (k + 1)).any q = ((xs.take k).any q || q xs[k]) := by
  rw [List.take_succ_eq_append_getElem h, List.any_append]
  simp
def SfI (rs : List Wo) (w : Wo) (p : Pt) (was is : List Ru) (k : Nat) (F : Fr) (H : List Bk) : Prop := Stays [woB w, ptB2 p] H ∧ F = [(0, .v (slU was)), (1, .v (slU is)), (6, .v (.ptr 0 0)), (7, .v (.ptr 1 0)), (9, .v (slW rs)), (11, .v (.sc (.bool ((rs.take k).any (sameW w))))), (12, .v (.sc (.int .i64 k)))]
set_option maxHeartbeats 16000000 in
theorem safeLaw (was is : List Ru) (w : Wo) (p : Pt) (h1 : was.length ≤ 9223372036854775807) (h2 : is.length ≤ 9223372036854775807) (b1 : ∀ r ∈ was, r.boxes.length ≤ 4398046511104) (b2 : ∀ r ∈ is, r.boxes.length ≤ 4398046511104) :
    AFn Try.prog 7 [slU was, slU is, w.v, p.v] [] fun y _ => y = .sc (.bool true) := by
  have hK := lknownV
  have hS1 := lsmallV was h1 b1
  have hS2 := lsmallV is h2 b2
  have c1 := slU_closed was
  have c2 := slU_closed is
  have b1' : ∀ r ∈ was, r.boxes.length ≤ 9223372036854775807 := fun r hr => by have := b1 r hr; omega
  have b2' : ∀ r ∈ is, r.boxes.length ≤ 9223372036854775807 := fun r hr => by have := b2 r hr; omega
  cases s1 : smallV was with
  | false =>
    rw [s1] at hS1
    unfold Wo.v Wo.cs Pt.v Pt.cs
    refine AFn.intro (fn := Try.f7) (by kernel_rfl) rfl (by kernel_rfl) (by simp) (AW.ofx [] mixed (by kernel_rfl) ?_)
    simp only [Try.f7, argsF]
    simp
    refine callK.pure hS1 (by simp [V.closedL, V.closed, c1]) rfl ?_
    simp
    refine callK.pure hK rfl rfl ?_
    simp
  | true =>
    rw [s1] at hS1
    cases s2 : smallV is with
    | false =>
      rw [s2] at hS2
      unfold Wo.v Wo.cs Pt.v Pt.cs
      refine AFn.intro (fn := Try.f7) (by kernel_rfl) rfl (by kernel_rfl) (by simp) (AW.ofx [] mixed (by kernel_rfl) ?_)
      simp only [Try.f7, argsF]
      simp
      refine callK.pure hS1 (by simp [V.closedL, V.closed, c1]) rfl ?_
      simp
      refine callK.pure hS2 (by simp [V.closedL, V.closed, c2]) rfl ?_
      simp
      refine callK.pure hK rfl rfl ?_
      simp
    | true =>
      rw [s2] at hS2
      have m1 := of_decide_eq_true s1
      have m2 := of_decide_eq_true s2
      have hC := rrises was is h1 h2 b1' b2' (fun _ => ⟨by omega, by omega⟩)
      by_cases ha : askL [was, is] = 0
      · have hno := fun hn => not_told ha (w := w) hn p
        have hZ1 := refZoom was w.ro w.ti w.la p h1 b1'
        have hZ2 := refZoom is w.ro w.ti w.la p h2 b2'
        have hlen : (rsP was is).length ≤ 512 := by rw [rs_doc ha]; exact pickW_len _ _
        have cW := slW_closed (rsP was is)
        rw [ha] at hC
        generalize rsP was is = rs at *
        generalize zoomR was w.ro w.ti w.la p = za at *
        generalize zoomR is w.ro w.ti w.la p = zb at *
        unfold Pt.v Pt.cs at hZ1 hZ2 ⊢
        unfold Wo.v Wo.cs
        refine AFn.intro (fn := Try.f7) (by kernel_rfl) rfl (by kernel_rfl) (by simp) ?_
        simp only [Try.f7, argsF]
        refine AW.seq (AW.ofx [] mixed (by kernel_rfl) ?_)
        simp
        refine AW.seq (AW.ofx [] mixed (by kernel_rfl) ?_)
        simp
        refine callK.pure hS1 (by simp [V.closedL, V.closed, c1]) rfl ?_
        simp
        refine callK.pure hS2 (by simp [V.closedL, V.closed, c2]) rfl ?_
        simp
        refine AW.seq (AW.ofx [] mixed (by kernel_rfl) ?_)
        simp
        refine callK.pure hC (by simp [V.closedL, V.closed, c1, c2]) (by simp [V.closed, V.closedL, cW]) ?_
        simp [slW]
        refine AW.seq (AW.ofx [] mixed (by kernel_rfl) ?_)
        simp
        refine AW.seq (AW.ofx [] mixed (by kernel_rfl) ?_)
        simp
        refine AW.seq (AW.ofx [] mixed (by kernel_rfl) ?_)
        simp
        refine AW.count rs.length (SfI rs w p was is) ⟨_, ?_, .refl, rfl⟩ ?_
        · simp [subW, weakV, getF, slW]
        rintro k F H hk ⟨hst, rfl⟩
        have h0 : H[0]? = some (woB w) := hst.cells rfl
        have h1 : H[1]? = some (ptB2 p) := hst.cells rfl
        unfold woB at h0
        unfold ptB2 at h1
        refine AW.ofx [] mixed (by kernel_rfl) ?_
        by_cases hlt : k < rs.length
        · have w1 : IntKind.i64.wrap ((k : Int) + 1) = (k : Int) + 1 := by rw [wrap_i64] <;> omega
          have hrow := rowW' hlt
          have hst1 := any_take_succ (q := sameW w) hlt
          cases hb : (rs.take k).any (sameW w) with
          | true =>
            rw [hb, Bool.true_or] at hst1
            simp [slW, hlt, w1]
            refine ⟨_, ?_, hst, rfl⟩
            rw [hst1]
            simp [subW, weakV, getF, slW]
          | false =>
            rw [hb, Bool.false_or] at hst1
            unfold sameW at hst1
            simp only [Bool.and_true] at hst1
            have h0e := fun h => (List.getElem_eq_iff (i := 0) h).2 h0
            simp [slW, hlt, hrow, h0, h0e, eqWoP, gWoP, w1]
            refine ⟨_, ?_, hst, rfl⟩
            have e : ((rs.take (k + 1)).any (sameW w)) = (rs[k].ro == w.ro && (rs[k].ti == w.ti && rs[k].la == w.la)) := by
              rw [← hst1]
              congr 1
              funext r
              simp [sameW]
            rw [e]
            simp [subW, weakV, getF, slW]
        · have hk' : k = rs.length := by omega
          subst hk'
          rw [List.take_length]
          simp [slW]
          refine AW.seq (AW.ofx [] mixed (by kernel_rfl) ?_)
          simp [h0, h1]
          refine callK.pure hZ1 (by simp [V.closedL, V.closed, c1]) rfl ?_
          simp
          refine AW.seq (AW.ofx [] mixed (by kernel_rfl) ?_)
          simp [h0, h1]
          refine callK.pure hZ2 (by simp [V.closedL, V.closed, c2]) rfl ?_
          simp
          refine AW.ofx [] mixed (by kernel_rfl) ?_
          cases hb : rs.any (sameW w) with
          | true =>
            simp
            refine callK.pure hK rfl rfl ?_
            simp
          | false =>
            have := hno hb
            simp [this]
            refine callK.pure hK rfl rfl ?_
            simp
      · have e1 : rsP was is = [] := if_neg ha
        have hb : (askL [was, is] != 0) = true := by simpa using ha
        rw [e1] at hC
        generalize askL [was, is] = e at *
        unfold slW at hC
        unfold Wo.v Wo.cs Pt.v Pt.cs
        refine AFn.intro (fn := Try.f7) (by kernel_rfl) rfl (by kernel_rfl) (by simp) ?_
        simp only [Try.f7, argsF]
        refine AW.seq (AW.ofx [] mixed (by kernel_rfl) ?_)
        simp
        refine AW.seq (AW.ofx [] mixed (by kernel_rfl) ?_)
        simp
        refine callK.pure hS1 (by simp [V.closedL, V.closed, c1]) rfl ?_
        simp
        refine callK.pure hS2 (by simp [V.closedL, V.closed, c2]) rfl ?_
        simp
        refine AW.seq (AW.ofx [] mixed (by kernel_rfl) ?_)
        simp
        refine callK.pure hC (by simp [V.closedL, V.closed, c1, c2]) rfl ?_
        simp
        refine AW.seq (AW.ofx [] mixed (by kernel_rfl) ?_)
        simp [hb]
        refine callK.pure hK rfl rfl ?_
        simp
end Go.Proofs.Ytbcfoakceloenaa
namespace Go.Proofs.Ytbcfoakceloenaa
set_option linter.all false
open Go.RowKit AM Can
set_option maxRecDepth 10000
attribute [local simp] aw_skip' aw_region' aw_seq' aw_cond' aw_block' aw_loop' aw_exit' aw_label' aw_ret' aops_nil' aops_cons' aop' aMove aAssign aPick aAlloc aBox aBuild slF aBuildSlice aLoad aLoadOwn aStore aStoreOwn isOwn delR aNilCheck aBin aMakeFunc aFieldAddr aField aIndexAddr aExtract aSliceOp aSlice aCallOp aCall' aLen aLenMap aDelete aMM aUn aConv aIface aAssert aMakeMap aLookup aMapUpdate aRange aNext aEntry entsOf keyB seekK aMakeSlice lookV aAppend putK layK eval evalV AM.valOf getF putF setF del SV.refers cellsAt rootSV plains shift ldV V.exact V.exactL V.ofValue V.ofPart V.ofCell V.cells V.one Value.oneCell' fitB qSeq qBlock getB afin aret resVs resV resTmps shareF evalS tupV valsS valsV pickV calm calmB lenV useOf feeds looks isT newsV partsV fillV putAt zerosV fitsNil nilB sliceB isEq isNeq awx_skip' awx_region' awx_seq' awx_cond' awx_block' awx_loop' awx_exit' awx_label' awx_ret' xops_nil' xops_cons' xop' xload xcall' addO delO inO putD memB Mix.effB Mix.laysB keysF badK subW weakV zeroRow yops_nil' yops_cons' yop' yload yindex yfield ylen oldO dropO takeO oldL exactB
attribute [local simp] awz_skip' awz_region' awz_seq' awz_cond' awz_block' awz_loop' awz_exit' awz_label' awz_ret' zops_nil' zops_cons' zop' zload zloadOwn zcall' z0 new0 remF old0 dltB

theorem ask_one (l : List Ru) : askL [l, []] = askL [l] := by
  have e1 : ([l, []].all fun l => decide (l.length ≤ 32)) = ([l].all fun l => decide (l.length ≤ 32)) := by simp
  have e2 : ([l, []].all fun l => l.all ruRight) = ([l].all fun l => l.all ruRight) := by simp
  unfold askL
  rw [e1, e2]
theorem restU_right {l : List Ru} (ha : l.all ruRight = true) (i : Nat) : (restU l i).all ruRight = true := List.all_eq_true.2 fun r hr => List.all_eq_true.1 ha r (restU_mem hr)
theorem clk_iff (l rest : List Ru) : clkD l rest 8 = decide (bitsN (cloakL l) = bitsN (cloakL rest)) := by
  rw [Bool.eq_iff_iff, decide_eq_true_iff]
  constructor
  · intro h
    have h := List.all_eq_true.1 h
    have : cloakL l = cloakL rest := by
      unfold cloakL
      refine List.map_congr_left fun n hn => ?_
      have := h n hn
      rw [beq_iff_eq] at this
      rw [cloaks_doc, cloaks_doc, this]
    rw [this]
  · intro h
    have h := bitsN_inj (by simp [cloakL]) h
    refine List.all_eq_true.2 fun n hn => ?_
    rw [beq_iff_eq, ← cloaks_doc, ← cloaks_doc]
    unfold cloakL at h
    exact List.map_inj_left.1 h n hn
theorem non_iff {l : List Ru} (ha : l.all ruRight = true) (i : Nat) : nonD l (restU l i) 512 = decide ((whoP neB l (restU l i) 1).length = 0) := by
  have hr := restU_right ha i
  rw [Bool.eq_iff_iff, decide_eq_true_iff]
  have hw : (whoP neB l (restU l i) 1).length = 0 ↔ ∀ n, n < 512 → someP neB l (restU l i) (personN n) = false := by
    unfold whoP
    rw [List.length_take]
    have : (pickW (someP neB l (restU l i)) 512).length = 0 ↔ ∀ n, n < 512 → someP neB l (restU l i) (personN n) = false := by
      unfold pickW
      rw [List.length_eq_zero_iff, List.filter_eq_nil_iff]
      constructor
      · intro h n hn
        have := h (personN n) (List.mem_map.2 ⟨n, by simpa using hn, rfl⟩)
        simpa using this
      · intro h w hw
        obtain ⟨n, hn, rfl⟩ := List.mem_map.1 hw
        rw [h n (by simpa using hn)]
        decide
    rw [← this]
    omega
  rw [hw]
  unfold nonD
  rw [List.all_eq_true]
  constructor
  · intro h n hn
    have := h n (by simpa using hn)
    rw [some_ne ha hr] at this
    simpa using this
  · intro h n hn
    rw [some_ne ha hr, h n (by simpa using hn)]
    rfl
theorem idle_doc {l : List Ru} (ha : l.all ruRight = true) (k : Nat) : idlD l k = idlK l k := by
  have : idleD l = idleB l := funext fun i => by
    unfold idleD idleB
    rw [clk_iff, non_iff ha]
  unfold idlD idlK
  rw [this]
/-- Without a rule that does nothing there is no change for anyone. -/
theorem idle_none {l : List Ru} (ha : l.all ruRight = true) {i : Nat} (hi : idleB l i = true) (w : Wo) : chP l (restU l i) w = [] := by
  unfold chP
  split
  · rename_i h
    obtain ⟨n, hn, hp⟩ := person_of h.2
    have h1 : nonD l (restU l i) 512 = true := by
      rw [non_iff ha]
      unfold idleB at hi
      rw [Bool.and_eq_true] at hi
      exact hi.2
    have h2 := List.all_eq_true.1 h1 n (by simpa using hn)
    rw [hp, some_ne ha (restU_right ha i)] at h2
    unfold someP at h2
    simp at h2
    exact h2
  · rfl
theorem idlK_mem {l : List Ru} {n : Nat} {x : Int} (h : x ∈ idlK l n) : ∃ i : Nat, x = i ∧ i < n ∧ idleB l i = true := by
  unfold idlK at h
  obtain ⟨i, hi, rfl⟩ := List.mem_map.1 h
  obtain ⟨h1, h2⟩ := List.mem_filter.1 hi
  exact ⟨i, rfl, by simpa using h1, h2⟩
def IlA (l : List Ru) (w : Wo) (xs : List Int) (k : Nat) (F : Fr) (H : List Bk) : Prop := Stays [woB w] H ∧ F = [(0, .v (slU l)), (3, .v (.ptr 0 0)), (5, .v (slI xs)), (7, .v (slI xs)), (8, .v (.sc (.int .i64 k)))]
def IlB (l : List Ru) (w : Wo) (xs : List Int) (k i : Nat) (j : Nat) (F : Fr) (H : List Bk) : Prop := Stays [woB w] H ∧ F = [(0, .v (slU l)), (3, .v (.ptr 0 0)), (5, .v (slI xs)), (7, .v (slI xs)), (8, .v (.sc (.int .i64 k))), (9, ownU (restK l i j)), (10, .v (.sc (.int .i64 j)))]
set_option maxHeartbeats 16000000 in
theorem idleLaw (l : List Ru) (w : Wo) (h1 : l.length ≤ 9223372036854775807) (b1 : ∀ r ∈ l, r.boxes.length ≤ 4398046511104) :
    AFn Try.prog 8 [slU l, w.v] [] fun y _ => y = .sc (.bool true) := by
  have hK := lknownV
  have hS1 := lsmallV l h1 b1
  have c1 := slU_closed l
  have b1' : ∀ r ∈ l, r.boxes.length ≤ 9223372036854775807 := fun r hr => by have := b1 r hr; omega
  cases s1 : smallV l with
  | false =>
    rw [s1] at hS1
    unfold Wo.v Wo.cs
    refine AFn.intro (fn := Try.f8) (by kernel_rfl) rfl (by kernel_rfl) (by simp) ?_
    simp only [Try.f8, argsF]
    refine AW.seq (AW.ofx [] mixed (by kernel_rfl) ?_)
    simp
    refine AW.seq (AW.ofx [] mixed (by kernel_rfl) ?_)
    simp
    refine callK.pure hS1 (by simp [V.closedL, V.closed, c1]) rfl ?_
    simp
    refine callK.pure hK rfl rfl ?_
    simp
  | true =>
    rw [s1] at hS1
    have m1 := of_decide_eq_true s1
    have hI := ridle l h1 b1' (fun _ => by omega)
    have hW := lwrongV l [] h1 (by simp) b1' (by simp)
    rw [ask_one] at hW
    have hW : PFn Try.prog 14 [slU l, .nil] (.sc (.int .i64 (askL [l]))) := AFn.weak hW (WeakL.cons (WeakL.nil0 (sz := 7) (WeakL.refl _)))
    have cI := slI_closed (idP l)
    by_cases ha : askL [l] = 0
    · have hr := (askL_zero ha).2 l (by simp)
      have hD := dIdle l (by omega) (by omega)
      rw [idle_doc hr] at hD
      have e1 : idP l = idlK l l.length := if_pos ha
      have hmem : ∀ x ∈ idlK l l.length, ∃ i : Nat, x = i ∧ i < l.length ∧ idleB l i = true := fun x hx => idlK_mem hx
      have hlen := idlK_len l l.length
      rw [e1, ha] at hI
      rw [e1] at cI
      rw [ha] at hW
      generalize idlK l l.length = xs at *
      have hC := fun i => rchanges l (restU l i) w h1 (Nat.le_trans (restU_len l i) h1) b1' (fun r hr => b1' r (restU_mem hr)) (fun _ => ⟨by omega, by have := restU_boxes l i; omega⟩)
      unfold Wo.v Wo.cs at hC ⊢
      refine AFn.intro (fn := Try.f8) (by kernel_rfl) rfl (by kernel_rfl) (by simp) ?_
      simp only [Try.f8, argsF]
      refine AW.seq (AW.ofx [] mixed (by kernel_rfl) ?_)
      simp
      refine AW.seq (AW.ofx [] mixed (by kernel_rfl) ?_)
      simp
      refine callK.pure hS1 (by simp [V.closedL, V.closed, c1]) rfl ?_
      simp
      refine AW.seq (AW.ofx [] mixed (by kernel_rfl) ?_)
      simp
      refine callK.pure hI (by simp [V.closedL, V.closed, c1]) (by simp [V.closed, V.closedL, cI]) ?_
      simp [slI]
      refine AW.seq (AW.ofx [] mixed (by kernel_rfl) ?_)
      simp
      refine callK.pure hW (by simp [V.closedL, V.closed, c1]) rfl ?_
      simp
      refine AW.seq (AW.ofx [] mixed (by kernel_rfl) ?_)
      simp
      refine callK.pure hD (by simp [V.closedL, V.closed, c1]) cI ?_
      simp
      refine AW.seq (AW.ofx [] mixed (by kernel_rfl) ?_)
      simp [slI]
      refine AW.seq (AW.ofx [] mixed (by kernel_rfl) ?_)
      simp
      refine AW.count xs.length (IlA l w xs) ⟨_, ?_, .refl, rfl⟩ ?_
      · simp [subW, weakV, getF, slI]
      rintro k F H hk ⟨hst, rfl⟩
      refine AW.seq (AW.ofx [] mixed (by kernel_rfl) ?_)
      have w1 : IntKind.i64.wrap ((k : Int) + 1) = (k : Int) + 1 := by rw [wrap_i64] <;> omega
      by_cases hlt : k < xs.length
      rotate_left
      · have hk' : k = xs.length := by omega
        subst hk'
        simp [slI]
        refine AW.ofx [] mixed (by kernel_rfl) ?_
        simp
        refine callK.pure hK rfl rfl ?_
        simp
      have hrow := rowI hlt
      obtain ⟨i, hxi, hil, hidle⟩ := hmem _ (List.getElem_mem hlt)
      have hCi := hC i
      rw [idle_none hr hidle] at hCi
      have n1 : ¬ (i : Int) < 0 := by omega
      have n2 : ¬ (l.length : Int) ≤ i := by omega
      rw [hxi] at hrow
      simp [slI, hlt]
      refine AW.seq (AW.block (AW.seq (AW.ofx [] mixed (by kernel_rfl) ?_)))
      simp [slI, slU, hlt, hrow, n1, n2]
      refine AW.seq (AW.ofx [] mixed (by kernel_rfl) ?_)
      simp
      refine AW.seq (AW.ofx [] mixed (by kernel_rfl) ?_)
      simp
      refine AW.count l.length (IlB l w xs k i) ⟨_, ?_, hst, rfl⟩ ?_
      · simp [subW, weakV, getF, slU, ownU, slI, restK, zeroRow]
      clear hst
      rintro j F H hj ⟨hst, rfl⟩
      have h0 : H[0]? = some (woB w) := hst.cells rfl
      unfold woB at h0
      by_cases hjl : j < l.length
      · have w2 : IntKind.i64.wrap ((j : Int) + 1) = (j : Int) + 1 := by rw [wrap_i64] <;> omega
        have hru := rowU hjl
        have hrl := restK_len l i j
        refine AW.ofx [] mixed (by kernel_rfl) ?_
        by_cases hne : j = i
        · subst hne
          simp [slU, ownU, slI, hlt, hrow, hjl, w2]
          refine ⟨_, ?_, hst, rfl⟩
          rw [restK_same]
          simp [subW, weakV, getF, slU, ownU, slI]
        · have hne2 : ¬ (j : Int) = (i : Int) := by omega
          have hb : ((j : Int) != (i : Int)) = true := by simp [hne2]
          have hrs := restK_more hjl hne
          simp [slU, ownU, slI, hlt, hrow, hjl, hru, hne2, hne, hb, w2]
          refine ⟨⟨by omega, by omega⟩, _, ?_, hst, rfl⟩
          rw [hrs]
          simp [subW, weakV, getF, slU, ownU, slI, Ru.cs]
      have hj' : j = l.length := by omega
      subst hj'
      refine AW.ofx [] mixed (by kernel_rfl) ?_
      rw [restK_all l hil]
      simp [slU, ownU, slI]
      have c2 := slU_closed (restU l i)
      generalize restU l i = rest at *
      refine AW.asSl 9 rfl ?_
      simp [setF]
      refine AW.seq (AW.ofx [] mixed (by kernel_rfl) ?_)
      simp [h0]
      refine callK.pure hCi (by simp only [slU, V.closed] at c1 c2; simp [V.closedL, V.closed, c1, c2]) rfl ?_
      simp [slC]
      refine AW.ofx [] mixed (by kernel_rfl) ?_
      simp
      refine AW.ofx [] mixed (by kernel_rfl) ?_
      simp [w1]
      refine ⟨_, ?_, hst, rfl⟩
      simp [subW, weakV, getF, slU, slI]
    · have e1 : idP l = [] := if_neg ha
      have ha1 : askL [l] = 1 := by
        unfold askL at ha ⊢
        rw [if_pos (by simp; omega)] at ha ⊢
        split
        · rename_i h; rw [if_pos h] at ha; exact absurd rfl ha
        · rfl
      rw [e1, ha1] at hI
      rw [ha1] at hW
      unfold Wo.v Wo.cs
      refine AFn.intro (fn := Try.f8) (by kernel_rfl) rfl (by kernel_rfl) (by simp) ?_
      simp only [Try.f8, argsF]
      refine AW.seq (AW.ofx [] mixed (by kernel_rfl) ?_)
      simp
      refine AW.seq (AW.ofx [] mixed (by kernel_rfl) ?_)
      simp
      refine callK.pure hS1 (by simp [V.closedL, V.closed, c1]) rfl ?_
      simp
      refine AW.seq (AW.ofx [] mixed (by kernel_rfl) ?_)
      simp
      refine callK.pure hI (by simp [V.closedL, V.closed, c1]) rfl ?_
      simp [slI, ints]
      refine AW.seq (AW.ofx [] mixed (by kernel_rfl) ?_)
      simp
      refine callK.pure hW (by simp [V.closedL, V.closed, c1]) rfl ?_
      simp
      refine callK.pure hK rfl rfl ?_
      simp
end Go.Proofs.Ytbcfoakceloenaa
