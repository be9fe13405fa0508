/- Review: the law ReviewPoints, walked. -/
import Derived.Test.YtbcfoakceloenaaDt
namespace Go.Proofs.Ytbcfoakceloenaa
set_option linter.all false
open Go.RowKit AM Can
set_option maxRecDepth 10000
attribute [local simp] aw_skip' aw_region' aw_seq' aw_cond' aw_block' aw_loop' aw_exit' aw_label' aw_ret' aops_nil' aops_cons' aop' aMove aAssign aPick aAlloc aBox aBuild slF aBuildSlice aLoad aLoadOwn aStore aStoreOwn isOwn delR aNilCheck aBin aMakeFunc aFieldAddr aField aIndexAddr aExtract aSliceOp aSlice aCallOp aCall' aLen aLenMap aDelete aMM aUn aConv aIface aAssert aMakeMap aLookup aMapUpdate aRange aNext aEntry entsOf keyB seekK aMakeSlice lookV aAppend putK layK eval evalV AM.valOf getF putF setF del SV.refers cellsAt rootSV plains shift ldV V.exact V.exactL V.ofValue V.ofPart V.ofCell V.cells V.one Value.oneCell' fitB qSeq qBlock getB afin aret resVs resV resTmps shareF evalS tupV valsS valsV pickV calm calmB lenV useOf feeds looks isT newsV partsV fillV putAt zerosV fitsNil nilB sliceB isEq isNeq awx_skip' awx_region' awx_seq' awx_cond' awx_block' awx_loop' awx_exit' awx_label' awx_ret' xops_nil' xops_cons' xop' xload xcall' addO delO inO putD memB Mix.effB Mix.laysB keysF badK subW weakV zeroRow yops_nil' yops_cons' yop' yload yindex yfield ylen oldO dropO takeO oldL exactB
attribute [local simp] awz_skip' awz_region' awz_seq' awz_cond' awz_block' awz_loop' awz_exit' awz_label' awz_ret' zops_nil' zops_cons' zop' zload zloadOwn zcall' z0 new0 remF old0 dltB

theorem boolEqV {x y : Operand} {u v : Bool} : binR Try.prog .eql 4 x y (.bool u) (.bool v) = some (.bool (u == v)) := by cases u <;> cases v <;> kernel_rfl
/-! ## Points in changes (plain) -/
theorem box_rightC {q : Int → Int → Bool} {a b : List Ru} {w : Wo} {o : List (Rc (Int × Int))} (h : Can.Form (FZ2 q a b w) o) {r : Rc (Int × Int)} (hr : r ∈ o) : rightR (boxC r) = true := by
  obtain ⟨h1, h2⟩ := h.corner hr
  have h3 := h.le hr
  have i1 := (FZ2_some.1 h1).1
  have i2 := (FZ2_some.1 h2).1
  unfold inG at i1 i2
  simp at i1 i2
  refine rightR_iff.2 ?_
  simp only [boxC]
  omega
theorem has_atC {r : Rc (Int × Int)} (hr : rightR (boxC r) = true) {p : Pt} : hasR (boxC r) p = true ↔ atR r p.x p.y := by
  rw [hasR_iff]
  unfold atR boxC at *
  simp only [hr, true_and]
  omega
theorem hit_z {q : Int → Int → Bool} {a b : List Ru} {w : Wo} {o : List (Rc (Int × Int))} (h : Can.Form (FZ2 q a b w) o) {r : Rc (Int × Int)} (hr : r ∈ o) {p : Pt} (hp : hasR (boxC r) p = true) : r.z.1 = zoomR a w.ro w.ti w.la p ∧ r.z.2 = zoomR b w.ro w.ti w.la p := by
  have := (h.iff p.x p.y r.z).2 ⟨r, hr, (has_atC (box_rightC h hr)).1 hp, rfl⟩
  obtain ⟨_, _, e1, e2⟩ := FZ2_some.1 this
  exact ⟨e1.symm, e2.symm⟩
def hitsC (o : List (Rc (Int × Int))) (p : Pt) : List (Rc (Int × Int)) := o.filter fun r => hasR (boxC r) p
theorem hits_one {q : Int → Int → Bool} {a b : List Ru} {w : Wo} {o : List (Rc (Int × Int))} (h : Can.Form (FZ2 q a b w) o) (p : Pt) : (hitsC o p).length ≤ 1 := by
  have hp := h.apart.filter (fun r => hasR (boxC r) p)
  have hm : ∀ r ∈ hitsC o p, atR r p.x p.y := fun r hr => by
    obtain ⟨h1, h2⟩ := List.mem_filter.1 hr
    exact (has_atC (box_rightC h h1)).1 h2
  change (hitsC o p).Pairwise _ at hp
  generalize hitsC o p = l at *
  match l, hp, hm with
  | [], _, _ => simp
  | [_], _, _ => simp
  | x :: y :: l, hp, hm =>
    have h1 := List.rel_of_pairwise_cons hp (a' := y) (by simp)
    have h2 := hm x (by simp)
    have h3 := hm y (by simp)
    unfold atR at h2 h3
    omega
theorem hits_ne {a b : List Ru} {w : Wo} {o : List (Rc (Int × Int))} (h : Can.Form (FZ2 neB a b w) o) {p : Pt} (hf : fits p = true) : (hitsC o p).length = 1 ↔ zoomR a w.ro w.ti w.la p ≠ zoomR b w.ro w.ti w.la p := by
  have h1 := hits_one h p
  have hg : inG p.x p.y = true := by
    unfold fits inside at hf
    unfold inG
    simp at hf ⊢
    omega
  constructor
  · intro e
    obtain ⟨r, hr⟩ := List.exists_mem_of_length_pos (l := hitsC o p) (by omega)
    obtain ⟨h2, h3⟩ := List.mem_filter.1 hr
    have := (h.iff p.x p.y r.z).2 ⟨r, h2, (has_atC (box_rightC h h2)).1 h3, rfl⟩
    obtain ⟨_, hq, e1, e2⟩ := FZ2_some.1 this
    change zoomR a w.ro w.ti w.la p = _ at e1
    change zoomR b w.ro w.ti w.la p = _ at e2
    rw [e1, e2]
    unfold neB at hq
    simpa using hq
  · intro hne
    have hz : FZ2 neB a b w p.x p.y = some (zoomR a w.ro w.ti w.la p, zoomR b w.ro w.ti w.la p) := FZ2_some.2 ⟨hg, by unfold neB; simpa using hne, rfl, rfl⟩
    obtain ⟨r, hr, ha, _⟩ := (h.iff _ _ _).1 hz
    have : r ∈ hitsC o p := List.mem_filter.2 ⟨hr, (has_atC (box_rightC h hr)).2 ha⟩
    have := List.length_pos_of_mem this
    omega
theorem hits_succ {o : List (Rc (Int × Int))} {p : Pt} {k : Nat} (h : k < o.length) : hitsC (o.take (k + 1)) p = if hasR (boxC o[k]) p = true then hitsC (o.take k) p ++ [o[k]] else hitsC (o.take k) p := filter_succ h
/-! ## The law -/
theorem chE_zero {was is : List Ru} {w : Wo} (h : chE was is w = 0) : askL [was, is] = 0 ∧ numsU w.ro w.ti w.la = true := by
  unfold chE at h
  split at h
  · rename_i h0
    refine ⟨h0, ?_⟩
    unfold argL at h
    split at h
    · assumption
    · cases h
  · rename_i h0
    exact absurd h h0
def PvI (qs : List (Rc (Int × Int))) (w : Wo) (p : Pt) (za zb : Int) (k : Nat) (F : Fr) (H : List Bk) : Prop := Stays [woB w, ptB2 p] H ∧ F = [(7, .v (.ptr 1 0)), (9, .v (slC qs)), (11, .v (.sc (.int .i64 za))), (12, .v (.sc (.int .i64 zb))), (13, .v (.sc (.int .i64 (hitsC (qs.take k) p).length))), (14, .v (.sc (.int .i64 k)))]
set_option maxHeartbeats 16000000 in
theorem pointsLawV (was is : List Ru) (w : Wo) (p : Pt) (h1 : was.length ≤ 9223372036854775807) (h2 : is.length ≤ 9223372036854775807) (b1 : ∀ r ∈ was, r.boxes.length ≤ 4398046511104) (b2 : ∀ r ∈ is, r.boxes.length ≤ 4398046511104) :
    AFn Try.prog 4 [slU was, slU is, w.v, p.v] [] fun y _ => y = .sc (.bool true) := by
  have hK := lknownV
  have hS1 := lsmallV was h1 b1
  have hS2 := lsmallV is h2 b2
  have c1 := slU_closed was
  have c2 := slU_closed is
  have b1' : ∀ r ∈ was, r.boxes.length ≤ 9223372036854775807 := fun r hr => by have := b1 r hr; omega
  have b2' : ∀ r ∈ is, r.boxes.length ≤ 9223372036854775807 := fun r hr => by have := b2 r hr; omega
  have hF := refFits p
  cases s1 : smallV was with
  | false =>
    rw [s1] at hS1
    unfold Wo.v Wo.cs Pt.v Pt.cs
    refine AFn.intro (fn := Try.f4) (by kernel_rfl) rfl (by kernel_rfl) (by simp) (AW.ofx [] mixed (by kernel_rfl) ?_)
    simp only [Try.f4, argsF]
    simp
    refine callK.pure hS1 (by simp [V.closedL, V.closed, c1]) rfl ?_
    simp
    refine callK.pure hK rfl rfl ?_
    simp
  | true =>
    rw [s1] at hS1
    cases s2 : smallV is with
    | false =>
      rw [s2] at hS2
      unfold Wo.v Wo.cs Pt.v Pt.cs
      refine AFn.intro (fn := Try.f4) (by kernel_rfl) rfl (by kernel_rfl) (by simp) (AW.ofx [] mixed (by kernel_rfl) ?_)
      simp only [Try.f4, argsF]
      simp
      refine callK.pure hS1 (by simp [V.closedL, V.closed, c1]) rfl ?_
      simp
      refine callK.pure hS2 (by simp [V.closedL, V.closed, c2]) rfl ?_
      simp
      refine callK.pure hK rfl rfl ?_
      simp
    | true =>
      rw [s2] at hS2
      have m1 := of_decide_eq_true s1
      have m2 := of_decide_eq_true s2
      have hC := rchanges was is w h1 h2 b1' b2' (fun _ => ⟨by omega, by omega⟩)
      have cC := slC_closed (chP was is w)
      have hZ1 := refZoom was w.ro w.ti w.la p h1 b1'
      have hZ2 := refZoom is w.ro w.ti w.la p h2 b2'
      by_cases he : chE was is w = 0
      · obtain ⟨ha, hn⟩ := chE_zero he
        rw [he] at hC
        cases hf : fits p with
        | false =>
          rw [hf] at hF
          generalize chP was is w = qs at *
          unfold Wo.v Wo.cs at hC ⊢
          unfold Pt.v Pt.cs at hF ⊢
          refine AFn.intro (fn := Try.f4) (by kernel_rfl) rfl (by kernel_rfl) (by simp) (AW.ofx [] mixed (by kernel_rfl) ?_)
          simp only [Try.f4, argsF]
          simp
          refine callK.pure hS1 (by simp [V.closedL, V.closed, c1]) rfl ?_
          simp
          refine callK.pure hS2 (by simp [V.closedL, V.closed, c2]) rfl ?_
          simp
          refine callK.pure hC (by simp [V.closedL, V.closed, c1, c2]) (by simp [V.closed, V.closedL, cC]) ?_
          simp [slC]
          refine callK.pure hF rfl rfl ?_
          simp
          refine callK.pure hK rfl rfl ?_
          simp
        | true =>
          rw [hf] at hF
          have hr := (askL_zero ha).2
          have hr1 := hr was (by simp)
          have hr2 := hr is (by simp)
          have e1 : chP was is w = ovP neB was is w := by unfold chP; rw [if_pos ⟨ha, hn⟩]
          have hlen := ovP_len neB was is w
          have hform := ovP_form neB hr1 hr2 w
          rw [e1] at hC cC
          have hone := hits_one hform p
          have hne := hits_ne hform hf
          have hhit := fun r (hr : r ∈ ovP neB was is w) => hit_z hform hr (p := p)
          clear hform e1
          generalize ovP neB was is w = qs at *
          generalize zoomR was w.ro w.ti w.la p = za at *
          generalize zoomR is w.ro w.ti w.la p = zb at *
          unfold Wo.v Wo.cs at hC ⊢
          unfold Pt.v Pt.cs at hF hZ1 hZ2 ⊢
          refine AFn.intro (fn := Try.f4) (by kernel_rfl) rfl (by kernel_rfl) (by simp) ?_
          simp only [Try.f4, argsF]
          refine AW.seq (AW.ofx [] mixed (by kernel_rfl) ?_)
          simp
          refine AW.seq (AW.ofx [] mixed (by kernel_rfl) ?_)
          simp
          refine callK.pure hS1 (by simp [V.closedL, V.closed, c1]) rfl ?_
          simp
          refine callK.pure hS2 (by simp [V.closedL, V.closed, c2]) rfl ?_
          simp
          refine AW.seq (AW.ofx [] mixed (by kernel_rfl) ?_)
          simp
          refine callK.pure hC (by simp [V.closedL, V.closed, c1, c2]) (by simp [V.closed, V.closedL, cC]) ?_
          simp [slC]
          refine AW.seq (AW.ofx [] mixed (by kernel_rfl) ?_)
          simp
          refine callK.pure hF rfl rfl ?_
          simp
          refine AW.seq (AW.ofx [] mixed (by kernel_rfl) ?_)
          simp
          refine callK.pure hZ1 (by simp [V.closedL, V.closed, c1]) rfl ?_
          simp
          refine AW.seq (AW.ofx [] mixed (by kernel_rfl) ?_)
          simp
          refine callK.pure hZ2 (by simp [V.closedL, V.closed, c2]) rfl ?_
          simp
          refine AW.seq (AW.ofx [] mixed (by kernel_rfl) ?_)
          simp
          refine AW.seq (AW.ofx [] mixed (by kernel_rfl) ?_)
          simp
          refine AW.count qs.length (PvI qs w p za zb) ⟨_, ?_, .refl, rfl⟩ ?_
          · simp [subW, weakV, getF, slC, hitsC]
          rintro k F H hk ⟨hst, rfl⟩
          have h1 : H[1]? = some (ptB2 p) := hst.cells rfl
          unfold ptB2 at h1
          refine AW.ofx [] mixed (by kernel_rfl) ?_
          by_cases hlt : k < qs.length
          · have w1 : IntKind.i64.wrap ((k : Int) + 1) = (k : Int) + 1 := by rw [wrap_i64] <;> omega
            have hrow := rowC' hlt
            have hsc := hits_succ (p := p) hlt
            have hHk := refHas (boxC qs[k]) p
            have hhk := hhit _ (List.getElem_mem hlt)
            have hle : (hitsC (qs.take k) p).length ≤ k := by
              have h1 := List.length_filter_le (fun r => hasR (boxC r) p) (qs.take k)
              rw [List.length_take] at h1
              unfold hitsC
              omega
            have w2 : IntKind.i64.wrap (((hitsC (qs.take k) p).length : Int) + 1) = ((hitsC (qs.take k) p).length : Int) + 1 := by rw [wrap_i64] <;> omega
            unfold Re.v Re.cs boxC Pt.v Pt.cs at hHk
            simp [slC, hlt, hrow, h1]
            refine callK.pure hHk rfl rfl ?_
            cases eh : hasR (boxC qs[k]) p with
            | false =>
              have eh' : hasR ⟨qs[k].x0, qs[k].y0, qs[k].x1, qs[k].y1⟩ p = false := eh
              rw [eh] at hsc
              simp at hsc
              simp [eh', w1, hlt]
              refine ⟨_, ?_, hst, rfl⟩
              rw [hsc]
              simp [subW, weakV, getF, slC]
            | true =>
              have eh' : hasR ⟨qs[k].x0, qs[k].y0, qs[k].x1, qs[k].y1⟩ p = true := eh
              rw [eh, if_pos rfl] at hsc
              obtain ⟨g1, g2⟩ := hhk eh
              have n1 : (qs[k].z.1 != za) = false := by simpa using g1
              have n2 : (qs[k].z.2 != zb) = false := by simpa using g2
              generalize hitsC (qs.take k) p = hs at *
              simp [eh', w1, w2, slC, hlt, hrow, n1, n2]
              refine ⟨_, ?_, hst, rfl⟩
              rw [hsc]
              simp [subW, weakV, getF, slC]
          · have hk' : k = qs.length := by omega
            subst hk'
            rw [List.take_length]
            generalize (hitsC qs p).length = n at *
            have hn1 : (n : Int) ≤ 1 := by omega
            have hb : (((n : Int) == 1) == (za != zb)) = true := by
              rw [beq_iff_eq, Bool.eq_iff_iff]
              simp only [beq_iff_eq, bne_iff_ne]
              rw [← hne]
              omega
            simp [slC]
            refine AW.ofx [] mixed (by kernel_rfl) ?_
            simp [slC, hn1, boolEqV, hb]
            refine callK.pure hK rfl rfl ?_
            simp
      · have hb : (chE was is w != 0) = true := by simpa using he
        generalize chE was is w = e at *
        generalize chP was is w = qs at *
        unfold Wo.v Wo.cs at hC ⊢
        unfold Pt.v Pt.cs
        refine AFn.intro (fn := Try.f4) (by kernel_rfl) rfl (by kernel_rfl) (by simp) (AW.ofx [] mixed (by kernel_rfl) ?_)
        simp only [Try.f4, argsF]
        simp
        refine callK.pure hS1 (by simp [V.closedL, V.closed, c1]) rfl ?_
        simp
        refine callK.pure hS2 (by simp [V.closedL, V.closed, c2]) rfl ?_
        simp
        refine callK.pure hC (by simp [V.closedL, V.closed, c1, c2]) (by simp [V.closed, V.closedL, cC]) ?_
        simp [slC, hb]
        refine callK.pure hK rfl rfl ?_
        simp
end Go.Proofs.Ytbcfoakceloenaa
