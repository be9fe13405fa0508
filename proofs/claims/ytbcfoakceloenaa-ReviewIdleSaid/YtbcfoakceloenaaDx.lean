/- Review: whether there is a point, and for whom, by the document. -/
import Derived.Test.YtbcfoakceloenaaDq
import Derived.Test.YtbcfoakceloenaaNu
namespace Go.Proofs.Ytbcfoakceloenaa
set_option linter.all false
open Go.RowKit AM Can
/-- What holds behind a stretch, by a name: the walk need not look into it. -/
theorem AM.AW.post {P : Program} {N : Nat} {x : Code} {Q : Exit → St → Prop} {s : St} (h : ∀ Q', Q' = Q → AW P N x Q' s) : AW P N x Q s := h Q rfl
set_option maxRecDepth 10000
attribute [local simp] aw_skip' aw_region' aw_seq' aw_cond' aw_block' aw_loop' aw_exit' aw_label' aw_ret' aops_nil' aops_cons' aop' aMove aAssign aPick aAlloc aBox aBuild slF aBuildSlice aLoad aLoadOwn aStore aStoreOwn isOwn delR aNilCheck aBin aMakeFunc aFieldAddr aField aIndexAddr aExtract aSliceOp aSlice aCallOp aCall' aLen aLenMap aDelete aMM aUn aConv aIface aAssert aMakeMap aLookup aMapUpdate aRange aNext aEntry entsOf keyB seekK aMakeSlice lookV aAppend putK layK eval evalV AM.valOf getF putF setF del SV.refers cellsAt rootSV plains shift ldV V.exact V.exactL V.ofValue V.ofPart V.ofCell V.cells V.one Value.oneCell' fitB qSeq qBlock getB afin aret resVs resV resTmps shareF evalS tupV valsS valsV pickV calm calmB lenV useOf feeds looks isT newsV partsV fillV putAt zerosV fitsNil nilB sliceB isEq isNeq awx_skip' awx_region' awx_seq' awx_cond' awx_block' awx_loop' awx_exit' awx_label' awx_ret' xops_nil' xops_cons' xop' xload xcall' addO delO inO putD memB Mix.effB Mix.laysB keysF badK subW weakV zeroRow yops_nil' yops_cons' yop' yload yindex yfield ylen oldO dropO takeO oldL exactB
attribute [local simp] awz_skip' awz_region' awz_seq' awz_cond' awz_block' awz_loop' awz_exit' awz_label' awz_ret' zops_nil' zops_cons' zop' zload zloadOwn zcall' z0 new0 remF old0 dltB

theorem docB_rightF (was is : List Ru) (w : Wo) : ∀ b ∈ docB (forL was w.ro w.ti w.la) (forL is w.ro w.ti w.la), rightR b = true := fun b hb => by
  rcases List.mem_append.1 hb with hb | hb
  · exact forL_boxes b hb
  · exact forL_boxes b hb
def qB (both : Bool) (a b : Int) : Bool := decide (a < b) || (both && a != b)
def hitD (both : Bool) (a b : List Ru) (w : Wo) (xs ys : List Int) (i j : Nat) : Bool := qB both (zoomR a w.ro w.ti w.la ⟨xs.getD i 0, ys.getD j 0⟩) (zoomR b w.ro w.ti w.la ⟨xs.getD i 0, ys.getD j 0⟩)
def someXY (both : Bool) (a b : List Ru) (w : Wo) (xs ys : List Int) : Bool := (List.range (xs.length - 1)).any fun i => (List.range (ys.length - 1)).any fun j => hitD both a b w xs ys i j
def someD (both : Bool) (was is : List Ru) (w : Wo) : Bool := someXY both (forL was w.ro w.ti w.la) (forL is w.ro w.ti w.la) w (edgesR (docB (forL was w.ro w.ti w.la) (forL is w.ro w.ti w.la)) false) (edgesR (docB (forL was w.ro w.ti w.la) (forL is w.ro w.ti w.la)) true)
theorem someXY_of {both : Bool} {a b : List Ru} {w : Wo} {xs ys : List Int} {i j : Nat} (hi : i < xs.length - 1) (hj : j < ys.length - 1) (h : hitD both a b w xs ys i j = true) : someXY both a b w xs ys = true :=
  List.any_eq_true.2 ⟨i, by simpa using hi, List.any_eq_true.2 ⟨j, by simpa using hj, h⟩⟩
theorem someXY_no {both : Bool} {a b : List Ru} {w : Wo} {xs ys : List Int} (h : ∀ i, i < xs.length - 1 → ∀ j, j < ys.length - 1 → hitD both a b w xs ys i j = false) : someXY both a b w xs ys = false := by
  rw [Bool.eq_false_iff]
  intro e
  obtain ⟨i, hi, e⟩ := List.any_eq_true.1 e
  obtain ⟨j, hj, e⟩ := List.any_eq_true.1 e
  rw [h i (by simpa using hi) j (by simpa using hj)] at e
  cases e
def SdI (both : Bool) (a b : List Ru) (w : Wo) (xs ys : List Int) (i : Nat) (F : Fr) (H : List Bk) : Prop := ((∀ i', i' < i → ∀ j, j < ys.length - 1 → hitD both a b w xs ys i' j = false) ∧ Stays [woB w] H) ∧
  F = [(3, .v (.sc (.bool both))), (6, .v (.ptr 0 0)), (8, .v (.sc (.bool false))), (9, .v (slU a)), (10, .v (slU b)), (12, .v (slI xs)), (13, .v (slI ys)), (14, .v (.sc (.int .i64 i)))]
def SdJ (both : Bool) (a b : List Ru) (w : Wo) (xs ys : List Int) (i j : Nat) (F : Fr) (H : List Bk) : Prop := ((∀ i', i' < i → ∀ j, j < ys.length - 1 → hitD both a b w xs ys i' j = false) ∧ (∀ j', j' < j → hitD both a b w xs ys i j' = false) ∧ Stays [woB w] H) ∧
  F = [(3, .v (.sc (.bool both))), (6, .v (.ptr 0 0)), (8, .v (.sc (.bool false))), (9, .v (slU a)), (10, .v (slU b)), (12, .v (slI xs)), (13, .v (slI ys)), (14, .v (.sc (.int .i64 i))), (15, .v (.sc (.int .i64 j)))]
set_option maxHeartbeats 16000000 in
theorem dSome (both : Bool) (was is : List Ru) (w : Wo) (h1 : was.length ≤ 1000) (h2 : is.length ≤ 1000) (n1 : (boxesU was).length ≤ 1000) (n2 : (boxesU is).length ≤ 1000) :
    PFn Try.prog 44 [slU was, slU is, w.v, .sc (.bool both)] (.sc (.bool (someD both was is w))) := by
  have hM1 := dMine was w (by omega) (fun r hr => by have := mem_le n1 r hr; omega)
  have hM2 := dMine is w (by omega) (fun r hr => by have := mem_le n2 r hr; omega)
  have l1 := forL_len was w
  have l2 := forL_len is w
  have e1 : (boxesU (forL was w.ro w.ti w.la)).length ≤ (boxesU was).length := filter_flat_len
  have e2 : (boxesU (forL is w.ro w.ti w.la)).length ≤ (boxesU is).length := filter_flat_len
  have hr := docB_rightF was is w
  have c1 := slU_closed was
  have c2 := slU_closed is
  unfold someD
  generalize forL was w.ro w.ti w.la = a at *
  generalize forL is w.ro w.ti w.la = b at *
  have c3 := slU_closed a
  have c4 := slU_closed b
  have hB := dBoxes a b (by omega) (by omega) (by omega) (by omega)
  have hnb : (docB a b).length ≤ 2000 := by unfold docB; rw [List.length_append]; omega
  have hE := fun d => refEdges (docB a b) [] d (by omega) (by simp) hr (by simp)
  have cb := slR_closed (docB a b)
  have cx := slI_closed (edgesR (docB a b) false)
  have cy := slI_closed (edgesR (docB a b) true)
  have hx0 : 0 < (edgesR (docB a b) false).length := List.length_pos_of_mem (((edgesR_spec (docB a b) false).2 0).2 (.inl rfl))
  have hy0 : 0 < (edgesR (docB a b) true).length := List.length_pos_of_mem (((edgesR_spec (docB a b) true).2 0).2 (.inl rfl))
  have hlx := edgesR_len false (docB a b)
  have hly := edgesR_len true (docB a b)
  change PFn _ _ _ (slR (docB a b)) at hB
  simp only [List.append_nil] at hE
  have hEx : PFn Try.prog 36 [slR (docB a b), .sl 0 4 [], .sc (.bool false)] (slI (edgesR (docB a b) false)) := hE false
  have hEy : PFn Try.prog 36 [slR (docB a b), .sl 0 4 [], .sc (.bool true)] (slI (edgesR (docB a b) true)) := hE true
  have hZa := fun x y => dZoom a w x y (by omega) (fun r hr => by have := mem_le (Nat.le_trans e1 n1) r hr; omega)
  have hZb := fun x y => dZoom b w x y (by omega) (fun r hr => by have := mem_le (Nat.le_trans e2 n2) r hr; omega)
  clear hE
  generalize edgesR (docB a b) false = xs at *
  generalize edgesR (docB a b) true = ys at *
  unfold Wo.v Wo.cs at hM1 hM2 hZa hZb ⊢
  refine AFn.intro (fn := Try.f44) (by kernel_rfl) rfl (by kernel_rfl) (by simp) ?_
  simp only [Try.f44, argsF]
  refine AW.seq (AW.ofx [] mixed (by kernel_rfl) ?_)
  simp
  refine AW.seq (AW.ofx [] mixed (by kernel_rfl) ?_)
  simp
  refine callK.pure hM1 (by simp [V.closedL, V.closed, c1]) c3 ?_
  simp
  refine AW.seq (AW.ofx [] mixed (by kernel_rfl) ?_)
  simp
  refine callK.pure hM2 (by simp [V.closedL, V.closed, c2]) c4 ?_
  simp
  refine AW.seq (AW.ofx [] mixed (by kernel_rfl) ?_)
  simp
  refine callK.pure hB (by simp [V.closedL, V.closed, c3, c4]) cb ?_
  simp
  refine AW.seq (AW.ofx [] mixed (by kernel_rfl) ?_)
  simp
  refine callK.pure hEx (by simp [V.closedL, V.closed, cb]) cx ?_
  simp
  refine AW.seq (AW.ofx [] mixed (by kernel_rfl) ?_)
  simp
  refine callK.pure hEy (by simp [V.closedL, V.closed, cb]) cy ?_
  simp
  refine AW.seq (AW.ofx [] mixed (by kernel_rfl) ?_)
  simp
  refine AW.count (xs.length - 1) (SdI both a b w xs ys) ⟨_, ?_, ⟨fun i' h => by omega, .refl⟩, rfl⟩ ?_
  · simp [subW, weakV, getF]
  rintro i F H hi ⟨⟨hno, hst⟩, rfl⟩
  have h0 : H[0]? = some (woB w) := hst.cells rfl
  unfold woB at h0
  refine AW.ofx [] mixed (by kernel_rfl) ?_
  have w1 : IntKind.i64.wrap ((i : Int) + 1) = (i : Int) + 1 := by rw [wrap_i64] <;> omega
  by_cases hlt : i + 1 < xs.length
  · have hlt1 : i < xs.length := by omega
    have hlt2 : (i : Int) + 1 < xs.length := by omega
    have hr1 := rowI hlt1
    have hgx : xs.getD i 0 = xs[i] := by rw [List.getD_eq_getElem?_getD, List.getElem?_eq_getElem hlt1]; rfl
    simp [slI, w1, hlt2]
    refine AW.count (ys.length - 1) (SdJ both a b w xs ys i) ⟨_, ?_, ⟨hno, fun j' h => by omega, hst⟩, rfl⟩ ?_
    · simp [subW, weakV, getF, slI]
    clear h0
    rintro j F H2 hj ⟨⟨_, hnoj, hst2⟩, rfl⟩
    have h0 : H2[0]? = some (woB w) := hst2.cells rfl
    unfold woB at h0
    refine AW.seq (AW.ofx [] mixed (by kernel_rfl) ?_)
    have w2 : IntKind.i64.wrap ((j : Int) + 1) = (j : Int) + 1 := by rw [wrap_i64] <;> omega
    by_cases hjl : j + 1 < ys.length
    · have hj1 : j < ys.length := by omega
      have hj2 : (j : Int) + 1 < ys.length := by omega
      have hrj := rowI hj1
      have hgy : ys.getD j 0 = ys[j] := by rw [List.getD_eq_getElem?_getD, List.getElem?_eq_getElem hj1]; rfl
      have hza := hZa xs[i] ys[j]
      have hzb := hZb xs[i] ys[j]
      have hhit : hitD both a b w xs ys i j = qB both (zoomR a w.ro w.ti w.la ⟨xs[i], ys[j]⟩) (zoomR b w.ro w.ti w.la ⟨xs[i], ys[j]⟩) := by unfold hitD; rw [hgx, hgy]
      generalize zoomR a w.ro w.ti w.la ⟨xs[i], ys[j]⟩ = za at *
      generalize zoomR b w.ro w.ti w.la ⟨xs[i], ys[j]⟩ = zb at *
      simp [slI, w2, hj2]
      refine AW.seq (AW.block (AW.seq (AW.ofx [] mixed (by kernel_rfl) ?_)))
      simp [slI, hlt1, hr1, hj1, hrj, h0]
      refine callK.pure hza (by simp [V.closedL, V.closed, c3]) rfl ?_
      simp
      refine AW.seq (AW.ofx [] mixed (by kernel_rfl) ?_)
      simp [slI, hlt1, hr1, hj1, hrj, h0]
      refine callK.pure hzb (by simp [V.closedL, V.closed, c4]) rfl ?_
      simp
      refine AW.ofx [] mixed (by kernel_rfl) ?_
      by_cases hab : za < zb
      · have hs : someXY both a b w xs ys = true := someXY_of (i := i) (j := j) (by omega) (by omega) (by rw [hhit]; simp [qB, hab])
        simp [hab, hs]
      · cases both with
        | false =>
          have hh : hitD false a b w xs ys i j = false := by rw [hhit]; simp [qB, hab]
          simp [hab]
          refine AW.ofx [] mixed (by kernel_rfl) ?_
          simp [w2]
          refine ⟨by omega, _, ?_, ⟨hno, fun j' h' => ?_, hst2⟩, rfl⟩
          · simp [subW, weakV, getF, slI]
          · by_cases e : j' = j
            · subst e; exact hh
            · exact hnoj j' (by omega)
        | true =>
          by_cases hne : za = zb
          · have hh : hitD true a b w xs ys i j = false := by rw [hhit]; simp [qB, hab, hne]
            have hne' : (za != zb) = false := by simpa using hne
            simp [hab, hne']
            refine AW.ofx [] mixed (by kernel_rfl) ?_
            simp [w2]
            refine ⟨by omega, _, ?_, ⟨hno, fun j' h' => ?_, hst2⟩, rfl⟩
            · simp [subW, weakV, getF, slI]
            · by_cases e : j' = j
              · subst e; exact hh
              · exact hnoj j' (by omega)
          · have hs : someXY true a b w xs ys = true := someXY_of (i := i) (j := j) (by omega) (by omega) (by rw [hhit]; simp [qB, hne])
            have hne' : (za != zb) = true := by simpa using hne
            simp [hab, hne', hs]
    · have hj' : j = ys.length - 1 := by omega
      have hj2 : ¬ (j : Int) + 1 < ys.length := by omega
      simp [slI, w2, hj2, w1]
      refine ⟨by omega, _, ?_, ⟨fun i' h' => ?_, hst2⟩, rfl⟩
      · simp [subW, weakV, getF, slI]
      · by_cases e : i' = i
        · subst e; exact fun j' hj'' => hnoj j' (by omega)
        · exact hno i' (by omega)
  · have hi' : i = xs.length - 1 := by omega
    have hlt2 : ¬ (i : Int) + 1 < xs.length := by omega
    have hs : someXY both a b w xs ys = false := someXY_no fun i' h' j hj => hno i' (by omega) j hj
    simp [slI, w1, hlt2]
    refine AW.ofx [] mixed (by kernel_rfl) ?_
    simp [hs]
/-! ## It is the program's answer -/
theorem floor_at {xs : List Int} {l : List Re} {d : Bool} (h : CutG l d xs) {x : Int} (hx : 0 ≤ x ∧ x < 65536) : ∃ i, ∃ hi : i + 1 < xs.length, ∀ c ∈ xs, c ≤ x ↔ c ≤ xs[i] := by
  obtain ⟨g, hg, h1, h2⟩ := floor_of (xs := xs) (x := x) ⟨0, h.zero, hx.1⟩
  obtain ⟨i, hi, rfl⟩ := List.getElem_of_mem hg
  refine ⟨i, ?_, h2⟩
  refine Classical.byContradiction fun hn => ?_
  obtain ⟨k, hk, hke⟩ := List.getElem_of_mem h.top
  have := (h2 _ h.top)
  by_cases e : k = i
  · subst e
    omega
  · have := pair_lt h.lt (i := k) (j := i) hk hi (by omega)
    omega
theorem someXY_iff {both : Bool} {a b : List Ru} {w : Wo} {xs ys : List Int} (ha : a.all ruRight = true) (hb : b.all ruRight = true) (hx : CutG (boxesU a ++ boxesU b) false xs) (hy : CutG (boxesU a ++ boxesU b) true ys) :
    someXY both a b w xs ys = true ↔ ∃ x y, inG x y = true ∧ qB both (zoomR a w.ro w.ti w.la ⟨x, y⟩) (zoomR b w.ro w.ti w.la ⟨x, y⟩) = true := by
  constructor
  · intro e
    obtain ⟨i, hi, e⟩ := List.any_eq_true.1 e
    obtain ⟨j, hj, e⟩ := List.any_eq_true.1 e
    simp only [List.mem_range] at hi hj
    have hi1 : i < xs.length := by omega
    have hj1 : j < ys.length := by omega
    have g1 := CutG.cut_in ha hb hx (k := i) (by omega)
    have g2 := CutG.cut_in ha hb hy (k := j) (by omega)
    have e1 : xs.getD i 0 = xs[i] := by rw [List.getD_eq_getElem?_getD, List.getElem?_eq_getElem hi1]; rfl
    have e2 : ys.getD j 0 = ys[j] := by rw [List.getD_eq_getElem?_getD, List.getElem?_eq_getElem hj1]; rfl
    unfold hitD at e
    rw [e1, e2] at e
    exact ⟨xs[i], ys[j], by unfold inG; simp; omega, e⟩
  · rintro ⟨x, y, hg, e⟩
    unfold inG at hg
    simp at hg
    obtain ⟨i, hi, hfx⟩ := floor_at hx hg.1
    obtain ⟨j, hj, hfy⟩ := floor_at hy hg.2
    have e1 : xs.getD i 0 = xs[i] := by rw [List.getD_eq_getElem?_getD, List.getElem?_eq_getElem (by omega)]; rfl
    have e2 : ys.getD j 0 = ys[j] := by rw [List.getD_eq_getElem?_getD, List.getElem?_eq_getElem (by omega)]; rfl
    refine someXY_of (i := i) (j := j) (by omega) (by omega) ?_
    unfold hitD
    rw [e1, e2]
    rw [← zoom_sameX ha (fun c hc => hx.ends c (List.mem_append.2 (.inl hc))) hfx, ← zoom_sameX hb (fun c hc => hx.ends c (List.mem_append.2 (.inr hc))) hfx, ← zoom_sameY ha (fun c hc => hy.ends c (List.mem_append.2 (.inl hc))) hfy, ← zoom_sameY hb (fun c hc => hy.ends c (List.mem_append.2 (.inr hc))) hfy]
    exact e
theorem qB_false (a b : Int) : qB false a b = ltB a b := by simp [qB, ltB]
theorem qB_true (a b : Int) : qB true a b = neB a b := by
  unfold qB neB
  by_cases h : a = b
  · subst h; simp
  · simp [h]
theorem some_doc (both : Bool) {was is : List Ru} (ha : was.all ruRight = true) (hb : is.all ruRight = true) (w : Wo) : someD both was is w = someP (fun a b => qB both a b) was is w := by
  rw [Bool.eq_iff_iff, someP_iff _ ha hb]
  have hr := docB_rightF was is w
  have := someXY_iff (both := both) (w := w) (forL_right was w.ro w.ti w.la) (forL_right is w.ro w.ti w.la) (edgesR_cut hr false) (edgesR_cut hr true)
  unfold someD
  rw [this]
  simp only [zoom_forL ha, zoom_forL hb]
theorem some_lt {was is : List Ru} (ha : was.all ruRight = true) (hb : is.all ruRight = true) (w : Wo) : someD false was is w = someP ltB was is w := by
  rw [some_doc false ha hb]
  have : (fun a b => qB false a b) = ltB := funext fun a => funext fun b => qB_false a b
  rw [this]
theorem some_ne {was is : List Ru} (ha : was.all ruRight = true) (hb : is.all ruRight = true) (w : Wo) : someD true was is w = someP neB was is w := by
  rw [some_doc true ha hb]
  have : (fun a b => qB true a b) = neB := funext fun a => funext fun b => qB_true a b
  rw [this]
/-! ## Rises -/
def ownWD (ws : List Wo) : SV := .own true 33 ws.length 3 (ws.flatMap Wo.cs)
def DrI (was is : List Ru) (n : Nat) (F : Fr) (H : List Bk) : Prop := F = [(0, .v (slU was)), (1, .v (slU is)), (5, ownWD (pickW (someD false was is) n)), (6, .v (.sc (.int .i64 n)))]
set_option maxHeartbeats 4000000 in
theorem dRises (was is : List Ru) (h1 : was.length ≤ 1000) (h2 : is.length ≤ 1000) (n1 : (boxesU was).length ≤ 1000) (n2 : (boxesU is).length ≤ 1000) :
    PFn Try.prog 21 [slU was, slU is] (slW (pickW (someD false was is) 512)) := by
  have hS := fun w => dSome false was is w h1 h2 n1 n2
  have c1 := slU_closed was
  have c2 := slU_closed is
  unfold Wo.v Wo.cs at hS
  refine AFn.intro (fn := Try.f21) (by kernel_rfl) rfl (by kernel_rfl) (by simp) (AW.ofx [] mixed (by kernel_rfl) ?_)
  simp only [Try.f21, argsF]
  simp
  refine AW.count 512 (DrI was is) ⟨_, ?_, rfl⟩ ?_
  · simp [subW, weakV, getF, ownWD, zeroRow, pickW]
  rintro n F H hn rfl
  refine AW.seq (AW.ofx [] mixed (by kernel_rfl) ?_)
  by_cases hlt : n < 512
  · have hlt' : (n : Int) < 512 := by omega
    have w1 : IntKind.i64.wrap ((n : Int) + 1) = (n : Int) + 1 := by rw [wrap_i64] <;> omega
    have e1 : (n : Int) / 64 = ((n / 64 : Nat) : Int) := rfl
    have e2 : (n : Int) / 8 = ((n / 8 : Nat) : Int) := rfl
    have q3 : ((n / 8 : Nat) : Int).tmod 8 = ((n / 8 % 8 : Nat) : Int) := rfl
    have q4 : (n : Int).tmod 8 = ((n % 8 : Nat) : Int) := rfl
    have q1 : IntKind.i64.wrap ((n : Int) / 64) = ((n / 64 : Nat) : Int) := by rw [e1, wrap_i64] <;> omega
    have q2 : IntKind.i64.wrap ((n : Int) / 8) = ((n / 8 : Nat) : Int) := by rw [e2, wrap_i64] <;> omega
    clear e1 e2
    have hSn := hS (personN n)
    have hpn := pickW_succ (someD false was is) n
    have hpl := pickW_len (someD false was is) n
    unfold personN at hSn hpn
    generalize hm : pickW (someD false was is) n = ms at *
    have hb2 := appL (H := H) (b := .cells [.v (.sc (.int .i64 (n / 64 : Nat))), .v (.sc (.int .i64 (n / 8 % 8 : Nat))), .v (.sc (.int .i64 (n % 8 : Nat)))])
    generalize n / 64 = d1 at *
    generalize n / 8 % 8 = d2 at *
    generalize n / 8 = d4 at *
    generalize n % 8 = d3 at *
    simp [hlt', ownWD]
    refine AW.seq (AW.block (AW.seq (AW.ofx [] mixed (by kernel_rfl) ?_)))
    simp [binR_quo, binR_rem, q1, q2, q3, q4, setL, hb2]
    refine AW.seq (AW.ofx [] mixed (by kernel_rfl) ?_)
    simp [hb2]
    refine callK.pure hSn (by simp [V.closedL, V.closed, c1, c2]) rfl ?_
    cases hq : someD false was is ⟨d1, d2, d3⟩ with
    | true =>
      rw [hq, if_pos rfl] at hpn
      simp
      refine AW.ofx [] mixed (by kernel_rfl) ?_
      simp [hb2]
      refine ⟨⟨by omega, by omega⟩, AW.ofx [] mixed (by kernel_rfl) ?_⟩
      simp [w1]
      refine ⟨by omega, _, ?_, rfl⟩
      rw [hpn]
      simp [subW, weakV, getF, ownWD, Wo.cs]
    | false =>
      rw [hq] at hpn
      simp at hpn
      simp
      refine AW.ofx [] mixed (by kernel_rfl) ?_
      simp
      refine AW.ofx [] mixed (by kernel_rfl) ?_
      simp [w1, hlt]
      refine ⟨_, ?_, rfl⟩
      rw [hpn]
      simp [subW, weakV, getF, ownWD]
  · have hn' : n = 512 := by omega
    subst hn'
    simp [ownWD, slW]
end Go.Proofs.Ytbcfoakceloenaa
