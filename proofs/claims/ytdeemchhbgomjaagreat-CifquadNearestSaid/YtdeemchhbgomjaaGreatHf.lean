/- The nodes of a quadtree of shapes: taken from. -/
import Derived.Test.YtdeemchhbgomjaaGreatHe
namespace Go.Proofs.YtdeemchhbgomjaaGreat
set_option linter.all false
open Go.RowKit AM
set_option maxRecDepth 10000
attribute [local simp] aw_skip' aw_region' aw_seq' aw_cond' aw_block' aw_loop' aw_exit' aw_label' aw_ret' aops_nil' aops_cons' aop' aMove aAssign aPick aAlloc aBox aBuild slF aBuildSlice aLoad aLoadOwn aStore aStoreOwn isOwn delR aNilCheck aBin aMakeFunc aFieldAddr aField aIndexOp aIndex partV aIndexAddr aExtract aSliceOp aSlice aShrink aCallOp aCall' aInvoke' aLen aLenMap aDelete aMM aUn aConv aIface aAssert aMakeMap aLookup aMapUpdate aRange aNext aEntry entsOf keyB seekK aMakeSlice lookV aAppend putK layK eval evalV AM.valOf getF putF setF del SV.refers cellsAt rootSV plains shift ldV V.exact V.exactL V.ofValue V.ofPart V.ofCell V.cells V.one Value.oneCell' fitB qSeq qBlock getB afin aret resVs resV resTmps shareF evalS tupV valsS valsV pickV calm calmB lenV useOf feeds shrinks stows looks isT newsV partsV fillV putAt zerosV fitsNil nilB sliceB isEq isNeq awx_skip' awx_region' awx_seq' awx_cond' awx_block' awx_loop' awx_exit' awx_label' awx_ret' xops_nil' xops_cons' xop' xload xcall' addO delO inO putD memB Mix.effB Mix.laysB keysF badK subW weakV zeroRow yops_nil' yops_cons' yop' yload yindex yfield ylen oldO dropO takeO oldL exactB

theorem Nd.cell {H : List Bk} {d : Nat} {c : Ce} {S : List Sh} {b : Nat} {I : Nat → Prop} (h : Nd H d c S b I) : ∃ k m, H[b]? = some (.cells (nodeCs c k S.length m)) := by
  cases d with
  | zero => exact h.elim
  | succ d =>
    obtain ⟨m, es, k, J, h1, _⟩ := h
    exact ⟨k, m, h1⟩
/-- What stands behind the call for a child. -/
def TakeM (H : List Bk) (d : Nat) (c : Ce) (S : List Sh) (s : Sh) (b m i b' : Nat) (es : List Sh) (k : Nat → Option Nat) (J : Nat → Nat → Prop) (F : Fr) (H3 : List Bk) : Prop :=
  ∃ J', H3[b]? = some (.cells (nodeCs c k (less S s.id).length m)) ∧ H3[m]? = some (.map (es.map entS)) ∧ 
    Nd H3 d (childOf c (i : Nat)) (less (sub' (childOf c (i : Nat)) S) s.id) b' J' ∧ (∀ x, J' x → J i x) ∧ Kp (fun x => x = b ∨ J i x) H H3 ∧
    F = [(0, .v (.ptr b 0)), (6, .v (.sc (.int .i64 i)))]
theorem ntake : ∀ (d : Nat) (c : Ce) (H : List Bk) (S : List Sh) (b : Nat) (I : Nat → Prop) (s : Sh), Nd H d c S b I → rightC c = true → (d : Int) + c.l = 17 → underC c (hm s) = true → rightC (hm s) = true → s ∈ S → (S.map Sh.id).Nodup → S.length < 1000000 →
    AFn Tryz.prog 38 [.ptr b 0, (hm s).v, .sc (.int .i64 s.id)] H fun y H' => Kp I H H' ∧ ∃ I', Nd H' d c (less S s.id) b I' ∧ ∀ x, I' x → I x := by
  intro d
  induction d with
  | zero => intro c H S b I s h; exact h.elim
  | succ d ih =>
    intro c H S b I s hN hc hd hu hr hS hnd hlen
    obtain ⟨m, es, k, J, h1, h2, h3, h4, h5, h6⟩ := id hN
    have hll := less_len hS hnd
    generalize hh : hm s = h at *
    unfold Ce.v Ce.cs
    unfold nodeCs at h1
    have w1 : IntKind.i64.wrap ((S.length : Int) - 1) = ((less S s.id).length : Int) := by rw [wrap_i64] <;> omega
    have h1' := fun L => hget (L := L) h1
    have hbl := (List.getElem?_eq_some_iff.1 h1).1
    have hml := (List.getElem?_eq_some_iff.1 h2).1
    have hbm : b ≠ m := by rintro rfl; rw [h1] at h2; cases h2
    refine AFn.intro (fn := Tryz.f38) (by kernel_rfl) rfl (by kernel_rfl) (by simp) ?_
    simp only [Tryz.f38, argsF]
    refine AW.seq (AW.ofx [] mixed (by kernel_rfl) ?_)
    simp
    refine AW.seq (AW.ofx [] mixed (by kernel_rfl) ?_)
    simp [h1', w1]
    obtain ⟨H1, e1, g1, g2, g3, g5, g6⟩ : ∃ H1, H1 = setCells (H ++ [Bk.cells [.v (.sc (.int .i64 h.l)), .v (.sc (.int .i64 h.x)), .v (.sc (.int .i64 h.y))]]) b 7 [.sc (.int .i64 ((less S s.id).length : Nat))] ∧
        H1[b]? = some (.cells [.v (.sc (.int .i64 c.l)), .v (.sc (.int .i64 c.x)), .v (.sc (.int .i64 c.y)), .v (kidV (k 0)), .v (kidV (k 1)), .v (kidV (k 2)), .v (kidV (k 3)), .v (.sc (.int .i64 ((less S s.id).length : Nat))), .v (.map m)]) ∧ H1[m]? = some (.map (es.map entS)) ∧
        H1[H.length]? = some (.cells [.v (.sc (.int .i64 h.l)), .v (.sc (.int .i64 h.x)), .v (.sc (.int .i64 h.y))]) ∧
        H1.length = H.length + 1 ∧ Kp (fun x => x = b) H H1 := by
      refine ⟨_, rfl, ?_⟩
      simp only [setCells, setBlk_eq' (h1' _)]
      refine ⟨?_, ?_, ?_, by simp, (Kp.refl.app).set rfl⟩
      · rw [List.getElem?_set_self (by simp; omega)]
        simp
      · rw [List.getElem?_set_ne hbm]
        exact hget h2
      · rw [List.getElem?_set_ne (by omega)]
        simp
    rw [← e1]
    clear e1
    refine AW.seq (AW.ofx [] mixed (by kernel_rfl) ?_)
    by_cases hch : c = h
    · have hes : s ∈ es := h3.mem_iff.2 (List.mem_filter.2 ⟨hS, by simp [hh, hch]⟩)
      have hen : (es.map Sh.id).Nodup := ((h3.map Sh.id).nodup_iff).2 (nodup_sub hnd)
      obtain ⟨j, hf, he⟩ := sfind_some (i := 0) hes hen
      simp [g1, g2, g3, hEq2, hGCe, hch, mfind_s, hf]
      have hk2 : Kp (fun x => x = b ∨ x = m) H ((killIt m H1).set m (.map ((es.map entS).eraseIdx j))) := (g6.weak fun x hx => .inl hx).killed (.inr rfl)
      refine ⟨hk2.weak fun x hx => (h4 x).2 (hx.imp id .inl), I, ?_, fun x hx => hx⟩
      rw [← hch]
      refine Nd.hence (es' := es.eraseIdx j) ?_ ?_ he h3 h4 h5 h6 hk2 (hh.trans hch.symm) hS hnd
      · rw [List.getElem?_set_ne (Ne.symm hbm)]
        refine hkill g1 fun _ _ _ e => by cases e
      · rw [List.getElem?_set_self (by rw [hkill_len, g5]; omega)]
        have em : ∀ (l : List Sh) (j : Nat), (l.eraseIdx j).map entS = (l.map entS).eraseIdx j := by
          intro l
          induction l with
          | nil => simp
          | cons a l ih => intro j; cases j <;> simp [ih]
        rw [em]
    · have hlt := under_lt hu hch
      have hcr := rightC_iff.1 hc
      have hhr := rightC_iff.1 hr
      obtain ⟨i, hi, hw⟩ := way_nat c h
      have hW := cWay c h hr hcr.1.1 hlt
      rw [hw] at hW
      unfold Ce.v Ce.cs at hW
      have hccr := child_right (c := c) (i := (i : Nat)) hc (by omega) (by omega)
      have hccl : (childOf c (i : Nat)).l = c.l + 1 := rfl
      have hucc : underC (childOf c (i : Nat)) h = true := (under_child_iff hi hu hch).2 hw
      have hsi : s ∈ sub' (childOf c (i : Nat)) S := List.mem_filter.2 ⟨hS, by rw [hh]; exact hucc⟩
      obtain ⟨b', hki, hNi⟩ : ∃ b', k i = some b' ∧ Nd H d (childOf c (i : Nat)) (sub' (childOf c (i : Nat)) S) b' (J i) := by
        rcases h6 i hi with ⟨e, _⟩ | ⟨_, b2, e, hN2⟩
        · rw [e] at hsi; cases hsi
        · exact ⟨b2, e, hN2⟩
      have hNi1 := Nd.keep g6 hNi fun x hx e => (h5 i hi).1 (e ▸ hx)
      have hR := ih (childOf c (i : Nat)) H1 _ b' (J i) s hNi1 hccr (by omega) (by rw [hh]; exact hucc) (by rw [hh]; exact hr) hsi (nodup_sub hnd) (Nat.lt_of_le_of_lt (List.length_filter_le _ _) hlen)
      rw [hh] at hR
      unfold Ce.v Ce.cs at hR
      simp [g1, g3, hEq2, hGCe, hch]
      refine AW.seq (AW.ofx [] mixed (by kernel_rfl) ?_)
      simp [g1, g3]
      refine callK.pure hW rfl rfl ?_
      simp [g1, g3]
      have hMid : ∀ H4, Kp (J i) H1 H4 → ∀ I4, Nd H4 d (childOf c (i : Nat)) (less (sub' (childOf c (i : Nat)) S) s.id) b' I4 → (∀ x, I4 x → J i x) → TakeM H d c S s b m i b' es k J [(0, .v (.ptr b 0)), (6, .v (.sc (.int .i64 i)))] H4 := by
        intro H4 k4 I4 n4 l4
        exact ⟨I4, k4.cells (h5 i hi).1 (by simpa [nodeCs] using g1), k4.map (h5 i hi).2.1 g2, n4, l4, (g6.weak fun x hx => .inl hx).trans (k4.weak fun x hx => .inr hx), rfl⟩
      have hup : updN k i (some b') = k := by
        funext j
        unfold updN
        split
        · rename_i e
          rw [e, hki]
        · rfl
      have hB : ∀ H3 J', H3[b]? = some (.cells (nodeCs c k (less S s.id).length m)) → H3[m]? = some (.map (es.map entS)) → Nd H3 d (childOf c (i : Nat)) (less (sub' (childOf c (i : Nat)) S) s.id) b' J' → (∀ x, J' x → J i x) → Kp (fun x => x = b ∨ J i x) H H3 → less (sub' (childOf c (i : Nat)) S) s.id ≠ [] →
          Kp I H H3 ∧ ∃ I', Nd H3 (d + 1) c (less S s.id) b I' ∧ ∀ x, I' x → I x := by
        intro H3 J' m1 m2 m3 m4 m5 m6
        refine ⟨m5.weak fun x hx => (h4 x).2 ?_, Nd.off (i := i) (ki := some b') (by rw [hup]; exact m1) m2 h3 h4 h5 h6 m5 hi (by rw [hh]; exact hu) (by rw [hh]; exact hch) (by rw [hh]; exact hw) hS hnd (.inr ⟨m6, b', rfl, m3⟩) m4⟩
        rcases hx with rfl | hx
        · exact .inl rfl
        · exact .inr (.inr ⟨i, hi, hx⟩)
      have hA : ∀ H3 J', H3[b]? = some (.cells (nodeCs c k (less S s.id).length m)) → H3[m]? = some (.map (es.map entS)) → Nd H3 d (childOf c (i : Nat)) (less (sub' (childOf c (i : Nat)) S) s.id) b' J' → (∀ x, J' x → J i x) → Kp (fun x => x = b ∨ J i x) H H3 → less (sub' (childOf c (i : Nat)) S) s.id = [] →
          Kp I H (H3.set b (.cells (nodeCs c (updN k i none) (less S s.id).length m))) ∧ ∃ I', Nd (H3.set b (.cells (nodeCs c (updN k i none) (less S s.id).length m))) (d + 1) c (less S s.id) b I' ∧ ∀ x, I' x → I x := by
        intro H3 J' m1 m2 m3 m4 m5 m6
        have m7 : Kp (fun x => x = b ∨ J i x) H (H3.set b (.cells (nodeCs c (updN k i none) (less S s.id).length m))) := m5.set (.inl rfl)
        refine ⟨m7.weak fun x hx => (h4 x).2 ?_, Nd.off (i := i) (ki := none) (J' := fun _ => False) ?_ ?_ h3 h4 h5 h6 m7 hi (by rw [hh]; exact hu) (by rw [hh]; exact hch) (by rw [hh]; exact hw) hS hnd (.inl ⟨m6, rfl, fun _ h => h⟩) fun x hx => hx.elim⟩
        · rcases hx with rfl | hx
          · exact .inl rfl
          · exact .inr (.inr ⟨i, hi, hx⟩)
        · rw [List.getElem?_set_self (List.getElem?_eq_some_iff.1 m1).1]
        · rw [List.getElem?_set_ne hbm]
          exact m2
      clear h6 h5 h4
      generalize hRR : TakeM H d c S s b m i b' es k J = R at hMid
      refine AW.seq ?_
      refine AW.ofx [] mixed (by kernel_rfl) ?_
      rcases (show i = 0 ∨ i = 1 ∨ i = 2 ∨ i = 3 by omega) with rfl | rfl | rfl | rfl
      all_goals
        simp [g1, g3, hki, kidV]
        refine AW.mid R (AW.ofx [] mixed (by kernel_rfl) ?_) ?_
        · simp [g1, g3, hki, kidV]
          refine callK.of hR ?_
          rintro y H4 ⟨k4, I4, n4, l4⟩
          simp
          refine ⟨_, ?_, hMid H4 k4 I4 n4 l4⟩
          simp [subW, weakV, getF]
        · intro F H3 hm
          rw [← hRR] at hm
          obtain ⟨J', m1, m2, m3, m4, m5, rfl⟩ := hm
          have hA' := hA H3 J' m1 m2 m3 m4 m5
          have hB' := hB H3 J' m1 m2 m3 m4 m5
          obtain ⟨k', m', c1⟩ := m3.cell
          unfold nodeCs at m1 c1
          refine AW.ofx [] mixed (by kernel_rfl) ?_
          generalize less (sub' (childOf c _) S) s.id = S' at *
          by_cases hz : S' = []
          · simp [m1, c1, hki, kidV, hz]
            simp only [setCells, setBlk_eq' m1]
            exact hA' hz
          · have hz' : ¬ S'.length = 0 := fun e => hz (List.length_eq_zero_iff.1 e)
            have hz2 : ((S'.length : Int) == 0) = false := by simpa using hz
            simp [m1, c1, hki, kidV, hz2]
            exact hB' hz
end Go.Proofs.YtdeemchhbgomjaaGreat
