/- Trees that are built of a row of shapes. -/
import Derived.Test.YtdeemchhbgomjaaGreatHp
namespace Go.Proofs.YtdeemchhbgomjaaGreat
set_option linter.all false
open Go.RowKit AM
set_option maxRecDepth 10000
attribute [local simp] aw_skip' aw_region' aw_seq' aw_cond' aw_block' aw_loop' aw_exit' aw_label' aw_ret' aops_nil' aops_cons' aop' aMove aAssign aPick aAlloc aBox aBuild slF aBuildSlice aLoad aLoadOwn aStore aStoreOwn isOwn delR aNilCheck aBin aMakeFunc aFieldAddr aField aIndexOp aIndex partV aIndexAddr aExtract aSliceOp aSlice aShrink aCallOp aCall' aInvoke' aLen aLenMap aDelete aMM aUn aConv aIface aAssert aMakeMap aLookup aMapUpdate aRange aNext aEntry entsOf keyB seekK aMakeSlice lookV aAppend putK layK eval evalV AM.valOf getF putF setF del SV.refers cellsAt rootSV plains shift ldV V.exact V.exactL V.ofValue V.ofPart V.ofCell V.cells V.one Value.oneCell' fitB qSeq qBlock getB afin aret resVs resV resTmps shareF evalS tupV valsS valsV pickV calm calmB lenV useOf feeds shrinks stows looks isT newsV partsV fillV putAt zerosV fitsNil nilB sliceB isEq isNeq awx_skip' awx_region' awx_seq' awx_cond' awx_block' awx_loop' awx_exit' awx_label' awx_ret' xops_nil' xops_cons' xop' xload xcall' addO delO inO putD memB Mix.effB Mix.laysB keysF badK subW weakV zeroRow yops_nil' yops_cons' yop' yload yindex yfield ylen oldO dropO takeO oldL exactB
attribute [local simp] awz_skip' awz_region' awz_seq' awz_cond' awz_block' awz_loop' awz_exit' awz_label' awz_ret' zops_nil' zops_cons' zop' zload zloadOwn zcall' zlenK z0 new0 remF old0 dltB

theorem shv_eq (s : Sh) : s.v = .agg [.sc (.int .i64 s.id), .sc (.int .i64 s.box.x0), .sc (.int .i64 s.box.y0), .sc (.int .i64 s.box.x1), .sc (.int .i64 s.box.y1), .sc (.int .i64 s.lab)] := rfl
def BtI (H0 : List Bk) (r : Nat) (l : List Sh) (k : Nat) (F : Fr) (H : List Bk) : Prop :=
  (∃ T, TrS H r (hav (l.take k)) T ∧ Kp NoB H0 H ∧ ∀ x, T x → H0.length ≤ x) ∧ F = [(0, .v (slS l)), (4, .v (.ptr r 0)), (5, .v (slS (hav (l.take k)))), (6, .v (.sc (.int .i64 k)))]
def BtQ (H : List Bk) (l : List Sh) (y : V) (H' : List Bk) : Prop := (80 < l.length ∧ y = .tup [.sc (.pointer none), .nil] ∧ Kp NoB H H') ∨ (l.length ≤ 80 ∧ ∃ r T, y = .tup [.ptr r 0, slS (hav l)] ∧ TrS H' r (hav l) T ∧ Kp NoB H H' ∧ ∀ x, T x → H.length ≤ x)
theorem lbuilt (l : List Sh) (H : List Bk) : AFn Tryz.prog 6 [slS l] H (BtQ H l) := by
  unfold slS
  refine AFn.intro (fn := Tryz.f6) (by kernel_rfl) rfl (by kernel_rfl) (by simp) ?_
  simp only [Tryz.f6, argsF]
  refine AW.seq (AW.ofx [] mixed (by kernel_rfl) ?_)
  simp
  refine AW.seq (AW.ofx [] mixed (by kernel_rfl) ?_)
  simp
  refine callK.of (tnew H) ?_
  rintro y H1 ⟨r, T, rfl, t1, k1, f1⟩
  simp
  refine AW.seq (AW.ofx [] mixed (by kernel_rfl) ?_)
  by_cases hl : 80 < l.length
  · have hl' : (80 : Int) < l.length := by omega
    simp [hl']
    exact .inl ⟨hl, rfl, k1⟩
  · have hl' : ¬ (80 : Int) < l.length := by omega
    simp [hl']
    refine AW.seq (AW.ofx [] mixed (by kernel_rfl) ?_)
    simp
    refine AW.seq (AW.seq (AW.ofx [] mixed (by kernel_rfl) ?_))
    simp
    refine AW.block (AW.count l.length (BtI H r l) ⟨_, ?_, ⟨T, t1, k1, f1⟩, rfl⟩ ?_)
    · simp [subW, weakV, getF, slS, zeroRow, hav]
    rintro k F H2 hk ⟨⟨T2, t2, k2, f2⟩, rfl⟩
    have hsp := hav_spec (l.take k)
    rw [List.length_take, Nat.min_eq_left hk] at hsp
    unfold slS
    refine AW.seq (AW.ofx [] mixed (by kernel_rfl) ?_)
    by_cases hlt : k < l.length
    · have w1 : IntKind.i64.wrap ((k : Int) + 1) = (k : Int) + 1 := by rw [wrap_i64] <;> omega
      have hsn := hav_snoc hlt
      have hpt := tput t2 l[k] (by omega)
      have hR := refRightR l[k].box
      have hpe : putE l[k] = if rightR l[k].box then 0 else 1 := rfl
      have hhp := havS_perm (s := l[k]) hsp.1
      have hP := refPut (hav (l.take k)) l[k] (by omega)
      have hPp : havS (hav (l.take k)) l[k] = if rightR l[k].box then putD (hav (l.take k)) l[k] else hav (l.take k) := rfl
      have hll : (havS (hav (l.take k)) l[k]).length ≤ _ := havS_len hsp.1
      rw [shv_eq] at hP hpt
      unfold slS at hP
      unfold Re.v Re.cs at hR
      have hnxt : ∀ H3, (∃ T', TrS H3 r (putS (hav (l.take k)) l[k]) T' ∧ ∀ x, T' x → T2 x ∨ H2.length ≤ x) → Kp T2 H2 H3 → ∃ T, TrS H3 r (hav (l.take (k + 1))) T ∧ Kp NoB H H3 ∧ ∀ x, T x → H.length ≤ x := by
        rintro H3 ⟨T', t3, f3⟩ k3
        rw [hsn]
        have hr1 : H.length ≤ H2.length := by
          have a := f2 r t2.self
          have b := t2.lt r t2.self
          omega
        exact ⟨T', t3.perm hhp.symm, Kp.new ((k2.weak fun _ h => h.elim).trans (k3.weak fun x hx => .inr (f2 x hx))), fun x hx => (f3 x hx).elim (f2 x) fun h => by omega⟩
      simp [hlt]
      refine AW.seq (AW.block (AW.ofx [] mixed (by kernel_rfl) ?_))
      simp [hlt, rowSh]
      refine callK.of hpt ?_
      rintro y H3 ⟨rfl, k3, h3⟩
      have hn3 := hnxt H3 h3 k3
      clear hnxt h3 k3
      rw [hpe]
      cases hb : rightR l[k].box with
      | false =>
        rw [hb] at hPp
        simp only [Bool.false_eq_true, if_false] at hPp
        rw [hsn, hPp] at hn3
        simp
        refine AW.ofx [] mixed (by kernel_rfl) ?_
        simp [w1]
        refine ⟨_, ?_, ?_, rfl⟩
        rotate_left
        · rw [hsn, hPp]; exact hn3
        · rw [hsn, hPp]
          simp [subW, weakV, getF, slS]
      | true =>
        rw [hb] at hPp hR
        simp only [if_true] at hPp
        rw [hsn, hPp] at hn3
        simp [hlt, rowSh]
        refine callK.pure hR rfl rfl ?_
        simp [hlt, rowSh]
        refine callK.pure hP (by simp [V.closedL, V.closed, closed_flat (enc := Sh.cs) (fun _ => rfl)]) (by simp [V.closed, closed_flat (enc := Sh.cs) (fun _ => rfl)]) ?_
        simp
        refine AW.ofx [] mixed (by kernel_rfl) ?_
        simp [w1]
        refine ⟨_, ?_, ?_, rfl⟩
        rotate_left
        · rw [hsn, hPp]; exact hn3
        · rw [hsn, hPp]
          simp [subW, weakV, getF, slS]
    · have hk' : k = l.length := by omega
      subst hk'
      rw [List.take_length] at t2 ⊢
      simp
      refine AW.ofx [] mixed (by kernel_rfl) ?_
      simp
      exact .inr ⟨by omega, r, T2, rfl, t2, k2, f2⟩
end Go.Proofs.YtdeemchhbgomjaaGreat
