/- The law CifquadMeets, over the abstract memory. -/
import Derived.Test.YtdeemchhbgomjaaHr
namespace Go.Proofs.Ytdeemchhbgomjaa
set_option linter.all false
open Go.RowKit AM
set_option maxRecDepth 10000
attribute [local simp] aw_skip' aw_region' aw_seq' aw_cond' aw_block' aw_loop' aw_exit' aw_label' aw_ret' aops_nil' aops_cons' aop' aMove aAssign aPick aAlloc aBox aBuild slF aBuildSlice aLoad aLoadOwn aStore aStoreOwn isOwn delR aNilCheck aBin aMakeFunc aFieldAddr aField aIndexOp aIndex partV aIndexAddr aExtract aSliceOp aSlice aShrink aCallOp aCall' aInvoke' aLen aLenMap aDelete aMM aUn aConv aIface aAssert aMakeMap aLookup aMapUpdate aRange aNext aEntry entsOf keyB seekK aMakeSlice lookV aAppend putK layK eval evalV AM.valOf getF putF setF del SV.refers cellsAt rootSV plains shift ldV V.exact V.exactL V.ofValue V.ofPart V.ofCell V.cells V.one Value.oneCell' fitB qSeq qBlock getB afin aret resVs resV resTmps shareF evalS tupV valsS valsV pickV calm calmB lenV useOf feeds shrinks stows looks isT newsV partsV fillV putAt zerosV fitsNil nilB sliceB isEq isNeq awx_skip' awx_region' awx_seq' awx_cond' awx_block' awx_loop' awx_exit' awx_label' awx_ret' xops_nil' xops_cons' xop' xload xcall' addO delO inO putD memB Mix.effB Mix.laysB keysF badK subW weakV zeroRow yops_nil' yops_cons' yop' yload yindex yfield ylen oldO dropO takeO oldL exactB
attribute [local simp] awz_skip' awz_region' awz_seq' awz_cond' awz_block' awz_loop' awz_exit' awz_label' awz_ret' zops_nil' zops_cons' zop' zload zloadOwn zcall' z0 new0 remF old0 dltB

theorem found_filter {h : Re → Bool} {rc : Re} {S : List Sh} (hi : Inc S) (hr : ∀ b, h b = true → rightR rc = true) : foundL h rc S = S.filter fun s => h s.box := by
  unfold foundL
  cases hb : rightR rc with
  | true => exact (hi.filter _).sort
  | false =>
    refine (List.filter_eq_nil_iff.2 fun s _ e => ?_).symm
    rw [hr _ e] at hb
    cases hb
theorem in_meets {a b : Re} (h : inB a b = true) : meetsR a b = true := by
  simp only [inB, Bool.and_eq_true, decide_eq_true_iff] at h
  have h1 := rightR_iff.1 h.1.1
  simp only [meetsR, h.1.1, h.1.2, Bool.true_and, decide_eq_true_iff]
  omega
theorem fnd_of {S : List Sh} (hn : (S.map Sh.id).Nodup) {s : Sh} (hs : s ∈ S) : fnd S s.id = some s := by
  unfold fnd
  cases hf : S.find? fun t => decide (t.id = s.id) with
  | none =>
    have := List.find?_eq_none.1 hf s hs
    simp at this
  | some t =>
    have ht := List.mem_of_find?_eq_some hf
    have hk : t.id = s.id := by simpa using List.find?_some hf
    rw [id_inj hn ht hs hk]
def MzI (H0 : List Bk) (q : Nat) (S A B : List Sh) (k : Nat) (F : Fr) (H : List Bk) : Prop := (∃ L, H = H0 ++ L) ∧ F = [(3, .v (.ptr q 0)), (6, .v (slS S)), (7, .v (slS A)), (8, .v (slS B)), (9, .v (.sc (.int .i64 k)))]
theorem slS_closedL (zs : List Sh) (r : Re) : V.closedL [.sl zs.length 6 (zs.flatMap Sh.cs), .agg [.sc (.int .i64 r.x0), .sc (.int .i64 r.y0), .sc (.int .i64 r.x1), .sc (.int .i64 r.y1)]] = true := by simp [V.closedL, V.closed, closed_flat (enc := Sh.cs) (fun _ => rfl)]
theorem slS_closed1 (zs : List Sh) : V.closed (.sl zs.length 6 (zs.flatMap Sh.cs)) = true := slS_closed zs
theorem slS_closed2 (zs ys : List Sh) : V.closedL [.sl zs.length 6 (zs.flatMap Sh.cs), .sl ys.length 6 (ys.flatMap Sh.cs)] = true := by simp [V.closedL, V.closed, closed_flat (enc := Sh.cs) (fun _ => rfl)]
theorem slS_closedI (zs : List Sh) (i : Int) : V.closedL [.sl zs.length 6 (zs.flatMap Sh.cs), .sc (.int .i64 i)] = true := by simp [V.closedL, V.closed, closed_flat (enc := Sh.cs) (fun _ => rfl)]
set_option maxHeartbeats 2000000 in
theorem lawMeets (l : List Sh) (r : Re) (H : List Bk) : AFn Try.prog 5 [slS l, r.v] H fun y _ => y = .sc (.bool true) := by
  have hB := fun L => lbuilt l (H ++ L)
  unfold slS at hB ⊢
  unfold Re.v Re.cs
  refine AFn.intro (fn := Try.f5) (by kernel_rfl) rfl (by kernel_rfl) (by simp) ?_
  simp only [Try.f5, argsF]
  refine AW.seq (AW.ofx [(4, 5, [5, 3])] mixed (by kernel_rfl) ?_)
  simp
  refine AW.seq (AW.ofx [(4, 5, [5, 3])] mixed (by kernel_rfl) ?_)
  simp
  refine callK.of (hB _) ?_
  rintro y H1 (⟨hl, rfl, k1⟩ | ⟨hl, q, T, rfl, t1, k1, f1⟩)
  · have hl' : (80 : Int) < l.length := by omega
    simp
    refine AW.seq (AW.ofx [(4, 5, [5, 3])] mixed (by kernel_rfl) ?_)
    simp [nilTrE, hl']
    refine callK.of (lknown _) ?_
    rintro y H2 ⟨rfl, k2⟩
    simp
  · have hbc := k1.cells (i := H.length) (fun h => h) (by simp; rfl)
    have hsp := hav_spec l
    have hMt := fun {Hx} (t : TrS Hx q (hav l) T) => tmeets t r
    have hWi := fun {Hx} (t : TrS Hx q (hav l) T) => twithin t r
    have e1 := found_filter (h := fun b => meetsR b r) (rc := r) hsp.1 (fun b h => by
      simp only [meetsR, Bool.and_eq_true] at h
      exact h.1.2)
    have e2 := found_filter (h := fun b => inB b r) (rc := r) hsp.1 (fun b h => by
      simp only [inB, Bool.and_eq_true] at h
      exact h.1.2)
    simp only [e1] at hMt
    simp only [e2] at hWi
    have hD1 := refMeets (hav l) r (by omega)
    have hD2 := refWithin (hav l) r (by omega)
    have hBA : ∀ s ∈ (hav l).filter (fun t => inB t.box r), fnd ((hav l).filter fun t => meetsR t.box r) s.id = some s := fun s hs => by
      obtain ⟨h1, h2⟩ := List.mem_filter.1 hs
      exact fnd_of (hsp.1.filter _).nodup (List.mem_filter.2 ⟨h1, in_meets h2⟩)
    have hA1 : ((hav l).filter fun t => meetsR t.box r).length ≤ (hav l).length := List.length_filter_le _ _
    have hB1 : ((hav l).filter fun t => inB t.box r).length ≤ (hav l).length := List.length_filter_le _ _
    generalize ((hav l).filter fun t => meetsR t.box r) = A at *
    generalize ((hav l).filter fun t => inB t.box r) = B at *
    generalize hav l = S at *
    unfold slS Re.v Re.cs at hMt hWi hD1 hD2
    simp
    refine AW.seq (AW.ofx [(4, 5, [5, 3])] mixed (by kernel_rfl) ?_)
    simp
    refine AW.seq (AW.ofx [(4, 5, [5, 3])] mixed (by kernel_rfl) ?_)
    simp [hbc]
    refine callK.of (hMt t1) ?_
    rintro y H2 ⟨rfl, k2⟩
    have t2 := t1.keep0 k2
    have hk2 := k2.keepS fun _ h => h
    have hbc2 := k2.cells (fun h => h) hbc
    simp [hbc, hk2, hbc2]
    refine callK.of (hWi t2) ?_
    rintro y H3 ⟨rfl, k3⟩
    have hk3 := (k2.trans k3).keepS fun _ h => h
    have hbc3 := k3.cells (fun h => h) hbc2
    simp [hk3]
    refine AW.seq (AW.seq (AW.ofx [(4, 5, [5, 3])] mixed (by kernel_rfl) ?_))
    simp
    refine AW.block (AW.count B.length (MzI H3 H.length S A B) ⟨_, ?_, ⟨[], by simp⟩, rfl⟩ ?_)
    · simp [subW, weakV, getF, slS]
    rintro k F H4 hk ⟨⟨L, rfl⟩, rfl⟩
    have hbc4 := hget (L := L) hbc3
    unfold slS
    refine AW.seq (AW.ofx [(4, 5, [5, 3])] mixed (by kernel_rfl) ?_)
    by_cases hlt : k < B.length
    · have w1 : IntKind.i64.wrap ((k : Int) + 1) = (k : Int) + 1 := by rw [wrap_i64] <;> omega
      have hFd := refFind A B[k].id (by omega)
      unfold fndV at hFd
      rw [hBA _ (List.getElem_mem hlt)] at hFd
      simp only [shv_eq] at hFd
      unfold slS at hFd
      simp [hlt]
      refine AW.seq (AW.block (AW.seq (AW.ofx [(4, 5, [5, 3])] mixed (by kernel_rfl) ?_)))
      simp [hlt, rowSh]
      refine callK.pure hFd (slS_closedI _ _) rfl ?_
      simp [setCells, setBlk]
      refine AW.ofx [(4, 5, [5, 3])] mixed (by kernel_rfl) ?_
      simp [hlt, rowSh, hEqSh, hGSh]
      refine AW.ofx [(4, 5, [5, 3])] mixed (by kernel_rfl) ?_
      simp [w1]
      refine ⟨_, ?_, ⟨_, rfl⟩, rfl⟩
      simp [subW, weakV, getF, slS]
    · have hk' : k = B.length := by omega
      have s1 := refSame A A (by omega)
      have s2 := refSame B B (by omega)
      unfold slS at s1 s2
      simp at s1 s2
      simp [hlt]
      refine AW.ofx [(4, 5, [5, 3])] mixed (by kernel_rfl) ?_
      simp [hbc4]
      refine callK.pure hD1 (slS_closedL _ _) (slS_closed1 _) ?_
      simp
      refine callK.pure s1 (slS_closed2 _ _) rfl ?_
      simp [hbc4]
      refine callK.pure hD2 (slS_closedL _ _) (slS_closed1 _) ?_
      simp
      refine callK.pure s2 (slS_closed2 _ _) rfl ?_
      simp
      refine callK.of (lknown _) ?_
      rintro y H5 ⟨rfl, k5⟩
      simp
theorem lawMeets0 (l : List Sh) (r : Re) : PFn Try.prog 5 [slS l, r.v] (.sc (.bool true)) := lawMeets l r []
end Go.Proofs.Ytdeemchhbgomjaa
