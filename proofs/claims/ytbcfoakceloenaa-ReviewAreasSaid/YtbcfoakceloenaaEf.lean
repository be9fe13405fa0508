/- Review: the law ReviewAreas, walked. -/
import Derived.Test.YtbcfoakceloenaaDt
import Derived.Test.YtbcfoakceloenaaEd
namespace Go.Proofs.Ytbcfoakceloenaa
set_option linter.all false
open Go.RowKit AM Can
set_option maxRecDepth 10000
attribute [local simp] aw_skip' aw_region' aw_seq' aw_cond' aw_block' aw_loop' aw_exit' aw_label' aw_ret' aops_nil' aops_cons' aop' aMove aAssign aPick aAlloc aBox aBuild slF aBuildSlice aLoad aLoadOwn aStore aStoreOwn isOwn delR aNilCheck aBin aMakeFunc aFieldAddr aField aIndexAddr aExtract aSliceOp aSlice aCallOp aCall' aLen aLenMap aDelete aMM aUn aConv aIface aAssert aMakeMap aLookup aMapUpdate aRange aNext aEntry entsOf keyB seekK aMakeSlice lookV aAppend putK layK eval evalV AM.valOf getF putF setF del SV.refers cellsAt rootSV plains shift ldV V.exact V.exactL V.ofValue V.ofPart V.ofCell V.cells V.one Value.oneCell' fitB qSeq qBlock getB afin aret resVs resV resTmps shareF evalS tupV valsS valsV pickV calm calmB lenV useOf feeds looks isT newsV partsV fillV putAt zerosV fitsNil nilB sliceB isEq isNeq awx_skip' awx_region' awx_seq' awx_cond' awx_block' awx_loop' awx_exit' awx_label' awx_ret' xops_nil' xops_cons' xop' xload xcall' addO delO inO putD memB Mix.effB Mix.laysB keysF badK subW weakV zeroRow yops_nil' yops_cons' yop' yload yindex yfield ylen oldO dropO takeO oldL exactB
attribute [local simp] awz_skip' awz_region' awz_seq' awz_cond' awz_block' awz_loop' awz_exit' awz_label' awz_ret' zops_nil' zops_cons' zop' zload zloadOwn zcall' z0 new0 remF old0 dltB

theorem ask_one (l : List Ru) : askL [l, []] = askL [l] := by unfold askL; simp
theorem rsum_le (f : Nat → Nat) : ∀ {m n : Nat}, m ≤ n → rsum m f ≤ rsum n f
  | m, 0, h => by have : m = 0 := by omega
                  subst this; exact Nat.le_refl _
  | m, n + 1, h => by
    by_cases e : m = n + 1
    · subst e; exact Nat.le_refl _
    · have := rsum_le f (m := m) (n := n) (by omega)
      rw [rsum_succ]
      omega
def ArI (zs : List Int) (s : Nat → Nat) (k : Nat) (F : Fr) (_ : List Bk) : Prop := F = [(5, .v (slA zs)), (7, .v (slA zs)), (8, .v (.sc (.int .u64 (rsum k s : Nat)))), (9, .v (.sc (.int .i64 k)))]
theorem boxes_rightV {l : List Ru} (h : l.all ruRight = true) : ∀ b ∈ boxesU l, rightR b = true := fun b hb => docB_right (is := []) h rfl b (List.mem_append.2 (.inl hb))
theorem us_closed (zs : List Int) : V.closedL (us zs) = true := by
  induction zs with
  | nil => rfl
  | cons z zs ih => simp only [us, List.map_cons, V.closedL, V.closed, Bool.true_and] at ih ⊢; exact ih
theorem slA_closed (zs : List Int) : (slA zs).closed = true := us_closed zs
set_option maxHeartbeats 16000000 in
theorem areasLawV (l : List Ru) (w : Wo) (h1 : l.length ≤ 9223372036854775807) (b1 : ∀ r ∈ l, r.boxes.length ≤ 4398046511104) :
    AFn Try.prog 9 [slU l, w.v] [] fun y _ => y = .sc (.bool true) := by
  have hK := lknownV
  have hS1 := lsmallV l h1 b1
  have c1 := slU_closed l
  have b1' : ∀ r ∈ l, r.boxes.length ≤ 9223372036854775807 := fun r hr => by have := b1 r hr; omega
  cases s1 : smallV l with
  | false =>
    rw [s1] at hS1
    unfold Wo.v Wo.cs
    refine AFn.intro (fn := Try.f9) (by kernel_rfl) rfl (by kernel_rfl) (by simp) (AW.ofx [] mixed (by kernel_rfl) ?_)
    simp only [Try.f9, argsF]
    simp
    refine callK.pure hS1 (by simp [V.closedL, V.closed, c1]) rfl ?_
    simp
    refine callK.pure hK rfl rfl ?_
    simp
  | true =>
    rw [s1] at hS1
    have m1 := of_decide_eq_true s1
    have hC := rareas l w h1 b1' (fun _ => by omega)
    have hW := lwrongV l [] h1 (by simp) b1' (by simp)
    rw [ask_one] at hW
    have hW : PFn Try.prog 14 [slU l, .nil] (.sc (.int .i64 (askL [l]))) := AFn.weak hW (WeakL.cons (WeakL.nil0 (sz := 7) (WeakL.refl _)))
    have hR := dRight w
    have ha := ask_small (is := []) s1 rfl
    rw [ask_one] at ha
    cases hr : l.all ruRight with
    | false =>
      have ha : askL [l] = 1 := by rw [ha, hr]; rfl
      have e1 : areasP l w = [] := by unfold areasP; rw [if_neg fun h => by rw [ha] at h; cases h.1]
      have e2 : arE l w = 1 := by unfold arE; rw [ha]; rfl
      rw [e1, e2] at hC
      rw [ha] at hW
      unfold Wo.v Wo.cs at hC hR ⊢
      unfold slA us at hC
      refine AFn.intro (fn := Try.f9) (by kernel_rfl) rfl (by kernel_rfl) (by simp) ?_
      simp only [Try.f9, argsF]
      refine AW.seq (AW.ofx [] mixed (by kernel_rfl) ?_)
      simp
      refine AW.seq (AW.ofx [] mixed (by kernel_rfl) ?_)
      simp
      refine callK.pure hS1 (by simp [V.closedL, V.closed, c1]) rfl ?_
      simp
      refine AW.seq (AW.ofx [] mixed (by kernel_rfl) ?_)
      simp
      refine callK.pure hC (by simp [V.closedL, V.closed, c1]) rfl ?_
      simp
      refine AW.seq (AW.ofx [] mixed (by kernel_rfl) ?_)
      simp
      refine callK.pure hW (by simp [V.closedL, V.closed, c1]) rfl ?_
      simp
      refine callK.pure hK rfl rfl ?_
      simp
    | true =>
      have ha : askL [l] = 0 := by rw [ha, hr]; rfl
      rw [ha] at hW
      cases hn : numsU w.ro w.ti w.la with
      | false =>
        have e1 : areasP l w = [] := by unfold areasP; rw [if_neg]; rw [hn]; simp
        have e2 : arE l w = 1 := by unfold arE; rw [if_pos ha, hn]; rfl
        rw [e1, e2] at hC
        rw [hn] at hR
        unfold Wo.v Wo.cs at hC hR ⊢
        unfold slA us at hC
        refine AFn.intro (fn := Try.f9) (by kernel_rfl) rfl (by kernel_rfl) (by simp) ?_
        simp only [Try.f9, argsF]
        refine AW.seq (AW.ofx [] mixed (by kernel_rfl) ?_)
        simp
        refine AW.seq (AW.ofx [] mixed (by kernel_rfl) ?_)
        simp
        refine callK.pure hS1 (by simp [V.closedL, V.closed, c1]) rfl ?_
        simp
        refine AW.seq (AW.ofx [] mixed (by kernel_rfl) ?_)
        simp
        refine callK.pure hC (by simp [V.closedL, V.closed, c1]) rfl ?_
        simp
        refine AW.seq (AW.ofx [] mixed (by kernel_rfl) ?_)
        simp
        refine callK.pure hW (by simp [V.closedL, V.closed, c1]) rfl ?_
        simp
        refine callK.pure hR rfl rfl ?_
        simp
        refine callK.pure hK rfl rfl ?_
        simp
      | true =>
        have e1 : areasP l w = arP (ovP allB l [] w) := by unfold areasP; rw [if_pos ⟨ha, hn⟩]
        have e2 : arE l w = 0 := by unfold arE; rw [if_pos ha, hn]; rfl
        rw [e1, e2] at hC
        rw [hn] at hR
        have hbr := boxes_rightV hr
        have hD := dAreas l w (by omega) (by omega) hbr
        rw [← areas_doc hr w (edgesR_cut hbr false) (edgesR_cut hbr true)] at hD
        have hlen := arP_len (ovP allB l [] w)
        have hget := fun k (hk : k < 17) => arP_get (zoom_prog hr w) (allA_prog hr w) hk
        have hall := areas_all hr w
        generalize hs : (fun z => sumA z (ovP allB l [] w)) = s at *
        replace hget : ∀ k, k < 17 → (arP (ovP allB l [] w)).getD k 0 = (s k : Nat) := fun k hk => by rw [hget k hk, ← hs]
        clear hs
        generalize arP (ovP allB l [] w) = zs at *
        have cz := slA_closed zs
        have hle := fun k (hk : k ≤ 17) => rsum_le s hk
        unfold Wo.v Wo.cs at hC hR hD ⊢
        refine AFn.intro (fn := Try.f9) (by kernel_rfl) rfl (by kernel_rfl) (by simp) ?_
        simp only [Try.f9, argsF]
        refine AW.seq (AW.ofx [] mixed (by kernel_rfl) ?_)
        simp
        refine AW.seq (AW.ofx [] mixed (by kernel_rfl) ?_)
        simp
        refine callK.pure hS1 (by simp [V.closedL, V.closed, c1]) rfl ?_
        simp
        refine AW.seq (AW.ofx [] mixed (by kernel_rfl) ?_)
        simp
        refine callK.pure hC (by simp [V.closedL, V.closed, c1]) (by simp [V.closed, V.closedL, cz]) ?_
        simp [slA]
        refine AW.seq (AW.ofx [] mixed (by kernel_rfl) ?_)
        simp
        refine callK.pure hW (by simp [V.closedL, V.closed, c1]) rfl ?_
        simp
        refine callK.pure hR rfl rfl ?_
        simp
        refine AW.seq (AW.ofx [] mixed (by kernel_rfl) ?_)
        simp
        refine callK.pure hD (by simp [V.closedL, V.closed, c1]) cz ?_
        simp
        refine AW.seq (AW.ofx [] mixed (by kernel_rfl) ?_)
        simp [slA, hlen]
        refine AW.seq (AW.ofx [] mixed (by kernel_rfl) ?_)
        simp
        refine AW.seq (AW.ofx [] mixed (by kernel_rfl) ?_)
        simp
        refine AW.count 17 (ArI zs s) ⟨_, ?_, rfl⟩ ?_
        · simp [subW, weakV, getF, slA, hlen, rsum_zero]
        rintro k F H hk rfl
        by_cases hlt : k < 17
        · have hlt' : (k : Int) < 17 := by omega
          have w1 : IntKind.i64.wrap ((k : Int) + 1) = (k : Int) + 1 := by rw [wrap_i64] <;> omega
          have hkl : k < zs.length := by omega
          have hkl' : (k : Int) < zs.length := by omega
          have hat : (us zs)[k]? = some (.sc (.int .u64 (s k : Nat))) := by
            have := hget k hlt
            rw [List.getD_eq_getElem?_getD, List.getElem?_eq_getElem hkl] at this
            change zs[k] = _ at this
            rw [← this]
            simp [us, hkl]
          have hrow : AM.rowAt 1 (us zs) (k : Int) = [.sc (.int .u64 (s k : Nat))] := by
            have h1 := hget k hlt
            rw [List.getD_eq_getElem?_getD, List.getElem?_eq_getElem hkl] at h1
            change zs[k] = _ at h1
            rw [← h1]
            unfold AM.rowAt us
            rw [Int.toNat_natCast, Nat.mul_one, ← List.map_drop, ← List.map_take, List.drop_eq_getElem_cons hkl]
            rfl
          have hl1 := hle (k + 1) (by omega)
          rw [hall] at hl1
          have hsc := rsum_succ k s
          have w2 : IntKind.u64.wrap (((rsum k s : Nat) : Int) + ((s k : Nat) : Int)) = ((rsum (k + 1) s : Nat) : Int) := by rw [wrap_u64] <;> omega
          refine AW.seq (AW.ofx [] mixed (by kernel_rfl) ?_)
          simp [hlt']
          refine AW.seq (AW.block (AW.seq (AW.ofx [] mixed (by kernel_rfl) ?_)))
          simp [slA, hkl, hkl', hlen, hlt, hlt', hat, hrow]
          refine AW.ofx [] mixed (by kernel_rfl) ?_
          simp [slA, hkl, hkl', hlen, hlt, hlt', hat, hrow, w1, w2]
          refine AW.ofx [] mixed (by kernel_rfl) ?_
          simp [w1]
          refine ⟨_, ?_, rfl⟩
          simp [subW, weakV, getF, slA, hlen]
        · have hk' : k = 17 := by omega
          subst hk'
          refine AW.seq (AW.ofx [] mixed (by kernel_rfl) ?_)
          simp [slA]
          refine AW.ofx [] mixed (by kernel_rfl) ?_
          simp [hall]
          refine callK.pure hK rfl rfl ?_
          simp
end Go.Proofs.Ytbcfoakceloenaa
