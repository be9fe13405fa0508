/- The nodes of a quadtree of shapes: how many there are. -/
import Derived.Test.YtdeemchhbgomjaaGreatHf
namespace Go.Proofs.YtdeemchhbgomjaaGreat
set_option linter.all false
open Go.RowKit AM
set_option maxRecDepth 10000
attribute [local simp] aw_skip' aw_region' aw_seq' aw_cond' aw_block' aw_loop' aw_exit' aw_label' aw_ret' aops_nil' aops_cons' aop' aMove aAssign aPick aAlloc aBox aBuild slF aBuildSlice aLoad aLoadOwn aStore aStoreOwn isOwn delR aNilCheck aBin aMakeFunc aFieldAddr aField aIndexOp aIndex partV aIndexAddr aExtract aSliceOp aSlice aShrink aCallOp aCall' aInvoke' aLen aLenMap aDelete aMM aUn aConv aIface aAssert aMakeMap aLookup aMapUpdate aRange aNext aEntry entsOf keyB seekK aMakeSlice lookV aAppend putK layK eval evalV AM.valOf getF putF setF del SV.refers cellsAt rootSV plains shift ldV V.exact V.exactL V.ofValue V.ofPart V.ofCell V.cells V.one Value.oneCell' fitB qSeq qBlock getB afin aret resVs resV resTmps shareF evalS tupV valsS valsV pickV calm calmB lenV useOf feeds shrinks stows looks isT newsV partsV fillV putAt zerosV fitsNil nilB sliceB isEq isNeq awx_skip' awx_region' awx_seq' awx_cond' awx_block' awx_loop' awx_exit' awx_label' awx_ret' xops_nil' xops_cons' xop' xload xcall' addO delO inO putD memB Mix.effB Mix.laysB keysF badK subW weakV zeroRow yops_nil' yops_cons' yop' yload yindex yfield ylen oldO dropO takeO oldL exactB

/-- The cells of the nodes. -/
def ndCells : Nat → Ce → List Sh → List Ce
  | 0, _, _ => []
  | d + 1, c, S => c :: (List.range 4).flatMap fun i => if sub' (childOf c (i : Nat)) S = [] then [] else ndCells d (childOf c (i : Nat)) (sub' (childOf c (i : Nat)) S)
def kidCells (d : Nat) (c : Ce) (S : List Sh) (i : Nat) : List Ce := if sub' (childOf c (i : Nat)) S = [] then [] else ndCells d (childOf c (i : Nat)) (sub' (childOf c (i : Nat)) S)
theorem ndCells_succ {d : Nat} {c : Ce} {S : List Sh} : ndCells (d + 1) c S = c :: (List.range 4).flatMap (kidCells d c S) := rfl
theorem ndCells_le : ∀ (d : Nat) (c : Ce) (S : List Sh), (ndCells d c S).length ≤ 5 ^ d
  | 0, _, _ => by simp [ndCells]
  | d + 1, c, S => by
    have hk : ∀ i, (kidCells d c S i).length ≤ 5 ^ d := fun i => by
      unfold kidCells
      split
      · simp
      · exact ndCells_le d _ _
    have h0 := hk 0
    have h1 := hk 1
    have h2 := hk 2
    have h3 := hk 3
    have hp := Nat.pow_pos (n := d) (show 0 < 5 by decide)
    rw [ndCells_succ, Nat.pow_succ]
    simp only [show List.range 4 = [0, 1, 2, 3] from rfl, List.flatMap_cons, List.flatMap_nil, List.length_cons, List.length_append, List.length_nil]
    omega
def upK (d : Nat) (c : Ce) (S : List Sh) (k : Nat) : Nat := ((List.range k).flatMap (kidCells d c S)).length
theorem upK_succ {d : Nat} {c : Ce} {S : List Sh} {k : Nat} : upK d c S (k + 1) = upK d c S k + (kidCells d c S k).length := by
  unfold upK
  rw [List.range_succ, List.flatMap_append, List.length_append]
  simp
theorem upK_le {d : Nat} {c : Ce} {S : List Sh} {k : Nat} (hk : k ≤ 4) : upK d c S k ≤ 4 * 5 ^ d := by
  have h : ∀ i, (kidCells d c S i).length ≤ 5 ^ d := fun i => by
    unfold kidCells
    split
    · simp
    · exact ndCells_le d _ _
  have : ∀ k, upK d c S k ≤ k * 5 ^ d := by
    intro k
    induction k with
    | zero => simp [upK]
    | succ k ih =>
      rw [upK_succ, Nat.succ_mul]
      have := h k
      omega
  exact Nat.le_trans (this k) (Nat.mul_le_mul_right _ hk)
def NoI (d : Nat) (c : Ce) (S : List Sh) (ks : Nat → Option Nat) (H0 : List Bk) (k : Nat) (F : Fr) (H : List Bk) : Prop :=
  ∃ n : Int, n = ((1 + upK d c S k : Nat) : Int) ∧ H = H0 ∧ F = [(3, .v (.sc (.int .i64 n))), (11, .v (.agg [kidV (ks 0), kidV (ks 1), kidV (ks 2), kidV (ks 3)])), (12, .v (.sc (.int .i64 k)))]
theorem nnodesNil (H : List Bk) : AFn Tryz.prog 39 [.sc (.pointer none)] H fun y H' => y = .sc (.int .i64 0) ∧ H' = H := by
  refine AFn.intro (fn := Tryz.f39) (by kernel_rfl) rfl (by kernel_rfl) (by simp) (AW.ofx [] mixed (by kernel_rfl) ?_)
  simp only [Tryz.f39, argsF]
  simp [hNilN]
theorem nnodes : ∀ (d : Nat) (c : Ce) (H : List Bk) (S : List Sh) (b : Nat) (I : Nat → Prop), Nd H d c S b I → d ≤ 17 →
    AFn Tryz.prog 39 [.ptr b 0] H fun y H' => y = .sc (.int .i64 (ndCells d c S).length) ∧ H' = H := by
  intro d
  induction d with
  | zero => intro c H S b I h; exact h.elim
  | succ d ih =>
    intro c H S b I hN hd
    obtain ⟨m, es, k, J, h1, h2, h3, h4, h5, h6⟩ := id hN
    unfold nodeCs at h1
    have hp : 5 ^ d ≤ 5 ^ 16 := Nat.pow_le_pow_right (by decide) (by omega)
    have e16 : 5 ^ 16 = 152587890625 := by decide
    have hfin : (ndCells (d + 1) c S).length = 1 + upK d c S 4 := by
      rw [ndCells_succ]
      simp [upK, Nat.add_comm]
    have hkid : ∀ i, i < 4 → AFn Tryz.prog 39 [kidV (k i)] H fun y H' => y = .sc (.int .i64 (kidCells d c S i).length) ∧ H' = H := by
      intro i hi
      unfold kidCells
      rcases h6 i hi with ⟨e, hki, _⟩ | ⟨e, b', hki, hN'⟩
      · rw [hki, if_pos e]
        exact nnodesNil H
      · rw [hki, if_neg e]
        exact ih _ H _ b' _ hN' (by omega)
    clear h6 h5 h4
    refine AFn.intro (fn := Tryz.f39) (by kernel_rfl) rfl (by kernel_rfl) (by simp) ?_
    simp only [Tryz.f39, argsF]
    refine AW.seq (AW.ofx [] mixed (by kernel_rfl) ?_)
    simp
    refine AW.seq (AW.ofx [] mixed (by kernel_rfl) ?_)
    simp [h1]
    refine AW.seq (AW.ofx [] mixed (by kernel_rfl) ?_)
    simp [h1]
    refine AW.seq (AW.seq (AW.ofx [] mixed (by kernel_rfl) ?_))
    simp [h1]
    refine AW.block ?_
    refine AW.count 4 (NoI d c S k H) ⟨_, ?_, 1, by simp [upK], rfl, rfl⟩ ?_
    · simp [subW, weakV, getF]
    rintro j F H1 hj ⟨n, hn, rfl, rfl⟩
    have hu := upK_le (d := d) (c := c) (S := S) hj
    refine AW.seq (AW.ofx [] mixed (by kernel_rfl) ?_)
    by_cases hlt : j < 4
    · have hlt' : (j : Int) < 4 := by omega
      have hK := hkid j hlt
      have hs := upK_succ (d := d) (c := c) (S := S) (k := j)
      have hu2 := upK_le (d := d) (c := c) (S := S) (k := j + 1) (by omega)
      have w1 : IntKind.i64.wrap ((j : Int) + 1) = (j : Int) + 1 := by rw [wrap_i64] <;> omega
      have w2 : IntKind.i64.wrap (n + ((kidCells d c S j).length : Int)) = n + ((kidCells d c S j).length : Int) := by rw [wrap_i64] <;> omega
      have hget : [kidV (k 0), kidV (k 1), kidV (k 2), kidV (k 3)][j]? = some (kidV (k j)) := by
        rcases (show j = 0 ∨ j = 1 ∨ j = 2 ∨ j = 3 by omega) with rfl | rfl | rfl | rfl <;> rfl
      simp [hlt']
      refine AW.seq (AW.ofx [] mixed (by kernel_rfl) ?_)
      simp
      refine AW.seq (AW.block (AW.ofx [] mixed (by kernel_rfl) ?_))
      simp [hlt', hget]
      refine callK.of hK ?_
      rintro y H2 ⟨rfl, rfl⟩
      simp [w2]
      refine AW.ofx [] mixed (by kernel_rfl) ?_
      simp [w1]
      refine ⟨hlt, _, ?_, n + ((kidCells d c S j).length : Int), by omega, rfl, rfl⟩
      simp [subW, weakV, getF]
    · have hlt' : ¬ (j : Int) < 4 := by omega
      have hj4 : j = 4 := by omega
      simp [hlt']
      refine AW.ofx [] mixed (by kernel_rfl) ?_
      simp
      refine AW.ofx [] mixed (by kernel_rfl) ?_
      simp
      rw [hfin, hn, hj4]
end Go.Proofs.YtdeemchhbgomjaaGreat
