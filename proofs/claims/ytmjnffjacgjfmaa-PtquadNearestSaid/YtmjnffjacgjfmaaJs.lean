/- The shape of a quadtree of points by the document. -/
import Derived.Test.YtmjnffjacgjfmaaJq1
namespace Go.Proofs.Ytmjnffjacgjfmaa
set_option linter.all false
open Go.RowKit AM
set_option maxRecDepth 10000
attribute [local simp] aw_skip' aw_region' aw_seq' aw_cond' aw_block' aw_loop' aw_exit' aw_label' aw_ret' aops_nil' aops_cons' aop' aMove aAssign aPick aAlloc aBox aBuild slF aBuildSlice aLoad aLoadOwn aLoadS sharesAt shares sharedV aStore aStoreOwn isOwn delR aNilCheck aBin aMakeFunc aFieldAddr aField aIndexOp aIndex partV aIndexAddr aExtract aSliceOp aSlice slV aShrink aCallOp aCall' aInvoke' aLen aLenMap aDelete aMM aUn aConv aIface aAssert aMakeMap aLookup aMapUpdate aRange aNext aEntry entsOf keyB seekK aMakeSlice lookV aApp aAppendB aAppendF aAppend putK layK eval evalV AM.valOf getF putF setF del SV.refers cellsAt rootSV plains shift ldV V.exact V.exactL V.ofValue V.ofPart V.ofCell V.cells V.one Value.oneCell' fitB qSeq qBlock getB afin aret resVs resV resTmps shareF evalS tupV valsS valsV pickV calm calmB lenV useOf feeds shrinks stows looks isT newsV partsV fillV putAt zerosV fitsNil nilB sliceB isEq isNeq awx_skip' awx_region' awx_seq' awx_cond' awx_block' awx_loop' awx_exit' awx_label' awx_ret' xops_nil' xops_cons' xop' xload xcall' addO delO inO putD memB Mix.effB Mix.laysB keysF badK subW weakV zeroRow yops_nil' yops_cons' yop' yload yindex yfield ylen oldO dropO takeO oldL exactB V.fixed V.fixedL
attribute [local simp] awz_skip' awz_region' awz_seq' awz_cond' awz_block' awz_loop' awz_exit' awz_label' awz_ret' zops_nil' zops_cons' zop' zload zloadOwn zcall' zlenK z0 new0 remF old0 dltB
theorem shape_le {b : Nat} : ∀ (n : Nat) (c : Ce) (S : List Pr), (shapeP b n c S).1 ≤ capN n
  | 0, _, _ => Nat.le_refl _
  | n + 1, c, S => by
    unfold shapeP
    split
    · exact capN_pos _
    · have h0 := shape_le (b := b) n (childOf c 0) (kidsS c S 0)
      have h1 := shape_le (b := b) n (childOf c 1) (kidsS c S 1)
      have h2 := shape_le (b := b) n (childOf c 2) (kidsS c S 2)
      have h3 := shape_le (b := b) n (childOf c 3) (kidsS c S 3)
      simp only [capN]
      omega
theorem cap_le : ∀ n, n ≤ 16 → capN n ≤ 10000000000 := by decide
def shN (b n : Nat) (c : Ce) (S : List Pr) : Nat → Nat
  | 0 => 1
  | i + 1 => shN b n c S i + (shapeP b n (childOf c i) (kidsS c S i)).1
def shD (b n : Nat) (c : Ce) (S : List Pr) : Nat → Int
  | 0 => c.l
  | i + 1 => max (shD b n c S i) (shapeP b n (childOf c i) (kidsS c S i)).2
theorem shape_fold {b n : Nat} {c : Ce} {S : List Pr} (h : ¬ S.length ≤ b) : shapeP b (n + 1) c S = (shN b n c S 4, shD b n c S 4) := by
  unfold shapeP
  rw [if_neg h]
  rfl
theorem shN_le {b n : Nat} {c : Ce} {S : List Pr} : ∀ i, shN b n c S i ≤ 1 + i * capN n
  | 0 => by simp [shN]
  | i + 1 => by
    have := shN_le (b := b) (n := n) (c := c) (S := S) i
    have h := shape_le (b := b) n (childOf c i) (kidsS c S i)
    simp only [shN, Nat.add_mul]
    omega
theorem window_kids {n : Nat} {c : Ce} {S : List Pr} (h : Ok (n + 1) c S) {i : Nat} (hi : i < 4) : (S.filter fun t => hasR (boxOf (childOf c i)) t.at_) = kidsS c S i := by
  have hl := h.l
  have h0 := (rightC_iff.1 h.r).1.1
  refine List.filter_congr fun t ht => ?_
  rw [Bool.eq_iff_iff, Un.box (child_right h.r (by omega) (by omega)), decide_eq_true_iff]
  constructor
  · intro hu
    exact (hu.of_child h0 (by omega) hi).2
  · intro e
    have := (h.u t ht).child h0 (by omega)
    rwa [e] at this
def ceCs (c : Ce) : List SV := [.v (.sc (.int .i64 c.l)), .v (.sc (.int .i64 c.x)), .v (.sc (.int .i64 c.y))]
def ShI (b n : Nat) (c : Ce) (S : List Pr) (k : Nat) (F : Fr) (H : List Bk) : Prop := (∃ L, H = Bk.cells (ceCs c) :: L) ∧ F = [(0, .v (lV S)), (2, .v (.sc (.int .i64 b))), (4, .v (.ptr 0 0)), (8, .v (.sc (.int .i64 (shN b n c S k)))), (9, .v (.sc (.int .i64 (shD b n c S k)))), (10, .v (.sc (.int .i64 k)))]
set_option maxHeartbeats 2000000 in
theorem refShape {b : Nat} : ∀ (n : Nat) (c : Ce) (S : List Pr), n ≤ 16 → Ok n c S → PFn Try.prog 32 [lV S, c.v, .sc (.int .i64 b)] (.tup [.sc (.int .i64 (shapeP b n c S).1), .sc (.int .i64 (shapeP b n c S).2)]) := by
  intro n
  induction n with
  | zero =>
    intro c S _ hO
    have hl := hO.l
    have hl2 : ¬ c.l < 16 := by omega
    have hl3 : (16 : Int) ≤ c.l := by omega
    unfold Ce.v Ce.cs lV
    refine AFn.intro (fn := Try.f32) (by kernel_rfl) rfl (by kernel_rfl) (by simp) ?_
    simp only [Try.f32, argsF]
    refine AW.seq (AW.ofx [(10, 10, [0, 13, 11, 2])] mixed (by kernel_rfl) ?_)
    simp
    by_cases hb : S.length ≤ b
    · have hb' : (S.length : Int) ≤ b := by omega
      refine AW.seq (AW.ofx [(10, 10, [0, 13, 11, 2])] mixed (by kernel_rfl) ?_)
      simp [hb', shapeP]
    · have hb' : ¬ (S.length : Int) ≤ b := by omega
      refine AW.seq (AW.ofx [(10, 10, [0, 13, 11, 2])] mixed (by kernel_rfl) ?_)
      simp [hb', hl2, hl3, shapeP]
  | succ n ih =>
    intro c S hn hO
    have hl := hO.l
    have hl2 : c.l < 16 := by omega
    have hl3 : ¬ (16 : Int) ≤ c.l := by omega
    by_cases hb : S.length ≤ b
    · have hb' : (S.length : Int) ≤ b := by omega
      unfold Ce.v Ce.cs lV
      refine AFn.intro (fn := Try.f32) (by kernel_rfl) rfl (by kernel_rfl) (by simp) ?_
      simp only [Try.f32, argsF]
      refine AW.seq (AW.ofx [(10, 10, [0, 13, 11, 2])] mixed (by kernel_rfl) ?_)
      simp
      refine AW.seq (AW.ofx [(10, 10, [0, 13, 11, 2])] mixed (by kernel_rfl) ?_)
      simp [hb', hb, shapeP]
    · have hb' : ¬ (S.length : Int) ≤ b := by omega
      rw [shape_fold hb]
      unfold Ce.v Ce.cs lV
      refine AFn.intro (fn := Try.f32) (by kernel_rfl) rfl (by kernel_rfl) (by simp) ?_
      simp only [Try.f32, argsF]
      refine AW.seq (AW.ofx [(10, 10, [0, 13, 11, 2])] mixed (by kernel_rfl) ?_)
      simp
      refine AW.seq (AW.ofx [(10, 10, [0, 13, 11, 2])] mixed (by kernel_rfl) ?_)
      simp [hb', hl2, hl3]
      refine AW.seq (AW.ofx [(10, 10, [0, 13, 11, 2])] mixed (by kernel_rfl) ?_)
      simp
      refine AW.seq (AW.ofx [(10, 10, [0, 13, 11, 2])] mixed (by kernel_rfl) ?_)
      simp
      refine AW.seq (AW.seq (AW.ofx [(10, 10, [0, 13, 11, 2])] mixed (by kernel_rfl) ?_))
      simp
      refine AW.block (AW.count 4 (ShI b n c S) ⟨_, ?_, ⟨[], by simp [ceCs]⟩, rfl⟩ ?_)
      · simp [subW, weakV, getF, lV, shN, shD]
      rintro k F H hk ⟨⟨L, rfl⟩, rfl⟩
      unfold ceCs lV
      refine AW.seq (AW.ofx [(10, 10, [0, 13, 11, 2])] mixed (by kernel_rfl) ?_)
      by_cases hlt : k < 4
      · have w1 : IntKind.i64.wrap ((k : Int) + 1) = (k : Int) + 1 := by rw [wrap_i64] <;> omega
        have hkI : (k : Int) < 4 := by omega
        have hCh := refChild c k
        have hch : childR c k = (childOf c k, true) := by rw [child_box hO.r hl2, if_pos ⟨by omega, by omega⟩]
        rw [hch] at hCh
        have hkO := hO.kid hlt
        have hBx := refBox (childOf c k)
        have hbx : boxR (childOf c k) = (boxOf (childOf c k), true) := by simp [boxR, hkO.r]
        rw [hbx] at hBx
        have hWn := refWindowP S (boxOf (childOf c k)) hO.len
        rw [window_kids hO hlt] at hWn
        have hSh := ih (childOf c k) (kidsS c S k) (by omega) hkO
        have hle1 := shN_le (b := b) (n := n) (c := c) (S := S) (k + 1)
        have hcp := cap_le n (by omega)
        have hcm : (k + 1) * capN n ≤ 4 * capN n := Nat.mul_le_mul_right _ (by omega)
        have es1 : shN b n c S (k + 1) = shN b n c S k + (shapeP b n (childOf c k) (kidsS c S k)).1 := rfl
        have es2 : shD b n c S (k + 1) = max (shD b n c S k) (shapeP b n (childOf c k) (kidsS c S k)).2 := rfl
        generalize boxOf (childOf c k) = bx at *
        generalize childOf c k = ck at *
        generalize kidsS c S k = Sk at *
        generalize shapeP b n ck Sk = sh at *
        obtain ⟨sn, sd⟩ := sh
        simp only at hCh hBx hSh es1 es2
        have w2 : IntKind.i64.wrap ((shN b n c S k : Int) + (sn : Int)) = ((shN b n c S (k + 1) : Nat) : Int) := by rw [wrap_i64] <;> omega
        unfold Ce.v Ce.cs at hCh hBx hSh
        unfold Re.v Re.cs at hBx hWn
        unfold lV at hWn hSh
        simp [hkI]
        refine AW.seq (AW.block (AW.seq (AW.ofx [(10, 10, [0, 13, 11, 2])] mixed (by kernel_rfl) ?_)))
        simp
        refine callK.pure hCh rfl rfl ?_
        simp
        have k3 : ∀ (x : Bk) (z0 z1 z2 : SV) (a b d : V) (M : List Bk), setCells (x :: (M ++ [.cells [z0, z1, z2]])) (M.length + 1) 0 [a, b, d] = x :: (M ++ [.cells [.v a, .v b, .v d]]) := fun x z0 z1 z2 a b d M => by
          simp [setCells, setBlk]
        have k4 : ∀ (x : Bk) (z0 z1 z2 z3 : SV) (a b d e : V) (M : List Bk), setCells (x :: (M ++ [.cells [z0, z1, z2, z3]])) (M.length + 1) 0 [a, b, d, e] = x :: (M ++ [.cells [.v a, .v b, .v d, .v e]]) := fun x z0 z1 z2 z3 a b d e M => by
          simp [setCells, setBlk]
        rw [k3]
        have g1 : (Bk.cells [.v (.sc (.int .i64 c.l)), .v (.sc (.int .i64 c.x)), .v (.sc (.int .i64 c.y))] :: (L ++ [Bk.cells [.v (.sc (.int .i64 ck.l)), .v (.sc (.int .i64 ck.x)), .v (.sc (.int .i64 ck.y))]]))[L.length + 1]? = some (Bk.cells [.v (.sc (.int .i64 ck.l)), .v (.sc (.int .i64 ck.x)), .v (.sc (.int .i64 ck.y))]) := by simp
        generalize L ++ [Bk.cells [.v (.sc (.int .i64 ck.l)), .v (.sc (.int .i64 ck.x)), .v (.sc (.int .i64 ck.y))]] = L1 at *
        refine AW.seq (AW.ofx [(10, 10, [0, 13, 11, 2])] mixed (by kernel_rfl) ?_)
        simp [g1]
        refine callK.pure hBx rfl rfl ?_
        simp
        rw [k4]
        have g2 : (Bk.cells [.v (.sc (.int .i64 c.l)), .v (.sc (.int .i64 c.x)), .v (.sc (.int .i64 c.y))] :: (L1 ++ [Bk.cells [.v (.sc (.int .i64 bx.x0)), .v (.sc (.int .i64 bx.y0)), .v (.sc (.int .i64 bx.x1)), .v (.sc (.int .i64 bx.y1))]]))[L1.length + 1]? = some (Bk.cells [.v (.sc (.int .i64 bx.x0)), .v (.sc (.int .i64 bx.y0)), .v (.sc (.int .i64 bx.x1)), .v (.sc (.int .i64 bx.y1))]) := by simp
        have g3 := hget (L := [Bk.cells [.v (.sc (.int .i64 bx.x0)), .v (.sc (.int .i64 bx.y0)), .v (.sc (.int .i64 bx.x1)), .v (.sc (.int .i64 bx.y1))]]) g1
        rw [List.cons_append] at g3
        generalize L1 ++ [Bk.cells [.v (.sc (.int .i64 bx.x0)), .v (.sc (.int .i64 bx.y0)), .v (.sc (.int .i64 bx.x1)), .v (.sc (.int .i64 bx.y1))]] = L2 at *
        refine AW.sub [(0, .v (.sl S.length 4 (S.flatMap Pr.cs))), (2, .v (.sc (.int .i64 b))), (4, .v (.ptr 0 0)), (8, .v (.sc (.int .i64 (shN b n c S k)))), (9, .v (.sc (.int .i64 (shD b n c S k)))), (10, .v (.sc (.int .i64 k))), (11, .v (.ptr (L.length + 1) 0)), (13, .v (.ptr (L1.length + 1) 0))] (by simp [subF, getF]) ?_
        refine AW.seq (AW.ofx [(10, 10, [0, 13, 11, 2])] mixed (by kernel_rfl) ?_)
        simp [g2, g3]
        refine callK.pure hWn (by simp [V.closedL, V.closed, closed_flat (enc := Pr.cs) (fun _ => rfl)]) (by simp [V.closed, closed_flat (enc := Pr.cs) (fun _ => rfl)]) ?_
        simp [g2, g3]
        refine callK.pure hSh (by simp [V.closedL, V.closed, closed_flat (enc := Pr.cs) (fun _ => rfl)]) rfl ?_
        simp
        refine AW.seq (AW.ofx [(10, 10, [0, 13, 11, 2])] mixed (by kernel_rfl) ?_)
        simp [w2]
        by_cases hgt : shD b n c S k < sd
        · have em : shD b n c S (k + 1) = sd := by rw [es2]; omega
          refine AW.ofx [(10, 10, [0, 13, 11, 2])] mixed (by kernel_rfl) ?_
          simp [hgt]
          refine AW.ofx [(10, 10, [0, 13, 11, 2])] mixed (by kernel_rfl) ?_
          simp [w1]
          refine ⟨hlt, _, ?_, ⟨_, rfl⟩, rfl⟩
          simp [subW, weakV, getF, lV, em]
        · have em : shD b n c S (k + 1) = shD b n c S k := by rw [es2]; omega
          refine AW.ofx [(10, 10, [0, 13, 11, 2])] mixed (by kernel_rfl) ?_
          simp [hgt]
          refine AW.ofx [(10, 10, [0, 13, 11, 2])] mixed (by kernel_rfl) ?_
          simp [w1]
          refine ⟨hlt, _, ?_, ⟨_, rfl⟩, rfl⟩
          simp [subW, weakV, getF, lV, em]
      · have hk' : k = 4 := by omega
        subst hk'
        simp
        refine AW.ofx [(10, 10, [0, 13, 11, 2])] mixed (by kernel_rfl) ?_
        simp
end Go.Proofs.Ytmjnffjacgjfmaa
