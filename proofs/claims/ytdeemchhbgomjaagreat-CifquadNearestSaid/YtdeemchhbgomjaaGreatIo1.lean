/- The nearest shapes: of a tree, and by the document. -/
import Derived.Test.YtdeemchhbgomjaaGreatIl1
namespace Go.Proofs.YtdeemchhbgomjaaGreat
set_option linter.all false
open Go.RowKit AM

/-! ## Nodes are not farther than what is below them -/
theorem gap_mono {n a0 a1 b0 b1 : Int} (h0 : b0 ≤ a0) (h1 : a1 ≤ b1) (h2 : a0 ≤ a1) : gapZ n b0 b1 ≤ gapZ n a0 a1 := by
  unfold gapZ
  split <;> split <;> (try split) <;> (try split) <;> omega
theorem sq_mono {x y : Int} (h0 : 0 ≤ x) (h : x ≤ y) : x * x ≤ y * y := Int.mul_le_mul h h h0 (by omega)
theorem dist_mono {a b : Re} (p : Pt) (ha : rightR a = true) (hb : rightR b = true) (h : b.x0 ≤ a.x0 ∧ b.y0 ≤ a.y0 ∧ a.x1 ≤ b.x1 ∧ a.y1 ≤ b.y1) : distR b p ≤ distR a p := by
  unfold distR
  rw [ha, hb]
  cases hp : fits p with
  | false => simp
  | true =>
    have ra := right_rng ha
    have rb := right_rng hb
    have rp := fits_rng hp
    have g1 := gapZ_range rp.1 rb.1 rb.2.2.1
    have g2 := gapZ_range rp.2 rb.2.1 rb.2.2.2.1
    have m1 := gap_mono (n := p.x) h.1 h.2.2.1 ra.2.2.2.2.1
    have m2 := gap_mono (n := p.y) h.2.1 h.2.2.2 ra.2.2.2.2.2
    have s1 := sq_mono g1.1 m1
    have s2 := sq_mono g2.1 m2
    simp only [Bool.and_self, if_true]
    omega
theorem snap_eq {r : Re} {l : Int} (hl : rightL l = true) (h : rightR r = true) : (snapR r l).1 = ⟨side l * (r.x0 / side l), side l * (r.y0 / side l), side l * (r.x1 / side l) + side l - 1, side l * (r.y1 / side l) + side l - 1⟩ := by
  have hs := side_rng (rightL_iff.1 hl).1 (rightL_iff.1 hl).2
  simp [snapR, hl, h, sub_mod hs.1]
theorem snap_right {r : Re} {l : Int} (hl : rightL l = true) (h : rightR r = true) : rightR (snapR r l).1 = true := by
  have hl' := rightL_iff.1 hl
  have hs := side_rng hl'.1 hl'.2
  have hf := right_fits h
  have b1 := right_rng (box_right (cell_right hf.1 hl'.1 hl'.2))
  have b2 := right_rng (box_right (cell_right hf.2 hl'.1 hl'.2))
  have rr := right_rng h
  have e1 : boxOf (cellOf r.lo l) = ⟨side l * (r.x0 / side l), side l * (r.y0 / side l), side l * (r.x0 / side l) + side l - 1, side l * (r.y0 / side l) + side l - 1⟩ := rfl
  have e2 : boxOf (cellOf r.hi l) = ⟨side l * (r.x1 / side l), side l * (r.y1 / side l), side l * (r.x1 / side l) + side l - 1, side l * (r.y1 / side l) + side l - 1⟩ := rfl
  rw [e1] at b1
  rw [e2] at b2
  simp only at b1 b2
  have m1 : side l * (r.x0 / side l) ≤ side l * (r.x1 / side l) := Int.mul_le_mul_of_nonneg_left (Int.ediv_le_ediv hs.1 rr.2.2.2.2.1) (by omega)
  have m2 : side l * (r.y0 / side l) ≤ side l * (r.y1 / side l) := Int.mul_le_mul_of_nonneg_left (Int.ediv_le_ediv hs.1 rr.2.2.2.2.2) (by omega)
  rw [snap_eq hl h]
  simp only [rightR, inside, Bool.and_eq_true, decide_eq_true_eq]
  omega
theorem far_mono {a b : Re} {l : Int} (p : Pt) (hl : rightL l = true) (ha : rightR a = true) (hb : rightR b = true) (h : b.x0 ≤ a.x0 ∧ b.y0 ≤ a.y0 ∧ a.x1 ≤ b.x1 ∧ a.y1 ≤ b.y1) : farN b p l ≤ farN a p l := by
  have hl' := rightL_iff.1 hl
  have hs := side_rng hl'.1 hl'.2
  refine dist_mono p (snap_right hl ha) (snap_right hl hb) ?_
  rw [snap_eq hl ha, snap_eq hl hb]
  have m1 : side l * (b.x0 / side l) ≤ side l * (a.x0 / side l) := Int.mul_le_mul_of_nonneg_left (Int.ediv_le_ediv hs.1 h.1) (by omega)
  have m2 : side l * (b.y0 / side l) ≤ side l * (a.y0 / side l) := Int.mul_le_mul_of_nonneg_left (Int.ediv_le_ediv hs.1 h.2.1) (by omega)
  have m3 : side l * (a.x1 / side l) ≤ side l * (b.x1 / side l) := Int.mul_le_mul_of_nonneg_left (Int.ediv_le_ediv hs.1 h.2.2.1) (by omega)
  have m4 : side l * (a.y1 / side l) ≤ side l * (b.y1 / side l) := Int.mul_le_mul_of_nonneg_left (Int.ediv_le_ediv hs.1 h.2.2.2) (by omega)
  simp only
  omega
theorem node_le {c : Ce} {s : Sh} {l : Int} (p : Pt) (hl : rightL l = true) (hc : rightC c = true) (hs : underC c (hm s) = true ∧ rightR s.box = true) : farN (boxOf c) p l ≤ farR s p l :=
  far_mono p hl hs.2 (box_right hc) (home_in hs.2 (rightC_iff.1 hc).1.1 hs.1)

/-! ## The next one -/
theorem perm_pick {α β : Type} {f : α → β} {x : β} {tl : List β} : ∀ {its : List α}, (x :: tl).Perm (its.map f) → ∃ it its', f it = x ∧ its.Perm (it :: its') ∧ tl.Perm (its'.map f) := by
  intro its h
  have hx : x ∈ its.map f := h.mem_iff.1 (List.mem_cons_self ..)
  obtain ⟨it, hit, rfl⟩ := List.mem_map.1 hx
  obtain ⟨a, b, rfl⟩ := List.append_of_mem hit
  refine ⟨it, a ++ b, rfl, List.perm_middle, ?_⟩
  have h2 : ((a ++ it :: b).map f).Perm (f it :: (a ++ b).map f) := List.perm_middle.map f
  exact List.Perm.cons_inv (h.trans h2)
theorem sort_min {x : Ent} {m : List Ent} (h : ∀ y ∈ m, y.lt x = false) : sort (x :: m) = x :: sort m := by
  refine srt_unique (sort_srt _) (List.pairwise_cons.2 ⟨fun y hy => h y ((sort_perm m).mem_iff.1 hy), sort_srt m⟩) ?_
  exact (sort_perm _).trans ((sort_perm m).symm.cons x)
/-- All that is below what waits comes behind the first, if that is a shape. -/
theorem all_behind {H : List Bk} {T : Nat → Prop} {ws : List Nat} {p : Pt} {l : Int} {kp : Sh → Bool} {s : Sh} {its : List It} (hl : rightL l = true) (hok : ∀ it ∈ its, it.ok H T ws) (hmin : ∀ it ∈ its, (it.ent p l).lt (shEn p l s) = false) :
    ∀ y ∈ (its.flatMap (It.shs kp)).map (shEn p l), y.lt (shEn p l s) = false := by
  intro y hy
  obtain ⟨t, ht, rfl⟩ := List.mem_map.1 hy
  obtain ⟨it, hit, hti⟩ := List.mem_flatMap.1 ht
  have hm := hmin it hit
  cases it with
  | sh t' =>
    simp only [It.shs, List.mem_singleton] at hti
    subst hti
    exact hm
  | nd i d c S =>
    obtain ⟨h1, h2, h3, h4, _⟩ := hok _ hit
    simp only [It.shs] at hti
    have htS := (List.mem_filter.1 hti).1
    have hle := node_le p hl h2 (h4 t htS)
    rw [Ent.nlt_iff] at hm ⊢
    simp only [It.ent, nodeE, shEn] at hm ⊢
    omega
end Go.Proofs.YtdeemchhbgomjaaGreat
namespace Go.Proofs.YtdeemchhbgomjaaGreat
set_option linter.all false
open Go.RowKit AM
set_option maxRecDepth 10000
attribute [local simp] aw_skip' aw_region' aw_seq' aw_cond' aw_block' aw_loop' aw_exit' aw_label' aw_ret' aops_nil' aops_cons' aop' aMove aAssign aPick aAlloc aBox aBuild slF aBuildSlice aLoad aLoadOwn aStore aStoreOwn isOwn delR aNilCheck aBin aMakeFunc aFieldAddr aField aIndexOp aIndex partV aIndexAddr aExtract aSliceOp aSlice aShrink aCallOp aCall' aInvoke' aLen aLenMap aDelete aMM aUn aConv aIface aAssert aMakeMap aLookup aMapUpdate aRange aNext aEntry entsOf keyB seekK aMakeSlice lookV aAppend putK layK eval evalV AM.valOf getF putF setF del SV.refers cellsAt rootSV plains shift ldV V.exact V.exactL V.ofValue V.ofPart V.ofCell V.cells V.one Value.oneCell' fitB qSeq qBlock getB afin aret resVs resV resTmps shareF evalS tupV valsS valsV pickV calm calmB lenV useOf feeds shrinks stows looks isT newsV partsV fillV putAt zerosV fitsNil nilB sliceB isEq isNeq awx_skip' awx_region' awx_seq' awx_cond' awx_block' awx_loop' awx_exit' awx_label' awx_ret' xops_nil' xops_cons' xop' xload xcall' addO delO inO putD memB Mix.effB Mix.laysB keysF badK subW weakV zeroRow yops_nil' yops_cons' yop' yload yindex yfield ylen oldO dropO takeO oldL exactB
attribute [local simp] awz_skip' awz_region' awz_seq' awz_cond' awz_block' awz_loop' awz_exit' awz_label' awz_ret' zops_nil' zops_cons' zop' zload zloadOwn zcall' zlenK z0 new0 remF old0 dltB

/-- The first n of shapes that are kept, by how far they are. -/
def NearR (S : List Sh) (kp : Sh → Bool) (p : Pt) (l n : Int) (R : List Sh) : Prop := R.map (shEn p l) = (sort ((S.filter kp).map (shEn p l))).take n.toNat ∧ ∀ s ∈ R, s ∈ S.filter kp
def NrM (H0 : List Bk) (k r q : Nat) (p : Pt) (l : Int) (kv : V) (n : Int) (F : Fr) (H1 : List Bk) : Prop :=
  H1[k]? = some (.cells [.v (.ptr r 0), .v (.sc (.int .i64 p.x)), .v (.sc (.int .i64 p.y)), .v (.sc (.int .i64 l)), .v kv, .v .nil, .v (.ptr q 0)]) ∧ H1[q]? = some (qB []) ∧ Kp NoB H0 H1 ∧
    F = [(0, .v (.ptr r 0)), (2, .v (.sc (.int .i64 n))), (11, .v (.ptr k 0))]
theorem near0 {H : List Bk} {r : Nat} {S : List Sh} {T : Nat → Prop} (ht : TrS H r S T) (p : Pt) (n l : Int) (kv : V) (kp : Sh → Bool) {ib : Nat} {fb : Option Bk} (hkp : KeepOK kv ib fb kp) (hbad : (fits p && rightL l) = false) :
    AFn Tryz.prog 9 [.ptr r 0, p.v, .sc (.int .i64 n), .sc (.int .i64 l), kv] H fun y H' => y = .nil ∧ Kp NoB H H' := by
  have hM := fun L => tmade (ht.app (L := L))
  have hF := gFits p
  unfold Pt.v Pt.cs at hF ⊢
  refine AFn.intro (fn := Tryz.f9) (by kernel_rfl) rfl (by kernel_rfl) (by simp) ?_
  simp only [Tryz.f9, argsF]
  refine AW.seq (AW.ofx [(3, 5, [0, 6, 3, 4])] mixed (by kernel_rfl) ?_)
  simp
  refine AW.seq (AW.seq (AW.ofx [(3, 5, [0, 6, 3, 4])] mixed (by kernel_rfl) ?_))
  simp
  refine callK.of (hM _) ?_
  rintro y H1 ⟨rfl, rfl⟩
  simp
  refine callK.pure hF rfl rfl ?_
  cases hf : fits p with
  | false =>
    simp
    refine AW.ofx [(3, 5, [0, 6, 3, 4])] mixed (by kernel_rfl) ?_
    simp
    exact Kp.refl.app
  | true =>
    rw [hf, Bool.true_and] at hbad
    by_cases h0 : l < 0
    · simp [h0]
      refine AW.ofx [(3, 5, [0, 6, 3, 4])] mixed (by kernel_rfl) ?_
      simp
      exact Kp.refl.app
    · have h16 : 16 < l := by
        simp only [rightL, decide_eq_false_iff_not] at hbad
        omega
      simp [h0, h16]
      refine AW.ofx [(3, 5, [0, 6, 3, 4])] mixed (by kernel_rfl) ?_
      simp
      exact Kp.refl.app
def NrI (H0 : List Bk) (k r q : Nat) (p : Pt) (l : Int) (kv : V) (n : Int) (S : List Sh) (T : Nat → Prop) (kp : Sh → Bool) (z : Nat) (F : Fr) (H1 : List Bk) : Prop :=
  ∃ (out : List Sh) (its : List It) (ws : List Nat) (hs : List Ent), z = wts its ∧ H1[k]? = some (skB r p l kv ws q) ∧ QQ H1 q hs ∧ Kp NoB H0 H1 ∧ TrS H1 r S T ∧ hs.Perm (its.map (It.ent p l)) ∧ (∀ it ∈ its, it.ok H1 T ws) ∧
    (out ++ its.flatMap (It.shs kp)).Perm (S.filter kp) ∧ out.map (shEn p l) ++ sort ((its.flatMap (It.shs kp)).map (shEn p l)) = sort ((S.filter kp).map (shEn p l)) ∧ ws.length + wts its ≤ S.length * 18 + 1 ∧ (out.length : Int) ≤ max n 0 ∧
    F = [(0, .v (.ptr r 0)), (2, .v (.sc (.int .i64 n))), (11, .v (.ptr k 0)), (12, ownS out)]
theorem near1 {H : List Bk} {r : Nat} {S : List Sh} {T : Nat → Prop} (ht : TrS H r S T) (hS : S.length ≤ 1000) (p : Pt) (n l : Int) (kv : V) (kp : Sh → Bool) {ib : Nat} {fb : Option Bk} (hkp : KeepOK kv ib fb kp) (hfb : ∀ x, fb = some x → H[ib]? = some x ∧ ∀ n l cu, x ≠ .iter n l cu) (hf : fits p = true) (hl : rightL l = true) :
    AFn Tryz.prog 9 [.ptr r 0, p.v, .sc (.int .i64 n), .sc (.int .i64 l), kv] H fun y H' => ∃ R, y = slS R ∧ NearR S kp p l n R ∧ Kp NoB H H' := by
  have hM := fun L => tmade (ht.app (L := L))
  have hF := gFits p
  rw [hf] at hF
  have hl' := rightL_iff.1 hl
  have h0 : ¬ l < 0 := by omega
  have h16 : ¬ 16 < l := by omega
  have hTl := ht.lt
  unfold Pt.v Pt.cs at hF ⊢
  refine AFn.intro (fn := Tryz.f9) (by kernel_rfl) rfl (by kernel_rfl) (by simp) ?_
  simp only [Tryz.f9, argsF]
  refine AW.seq (AW.ofx [(3, 5, [0, 6, 3, 4])] mixed (by kernel_rfl) ?_)
  simp
  refine AW.seq (AW.seq (AW.ofx [(3, 5, [0, 6, 3, 4])] mixed (by kernel_rfl) ?_))
  simp
  refine callK.of (hM _) ?_
  rintro y H1 ⟨rfl, rfl⟩
  simp
  refine callK.pure hF rfl rfl ?_
  simp [h0, h16]
  refine AW.ofx [(3, 5, [0, 6, 3, 4])] mixed (by kernel_rfl) ?_
  simp
  have ht1 := ht.app (L := [.cells [.v (.sc (.int .i64 p.x)), .v (.sc (.int .i64 p.y))]])
  have kp1 : Kp NoB H (H ++ [.cells [.v (.sc (.int .i64 p.x)), .v (.sc (.int .i64 p.y))]]) := Kp.refl.app
  have hp1 : (H ++ [Bk.cells [.v (.sc (.int .i64 p.x)), .v (.sc (.int .i64 p.y))]])[H.length]? = some (.cells [.v (.sc (.int .i64 p.x)), .v (.sc (.int .i64 p.y))]) := by simp
  have hll : H.length < (H ++ [Bk.cells [.v (.sc (.int .i64 p.x)), .v (.sc (.int .i64 p.y))]]).length := by simp
  generalize H ++ [Bk.cells [.v (.sc (.int .i64 p.x)), .v (.sc (.int .i64 p.y))]] = H1 at *
  generalize hhl : H.length = hl0 at *
  have hkS := fun (x : Bk) => keepS_app (H := H1) (L := [x])
  have hkS2 := fun (x y : Bk) => keepS_app (H := H1) (L := [x, y])
  refine AW.mid (NrM H (H1.length + 1) r H1.length p l kv n) (AW.ofx [(3, 5, [0, 6, 3, 4])] mixed (by kernel_rfl) ?_) ?_
  · rcases hkp with ⟨rfl, _⟩ | ⟨g, cap, rfl, _⟩
    · simp [hp1]
      refine callK.of (znew H1) ?_
      rintro y H2 ⟨rfl, rfl⟩
      simp [hkS, hkS2]
      refine ⟨_, ?_, by simp, by simp, kp1.app, rfl⟩
      simp [subW, weakV, getF]
    · simp [hp1]
      refine callK.of (znew H1) ?_
      rintro y H2 ⟨rfl, rfl⟩
      simp [hkS, hkS2]
      refine ⟨_, ?_, by simp, by simp, kp1.app, rfl⟩
      simp [subW, weakV, getF]
  rintro F H2 ⟨hk2, hq2, kp2, rfl⟩
  have hkq : H1.length + 1 ≠ H1.length := by omega
  have hkH : hl0 ≤ H1.length + 1 := by omega
  have hqH : hl0 ≤ H1.length := by omega
  generalize H1.length + 1 = k at *
  generalize H1.length = q at *
  clear hkS hkS2 hp1 ht1 kp1 hM
  refine AW.weakCell (.own true 63 0 1 []) (id := k) (off := 5) hk2 rfl ⟨rfl, rfl, by decide⟩ rfl ?_
  rw [setBlk_eq' hk2]
  have hk3 : (H2.set k (Bk.cells (List.set [.v (.ptr r 0), .v (.sc (.int .i64 p.x)), .v (.sc (.int .i64 p.y)), .v (.sc (.int .i64 l)), .v kv, .v .nil, .v (.ptr q 0)] 5 (.own true 63 0 1 []))))[k]? = some (skB r p l kv [] q) := List.getElem?_set_self (List.getElem?_eq_some_iff.1 hk2).1
  have hq3 : QQ (H2.set k (Bk.cells (List.set [.v (.ptr r 0), .v (.sc (.int .i64 p.x)), .v (.sc (.int .i64 p.y)), .v (.sc (.int .i64 l)), .v kv, .v .nil, .v (.ptr q 0)] 5 (.own true 63 0 1 [])))) q [] := ⟨[], by rw [List.getElem?_set_ne hkq]; exact hq2, Held.nil⟩
  have kp3 : Kp NoB H (H2.set k (Bk.cells (List.set [.v (.ptr r 0), .v (.sc (.int .i64 p.x)), .v (.sc (.int .i64 p.y)), .v (.sc (.int .i64 l)), .v kv, .v .nil, .v (.ptr q 0)] 5 (.own true 63 0 1 [])))) := Kp.new ((kp2.weak fun _ h => h.elim).set (.inr (by rw [hhl]; exact hkH)))
  generalize H2.set k (Bk.cells (List.set [.v (.ptr r 0), .v (.sc (.int .i64 p.x)), .v (.sc (.int .i64 p.y)), .v (.sc (.int .i64 l)), .v kv, .v .nil, .v (.ptr q 0)] 5 (.own true 63 0 1 []))) = H3 at *
  clear hk2 hq2 kp2
  have ht3 := ht.keep0 kp3
  obtain ⟨b, m, I, es, hb, hT⟩ := id ht3
  have hTk : ∀ x, T x → ¬ (x = k ∨ x = q) := fun x hx e => by
    have := hTl x hx
    omega
  obtain ⟨m', ks', hb'⟩ : ∃ m' ks', H3[b]? = some (.cells (nodeCs root0 ks' S.length m')) := by
    obtain ⟨m', _, ks', _, g1, _⟩ := hb.nd
    exact ⟨m', ks', g1⟩
  have hNo := sknode hk3 hq3 hb' root_right (by simp) (by simp)
  have hr3 := hb.cr
  refine AW.seq (AW.ofx [(3, 5, [0, 6, 3, 4])] mixed (by kernel_rfl) ?_)
  simp [hr3]
  refine callK.of hNo ?_
  rintro y H4 ⟨rfl, hnq⟩
  simp
  have hst : ∃ (its : List It) (ws : List Nat) (hs : List Ent), H4[k]? = some (skB r p l kv ws q) ∧ QQ H4 q hs ∧ Kp NoB H H4 ∧ hs.Perm (its.map (It.ent p l)) ∧ (∀ it ∈ its, it.ok H4 T ws) ∧ (its.flatMap (It.shs kp)) = S.filter kp ∧ ws.length + wts its ≤ S.length * 18 + 1 := by
    by_cases hz : S.length = 0
    · rw [if_pos hz] at hnq
      obtain ⟨g1, g2, g3⟩ := hnq
      have : S = [] := List.length_eq_zero_iff.1 hz
      exact ⟨[], [], [], g2, g3, Kp.new ((kp3.weak fun _ h => h.elim).trans (g1.weak fun x hx => .inr (by omega))), .nil, fun _ h => (by cases h), by simp [this], by simp [wts]⟩
    · rw [if_neg hz] at hnq
      obtain ⟨g1, g2, g3⟩ := hnq
      refine ⟨[.nd 0 17 root0 S], [b], _, g2, g3, Kp.new ((kp3.weak fun _ h => h.elim).trans (g1.weak fun x hx => .inr (by omega))), .refl _, fun it hit => ?_, by simp [It.shs], by simp [wts, It.wt]; omega⟩
      rw [List.mem_singleton] at hit
      subst hit
      refine ⟨fun e => hz (by rw [e]; rfl), root_right, by decide, fun s hs => ⟨root_under (hb.right s hs), hb.right s hs⟩, b, I, rfl, Nd.keep g1 hb.nd fun x hx => hTk x ((hT x).2 (.inr (.inr hx))), fun x hx => (hT x).2 (.inr (.inr hx))⟩
  obtain ⟨its, ws, hs, s1, s2, s3, s4, s5, s6, s7⟩ := hst
  clear hnq hk3 hq3 kp3 ht3 hNo hr3 hb' hb hT
  refine AW.ofx [(3, 5, [0, 6, 3, 4])] mixed (by kernel_rfl) ?_
  simp
  refine (AW.loopW (NrI H k r q p l kv n S T kp) ⟨wts its, _, ?_, [], its, ws, hs, rfl, s1, s2, s3, ht.keep0 s3, s4, s5, by rw [s6]; exact .refl _, by rw [s6]; rfl, s7, by simp; omega, rfl⟩ ?_)
  · simp [subW, weakV, getF, zeroRow, ownS]
  clear s1 s2 s3 s4 s5 s6 s7 its ws hs
  rintro zz F H5 ⟨out, its, ws, hs, rfl, s1, s2, s3, s4, s5, s6, s7, s8, s9, s10, rfl⟩
  have hTkk : ¬ T k := fun e => hTk k e (.inl rfl)
  have hTqq : ¬ T q := fun e => hTk q e (.inr rfl)
  have hnl := wts_len s6
  have hhl2 := s5.length_eq
  rw [List.length_map] at hhl2
  unfold ownS
  have hout : ∀ s ∈ out, s ∈ S.filter kp := fun s hs => s7.mem_iff.1 (List.mem_append_left _ hs)
  refine AW.seq (AW.seq (AW.ofx [(3, 5, [0, 6, 3, 4])] mixed (by kernel_rfl) ?_))
  simp
  by_cases hlt : (out.length : Int) < n
  · refine AW.ofx [(3, 5, [0, 6, 3, 4])] mixed (by kernel_rfl) ?_
    simp [hlt]
    have hP := zpop s2 (by omega)
    have hsk := s1
    unfold skB at hsk
    have hfin : its = [] → NearR S kp p l n out := fun e => by
      subst e
      refine ⟨?_, hout⟩
      rw [List.flatMap_nil, List.map_nil] at s8
      have e1 : sort ([] : List Ent) = [] := rfl
      rw [e1, List.append_nil] at s8
      rw [← s8, List.take_of_length_le]
      rw [List.length_map]
      omega
    refine AW.block (AW.seq (AW.ofx [(3, 5, [0, 6, 3, 4])] mixed (by kernel_rfl) ?_))
    simp [hsk]
    refine callK.of hP ?_
    rintro y H6 ⟨rfl, k6, hq6⟩
    cases hs with
    | nil =>
      have hits : its = [] := by
        have := s5.length_eq
        simp at this
        exact List.length_eq_zero_iff.1 this.symm
      simp [popV, setCells, setBlk]
      have kfin : Kp NoB H (H6 ++ [Bk.cells [.v (.sc (.int .u64 0)), .v (.sc (.int .u64 0)), .v (.sc (.int .i64 0))]]) := (Kp.new ((s3.weak fun _ h => h.elim).trans (k6.toKp.weak fun x hx => .inr (by omega)))).app
      refine AW.seq (AW.seq (AW.ofx [(3, 5, [0, 6, 3, 4])] mixed (by kernel_rfl) ?_))
      simp
      refine AW.ofx [(3, 5, [0, 6, 3, 4])] mixed (by kernel_rfl) ?_
      simp
      exact ⟨out, rfl, hfin hits, kfin⟩
    | cons x tl =>
      obtain ⟨it, its', hx, hpi, htl⟩ := perm_pick s5
      have hsr : Srt (x :: tl) := by
        obtain ⟨_, _, hh⟩ := s2
        exact hh.2.2
      have hlx : ∀ y ∈ tl, y.lt x = false := (List.pairwise_cons.1 hsr).1
      have hqk : ¬ k = q := hkq
      have g1 := hget (L := [.cells [.v (.sc (.int .u64 x.k)), .v (.sc (.int .u64 x.t)), .v (.sc (.int .i64 x.i))]]) (k6.cells hqk s1)
      have g2 := hq6.keep (Kp.refl.app (L := [.cells [.v (.sc (.int .u64 x.k)), .v (.sc (.int .u64 x.t)), .v (.sc (.int .i64 x.i))]]) (I := NoB)) (fun h => h)
      have k7 : Kp (fun x => x = q) H5 (H6 ++ [.cells [.v (.sc (.int .u64 x.k)), .v (.sc (.int .u64 x.t)), .v (.sc (.int .i64 x.i))]]) := k6.toKp.app
      have g3 : Kp NoB H (H6 ++ [.cells [.v (.sc (.int .u64 x.k)), .v (.sc (.int .u64 x.t)), .v (.sc (.int .i64 x.i))]]) := Kp.new ((s3.weak fun _ h => h.elim).trans (k7.weak fun x hx => .inr (by omega)))
      have g4 := ht.keep0 g3
      have g6 : ∀ it ∈ its, it.ok (H6 ++ [.cells [.v (.sc (.int .u64 x.k)), .v (.sc (.int .u64 x.t)), .v (.sc (.int .i64 x.i))]]) T ws := fun it hit => by
        have := It.ok_keep (L := []) k7 (fun x hx e => hTqq (e ▸ hx)) (s6 it hit)
        rwa [List.append_nil] at this
      have g7 : (H6 ++ [Bk.cells [.v (.sc (.int .u64 x.k)), .v (.sc (.int .u64 x.t)), .v (.sc (.int .i64 x.i))]])[H6.length]? = some (.cells [.v (.sc (.int .u64 x.k)), .v (.sc (.int .u64 x.t)), .v (.sc (.int .i64 x.i))]) := by simp
      have hkz : k < H6.length := (List.getElem?_eq_some_iff.1 (k6.cells hqk s1)).1
      simp [popV, entV_eq, setCells, setBlk]
      simp only [List.tail_cons] at g2 hq6
      generalize H6 ++ [Bk.cells [.v (.sc (.int .u64 x.k)), .v (.sc (.int .u64 x.t)), .v (.sc (.int .i64 x.i))]] = H7 at *
      generalize H6.length = z at *
      clear s1 s2 s3 s4 s6 k6 k7 hq6 hP hsk
      have hsk := g1
      unfold skB at hsk
      have hwt : wts its = it.wt + wts its' := by rw [wts_perm hpi]; simp [wts]
      have hfm : (its.flatMap (It.shs kp)).Perm (it.shs kp ++ its'.flatMap (It.shs kp)) := by
        have := hpi.flatMap_right (It.shs kp)
        simpa using this
      refine AW.seq (AW.seq (AW.ofx [(3, 5, [0, 6, 3, 4])] mixed (by kernel_rfl) ?_))
      simp
      refine AW.ofx [(3, 5, [0, 6, 3, 4])] mixed (by kernel_rfl) ?_
      simp
      cases it with
      | sh s =>
        obtain rfl : shEn p l s = x := hx
        have e_t : (shEn p l s).t = 1 := rfl
        have e_i : (shEn p l s).i = s.id := rfl
        rw [e_t, e_i] at g7
        have hsk' : s ∈ S.filter kp := s7.mem_iff.1 (List.mem_append_right _ (hfm.mem_iff.2 (List.mem_append_left _ (List.mem_singleton.2 rfl))))
        have hsS := (List.mem_filter.1 hsk').1
        obtain ⟨b, m, I, es, hb, hT⟩ := id g4
        have hr7 := hb.cr
        have hm7 := hb.cm
        have hfn := fnd_sfind hb.ids hb.es s.id
        have hfs : fnd S s.id = some s := by
          unfold fnd
          cases hc : S.find? fun t => decide (t.id = s.id) with
          | none =>
            have := List.find?_eq_none.1 hc s hsS
            simp at this
          | some t =>
            have h1 := List.mem_of_find?_eq_some hc
            have h2 : t.id = s.id := by simpa using List.find?_some hc
            rw [id_inj hb.ids h1 hsS h2]
        rw [hfs] at hfn
        obtain ⟨j, hsf⟩ : ∃ j, sfind s.id es 0 = some (j, s) := by
          cases hc : sfind s.id es 0 with
          | none => rw [hc] at hfn; cases hfn
          | some pp =>
            obtain ⟨j, t⟩ := pp
            rw [hc] at hfn
            cases hfn
            exact ⟨j, rfl⟩
        refine AW.seq (AW.seq (AW.ofx [(3, 5, [0, 6, 3, 4])] mixed (by kernel_rfl) ?_))
        simp [g7]
        refine AW.ofx [(3, 5, [0, 6, 3, 4])] mixed (by kernel_rfl) ?_
        simp
        refine AW.ofx [(3, 5, [0, 6, 3, 4])] mixed (by kernel_rfl) ?_
        simp [g7, hr7, hm7, mfind_s, hsf, zvSh, shv_eq]
        have hmn : ∀ it ∈ its', (it.ent p l).lt (shEn p l s) = false := fun it hit => hlx _ (htl.mem_iff.2 (List.mem_map_of_mem hit))
        have hok' : ∀ it ∈ its', it.ok H7 T ws := fun it hit => g6 it (hpi.mem_iff.2 (List.mem_cons_of_mem _ hit))
        have holen : out.length ≤ S.length := by
          have e1 := s7.length_eq
          rw [List.length_append] at e1
          have e2 : (S.filter kp).length ≤ S.length := List.length_filter_le _ _
          omega
        have hw1 : (It.sh s).wt = 1 := rfl
        refine ⟨by omega, wts its', by omega, _, ?_, out ++ [s], its', ws, tl, rfl, g1, g2, g3, g4, htl, hok', ?_, ?_, by omega, ?_, rfl⟩
        · simp [subW, weakV, getF, ownS, Sh.cs]
        · rw [List.append_assoc]
          exact (List.Perm.append_left out hfm.symm).trans s7
        · have e1 : sort ((its.flatMap (It.shs kp)).map (shEn p l)) = shEn p l s :: sort ((its'.flatMap (It.shs kp)).map (shEn p l)) := by
            rw [sort_of_perm (hfm.map _)]
            exact sort_min (all_behind hl hok' hmn)
          rw [e1] at s8
          rw [← s8, List.map_append, List.append_assoc]
          rfl
        · rw [List.length_append, List.length_singleton]
          omega
      | nd i d c Sn =>
        obtain rfl : nodeE c p l i = x := hx
        have e_t : (nodeE c p l i).t = 0 := rfl
        have e_i : (nodeE c p l i).i = i := rfl
        rw [e_t, e_i] at g7
        obtain ⟨o1, o2, o3, o4, b, I, o5, o6, o7⟩ := g6 _ (hpi.mem_iff.2 (List.mem_cons_self ..))
        have hiw : i < ws.length := (List.getElem?_eq_some_iff.1 o5).1
        refine AW.seq (AW.seq (AW.ofx [(3, 5, [0, 6, 3, 4])] mixed (by kernel_rfl) ?_))
        simp [g7]
        refine AW.ofx [(3, 5, [0, 6, 3, 4])] mixed (by kernel_rfl) ?_
        simp [g7, hsk, hiw]
        have hwb : ws[i] = b := by
          rw [List.getElem?_eq_getElem hiw] at o5
          exact Option.some.inj o5
        rw [hwb]
        have hSn : 0 < Sn.length := List.length_pos_iff.2 o1
        have hw1 : (It.nd i d c Sn).wt = Sn.length * (d + 1) := rfl
        have hw2 : Sn.length * (d + 1) = Sn.length * d + Sn.length := Nat.mul_succ _ _
        have htll : tl.length ≤ its.length := by
          have := s5.length_eq
          simp at this
          omega
        have hOp := skopen g1 g2 o6 o2 o3 o4 o7 hTkk hTqq hkp (fun x hx => g3 ib x (fun h => h) (hfb x hx).1 (hfb x hx).2) (fun x hx => by
          have := (List.getElem?_eq_some_iff.1 (hfb x hx).1).1
          exact ⟨by omega, by omega, (hfb x hx).2⟩) (by omega) (by omega)
        refine callK.of hOp ?_
        rintro y H8 ⟨kp8, new, L, hs', w1, w2, w3, w4, w5, w6, w7⟩
        have kp8' : Kp NoB H H8 := Kp.new ((g3.weak fun _ h => h.elim).trans (kp8.weak fun x hx => .inr (by omega)))
        simp
        have hwa := wts_append new its'
        refine ⟨wts (new ++ its'), by omega, _, ?_, out, new ++ its', ws ++ L, hs', rfl, w1, w2, kp8', ht.keep0 kp8', ?_, ?_, ?_, ?_, ?_, s10, rfl⟩
        · simp [subW, weakV, getF, ownS]
        · rw [List.map_append]
          exact w3.trans (List.Perm.append_left _ htl)
        · intro it hit
          rcases List.mem_append.1 hit with hit | hit
          · exact w4 it hit
          · exact It.ok_keep kp8 hTk (g6 it (hpi.mem_iff.2 (List.mem_cons_of_mem _ hit)))
        · rw [List.flatMap_append]
          exact (List.Perm.append_left out ((w5.append_right _).trans hfm.symm)).trans s7
        · rw [← s8]
          congr 1
          refine sort_of_perm (List.Perm.map _ ?_)
          rw [List.flatMap_append]
          exact (w5.append_right _).trans hfm.symm
        · rw [List.length_append]
          omega
  · refine AW.ofx [(3, 5, [0, 6, 3, 4])] mixed (by kernel_rfl) ?_
    simp [hlt]
    refine ⟨out, rfl, ⟨?_, hout⟩, s3⟩
    have hol : n.toNat = (out.map (shEn p l)).length := by
      rw [List.length_map]
      omega
    rw [← s8, hol, List.take_left]
end Go.Proofs.YtdeemchhbgomjaaGreat
namespace Go.Proofs.YtdeemchhbgomjaaGreat
set_option linter.all false
open Go.RowKit AM
set_option maxRecDepth 10000
attribute [local simp] aw_skip' aw_region' aw_seq' aw_cond' aw_block' aw_loop' aw_exit' aw_label' aw_ret' aops_nil' aops_cons' aop' aMove aAssign aPick aAlloc aBox aBuild slF aBuildSlice aLoad aLoadOwn aStore aStoreOwn isOwn delR aNilCheck aBin aMakeFunc aFieldAddr aField aIndexOp aIndex partV aIndexAddr aExtract aSliceOp aSlice aShrink aCallOp aCall' aInvoke' aLen aLenMap aDelete aMM aUn aConv aIface aAssert aMakeMap aLookup aMapUpdate aRange aNext aEntry entsOf keyB seekK aMakeSlice lookV aAppend putK layK eval evalV AM.valOf getF putF setF del SV.refers cellsAt rootSV plains shift ldV V.exact V.exactL V.ofValue V.ofPart V.ofCell V.cells V.one Value.oneCell' fitB qSeq qBlock getB afin aret resVs resV resTmps shareF evalS tupV valsS valsV pickV calm calmB lenV useOf feeds shrinks stows looks isT newsV partsV fillV putAt zerosV fitsNil nilB sliceB isEq isNeq awx_skip' awx_region' awx_seq' awx_cond' awx_block' awx_loop' awx_exit' awx_label' awx_ret' xops_nil' xops_cons' xop' xload xcall' addO delO inO putD memB Mix.effB Mix.laysB keysF badK subW weakV zeroRow yops_nil' yops_cons' yop' yload yindex yfield ylen oldO dropO takeO oldL exactB
attribute [local simp] awz_skip' awz_region' awz_seq' awz_cond' awz_block' awz_loop' awz_exit' awz_label' awz_ret' zops_nil' zops_cons' zop' zload zloadOwn zcall' zlenK z0 new0 remF old0 dltB

def ptB (p : Pt) : Bk := .cells [.v (.sc (.int .i64 p.x)), .v (.sc (.int .i64 p.y))]
def RnO (q : Nat) (p : Pt) (l n : Int) (K : List Sh) (H0 : List Bk) (z : Nat) (F : Fr) (H : List Bk) : Prop :=
  ∃ (out left : List Sh) (x0 : V), z = left.length ∧ H = H0 ∧ (out ++ left).Perm K ∧ out.map (shEn p l) ++ sort (left.map (shEn p l)) = sort (K.map (shEn p l)) ∧ (out.length : Int) ≤ max n 0 ∧
    F = [(2, .v (.sc (.int .i64 n))), (3, .v (.sc (.int .i64 l))), (5, .v (.ptr q 0)), (9, ownS out), (10, .v (slS left))]
def RnN (q : Nat) (p : Pt) (l n : Int) (out left : List Sh) (H0 : List Bk) (i : Nat) (F : Fr) (H : List Bk) : Prop :=
  ∃ (at' : Nat) (h : at' < left.length), H = H0 ∧ (∀ j (hj : j < left.length), j < i + 1 → (shEn p l left[j]).lt (shEn p l left[at']) = false) ∧
    F = [(2, .v (.sc (.int .i64 n))), (3, .v (.sc (.int .i64 l))), (5, .v (.ptr q 0)), (9, ownS out), (10, .v (slS left)), (11, .v (.sc (.int .i64 at'))), (12, .v (.sc (.int .i64 (i + 1 : Nat))))]
theorem less_perm {S : List Sh} (hn : (S.map Sh.id).Nodup) {x : Sh} (hx : x ∈ S) : S.Perm (x :: less S x.id) := by
  induction S with
  | nil => cases hx
  | cons y S ih =>
    rw [List.map_cons, List.nodup_cons] at hn
    unfold less
    by_cases hxy : y.id = x.id
    · have hyx : x = y := by
        rcases List.mem_cons.1 hx with h | h
        · exact h
        · exact absurd (List.mem_map_of_mem (f := Sh.id) h) (by rw [← hxy]; exact hn.1)
      subst hyx
      have : (S.filter fun t => !decide (t.id = x.id)) = S := List.filter_eq_self.2 fun t ht => by
        have : t.id ≠ x.id := fun e => hn.1 (by rw [← e]; exact List.mem_map_of_mem ht)
        simpa using this
      rw [List.filter_cons_of_neg (by simp), this]
    · have hxS : x ∈ S := (List.mem_cons.1 hx).resolve_left fun e => hxy (by rw [e])
      rw [List.filter_cons_of_pos (by simpa using hxy)]
      exact ((ih hn.2 hxS).cons y).trans (List.Perm.swap x y _)
theorem refNear0 (K : List Sh) (p : Pt) (n l : Int) (H : List Bk) (hbad : (fits p && rightL l) = false) : AFn Tryz.prog 10 [slS K, p.v, .sc (.int .i64 n), .sc (.int .i64 l)] H fun y H' => y = .nil ∧ H' = H ++ [ptB p] := by
  have hF := refFits p
  unfold Pt.v Pt.cs at hF ⊢
  unfold slS
  refine AFn.intro (fn := Tryz.f10) (by kernel_rfl) rfl (by kernel_rfl) (by simp) ?_
  simp only [Tryz.f10, argsF]
  refine AW.seq (AW.ofx [] mixed (by kernel_rfl) ?_)
  simp
  refine AW.seq (AW.ofx [] mixed (by kernel_rfl) ?_)
  simp
  refine AW.seq (AW.seq (AW.ofx [] mixed (by kernel_rfl) ?_))
  simp
  refine callK.pure hF rfl rfl ?_
  cases hf : fits p with
  | false =>
    simp
    refine AW.ofx [] mixed (by kernel_rfl) ?_
    simp [ptB]
  | true =>
    rw [hf, Bool.true_and] at hbad
    simp
    refine callK.pure (refLevel l) rfl rfl ?_
    rw [hbad]
    simp
    refine AW.ofx [] mixed (by kernel_rfl) ?_
    simp [ptB]
theorem refNear1 (K : List Sh) (hK : K.length ≤ 1000) (hid : (K.map Sh.id).Nodup) (p : Pt) (n l : Int) (H : List Bk) (hf : fits p = true) (hl : rightL l = true) : AFn Tryz.prog 10 [slS K, p.v, .sc (.int .i64 n), .sc (.int .i64 l)] H fun y H' => ∃ R, y = slS R ∧ (R.map (shEn p l) = (sort (K.map (shEn p l))).take n.toNat ∧ ∀ s ∈ R, s ∈ K) ∧ H' = H ++ [ptB p] := by
  have hF := refFits p
  rw [hf] at hF
  have hL := refLevel l
  rw [hl] at hL
  unfold Pt.v Pt.cs at hF ⊢
  unfold slS
  refine AFn.intro (fn := Tryz.f10) (by kernel_rfl) rfl (by kernel_rfl) (by simp) ?_
  simp only [Tryz.f10, argsF]
  refine AW.seq (AW.ofx [] mixed (by kernel_rfl) ?_)
  simp
  refine AW.seq (AW.ofx [] mixed (by kernel_rfl) ?_)
  simp
  refine AW.seq (AW.seq (AW.ofx [] mixed (by kernel_rfl) ?_))
  simp
  refine callK.pure hF rfl rfl ?_
  simp
  refine callK.pure hL rfl rfl ?_
  simp
  refine AW.ofx [] mixed (by kernel_rfl) ?_
  simp
  refine AW.seq (AW.ofx [] mixed (by kernel_rfl) ?_)
  simp
  have hq : (H ++ [ptB p])[H.length]? = some (ptB p) := by simp
  unfold ptB at hq ⊢
  generalize H ++ [Bk.cells [.v (.sc (.int .i64 p.x)), .v (.sc (.int .i64 p.y))]] = H0 at *
  generalize H.length = q at *
  refine AW.seq (AW.block (AW.loopW (RnO q p l n K H0) ⟨K.length, _, ?_, [], K, .nil, rfl, rfl, .refl _, rfl, by simp; omega, rfl⟩ ?_))
  · simp [subW, weakV, getF, zeroRow, ownS, slS]
  rintro z F H1 ⟨out, left, _, rfl, rfl, s1, s2, s3, rfl⟩
  have hlen := s1.length_eq
  rw [List.length_append] at hlen
  have hout : ∀ s ∈ out, s ∈ K := fun s hs => s1.mem_iff.1 (List.mem_append_left _ hs)
  unfold ownS slS
  by_cases h0 : left.length = 0
  · have hl0 : left = [] := List.length_eq_zero_iff.1 h0
    subst hl0
    refine AW.seq (AW.seq (AW.ofx [] mixed (by kernel_rfl) ?_))
    simp
    refine AW.ofx [] mixed (by kernel_rfl) ?_
    simp
    refine AW.ofx [] mixed (by kernel_rfl) ?_
    simp
    refine ⟨out, ⟨rfl, rfl⟩, ⟨?_, hout⟩⟩
    have e1 : sort ([] : List Ent) = [] := rfl
    rw [List.map_nil, e1, List.append_nil] at s2
    rw [← s2, List.take_of_length_le]
    rw [List.length_map]
    omega
  · have hpos : 0 < left.length := by omega
    by_cases hlt : (out.length : Int) < n
    · refine AW.seq (AW.seq (AW.ofx [] mixed (by kernel_rfl) ?_))
      simp [hpos, hlt]
      refine AW.ofx [] mixed (by kernel_rfl) ?_
      simp
      refine AW.block (AW.seq (AW.ofx [] mixed (by kernel_rfl) ?_))
      simp
      refine AW.mid (RnN q p l n out left H1 (left.length - 1)) (AW.seq (AW.ofx [] mixed (by kernel_rfl) ?_)) ?_
      · simp
        refine AW.block (AW.count (left.length - 1) (RnN q p l n out left H1) ⟨_, ?_, 0, hpos, rfl, fun j hj h => ?_, rfl⟩ ?_)
        · simp [subW, weakV, getF, ownS, slS]
        · obtain rfl : j = 0 := by omega
          exact Ent.lt_irrefl _
        rintro i F H2 hi ⟨a, ha, rfl, hmin, rfl⟩
        unfold ownS slS
        by_cases hil : i < left.length - 1
        · have hi1 : i + 1 < left.length := by omega
          have w1 : IntKind.i64.wrap (((i + 1 : Nat) : Int) + 1) = ((i + 1 + 1 : Nat) : Int) := by rw [wrap_i64] <;> omega
          have r1 := rowSh hi1
          have r2 := rowSh ha
          have fa := refFar left[i + 1] p l
          have fb := refFar left[a] p l
          rw [shv_eq] at fa fb
          unfold Pt.v Pt.cs at fa fb
          generalize hz : i + 1 = i1 at *
          refine AW.seq (AW.seq (AW.ofx [] mixed (by kernel_rfl) ?_))
          simp [hi1]
          have hnew : ∀ a', (h' : a' < left.length) → (∀ j (hj : j < left.length), j < i1 → (shEn p l left[j]).lt (shEn p l left[a']) = false) → (shEn p l left[i1]).lt (shEn p l left[a']) = false → ∀ j (hj : j < left.length), j < i1 + 1 → (shEn p l left[j]).lt (shEn p l left[a']) = false := by
            intro a' h' k1 k2 j hj hlt
            by_cases e : j = i1
            · subst e
              exact k2
            · exact k1 j hj (by omega)
          have hqq := hq
          refine AW.ofx [] mixed (by kernel_rfl) ?_
          simp
          refine AW.seq (AW.block (AW.seq (AW.ofx [] mixed (by kernel_rfl) ?_)))
          simp [hi1, r1, hq]
          refine callK.pure fa rfl rfl ?_
          simp
          refine AW.seq (AW.ofx [] mixed (by kernel_rfl) ?_)
          simp [ha, r2, hq]
          refine callK.pure fb rfl rfl ?_
          simp
          by_cases c1 : farR left[i1] p l < farR left[a] p l
          · have hlt : (shEn p l left[i1]).lt (shEn p l left[a]) = true := by
              rw [Ent.lt_iff]
              exact .inl c1
            refine AW.seq (AW.ofx [] mixed (by kernel_rfl) ?_)
            simp [c1]
            refine AW.ofx [] mixed (by kernel_rfl) ?_
            simp
            refine AW.ofx [] mixed (by kernel_rfl) ?_
            simp [w1]
            refine ⟨hil, _, ?_, i1, hi1, rfl, hnew i1 hi1 (fun j hj hji => ?_) (Ent.lt_irrefl _), rfl⟩
            · simp [subW, weakV, getF, ownS, slS]
            · exact Ent.le_trans (Ent.lt_asymm hlt) (hmin j hj hji)
          · by_cases c2 : farR left[i1] p l = farR left[a] p l
            · by_cases c3 : left[i1].id < left[a].id
              · have hlt : (shEn p l left[i1]).lt (shEn p l left[a]) = true := by
                  rw [Ent.lt_iff]
                  exact .inr ⟨c2, .inr ⟨rfl, c3⟩⟩
                refine AW.seq (AW.ofx [] mixed (by kernel_rfl) ?_)
                simp [c2, c3, hi1, ha, r1, r2]
                refine AW.ofx [] mixed (by kernel_rfl) ?_
                simp
                refine AW.ofx [] mixed (by kernel_rfl) ?_
                simp [w1]
                refine ⟨hil, _, ?_, i1, hi1, rfl, hnew i1 hi1 (fun j hj hji => ?_) (Ent.lt_irrefl _), rfl⟩
                · simp [subW, weakV, getF, ownS, slS]
                · exact Ent.le_trans (Ent.lt_asymm hlt) (hmin j hj hji)
              · have hlt : (shEn p l left[i1]).lt (shEn p l left[a]) = false := by
                  rw [Ent.nlt_iff]
                  simp only [shEn]
                  omega
                refine AW.seq (AW.ofx [] mixed (by kernel_rfl) ?_)
                simp [c2, c3, hi1, ha, r1, r2]
                refine AW.ofx [] mixed (by kernel_rfl) ?_
                simp
                refine AW.ofx [] mixed (by kernel_rfl) ?_
                simp [w1]
                refine ⟨hil, _, ?_, a, ha, rfl, hnew a ha hmin hlt, rfl⟩
                simp [subW, weakV, getF, ownS, slS]
            · have hlt : (shEn p l left[i1]).lt (shEn p l left[a]) = false := by
                rw [Ent.nlt_iff]
                simp only [shEn]
                omega
              have c2' : (farR left[i1] p l == farR left[a] p l) = false := by simpa using c2
              refine AW.seq (AW.ofx [] mixed (by kernel_rfl) ?_)
              simp [c1, c2, c2']
              refine AW.ofx [] mixed (by kernel_rfl) ?_
              simp
              refine AW.ofx [] mixed (by kernel_rfl) ?_
              simp [w1]
              refine ⟨hil, _, ?_, a, ha, rfl, hnew a ha hmin hlt, rfl⟩
              simp [subW, weakV, getF, ownS, slS]
        · have hie : i = left.length - 1 := by omega
          subst hie
          have hi1 : ¬ ((left.length - 1 : Nat) : Int) + 1 < left.length := by omega
          refine AW.seq (AW.seq (AW.ofx [] mixed (by kernel_rfl) ?_))
          simp [hi1]
          refine AW.ofx [] mixed (by kernel_rfl) ?_
          simp
          refine ⟨_, ?_, a, ha, rfl, hmin, rfl⟩
          simp [subW, weakV, getF, ownS, slS]
      · rintro F H2 ⟨a, ha, rfl, hmin, rfl⟩
        have r2 := rowSh ha
        have hW := refWithout left left[a].id (by omega)
        have hnl : (left.map Sh.id).Nodup := by
          have := ((s1.map Sh.id).nodup_iff).2 hid
          rw [List.map_append] at this
          exact (List.nodup_append.1 this).2.1
        have hlp := less_perm hnl (List.getElem_mem ha)
        have hll := hlp.length_eq
        rw [List.length_cons] at hll
        have hap : out.flatMap Sh.cs ++ [.sc (.int .i64 left[a].id), .sc (.int .i64 left[a].box.x0), .sc (.int .i64 left[a].box.y0), .sc (.int .i64 left[a].box.x1), .sc (.int .i64 left[a].box.y1), .sc (.int .i64 left[a].lab)] = (out ++ [left[a]]).flatMap Sh.cs := by simp [Sh.cs]
        have hall : ∀ y ∈ (less left left[a].id).map (shEn p l), y.lt (shEn p l left[a]) = false := by
          intro y hy
          obtain ⟨t, ht, rfl⟩ := List.mem_map.1 hy
          have htl : t ∈ left := (List.mem_filter.1 ht).1
          obtain ⟨j, hj, rfl⟩ := List.getElem_of_mem htl
          exact hmin j hj (by omega)
        unfold slS at hW
        unfold ownS slS
        refine AW.seq (AW.ofx [] mixed (by kernel_rfl) ?_)
        simp [ha, r2]
        refine ⟨by omega, ?_⟩
        refine AW.ofx [] mixed (by kernel_rfl) ?_
        simp [ha, r2]
        refine callK.pure hW (by simp [V.closedL, V.closed, closed_flat (enc := Sh.cs) (fun _ => rfl)]) (by simp [V.closed, closed_flat (enc := Sh.cs) (fun _ => rfl)]) ?_
        simp
        refine ⟨(less left left[a].id).length, by omega, _, ?_, out ++ [left[a]], less left left[a].id, .nil, rfl, rfl, ?_, ?_, ?_, rfl⟩
        · simp [subW, weakV, getF, ownS, slS, Sh.cs]
        · rw [List.append_assoc]
          exact (List.Perm.append_left out hlp.symm).trans s1
        · have e1 : sort (left.map (shEn p l)) = shEn p l left[a] :: sort ((less left left[a].id).map (shEn p l)) := by
            rw [sort_of_perm (hlp.map _)]
            exact sort_min hall
          rw [e1] at s2
          rw [← s2, List.map_append, List.append_assoc]
          rfl
        · rw [List.length_append, List.length_singleton]
          omega
    · refine AW.seq (AW.seq (AW.ofx [] mixed (by kernel_rfl) ?_))
      simp [hpos, hlt]
      refine AW.ofx [] mixed (by kernel_rfl) ?_
      simp
      refine AW.ofx [] mixed (by kernel_rfl) ?_
      simp
      refine ⟨out, ⟨rfl, rfl⟩, ⟨?_, hout⟩⟩
      have hol : n.toNat = (out.map (shEn p l)).length := by
        rw [List.length_map]
        omega
      rw [← s2, hol, List.take_left]
end Go.Proofs.YtdeemchhbgomjaaGreat
