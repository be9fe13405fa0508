/- The law PyramidNil: its walk. -/
import Derived.Test.YtoooldijnilpaaaPo
namespace Go.Proofs.Ytoooldijnilpaaa
set_option linter.all false
open Go.RowKit AM
set_option maxRecDepth 10000
attribute [local simp] aw_skip' aw_region' aw_seq' aw_cond' aw_block' aw_loop' aw_exit' aw_label' aw_ret' aops_nil' aops_cons' aop' aMove aAssign aPick aAlloc aBox aBuild aBuildSlice aLoad aLoadOwn aStore aStoreOwn isOwn delR aNilCheck aBin aMakeFunc aFieldAddr aField aIndexAddr aExtract aSliceOp aSlice aCallOp aCall' aLen aLenMap aDelete aMM aUn aConv aIface aAssert aMakeMap aLookup aMapUpdate aRange aNext aEntry entsOf keyB lookV aAppend putK layK eval evalV AM.valOf getF putF setF del SV.refers cellsAt rootSV plains shift ldV V.exact V.exactL V.ofValue V.ofPart V.ofCell V.cells V.one Value.oneCell' fitB qSeq qBlock getB afin aret resVs resV resTmps shareF evalS tupV valsS valsV pickV calm calmB lenV useOf feeds looks isT newsV partsV fillV putAt zerosV fitsNil nilB isEq isNeq awx_skip' awx_region' awx_seq' awx_cond' awx_block' awx_loop' awx_exit' awx_label' awx_ret' xops_nil' xops_cons' xop' xload xcall' addO delO inO putD memB Mix.effB Mix.laysB keysF badK subW weakV zeroRow yops_nil' yops_cons' yop' yload yindex yfield ylen oldO dropO takeO oldL exactB
theorem w00 : IntKind.i64.wrap 0 = 0 := by rw [wrap_i64] <;> omega
theorem nAdd (p : Pt) (H : List Bk) : AFn Try.prog 25 [.sc (.pointer none), p.v] H fun y H' => y = .sc (.bool false) ∧ KeptM [] H H' := by
  unfold Pt.v Pt.cs
  refine AFn.intro (fn := Try.f25) (by kernel_rfl) rfl (by kernel_rfl) (by simp) (AW.ofx [] mixed (by kernel_rfl) ?_)
  simp only [Try.f25, argsF]
  simp
  refine callK.of (pmadeNil _) ?_
  rintro y H1 ⟨rfl, rfl⟩
  simp
  try simp only [← List.append_assoc]
  first | exact KeptM.refl.append | exact KeptM.refl.append.append
theorem nRemove (p : Pt) (H : List Bk) : AFn Try.prog 26 [.sc (.pointer none), p.v] H fun y H' => y = .sc (.bool false) ∧ KeptM [] H H' := by
  unfold Pt.v Pt.cs
  refine AFn.intro (fn := Try.f26) (by kernel_rfl) rfl (by kernel_rfl) (by simp) (AW.ofx [] mixed (by kernel_rfl) ?_)
  simp only [Try.f26, argsF]
  simp
  refine callK.of (pmadeNil _) ?_
  rintro y H1 ⟨rfl, rfl⟩
  simp
  try simp only [← List.append_assoc]
  first | exact KeptM.refl.append | exact KeptM.refl.append.append
theorem nCount (c : Ce) (H : List Bk) : AFn Try.prog 18 [.sc (.pointer none), c.v] H fun y H' => y = .sc (.int .i64 0) ∧ KeptM [] H H' := by
  have hC := cCode c
  unfold Ce.v Ce.cs at hC ⊢
  refine AFn.intro (fn := Try.f18) (by kernel_rfl) rfl (by kernel_rfl) (by simp) (AW.ofx [] mixed (by kernel_rfl) ?_)
  simp only [Try.f18, argsF]
  simp
  refine callK.pure hC rfl rfl ?_
  cases h : (codeR c).2 with
  | false =>
    simp
    try simp only [← List.append_assoc]
    first | exact KeptM.refl.append | exact KeptM.refl.append.append
  | true =>
    simp
    refine callK.of (pmadeNil _) ?_
    rintro y H1 ⟨rfl, rfl⟩
    simp
    try simp only [← List.append_assoc]
    first | exact KeptM.refl.append | exact KeptM.refl.append.append
theorem nTotal (H : List Bk) : AFn Try.prog 33 [.sc (.pointer none)] H fun y H' => y = .sc (.int .i64 0) ∧ KeptM [] H H' := by
  have hC := nCount Ce.zero H
  unfold Ce.v Ce.cs Ce.zero at hC
  refine AFn.intro (fn := Try.f33) (by kernel_rfl) rfl (by kernel_rfl) (by simp) (AW.ofx [] mixed (by kernel_rfl) ?_)
  simp only [Try.f33, argsF]
  simp
  refine callK.of hC ?_
  rintro y H1 ⟨rfl, k1⟩
  simp
  exact k1
theorem nLevel (l : Int) (H : List Bk) : AFn Try.prog 20 [.sc (.pointer none), .sc (.int .i64 l)] H fun y H' => y = .sc (.int .i64 0) ∧ H' = H := by
  refine AFn.intro (fn := Try.f20) (by kernel_rfl) rfl (by kernel_rfl) (by simp) (AW.ofx [] mixed (by kernel_rfl) ?_)
  simp only [Try.f20, argsF]
  simp
  refine callK.of (pmadeNil _) ?_
  rintro y H1 ⟨rfl, rfl⟩
  simp
def NcI (H0 : List Bk) (k : Nat) (F : Fr) (H : List Bk) : Prop := H = H0 ∧ F = [(0, .v (.sc (.pointer none))), (3, .v (.sc (.int .i64 0))), (5, .v (.sc (.int .i64 k)))]
theorem nCells (H : List Bk) : AFn Try.prog 21 [.sc (.pointer none)] H fun y H' => y = .sc (.int .i64 0) ∧ H' = H := by
  refine AFn.intro (fn := Try.f21) (by kernel_rfl) rfl (by kernel_rfl) (by simp) (AW.ofx [] mixed (by kernel_rfl) ?_)
  simp only [Try.f21, argsF]
  simp
  refine AW.count 17 (NcI H) ⟨_, ?_, rfl, rfl⟩ ?_
  · simp [subW, weakV, getF]
  rintro k F H2 hk ⟨rfl, rfl⟩
  refine AW.ofx [] mixed (by kernel_rfl) ?_
  by_cases hlt : k < 17
  · have hlt' : (k : Int) < 17 := by omega
    have w1 : IntKind.i64.wrap ((k : Int) + 1) = (k : Int) + 1 := by rw [wrap_i64] <;> omega
    simp [hlt']
    refine callK.of (nLevel _ _) ?_
    rintro y H1 ⟨rfl, rfl⟩
    simp [w1, hlt, w00]
    refine ⟨_, ?_, rfl, rfl⟩
    simp [subW, weakV, getF]
  · have hlt' : ¬ (k : Int) < 17 := by omega
    simp [hlt']
theorem nPoints (H : List Bk) : AFn Try.prog 29 [.sc (.pointer none)] H fun y H' => y = .nil ∧ H' = H := by
  refine AFn.intro (fn := Try.f29) (by kernel_rfl) rfl (by kernel_rfl) (by simp) ?_
  simp only [Try.f29, argsF]
  refine AW.seq (AW.ofx [] mixed (by kernel_rfl) ?_)
  simp
  refine AW.seq (AW.ofx [] mixed (by kernel_rfl) ?_)
  simp
  refine callK.of (pmadeNil _) ?_
  rintro y H1 ⟨rfl, rfl⟩
  simp
theorem setLast3 {H : List Bk} {a b : Bk} {xs : List SV} {ys : List V} (h : xs.length = ys.length) : setCells (H ++ [a, b, .cells xs]) (H.length + 2) 0 ys = H ++ [a, b, .cells (ys.map .v)] := by
  have := setLast (H := H ++ [a, b]) h
  simpa using this
theorem nMove (p q : Pt) (H : List Bk) : AFn Try.prog 32 [.sc (.pointer none), p.v, q.v] H fun y H' => y = .sc (.bool false) ∧ KeptM [] H H' := by
  have hO := cOf q 0
  have hrem := nRemove p
  unfold Pt.v Pt.cs at hrem hO ⊢
  unfold Ce.v Ce.cs at hO
  refine AFn.intro (fn := Try.f32) (by kernel_rfl) rfl (by kernel_rfl) (by simp) (AW.ofx [] mixed (by kernel_rfl) ?_)
  simp only [Try.f32, argsF]
  simp
  refine callK.pure hO rfl rfl ?_
  cases h : (ofR q 0).2 with
  | false =>
    simp [setLast3]
    exact KeptM.refl.append
  | true =>
    simp [setLast3]
    refine callK.of (hrem _) ?_
    rintro y H1 ⟨rfl, k1⟩
    simp
    exact KeptM.trans KeptM.refl.append k1
theorem nilLaw (p : Pt) (c : Ce) : AFn Try.prog 8 [p.v, c.v] [] fun y _ => y = .sc (.bool true) := by
  have h1 := nAdd p
  have h2 := nRemove p
  have h3 := nMove p p
  have h4 := nCount c
  unfold Pt.v Pt.cs at h1 h2 h3 ⊢
  unfold Ce.v Ce.cs at h4 ⊢
  refine AFn.intro (fn := Try.f8) (by kernel_rfl) rfl (by kernel_rfl) (by simp) (AW.ofx [] mixed (by kernel_rfl) ?_)
  simp only [Try.f8, argsF]
  simp
  refine callK.of (h1 _) ?_
  rintro y H1 ⟨rfl, k1⟩
  have a1 := k1 0 _ (by simp) rfl (fun _ _ _ => by simp)
  have b1 := k1 1 _ (by simp) rfl (fun _ _ _ => by simp)
  simp [a1, b1]
  refine callK.of (h2 _) ?_
  rintro y H2 ⟨rfl, k2⟩
  have a2 := k2 0 _ (by simp) a1 (fun _ _ _ => by simp)
  have b2 := k2 1 _ (by simp) b1 (fun _ _ _ => by simp)
  simp [a2, b2]
  refine callK.of (h3 _) ?_
  rintro y H3 ⟨rfl, k3⟩
  have a3 := k3 0 _ (by simp) a2 (fun _ _ _ => by simp)
  have b3 := k3 1 _ (by simp) b2 (fun _ _ _ => by simp)
  simp [a3, b3]
  refine callK.of (h4 _) ?_
  rintro y H4 ⟨rfl, k4⟩
  simp
  refine callK.of (nTotal _) ?_
  rintro y H5 ⟨rfl, k5⟩
  simp
  refine callK.of (nCells _) ?_
  rintro y H6 ⟨rfl, rfl⟩
  simp
  refine callK.of (nLevel _ _) ?_
  rintro y H7 ⟨rfl, rfl⟩
  simp [w00]
  refine callK.of (nPoints _) ?_
  rintro y H8 ⟨rfl, rfl⟩
  simp [w00]
  refine callK.pure knownP rfl rfl ?_
  simp [w00]
end Go.Proofs.Ytoooldijnilpaaa
