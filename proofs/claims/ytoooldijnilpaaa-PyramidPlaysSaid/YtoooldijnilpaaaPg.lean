/- The pyramid's methods that put points in and take them away. -/
import Derived.Test.YtoooldijnilpaaaPf
namespace Go.Proofs.Ytoooldijnilpaaa
set_option linter.all false
open Go.RowKit AM
set_option maxRecDepth 10000
attribute [local simp] aw_skip' aw_region' aw_seq' aw_cond' aw_block' aw_loop' aw_exit' aw_label' aw_ret' aops_nil' aops_cons' aop' aMove aAssign aPick aAlloc aBox aBuild aBuildSlice aLoad aLoadOwn aStore aStoreOwn isOwn delR aNilCheck aBin aMakeFunc aFieldAddr aField aIndexAddr aExtract aSliceOp aSlice aCallOp aCall' aLen aLenMap aDelete aMM aUn aConv aIface aAssert aMakeMap aLookup aMapUpdate aRange aNext aEntry entsOf keyB lookV aAppend putK layK eval evalV AM.valOf getF putF setF del SV.refers cellsAt rootSV plains shift ldV V.exact V.exactL V.ofValue V.ofPart V.ofCell V.cells V.one Value.oneCell' fitB qSeq qBlock getB afin aret resVs resV resTmps shareF evalS tupV valsS valsV pickV calm calmB lenV useOf feeds looks isT newsV partsV fillV putAt zerosV fitsNil nilB isEq isNeq awx_skip' awx_region' awx_seq' awx_cond' awx_block' awx_loop' awx_exit' awx_label' awx_ret' xops_nil' xops_cons' xop' xload xcall' addO delO inO putD memB Mix.effB Mix.laysB keysF badK subW weakV zeroRow yops_nil' yops_cons' yop' yload yindex yfield ylen oldO dropO takeO oldL exactB

/-- A point's code at a level. -/
def lcode (p : Pt) (l : Nat) : Nat := pcode p / 4 ^ (16 - l)
/-- The maps behind some rounds of each: the levels above 16 - k are done. -/
def stepM (b : Int) (p : Pt) (M : Nat → List (Nat × Nat)) (k : Nat) : Nat → List (Nat × Nat) := fun l => if 16 < l + k ∧ l < 17 then turnE (M l) (lcode p l) b else M l
theorem stepM_zero (b : Int) (p : Pt) (M : Nat → List (Nat × Nat)) : stepM b p M 0 = M := by
  funext l
  unfold stepM
  rw [if_neg (by omega)]
theorem stepM_succ (b : Int) (p : Pt) (M : Nat → List (Nat × Nat)) (k : Nat) (hk : k < 17) : stepM b p M (k + 1) = upd (stepM b p M k) (16 - k) (turnE (stepM b p M k (16 - k)) (lcode p (16 - k)) b) := by
  have e0 : stepM b p M k (16 - k) = M (16 - k) := by unfold stepM; rw [if_neg (by omega)]
  rw [e0]
  funext l
  unfold upd
  by_cases h : l = 16 - k
  · subst h
    rw [if_pos rfl]
    unfold stepM
    rw [if_pos (by omega)]
  · rw [if_neg h]
    unfold stepM
    by_cases h2 : 16 < l + k ∧ l < 17
    · rw [if_pos h2, if_pos (by omega)]
    · rw [if_neg h2, if_neg (by omega)]
theorem stepM_all (b : Int) (p : Pt) (M : Nat → List (Nat × Nat)) (l : Nat) (h : l < 17) : stepM b p M 17 l = turnE (M l) (lcode p l) b := by
  unfold stepM
  rw [if_pos (by omega)]
section
variable {H : List Bk} {r : Nat} {ms : List Nat} {M : Nat → List (Nat × Nat)}
/-- Whether by so many may be added to all that stand there. -/
def CanTurn (b : Int) (p : Pt) (M : Nat → List (Nat × Nat)) : Prop := ∀ l, l < 17 → 0 ≤ (look (M l) (lcode p l) : Int) + b ∧ (look (M l) (lcode p l) : Int) + b ≤ 9223372036854775807
theorem padd1 {q : Nat} (h : Pyr H r ms M) (hq : H[q]? = some (.cells [.v (.ptr r 0)])) (l c : Nat) (hl : l < 17) (hb : 0 ≤ (look (M l) c : Int) + 1) (hb' : (look (M l) c : Int) + 1 ≤ 9223372036854775807) :
    AFn Try.prog 59 [.sc (.int .i64 l), .sc (.int .u64 c), .ptr q 0] H fun y H' => Pyr H' r ms (upd M l (turnE (M l) c 1)) ∧ KeptM ms H H' := by
  refine AFn.intro (fn := Try.f59) (by kernel_rfl) rfl (by kernel_rfl) (by simp) (AW.ofx [] mixed (by kernel_rfl) ?_)
  simp only [Try.f59, argsF]
  simp [hq]
  refine callK.of (pturn h l c 1 hl hb hb') ?_
  rintro y H' hy
  simpa using hy
theorem premove1 {q : Nat} (h : Pyr H r ms M) (hq : H[q]? = some (.cells [.v (.ptr r 0)])) (l c : Nat) (hl : l < 17) (hb : 0 ≤ (look (M l) c : Int) + -1) (hb' : (look (M l) c : Int) + -1 ≤ 9223372036854775807) :
    AFn Try.prog 62 [.sc (.int .i64 l), .sc (.int .u64 c), .ptr q 0] H fun y H' => Pyr H' r ms (upd M l (turnE (M l) c (-1))) ∧ KeptM ms H H' := by
  refine AFn.intro (fn := Try.f62) (by kernel_rfl) rfl (by kernel_rfl) (by simp) (AW.ofx [] mixed (by kernel_rfl) ?_)
  simp only [Try.f62, argsF]
  simp [hq]
  refine callK.of (pturn h l c (-1) hl hb hb') ?_
  rintro y H' hy
  simpa using hy
theorem shr_two {z : Nat} : shrI .u64 (z : Int) 2 = ((z / 4 : Nat) : Int) := shrI_nat z 2 (by decide)
def EachI (g : FuncId) (q r : Nat) (ms : List Nat) (M : Nat → List (Nat × Nat)) (b : Int) (p : Pt) (H0 : List Bk) (k : Nat) (F : Fr) (H : List Bk) : Prop := ∃ z i : Int, z = ((pcode p / 4 ^ k : Nat) : Int) ∧ i = 16 - (k : Int) ∧
  Pyr H r ms (stepM b p M k) ∧ KeptM ms H0 H ∧ F = [(1, .v (.fn (.func g) [] [.ptr q 0])), (7, .v (.sc (.int .u64 z))), (9, .v (.sc (.int .i64 i)))]
theorem each_plain {x y b : Nat} : True := trivial
theorem peach {q : Nat} (h : Pyr H r ms M) (g : FuncId) (b : Int) (p : Pt) (hc : CanTurn b p M) (hq : q ∉ ms) (hq' : H[q]? = some (.cells [.v (.ptr r 0)]))
    (hg : ∀ H' M' l c, KeptM ms H H' → Pyr H' r ms M' → l < 17 → 0 ≤ (look (M' l) c : Int) + b → (look (M' l) c : Int) + b ≤ 9223372036854775807 → AFn Try.prog g [.sc (.int .i64 (l : Nat)), .sc (.int .u64 (c : Nat)), .ptr q 0] H' fun y H'' => Pyr H'' r ms (upd M' l (turnE (M' l) c b)) ∧ KeptM ms H' H'') :
    AFn Try.prog 58 [p.v, .fn (.func g) [] [.ptr q 0]] H fun y H' => y = .sc (.bool (fits p)) ∧ KeptM ms H H' ∧ Pyr H' r ms (if fits p then stepM b p M 17 else M) := by
  have hO := cOf p 16
  have hC := cCode (ofR p 16).1
  unfold Pt.v Pt.cs Ce.v Ce.cs at hO
  unfold Ce.v Ce.cs at hC
  unfold Pt.v Pt.cs
  refine AFn.intro (fn := Try.f58) (by kernel_rfl) rfl (by kernel_rfl) (by simp) (AW.ofx [] mixed (by kernel_rfl) ?_)
  simp only [Try.f58, argsF]
  simp
  refine callK.pure hO rfl rfl ?_
  have r16 : rightL 16 = true := by decide
  have h1 := h.app (L := [.cells [.v (.sc (.int .i64 p.x)), .v (.sc (.int .i64 p.y))]])
  have k1 : KeptM ms H (H ++ [.cells [.v (.sc (.int .i64 p.x)), .v (.sc (.int .i64 p.y))]]) := KeptM.refl.append
  revert h1 k1
  generalize hH1 : H ++ [.cells [.v (.sc (.int .i64 p.x)), .v (.sc (.int .i64 p.y))]] = H1
  intro h1 k1
  cases hf : fits p with
  | false =>
    have e2 : (ofR p 16).2 = false := by simp [ofR, r16, hf]
    simp [e2, setLast]
    exact ⟨k1.append, h1.app⟩
  | true =>
  have e2 : (ofR p 16).2 = true := by simp [ofR, r16, hf]
  have e1 : (ofR p 16).1 = cellOf p 16 := by simp [ofR, r16, hf]
  have hz : codeR (ofR p 16).1 = codeR ⟨16, p.x, p.y⟩ := by
    rw [e1]
    simp [cellOf, side, two]
  have hz1 : (codeR (ofR p 16).1).1 = pcode p := by rw [hz]; rfl
  rw [hz1] at hC
  generalize (codeR (ofR p 16).1).2 = ok at hC
  generalize (ofR p 16).1 = c0 at *
  simp [e2, setLast]
  refine callK.pure hC rfl rfl ?_
  have h2 := h1.app (L := [.cells [.v (.sc (.int .i64 c0.l)), .v (.sc (.int .i64 c0.x)), .v (.sc (.int .i64 c0.y))]])
  have k2 := k1.append (L := [.cells [.v (.sc (.int .i64 c0.l)), .v (.sc (.int .i64 c0.x)), .v (.sc (.int .i64 c0.y))]])
  revert h2 k2
  generalize H1 ++ [.cells [.v (.sc (.int .i64 c0.l)), .v (.sc (.int .i64 c0.x)), .v (.sc (.int .i64 c0.y))]] = H2
  intro h2 k2
  simp
  refine AW.count 17 (EachI g q r ms M b p H) ⟨_, ?_, _, _, rfl, rfl, by rw [stepM_zero]; exact h2, k2, rfl⟩ ?_
  · simp [subW, weakV, getF]
  rintro k F H3 hk ⟨z, i, hz, hi, h3, k3, rfl⟩
  refine AW.ofx [] mixed (by kernel_rfl) ?_
  by_cases hlt : k < 17
  · have hi0 : 0 ≤ i := by omega
    have ei : i = ((16 - k : Nat) : Int) := by omega
    have hcl := hc (16 - k) (by omega)
    have e0 : stepM b p M k (16 - k) = M (16 - k) := by unfold stepM; rw [if_neg (by omega)]
    have ez : pcode p / 4 ^ k = lcode p (16 - k) := by unfold lcode; rw [show 16 - (16 - k) = k by omega]
    have hcall := hg H3 (stepM b p M k) (16 - k) (lcode p (16 - k)) k3 h3 (by omega) (by rw [e0]; exact hcl.1) (by rw [e0]; exact hcl.2)
    rw [← ez, ← hz, ← ei] at hcall
    have w1 : IntKind.i64.wrap (i - 1) = i - 1 := by rw [wrap_i64] <;> omega
    have sz : shrI .u64 z 2 = ((pcode p / 4 ^ (k + 1) : Nat) : Int) := by
      rw [hz, shr_two, Nat.div_div_eq_div_mul, Nat.pow_succ]
    simp [hi0]
    refine callK.of hcall ?_
    rintro y H4 ⟨h4, k4⟩
    simp [binR_shr, sz, w1]
    refine ⟨hlt, _, ?_, _, i - 1, rfl, by omega, ?_, k3.trans k4, rfl⟩
    · simp [subW, weakV, getF]
    · rw [stepM_succ b p M k hlt, ← ez]
      exact h4
  · have hk' : k = 17 := by omega
    subst hk'
    have hi0 : ¬ 0 ≤ i := by omega
    simp [hi0]
    exact ⟨k3, h3⟩
end
end Go.Proofs.Ytoooldijnilpaaa
