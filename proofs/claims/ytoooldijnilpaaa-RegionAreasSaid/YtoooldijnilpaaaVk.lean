/- Regions: the program's union, difference, common part, sameness and covering. -/
import Derived.Test.YtoooldijnilpaaaVx
namespace Go.Proofs.Ytoooldijnilpaaa
set_option linter.all false
open Go.RowKit AM Can
set_option maxRecDepth 10000
attribute [local simp] aw_skip' aw_region' aw_seq' aw_cond' aw_block' aw_loop' aw_exit' aw_label' aw_ret' aops_nil' aops_cons' aop' aMove aAssign aPick aAlloc aBox aBuild aBuildSlice aLoad aLoadOwn aStore aStoreOwn isOwn delR aNilCheck aBin aMakeFunc aFieldAddr aField aIndexAddr aExtract aSliceOp aSlice aCallOp aCall' aLen aLenMap aDelete aMM aUn aConv aIface aAssert aMakeMap aLookup aMapUpdate aRange aNext aEntry entsOf keyB lookV aAppend putK layK eval evalV AM.valOf getF putF setF del SV.refers cellsAt rootSV plains shift ldV V.exact V.exactL V.ofValue V.ofPart V.ofCell V.cells V.one Value.oneCell' fitB qSeq qBlock getB afin aret resVs resV resTmps shareF evalS tupV valsS valsV pickV calm calmB lenV useOf feeds looks isT newsV partsV fillV putAt zerosV fitsNil nilB isEq isNeq awx_skip' awx_region' awx_seq' awx_cond' awx_block' awx_loop' awx_exit' awx_label' awx_ret' xops_nil' xops_cons' xop' xload xcall' addO delO inO putD memB Mix.effB Mix.laysB keysF badK subW weakV zeroRow yops_nil' yops_cons' yop' yload yindex yfield ylen oldO dropO takeO oldL exactB
attribute [local simp] awz_skip' awz_region' awz_seq' awz_cond' awz_block' awz_loop' awz_exit' awz_label' awz_ret' zops_nil' zops_cons' zop' zload zcall' z0 new0 remF old0 dltB

namespace AM
theorem AFn.out {P : Program} {f : FuncId} {xs : List V} {H : List Bk} {r r' : V} (h : AFn P f xs H fun y _ => y = r) (hw : ∀ I φ v, Rel I φ r v → Rel I φ r' v) : AFn P f xs H fun y _ => y = r' := ⟨h.1, fun c w vs hi hs hr => (h.2 c w vs hi hs hr).mono fun e w' he => by
  obtain ⟨v, y, H', c', a1, a2, a3, a4, a5, q⟩ := he
  exact ⟨v, r', H', c', a1, hw _ _ _ (q ▸ a2), a3, a4, a5, rfl⟩⟩
theorem rel_nil_sl {I : Nat → Nat → Option Value} {φ : List Nat} {sz : Nat} {v : Value} (h : Rel I φ .nil v) : Rel I φ (.sl 0 sz []) v := by
  cases h with
  | nil => exact .sl0
theorem rel_tup_nil {I : Nat → Nat → Option Value} {φ : List Nat} {sz : Nat} {xs : List V} {v : Value} (h : Rel I φ (.tup (.nil :: xs)) v) : Rel I φ (.tup (.sl 0 sz [] :: xs)) v := by
  cases h with
  | tup h =>
    cases hv : ‹Array Value›.toList with
    | nil => rw [hv] at h; cases h
    | cons u us =>
      refine .tup ?_
      rw [hv] at h ⊢
      cases h with
      | cons h1 h2 => exact .cons (rel_nil_sl h1) h2
end AM
def orB (p q : Bool) : Bool := p || q
def lessB (p q : Bool) : Bool := p && !q
def andB (p q : Bool) : Bool := p && q
theorem formL_len (cf : Bool → Bool → Bool) (a b : List Re) : (formL cf a b).length ≤ (2 + 2 * (a ++ b).length) * (2 + 2 * (a ++ b).length) := by
  have hx := edgesR_len false (a ++ b)
  have hy := edgesR_len true (a ++ b)
  have hR : ∀ y, (rowK (Lab cf a b) (edgesR (a ++ b) false) y).length ≤ 2 + 2 * (a ++ b).length := fun y => by
    have := runsK_len (f := fun x => Lab cf a b x y) (xs := edgesR (a ++ b) false) ((edgesR (a ++ b) false).length - 1)
    unfold rowK
    omega
  have := emit_len (ys := edgesR (a ++ b) true) hR ((edgesR (a ++ b) true).length - 1)
  unfold formL
  exact Nat.le_trans this (Nat.mul_le_mul (by omega) (Nat.le_refl _))
/-- What an operation on two sides answers. -/
def opL (cf : Bool → Bool → Bool) (a b : List Re) : List Re := if bothR a b = 0 then (formL cf a b).map toRe else []
def unL (l : List Re) : List Re := if wrongR l = 0 then (formL orB l []).map toRe else []
theorem unL_len (l : List Re) : (unL l).length ≤ 300000 := by
  unfold unL
  split
  · rename_i h
    have h1 := (wrongR_ok.1 h).1
    have h2 := formL_len orB l []
    rw [List.append_nil] at h2
    rw [List.length_map]
    refine Nat.le_trans h2 (Nat.le_trans (Nat.mul_le_mul (show 2 + 2 * l.length ≤ 514 by omega) (show 2 + 2 * l.length ≤ 514 by omega)) (by decide))
  · simp
theorem opL_len (cf : Bool → Bool → Bool) (a b : List Re) : (opL cf a b).length ≤ 2000000 := by
  unfold opL
  split
  · rename_i h
    have h1 := (wrongR_ok.1 (bothR_ok.1 h).1).1
    have h3 := (wrongR_ok.1 (bothR_ok.1 h).2).1
    have h2 := formL_len cf a b
    rw [List.length_append] at h2
    rw [List.length_map]
    refine Nat.le_trans h2 (Nat.le_trans (Nat.mul_le_mul (show 2 + 2 * (a.length + b.length) ≤ 1026 by omega) (show 2 + 2 * (a.length + b.length) ≤ 1026 by omega)) (by decide))
  · simp
def pairV (l : List Re) (e : Int) : V := .tup [slR l, .sc (.int .i64 e)]
theorem pairV_closed (l : List Re) (e : Int) : V.closed (pairV l e) = true := by simp [pairV, V.closed, V.closedL, slR, closed_flat (enc := Re.cs) (fun _ => rfl)]
theorem rUnion (l : List Re) : PFn Try.prog 35 [slR l] (pairV (unL l) (wrongR l)) := by
  have hask := rask l
  have c1 := slR_closed l
  by_cases h : wrongR l = 0
  · have h1 := wrongR_ok.1 h
    have hf := (rform l [] cntEither (by omega) (by simp) h1.2 (by simp)).weak (WeakL.cons (WeakL.nil0 (sz := 4) (WeakL.refl _)))
    have e : unL l = (formL (fun p q => p || q) l []).map toRe := by
      unfold unL
      rw [if_pos h]
      rfl
    rw [e]
    have cc := slR_closed ((formL (fun p q => p || q) l []).map toRe)
    generalize (formL (fun p q => p || q) l []).map toRe = o at *
    unfold pairV
    refine AFn.intro (fn := Try.f35) (by kernel_rfl) rfl (by kernel_rfl) (by simp) (AW.ofx [] mixed (by kernel_rfl) ?_)
    simp only [Try.f35, argsF]
    simp
    refine callK.pure hask (by simp [V.closedL, c1]) rfl ?_
    rw [h]
    simp
    refine callK.pure hf (by simp [V.closedL, V.closed, c1]) cc ?_
    simp
  · have e : unL l = [] := by
      unfold unL
      rw [if_neg h]
    rw [e]
    refine AFn.out (r := .tup [.nil, .sc (.int .i64 (wrongR l))]) ?_ fun I φ v hv => rel_tup_nil hv
    show PFn Try.prog 35 [slR l] (.tup [.nil, .sc (.int .i64 (wrongR l))])
    generalize wrongR l = n at *
    have hb : (n != 0) = true := by simpa using h
    refine AFn.intro (fn := Try.f35) (by kernel_rfl) rfl (by kernel_rfl) (by simp) (AW.ofx [] mixed (by kernel_rfl) ?_)
    simp only [Try.f35, argsF]
    simp
    refine callK.pure hask (by simp [V.closedL, c1]) rfl ?_
    simp [hb, h]
theorem rMinus (a b : List Re) : PFn Try.prog 47 [slR a, slR b] (pairV (opL lessB a b) (bothR a b)) := by
  have hask := rboth a b
  have c1 := slR_closed a
  have c2 := slR_closed b
  by_cases h : bothR a b = 0
  · obtain ⟨h1, h2⟩ := bothR_ok.1 h
    have h1 := wrongR_ok.1 h1
    have h2 := wrongR_ok.1 h2
    have hf := rform a b cntLess (by omega) (by omega) h1.2 h2.2
    have e : opL lessB a b = (formL (fun p q => p && !q) a b).map toRe := by
      unfold opL
      rw [if_pos h]
      rfl
    rw [e]
    have cc := slR_closed ((formL (fun p q => p && !q) a b).map toRe)
    generalize (formL (fun p q => p && !q) a b).map toRe = o at *
    unfold pairV
    refine AFn.intro (fn := Try.f47) (by kernel_rfl) rfl (by kernel_rfl) (by simp) (AW.ofx [] mixed (by kernel_rfl) ?_)
    simp only [Try.f47, argsF]
    simp
    refine callK.pure hask (by simp [V.closedL, c1, c2]) rfl ?_
    rw [h]
    simp
    refine callK.pure hf (by simp [V.closedL, V.closed, c1, c2]) cc ?_
    simp
  · have e : opL lessB a b = [] := by
      unfold opL
      rw [if_neg h]
    rw [e]
    refine AFn.out (r := .tup [.nil, .sc (.int .i64 (bothR a b))]) ?_ fun I φ v hv => rel_tup_nil hv
    show PFn Try.prog 47 [slR a, slR b] (.tup [.nil, .sc (.int .i64 (bothR a b))])
    generalize bothR a b = n at *
    have hb : (n != 0) = true := by simpa using h
    refine AFn.intro (fn := Try.f47) (by kernel_rfl) rfl (by kernel_rfl) (by simp) (AW.ofx [] mixed (by kernel_rfl) ?_)
    simp only [Try.f47, argsF]
    simp
    refine callK.pure hask (by simp [V.closedL, c1, c2]) rfl ?_
    simp [hb, h]
theorem rMeet (a b : List Re) : PFn Try.prog 40 [slR a, slR b] (pairV (opL andB a b) (bothR a b)) := by
  have hask := rboth a b
  have c1 := slR_closed a
  have c2 := slR_closed b
  by_cases h : bothR a b = 0
  · obtain ⟨h1, h2⟩ := bothR_ok.1 h
    have h1 := wrongR_ok.1 h1
    have h2 := wrongR_ok.1 h2
    have hf := rform a b cntCommon (by omega) (by omega) h1.2 h2.2
    have e : opL andB a b = (formL (fun p q => p && q) a b).map toRe := by
      unfold opL
      rw [if_pos h]
      rfl
    rw [e]
    have cc := slR_closed ((formL (fun p q => p && q) a b).map toRe)
    generalize (formL (fun p q => p && q) a b).map toRe = o at *
    unfold pairV
    refine AFn.intro (fn := Try.f40) (by kernel_rfl) rfl (by kernel_rfl) (by simp) (AW.ofx [] mixed (by kernel_rfl) ?_)
    simp only [Try.f40, argsF]
    simp
    refine callK.pure hask (by simp [V.closedL, c1, c2]) rfl ?_
    rw [h]
    simp
    refine callK.pure hf (by simp [V.closedL, V.closed, c1, c2]) cc ?_
    simp
  · have e : opL andB a b = [] := by
      unfold opL
      rw [if_neg h]
    rw [e]
    refine AFn.out (r := .tup [.nil, .sc (.int .i64 (bothR a b))]) ?_ fun I φ v hv => rel_tup_nil hv
    show PFn Try.prog 40 [slR a, slR b] (.tup [.nil, .sc (.int .i64 (bothR a b))])
    generalize bothR a b = n at *
    have hb : (n != 0) = true := by simpa using h
    refine AFn.intro (fn := Try.f40) (by kernel_rfl) rfl (by kernel_rfl) (by simp) (AW.ofx [] mixed (by kernel_rfl) ?_)
    simp only [Try.f40, argsF]
    simp
    refine callK.pure hask (by simp [V.closedL, c1, c2]) rfl ?_
    simp [hb, h]
def sameL (a b : List Re) : Bool := decide (wrongR a = 0) && decide (wrongR b = 0) && decide (unL a = unL b)
theorem rSame (a b : List Re) : PFn Try.prog 39 [slR a, slR b] (.sc (.bool (sameL a b))) := by
  have h1 := rUnion a
  have h2 := rUnion b
  have c1 := slR_closed a
  have c2 := slR_closed b
  have c3 := pairV_closed (unL a) (wrongR a)
  have c4 := pairV_closed (unL b) (wrongR b)
  have c5 := slR_closed (unL a)
  have c6 := slR_closed (unL b)
  have hq := eqRects (unL a) (unL b) (by have := unL_len a; omega)
  unfold sameL
  generalize unL a = ua at *
  generalize unL b = ub at *
  refine AFn.intro (fn := Try.f39) (by kernel_rfl) rfl (by kernel_rfl) (by simp) (AW.ofx [] mixed (by kernel_rfl) ?_)
  simp only [Try.f39, argsF]
  simp
  refine callK.pure h1 (by simp [V.closedL, c1]) c3 ?_
  simp [pairV]
  refine callK.pure h2 (by simp [V.closedL, c2]) c4 ?_
  simp [pairV]
  generalize wrongR a = na at *
  generalize wrongR b = nb at *
  by_cases e1 : na = 0
  · subst e1
    by_cases e2 : nb = 0
    · subst e2
      simp
      refine callK.pure hq (by simp [V.closedL, c5, c6]) rfl ?_
      simp
    · have e2' : (nb == 0) = false := by simpa using e2
      simp [e2', e2]
  · have e1' : (na == 0) = false := by simpa using e1
    simp [e1', e1]
def coversL (l : List Re) (r : Re) : Bool := decide (bothR [r] l = 0) && decide (opL lessB [r] l = [])
theorem rCovers (l : List Re) (r : Re) : PFn Try.prog 42 [slR l, r.v] (.sc (.bool (coversL l r))) := by
  have h1 := rMinus [r] l
  have c1 := slR_closed l
  have c3 := pairV_closed (opL lessB [r] l) (bothR [r] l)
  unfold coversL
  generalize opL lessB [r] l = o at *
  generalize bothR [r] l = e at *
  unfold Re.v Re.cs
  refine AFn.intro (fn := Try.f42) (by kernel_rfl) rfl (by kernel_rfl) (by simp) (AW.ofx [] mixed (by kernel_rfl) ?_)
  simp only [Try.f42, argsF]
  simp
  refine callK.pure h1 (by simp [V.closedL, c1, V.closed]) c3 ?_
  simp [pairV]
  by_cases e1 : e = 0
  · subst e1
    cases o with
    | nil => simp [slR]
    | cons q o =>
      have : ((((q :: o).length : Nat) : Int) == 0) = false := by simp; omega
      simp [slR] at this ⊢
      omega
  · have e1' : (e == 0) = false := by simpa using e1
    simp [e1', e1]
end Go.Proofs.Ytoooldijnilpaaa
