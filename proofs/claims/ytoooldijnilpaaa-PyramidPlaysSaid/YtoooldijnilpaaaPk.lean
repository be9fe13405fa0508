/- known and built. -/
import Derived.Test.YtoooldijnilpaaaPj
namespace Go.Proofs.Ytoooldijnilpaaa
set_option linter.all false
open Go.RowKit AM
set_option maxRecDepth 10000
attribute [local simp] aw_skip' aw_region' aw_seq' aw_cond' aw_block' aw_loop' aw_exit' aw_label' aw_ret' aops_nil' aops_cons' aop' aMove aAssign aPick aAlloc aBox aBuild aBuildSlice aLoad aLoadOwn aStore aStoreOwn isOwn delR aNilCheck aBin aMakeFunc aFieldAddr aField aIndexAddr aExtract aSliceOp aSlice aCallOp aCall' aLen aLenMap aDelete aMM aUn aConv aIface aAssert aMakeMap aLookup aMapUpdate aRange aNext aEntry entsOf keyB lookV aAppend putK layK eval evalV AM.valOf getF putF setF del SV.refers cellsAt rootSV plains shift ldV V.exact V.exactL V.ofValue V.ofPart V.ofCell V.cells V.one Value.oneCell' fitB qSeq qBlock getB afin aret resVs resV resTmps shareF evalS tupV valsS valsV pickV calm calmB lenV useOf feeds looks isT newsV partsV fillV putAt zerosV fitsNil nilB isEq isNeq awx_skip' awx_region' awx_seq' awx_cond' awx_block' awx_loop' awx_exit' awx_label' awx_ret' xops_nil' xops_cons' xop' xload xcall' addO delO inO putD memB Mix.effB Mix.laysB keysF badK subW weakV zeroRow yops_nil' yops_cons' yop' yload yindex yfield ylen oldO dropO takeO oldL exactB

theorem KeptM.new {ms : List Nat} {H H1 H2 : List Bk} (h : KeptM [] H H1) (k : KeptM ms H1 H2) (hm : ∀ m ∈ ms, H.length ≤ m) : KeptM [] H H2 := fun i b hi hb hn => k i b (fun e => by
  have := hm i e
  have := (List.getElem?_eq_some_iff.1 hb).1
  omega) (h i b (by simp) hb hn) hn
theorem known_cnt : cellN [⟨1, 0⟩, ⟨1, 0⟩, ⟨0, 0⟩] ⟨16, 1, 0⟩ = 2 ∧ cellN [⟨1, 0⟩, ⟨1, 0⟩, ⟨0, 0⟩] ⟨15, 0, 0⟩ = 3 ∧ cellsN [⟨1, 0⟩, ⟨1, 0⟩, ⟨0, 0⟩] 17 = 18 ∧ cellsN [⟨1, 0⟩, ⟨1, 0⟩] 17 = 17 := by
  refine ⟨?_, ?_, ?_, ?_⟩ <;> decide +kernel
theorem known (H : List Bk) : AFn Try.prog 16 [] H fun y H' => y = .sc (.bool true) := by
  obtain ⟨n1, n2, n3, n4⟩ := known_cnt
  refine AFn.intro (fn := Try.f16) (by kernel_rfl) rfl (by kernel_rfl) (by simp) (AW.ofx [] mixed (by kernel_rfl) ?_)
  simp only [Try.f16, argsF]
  simp
  refine callK.of (pnew H) ?_
  rintro y H1 ⟨r, ms, rfl, h1, _⟩
  simp
  refine callK.of (h1.add ⟨0, 0⟩ (by simp)) ?_
  rintro y H2 ⟨rfl, _, h2⟩
  have f0 : fits ⟨0, 0⟩ = true := by decide
  have f1 : fits ⟨1, 0⟩ = true := by decide
  rw [f0] at h2
  simp [f0]
  refine callK.of (h2.add ⟨1, 0⟩ (by simp)) ?_
  rintro y H3 ⟨rfl, _, h3⟩
  rw [f1] at h3
  simp [f1]
  refine callK.of (h3.add ⟨1, 0⟩ (by simp)) ?_
  rintro y H4 ⟨rfl, _, h4⟩
  rw [f1] at h4
  simp [f1]
  simp only [if_true] at h4
  refine callK.of (h4.count ⟨16, 1, 0⟩) ?_
  rintro y H5 ⟨rfl, h5, _⟩
  rw [n1]
  simp
  refine callK.of (h5.count ⟨15, 0, 0⟩) ?_
  rintro y H6 ⟨rfl, h6, _⟩
  rw [n2]
  simp
  refine callK.of h6.cells ?_
  rintro y H7 ⟨rfl, rfl⟩
  rw [n3]
  simp
  refine callK.of (h6.remove ⟨0, 0⟩) ?_
  rintro y H8 ⟨rfl, _, h8⟩
  have e8 : List.erase [(⟨1, 0⟩ : Pt), ⟨1, 0⟩, ⟨0, 0⟩] ⟨0, 0⟩ = [⟨1, 0⟩, ⟨1, 0⟩] := by decide
  rw [e8] at h8
  have hm : (⟨0, 0⟩ : Pt) ∈ [(⟨1, 0⟩ : Pt), ⟨1, 0⟩, ⟨0, 0⟩] := by simp
  simp [hm]
  refine callK.of h8.cells ?_
  rintro y H9 ⟨rfl, rfl⟩
  rw [n4]
  simp
theorem knownP : PFn Try.prog 16 [] (.sc (.bool true)) := known []
/-! ## built -/
def putIf (h : List Pt) (p : Pt) : List Pt := if fits p then putL h p else h
def haveL (xs : List Pt) : List Pt := xs.foldl putIf []
theorem haveL_succ {xs : List Pt} {k : Nat} (h : k < xs.length) : haveL (xs.take (k + 1)) = putIf (haveL (xs.take k)) xs[k] := by
  unfold haveL
  rw [List.take_succ_eq_append_getElem h, List.foldl_append]
  rfl
theorem putF_perm (p : Pt) : ∀ (xs : List Pt) (s : List Pt × Bool), ((xs.foldl (putS p) s).1 ++ if (xs.foldl (putS p) s).2 then [] else [p]).Perm ((s.1 ++ if s.2 then [] else [p]) ++ xs)
  | [], s => by rw [List.append_nil]; exact List.Perm.refl _
  | x :: xs, s => by
    rw [List.foldl_cons]
    refine (putF_perm p xs (putS p s x)).trans ?_
    rw [List.perm_iff_count]
    intro q
    by_cases h : s.2 = false ∧ pcode p < pcode x
    · have e : putS p s x = (s.1 ++ [p, x], true) := by unfold putS; rw [if_pos h]
      rw [e]
      simp [h.1, List.count_append, List.count_cons] <;> omega
    · have e : putS p s x = (s.1 ++ [x], s.2) := by unfold putS; rw [if_neg h]
      rw [e]
      cases s.2 <;> simp [List.count_append, List.count_cons] <;> omega
theorem putL_perm (xs : List Pt) (p : Pt) : (putL xs p).Perm (p :: xs) := by
  have := putF_perm p xs ([], false)
  unfold putL putG
  cases h : (xs.foldl (putS p) ([], false)).2 with
  | true => rw [h] at this; simpa using this
  | false => rw [h] at this; simpa using this
theorem haveL_len (xs : List Pt) : (haveL xs).length ≤ xs.length := by
  have go : ∀ (xs h : List Pt), (xs.foldl putIf h).length ≤ h.length + xs.length := by
    intro xs
    induction xs with
    | nil => intro h; simp
    | cons x xs ih =>
      intro h
      rw [List.foldl_cons]
      have h1 := ih (putIf h x)
      have h2 : (putIf h x).length ≤ h.length + 1 := by
        unfold putIf
        split
        · rw [(putL_perm h x).length_eq]; simp
        · omega
      simp only [List.length_cons]
      omega
  have := go xs []
  simpa [haveL] using this
def BuiltI (xs : List Pt) (H0 : List Bk) (r : Nat) (ms : List Nat) (k : Nat) (F : Fr) (H : List Bk) : Prop := PyrS H r ms (haveL (xs.take k)) ∧ KeptM [] H0 H ∧ F = [(0, .v (slP xs)), (4, .v (.ptr r 0)), (5, .v (slP (haveL (xs.take k)))), (6, .v (.sc (.int .i64 k)))]
/-- What built hands back of few points. -/
theorem built (xs : List Pt) (hx : xs.length ≤ 100) (H : List Bk) : AFn Try.prog 15 [slP xs] H fun y H' => ∃ r ms, y = .tup [.ptr r 0, slP (haveL xs)] ∧ PyrS H' r ms (haveL xs) ∧ KeptM [] H H' ∧ H.length ≤ r ∧ ∀ m ∈ ms, H.length ≤ m := by
  have hx' : ¬ (100 : Int) < xs.length := by omega
  have hR := refFits
  unfold Pt.v Pt.cs at hR
  refine AFn.intro (fn := Try.f15) (by kernel_rfl) rfl (by kernel_rfl) (by simp) (AW.ofx [] mixed (by kernel_rfl) ?_)
  simp only [Try.f15, argsF]
  simp [slP]
  refine callK.of (pnew H) ?_
  rintro y H1 ⟨r, ms, rfl, h1, k1, hr1, hm1⟩
  simp [slP, hx']
  refine AW.count xs.length (BuiltI xs H r ms) ⟨_, ?_, by simpa [haveL] using h1, k1, rfl⟩ ?_
  · simp [subW, weakV, getF, slP, haveL, zeroRow]
  rintro k F H2 hk ⟨h2, k2, rfl⟩
  refine AW.ofx [] mixed (by kernel_rfl) ?_
  by_cases hlt : k < xs.length
  · have w1 : IntKind.i64.wrap ((k : Int) + 1) = (k : Int) + 1 := by rw [wrap_i64] <;> omega
    have hn := haveL_succ hlt
    have hlen := haveL_len (xs.take k)
    rw [List.length_take, Nat.min_eq_left hk] at hlen
    have hadd := h2.add xs[k] (by omega)
    have hput := refPut (haveL (xs.take k)) xs[k] (by omega)
    unfold Pt.v Pt.cs at hadd hput
    simp [slP, hlt, rowP]
    refine callK.of hadd ?_
    rintro y H3 ⟨rfl, k3, h3⟩
    have k03 := k2.new k3 hm1
    cases hf : fits xs[k] with
    | false =>
      have e : putIf (haveL (xs.take k)) xs[k] = haveL (xs.take k) := by simp [putIf, hf]
      rw [e] at hn
      rw [hf] at h3
      simp [slP, hlt, w1]
      refine ⟨_, ?_, by rw [hn]; simpa using h3, k03, rfl⟩
      rw [hn]
      simp [subW, weakV, getF, slP]
    | true =>
      have e : putIf (haveL (xs.take k)) xs[k] = putL (haveL (xs.take k)) xs[k] := by simp [putIf, hf]
      rw [e] at hn
      have hp : PyrS H3 r ms (haveL (xs.take (k + 1))) := by
        rw [hf] at h3
        rw [hn]
        exact PyrS.perm h3 (putL_perm _ _).symm
      have hR1 := hR xs[k]
      rw [hf] at hR1
      simp [slP, hlt, rowP]
      refine callK.pure hR1 rfl rfl ?_
      simp [slP, hlt, rowP]
      refine callK.pure hput (by simp [V.closedL, V.closed, slP, closed_flat (enc := Pt.cs) (fun _ => rfl)]) (slP_closed _) ?_
      simp [slP, w1, hlt]
      refine ⟨_, ?_, hp, k03, rfl⟩
      rw [hn]
      simp [subW, weakV, getF, slP]
  · have hk' : k = xs.length := by omega
    subst hk'
    rw [List.take_length] at h2 ⊢
    simp [slP]
    exact ⟨ms, h2, k2, hr1, hm1⟩
/-- Of too many points it hands back nothing. -/
theorem builtNot (xs : List Pt) (hx : 100 < xs.length) (H : List Bk) : AFn Try.prog 15 [slP xs] H fun y H' => y = .tup [.sc (.pointer none), .nil] ∧ KeptM [] H H' := by
  have hx' : (100 : Int) < xs.length := by omega
  refine AFn.intro (fn := Try.f15) (by kernel_rfl) rfl (by kernel_rfl) (by simp) (AW.ofx [] mixed (by kernel_rfl) ?_)
  simp only [Try.f15, argsF]
  simp [slP]
  refine callK.of (pnew H) ?_
  rintro y H1 ⟨r, ms, rfl, h1, k1, hr1, hm1⟩
  simp [slP, hx']
  exact k1
end Go.Proofs.Ytoooldijnilpaaa
