/- A new pyramid; known. -/
import Derived.Test.YtoooldijnilpaaaPi
namespace Go.Proofs.Ytoooldijnilpaaa
set_option linter.all false
open Go.RowKit AM
set_option maxRecDepth 10000
attribute [local simp] aw_skip' aw_region' aw_seq' aw_cond' aw_block' aw_loop' aw_exit' aw_label' aw_ret' aops_nil' aops_cons' aop' aMove aAssign aPick aAlloc aBox aBuild aBuildSlice aLoad aLoadOwn aStore aStoreOwn isOwn delR aNilCheck aBin aMakeFunc aFieldAddr aField aIndexAddr aExtract aSliceOp aSlice aCallOp aCall' aLen aLenMap aDelete aMM aUn aConv aIface aAssert aMakeMap aLookup aMapUpdate aRange aNext aEntry entsOf keyB lookV aAppend putK layK eval evalV AM.valOf getF putF setF del SV.refers cellsAt rootSV plains shift ldV V.exact V.exactL V.ofValue V.ofPart V.ofCell V.cells V.one Value.oneCell' fitB qSeq qBlock getB afin aret resVs resV resTmps shareF evalS tupV valsS valsV pickV calm calmB lenV useOf feeds looks isT newsV partsV fillV putAt zerosV fitsNil nilB isEq isNeq awx_skip' awx_region' awx_seq' awx_cond' awx_block' awx_loop' awx_exit' awx_label' awx_ret' xops_nil' xops_cons' xop' xload xcall' addO delO inO putD memB Mix.effB Mix.laysB keysF badK subW weakV zeroRow yops_nil' yops_cons' yop' yload yindex yfield ylen oldO dropO takeO oldL exactB

def cellsK (b k : Nat) : List SV := (List.range 17).map fun i => SV.v (if i < k then V.map (b + 1 + i) else V.sc (.map none))
theorem cellsK_len (b k : Nat) : (cellsK b k).length = 17 := by simp [cellsK]
theorem cellsK_zero (b : Nat) : cellsK b 0 = [.v (.sc (.map none)), .v (.sc (.map none)), .v (.sc (.map none)), .v (.sc (.map none)), .v (.sc (.map none)), .v (.sc (.map none)), .v (.sc (.map none)), .v (.sc (.map none)), .v (.sc (.map none)), .v (.sc (.map none)), .v (.sc (.map none)), .v (.sc (.map none)), .v (.sc (.map none)), .v (.sc (.map none)), .v (.sc (.map none)), .v (.sc (.map none)), .v (.sc (.map none))] := by rfl
theorem cellsK_set (b k : Nat) (hk : k < 17) : (cellsK b k).set k (.v (.map (b + 1 + k))) = cellsK b (k + 1) := by
  apply List.ext_getElem?
  intro i
  rw [List.getElem?_set]
  unfold cellsK
  simp only [List.length_map, List.length_range, List.getElem?_map]
  by_cases hik : k = i
  · subst hik
    rw [if_pos rfl, if_pos hk, List.getElem?_range hk]
    simp
  · rw [if_neg hik]
    by_cases hi : i < 17
    · rw [List.getElem?_range hi]
      simp
      by_cases h : i < k
      · rw [if_pos h, if_pos (by omega)]
      · rw [if_neg h, if_neg (by omega)]
    · rw [List.getElem?_eq_none (by simp; omega)]
      rfl
theorem cellsK_all (b : Nat) : cellsK b 17 = ((List.range 17).map fun i => b + 1 + i).map fun m => SV.v (V.map m) := by
  unfold cellsK
  rw [List.map_map]
  apply List.map_congr_left
  intro i hi
  have : i < 17 := by simpa using hi
  simp [this]
theorem newStore {H : List Bk} {cs : List SV} {L : List Bk} {j : Nat} {x : V} : setCells (H ++ .cells cs :: L) H.length j [x] = H ++ .cells (cs.set j (.v x)) :: L := by
  simp [setCells, setBlk]
def NewI (H0 : List Bk) (k : Nat) (F : Fr) (H : List Bk) : Prop := H = H0 ++ .cells (cellsK H0.length k) :: List.replicate k (.map []) ∧ F = [(1, .v (.ptr H0.length 0)), (5, .v (.sc (.int .i64 k)))]
theorem pnew (H : List Bk) : AFn Try.prog 24 [] H fun y H' => ∃ r ms, y = .ptr r 0 ∧ PyrS H' r ms [] ∧ KeptM [] H H' ∧ H.length ≤ r ∧ ∀ m ∈ ms, H.length ≤ m := by
  refine AFn.intro (fn := Try.f24) (by kernel_rfl) rfl (by kernel_rfl) (by simp) (AW.ofx [] mixed (by kernel_rfl) ?_)
  simp only [Try.f24, argsF]
  simp
  refine AW.count 17 (NewI H) ⟨_, ?_, by simp only [cellsK_zero, List.replicate_zero], rfl⟩ ?_
  · simp [subW, weakV, getF]
  rintro k F H' hk ⟨rfl, rfl⟩
  refine AW.ofx [] mixed (by kernel_rfl) ?_
  by_cases hlt : k < 17
  · have hlt' : (k : Int) < 17 := by omega
    have w1 : IntKind.i64.wrap ((k : Int) + 1) = (k : Int) + 1 := by rw [wrap_i64] <;> omega
    have hst := newStore (H := H) (cs := cellsK H.length k) (L := List.replicate k (.map []) ++ [.map []]) (j := k) (x := .map (H.length + (k + 1)))
    have hset := cellsK_set H.length k hlt
    rw [Nat.add_assoc, Nat.add_comm 1 k] at hset
    rw [hset] at hst
    simp [hlt', cellsK_len, hst, w1]
    refine ⟨by omega, by omega, _, ?_, ?_, rfl⟩
    · simp [subW, weakV, getF]
    · rw [List.replicate_succ']
  · have hk' : k = 17 := by omega
    subst hk'
    simp
    refine ⟨(List.range 17).map fun i => H.length + 1 + i, ?_, KeptM.refl.append, fun m hm => ?_⟩
    · refine ⟨⟨fun _ => [], ⟨by simp, ?_, ?_, fun l m hm => ?_⟩, Good.none⟩, by simp, by simp⟩
      · rw [List.nodup_iff_pairwise_ne, List.pairwise_map]
        exact (List.pairwise_lt_range).imp (by intro a b h; omega)
      · rw [← cellsK_all]
        simp
      · have hl : l < 17 := by simpa using (List.getElem?_eq_some_iff.1 hm).1
        simp [hl] at hm
        subst hm
        rw [show H.length + 1 + l = H.length + (l + 1) by omega, List.getElem?_append_right (by omega), show H.length + (l + 1) - H.length = l + 1 by omega, List.getElem?_cons_succ]
        show (List.replicate 17 (Bk.map []))[l]? = _
        rw [List.getElem?_replicate, if_pos hl]
        rfl
    · simp at hm
      obtain ⟨i, _, rfl⟩ := hm
      omega
end Go.Proofs.Ytoooldijnilpaaa
