/- Grant: rules that no table is made of; the laws' small functions. -/
import Derived.Test.YtmkeeghjpdnknaaKn1
namespace Go.Proofs.Ytmkeeghjpdnknaa
set_option linter.all false
open Go.RowKit AM Can
set_option maxRecDepth 10000
attribute [local simp] aw_skip' aw_region' aw_seq' aw_cond' aw_block' aw_loop' aw_exit' aw_label' aw_ret' aops_nil' aops_cons' aop' aMove aAssign aPick aAlloc aBox aBuild slF aBuildSlice aLoad aLoadOwn aStore aStoreOwn isOwn delR aNilCheck aBin aMakeFunc aFieldAddr aField aIndexAddr aExtract aSliceOp aSlice aCallOp aCall' aLen aLenMap aDelete aMM aUn aConv aIface aAssert aMakeMap aLookup aMapUpdate aRange aNext aEntry entsOf keyB seekK aMakeSlice lookV aAppend putK layK eval evalV AM.valOf getF putF setF del SV.refers cellsAt rootSV plains shift ldV V.exact V.exactL V.ofValue V.ofPart V.ofCell V.cells V.one Value.oneCell' fitB qSeq qBlock getB afin aret resVs resV resTmps shareF evalS tupV valsS valsV pickV calm calmB lenV useOf feeds looks isT newsV partsV fillV putAt zerosV fitsNil nilB sliceB isEq isNeq awx_skip' awx_region' awx_seq' awx_cond' awx_block' awx_loop' awx_exit' awx_label' awx_ret' xops_nil' xops_cons' xop' xload xcall' addO delO inO putD memB Mix.effB Mix.laysB keysF badK subW weakV zeroRow yops_nil' yops_cons' yop' yload yindex yfield ylen oldO dropO takeO oldL exactB
attribute [local simp] awz_skip' awz_region' awz_seq' awz_cond' awz_block' awz_loop' awz_exit' awz_label' awz_ret' zops_nil' zops_cons' zop' zload zcall' z0 new0 remF old0 dltB

def newV (e : Int) : V := .tup [.sc (.pointer none), .sc (.int .i64 e)]
theorem gnewLong (l : List Ru) (hl : 32 < l.length) : PFn Try.prog 10 [slU l] (newV 2) := by
  have n1 : (32 : Int) < l.length := by omega
  refine AFn.intro (fn := Try.f10) (by kernel_rfl) rfl (by kernel_rfl) (by simp) (AW.ofx [] mixed (by kernel_rfl) ?_)
  simp only [Try.f10, argsF]
  simp [slU, n1, newV]
theorem gnewArg (l : List Ru) (hl : l.length ≤ 32) (hb : ∀ r ∈ l, r.boxes.length ≤ 9223372036854775807) (hr : l.all ruRight = false) : PFn Try.prog 10 [slU l] (newV 1) := by
  have hR := uRight l (by omega) hb
  rw [hr] at hR
  have c1 := slU_closed l
  unfold slU at c1
  have n1 : ¬ (32 : Int) < l.length := by omega
  refine AFn.intro (fn := Try.f10) (by kernel_rfl) rfl (by kernel_rfl) (by simp) (AW.ofx [] mixed (by kernel_rfl) ?_)
  simp only [Try.f10, argsF]
  simp [slU, n1]
  refine callK.pure hR (by simp [V.closedL, c1]) rfl ?_
  simp [newV]
def smallU (l : List Ru) : Bool := decide (l.length ≤ 8 ∧ (boxesU l).length ≤ 12)
def SuI (l : List Ru) (k : Nat) (F : Fr) (H : List Bk) : Prop := (k ≤ 8 ∧ ∀ j, j < k → (boxesU (l.take j)).length ≤ 12) ∧ F = [(0, .v (slU l)), (3, .v (.sc (.int .i64 (boxesU (l.take k)).length))), (4, .v (.sc (.int .i64 k)))]
set_option maxHeartbeats 4000000 in
theorem lsmallU (l : List Ru) (hl : l.length ≤ 9223372036854775807) (hb : ∀ r ∈ l, r.boxes.length ≤ 4398046511104) : PFn Try.prog 11 [slU l] (.sc (.bool (smallU l))) := by
  refine AFn.intro (fn := Try.f11) (by kernel_rfl) rfl (by kernel_rfl) (by simp) (AW.ofx [] mixed (by kernel_rfl) ?_)
  simp only [Try.f11, argsF]
  simp [slU]
  refine AW.count l.length (SuI l) ⟨_, ?_, ⟨by omega, by omega⟩, rfl⟩ ?_
  · simp [subW, weakV, getF, slU, boxesU]
  rintro k F H hk ⟨⟨hk8, hpre⟩, rfl⟩
  refine AW.ofx [] mixed (by kernel_rfl) ?_
  have hle := boxesU_take_len l k
  by_cases hlt : k < l.length
  · by_cases h7 : 7 < k
    · have h7' : (7 : Int) < k := by omega
      have e : smallU l = false := by
        unfold smallU
        rw [decide_eq_false_iff_not]
        omega
      simp [slU, hlt, h7', h7, e]
    · have h7' : ¬ (7 : Int) < k := by omega
      by_cases h12 : 12 < (boxesU (l.take k)).length
      · have h12' : (12 : Int) < (boxesU (l.take k)).length := by omega
        have e : smallU l = false := by
          unfold smallU
          rw [decide_eq_false_iff_not]
          omega
        generalize (boxesU (l.take k)).length = n at *
        simp [slU, hlt, h7', h7, h12, h12', e]
      · have h12' : ¬ (12 : Int) < (boxesU (l.take k)).length := by omega
        have hrow := rowU hlt
        have hst : (boxesU (l.take (k + 1))).length = (boxesU (l.take k)).length + l[k].boxes.length := by rw [boxesU_take hlt, List.length_append]
        have hbl := hb _ (List.getElem_mem hlt)
        have w1 : IntKind.i64.wrap ((k : Int) + 1) = (k : Int) + 1 := by rw [wrap_i64] <;> omega
        have w2 : IntKind.i64.wrap (((boxesU (l.take k)).length : Int) + l[k].boxes.length) = ((boxesU (l.take (k + 1))).length : Int) := by rw [hst, wrap_i64] <;> omega
        have hp : ∀ j, j < k + 1 → (boxesU (l.take j)).length ≤ 12 := fun j hj => by
          by_cases e : j = k
          · subst e; omega
          · exact hpre j (by omega)
        unfold slR at hrow
        generalize hn1 : (boxesU (l.take k)).length = n at *
        generalize hn2 : (boxesU (l.take (k + 1))).length = n2 at *
        simp [slU, hlt, h7', h7, h12, h12', hrow, w1, w2]
        refine ⟨_, ?_, ⟨by omega, hp⟩, rfl⟩
        simp [subW, weakV, getF, slU, hn2]
  · have hk' : k = l.length := by omega
    subst hk'
    have e : smallU l = decide ((boxesU l).length ≤ 12) := by
      unfold smallU
      rw [decide_eq_decide]
      omega
    rw [List.take_length]
    generalize (boxesU l).length = n at *
    simp [slU, e]
    omega
theorem lright (ro ti la : Int) : PFn Try.prog 17 [.sc (.int .i64 ro), .sc (.int .i64 ti), .sc (.int .i64 la)] (.sc (.bool (numsU ro ti la))) := by
  refine AFn.intro (fn := Try.f17) (by kernel_rfl) rfl (by kernel_rfl) (by simp) (AW.ofx [] mixed (by kernel_rfl) ?_)
  simp only [Try.f17, argsF]
  simp
  simp [gd, numsU, smallN]
  grind
theorem lrect (a b c d : Int) : PFn Try.prog 22 [.sc (.int .i64 a), .sc (.int .i64 b), .sc (.int .i64 c), .sc (.int .i64 d)] (Re.v ⟨a, b, c, d⟩) := by
  unfold Re.v Re.cs
  refine AFn.intro (fn := Try.f22) (by kernel_rfl) rfl (by kernel_rfl) (by simp) (AW.ofx [] mixed (by kernel_rfl) ?_)
  simp only [Try.f22, argsF]
  simp [setCells, setBlk]
def exU : List Ru := [⟨4, 255, 0, 7, 255, [⟨0, 0, 9, 9⟩], 12⟩, ⟨5, 255, 0, 7, 255, [⟨5, 0, 9, 4⟩], 5⟩]
theorem lexample : PFn Try.prog 32 [] (slU exU) := by
  have r1 := lrect 0 0 9 9
  have r2 := lrect 5 0 9 4
  unfold Re.v Re.cs at r1 r2
  refine AFn.intro (fn := Try.f32) (by kernel_rfl) rfl (by kernel_rfl) (by simp) (AW.ofx [] mixed (by kernel_rfl) ?_)
  simp only [Try.f32, argsF]
  simp
  refine callK.pure r1 rfl rfl ?_
  simp
  refine callK.pure r2 rfl rfl ?_
  simp [slU, exU, Ru.cs, slR, Re.cs]
theorem ex_right : exU.all ruRight = true := by decide +kernel
def exP : List (Rc Int) := [⟨0, 0, 4, 4, 12⟩, ⟨5, 0, 9, 4, 5⟩, ⟨0, 5, 9, 9, 12⟩]
theorem ex_pat : patF exU 3 2 1 = exP := by
  rw [pat_doc ex_right]
  decide +kernel
theorem ex_of1 : ofP exP ⟨0, 0, 9, 9⟩ = 5 := by decide +kernel
theorem ex_of2 : ofP exP ⟨0, 0, 10, 9⟩ = 0 := by decide +kernel
theorem Kept.stays {l : List Ru} {t m : Nat} {H0 H : List Bk} (h : Kept l t m H0 H) {H1 : List Bk} (h1 : Stays H1 H0) (hm : H1.length ≤ m) : Stays H1 H := StaysBut.new (h1.but.trans h.2) hm
theorem neqTb {x y : Operand} : binR Try.prog .eql 25 x y (.pointer none) (.pointer none) = some (.bool true) := by kernel_rfl
set_option maxHeartbeats 4000000 in
theorem lknownG (H : List Bk) : AFn Try.prog 12 [] H fun y H' => y = .sc (.bool true) ∧ Stays H H' := by
  have hex := lexample
  have cex := slU_closed exU
  have hN := gnew exU (by decide) (by decide) ex_right H
  have hb : (boxesU exU).length ≤ 1048576 := by decide
  have r1 := lrect 0 0 4 4
  have r2 := lrect 5 0 9 4
  have r3 := lrect 0 5 9 9
  have r4 := lrect 0 0 9 9
  have r5 := lrect 0 0 10 9
  have hS := refSameP exP exP (by decide)
  have cP := slP_closed exP
  have n1 : numsU 3 2 1 = true := by decide
  have q4 : rightR ⟨0, 0, 9, 9⟩ = true := by decide
  have q5 : rightR ⟨0, 0, 10, 9⟩ = true := by decide
  rw [decide_eq_true rfl] at hS
  refine AFn.intro (fn := Try.f12) (by kernel_rfl) rfl (by kernel_rfl) (by simp) (AW.ofx [] mixed (by kernel_rfl) ?_)
  simp only [Try.f12, argsF]
  simp
  refine callK.pure hex rfl cex ?_
  simp
  refine callK.of hN ?_
  rintro y H1 ⟨t, m, rfl, hT, ht, hm, hs⟩
  have hP := gPatches exU 3 2 1 (by decide) hb t m [] H1 hT (fun e he => by cases he)
  rw [n1, if_pos rfl, ex_pat] at hP
  unfold Re.v Re.cs at r1 r2 r3 r4 r5
  simp
  refine callK.pure r1 rfl rfl ?_
  simp
  refine callK.pure r2 rfl rfl ?_
  simp
  refine callK.pure r3 rfl rfl ?_
  simp
  refine callK.of hP ?_
  rintro y H2 ⟨rfl, hK2⟩
  have hs2 := hK2.stays hs hm
  obtain ⟨⟨es2, hT2, hM2⟩, _⟩ := hK2
  have hO1 := gOf exU 3 2 1 ⟨0, 0, 9, 9⟩ (by decide) hb t m es2 H2 hT2 hM2
  rw [n1, q4, ex_pat, ex_of1] at hO1
  unfold Re.v Re.cs at hO1
  have hS' : PFn Try.prog 23 [slP exP, .sl 3 5 [.sc (.int .i64 0), .sc (.int .i64 0), .sc (.int .i64 4), .sc (.int .i64 4), .sc (.int .i64 12), .sc (.int .i64 5), .sc (.int .i64 0), .sc (.int .i64 9), .sc (.int .i64 4), .sc (.int .i64 5), .sc (.int .i64 0), .sc (.int .i64 5), .sc (.int .i64 9), .sc (.int .i64 9), .sc (.int .i64 12)]] (.sc (.bool true)) := hS
  simp
  refine callK.pure hS' (by simp [V.closedL, V.closed, cP]) rfl ?_
  simp
  refine callK.pure r4 rfl rfl ?_
  simp
  refine callK.of hO1 ?_
  rintro y H3 ⟨rfl, hK3⟩
  have hs3 := hK3.stays hs2 hm
  obtain ⟨⟨es3, hT3, hM3⟩, _⟩ := hK3
  have hO2 := gOf exU 3 2 1 ⟨0, 0, 10, 9⟩ (by decide) hb t m es3 H3 hT3 hM3
  rw [n1, q5, ex_pat, ex_of2] at hO2
  unfold Re.v Re.cs at hO2
  simp
  refine callK.pure r5 rfl rfl ?_
  simp
  refine callK.of hO2 ?_
  rintro y H4 ⟨rfl, hK4⟩
  simp
  exact hK4.stays hs3 hm
end Go.Proofs.Ytmkeeghjpdnknaa
