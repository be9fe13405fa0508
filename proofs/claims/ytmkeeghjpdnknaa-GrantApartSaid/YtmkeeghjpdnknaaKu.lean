/- Grant: the law GrantZooms, walked. -/
import Derived.Test.YtmkeeghjpdnknaaKt
namespace Go.Proofs.Ytmkeeghjpdnknaa
set_option linter.all false
open Go.RowKit AM Can
set_option maxRecDepth 10000
attribute [local simp] aw_skip' aw_region' aw_seq' aw_cond' aw_block' aw_loop' aw_exit' aw_label' aw_ret' aops_nil' aops_cons' aop' aMove aAssign aPick aAlloc aBox aBuild slF aBuildSlice aLoad aLoadOwn aStore aStoreOwn isOwn delR aNilCheck aBin aMakeFunc aFieldAddr aField aIndexAddr aExtract aSliceOp aSlice aCallOp aCall' aLen aLenMap aDelete aMM aUn aConv aIface aAssert aMakeMap aLookup aMapUpdate aRange aNext aEntry entsOf keyB seekK aMakeSlice lookV aAppend putK layK eval evalV AM.valOf getF putF setF del SV.refers cellsAt rootSV plains shift ldV V.exact V.exactL V.ofValue V.ofPart V.ofCell V.cells V.one Value.oneCell' fitB qSeq qBlock getB afin aret resVs resV resTmps shareF evalS tupV valsS valsV pickV calm calmB lenV useOf feeds looks isT newsV partsV fillV putAt zerosV fitsNil nilB sliceB isEq isNeq awx_skip' awx_region' awx_seq' awx_cond' awx_block' awx_loop' awx_exit' awx_label' awx_ret' xops_nil' xops_cons' xop' xload xcall' addO delO inO putD memB Mix.effB Mix.laysB keysF badK subW weakV zeroRow yops_nil' yops_cons' yop' yload yindex yfield ylen oldO dropO takeO oldL exactB
attribute [local simp] awz_skip' awz_region' awz_seq' awz_cond' awz_block' awz_loop' awz_exit' awz_label' awz_ret' zops_nil' zops_cons' zop' zload zcall' z0 new0 remF old0 dltB

theorem Kept.keep {l : List Ru} {t m : Nat} {es : List (Value × V)} {H1 H2 : List Bk} (hT : Tab H1 t m l es) (h : Kept l t m H1 H2) : keepS H1 H2 := fun id ks hb _ => by
  have hne : id ≠ m := by
    rintro rfl
    have := hT.m.symm.trans hb
    cases this
  exact h.2.cells hne hb
theorem Kept.keepT {l : List Ru} {t m : Nat} {es : List (Value × V)} {H1 H2 H3 : List Bk} (hT : Tab H1 t m l es) (h : Kept l t m H1 H2) (hk : Stays H2 H3) : keepS H1 H3 := fun id ks hb he => hk.cells (h.keep hT id ks hb he)
theorem Kept.see {l : List Ru} {t m : Nat} {H1 H2 : List Bk} (h : Kept l t m H1 H2) {i : Nat} {cs : List SV} (hi : i ≠ m) (hb : H1[i]? = some (.cells cs)) : H2[i]? = some (.cells cs) := h.2.cells hi hb
theorem zoom_all {l : List Ru} (ha : l.all ruRight = true) (ro ti la : Int) (p : Pt) : (if numsU ro ti la then zoomP (patF l ro ti la) p else 0) = zoomR l ro ti la p := by
  cases e : numsU ro ti la with
  | true =>
    rw [if_pos rfl]
    exact zoomP_eq (form_prog ha ro ti la) p
  | false =>
    rw [if_neg (by decide)]
    exact (zoomR_no e p).symm
theorem rule_le {l : List Ru} {n : Nat} (hn : (boxesU l).length ≤ n) : ∀ r ∈ l, r.boxes.length ≤ n := fun r hr => by
  have h1 : r.boxes.length ≤ (boxesU l).length := by
    obtain ⟨s, t, rfl⟩ := List.append_of_mem hr
    simp [boxesU]
    omega
  omega
def whB (a : Wh) : Bk := .cells [.v (.sc (.int .i64 a.ro)), .v (.sc (.int .i64 a.ti)), .v (.sc (.int .i64 a.la))]
set_option maxHeartbeats 8000000 in
theorem zoomsLaw (l : List Ru) (a : Wh) (p : Pt) (hl : l.length ≤ 1048576) (hn : (boxesU l).length ≤ 1048576) : AFn Try.prog 5 [slU l, a.v, p.v] [] fun y _ => y = .sc (.bool true) := by
  have hb := rule_le hn
  have c1 := slU_closed l
  have hK := fun H => lknownG H
  by_cases h32 : 32 < l.length
  · have hN := gnewLong l h32
    unfold newV at hN
    unfold Wh.v Wh.cs Pt.v Pt.cs
    refine AFn.intro (fn := Try.f5) (by kernel_rfl) rfl (by kernel_rfl) (by simp) (AW.ofx [(4, 17, [7, 4, 5, 0])] mixed (by kernel_rfl) ?_)
    simp only [Try.f5, argsF]
    simp
    refine callK.pure hN (by simp [V.closedL, c1]) rfl ?_
    simp [neqTb]
    refine callK.of (hK _) ?_
    rintro y H ⟨rfl, hs⟩
    simp
  cases ha : l.all ruRight with
  | false =>
    have hN := gnewArg l (by omega) (fun r hr => by have := hb r hr; omega) ha
    unfold newV at hN
    unfold Wh.v Wh.cs Pt.v Pt.cs
    refine AFn.intro (fn := Try.f5) (by kernel_rfl) rfl (by kernel_rfl) (by simp) (AW.ofx [(4, 17, [7, 4, 5, 0])] mixed (by kernel_rfl) ?_)
    simp only [Try.f5, argsF]
    simp
    refine callK.pure hN (by simp [V.closedL, c1]) rfl ?_
    simp [neqTb]
    refine callK.of (hK _) ?_
    rintro y H ⟨rfl, hs⟩
    simp
  | true =>
    have hN := gnew l (by omega) (fun r hr => by have := hb r hr; omega) ha [whB a, ptB2 p]
    have hZ := refZoom l a.ro a.ti a.la p (by omega) (fun r hr => by have := hb r hr; omega)
    unfold whB ptB2 at hN
    unfold Pt.v Pt.cs at hZ ⊢
    unfold Wh.v Wh.cs
    refine AFn.intro (fn := Try.f5) (by kernel_rfl) rfl (by kernel_rfl) (by simp) (AW.ofx [(4, 17, [7, 4, 5, 0])] mixed (by kernel_rfl) ?_)
    simp only [Try.f5, argsF]
    simp
    refine callK.of hN ?_
    rintro y H1 ⟨t, m, rfl, hT, ht, hm, hs⟩
    have hG := gZoom l a.ro a.ti a.la p (by omega) hn t m [] H1 hT (fun e he => by cases he)
    rw [zoom_all ha] at hG
    unfold Pt.v Pt.cs at hG
    have b0 := hs.cells (i := 0) rfl
    have b1 := hs.cells (i := 1) rfl
    simp only [List.length_cons, List.length_nil] at hm
    simp [b0, b1]
    refine callK.of hG ?_
    rintro y H2 ⟨rfl, hK2⟩
    have d0 := hK2.see (by omega) b0
    have d1 := hK2.see (by omega) b1
    simp [b0, b1, d0, d1]
    refine ⟨hK2.keep hT, ?_⟩
    refine callK.pure hZ (by simp [V.closedL, V.closed, c1]) rfl ?_
    simp
    refine callK.of (hK _) ?_
    rintro y H3 ⟨rfl, hs3⟩
    simp
end Go.Proofs.Ytmkeeghjpdnknaa
