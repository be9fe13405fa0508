/- Grant: the law GrantWithin, walked. -/
import Derived.Test.YtmkeeghjpdnknaaKu
namespace Go.Proofs.Ytmkeeghjpdnknaa
set_option linter.all false
open Go.RowKit AM Can
set_option maxRecDepth 10000
attribute [local simp] aw_skip' aw_region' aw_seq' aw_cond' aw_block' aw_loop' aw_exit' aw_label' aw_ret' aops_nil' aops_cons' aop' aMove aAssign aPick aAlloc aBox aBuild slF aBuildSlice aLoad aLoadOwn aStore aStoreOwn isOwn delR aNilCheck aBin aMakeFunc aFieldAddr aField aIndexAddr aExtract aSliceOp aSlice aCallOp aCall' aLen aLenMap aDelete aMM aUn aConv aIface aAssert aMakeMap aLookup aMapUpdate aRange aNext aEntry entsOf keyB seekK aMakeSlice lookV aAppend putK layK eval evalV AM.valOf getF putF setF del SV.refers cellsAt rootSV plains shift ldV V.exact V.exactL V.ofValue V.ofPart V.ofCell V.cells V.one Value.oneCell' fitB qSeq qBlock getB afin aret resVs resV resTmps shareF evalS tupV valsS valsV pickV calm calmB lenV useOf feeds looks isT newsV partsV fillV putAt zerosV fitsNil nilB sliceB isEq isNeq awx_skip' awx_region' awx_seq' awx_cond' awx_block' awx_loop' awx_exit' awx_label' awx_ret' xops_nil' xops_cons' xop' xload xcall' addO delO inO putD memB Mix.effB Mix.laysB keysF badK subW weakV zeroRow yops_nil' yops_cons' yop' yload yindex yfield ylen oldO dropO takeO oldL exactB
attribute [local simp] awz_skip' awz_region' awz_seq' awz_cond' awz_block' awz_loop' awz_exit' awz_label' awz_ret' zops_nil' zops_cons' zop' zload zcall' z0 new0 remF old0 dltB

def vOf (l : List Ru) (ro ti la : Int) (r : Re) : Int := if numsU ro ti la && rightR r then ofP (patF l ro ti la) r else 0
theorem vOf_no {l : List Ru} {ro ti la : Int} (h : numsU ro ti la = false) (r : Re) : vOf l ro ti la r = 0 := by simp [vOf, h]
theorem vOf_yes {l : List Ru} {ro ti la : Int} (h : numsU ro ti la = true) {r : Re} (hr : rightR r = true) : vOf l ro ti la r = ofP (patF l ro ti la) r := by simp [vOf, h, hr]
theorem vOf_within {l : List Ru} (ha : l.all ruRight = true) (ro ti la : Int) {r s : Re} (h : inB s r = true) : vOf l ro ti la r ≤ vOf l ro ti la s := by
  have h' := h
  simp only [inB, Bool.and_eq_true, decide_eq_true_iff] at h'
  cases e : numsU ro ti la with
  | false => rw [vOf_no e, vOf_no e]; exact Int.le_refl _
  | true =>
    rw [vOf_yes e h'.1.2, vOf_yes e h'.1.1]
    exact of_within ha h
theorem vOf_point {l : List Ru} (ha : l.all ruRight = true) (ro ti la : Int) {r s : Re} (h : inB s r = true) : vOf l ro ti la r ≤ zoomR l ro ti la ⟨s.x0, s.y1⟩ := by
  have h' := h
  simp only [inB, Bool.and_eq_true, decide_eq_true_iff] at h'
  cases e : numsU ro ti la with
  | false => rw [vOf_no e, zoomR_no e]; exact Int.le_refl _
  | true =>
    rw [vOf_yes e h'.1.2]
    exact of_point ha h
theorem vOf_dot {l : List Ru} (ha : l.all ruRight = true) (ro ti la : Int) {x y : Int} (h : rightR ⟨x, y, x, y⟩ = true) : vOf l ro ti la ⟨x, y, x, y⟩ = zoomR l ro ti la ⟨x, y⟩ := by
  cases e : numsU ro ti la with
  | false => rw [vOf_no e, zoomR_no e]
  | true =>
    rw [vOf_yes e h]
    exact of_dot ha h
set_option maxHeartbeats 16000000 in
theorem withinLaw (l : List Ru) (a : Wh) (r s : Re) (hl : l.length ≤ 1048576) (hn : (boxesU l).length ≤ 1048576) : AFn Try.prog 6 [slU l, a.v, r.v, s.v] [] fun y _ => y = .sc (.bool true) := by
  have hb := rule_le hn
  have c1 := slU_closed l
  have hK := fun H => lknownG H
  by_cases h32 : 32 < l.length
  · have hN := gnewLong l h32
    unfold newV at hN
    unfold Wh.v Wh.cs Re.v Re.cs
    refine AFn.intro (fn := Try.f6) (by kernel_rfl) rfl (by kernel_rfl) (by simp) (AW.ofx [(6, 50, [11, 9, 5, 7, 12])] mixed (by kernel_rfl) ?_)
    simp only [Try.f6, argsF]
    simp
    refine callK.pure hN (by simp [V.closedL, c1]) rfl ?_
    simp [neqTb]
    refine callK.of (hK _) ?_
    rintro y H ⟨rfl, hs⟩
    simp
  cases ha : l.all ruRight with
  | false =>
    have hN := gnewArg l (by omega) (fun r hr => by have := hb r hr; omega) ha
    unfold newV at hN
    unfold Wh.v Wh.cs Re.v Re.cs
    refine AFn.intro (fn := Try.f6) (by kernel_rfl) rfl (by kernel_rfl) (by simp) (AW.ofx [(6, 50, [11, 9, 5, 7, 12])] mixed (by kernel_rfl) ?_)
    simp only [Try.f6, argsF]
    simp
    refine callK.pure hN (by simp [V.closedL, c1]) rfl ?_
    simp [neqTb]
    refine callK.of (hK _) ?_
    rintro y H ⟨rfl, hs⟩
    simp
  | true =>
    have hN := gnew l (by omega) (fun r hr => by have := hb r hr; omega) ha [whB a, reB r, reB s]
    have hI := refInB s r
    have lw := fun h => vOf_within (r := r) (s := s) ha a.ro a.ti a.la h
    have lp := fun h => vOf_point (r := r) (s := s) ha a.ro a.ti a.la h
    have ld := fun h => vOf_dot ha a.ro a.ti a.la (x := s.x0) (y := s.y1) h
    have r1 := lrect s.x0 s.y1 s.x0 s.y1
    unfold whB reB at hN
    unfold Re.v Re.cs at hI r1 ⊢
    unfold Wh.v Wh.cs
    refine AFn.intro (fn := Try.f6) (by kernel_rfl) rfl (by kernel_rfl) (by simp) (AW.ofx [(6, 50, [11, 9, 5, 7, 12])] mixed (by kernel_rfl) ?_)
    simp only [Try.f6, argsF]
    simp
    refine callK.of hN ?_
    rintro y H1 ⟨t, m, rfl, hT, ht, hm, hs⟩
    have b0 := hs.cells (i := 0) rfl
    have b1 := hs.cells (i := 1) rfl
    have b2 := hs.cells (i := 2) rfl
    simp only [List.length_cons, List.length_nil] at hm
    simp [b0, b1, b2]
    refine callK.pure hI rfl rfl ?_
    cases e : inB s r with
    | false =>
      simp
      refine callK.of (hK _) ?_
      rintro y H ⟨rfl, hs⟩
      simp
    | true =>
      have hG := gOf l a.ro a.ti a.la r (by omega) hn t m [] H1 hT (fun e he => by cases he)
      change AFn _ _ _ _ (fun y H' => y = .sc (.int .i64 (vOf l a.ro a.ti a.la r)) ∧ Kept l t m H1 H') at hG
      unfold Re.v Re.cs at hG
      have e' := e
      simp only [inB, Bool.and_eq_true, decide_eq_true_iff] at e'
      have hsr := rightR_iff.1 e'.1.1
      have hdr : rightR ⟨s.x0, s.y1, s.x0, s.y1⟩ = true := rightR_iff.2 (by simp only; omega)
      have lw := lw e
      have lp := lp e
      have ld := ld hdr
      simp [b0, b1]
      refine callK.of hG ?_
      rintro y H2 ⟨rfl, hK2⟩
      have d0 := hK2.see (by omega) b0
      have d1 := hK2.see (by omega) b1
      have d2 := hK2.see (by omega) b2
      obtain ⟨⟨es2, hT2, hM2⟩, _⟩ := hK2
      have hT2' := hT2.stays (.app (L := [ptB2 ⟨s.x0, s.y1⟩]))
      have f0 := fun L => getA (L := L) d0
      have f1 := fun L => getA (L := L) d1
      have f2 := fun L => getA (L := L) d2
      have f3 := appL (H := H2) (b := ptB2 ⟨s.x0, s.y1⟩)
      have f0' := fun L h => (List.getElem_eq_iff (i := 0) h).2 (f0 L)
      have hGs := gOf l a.ro a.ti a.la s (by omega) hn t m es2 _ hT2' hM2
      change AFn _ _ _ _ (fun y H' => y = .sc (.int .i64 (vOf l a.ro a.ti a.la s)) ∧ Kept l t m _ H') at hGs
      unfold ptB2 at f3 hT2' hGs
      unfold Re.v Re.cs at hGs
      simp [setL, d0, d1, d2, f0, f1, f2, f3, f0']
      refine callK.of hGs ?_
      rintro y H3 ⟨rfl, hK3⟩
      have k3 := hK3.keep hT2'
      obtain ⟨⟨es3, hT3, hM3⟩, _⟩ := hK3
      have hZ := gZoom l a.ro a.ti a.la ⟨s.x0, s.y1⟩ (by omega) hn t m es3 _ hT3 hM3
      rw [zoom_all ha] at hZ
      unfold Pt.v Pt.cs at hZ
      simp [setL, d0, d1, d2, f0, f1, f2, f3, f0', lw]
      refine ⟨k3, ?_⟩
      refine callK.of hZ ?_
      rintro y H4 ⟨rfl, hK4⟩
      have k4 := keepS.trans k3 (hK4.keep hT3)
      obtain ⟨⟨es4, hT4, hM4⟩, _⟩ := hK4
      simp [setL, d0, d1, d2, f0, f1, f2, f3, f0', lw, lp]
      refine ⟨k4, ?_⟩
      refine callK.pure r1 rfl rfl ?_
      simp [setL, d0, d1, d2, f0, f1, f2, f3, f0', lw, lp]
      refine ⟨k4, ?_⟩
      have hGd := gOf l a.ro a.ti a.la ⟨s.x0, s.y1, s.x0, s.y1⟩ (by omega) hn t m es4 _ hT4 hM4
      change AFn _ _ _ _ (fun y H' => y = .sc (.int .i64 (vOf l a.ro a.ti a.la ⟨s.x0, s.y1, s.x0, s.y1⟩)) ∧ Kept l t m _ H') at hGd
      unfold Re.v Re.cs at hGd
      refine callK.of hGd ?_
      rintro y H5 ⟨rfl, hK5⟩
      have k5 := keepS.trans k4 (hK5.keep hT4)
      obtain ⟨⟨es5, hT5, hM5⟩, _⟩ := hK5
      simp [setL, d0, d1, d2, f0, f1, f2, f3, f0', lw, lp]
      refine ⟨k5, ?_⟩
      have hZd := gZoom l a.ro a.ti a.la ⟨s.x0, s.y1⟩ (by omega) hn t m es5 _ hT5 hM5
      rw [zoom_all ha] at hZd
      unfold Pt.v Pt.cs at hZd
      refine callK.of hZd ?_
      rintro y H6 ⟨rfl, hK6⟩
      simp [setL, d0, d1, d2, f0, f1, f2, f3, f0', lw, lp, ld]
      refine callK.of (hK _) ?_
      rintro y H7 ⟨rfl, hs7⟩
      simp
end Go.Proofs.Ytmkeeghjpdnknaa
