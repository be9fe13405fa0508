/- Grant: a table is asked, by the program. -/
import Derived.Test.YtmkeeghjpdnknaaKe1
import Derived.Test.YtmkeeghjpdnknaaKh
import Derived.Test.YtmkeeghjpdnknaaWk1
namespace Go.Proofs.Ytmkeeghjpdnknaa
set_option linter.all false
open Go.RowKit AM Can
set_option maxRecDepth 10000
attribute [local simp] aw_skip' aw_region' aw_seq' aw_cond' aw_block' aw_loop' aw_exit' aw_label' aw_ret' aops_nil' aops_cons' aop' aMove aAssign aPick aAlloc aBox aBuild slF aBuildSlice aLoad aLoadOwn aStore aStoreOwn isOwn delR aNilCheck aBin aMakeFunc aFieldAddr aField aIndexAddr aExtract aSliceOp aSlice aCallOp aCall' aLen aLenMap aDelete aMM aUn aConv aIface aAssert aMakeMap aLookup aMapUpdate aRange aNext aEntry entsOf keyB seekK aMakeSlice lookV aAppend putK layK eval evalV AM.valOf getF putF setF del SV.refers cellsAt rootSV plains shift ldV V.exact V.exactL V.ofValue V.ofPart V.ofCell V.cells V.one Value.oneCell' fitB qSeq qBlock getB afin aret resVs resV resTmps shareF evalS tupV valsS valsV pickV calm calmB lenV useOf feeds looks isT newsV partsV fillV putAt zerosV fitsNil nilB sliceB isEq isNeq awx_skip' awx_region' awx_seq' awx_cond' awx_block' awx_loop' awx_exit' awx_label' awx_ret' xops_nil' xops_cons' xop' xload xcall' addO delO inO putD memB Mix.effB Mix.laysB keysF badK subW weakV zeroRow yops_nil' yops_cons' yop' yload yindex yfield ylen oldO dropO takeO oldL exactB
attribute [local simp] awz_skip' awz_region' awz_seq' awz_cond' awz_block' awz_loop' awz_exit' awz_label' awz_ret' zops_nil' zops_cons' zop' zload zcall' z0 new0 remF old0 dltB

/-- What a table promises: its rules, and what was reckoned is right. -/
def Kept (l : List Ru) (t m : Nat) (H0 H : List Bk) : Prop := (∃ es, Tab H t m l es ∧ Memo l es) ∧ StaysBut m H0 H
theorem Kept.trans {l : List Ru} {t m : Nat} {H0 H1 H2 : List Bk} (h : StaysBut m H0 H1) (k : Kept l t m H1 H2) : Kept l t m H0 H2 := ⟨k.1, h.trans k.2⟩
theorem Kept.app {l : List Ru} {t m : Nat} {H0 H1 L : List Bk} (k : Kept l t m H0 H1) : Kept l t m H0 (H1 ++ L) := by
  obtain ⟨⟨es, h1, h2⟩, h3⟩ := k
  exact ⟨⟨es, h1.stays .app, h2⟩, h3.append⟩
theorem gmade (t m : Nat) (l : List Ru) (es : List (Value × V)) (H : List Bk) (h : Tab H t m l es) : AFn Try.prog 33 [.ptr t 0] H fun y H' => y = .sc (.bool true) ∧ H' = H := by
  have ht := h.t
  refine AFn.intro (fn := Try.f33) (by kernel_rfl) rfl (by kernel_rfl) (by simp) (AW.ofx [] mixed (by kernel_rfl) ?_)
  simp only [Try.f33, argsF]
  simp [ht]
theorem nilTb {x y : Operand} : binR Try.prog .neq 25 x y (.pointer none) (.pointer none) = some (.bool false) := by kernel_rfl
theorem gmadeN : PFn Try.prog 33 [.sc (.pointer none)] (.sc (.bool false)) := by
  refine AFn.intro (fn := Try.f33) (by kernel_rfl) rfl (by kernel_rfl) (by simp) (AW.ofx [] mixed (by kernel_rfl) ?_)
  simp only [Try.f33, argsF]
  simp [nilTb]
theorem gright' (ro ti la : Int) : PFn Try.prog 34 [.sc (.int .i64 ro), .sc (.int .i64 ti), .sc (.int .i64 la)] (.sc (.bool (numsU ro ti la))) := by
  refine AFn.intro (fn := Try.f34) (by kernel_rfl) rfl (by kernel_rfl) (by simp) (AW.ofx [] mixed (by kernel_rfl) ?_)
  simp only [Try.f34, argsF]
  simp
  simp [gd, numsU, smallN]
  grind
theorem patF_len (l : List Ru) (ro ti la : Int) : (patF l ro ti la).length ≤ 5000000000 := by
  have hR : ∀ y, (rowG (forL l ro ti la) (cutsG (forL l ro ti la) false) y).length ≤ (cutsG (forL l ro ti la) false).length := fun y => rowG_len _ _ y
  have h1 := emit_len (R := rowG (forL l ro ti la) (cutsG (forL l ro ti la) false)) (ys := cutsG (forL l ro ti la) true) hR ((cutsG (forL l ro ti la) true).length - 1)
  have h2 := cutsG_len (l := forL l ro ti la) forL_boxes false
  have h3 := cutsG_len (l := forL l ro ti la) forL_boxes true
  have h4 : ((cutsG (forL l ro ti la) true).length - 1) * (cutsG (forL l ro ti la) false).length ≤ 65537 * 65537 := Nat.mul_le_mul (by omega) h2
  unfold patF patG outP
  omega
theorem gPatches (l : List Ru) (ro ti la : Int) (hl : l.length ≤ 1000000) (hn : (boxesU l).length ≤ 1048576) (t m : Nat) (es : List (Value × V)) (H : List Bk) (hT : Tab H t m l es) (hM : Memo l es) :
    AFn Try.prog 13 [.ptr t 0, .sc (.int .i64 ro), .sc (.int .i64 ti), .sc (.int .i64 la)] H fun y H' => y = slP (if numsU ro ti la then patF l ro ti la else []) ∧ Kept l t m H H' := by
  have h1 := gmade t m l es H hT
  have h2 := gright' ro ti la
  have h3 := gpatches l ro ti la hl hn t m es H hT hM
  have h4 := gcloneP (patF l ro ti la) (Nat.le_trans (patF_len l ro ti la) (by omega))
  have h : AFn Try.prog 13 [.ptr t 0, .sc (.int .i64 ro), .sc (.int .i64 ti), .sc (.int .i64 la)] H fun y H' => (if numsU ro ti la then y = slP (patF l ro ti la) else y = .nil) ∧ Kept l t m H H' := by
    refine AFn.intro (fn := Try.f13) (by kernel_rfl) rfl (by kernel_rfl) (by simp) (AW.ofx [] mixed (by kernel_rfl) ?_)
    simp only [Try.f13, argsF]
    simp
    refine callK.of h1 ?_
    rintro y H1 ⟨rfl, rfl⟩
    simp
    refine callK.pure h2 rfl rfl ?_
    cases e : numsU ro ti la with
    | false =>
      simp
      exact ⟨⟨es, hT, hM⟩, .refl⟩
    | true =>
      simp
      refine callK.of h3 ?_
      rintro y H2 ⟨rfl, es', hT', hM', hs⟩
      simp
      refine callK.pure h4 (by simp [V.closedL, slP_closed]) (slP_closed _) ?_
      simp
      exact ⟨⟨es', hT', hM'⟩, hs⟩
  refine h.conv fun y H' ⟨hy, hk⟩ => ⟨_, ⟨rfl, hk⟩, fun I φ v hv => ?_⟩
  cases e : numsU ro ti la with
  | false =>
    rw [e] at hy
    simp at hy
    subst hy
    exact rel_nil_row hv
  | true =>
    rw [e] at hy
    simp at hy
    subst hy
    exact hv
def boxP (q : Rc Int) : Re := ⟨q.x0, q.y0, q.x1, q.y1⟩
/-- The zoom of a point, by patches. -/
def zoomP (qs : List (Rc Int)) (p : Pt) : Int := match qs.find? fun q => hasR (boxP q) p with
  | some q => q.z
  | none => 0
theorem find_take {α : Type} {q : α → Bool} {xs : List α} {k : Nat} (h : k < xs.length) (hn : ∀ x ∈ xs.take k, q x = false) (hq : q xs[k] = true) : xs.find? q = some xs[k] := by
  have e : xs.find? q = (xs.take k ++ xs.drop k).find? q := by rw [List.take_append_drop]
  rw [e, List.find?_append, List.find?_eq_none.2 (fun x hx => by rw [hn x hx]; decide), Option.none_or]
  have e2 := List.drop_eq_getElem_cons h
  have e3 : (xs[k] :: xs.drop (k + 1)).find? q = some xs[k] := List.find?_cons_of_pos hq
  rw [← e2] at e3
  exact e3
theorem find_no {α : Type} {q : α → Bool} {xs : List α} (hn : ∀ x ∈ xs, q x = false) : xs.find? q = none := List.find?_eq_none.2 (fun x hx => by rw [hn x hx]; decide)
def ZmI (l : List Ru) (qs : List (Rc Int)) (p : Pt) (b : Nat) (t m : Nat) (H0 : List Bk) (k : Nat) (F : Fr) (H : List Bk) : Prop := ((∀ q ∈ qs.take k, hasR (boxP q) p = false) ∧ Kept l t m H0 H ∧ H[b]? = some (ptB2 p)) ∧ F = [(9, .v (.ptr b 0)), (27, .v (slP qs)), (28, .v (.sc (.int .i64 qs.length))), (29, .v (.sc (.int .i64 k)))]
set_option maxHeartbeats 4000000 in
theorem gZoom (l : List Ru) (ro ti la : Int) (p : Pt) (hl : l.length ≤ 1000000) (hn : (boxesU l).length ≤ 1048576) (t m : Nat) (es : List (Value × V)) (H : List Bk) (hT : Tab H t m l es) (hM : Memo l es) :
    AFn Try.prog 19 [.ptr t 0, .sc (.int .i64 ro), .sc (.int .i64 ti), .sc (.int .i64 la), p.v] H fun y H' => y = .sc (.int .i64 (if numsU ro ti la then zoomP (patF l ro ti la) p else 0)) ∧ Kept l t m H H' := by
  have hTm := (List.getElem?_eq_some_iff.1 hT.m).1
  have hT1 := hT.stays (.app (L := [ptB2 p]))
  have hb1 := appL (H := H) (b := ptB2 p)
  have h1 := gmade t m l es _ hT1
  have h2 := gright' ro ti la
  have h3 := gpatches l ro ti la hl hn t m es _ hT1 hM
  have hq := patF_len l ro ti la
  unfold ptB2 at h1 h3
  unfold Pt.v Pt.cs
  refine AFn.intro (fn := Try.f19) (by kernel_rfl) rfl (by kernel_rfl) (by simp) (AW.ofx [] mixed (by kernel_rfl) ?_)
  simp only [Try.f19, argsF]
  simp
  refine callK.of h1 ?_
  rintro y H1 ⟨rfl, rfl⟩
  simp
  refine callK.pure h2 rfl rfl ?_
  cases e : numsU ro ti la with
  | false =>
    simp
    exact ⟨⟨es, hT1, hM⟩, .app⟩
  | true =>
    simp
    refine callK.of h3 ?_
    rintro y H2 ⟨rfl, es', hT', hM', hs⟩
    have hb2 := hs.cells (by omega) hb1
    generalize patF l ro ti la = qs at *
    simp [slP]
    refine AW.count qs.length (ZmI l qs p H.length t m H) ⟨_, ?_, ⟨by simp, ⟨⟨es', hT', hM'⟩, StaysBut.trans .app hs⟩, hb2⟩, rfl⟩ ?_
    · simp [subW, weakV, getF, slP]
    rintro k F H3 hk ⟨⟨hno, hK, hb3⟩, rfl⟩
    refine AW.ofx [] mixed (by kernel_rfl) ?_
    by_cases hlt : k < qs.length
    · have w1 : IntKind.i64.wrap ((k : Int) + 1) = (k : Int) + 1 := by rw [wrap_i64] <;> omega
      have hrow := rowP hlt
      have hH := gHas (boxP qs[k]) p
      have hb3' := fun L => getA (L := L) hb3
      have hbq := appL (H := H3) (b := .cells [.v (.sc (.int .i64 qs[k].x0)), .v (.sc (.int .i64 qs[k].y0)), .v (.sc (.int .i64 qs[k].x1)), .v (.sc (.int .i64 qs[k].y1)), .v (.sc (.int .i64 qs[k].z))])
      unfold Re.v Re.cs Pt.v Pt.cs at hH
      unfold ptB2 at hb3'
      simp [slP, hlt, hrow, setL, hb3', hbq]
      refine callK.pure hH rfl rfl ?_
      cases e1 : hasR (boxP qs[k]) p with
      | true =>
        have hz : zoomP qs p = qs[k].z := by
          unfold zoomP
          rw [find_take hlt hno e1]
        simp [hbq, hz]
        exact hK.app
      | false =>
        simp [w1]
        refine ⟨_, ?_, ⟨take_no hno hlt e1, hK.app, hb3' _⟩, rfl⟩
        simp [subW, weakV, getF, slP]
    · have hk' : k = qs.length := by omega
      subst hk'
      rw [List.take_length] at hno
      have hz : zoomP qs p = 0 := by
        unfold zoomP
        rw [find_no hno]
      simp [slP, hz]
      exact hK
end Go.Proofs.Ytmkeeghjpdnknaa
namespace Go.Proofs.Ytmkeeghjpdnknaa
set_option linter.all false
open Go.RowKit AM Can
set_option maxRecDepth 10000
attribute [local simp] aw_skip' aw_region' aw_seq' aw_cond' aw_block' aw_loop' aw_exit' aw_label' aw_ret' aops_nil' aops_cons' aop' aMove aAssign aPick aAlloc aBox aBuild slF aBuildSlice aLoad aLoadOwn aStore aStoreOwn isOwn delR aNilCheck aBin aMakeFunc aFieldAddr aField aIndexAddr aExtract aSliceOp aSlice aCallOp aCall' aLen aLenMap aDelete aMM aUn aConv aIface aAssert aMakeMap aLookup aMapUpdate aRange aNext aEntry entsOf keyB seekK aMakeSlice lookV aAppend putK layK eval evalV AM.valOf getF putF setF del SV.refers cellsAt rootSV plains shift ldV V.exact V.exactL V.ofValue V.ofPart V.ofCell V.cells V.one Value.oneCell' fitB qSeq qBlock getB afin aret resVs resV resTmps shareF evalS tupV valsS valsV pickV calm calmB lenV useOf feeds looks isT newsV partsV fillV putAt zerosV fitsNil nilB sliceB isEq isNeq awx_skip' awx_region' awx_seq' awx_cond' awx_block' awx_loop' awx_exit' awx_label' awx_ret' xops_nil' xops_cons' xop' xload xcall' addO delO inO putD memB Mix.effB Mix.laysB keysF badK subW weakV zeroRow yops_nil' yops_cons' yop' yload yindex yfield ylen oldO dropO takeO oldL exactB
attribute [local simp] awz_skip' awz_region' awz_seq' awz_cond' awz_block' awz_loop' awz_exit' awz_label' awz_ret' zops_nil' zops_cons' zop' zload zcall' z0 new0 remF old0 dltB

def reB (r : Re) : Bk := .cells [.v (.sc (.int .i64 r.x0)), .v (.sc (.int .i64 r.y0)), .v (.sc (.int .i64 r.x1)), .v (.sc (.int .i64 r.y1))]
def ofS (r : Re) (s : Int × Int) (q : Rc Int) : Int × Int := if meetsR (boxP q) r then (IntKind.u64.wrap (s.1 - areaR (meetB (boxP q) r)), if q.z < s.2 then q.z else s.2) else s
/-- The zoom of a rectangle, by patches. -/
def ofP (qs : List (Rc Int)) (r : Re) : Int := if 0 < (qs.foldl (ofS r) ((areaR r : Nat), 16)).1 then 0 else (qs.foldl (ofS r) ((areaR r : Nat), 16)).2
def OfI (l : List Ru) (qs : List (Rc Int)) (r : Re) (b : Nat) (t m : Nat) (H0 : List Bk) (k : Nat) (F : Fr) (H : List Bk) : Prop := (Kept l t m H0 H ∧ H[b]? = some (reB r)) ∧
  F = [(9, .v (.ptr b 0)), (11, .v (.sc (.int .u64 ((qs.take k).foldl (ofS r) ((areaR r : Nat), 16)).1))), (12, .v (.sc (.int .i64 ((qs.take k).foldl (ofS r) ((areaR r : Nat), 16)).2))), (38, .v (slP qs)), (39, .v (.sc (.int .i64 qs.length))), (40, .v (.sc (.int .i64 k)))]
theorem setL2 {H : List Bk} {b : Bk} {xs : List SV} {ys : List V} (h : xs.length = ys.length) : setCells (H ++ [b, .cells xs]) (H.length + 1) 0 ys = H ++ [b, .cells (ys.map .v)] := by
  have := setL (H := H ++ [b]) h
  simpa using this
set_option maxHeartbeats 4000000 in
theorem gOf (l : List Ru) (ro ti la : Int) (r : Re) (hl : l.length ≤ 1000000) (hn : (boxesU l).length ≤ 1048576) (t m : Nat) (es : List (Value × V)) (H : List Bk) (hT : Tab H t m l es) (hM : Memo l es) :
    AFn Try.prog 16 [.ptr t 0, .sc (.int .i64 ro), .sc (.int .i64 ti), .sc (.int .i64 la), r.v] H fun y H' => y = .sc (.int .i64 (if numsU ro ti la && rightR r then ofP (patF l ro ti la) r else 0)) ∧ Kept l t m H H' := by
  have hTm := (List.getElem?_eq_some_iff.1 hT.m).1
  have hT1 := hT.stays (.app (L := [reB r]))
  have hb1 := appL (H := H) (b := reB r)
  have h1 := gmade t m l es _ hT1
  have h2 := gright' ro ti la
  have h3 := gpatches l ro ti la hl hn t m es _ hT1 hM
  have hR := gRight r
  have hA := gArea r
  have hq := patF_len l ro ti la
  unfold reB at h1 h3
  unfold Re.v Re.cs at hR hA ⊢
  refine AFn.intro (fn := Try.f16) (by kernel_rfl) rfl (by kernel_rfl) (by simp) (AW.ofx [] mixed (by kernel_rfl) ?_)
  simp only [Try.f16, argsF]
  simp
  refine callK.of h1 ?_
  rintro y H1 ⟨rfl, rfl⟩
  simp
  refine callK.pure h2 rfl rfl ?_
  cases e : numsU ro ti la with
  | false =>
    simp
    exact ⟨⟨es, hT1, hM⟩, .app⟩
  | true =>
    simp
    refine callK.pure hR rfl rfl ?_
    cases e2 : rightR r with
    | false =>
      simp
      exact ⟨⟨es, hT1, hM⟩, .app⟩
    | true =>
      simp
      refine callK.pure hA rfl rfl ?_
      simp
      refine callK.of h3 ?_
      rintro y H2 ⟨rfl, es', hT', hM', hs⟩
      have hb2 := hs.cells (by omega) hb1
      generalize patF l ro ti la = qs at *
      simp [slP]
      refine AW.count qs.length (OfI l qs r H.length t m H) ⟨_, ?_, ⟨⟨⟨es', hT', hM'⟩, StaysBut.trans .app hs⟩, hb2⟩, rfl⟩ ?_
      · simp [subW, weakV, getF, slP]
      rintro k F H3 hk ⟨⟨hK, hb3⟩, rfl⟩
      refine AW.ofx [] mixed (by kernel_rfl) ?_
      by_cases hlt : k < qs.length
      · have w1 : IntKind.i64.wrap ((k : Int) + 1) = (k : Int) + 1 := by rw [wrap_i64] <;> omega
        have hrow := rowP hlt
        have hst := foldl_take_succ' (f := ofS r) (b := (((areaR r : Nat) : Int), (16 : Int))) (xs := qs) (k := k) hlt
        have hH := gMeet (boxP qs[k]) r
        have hB := gArea (meetB (boxP qs[k]) r)
        have hb3' := fun L => getA (L := L) hb3
        have hbq := appL (H := H3) (b := .cells [.v (.sc (.int .i64 qs[k].x0)), .v (.sc (.int .i64 qs[k].y0)), .v (.sc (.int .i64 qs[k].x1)), .v (.sc (.int .i64 qs[k].y1)), .v (.sc (.int .i64 qs[k].z))])
        generalize hgs : (qs.take k).foldl (ofS r) (((areaR r : Nat) : Int), (16 : Int)) = s at *
        unfold meetV meetP Re.v Re.cs at hH
        unfold Re.v Re.cs at hB
        unfold reB at hb3'
        cases e3 : meetsR (boxP qs[k]) r with
        | true =>
          have e1 : ofS r s qs[k] = (IntKind.u64.wrap (s.1 - areaR (meetB (boxP qs[k]) r)), if qs[k].z < s.2 then qs[k].z else s.2) := by simp [ofS, e3]
          rw [e1] at hst
          rw [e3, if_pos rfl] at hH
          have hbx := appL (H := H3 ++ [.cells [.v (.sc (.int .i64 qs[k].x0)), .v (.sc (.int .i64 qs[k].y0)), .v (.sc (.int .i64 qs[k].x1)), .v (.sc (.int .i64 qs[k].y1)), .v (.sc (.int .i64 qs[k].z))]]) (b := reB (meetB (boxP qs[k]) r))
          have hbq2 := fun L => getA (L := L) hbq
          unfold reB at hbx
          simp [slP, hlt, hrow, setL, hb3', hbq]
          refine callK.pure hH rfl rfl ?_
          simp [setL, setL2]
          refine callK.pure hB rfl rfl ?_
          simp [w1]
          refine ⟨_, ?_, ⟨hK.app, hb3' _⟩, rfl⟩
          rw [hst]
          simp [subW, weakV, getF, slP]
        | false =>
          have e1 : ofS r s qs[k] = s := by simp [ofS, e3]
          rw [e1] at hst
          rw [e3, if_neg (by decide)] at hH
          simp [slP, hlt, hrow, setL, hb3', hbq]
          refine callK.pure hH rfl rfl ?_
          simp [setL, setL2, w1]
          refine ⟨_, ?_, ⟨hK.app, hb3' _⟩, rfl⟩
          rw [hst]
          simp [subW, weakV, getF, slP]
      · have hk' : k = qs.length := by omega
        subst hk'
        simp [slP]
        unfold ofP
        generalize qs.foldl (ofS r) ((areaR r : Nat), 16) = s at *
        by_cases h0 : 0 < s.1
        · simp [gd, h0]
          exact hK
        · simp [gd, h0]
          exact hK
/-! ## Which zooms there are -/
def levG (l : List Ru) (ro ti : Int) (n : Nat) : List Int := (List.range n).flatMap fun la : Nat => (patF l ro ti la).map (·.z)
theorem levG_len (l : List Ru) (ro ti : Int) : ∀ n, (levG l ro ti n).length ≤ n * 5000000000
  | 0 => by simp [levG]
  | n + 1 => by
    have h1 := levG_len l ro ti n
    have h2 := patF_len l ro ti n
    have e : levG l ro ti (n + 1) = levG l ro ti n ++ (patF l ro ti n).map (·.z) := by simp [levG, List.range_succ]
    rw [e, List.length_append, List.length_map]
    omega
theorem levG_succ (l : List Ru) (ro ti : Int) (n : Nat) : levG l ro ti (n + 1) = levG l ro ti n ++ (patF l ro ti n).map (·.z) := by simp [levG, List.range_succ]
def LvI (l : List Ru) (ro ti : Int) (t m : Nat) (H0 : List Bk) (n : Nat) (F : Fr) (H : List Bk) : Prop := Kept l t m H0 H ∧
  F = [(0, .v (.ptr t 0)), (1, .v (.sc (.int .i64 ro))), (2, .v (.sc (.int .i64 ti))), (7, ownI (levG l ro ti n)), (20, .v (.sc (.int .i64 n)))]
def LwI (l : List Ru) (ro ti : Int) (t m : Nat) (H0 : List Bk) (n : Nat) (qs : List (Rc Int)) (k : Nat) (F : Fr) (H : List Bk) : Prop := Kept l t m H0 H ∧
  F = [(0, .v (.ptr t 0)), (1, .v (.sc (.int .i64 ro))), (2, .v (.sc (.int .i64 ti))), (7, ownI (levG l ro ti n ++ (qs.take k).map (·.z))), (20, .v (.sc (.int .i64 n))), (27, .v (slP qs)), (28, .v (.sc (.int .i64 qs.length))), (29, .v (.sc (.int .i64 k)))]
set_option maxHeartbeats 4000000 in
theorem gLevels (l : List Ru) (ro ti : Int) (hl : l.length ≤ 1000000) (hn : (boxesU l).length ≤ 1048576) (t m : Nat) (es : List (Value × V)) (H : List Bk) (hT : Tab H t m l es) (hM : Memo l es) :
    AFn Try.prog 24 [.ptr t 0, .sc (.int .i64 ro), .sc (.int .i64 ti)] H fun y H' => y = slI (if numsU ro ti 0 then numsC (levG l ro ti 8) else []) ∧ Kept l t m H H' := by
  have h1 := gmade t m l es H hT
  have h2 := gright' ro ti 0
  suffices h : AFn Try.prog 24 [.ptr t 0, .sc (.int .i64 ro), .sc (.int .i64 ti)] H fun y H' => (if numsU ro ti 0 then y = slI (numsC (levG l ro ti 8)) else y = .nil) ∧ Kept l t m H H' by
    refine h.conv fun y H' ⟨hy, hk⟩ => ⟨_, ⟨rfl, hk⟩, fun I φ v hv => ?_⟩
    cases e : numsU ro ti 0 with
    | false =>
      rw [e] at hy
      simp at hy
      subst hy
      exact rel_nil_row hv
    | true =>
      rw [e] at hy
      simp at hy
      subst hy
      exact hv
  refine AFn.intro (fn := Try.f24) (by kernel_rfl) rfl (by kernel_rfl) (by simp) ?_
  simp only [Try.f24, argsF]
  refine AW.seq (AW.ofx [] mixed (by kernel_rfl) ?_)
  simp
  refine AW.seq (AW.ofx [] mixed (by kernel_rfl) ?_)
  simp
  refine AW.seq (AW.ofx [] mixed (by kernel_rfl) ?_)
  simp
  refine callK.of h1 ?_
  rintro y H1 ⟨rfl, rfl⟩
  simp
  refine callK.pure h2 rfl rfl ?_
  cases e : numsU ro ti 0 with
  | false =>
    simp
    exact ⟨⟨es, hT, hM⟩, .refl⟩
  | true =>
    simp
    refine AW.seq (AW.ofx [] mixed (by kernel_rfl) ?_)
    simp
    refine AW.count 8 (LvI l ro ti t m H1) ⟨_, ?_, ⟨⟨es, hT, hM⟩, .refl⟩, rfl⟩ ?_
    · simp [subW, weakV, getF, levG, ownI, zeroRow, ints]
    rintro n F H2 hn8 ⟨hK, rfl⟩
    refine AW.ofx [] mixed (by kernel_rfl) ?_
    by_cases hlt : n < 8
    · have w1 : IntKind.i64.wrap ((n : Int) + 1) = (n : Int) + 1 := by rw [wrap_i64] <;> omega
      have hlt' : (n : Int) < 8 := by omega
      obtain ⟨⟨es2, hT2, hM2⟩, hs2⟩ := hK
      have h3 := gpatches l ro ti n hl hn t m es2 H2 hT2 hM2
      have hq := patF_len l ro ti n
      have hll := levG_len l ro ti n
      have hsu := levG_succ l ro ti n
      have hcl := slP_closed (patF l ro ti n)
      simp [hlt', ownI]
      refine callK.of h3 ?_
      rintro y H3 ⟨rfl, es3, hT3, hM3, hs3⟩
      generalize patF l ro ti n = qs at *
      simp [slP]
      refine AW.count qs.length (LwI l ro ti t m H1 n qs) ⟨_, ?_, ⟨⟨es3, hT3, hM3⟩, hs2.trans hs3⟩, rfl⟩ ?_
      · simp [subW, weakV, getF, slP, ownI]
      rintro k F H4 hk ⟨hK4, rfl⟩
      refine AW.ofx [] mixed (by kernel_rfl) ?_
      by_cases hkl : k < qs.length
      · have w2 : IntKind.i64.wrap ((k : Int) + 1) = (k : Int) + 1 := by rw [wrap_i64] <;> omega
        have hrow := rowP hkl
        have hbq := appL (H := H4) (b := .cells [.v (.sc (.int .i64 qs[k].x0)), .v (.sc (.int .i64 qs[k].y0)), .v (.sc (.int .i64 qs[k].x1)), .v (.sc (.int .i64 qs[k].y1)), .v (.sc (.int .i64 qs[k].z))])
        have hst : levG l ro ti n ++ (qs.take (k + 1)).map (·.z) = levG l ro ti n ++ (qs.take k).map (·.z) ++ [qs[k].z] := by rw [List.take_succ_eq_append_getElem hkl, List.map_append, ← List.append_assoc]; rfl
        have hlo : (levG l ro ti n ++ (qs.take k).map (·.z)).length ≤ 50000000000 := by
          rw [List.length_append, List.length_map, List.length_take]
          omega
        generalize hgo : levG l ro ti n ++ (qs.take k).map (·.z) = o at *
        simp [slP, hkl, hrow, setL, hbq, ownI, w2]
        refine ⟨by omega, _, ?_, hK4.app, rfl⟩
        rw [hst]
        simp [subW, weakV, getF, slP, ownI, ints]
      · have hk' : k = qs.length := by omega
        subst hk'
        rw [List.take_length, ← hsu]
        simp [slP, w1, ownI]
        refine ⟨by omega, _, ?_, hK4, rfl⟩
        simp [subW, weakV, getF, ownI]
    · have hk' : n = 8 := by omega
      subst hk'
      have hz := levG_len l ro ti 8
      simp [ownI]
      generalize levG l ro ti 8 = zs at *
      refine AW.seq (AW.rowCall (u := 7) (e := 3) (sz := 1) (n := zs.length) (zs := zs) (xs := []) sortI ⟨_, Try.func48, rfl, by kernel_rfl⟩ (fun x v hv => by simp at hv; subst hv; rfl) rfl rfl rfl rfl rfl rfl (fun a => rfl) rfl rfl (by decide) (by decide) (by decide) (by decide) (by simp [getF, scs_int]) rfl rfl (by omega) ?_)
      rintro ys rfl hyl
      rw [scs_int]
      have hN : numsC zs = Go.Lib.compact (sorted' zs) := rfl
      rw [← hyl]
      rw [hN]
      generalize sorted' zs = qs at *
      simp
      refine AW.seq (AW.rowBack (u := 7) (e := 3) (sz := 1) (n := qs.length) (zs := qs) (xs := []) compactI ⟨_, Try.func49, rfl, by kernel_rfl⟩ (fun x v hv => by simp at hv; subst hv; rfl) rfl rfl rfl rfl rfl rfl (fun a => rfl) rfl rfl (by decide) (by decide) (by decide) (by simp [getF, scs_int]) rfl (by omega) ?_)
      rintro ys rfl
      rw [scs_int]
      generalize Go.Lib.compact qs = rs at *
      simp
      refine AW.ofx [] mixed (by kernel_rfl) ?_
      simp [slI]
      exact hK
/-! ## Who may cloak -/
theorem gCloaks (l : List Ru) (ro : Int) (hl : l.length ≤ 1000000) (hb : ∀ r ∈ l, r.boxes.length ≤ 9223372036854775807) (t m : Nat) (es : List (Value × V)) (H : List Bk) (hT : Tab H t m l es) (hM : Memo l es) :
    AFn Try.prog 28 [.ptr t 0, .sc (.int .i64 ro)] H fun y H' => y = .sc (.bool (cloaksU l ro)) ∧ Kept l t m H H' := by
  have h1 := gmade t m l es H hT
  have h2 := ucloaks l ro (by omega) hb
  have ht := hT.t
  have c1 := slU_closed l
  refine AFn.intro (fn := Try.f28) (by kernel_rfl) rfl (by kernel_rfl) (by simp) (AW.ofx [] mixed (by kernel_rfl) ?_)
  simp only [Try.f28, argsF]
  simp
  refine callK.of h1 ?_
  rintro y H1 ⟨rfl, rfl⟩
  simp [ht]
  refine callK.pure h2 (by simp [V.closedL, c1, V.closed]) rfl ?_
  simp
  exact ⟨⟨es, hT, hM⟩, .refl⟩
/-! ## A table that is not there -/
theorem gPatchesN (ro ti la : Int) : PFn Try.prog 13 [.sc (.pointer none), .sc (.int .i64 ro), .sc (.int .i64 ti), .sc (.int .i64 la)] .nil := by
  have h1 := gmadeN
  refine AFn.intro (fn := Try.f13) (by kernel_rfl) rfl (by kernel_rfl) (by simp) (AW.ofx [] mixed (by kernel_rfl) ?_)
  simp only [Try.f13, argsF]
  simp
  refine callK.pure h1 rfl rfl ?_
  simp
theorem gLevelsN (ro ti : Int) : PFn Try.prog 24 [.sc (.pointer none), .sc (.int .i64 ro), .sc (.int .i64 ti)] .nil := by
  have h1 := gmadeN
  refine AFn.intro (fn := Try.f24) (by kernel_rfl) rfl (by kernel_rfl) (by simp) (AW.ofx [] mixed (by kernel_rfl) ?_)
  simp only [Try.f24, argsF]
  simp
  refine callK.pure h1 rfl rfl ?_
  simp
theorem gZoomN (ro ti la : Int) (p : Pt) : PFn Try.prog 19 [.sc (.pointer none), .sc (.int .i64 ro), .sc (.int .i64 ti), .sc (.int .i64 la), p.v] (.sc (.int .i64 0)) := by
  have h1 := gmadeN
  unfold Pt.v Pt.cs
  refine AFn.intro (fn := Try.f19) (by kernel_rfl) rfl (by kernel_rfl) (by simp) (AW.ofx [] mixed (by kernel_rfl) ?_)
  simp only [Try.f19, argsF]
  simp
  refine callK.pure h1 rfl rfl ?_
  simp
theorem gOfN (ro ti la : Int) (r : Re) : PFn Try.prog 16 [.sc (.pointer none), .sc (.int .i64 ro), .sc (.int .i64 ti), .sc (.int .i64 la), r.v] (.sc (.int .i64 0)) := by
  have h1 := gmadeN
  unfold Re.v Re.cs
  refine AFn.intro (fn := Try.f16) (by kernel_rfl) rfl (by kernel_rfl) (by simp) (AW.ofx [] mixed (by kernel_rfl) ?_)
  simp only [Try.f16, argsF]
  simp
  refine callK.pure h1 rfl rfl ?_
  simp
theorem gCloaksN (ro : Int) : PFn Try.prog 28 [.sc (.pointer none), .sc (.int .i64 ro)] (.sc (.bool false)) := by
  have h1 := gmadeN
  refine AFn.intro (fn := Try.f28) (by kernel_rfl) rfl (by kernel_rfl) (by simp) (AW.ofx [] mixed (by kernel_rfl) ?_)
  simp only [Try.f28, argsF]
  simp
  refine callK.pure h1 rfl rfl ?_
  simp
end Go.Proofs.Ytmkeeghjpdnknaa
