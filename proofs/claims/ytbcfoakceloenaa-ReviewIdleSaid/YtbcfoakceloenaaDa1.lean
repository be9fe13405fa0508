/- Review: zooms by rules, whose they are, and a new row that a library function lays, by the program. -/
import Derived.Test.YtbcfoakceloenaaKn1
import Derived.Test.YtbcfoakceloenaaBg
import Derived.Test.YtbcfoakceloenaaBa
import Derived.Lib.AppendZeros
namespace Go.Proofs.Ytbcfoakceloenaa
set_option linter.all false
open Go.RowKit AM Can
set_option maxRecDepth 10000
attribute [local simp] aw_skip' aw_region' aw_seq' aw_cond' aw_block' aw_loop' aw_exit' aw_label' aw_ret' aops_nil' aops_cons' aop' aMove aAssign aPick aAlloc aBox aBuild slF aBuildSlice aLoad aLoadOwn aStore aStoreOwn isOwn delR aNilCheck aBin aMakeFunc aFieldAddr aField aIndexAddr aExtract aSliceOp aSlice aCallOp aCall' aLen aLenMap aDelete aMM aUn aConv aIface aAssert aMakeMap aLookup aMapUpdate aRange aNext aEntry entsOf keyB seekK aMakeSlice lookV aAppend putK layK eval evalV AM.valOf getF putF setF del SV.refers cellsAt rootSV plains shift ldV V.exact V.exactL V.ofValue V.ofPart V.ofCell V.cells V.one Value.oneCell' fitB qSeq qBlock getB afin aret resVs resV resTmps shareF evalS tupV valsS valsV pickV calm calmB lenV useOf feeds looks isT newsV partsV fillV putAt zerosV fitsNil nilB sliceB isEq isNeq awx_skip' awx_region' awx_seq' awx_cond' awx_block' awx_loop' awx_exit' awx_label' awx_ret' xops_nil' xops_cons' xop' xload xcall' addO delO inO putD memB Mix.effB Mix.laysB keysF badK subW weakV zeroRow yops_nil' yops_cons' yop' yload yindex yfield ylen oldO dropO takeO oldL exactB
attribute [local simp] awz_skip' awz_region' awz_seq' awz_cond' awz_block' awz_loop' awz_exit' awz_label' awz_ret' zops_nil' zops_cons' zop' zload zloadOwn zcall' z0 new0 remF old0 dltB

structure Wo where
  ro : Int
  ti : Int
  la : Int
def Wo.cs (w : Wo) : List V := [.sc (.int .i64 w.ro), .sc (.int .i64 w.ti), .sc (.int .i64 w.la)]
def Wo.v (w : Wo) : V := .agg w.cs
def woB (w : Wo) : Bk := .cells [.v (.sc (.int .i64 w.ro)), .v (.sc (.int .i64 w.ti)), .v (.sc (.int .i64 w.la))]
theorem keepS1 (x y : Bk) : keepS [x] [x, y] = True := keepS_app (H := [x]) (L := [y])
theorem keepS2 (x y z : Bk) : keepS [x, y] [x, y, z] = True := keepS_app (H := [x, y]) (L := [z])
def reB1 (r : Re) : Bk := .cells [.v (.sc (.int .i64 r.x0)), .v (.sc (.int .i64 r.y0)), .v (.sc (.int .i64 r.x1)), .v (.sc (.int .i64 r.y1))]

def UhI (p : Pt) (l : List Re) (k : Nat) (F : Fr) (H : List Bk) : Prop := (∀ b ∈ l.take k, hasR b p = false) ∧ Stays [ptB2 p] H ∧ F = [(3, .v (.ptr 0 0)), (7, .v (slR l)), (8, .v (.sc (.int .i64 l.length))), (9, .v (.sc (.int .i64 k)))]
theorem uhas (l : List Re) (p : Pt) (hl : l.length ≤ 9223372036854775807) : PFn Try.prog 101 [slR l, p.v] (.sc (.bool (hasB l p))) := by
  have hH := fun b => gHas b p
  unfold Pt.v Pt.cs at hH ⊢
  unfold Re.v Re.cs at hH
  refine AFn.intro (fn := Try.f101) (by kernel_rfl) rfl (by kernel_rfl) (by simp) (AW.ofx [] mixed (by kernel_rfl) ?_)
  simp only [Try.f101, argsF]
  simp [slR]
  refine AW.count l.length (UhI p l) ⟨_, ?_, by simp, .refl, rfl⟩ ?_
  · simp [subW, weakV, getF, slR]
  rintro k F H hk ⟨ht, hs, rfl⟩
  refine AW.ofx [] mixed (by kernel_rfl) ?_
  have h0 : H[0]? = some (ptB2 p) := hs.cells rfl
  unfold ptB2 at h0
  by_cases hlt : k < l.length
  · have w1 : IntKind.i64.wrap ((k : Int) + 1) = (k : Int) + 1 := by rw [wrap_i64] <;> omega
    have hrow := rowR hlt
    have hb := appL (H := H) (b := reB1 l[k])
    have h0' := getA (L := [reB1 l[k]]) h0
    have hs' := hs.append (L := [reB1 l[k]])
    unfold reB1 at hb h0' hs'
    have h0e := fun h => (List.getElem_eq_iff (i := 0) h).2 h0'
    simp [slR, hlt, hrow, setL, hb, h0', h0e]
    refine callK.pure (hH l[k]) rfl rfl ?_
    cases e : hasR l[k] p with
    | true =>
      have e2 : hasB l p = true := List.any_eq_true.2 ⟨_, List.getElem_mem hlt, e⟩
      simp [e2]
    | false =>
      simp [slR, w1]
      refine ⟨_, ?_, ?_, hs', rfl⟩
      · simp [subW, weakV, getF, slR]
      · rw [List.take_succ_eq_append_getElem hlt]
        intro b hb
        rcases List.mem_append.1 hb with hb | hb
        · exact ht b hb
        · simp at hb; subst hb; exact e
  · have hk' : k = l.length := by omega
    subst hk'
    rw [List.take_length] at ht
    have e2 : hasB l p = false := any_no ht
    simp [slR, e2]
def UzI (l : List Ru) (w : Wo) (p : Pt) (k : Nat) (F : Fr) (H : List Bk) : Prop := Stays [ptB2 p] H ∧ F = [(1, .v (.sc (.int .i64 w.ro))), (2, .v (.sc (.int .i64 w.ti))), (3, .v (.sc (.int .i64 w.la))), (9, .v (.ptr 0 0)), (11, .v (.sc (.int .i64 ((l.take k).foldl (zoomS (for2U w.ro w.ti w.la p)) (0, 16)).1))), (12, .v (.sc (.int .i64 ((l.take k).foldl (zoomS (for2U w.ro w.ti w.la p)) (0, 16)).2))), (18, .v (slU l)), (19, .v (.sc (.int .i64 l.length))), (20, .v (.sc (.int .i64 k)))]
set_option maxHeartbeats 4000000 in
theorem uzoom (l : List Ru) (w : Wo) (p : Pt) (hl : l.length ≤ 9223372036854775807) (hb : ∀ r ∈ l, r.boxes.length ≤ 9223372036854775807) : PFn Try.prog 87 [slU l, .sc (.int .i64 w.ro), .sc (.int .i64 w.ti), .sc (.int .i64 w.la), p.v] (.sc (.int .i64 (zoomR l w.ro w.ti w.la p))) := by
  have hA := uRight l hl hb
  have c1 := slU_closed l
  have hF := fun r h => ufor r w.ro w.ti w.la (hb r h)
  have hH := fun r h => uhas r.boxes p (hb r h)
  unfold Pt.v Pt.cs at hH ⊢
  unfold Ru.v Ru.cs at hF
  cases ha : l.all ruRight with
  | false =>
    rw [ha] at hA
    have e : zoomR l w.ro w.ti w.la p = 0 := by unfold zoomR; rw [ha]; rfl
    rw [e]
    refine AFn.intro (fn := Try.f87) (by kernel_rfl) rfl (by kernel_rfl) (by simp) (AW.ofx [] mixed (by kernel_rfl) ?_)
    simp only [Try.f87, argsF]
    simp
    refine callK.pure hA (by simp [V.closedL, c1]) rfl ?_
    simp
  | true =>
    rw [ha] at hA
    rw [zoomR_L ha]
    refine AFn.intro (fn := Try.f87) (by kernel_rfl) rfl (by kernel_rfl) (by simp) (AW.ofx [] mixed (by kernel_rfl) ?_)
    simp only [Try.f87, argsF]
    simp
    refine callK.pure hA (by simp [V.closedL, c1]) rfl ?_
    simp [slU]
    refine AW.count l.length (UzI l w p) ⟨_, ?_, .refl, rfl⟩ ?_
    · simp [subW, weakV, getF, slU]
    rintro k F H hk ⟨hs, rfl⟩
    refine AW.ofx [] mixed (by kernel_rfl) ?_
    have h0 : H[0]? = some (ptB2 p) := hs.cells rfl
    unfold ptB2 at h0
    have hst := fun h => foldl_take_succ' (f := zoomS (for2U w.ro w.ti w.la p)) (b := ((0 : Int), (16 : Int))) (xs := l) (k := k) h
    by_cases hlt : k < l.length
    · have w1 : IntKind.i64.wrap ((k : Int) + 1) = (k : Int) + 1 := by rw [wrap_i64] <;> omega
      have hrow := rowU hlt
      have hst := hst hlt
      have hFk := hF _ (List.getElem_mem hlt)
      have hHk := hH _ (List.getElem_mem hlt)
      have cv : V.closedL [l[k].v] = true := by simp [V.closedL, V.closed, Ru.v, ru_closed]
      generalize hgs : (l.take k).foldl (zoomS (for2U w.ro w.ti w.la p)) (0, 16) = s at *
      have hb2 := appL (H := H) (b := ruB l[k])
      have h0' := getA (L := [ruB l[k]]) h0
      have hs1 := hs.append (L := [ruB l[k]])
      have e2 : for2U w.ro w.ti w.la p l[k] = (forU l[k] w.ro w.ti w.la && hasB l[k].boxes p) := rfl
      unfold ruB slR at hb2 h0' hs1
      have h0e := fun h => (List.getElem_eq_iff (i := 0) h).2 h0'
      unfold slR at hrow hFk hHk
      unfold Ru.v Ru.cs slR at cv
      simp [slU, hlt, hrow, setL, hb2]
      refine callK.pure hFk (by simpa [V.closedL, V.closed] using cv) rfl ?_
      cases e3 : forU l[k] w.ro w.ti w.la with
      | false =>
        have e1 : zoomS (for2U w.ro w.ti w.la p) s l[k] = s := by simp [zoomS, e2, e3]
        rw [e1] at hst
        simp [w1, hlt, slU]
        refine ⟨_, ?_, hs1, rfl⟩
        rw [hst]
        simp [subW, weakV, getF, slU]
      | true =>
        simp [slU, hb2, h0', h0e]
        refine callK.pure hHk (by simpa [V.closedL, V.closed] using cv) rfl ?_
        cases e4 : hasB l[k].boxes p with
        | false =>
          have e1 : zoomS (for2U w.ro w.ti w.la p) s l[k] = s := by simp [zoomS, e2, e3, e4]
          rw [e1] at hst
          simp [w1, hlt, slU]
          refine ⟨_, ?_, hs1, rfl⟩
          rw [hst]
          simp [subW, weakV, getF, slU]
        | true =>
          by_cases h4 : l[k].kind = 4
          · have e1 : zoomS (for2U w.ro w.ti w.la p) s l[k] = (if s.1 < l[k].zoom then l[k].zoom else s.1, s.2) := by
              simp [zoomS, e2, e3, e4, h4]
              split <;> omega
            rw [e1] at hst
            rw [h4] at hs1
            simp [w1, hlt, slU, hb2, h4]
            refine ⟨_, ?_, hs1, rfl⟩
            rw [hst]
            simp [subW, weakV, getF, slU]
          · have n4 : (l[k].kind == 4) = false := by simpa using h4
            have e1 : zoomS (for2U w.ro w.ti w.la p) s l[k] = (s.1, if l[k].zoom < s.2 then l[k].zoom else s.2) := by
              simp [zoomS, e2, e3, e4, h4]
              split <;> omega
            rw [e1] at hst
            simp [w1, hlt, slU, hb2, n4]
            refine ⟨_, ?_, hs1, rfl⟩
            rw [hst]
            simp [subW, weakV, getF, slU]
    · have hk' : k = l.length := by omega
      subst hk'
      simp [slU]
      unfold zoomL
      generalize l.foldl (zoomS (for2U w.ro w.ti w.la p)) (0, 16) = s at *
      split <;> omega
theorem rzoom (l : List Ru) (w : Wo) (p : Pt) (hl : l.length ≤ 9223372036854775807) (hb : ∀ r ∈ l, r.boxes.length ≤ 9223372036854775807) : PFn Try.prog 75 [w.v, slU l, p.v] (.sc (.int .i64 (zoomR l w.ro w.ti w.la p))) := by
  have hZ := uzoom l w p hl hb
  have c1 := slU_closed l
  unfold Pt.v Pt.cs at hZ ⊢
  unfold Wo.v Wo.cs
  refine AFn.intro (fn := Try.f75) (by kernel_rfl) rfl (by kernel_rfl) (by simp) (AW.ofx [] mixed (by kernel_rfl) ?_)
  simp only [Try.f75, argsF]
  simp
  refine callK.pure hZ (by simp [V.closedL, V.closed, c1]) rfl ?_
  simp
theorem rright (w : Wo) : PFn Try.prog 29 [w.v] (.sc (.bool (numsU w.ro w.ti w.la))) := by
  unfold Wo.v Wo.cs
  refine AFn.intro (fn := Try.f29) (by kernel_rfl) rfl (by kernel_rfl) (by simp) (AW.ofx [] mixed (by kernel_rfl) ?_)
  simp only [Try.f29, argsF]
  simp
  simp [gd, numsU, smallN]
  grind
def MiI (l : List Ru) (w : Wo) (k : Nat) (F : Fr) (H : List Bk) : Prop := Stays [woB w] H ∧ F = [(2, .v (.ptr 0 0)), (5, ownU ((l.take k).filter fun r => forU r w.ro w.ti w.la)), (8, .v (slU l)), (9, .v (.sc (.int .i64 l.length))), (10, .v (.sc (.int .i64 k)))]
set_option maxHeartbeats 4000000 in
theorem rmine (l : List Ru) (w : Wo) (hl : l.length ≤ 1000000) (hb : ∀ r ∈ l, r.boxes.length ≤ 9223372036854775807) : PFn Try.prog 54 [w.v, slU l] (slU (forL l w.ro w.ti w.la)) := by
  have hF := fun r h => ufor r w.ro w.ti w.la (hb r h)
  unfold Ru.v Ru.cs at hF
  unfold Wo.v Wo.cs
  refine AFn.intro (fn := Try.f54) (by kernel_rfl) rfl (by kernel_rfl) (by simp) (AW.ofx [] mixed (by kernel_rfl) ?_)
  simp only [Try.f54, argsF]
  simp [slU]
  refine AW.count l.length (MiI l w) ⟨_, ?_, .refl, rfl⟩ ?_
  · simp [subW, weakV, getF, slU, ownU, zeroRow]
  rintro k F H hk ⟨hs, rfl⟩
  refine AW.ofx [] mixed (by kernel_rfl) ?_
  have h0 : H[0]? = some (woB w) := hs.cells rfl
  unfold woB at h0
  by_cases hlt : k < l.length
  · have w1 : IntKind.i64.wrap ((k : Int) + 1) = (k : Int) + 1 := by rw [wrap_i64] <;> omega
    have hrow := rowU hlt
    have hFk := hF _ (List.getElem_mem hlt)
    have hsc := filter_succ (q := fun r => forU r w.ro w.ti w.la) hlt
    have cv : V.closedL [l[k].v] = true := by simp [V.closedL, V.closed, Ru.v, ru_closed]
    have hfl : ((l.take k).filter fun r => forU r w.ro w.ti w.la).length ≤ 1000000 := by
      have h1 := List.length_filter_le (fun r => forU r w.ro w.ti w.la) (l.take k)
      rw [List.length_take] at h1
      omega
    generalize (l.take k).filter (fun r => forU r w.ro w.ti w.la) = ms at *
    have hb2 := appL (H := H) (b := ruB l[k])
    have h0' := getA (L := [ruB l[k]]) h0
    have hs1 := hs.append (L := [ruB l[k]])
    unfold ruB slR at hb2 h0' hs1
    have h0e := fun h => (List.getElem_eq_iff (i := 0) h).2 h0'
    unfold slR at hrow hFk
    unfold Ru.v Ru.cs slR at cv
    simp [slU, hlt, hrow, setL, hb2, h0', h0e, ownU]
    refine callK.pure hFk (by simpa [V.closedL, V.closed] using cv) rfl ?_
    cases hq : forU l[k] w.ro w.ti w.la with
    | true =>
      simp [slU, ownU, w1, hb2]
      refine ⟨by omega, _, ?_, hs1, rfl⟩
      rw [hsc, if_pos hq]
      simp [subW, weakV, getF, slU, ownU, Ru.cs, slR]
    | false =>
      simp [slU, ownU, w1]
      refine ⟨_, ?_, hs1, rfl⟩
      rw [hsc, if_neg (by rw [hq]; decide)]
      simp [subW, weakV, getF, slU, ownU]
  · have hk' : k = l.length := by omega
    subst hk'
    rw [List.take_length]
    simp [slU, ownU, forL]
end Go.Proofs.Ytbcfoakceloenaa
namespace Go.Proofs.Ytbcfoakceloenaa
set_option linter.all false
open Go.RowKit
namespace AM
section
variable {P : Program} {N : Nat} {id : Nat} {ops : Array Oper} {Q : Exit → St → Prop} {F : Fr} {H : List Bk} {f : FuncId} {e sz n : Nat} {o1 o2 : Oper} {rest : List Oper} {t u d : Nat} {args : Array Operand} {ts : Array TypeId}
/-- A function that lays a new row with room for n. -/
def NewFn (P : Program) (f : FuncId) (e sz n : Nat) : Prop := ∀ w : World, Calls P f #[.slice none 0 0, .int .i64 n] w fun e' w' => (e' = .returned (.slice none 0 0) ∧ Go.RowKit.Below w.heap.size w w') ∨
  ∃ cap arr, e' = .returned (.slice (some ⟨w.heap.size, 0, none⟩) 0 cap) ∧ w' = w.drew.alloc (.cells arr e) ∧ cap ≤ maxLen ∧ arr.size = cap * sz ∧ ∀ v ∈ arr.toList, v.oneCell' = true
theorem AW.newRow (hf : NewFn P f e sz n) (hen : Enters P f) (h0 : 0 < sz)
    (hops : ops.toList = o1 :: o2 :: rest) (h1 : o1.op = .move (.tmp u)) (hd1 : o1.dst = some t) (hg1 : o1.guard = none) (h2 : o2.op = .call { callee := .value (.func f), args := #[.const (.slice none 0 0), .tmp t], argTypes := ts }) (hd2 : o2.dst = some d) (hg2 : o2.guard = none)
    (ht : t < N) (hd : d < N) (hF : getF u F = some (.v (.sc (.int .i64 n))))
    (hQ : aops P N ops.toList rest (Q .normal) ⟨putF d (.own true e 0 sz []) (putF t (.v (.sc (.int .i64 n))) F), H⟩) : AW P N (.region id ops false) Q ⟨F, H⟩ := fun c a w hs => by
  obtain ⟨v, hv, hr⟩ := hs.fr u _ (mem_getF hF)
  have ev : v = .int .i64 n := Rel.exact hr rfl
  subst ev
  have s1 := hs.put (t := t) (x := .v (.sc (.int .i64 n))) (v := .int .i64 n) ht trivial (Rel.sc _)
  have e1 : a.eval (.tmp u) = .int .i64 n := by simp [Act.eval, hv]
  have hts : t < a.tmps.size := by rw [hs.size]; exact ht
  have e2 : (a.put (some t) (.int .i64 n)).eval (.tmp t) = .int .i64 n := by simp [Act.put, Act.eval, Array.getElem?_setIfInBounds, hts]
  have x1 : Ext c w (c.free (.slot t)) w := Ext.free c w _
  have acts1 : Acts P o1 a w fun a' w' => a' = a.put (some t) (.int .i64 n) ∧ w' = w := by
    refine Reads.acts ⟨.int .i64 n, fun w' _ => ?_, by rw [hd1]; exact ⟨rfl, rfl⟩⟩
    simp [execOp, h1, e1]
  have acts2 : Acts P o2 (a.put (some t) (.int .i64 n)) w (fun a' w' => wpList P ops (PostE c w N Q) rest a' w') := by
    obtain ⟨fn, q1, q2, q3⟩ := hen
    unfold Acts Oper.wp
    have hrun : (execOp (a.put (some t) (.int .i64 n)).eval o2).run P w = .ok (.enter f #[.slice none 0 0, .int .i64 n]) w := by
      have hfv : (a.put (some t) (.int .i64 n)).eval (.func f) = .func (.func f) #[] #[] := rfl
      have hcv : (a.put (some t) (.int .i64 n)).eval (.const (.slice none 0 0)) = .slice none 0 0 := rfl
      have e4 : fn.body.isNone = false := by cases hb : fn.body <;> simp_all
      unfold execOp
      simp only [h2, resolve, hfv, Deferred.ofValue, Sem.run_bind, Sem.run_pure, Result.andThen_ok, invoke, callFunc, run_program, q1, q3, Bool.false_eq_true, if_false, e4]
      simp [e2, hcv]
    rw [hrun, Oper.upon_enter]
    refine (hf w).mono fun e' w' he => ?_
    rcases he with ⟨rfl, hbl⟩ | ⟨cap, arr, rfl, rfl, hc1, hc2, hc3⟩
    · rw [hd2]
      obtain ⟨s2, x2⟩ := s1.still hbl
      exact aops_list (s2.put' (t := d) (x := .own true e 0 sz []) (v := .slice none 0 0) hd (own_nil h0)) hQ fun a' w'' hp => Post.step ((x1.trans x2).trans (Ext.free _ _ _)) hp
    · rw [hd2]
      obtain ⟨s2, x2⟩ := s1.drew.layOwn (t := d) (e := e) (n := 0) (cap := cap) (sz := sz) (arr := arr) (cs := []) hd h0 (by simp; exact .nil) (Nat.zero_le _) hc1 hc2 hc3
      exact aops_list s2 hQ fun a' w'' hp => Post.step ((x1.trans (Ext.drew _ _)).trans x2) hp
  refine wp_region_list ?_
  rw [hops]
  refine wpList_step fun K' hK' => ?_
  rw [if_pos (by simp [Region.wanted, hg1])]
  refine Mix.wp_of_eff (Mix.effS_mono (fun d v w' h2 => ?_) (Mix.eff_of_wp acts1))
  obtain ⟨ea, rfl⟩ := h2
  refine hK' _ _ ?_
  rw [ea]
  refine wpList_step fun K' hK' => ?_
  rw [if_pos (by simp [Region.wanted, hg2])]
  refine Mix.wp_of_eff (Mix.effS_mono (fun d v w' h2 => ?_) (Mix.eff_of_wp acts2))
  exact hK' _ _ h2
end
end AM
open AM Can
set_option maxRecDepth 10000
theorem elRule : AM.elT Try.prog 22 = some (60, 7, 72) := by kernel_rfl
theorem oneRule : ((Try.prog.info? 60).bind (·.zero)).map (fun z => z.cells.toList.all Value.oneCell') = some true := by kernel_rfl
theorem uInt : Try.prog.underlying 3 = some (.int .i64) := by kernel_rfl
theorem zero_one {cs : Array Value} (h : cs.toList.all Value.oneCell' = true) (h0 : 0 < cs.size) (k : Nat) : ∀ v ∈ (Builtin.zeroCells cs k).toList, v.oneCell' = true := fun v hv => by
  unfold Builtin.zeroCells at hv
  simp only [Array.toList_map, List.mem_map] at hv
  obtain ⟨i, _, rfl⟩ := hv
  have hlt := Nat.mod_lt i h0
  rw [getElem!_pos cs _ hlt]
  exact List.all_eq_true.1 h _ (by simp)
set_option maxHeartbeats 4000000 in
theorem growNil (n : Nat) (hn : n ≤ 1000000) : NewFn Try.prog 66 60 7 n := fun w => by
  obtain ⟨ht, hsz, i, z, hi, hz, hs, hb, hzs⟩ := elT_spec elRule
  have h1 : z.cells.toList.all Value.oneCell' = true := by
    have := oneRule
    rw [hi] at this
    simp only [Option.bind_some, hz, Option.map_some, Option.some.injEq] at this
    exact this
  rcases Nat.eq_zero_or_pos n with rfl | h0
  · go_enter Try.func66, Try.ntmps66
    go_wp2
    go_ret
    exact .inl ⟨rfl, Go.RowKit.Below.refl _ _⟩
  · have happ := Lib.run_append_nil_zeros (P := Try.prog) w 22 3 22 60 i z .i64 .i64 ht uInt hi hz n h0 (by omega) (by omega) (by rw [hb]; omega)
    generalize hcap : grownCap w n 0 60 = cap at happ
    have hcapge : n ≤ cap := by rw [← hcap]; exact grownCap_ge w _ 0 _
    have hcaple : cap ≤ maxLen := by rw [← hcap]; exact grownCap_le_maxLen w _ 0 _ (by unfold maxLen; omega)
    generalize hZ : (Builtin.zeroCells z.cells n ++ Builtin.zeroCells z.cells (cap - n)) = Z at happ
    have hZs : Z.size = cap * 7 := by
      rw [← hZ, Array.size_append, size_zeroCells, size_zeroCells, hzs]
      omega
    have hZ1 : ∀ v ∈ Z.toList, v.oneCell' = true := fun v hv => by
      rw [← hZ, Array.toList_append] at hv
      rcases List.mem_append.1 hv with hv | hv
      · exact zero_one h1 (by omega) _ v hv
      · exact zero_one h1 (by omega) _ v hv
    clear hcap hZ
    go_enter Try.func66, Try.ntmps66
    go_wp2_with (at_builtin; refine Lib.wpList_append_run _ rfl _ _ _ _ rfl _ _ rfl rfl _ _ happ ?_)
    go_ret
    exact .inr ⟨cap, Z, rfl, rfl, hcaple, hZs, hZ1⟩
/-! ## slices.Concat -/
attribute [local simp] aw_skip' aw_region' aw_seq' aw_cond' aw_block' aw_loop' aw_exit' aw_label' aw_ret' aops_nil' aops_cons' aop' aMove aAssign aPick aAlloc aBox aBuild slF aBuildSlice aLoad aLoadOwn aStore aStoreOwn isOwn delR aNilCheck aBin aMakeFunc aFieldAddr aField aIndexAddr aExtract aSliceOp aSlice aCallOp aCall' aLen aLenMap aDelete aMM aUn aConv aIface aAssert aMakeMap aLookup aMapUpdate aRange aNext aEntry entsOf keyB seekK aMakeSlice lookV aAppend putK layK eval evalV AM.valOf getF putF setF del SV.refers cellsAt rootSV plains shift ldV V.exact V.exactL V.ofValue V.ofPart V.ofCell V.cells V.one Value.oneCell' fitB qSeq qBlock getB afin aret resVs resV resTmps shareF evalS tupV valsS valsV pickV calm calmB lenV useOf feeds looks isT newsV partsV fillV putAt zerosV fitsNil nilB sliceB isEq isNeq awx_skip' awx_region' awx_seq' awx_cond' awx_block' awx_loop' awx_exit' awx_label' awx_ret' xops_nil' xops_cons' xop' xload xcall' addO delO inO putD memB Mix.effB Mix.laysB keysF badK subW weakV zeroRow yops_nil' yops_cons' yop' yload yindex yfield ylen oldO dropO takeO oldL exactB
attribute [local simp] awz_skip' awz_region' awz_seq' awz_cond' awz_block' awz_loop' awz_exit' awz_label' awz_ret' zops_nil' zops_cons' zop' zload zloadOwn zcall' z0 new0 remF old0 dltB
def slsU (ls : List (List Ru)) : V := .sl ls.length 1 (ls.map slU)
def CoA (a b : List Ru) (k : Nat) (F : Fr) (H : List Bk) : Prop := F = [(0, .v (slsU [a, b])), (3, .v (.sc (.int .i64 (([a, b].take k).flatten.length)))), (9, .v (slsU [a, b])), (10, .v (.sc (.int .i64 2))), (11, .v (.sc (.int .i64 k)))]
def CoB (a b : List Ru) (k : Nat) (F : Fr) (H : List Bk) : Prop := F = [(6, ownU ([a, b].take k).flatten), (25, .v (slsU [a, b])), (26, .v (.sc (.int .i64 2))), (27, .v (.sc (.int .i64 k)))]
set_option maxHeartbeats 8000000 in
theorem gconcat (a b : List Ru) (ha : a.length ≤ 100000) (hb : b.length ≤ 100000) : PFn Try.prog 45 [slsU [a, b]] (slU (a ++ b)) := by
  have hG := growNil (a ++ b).length (by rw [List.length_append]; omega)
  unfold slsU
  refine AFn.intro (fn := Try.f45) (by kernel_rfl) rfl (by kernel_rfl) (by simp) ?_
  simp only [Try.f45, argsF]
  refine AW.seq (AW.ofx [] mixed (by kernel_rfl) ?_)
  simp
  refine AW.seq (AW.ofx [] mixed (by kernel_rfl) ?_)
  simp
  refine AW.seq (AW.ofx [] mixed (by kernel_rfl) ?_)
  simp
  have r0 : AM.rowAt 1 [slU a, slU b] 0 = [slU a] := rfl
  have r1 : AM.rowAt 1 [slU a, slU b] 1 = [slU b] := rfl
  unfold slU at r0 r1
  have w1 : IntKind.i64.wrap (a.length : Int) = (a.length : Int) := by rw [wrap_i64] <;> omega
  have w2 : IntKind.i64.wrap ((a.length : Int) + b.length) = (a.length : Int) + b.length := by rw [wrap_i64] <;> omega
  have w3 : IntKind.i64.wrap 1 = 1 := by decide
  have w4 : IntKind.i64.wrap 2 = 2 := by decide
  have n1 : ¬ (a.length : Int) < 0 := by omega
  have n2 : ¬ (a.length : Int) + b.length < 0 := by omega
  refine AW.count 2 (CoA a b) ⟨_, ?_, rfl⟩ ?_
  · simp [subW, weakV, getF, slsU]
  rintro k F H hk rfl
  refine AW.ofx [] mixed (by kernel_rfl) ?_
  have hk3 : k = 0 ∨ k = 1 ∨ k = 2 := by omega
  rcases hk3 with rfl | rfl | rfl
  · simp [slsU, r0, slU, w1, w3, n1]
    refine ⟨_, ?_, rfl⟩
    simp [subW, weakV, getF, slsU, slU]
  · simp [slsU, r1, slU, w2, w4, n2]
    refine ⟨_, ?_, rfl⟩
    simp [subW, weakV, getF, slsU, slU]
  · simp [slsU]
    refine AW.seq (AW.newRow (u := 3) hG ⟨_, Try.func66, rfl, by kernel_rfl⟩ (by decide) rfl rfl rfl rfl rfl rfl rfl (by decide) (by decide) (by simp [getF]) ?_)
    simp [slsU]
    refine AW.seq (AW.ofx [] mixed (by kernel_rfl) ?_)
    simp [slsU]
    refine AW.count 2 (CoB a b) ⟨_, ?_, rfl⟩ ?_
    · simp [subW, weakV, getF, slsU, ownU]
    rintro k F H hk rfl
    refine AW.ofx [] mixed (by kernel_rfl) ?_
    have hk3 : k = 0 ∨ k = 1 ∨ k = 2 := by omega
    rcases hk3 with rfl | rfl | rfl
    · simp [slsU, slU, r0, ownU, w3]
      refine ⟨by omega, _, ?_, rfl⟩
      simp [subW, weakV, getF, slsU, slU, ownU]
    · simp [slsU, slU, r1, ownU, w4]
      refine ⟨by omega, _, ?_, rfl⟩
      simp [subW, weakV, getF, slsU, slU, ownU]
    · simp [slsU, ownU]
      refine AW.ofx [] mixed (by kernel_rfl) ?_
      simp [slU]
end Go.Proofs.Ytbcfoakceloenaa
