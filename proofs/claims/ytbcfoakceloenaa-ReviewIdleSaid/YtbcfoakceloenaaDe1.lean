/- Review: runs of a row, and bands that are told, by the program. -/
import Derived.Test.YtbcfoakceloenaaDc
import Derived.Test.YtbcfoakceloenaaBh
namespace Go.Proofs.Ytbcfoakceloenaa
set_option linter.all false
open Go.RowKit AM Can
set_option maxRecDepth 10000
attribute [local simp] aw_skip' aw_region' aw_seq' aw_cond' aw_block' aw_loop' aw_exit' aw_label' aw_ret' aops_nil' aops_cons' aop' aMove aAssign aPick aAlloc aBox aBuild slF aBuildSlice aLoad aLoadOwn aStore aStoreOwn isOwn delR aNilCheck aBin aMakeFunc aFieldAddr aField aIndexAddr aExtract aSliceOp aSlice aCallOp aCall' aLen aLenMap aDelete aMM aUn aConv aIface aAssert aMakeMap aLookup aMapUpdate aRange aNext aEntry entsOf keyB seekK aMakeSlice lookV aAppend putK layK eval evalV AM.valOf getF putF setF del SV.refers cellsAt rootSV plains shift ldV V.exact V.exactL V.ofValue V.ofPart V.ofCell V.cells V.one Value.oneCell' fitB qSeq qBlock getB afin aret resVs resV resTmps shareF evalS tupV valsS valsV pickV calm calmB lenV useOf feeds looks isT newsV partsV fillV putAt zerosV fitsNil nilB sliceB isEq isNeq awx_skip' awx_region' awx_seq' awx_cond' awx_block' awx_loop' awx_exit' awx_label' awx_ret' xops_nil' xops_cons' xop' xload xcall' addO delO inO putD memB Mix.effB Mix.laysB keysF badK subW weakV zeroRow yops_nil' yops_cons' yop' yload yindex yfield ylen oldO dropO takeO oldL exactB
attribute [local simp] awz_skip' awz_region' awz_seq' awz_cond' awz_block' awz_loop' awz_exit' awz_label' awz_ret' zops_nil' zops_cons' zop' zload zloadOwn zcall' z0 new0 remF old0 dltB

def ovV (w : Wo) (a b : List Ru) (xs ys : List Int) : V := .agg [.sc (.int .i64 w.ro), .sc (.int .i64 w.ti), .sc (.int .i64 w.la), slU a, slU b, slI xs, slI ys]
theorem forL_len (l : List Ru) (w : Wo) : (forL l w.ro w.ti w.la).length ≤ l.length := List.length_filter_le _ _
theorem boxesU_app (a b : List Ru) : boxesU (a ++ b) = boxesU a ++ boxesU b := by simp [boxesU]
theorem mem_le {l : List Ru} {n : Nat} (hn : (boxesU l).length ≤ n) : ∀ r ∈ l, r.boxes.length ≤ n := fun r hr => by
  have h1 : r.boxes.length ≤ (boxesU l).length := by
    obtain ⟨s, t, rfl⟩ := List.append_of_mem hr
    simp [boxesU]
    omega
  omega
set_option maxHeartbeats 4000000 in
theorem rover (was is : List Ru) (w : Wo) (h1 : was.length ≤ 1000) (h2 : is.length ≤ 1000) (n1 : (boxesU was).length ≤ 1000) (n2 : (boxesU is).length ≤ 1000) :
    PFn Try.prog 30 [slU was, slU is, w.v] (ovV w (forL was w.ro w.ti w.la) (forL is w.ro w.ti w.la) (cutE (forL was w.ro w.ti w.la ++ forL is w.ro w.ti w.la) false) (cutE (forL was w.ro w.ti w.la ++ forL is w.ro w.ti w.la) true)) := by
  have m1 := rmine was w (by omega) (fun r hr => by have := mem_le n1 r hr; omega)
  have m2 := rmine is w (by omega) (fun r hr => by have := mem_le n2 r hr; omega)
  have l1 := forL_len was w
  have l2 := forL_len is w
  have hC := gconcat (forL was w.ro w.ti w.la) (forL is w.ro w.ti w.la) (by omega) (by omega)
  have hE := redges (forL was w.ro w.ti w.la ++ forL is w.ro w.ti w.la) (by rw [List.length_append]; omega) (by
    have e1 : (boxesU (forL was w.ro w.ti w.la)).length ≤ (boxesU was).length := filter_flat_len
    have e2 : (boxesU (forL is w.ro w.ti w.la)).length ≤ (boxesU is).length := filter_flat_len
    rw [boxesU_app, List.length_append]
    omega) (fun b hb => by
      rw [boxesU_app] at hb
      rcases List.mem_append.1 hb with hb | hb
      · exact forL_boxes b hb
      · exact forL_boxes b hb)
  have c1 := slU_closed was
  have c2 := slU_closed is
  have c3 := slU_closed (forL was w.ro w.ti w.la)
  have c4 := slU_closed (forL is w.ro w.ti w.la)
  have c5 := slU_closed (forL was w.ro w.ti w.la ++ forL is w.ro w.ti w.la)
  generalize forL was w.ro w.ti w.la = a at *
  generalize forL is w.ro w.ti w.la = b at *
  have c6 := slI_closed (cutE (a ++ b) false)
  have c7 := slI_closed (cutE (a ++ b) true)
  generalize cutE (a ++ b) false = xs at *
  generalize cutE (a ++ b) true = ys at *
  unfold Wo.v Wo.cs at m1 m2 ⊢
  unfold slsU at hC
  simp only [List.length_cons, List.length_nil, List.map_cons, List.map_nil] at hC
  unfold ovV
  refine AFn.intro (fn := Try.f30) (by kernel_rfl) rfl (by kernel_rfl) (by simp) (AW.ofx [(1, 5, [5, 0, 1])] mixed (by kernel_rfl) ?_)
  simp only [Try.f30, argsF]
  simp
  refine callK.pure m1 (by simp [V.closedL, V.closed, c1]) c3 ?_
  simp
  refine callK.pure m2 (by simp [V.closedL, V.closed, c2]) c4 ?_
  unfold slU slI at *
  simp only [V.closed] at c3 c4 c5 c6 c7
  simp only [List.length_append, List.flatMap_append] at hE hC c5
  simp
  refine callK.pure hC (by simp [V.closedL, V.closed, c3, c4]) (by simp [V.closed, c5]) ?_
  simp
  refine callK.pure hE (by simp [V.closedL, V.closed, c5]) (by simp [V.closed, V.closedL, c6, c7]) ?_
  simp [setCells, setBlk]
/-! ## Runs of a row -/
def labO (q : Int → Int → Bool) (a b : List Ru) (w : Wo) (y x : Int) : Option (Int × Int) := if q (zoomR a w.ro w.ti w.la ⟨x, y⟩) (zoomR b w.ro w.ti w.la ⟨x, y⟩) then some (zoomR a w.ro w.ti w.la ⟨x, y⟩, zoomR b w.ro w.ti w.la ⟨x, y⟩) else none
def spo (r : Run (Int × Int)) : List V := [.sc (.int .i64 r.a), .sc (.int .i64 r.b), .sc (.int .i64 r.z.1), .sc (.int .i64 r.z.2)]
def slO (rs : List (Run (Int × Int))) : V := .sl rs.length 4 (rs.flatMap spo)
def ownO (rs : List (Run (Int × Int))) : SV := .own true 77 rs.length 4 (rs.flatMap spo)
theorem slO_closed (rs : List (Run (Int × Int))) : V.closed (slO rs) = true := by simp [slO, V.closed, closed_flat (enc := spo) (fun _ => rfl)]
theorem rowOs {rs : List (Run (Int × Int))} {k : Nat} (h : k < rs.length) : AM.rowAt 4 (rs.flatMap spo) (k : Int) = [.sc (.int .i64 rs[k].a), .sc (.int .i64 rs[k].b), .sc (.int .i64 rs[k].z.1), .sc (.int .i64 rs[k].z.2)] := row_flat (enc := spo) (sz := 4) (fun _ => rfl) h
def rowOf (q : Int → Int → Bool) (a b : List Ru) (w : Wo) (xs : List Int) (y : Int) : List (Run (Int × Int)) := runsK (labO q a b w y) xs (xs.length - 1)
theorem rowOf_len (q : Int → Int → Bool) (a b : List Ru) (w : Wo) (xs : List Int) (y : Int) : (rowOf q a b w xs y).length ≤ xs.length := by
  have := runsK_len (f := labO q a b w y) (xs := xs) (xs.length - 1)
  unfold rowOf
  omega
/-- What is asked of two zooms. -/
def HoldQ (P : Program) (g : FuncId) (q : Int → Int → Bool) : Prop := ∀ a b : Int, PFn P g [.sc (.int .i64 a), .sc (.int .i64 b)] (.sc (.bool (q a b)))
theorem hDiffer : HoldQ Try.prog 32 (fun a b => a != b) := fun a b => by
  refine AFn.intro (fn := Try.f32) (by kernel_rfl) rfl (by kernel_rfl) (by simp) (AW.ofx [] mixed (by kernel_rfl) ?_)
  simp only [Try.f32, argsF]
  simp
theorem hRise : HoldQ Try.prog 43 (fun a b => decide (a < b)) := fun a b => by
  refine AFn.intro (fn := Try.f43) (by kernel_rfl) rfl (by kernel_rfl) (by simp) (AW.ofx [] mixed (by kernel_rfl) ?_)
  simp only [Try.f43, argsF]
  simp
theorem hEvery : HoldQ Try.prog 48 (fun _ _ => true) := fun a b => by
  refine AFn.intro (fn := Try.f48) (by kernel_rfl) rfl (by kernel_rfl) (by simp) (AW.ofx [] mixed (by kernel_rfl) ?_)
  simp only [Try.f48, argsF]
  simp
theorem setLast1 {R : List (Run (Int × Int))} {r : Run (Int × Int)} {v : Int} : ((R ++ [r]).flatMap spo).set (R.length * 4 + 1) (.sc (.int .i64 v)) = (R ++ [(⟨r.a, v, r.z⟩ : Run (Int × Int))]).flatMap spo := by
  have := flat_mod (enc := spo) (sz := 4) (o := 1) (v := .sc (.int .i64 v)) (f := fun r => ({ r with b := v } : Run (Int × Int))) (fun _ => rfl) (by decide) (fun _ => rfl) (k := R.length) (xs := R ++ [r]) (by simp)
  rw [this, modN_last]
theorem lastAtO {R : List (Run (Int × Int))} {r : Run (Int × Int)} (o : Nat) (ho : o < 4) : ((R ++ [r]).flatMap spo)[R.length * 4 + o]? = (spo r)[o]? := by
  have hl := flat_len' (enc := spo) (sz := 4) (fun _ => rfl) R
  rw [List.flatMap_append, List.getElem?_append_right (by omega), hl]
  simp
end Go.Proofs.Ytbcfoakceloenaa
namespace Go.Proofs.Ytbcfoakceloenaa
set_option linter.all false
open Go.RowKit AM Can
set_option maxRecDepth 10000
attribute [local simp] aw_skip' aw_region' aw_seq' aw_cond' aw_block' aw_loop' aw_exit' aw_label' aw_ret' aops_nil' aops_cons' aop' aMove aAssign aPick aAlloc aBox aBuild slF aBuildSlice aLoad aLoadOwn aStore aStoreOwn isOwn delR aNilCheck aBin aMakeFunc aFieldAddr aField aIndexAddr aExtract aSliceOp aSlice aCallOp aCall' aLen aLenMap aDelete aMM aUn aConv aIface aAssert aMakeMap aLookup aMapUpdate aRange aNext aEntry entsOf keyB seekK aMakeSlice lookV aAppend putK layK eval evalV AM.valOf getF putF setF del SV.refers cellsAt rootSV plains shift ldV V.exact V.exactL V.ofValue V.ofPart V.ofCell V.cells V.one Value.oneCell' fitB qSeq qBlock getB afin aret resVs resV resTmps shareF evalS tupV valsS valsV pickV calm calmB lenV useOf feeds looks isT newsV partsV fillV putAt zerosV fitsNil nilB sliceB isEq isNeq awx_skip' awx_region' awx_seq' awx_cond' awx_block' awx_loop' awx_exit' awx_label' awx_ret' xops_nil' xops_cons' xop' xload xcall' addO delO inO putD memB Mix.effB Mix.laysB keysF badK subW weakV zeroRow yops_nil' yops_cons' yop' yload yindex yfield ylen oldO dropO takeO oldL exactB
attribute [local simp] awz_skip' awz_region' awz_seq' awz_cond' awz_block' awz_loop' awz_exit' awz_label' awz_ret' zops_nil' zops_cons' zop' zload zloadOwn zcall' z0 new0 remF old0 dltB

def ovB (w : Wo) (a b : List Ru) (xs ys : List Int) : Bk := .cells [.v (.sc (.int .i64 w.ro)), .v (.sc (.int .i64 w.ti)), .v (.sc (.int .i64 w.la)), .v (slU a), .v (slU b), .v (slI xs), .v (slI ys)]
def spB (r : Run (Int × Int)) : Bk := .cells [.v (.sc (.int .i64 r.a)), .v (.sc (.int .i64 r.b)), .v (.sc (.int .i64 r.z.1)), .v (.sc (.int .i64 r.z.2))]
def RoI (q : Int → Int → Bool) (g : FuncId) (w : Wo) (a b : List Ru) (xs ys : List Int) (y : Int) (k : Nat) (F : Fr) (H : List Bk) : Prop := Stays [ovB w a b xs ys] H ∧ F = [(1, .v (.sc (.int .i64 y))), (2, .v (.fn (.func g) [] [])), (3, .v (.ptr 0 0)), (7, ownO (runsK (labO q a b w y) xs k)), (8, .v (.sc (.int .i64 k)))]
def RoM (g : FuncId) (y : Int) (R : List (Run (Int × Int))) (k : Nat) (r : Run (Int × Int)) (p : Pt) (H0 : List Bk) (F : Fr) (H : List Bk) : Prop := H = H0 ++ [ptB2 p, spB r] ∧ F = [(1, .v (.sc (.int .i64 y))), (2, .v (.fn (.func g) [] [])), (3, .v (.ptr 0 0)), (7, ownO R), (8, .v (.sc (.int .i64 k))), (10, .v (.ptr (H0.length + 1) 0))]
set_option maxHeartbeats 16000000 in
theorem rrow (q : Int → Int → Bool) (g : FuncId) (hq : HoldQ Try.prog g q) (w : Wo) (a b : List Ru) (xs ys : List Int) (y : Int) (hl : a.length ≤ 9223372036854775807) (hb : ∀ r ∈ a, r.boxes.length ≤ 9223372036854775807) (hl' : b.length ≤ 9223372036854775807) (hb' : ∀ r ∈ b, r.boxes.length ≤ 9223372036854775807)
    (hx : xs.length ≤ 10000000) (hxr : ∀ x ∈ xs, 0 ≤ x ∧ x ≤ 65536) : PFn Try.prog 56 [ovV w a b xs ys, .sc (.int .i64 y), .fn (.func g) [] []] (slO (rowOf q a b w xs y)) := by
  have hZ := fun p => rzoom a w p hl hb
  have hZ' := fun p => rzoom b w p hl' hb'
  have c1 := slU_closed a
  have c2 := slU_closed b
  unfold Pt.v Pt.cs Wo.v Wo.cs at hZ hZ'
  unfold ovV
  refine AFn.intro (fn := Try.f56) (by kernel_rfl) rfl (by kernel_rfl) (by simp) ?_
  simp only [Try.f56, argsF]
  refine AW.seq (AW.ofx [] mixed (by kernel_rfl) ?_)
  simp [slU, slI]
  refine AW.seq (AW.ofx [] mixed (by kernel_rfl) ?_)
  simp
  refine AW.seq (AW.seq (AW.ofx [] mixed (by kernel_rfl) ?_))
  simp
  refine AW.block ?_
  refine AW.count (xs.length - 1) (RoI q g w a b xs ys y) ⟨_, ?_, .refl, rfl⟩ ?_
  · simp [subW, weakV, getF, runsK, ownO, zeroRow]
  rintro k F H hk ⟨hs, rfl⟩
  have h0 : H[0]? = some (ovB w a b xs ys) := hs.cells rfl
  unfold ovB slU slI at h0
  refine AW.seq (AW.ofx [] mixed (by kernel_rfl) ?_)
  have w1 : IntKind.i64.wrap ((k : Int) + 1) = (k : Int) + 1 := by rw [wrap_i64] <;> omega
  by_cases hlt : k + 1 < xs.length
  rotate_left
  · have hk' : k = xs.length - 1 := by omega
    have hlt2 : ¬ (k : Int) + 1 < xs.length := by omega
    simp [h0, w1, hlt2, ownO]
    refine AW.ofx [] mixed (by kernel_rfl) ?_
    simp
    unfold rowOf slO
    rw [← hk']
  have hlt1 : k < xs.length := by omega
  have hlt2 : (k : Int) + 1 < xs.length := by omega
  have hlt3 : (k : Int) < xs.length := by omega
  have hn := runsK_succ (f := labO q a b w y) hlt
  have l1 := runsK_len (f := labO q a b w y) (xs := xs) k
  have hr1 := rowI hlt1
  have hr2 := rowI hlt
  have hr2' : AM.rowAt 1 (ints xs) ((k : Int) + 1) = [.sc (.int .i64 xs[k + 1])] := by simpa using hr2
  have hb2 := hxr _ (List.getElem_mem hlt)
  have hb1 := hxr _ (List.getElem_mem hlt1)
  have wm : IntKind.i64.wrap (xs[k + 1] - 1) = xs[k + 1] - 1 := by rw [wrap_i64] <;> omega
  have hbs : ∀ r ∈ runsK (labO q a b w y) xs k, -1 ≤ r.b ∧ r.b ≤ 65535 := runsK_ends hxr k
  have hs1 := hs.append (L := [ptB2 ⟨xs[k], y⟩])
  have hp := appL (H := H) (b := ptB2 ⟨xs[k], y⟩)
  have h0' := getA (L := [ptB2 ⟨xs[k], y⟩]) h0
  unfold ptB2 at hs1 hp h0'
  simp [h0, w1, hlt2, ownO]
  refine AW.seq (AW.block (AW.seq (AW.ofx [] mixed (by kernel_rfl) ?_)))
  simp [h0, h0', w1, hlt2, hlt3, hlt1, hr1, ownO, setL]
  refine AW.sub [(1, .v (.sc (.int .i64 y))), (2, .v (.fn (.func g) [] [])), (3, .v (.ptr 0 0)), (7, ownO (runsK (labO q a b w y) xs k)), (8, .v (.sc (.int .i64 k))), (9, .v (.ptr H.length 0))] (by simp [subF, getF, ownO]) ?_
  unfold ownO
  generalize runsK (labO q a b w y) xs k = R at *
  refine AW.mid (RoM g y R k ⟨xs[k], xs[k + 1] - 1, (zoomR a w.ro w.ti w.la ⟨xs[k], y⟩, zoomR b w.ro w.ti w.la ⟨xs[k], y⟩)⟩ ⟨xs[k], y⟩ H) (AW.regionFZ 25 26 mixed (Nat.le_of_ble_eq_true (by kernel_rfl)) (by decide) (by kernel_rfl) ?_) ?_
  · unfold slU at hZ hZ' c1 c2
    simp only [V.closed] at c1 c2
    have hZk := hZ ⟨xs[k], y⟩
    have hZk' := hZ' ⟨xs[k], y⟩
    have h0e := fun h => (List.getElem_eq_iff (i := 0) h).2 h0'
    have hk0 : (0 : Int) ≤ (k : Int) + 1 := by omega
    simp [floatZ', zopsB_nil', zopsB_ite, Mix.effB, zstep', h0', h0e, hp, w1, hk0, wm, hlt2, hlt3, hlt1, hr1, hr2, hr2']
    have ca : V.closedL [V.agg [.sc (.int .i64 w.ro), .sc (.int .i64 w.ti), .sc (.int .i64 w.la)], V.sl a.length 7 (a.flatMap Ru.cs), V.agg [.sc (.int .i64 xs[k]), .sc (.int .i64 y)]] = true := by simp [V.closedL, V.closed, c1]
    have cb : V.closedL [V.agg [.sc (.int .i64 w.ro), .sc (.int .i64 w.ti), .sc (.int .i64 w.la)], V.sl b.length 7 (b.flatMap Ru.cs), V.agg [.sc (.int .i64 xs[k]), .sc (.int .i64 y)]] = true := by simp [V.closedL, V.closed, c2]
    generalize zoomR a w.ro w.ti w.la ⟨xs[k], y⟩ = za at *
    generalize zoomR b w.ro w.ti w.la ⟨xs[k], y⟩ = zb at *
    refine ⟨xcallK.of hZk ca rfl ?_, xcallK.of hZk ca rfl ?_⟩
    · simp [floatZ', zopsB_nil', zopsB_ite, Mix.effB, zstep', h0', h0e, hp]
      refine ⟨xcallK.of hZk' cb rfl ?_, xcallK.of hZk' cb rfl ?_⟩
      · simp [floatZ', zopsB_nil', zopsB_ite, Mix.effB, zstep', h0', h0e, hp, RoM, ptB2, spB, setL2, ownO]
      · simp [floatZ', zopsB_nil', zopsB_ite, Mix.effB, zstep', h0', h0e, hp, RoM, ptB2, spB, setL2, ownO]
    · simp [floatZ', zopsB_nil', zopsB_ite, Mix.effB, zstep', h0', h0e, hp]
      refine xcallK.of hZk' cb rfl ?_
      simp [floatZ', zopsB_nil', zopsB_ite, Mix.effB, zstep', h0', h0e, hp, RoM, ptB2, spB, setL2, ownO]
  have hlab : labO q a b w y xs[k] = if q (zoomR a w.ro w.ti w.la ⟨xs[k], y⟩) (zoomR b w.ro w.ti w.la ⟨xs[k], y⟩) then some (zoomR a w.ro w.ti w.la ⟨xs[k], y⟩, zoomR b w.ro w.ti w.la ⟨xs[k], y⟩) else none := rfl
  have hs2 := hs.append (L := [ptB2 ⟨xs[k], y⟩, spB ⟨xs[k], xs[k + 1] - 1, (zoomR a w.ro w.ti w.la ⟨xs[k], y⟩, zoomR b w.ro w.ti w.la ⟨xs[k], y⟩)⟩])
  rintro F1 H1 ⟨rfl, rfl⟩
  generalize zoomR a w.ro w.ti w.la ⟨xs[k], y⟩ = za at *
  generalize zoomR b w.ro w.ti w.la ⟨xs[k], y⟩ = zb at *
  have hQ := hq za zb
  have hfin : ∀ s, runsK (labO q a b w y) xs (k + 1) = s → RoI q g w a b xs ys y (k + 1) [(1, .v (.sc (.int .i64 y))), (2, .v (.fn (.func g) [] [])), (3, .v (.ptr 0 0)), (7, ownO s), (8, .v (.sc (.int .i64 (k + 1 : Nat))))] (H ++ [ptB2 ⟨xs[k], y⟩, spB ⟨xs[k], xs[k + 1] - 1, (za, zb)⟩]) := fun s e => ⟨hs2, by rw [e]⟩
  have hsp : (H ++ [ptB2 ⟨xs[k], y⟩, spB ⟨xs[k], xs[k + 1] - 1, (za, zb)⟩])[H.length + 1]? = some (spB ⟨xs[k], xs[k + 1] - 1, (za, zb)⟩) := by simp
  clear hZ hZ' hs hs1 hs2 h0 h0' hp hk
  generalize H ++ [ptB2 ⟨xs[k], y⟩, spB ⟨xs[k], xs[k + 1] - 1, (za, zb)⟩] = H2 at *
  unfold spB at hsp
  refine AW.ofx [] mixed (by kernel_rfl) ?_
  simp [hsp, ownO]
  refine callK.pure hQ rfl rfl ?_
  unfold Can.step at hn
  rw [hlab] at hn
  cases hz : q za zb with
  | false =>
    rw [hz] at hn
    simp [w1]
    refine AW.ofx [] mixed (by kernel_rfl) ?_
    simp [w1]
    refine ⟨by omega, _, ?_, hfin _ hn⟩
    simp [subW, weakV, getF, ownO]
  | true =>
    rw [hz] at hn
    simp only [if_true] at hn
    rcases List.eq_nil_or_concat R with rfl | ⟨R', r, rfl⟩
    · have e : push ([] : List (Run (Int × Int))) xs[k] xs[k + 1] (za, zb) = [⟨xs[k], xs[k + 1] - 1, (za, zb)⟩] := rfl
      rw [e] at hn
      have wm1 : IntKind.i64.wrap (-1) = -1 := by decide
      simp [ownO, w1, wm1, hsp]
      refine AW.ofx [] mixed (by kernel_rfl) ?_
      simp [w1]
      refine ⟨by omega, _, ?_, hfin _ hn⟩
      simp [subW, weakV, getF, ownO, spo]
    · rw [List.concat_eq_append] at *
      have hrb := hbs r (by simp)
      rw [List.length_append, List.length_singleton] at l1
      have wl : IntKind.i64.wrap (((R' ++ [r]).length : Int) - 1) = (R'.length : Int) := by
        rw [List.length_append, List.length_singleton, wrap_i64] <;> omega
      have wb : IntKind.i64.wrap (r.b + 1) = r.b + 1 := by rw [wrap_i64] <;> omega
      have hr_1 : ((R' ++ [r]).flatMap spo)[R'.length * 4 + 1]? = some (.sc (.int .i64 r.b)) := lastAtO 1 (by decide)
      have hr_2 : ((R' ++ [r]).flatMap spo)[R'.length * 4 + 2]? = some (.sc (.int .i64 r.z.1)) := lastAtO 2 (by decide)
      have hr_3 : ((R' ++ [r]).flatMap spo)[R'.length * 4 + 3]? = some (.sc (.int .i64 r.z.2)) := lastAtO 3 (by decide)
      have hlen : R'.length < (R' ++ [r]).length := by simp
      have hlen0 : (R' ++ [r]).length = R'.length + 1 := by simp
      have hpk := setLast1 (R := R') (r := r) (v := xs[k + 1] - 1)
      have hfl := flat_len' (enc := spo) (sz := 4) (fun _ => rfl) (R' ++ [r])
      by_cases hp : r.b + 1 = xs[k] ∧ r.z.1 = za ∧ r.z.2 = zb
      · have hpz : r.z = (za, zb) := Prod.ext hp.2.1 hp.2.2
        rw [push_more hp.1 hpz] at hn
        rw [hp.2.1] at hr_2
        rw [hp.2.2] at hr_3
        rw [hpz] at hpk
        rw [hp.1] at wb
        have hp1 := hp.1
        clear hp hbs
        have hnl : (R' ++ [(⟨r.a, xs[k + 1] - 1, (za, zb)⟩ : Run (Int × Int))]).length = (R' ++ [r]).length := by simp
        generalize R' ++ [r] = R at *
        generalize R' ++ [(⟨r.a, xs[k + 1] - 1, (za, zb)⟩ : Run (Int × Int))] = R2 at *
        simp [ownO, w1, wl, hp1, wb, hr_1, hr_2, hr_3, hlen, hsp]
        refine ⟨by simp at hfl; omega, ?_⟩
        refine AW.ofx [] mixed (by kernel_rfl) ?_
        simp [w1]
        refine ⟨by omega, _, ?_, hfin _ hn⟩
        simp [subW, weakV, getF, ownO, ← hpk, hnl]
        rw [List.set_eq_take_append_cons_drop, if_pos (by rw [hfl]; omega)]
      · have hpz : ¬ (r.b + 1 = xs[k] ∧ r.z = (za, zb)) := fun h => hp ⟨h.1, by rw [h.2], by rw [h.2]⟩
        have hq : push (R' ++ [r]) xs[k] xs[k + 1] (za, zb) = R' ++ [r] ++ [⟨xs[k], xs[k + 1] - 1, (za, zb)⟩] := push_fresh fun A q e h1 h2 => by
          obtain ⟨_, rfl⟩ := app_last e
          exact hpz ⟨h1, h2⟩
        rw [hq] at hn
        clear hbs hpk hpz
        by_cases hz2 : r.b + 1 = xs[k]
        · by_cases hz1 : r.z.1 = za
          · have hz3 : (r.z.2 == zb) = false := by simpa using fun h => hp ⟨hz2, hz1, h⟩
            have hz2' : (r.b + 1 == xs[k]) = true := by simpa using hz2
            rw [hz1] at hr_2
            generalize R' ++ [r] = R at *
            simp [ownO, w1, wl, wb, hz2', hz3, hr_1, hr_2, hr_3, hlen, hsp]
            refine ⟨⟨by omega, by omega⟩, ?_⟩
            refine AW.ofx [] mixed (by kernel_rfl) ?_
            simp [w1]
            refine ⟨by omega, _, ?_, hfin _ hn⟩
            simp [subW, weakV, getF, ownO, spo]
          · have hz3 : (r.z.1 == za) = false := by simpa using hz1
            have hz2' : (r.b + 1 == xs[k]) = true := by simpa using hz2
            generalize R' ++ [r] = R at *
            simp [ownO, w1, wl, wb, hz2', hz3, hr_1, hr_2, hr_3, hlen, hsp]
            refine ⟨⟨by omega, by omega⟩, ?_⟩
            refine AW.ofx [] mixed (by kernel_rfl) ?_
            simp [w1]
            refine ⟨by omega, _, ?_, hfin _ hn⟩
            simp [subW, weakV, getF, ownO, spo]
        · have hz2' : (r.b + 1 == xs[k]) = false := by simpa using hz2
          generalize R' ++ [r] = R at *
          simp [ownO, w1, wl, wb, hz2', hr_1, hr_2, hr_3, hlen, hsp]
          refine ⟨⟨by omega, by omega⟩, ?_⟩
          refine AW.ofx [] mixed (by kernel_rfl) ?_
          simp [w1]
          refine ⟨by omega, _, ?_, hfin _ hn⟩
          simp [subW, weakV, getF, ownO, spo]
end Go.Proofs.Ytbcfoakceloenaa
namespace Go.Proofs.Ytbcfoakceloenaa
set_option linter.all false
open Go.RowKit AM Can
set_option maxRecDepth 10000
attribute [local simp] aw_skip' aw_region' aw_seq' aw_cond' aw_block' aw_loop' aw_exit' aw_label' aw_ret' aops_nil' aops_cons' aop' aMove aAssign aPick aAlloc aBox aBuild slF aBuildSlice aLoad aLoadOwn aStore aStoreOwn isOwn delR aNilCheck aBin aMakeFunc aFieldAddr aField aIndexAddr aExtract aSliceOp aSlice aCallOp aCall' aLen aLenMap aDelete aMM aUn aConv aIface aAssert aMakeMap aLookup aMapUpdate aRange aNext aEntry entsOf keyB seekK aMakeSlice lookV aAppend putK layK eval evalV AM.valOf getF putF setF del SV.refers cellsAt rootSV plains shift ldV V.exact V.exactL V.ofValue V.ofPart V.ofCell V.cells V.one Value.oneCell' fitB qSeq qBlock getB afin aret resVs resV resTmps shareF evalS tupV valsS valsV pickV calm calmB lenV useOf feeds looks isT newsV partsV fillV putAt zerosV fitsNil nilB sliceB isEq isNeq awx_skip' awx_region' awx_seq' awx_cond' awx_block' awx_loop' awx_exit' awx_label' awx_ret' xops_nil' xops_cons' xop' xload xcall' addO delO inO putD memB Mix.effB Mix.laysB keysF badK subW weakV zeroRow yops_nil' yops_cons' yop' yload yindex yfield ylen oldO dropO takeO oldL exactB
attribute [local simp] awz_skip' awz_region' awz_seq' awz_cond' awz_block' awz_loop' awz_exit' awz_label' awz_ret' zops_nil' zops_cons' zop' zload zloadOwn zcall' z0 new0 remF old0 dltB

theorem eqSpO (a b c d a' b' c' d' : Int) : eqT Try.prog 10 77 (.agg #[.int .i64 a, .int .i64 b, .int .i64 c, .int .i64 d]) (.agg #[.int .i64 a', .int .i64 b', .int .i64 c', .int .i64 d']) = some (a == a' && (b == b' && (c == c' && (d == d' && true)))) := by kernel_rfl
theorem gSpO : Try.prog.eqGuardType Try.prog.depth 77 = false := by kernel_rfl
theorem spO_eq {a b : Run (Int × Int)} : a = b ↔ a.a = b.a ∧ a.b = b.b ∧ a.z.1 = b.z.1 ∧ a.z.2 = b.z.2 := by
  obtain ⟨_, _, _, _⟩ := a
  obtain ⟨_, _, _, _⟩ := b
  simp
def EsO (xs ys : List (Run (Int × Int))) (k : Nat) (F : Fr) (H : List Bk) : Prop := xs.take k = ys.take k ∧ H = [] ∧ F = [(0, .v (slO xs)), (1, .v (slO ys)), (12, .v (.sc (.int .i64 xs.length))), (13, .v (.sc (.int .i64 k)))]
theorem eqSpansO (xs ys : List (Run (Int × Int))) (hx : xs.length ≤ 1000000000) : PFn Try.prog 57 [slO xs, slO ys] (.sc (.bool (decide (xs = ys)))) := by
  refine AFn.intro (fn := Try.f57) (by kernel_rfl) rfl (by kernel_rfl) (by simp) (AW.ofx [] mixed (by kernel_rfl) ?_)
  simp only [Try.f57, argsF]
  simp [slO]
  by_cases hl : xs.length = ys.length
  · simp [slO, hl]
    refine AW.count xs.length (EsO xs ys) ⟨_, ?_, by simp, rfl, rfl⟩ ?_
    · simp [subW, weakV, getF, slO, hl]
    rintro k F H hk ⟨ht, rfl, rfl⟩
    refine AW.ofx [] mixed (by kernel_rfl) ?_
    by_cases hlt : k < xs.length
    · have hlt' : k < ys.length := by omega
      have w1 : IntKind.i64.wrap ((k : Int) + 1) = (k : Int) + 1 := by rw [wrap_i64] <;> omega
      simp [slO, hlt, hlt', rowOs, eqSpO, gSpO, w1]
      refine gd.intro (fun e => ?_) (fun e => ?_)
      · have : ¬ xs = ys := fun e' => by
          subst e'
          simp at e
        simp [this]
      · have he : xs[k] = ys[k] := by
          rw [spO_eq]
          simpa using e
        refine ⟨_, ?_, ?_, rfl, rfl⟩
        · simp [subW, weakV, getF, slO, hl]
        · rw [List.take_succ_eq_append_getElem hlt, List.take_succ_eq_append_getElem hlt', ht, he]
    · have hk' : k = xs.length := by omega
      have he : xs = ys := by
        rw [hk', List.take_length, hl, List.take_length] at ht
        exact ht
      simp [slO, hlt]
      exact he
  · have : ¬ xs = ys := fun e => hl (by rw [e])
    have hl' : ((xs.length : Int) != ys.length) = true := by simp; omega
    simp [hl', this]
/-! ## Changes that are told -/
def ccs (q : Rc (Int × Int)) : List V := [.sc (.int .i64 q.x0), .sc (.int .i64 q.y0), .sc (.int .i64 q.x1), .sc (.int .i64 q.y1), .sc (.int .i64 q.z.1), .sc (.int .i64 q.z.2)]
def slC (qs : List (Rc (Int × Int))) : V := .sl qs.length 6 (qs.flatMap ccs)
def ownC (qs : List (Rc (Int × Int))) : SV := .own true 40 qs.length 6 (qs.flatMap ccs)
theorem slC_closed (qs : List (Rc (Int × Int))) : V.closed (slC qs) = true := by simp [slC, V.closed, closed_flat (enc := ccs) (fun _ => rfl)]
theorem rowC {qs : List (Rc (Int × Int))} {k : Nat} (h : k < qs.length) : AM.rowAt 6 (qs.flatMap ccs) (k : Int) = ccs qs[k] := row_flat (enc := ccs) (sz := 6) (fun _ => rfl) h
def TcI (y0 y1 : Int) (R : List (Run (Int × Int))) (out : List (Rc (Int × Int))) (id : Nat) (H0 : List Bk) (k : Nat) (F : Fr) (H : List Bk) : Prop := H[id]? = some (.cells [ownC (out ++ (R.take k).map (rect y0 y1))]) ∧ StaysBut id H0 H ∧
  F = [(0, .v (.sc (.int .i64 y0))), (1, .v (.sc (.int .i64 y1))), (3, .v (.ptr id 0)), (9, .v (slO R)), (10, .v (.sc (.int .i64 R.length))), (11, .v (.sc (.int .i64 k)))]
set_option maxHeartbeats 4000000 in
theorem rtellC (y0 y1 : Int) (R : List (Run (Int × Int))) (out : List (Rc (Int × Int))) (id : Nat) (H : List Bk) (h : H[id]? = some (.cells [ownC out])) (hn : out.length + R.length ≤ 1000000000000) :
    AFn Try.prog 33 [.sc (.int .i64 y0), .sc (.int .i64 y1), slO R, .ptr id 0] H fun y H' => H'[id]? = some (.cells [ownC (out ++ R.map (rect y0 y1))]) ∧ StaysBut id H H' := by
  refine AFn.intro (fn := Try.f33) (by kernel_rfl) rfl (by kernel_rfl) (by simp) (AW.ofx [] mixed (by kernel_rfl) ?_)
  simp only [Try.f33, argsF]
  simp [slO]
  refine AW.count R.length (TcI y0 y1 R out id H) ⟨_, ?_, by simpa using h, .refl, rfl⟩ ?_
  · simp [subW, weakV, getF, slO]
  rintro k F H1 hk ⟨hid, hs, rfl⟩
  refine AW.ofx [] mixed (by kernel_rfl) ?_
  by_cases hlt : k < R.length
  · have w1 : IntKind.i64.wrap ((k : Int) + 1) = (k : Int) + 1 := by rw [wrap_i64] <;> omega
    have hrow := rowOs hlt
    have hst : out ++ (R.take (k + 1)).map (rect y0 y1) = out ++ (R.take k).map (rect y0 y1) ++ [rect y0 y1 R[k]] := by rw [List.take_succ_eq_append_getElem hlt, List.map_append, ← List.append_assoc]; rfl
    have hlo : (out ++ (R.take k).map (rect y0 y1)).length ≤ 1000000000000 := by
      rw [List.length_append, List.length_map, List.length_take]
      omega
    unfold TcI
    rw [hst]
    generalize out ++ (R.take k).map (rect y0 y1) = o at *
    have hne : id ≠ H1.length := Nat.ne_of_lt (List.getElem?_eq_some_iff.1 hid).1
    have hb := appL (H := H1) (b := spB R[k])
    have hid2 := getA (L := [spB R[k]]) hid
    have hs2 := hs.append (L := [spB R[k]])
    have q1 := setBlk1 (y := .any) hid2
    have q2 := fun X => setSelf (k := X) hid2
    have q3 := setOther hb hne
    unfold spB at hb hid2 hs2 q1 q2 q3
    have q3' := fun X h => (List.getElem_eq_iff (i := H1.length) h).2 (q3 X)
    have q4 := fun y => (setBlk1 (y := y) (q2 (.cells [.any]))).trans (List.set_set ..)
    unfold ownC at hid2
    simp [slO, hlt, hrow, setL, hid2, ownC, q1, q2, q3, q3', q4, w1]
    refine ⟨by omega, _, ?_, rfl, hs2.trans .set, rfl⟩
    simp [subW, weakV, getF]
  · have hk' : k = R.length := by omega
    subst hk'
    rw [List.take_length] at hid
    simp [slO]
    exact ⟨hid, hs⟩
/-! ## Whether there is something -/
theorem rtellS (y0 y1 : Int) (R : List (Run (Int × Int))) (b : Bool) (id : Nat) (H : List Bk) (h : H[id]? = some (.cells [.v (.sc (.bool b))])) :
    AFn Try.prog 77 [.sc (.int .i64 y0), .sc (.int .i64 y1), slO R, .ptr id 0] H fun y H' => H'[id]? = some (.cells [.v (.sc (.bool (b || decide (0 < R.length))))]) ∧ StaysBut id H H' := by
  have q1 := fun y => setBlk1 (y := y) h
  have q2 := fun X => setSelf (k := X) h
  refine AFn.intro (fn := Try.f77) (by kernel_rfl) rfl (by kernel_rfl) (by simp) (AW.ofx [] mixed (by kernel_rfl) ?_)
  simp only [Try.f77, argsF]
  cases b with
  | true =>
    simp [slO, h, setCells, q1, q2]
    exact .set
  | false =>
    simp [slO, h, setCells, q1, q2]
    exact .set
/-! ## Bands -/
/-- What a function that is told bands keeps. -/
def TellB (P : Program) (g : FuncId) (cap : List V) (m : Nat) (S : List (Rc (Int × Int)) → List Bk → Prop) (okR : Run (Int × Int) → Prop) : Prop := ∀ (out : List (Rc (Int × Int))) (H : List Bk) (y0 y1 : Int) (R : List (Run (Int × Int))), S out H → 0 ≤ y0 → y0 ≤ y1 → y1 ≤ 65535 → (∀ r ∈ R, okR r) → out.length + R.length ≤ 10000000000 →
  AFn P g ([.sc (.int .i64 y0), .sc (.int .i64 y1), slO R] ++ cap) H fun _ H' => S (out ++ R.map (rect y0 y1)) H' ∧ StaysBut m H H'
def outO (q : Int → Int → Bool) (a b : List Ru) (w : Wo) (xs ys : List Int) (k : Nat) : List (Rc (Int × Int)) := emit (runsK (bandF (rowOf q a b w xs)) ys k)
def EaI (q : Int → Int → Bool) (g gt : FuncId) (cap : List V) (m : Nat) (S : List (Rc (Int × Int)) → List Bk → Prop) (w : Wo) (a b : List Ru) (xs ys : List Int) (H0 : List Bk) (n : Nat) (F : Fr) (H : List Bk) : Prop := ∃ i, (∀ hi : i < ys.length, ∀ j, ∀ hj : j < ys.length, i = j + 1 → i + 1 < ys.length → rowOf q a b w xs ys[j] ≠ rowOf q a b w xs ys[i]) ∧ i ≤ ys.length - 1 ∧ n = ys.length - i ∧
  S (outO q a b w xs ys i) H ∧ StaysBut m (H0 ++ [ovB w a b xs ys]) H ∧
  F = [(1, .v (.fn (.func g) [] [])), (2, .v (.fn (.func gt) [] cap)), (3, .v (.ptr H0.length 0)), (6, .v (.sc (.int .i64 i)))]
def EbI (q : Int → Int → Bool) (g gt : FuncId) (cap : List V) (w : Wo) (a b : List Ru) (xs ys : List Int) (H0 H1 : List Bk) (i : Nat) (hi : i < ys.length) (n : Nat) (F : Fr) (H : List Bk) : Prop := ∃ k, ∃ hk : k < ys.length, n = ys.length - k ∧ i < k ∧ (∀ j, ∀ hj : j < ys.length, i ≤ j → j < k → rowOf q a b w xs ys[j] = rowOf q a b w xs ys[i]) ∧ H = H1 ∧
  F = [(1, .v (.fn (.func g) [] [])), (2, .v (.fn (.func gt) [] cap)), (3, .v (.ptr H0.length 0)), (6, .v (.sc (.int .i64 i))), (7, .v (slO (rowOf q a b w xs ys[i]))), (8, .v (.sc (.int .i64 k)))]
set_option maxHeartbeats 16000000 in
theorem reach (q : Int → Int → Bool) (g : FuncId) (hq : HoldQ Try.prog g q) (gt : FuncId) (cap : List V) (m : Nat) (S : List (Rc (Int × Int)) → List Bk → Prop) (w : Wo) (a b : List Ru) (xs ys : List Int)
    (hT : TellB Try.prog gt cap m S fun r => ∃ y, r ∈ rowOf q a b w xs y) (hS : ∀ out H H', S out H → Stays H H' → S out H')
    (hl : a.length ≤ 9223372036854775807) (hb : ∀ r ∈ a, r.boxes.length ≤ 9223372036854775807) (hl' : b.length ≤ 9223372036854775807) (hb' : ∀ r ∈ b, r.boxes.length ≤ 9223372036854775807)
    (hx : xs.length ≤ 65537) (hy : ys.length ≤ 65537) (hxr : ∀ x ∈ xs, 0 ≤ x ∧ x ≤ 65536) (hyr : ∀ x ∈ ys, 0 ≤ x ∧ x ≤ 65536) (hsy : ys.Pairwise (· < ·)) (H : List Bk) (hm : m < H.length) (h : S [] H) :
    AFn Try.prog 31 [ovV w a b xs ys, .fn (.func g) [] [], .fn (.func gt) [] cap] H fun y H' => S (outO q a b w xs ys (ys.length - 1)) H' ∧ StaysBut m H H' := by
  have hR := fun y => rrow q g hq w a b xs ys y hl hb hl' hb' (by omega) hxr
  have hRl := fun y => rowOf_len q a b w xs y
  have cR := fun y => slO_closed (rowOf q a b w xs y)
  have hOl := fun k => emit_len (R := rowOf q a b w xs) (ys := ys) hRl k
  have hmul : ∀ k, k ≤ ys.length → k * xs.length ≤ 5000000000 := fun k hk => Nat.le_trans (Nat.mul_le_mul (show k ≤ 65537 by omega) hx) (by omega)
  have c1 : (ovV w a b xs ys).closed = true := by simp [ovV, V.closed, V.closedL, slU_closed, slI_closed]
  unfold ovV at hR c1 ⊢
  refine AFn.intro (fn := Try.f31) (by kernel_rfl) rfl (by kernel_rfl) (by simp) (AW.ofx [] mixed (by kernel_rfl) ?_)
  simp only [Try.f31, argsF]
  simp [slU, slI]
  refine AW.loopW (EaI q g gt cap m S w a b xs ys H) ⟨_, _, ?_, 0, fun hi j hj e => by omega, by omega, rfl, ?_, .refl, rfl⟩ ?_
  · simp [subW, weakV, getF]
  · exact hS _ _ _ h .app
  rintro n F H1 ⟨i, hnew, hi0, rfl, hS1, hst, rfl⟩
  have hov : H1[H.length]? = some (ovB w a b xs ys) := hst.cells (by omega) (appL (b := ovB w a b xs ys))
  unfold ovB at hov
  refine AW.ofx [] mixed (by kernel_rfl) ?_
  have w1 : IntKind.i64.wrap ((i : Int) + 1) = ((i + 1 : Nat) : Int) := by rw [wrap_i64] <;> omega
  by_cases hlt : i + 1 < ys.length
  rotate_left
  · have hii : i = ys.length - 1 := by omega
    have hlt' : ¬ (i : Int) + 1 < ys.length := by omega
    simp [slI, hov, w1, hlt', hlt]
    rw [← hii]
    exact ⟨hS1, fun j b hj hb hn => hst j b hj (getA hb) hn⟩
  have hi : i < ys.length := by omega
  have hlt' : (i : Int) + 1 < ys.length := by omega
  have hri := rowI hi
  unfold slI slU at hR c1
  unfold slI slU at hov
  simp [slI, hov, w1, hlt', hlt, hi, hri]
  have cg : ∀ y, V.closedL [V.agg [.sc (.int .i64 w.ro), .sc (.int .i64 w.ti), .sc (.int .i64 w.la), V.sl a.length 7 (a.flatMap Ru.cs), V.sl b.length 7 (b.flatMap Ru.cs), V.sl xs.length 1 (ints xs), V.sl ys.length 1 (ints ys)], .sc (.int .i64 y), V.fn (.func g) [] []] = true := fun y => by
    simpa [V.closedL, V.closed] using c1
  refine callK.pure (hR _) (cg _) (cR _) ?_
  simp [slI, hov, w1, hlt', hlt, hi, hri]
  refine AW.loopW (EbI q g gt cap w a b xs ys H H1 i hi) ⟨_, _, ?_, i + 1, hlt, rfl, by omega, fun j hj h1 h2 => by
    have : j = i := by omega
    subst this
    rfl, rfl, rfl⟩ ?_
  · simp [subW, weakV, getF, slI, w1]
  rintro n F H2 ⟨k, hk, rfl, hik, hsame, rfl, rfl⟩
  refine AW.ofx [] mixed (by kernel_rfl) ?_
  have wk : IntKind.i64.wrap ((k : Int) + 1) = ((k + 1 : Nat) : Int) := by rw [wrap_i64] <;> omega
  have hrk := rowI hk
  have hbk := hyr _ (List.getElem_mem hk)
  have hbi := hyr _ (List.getElem_mem hi)
  have hlik := pair_lt hsy (i := i) (j := k) hi hk hik
  have wv : IntKind.i64.wrap (ys[k] - 1) = ys[k] - 1 := by rw [wrap_i64] <;> omega
  have hal := fun y y' => eqSpansO (rowOf q a b w xs y) (rowOf q a b w xs y') (Nat.le_trans (hRl y) (by omega))
  have cLs := fun y y' => (show V.closedL [slO (rowOf q a b w xs y), slO (rowOf q a b w xs y')] = true by simp [V.closedL, cR])
  by_cases hgo : k + 1 < ys.length ∧ rowOf q a b w xs ys[i] = rowOf q a b w xs ys[k]
  · obtain ⟨hg1, hg2⟩ := hgo
    have hg1' : (k : Int) + 1 < ys.length := by omega
    have halk := hal ys[i] ys[k]
    rw [decide_eq_true hg2] at halk
    simp [slI, hov, wk, hg1, hg1', hk, hrk]
    refine callK.pure (hR _) (cg _) (cR _) ?_
    simp
    refine callK.pure halk (cLs _ _) rfl ?_
    simp [wk]
    refine ⟨ys.length - (k + 1), by omega, _, ?_, k + 1, hg1, rfl, by omega, fun j hj h1 h2 => ?_, rfl, rfl⟩
    · simp [subW, weakV, getF, slI]
    · by_cases e : j = k
      · subst e; exact hg2.symm
      · exact hsame j hj h1 (by omega)
  have hfin : outO q a b w xs ys k = outO q a b w xs ys i ++ (rowOf q a b w xs ys[i]).map (rect ys[i] (ys[k] - 1)) :=
    emit_stretch hsy hik hk (fun j hj e => hnew hi j hj e hlt) (fun j hj h1 h2 => hsame j hj h1 h2)
  have hnew2 : ∀ hk : k < ys.length, ∀ j, ∀ hj : j < ys.length, k = j + 1 → k + 1 < ys.length → rowOf q a b w xs ys[j] ≠ rowOf q a b w xs ys[k] := fun _ j hj e h1 e2 => hgo ⟨h1, by rw [← e2]; exact (hsame j hj (by omega) (by omega)).symm⟩
  have hTk := hT (outO q a b w xs ys i) H2 ys[i] (ys[k] - 1) (rowOf q a b w xs ys[i]) hS1 hbi.1 (by omega) (by omega) (fun r hr => ⟨_, hr⟩) (by
      have h1 := hOl i
      have h2 := hmul i (by omega)
      have h3 := hRl ys[i]
      unfold outO
      omega)
  rw [← hfin] at hTk
  simp only [List.cons_append, List.nil_append] at hTk
  by_cases hk1 : k + 1 < ys.length
  case' pos =>
    have hg1' : (k : Int) + 1 < ys.length := by omega
    have halk := hal ys[i] ys[k]
    rw [decide_eq_false (fun e => hgo ⟨hk1, e⟩)] at halk
    simp [slI, hov, wk, hk1, hg1', hk, hrk]
    refine callK.pure (hR _) (cg _) (cR _) ?_
    simp
    refine callK.pure halk (cLs _ _) rfl ?_
    simp [hov, wk, slI, hi, hk, hri, hrk, wv]
  case' neg =>
    have hg1' : ¬ (k : Int) + 1 < ys.length := by omega
    simp [slI, hov, wk, hk1, hg1', hi, hk, hri, hrk, wv]
  all_goals
    refine callK.of hTk ?_
    rintro y H3 ⟨hid3, hst3⟩
    simp [slI]
    refine ⟨ys.length - k, by omega, _, ?_, k, hnew2, by omega, rfl, hid3, hst.trans hst3, rfl⟩
    simp [subW, weakV, getF, slI]
end Go.Proofs.Ytbcfoakceloenaa
