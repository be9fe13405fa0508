/- Grant: a table is asked, by the program. -/
import Derived.Test.YtbcfoakceloenaaKe1
import Derived.Test.YtbcfoakceloenaaKh
import Derived.Test.YtbcfoakceloenaaWk1
namespace Go.Proofs.Ytbcfoakceloenaa
set_option linter.all false
open Go.RowKit AM Can
set_option maxRecDepth 10000
attribute [local simp] aw_skip' aw_region' aw_seq' aw_cond' aw_block' aw_loop' aw_exit' aw_label' aw_ret' aops_nil' aops_cons' aop' aMove aAssign aPick aAlloc aBox aBuild slF aBuildSlice aLoad aLoadOwn aStore aStoreOwn isOwn delR aNilCheck aBin aMakeFunc aFieldAddr aField aIndexAddr aExtract aSliceOp aSlice aCallOp aCall' aLen aLenMap aDelete aMM aUn aConv aIface aAssert aMakeMap aLookup aMapUpdate aRange aNext aEntry entsOf keyB seekK aMakeSlice lookV aAppend putK layK eval evalV AM.valOf getF putF setF del SV.refers cellsAt rootSV plains shift ldV V.exact V.exactL V.ofValue V.ofPart V.ofCell V.cells V.one Value.oneCell' fitB qSeq qBlock getB afin aret resVs resV resTmps shareF evalS tupV valsS valsV pickV calm calmB lenV useOf feeds looks isT newsV partsV fillV putAt zerosV fitsNil nilB sliceB isEq isNeq awx_skip' awx_region' awx_seq' awx_cond' awx_block' awx_loop' awx_exit' awx_label' awx_ret' xops_nil' xops_cons' xop' xload xcall' addO delO inO putD memB Mix.effB Mix.laysB keysF badK subW weakV zeroRow yops_nil' yops_cons' yop' yload yindex yfield ylen oldO dropO takeO oldL exactB
attribute [local simp] awz_skip' awz_region' awz_seq' awz_cond' awz_block' awz_loop' awz_exit' awz_label' awz_ret' zops_nil' zops_cons' zop' zload zloadOwn zcall' z0 new0 remF old0 dltB

/-- What a table promises: its rules, and what was reckoned is right. -/
def Kept (l : List Ru) (t m : Nat) (H0 H : List Bk) : Prop := (∃ es, Tab H t m l es ∧ Memo l es) ∧ StaysBut m H0 H
theorem Kept.trans {l : List Ru} {t m : Nat} {H0 H1 H2 : List Bk} (h : StaysBut m H0 H1) (k : Kept l t m H1 H2) : Kept l t m H0 H2 := ⟨k.1, h.trans k.2⟩
theorem Kept.app {l : List Ru} {t m : Nat} {H0 H1 L : List Bk} (k : Kept l t m H0 H1) : Kept l t m H0 (H1 ++ L) := by
  obtain ⟨⟨es, h1, h2⟩, h3⟩ := k
  exact ⟨⟨es, h1.stays .app, h2⟩, h3.append⟩
theorem patF_len (l : List Ru) (ro ti la : Int) : (patF l ro ti la).length ≤ 5000000000 := by
  have hR : ∀ y, (rowG (forL l ro ti la) (cutsG (forL l ro ti la) false) y).length ≤ (cutsG (forL l ro ti la) false).length := fun y => rowG_len _ _ y
  have h1 := emit_len (R := rowG (forL l ro ti la) (cutsG (forL l ro ti la) false)) (ys := cutsG (forL l ro ti la) true) hR ((cutsG (forL l ro ti la) true).length - 1)
  have h2 := cutsG_len (l := forL l ro ti la) forL_boxes false
  have h3 := cutsG_len (l := forL l ro ti la) forL_boxes true
  have h4 : ((cutsG (forL l ro ti la) true).length - 1) * (cutsG (forL l ro ti la) false).length ≤ 65537 * 65537 := Nat.mul_le_mul (by omega) h2
  unfold patF patG outP
  omega
def boxP (q : Rc Int) : Re := ⟨q.x0, q.y0, q.x1, q.y1⟩
/-- The zoom of a point, by patches. -/
def zoomP (qs : List (Rc Int)) (p : Pt) : Int := match qs.find? fun q => hasR (boxP q) p with
  | some q => q.z
  | none => 0
theorem find_take {α : Type} {q : α → Bool} {xs : List α} {k : Nat} (h : k < xs.length) (hn : ∀ x ∈ xs.take k, q x = false) (hq : q xs[k] = true) : xs.find? q = some xs[k] := by
  have e : xs.find? q = (xs.take k ++ xs.drop k).find? q := by rw [List.take_append_drop]
  rw [e, List.find?_append, List.find?_eq_none.2 (fun x hx => by rw [hn x hx]; decide), Option.none_or]
  have e2 := List.drop_eq_getElem_cons h
  have e3 : (xs[k] :: xs.drop (k + 1)).find? q = some xs[k] := List.find?_cons_of_pos hq
  rw [← e2] at e3
  exact e3
theorem find_no {α : Type} {q : α → Bool} {xs : List α} (hn : ∀ x ∈ xs, q x = false) : xs.find? q = none := List.find?_eq_none.2 (fun x hx => by rw [hn x hx]; decide)
def ZmI (l : List Ru) (qs : List (Rc Int)) (p : Pt) (b : Nat) (t m : Nat) (H0 : List Bk) (k : Nat) (F : Fr) (H : List Bk) : Prop := ((∀ q ∈ qs.take k, hasR (boxP q) p = false) ∧ Kept l t m H0 H ∧ H[b]? = some (ptB2 p)) ∧ F = [(9, .v (.ptr b 0)), (27, .v (slP qs)), (28, .v (.sc (.int .i64 qs.length))), (29, .v (.sc (.int .i64 k)))]
end Go.Proofs.Ytbcfoakceloenaa
namespace Go.Proofs.Ytbcfoakceloenaa
set_option linter.all false
open Go.RowKit AM Can
set_option maxRecDepth 10000
attribute [local simp] aw_skip' aw_region' aw_seq' aw_cond' aw_block' aw_loop' aw_exit' aw_label' aw_ret' aops_nil' aops_cons' aop' aMove aAssign aPick aAlloc aBox aBuild slF aBuildSlice aLoad aLoadOwn aStore aStoreOwn isOwn delR aNilCheck aBin aMakeFunc aFieldAddr aField aIndexAddr aExtract aSliceOp aSlice aCallOp aCall' aLen aLenMap aDelete aMM aUn aConv aIface aAssert aMakeMap aLookup aMapUpdate aRange aNext aEntry entsOf keyB seekK aMakeSlice lookV aAppend putK layK eval evalV AM.valOf getF putF setF del SV.refers cellsAt rootSV plains shift ldV V.exact V.exactL V.ofValue V.ofPart V.ofCell V.cells V.one Value.oneCell' fitB qSeq qBlock getB afin aret resVs resV resTmps shareF evalS tupV valsS valsV pickV calm calmB lenV useOf feeds looks isT newsV partsV fillV putAt zerosV fitsNil nilB sliceB isEq isNeq awx_skip' awx_region' awx_seq' awx_cond' awx_block' awx_loop' awx_exit' awx_label' awx_ret' xops_nil' xops_cons' xop' xload xcall' addO delO inO putD memB Mix.effB Mix.laysB keysF badK subW weakV zeroRow yops_nil' yops_cons' yop' yload yindex yfield ylen oldO dropO takeO oldL exactB
attribute [local simp] awz_skip' awz_region' awz_seq' awz_cond' awz_block' awz_loop' awz_exit' awz_label' awz_ret' zops_nil' zops_cons' zop' zload zloadOwn zcall' z0 new0 remF old0 dltB

def reB (r : Re) : Bk := .cells [.v (.sc (.int .i64 r.x0)), .v (.sc (.int .i64 r.y0)), .v (.sc (.int .i64 r.x1)), .v (.sc (.int .i64 r.y1))]
def ofS (r : Re) (s : Int × Int) (q : Rc Int) : Int × Int := if meetsR (boxP q) r then (IntKind.u64.wrap (s.1 - areaR (meetB (boxP q) r)), if q.z < s.2 then q.z else s.2) else s
/-- The zoom of a rectangle, by patches. -/
def ofP (qs : List (Rc Int)) (r : Re) : Int := if 0 < (qs.foldl (ofS r) ((areaR r : Nat), 16)).1 then 0 else (qs.foldl (ofS r) ((areaR r : Nat), 16)).2
def OfI (l : List Ru) (qs : List (Rc Int)) (r : Re) (b : Nat) (t m : Nat) (H0 : List Bk) (k : Nat) (F : Fr) (H : List Bk) : Prop := (Kept l t m H0 H ∧ H[b]? = some (reB r)) ∧
  F = [(9, .v (.ptr b 0)), (11, .v (.sc (.int .u64 ((qs.take k).foldl (ofS r) ((areaR r : Nat), 16)).1))), (12, .v (.sc (.int .i64 ((qs.take k).foldl (ofS r) ((areaR r : Nat), 16)).2))), (38, .v (slP qs)), (39, .v (.sc (.int .i64 qs.length))), (40, .v (.sc (.int .i64 k)))]
theorem setL2 {H : List Bk} {b : Bk} {xs : List SV} {ys : List V} (h : xs.length = ys.length) : setCells (H ++ [b, .cells xs]) (H.length + 1) 0 ys = H ++ [b, .cells (ys.map .v)] := by
  have := setL (H := H ++ [b]) h
  simpa using this
/-! ## Which zooms there are -/
def levG (l : List Ru) (ro ti : Int) (n : Nat) : List Int := (List.range n).flatMap fun la : Nat => (patF l ro ti la).map (·.z)
theorem levG_len (l : List Ru) (ro ti : Int) : ∀ n, (levG l ro ti n).length ≤ n * 5000000000
  | 0 => by simp [levG]
  | n + 1 => by
    have h1 := levG_len l ro ti n
    have h2 := patF_len l ro ti n
    have e : levG l ro ti (n + 1) = levG l ro ti n ++ (patF l ro ti n).map (·.z) := by simp [levG, List.range_succ]
    rw [e, List.length_append, List.length_map]
    omega
theorem levG_succ (l : List Ru) (ro ti : Int) (n : Nat) : levG l ro ti (n + 1) = levG l ro ti n ++ (patF l ro ti n).map (·.z) := by simp [levG, List.range_succ]
def LvI (l : List Ru) (ro ti : Int) (t m : Nat) (H0 : List Bk) (n : Nat) (F : Fr) (H : List Bk) : Prop := Kept l t m H0 H ∧
  F = [(0, .v (.ptr t 0)), (1, .v (.sc (.int .i64 ro))), (2, .v (.sc (.int .i64 ti))), (7, ownI (levG l ro ti n)), (20, .v (.sc (.int .i64 n)))]
def LwI (l : List Ru) (ro ti : Int) (t m : Nat) (H0 : List Bk) (n : Nat) (qs : List (Rc Int)) (k : Nat) (F : Fr) (H : List Bk) : Prop := Kept l t m H0 H ∧
  F = [(0, .v (.ptr t 0)), (1, .v (.sc (.int .i64 ro))), (2, .v (.sc (.int .i64 ti))), (7, ownI (levG l ro ti n ++ (qs.take k).map (·.z))), (20, .v (.sc (.int .i64 n))), (27, .v (slP qs)), (28, .v (.sc (.int .i64 qs.length))), (29, .v (.sc (.int .i64 k)))]
/-! ## Who may cloak -/
/-! ## A table that is not there -/
end Go.Proofs.Ytbcfoakceloenaa
