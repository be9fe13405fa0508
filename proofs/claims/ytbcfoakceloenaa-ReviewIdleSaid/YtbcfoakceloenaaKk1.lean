/- Grant: the document. -/
import Derived.Test.YtbcfoakceloenaaKd
import Derived.Test.YtbcfoakceloenaaWf1
import Derived.Test.YtbcfoakceloenaaBf
import Derived.Test.YtbcfoakceloenaaKa
import Derived.Test.YtbcfoakceloenaaKi1
namespace Go.Proofs.Ytbcfoakceloenaa
set_option linter.all false
open Go.RowKit AM Can
set_option maxRecDepth 10000
attribute [local simp] aw_skip' aw_region' aw_seq' aw_cond' aw_block' aw_loop' aw_exit' aw_label' aw_ret' aops_nil' aops_cons' aop' aMove aAssign aPick aAlloc aBox aBuild slF aBuildSlice aLoad aLoadOwn aStore aStoreOwn isOwn delR aNilCheck aBin aMakeFunc aFieldAddr aField aIndexAddr aExtract aSliceOp aSlice aCallOp aCall' aLen aLenMap aDelete aMM aUn aConv aIface aAssert aMakeMap aLookup aMapUpdate aRange aNext aEntry entsOf keyB seekK aMakeSlice lookV aAppend putK layK eval evalV AM.valOf getF putF setF del SV.refers cellsAt rootSV plains shift ldV V.exact V.exactL V.ofValue V.ofPart V.ofCell V.cells V.one Value.oneCell' fitB qSeq qBlock getB afin aret resVs resV resTmps shareF evalS tupV valsS valsV pickV calm calmB lenV useOf feeds looks isT newsV partsV fillV putAt zerosV fitsNil nilB sliceB isEq isNeq awx_skip' awx_region' awx_seq' awx_cond' awx_block' awx_loop' awx_exit' awx_label' awx_ret' xops_nil' xops_cons' xop' xload xcall' addO delO inO putD memB Mix.effB Mix.laysB keysF badK subW weakV zeroRow yops_nil' yops_cons' yop' yload yindex yfield ylen oldO dropO takeO oldL exactB
attribute [local simp] awz_skip' awz_region' awz_seq' awz_cond' awz_block' awz_loop' awz_exit' awz_label' awz_ret' zops_nil' zops_cons' zop' zload zloadOwn zcall' z0 new0 remF old0 dltB

/-! ## Zooms are small -/
theorem allow_ge {q : Ru → Bool} : ∀ (l : List Ru) (z : Int), 0 ≤ z → 0 ≤ l.foldl (allowS q) z
  | [], z, h => h
  | r :: l, z, h => by
    rw [List.foldl_cons]
    apply allow_ge l
    unfold allowS
    split
    · omega
    · exact h
theorem cap_range {q : Ru → Bool} : ∀ (l : List Ru) (z : Int), (∀ r ∈ l, q r = true → 0 ≤ r.zoom) → 0 ≤ z → z ≤ 16 → 0 ≤ l.foldl (capS q) z ∧ l.foldl (capS q) z ≤ 16
  | [], z, _, h0, h1 => ⟨h0, h1⟩
  | r :: l, z, h, h0, h1 => by
    rw [List.foldl_cons]
    have hz := h r (by simp)
    apply cap_range l _ fun r hr => h r (by simp [hr])
    all_goals
      unfold capS
      split
      · rename_i hc
        have := hz hc.2.2
        omega
      · assumption
theorem ruRight_zoom {r : Ru} (h : ruRight r = true) : 0 ≤ r.zoom ∧ r.zoom ≤ 16 := by
  unfold ruRight smallN at h
  split at h
  · simp at h
    omega
  · simp at h
    omega
theorem for2_right {r : Ru} {ro ti la : Int} {p : Pt} (h : for2U ro ti la p r = true) : ruRight r = true := by
  unfold for2U forU at h
  simp at h
  exact h.1.1.1.1.1.1.1
theorem zoomR_range (l : List Ru) (ro ti la : Int) (p : Pt) : 0 ≤ zoomR l ro ti la p ∧ zoomR l ro ti la p ≤ 16 := by
  unfold zoomR
  split
  · unfold zoomD
    have h1 := allow_ge (q := for2U ro ti la p) l 0 (by decide)
    have h2 := allow_le (q := for2U ro ti la p) l 0 (M := 16) (fun r _ hq => (ruRight_zoom (for2_right hq)).2) (by decide)
    exact cap_range l _ (fun r _ hq => (ruRight_zoom (for2_right hq)).1) h1 h2
  · omega
/-- The label of a point, by the document. -/
def labR (l : List Ru) (ro ti la : Int) (y x : Int) : Option Int := labZ (zoomR l ro ti la ⟨x, y⟩)
theorem labZ_some {n z : Int} (h : labZ n = some z) : n = z ∧ z ≠ 0 := by
  unfold labZ at h
  split at h
  · cases h
  · cases h; exact ⟨rfl, by assumption⟩
/-! ## Runs of a row -/
theorem runsK_prev {f : Int → Option Int} {xs : List Int} {k : Nat} (h : k + 1 < xs.length) {z : Int} (hz : f xs[k] = some z) : ∃ R' r, runsK f xs (k + 1) = R' ++ [r] ∧ r.b + 1 = xs[k + 1] ∧ r.z = z := by
  rw [runsK_succ h]
  unfold Can.step
  rw [hz]
  simp only
  obtain ⟨R', a, e⟩ := push_last (R := runsK f xs k) (n := xs[k]) (m := xs[k + 1]) (z := z)
  exact ⟨R', _, e, by simp only; omega, rfl⟩
def wasK (l : List Ru) (ro ti la y : Int) (xs : List Int) : Nat → Int
  | 0 => 0
  | k + 1 => zoomR l ro ti la ⟨xs.getD k 0, y⟩
def rowD (l : List Ru) (ro ti la : Int) (xs : List Int) (y : Int) : List (Run Int) := runsK (labR l ro ti la y) xs (xs.length - 1)
theorem rowD_len (l : List Ru) (ro ti la : Int) (xs : List Int) (y : Int) : (rowD l ro ti la xs y).length ≤ xs.length := by
  have := runsK_len (f := labR l ro ti la y) (xs := xs) (xs.length - 1)
  unfold rowD
  omega
def setX1P (v : Int) (q : Rc Int) : Rc Int := { q with x1 := v }
theorem poke_x1 {R : List (Rc Int)} {q : Rc Int} {v : Int} : ((R ++ [q]).flatMap pcs).set (R.length * 5 + 2) (.sc (.int .i64 v)) = (R ++ [(⟨q.x0, q.y0, v, q.y1, q.z⟩ : Rc Int)]).flatMap pcs := by
  have := flat_mod (enc := pcs) (sz := 5) (o := 2) (v := .sc (.int .i64 v)) (f := setX1P v) (fun _ => rfl) (by decide) (fun _ => rfl) (k := R.length) (xs := R ++ [q]) (by simp)
  rw [this, modN_last]
  rfl
/-! ## Rows that are alike -/
def ends3 (q : Rc Int) : Int × Int × Int := (q.x0, q.x1, q.z)
def AkI (xs ys : List (Rc Int)) (k : Nat) (F : Fr) (H : List Bk) : Prop := (xs.take k).map ends3 = (ys.take k).map ends3 ∧ F = [(0, .v (slP xs)), (1, .v (slP ys)), (5, .v (.sc (.int .i64 k)))]
/-! ## Patches that are the same -/
theorem pa_eq {a b : Rc Int} : a = b ↔ a.x0 = b.x0 ∧ a.y0 = b.y0 ∧ a.x1 = b.x1 ∧ a.y1 = b.y1 ∧ a.z = b.z := by
  cases a; cases b; simp
def SmI (xs ys : List (Rc Int)) (k : Nat) (F : Fr) (H : List Bk) : Prop := xs.take k = ys.take k ∧ F = [(0, .v (slP xs)), (1, .v (slP ys)), (5, .v (.sc (.int .i64 k)))]
end Go.Proofs.Ytbcfoakceloenaa
namespace Go.Proofs.Ytbcfoakceloenaa
set_option linter.all false
open Go.RowKit AM Can
set_option maxRecDepth 10000
attribute [local simp] aw_skip' aw_region' aw_seq' aw_cond' aw_block' aw_loop' aw_exit' aw_label' aw_ret' aops_nil' aops_cons' aop' aMove aAssign aPick aAlloc aBox aBuild slF aBuildSlice aLoad aLoadOwn aStore aStoreOwn isOwn delR aNilCheck aBin aMakeFunc aFieldAddr aField aIndexAddr aExtract aSliceOp aSlice aCallOp aCall' aLen aLenMap aDelete aMM aUn aConv aIface aAssert aMakeMap aLookup aMapUpdate aRange aNext aEntry entsOf keyB seekK aMakeSlice lookV aAppend putK layK eval evalV AM.valOf getF putF setF del SV.refers cellsAt rootSV plains shift ldV V.exact V.exactL V.ofValue V.ofPart V.ofCell V.cells V.one Value.oneCell' fitB qSeq qBlock getB afin aret resVs resV resTmps shareF evalS tupV valsS valsV pickV calm calmB lenV useOf feeds looks isT newsV partsV fillV putAt zerosV fitsNil nilB sliceB isEq isNeq awx_skip' awx_region' awx_seq' awx_cond' awx_block' awx_loop' awx_exit' awx_label' awx_ret' xops_nil' xops_cons' xop' xload xcall' addO delO inO putD memB Mix.effB Mix.laysB keysF badK subW weakV zeroRow yops_nil' yops_cons' yop' yload yindex yfield ylen oldO dropO takeO oldL exactB
attribute [local simp] awz_skip' awz_region' awz_seq' awz_cond' awz_block' awz_loop' awz_exit' awz_label' awz_ret' zops_nil' zops_cons' zop' zload zloadOwn zcall' z0 new0 remF old0 dltB

def BoA (l : List Ru) (k : Nat) (F : Fr) (H : List Bk) : Prop := F = [(0, .v (slU l)), (3, ownR (boxesU (l.take k))), (4, .v (.sc (.int .i64 k)))]
def BoB (l : List Ru) (k : Nat) (c : List Re) (j : Nat) (F : Fr) (H : List Bk) : Prop := F = [(0, .v (slU l)), (3, ownR (boxesU (l.take k) ++ c.take j)), (4, .v (.sc (.int .i64 k))), (5, .v (.sc (.int .i64 j)))]
/-! ## Patches -/
def setY1P (v : Int) (q : Rc Int) : Rc Int := { q with y1 := v }
def outD (R : Int → List (Run Int)) (ys : List Int) (k : Nat) : List (Rc Int) := emit (runsK (bandF R) ys k)
/-- The document's patches. -/
def patR (l : List Ru) (ro ti la : Int) : List (Rc Int) := outD (rowD l ro ti la (edgesR (boxesU l) false)) (edgesR (boxesU l) true) ((edgesR (boxesU l) true).length - 1)
theorem ends3_row (y0 y1 : Int) (R : List (Run Int)) : (R.map (rect y0 y1)).map ends3 = R.map fun r => (r.a, r.b, r.z) := by simp [ends3, rect]
theorem runs_inj : ∀ {R S : List (Run Int)}, (R.map fun r => (r.a, r.b, r.z)) = (S.map fun r => (r.a, r.b, r.z)) → R = S
  | [], [], _ => rfl
  | [], _ :: _, h => by simp at h
  | _ :: _, [], h => by simp at h
  | r :: R, s :: S, h => by
    simp only [List.map_cons, List.cons.injEq, Prod.mk.injEq] at h
    obtain ⟨⟨h1, h2, h4⟩, h3⟩ := h
    cases r; cases s
    simp only at h1 h2 h4
    subst h1 h2 h4
    rw [runs_inj h3]
theorem edges_in {l : List Re} (hr : ∀ b ∈ l, rightR b = true) (d : Bool) : ∀ x ∈ edgesR l d, 0 ≤ x ∧ x ≤ 65536 := fun x hx => by
  rcases ((edgesR_spec l d).2 x).1 hx with rfl | rfl | ⟨r, hr', h⟩
  · omega
  · omega
  · have := rightR_iff.1 (hr _ hr')
    unfold lo hi at h
    cases d <;> simp at h <;> omega
def lin (l : List Ru) (ro ti la : Int) (xs : List Int) (y : Int) : List (Rc Int) := (rowD l ro ti la xs y).map (rect y y)
end Go.Proofs.Ytbcfoakceloenaa
namespace Go.Proofs.Ytbcfoakceloenaa
set_option linter.all false
open Go.RowKit AM Can
set_option maxRecDepth 10000
attribute [local simp] aw_skip' aw_region' aw_seq' aw_cond' aw_block' aw_loop' aw_exit' aw_label' aw_ret' aops_nil' aops_cons' aop' aMove aAssign aPick aAlloc aBox aBuild slF aBuildSlice aLoad aLoadOwn aStore aStoreOwn isOwn delR aNilCheck aBin aMakeFunc aFieldAddr aField aIndexAddr aExtract aSliceOp aSlice aCallOp aCall' aLen aLenMap aDelete aMM aUn aConv aIface aAssert aMakeMap aLookup aMapUpdate aRange aNext aEntry entsOf keyB seekK aMakeSlice lookV aAppend putK layK eval evalV AM.valOf getF putF setF del SV.refers cellsAt rootSV plains shift ldV V.exact V.exactL V.ofValue V.ofPart V.ofCell V.cells V.one Value.oneCell' fitB qSeq qBlock getB afin aret resVs resV resTmps shareF evalS tupV valsS valsV pickV calm calmB lenV useOf feeds looks isT newsV partsV fillV putAt zerosV fitsNil nilB sliceB isEq isNeq awx_skip' awx_region' awx_seq' awx_cond' awx_block' awx_loop' awx_exit' awx_label' awx_ret' xops_nil' xops_cons' xop' xload xcall' addO delO inO putD memB Mix.effB Mix.laysB keysF badK subW weakV zeroRow yops_nil' yops_cons' yop' yload yindex yfield ylen oldO dropO takeO oldL exactB
attribute [local simp] awz_skip' awz_region' awz_seq' awz_cond' awz_block' awz_loop' awz_exit' awz_label' awz_ret' zops_nil' zops_cons' zop' zload zloadOwn zcall' z0 new0 remF old0 dltB

def ofP1 (l : List Ru) (ro ti la : Int) (r : Re) (z : Int) (p : Pt) : Int := if hasR r p && decide (zoomR l ro ti la p < z) then zoomR l ro ti la p else z
def ofIn (l : List Ru) (ro ti la : Int) (r : Re) (ys : List Int) (z x : Int) : Int := ys.foldl (fun z y => ofP1 l ro ti la r z ⟨x, y⟩) z
/-- The document's zoom of a rectangle. -/
def ofRD (l : List Ru) (ro ti la : Int) (r : Re) : Int := (edgesR (boxesU l ++ [r]) false).foldl (ofIn l ro ti la r (edgesR (boxesU l ++ [r]) true)) 16
def OrA (l : List Ru) (ro ti la : Int) (r : Re) (xs ys : List Int) (i : Nat) (F : Fr) (H : List Bk) : Prop := Stays [reB r] H ∧ F = [(0, .v (slU l)), (1, .v (.sc (.int .i64 ro))), (2, .v (.sc (.int .i64 ti))), (3, .v (.sc (.int .i64 la))), (9, .v (.ptr 0 0)), (11, .v (.sc (.int .i64 ((xs.take i).foldl (ofIn l ro ti la r ys) 16)))), (13, .v (slI xs)), (14, .v (slI ys)), (15, .v (.sc (.int .i64 i)))]
def OrB (l : List Ru) (ro ti la : Int) (r : Re) (xs ys : List Int) (i : Nat) (x z0 : Int) (k : Nat) (F : Fr) (H : List Bk) : Prop := Stays [reB r] H ∧ F = [(0, .v (slU l)), (1, .v (.sc (.int .i64 ro))), (2, .v (.sc (.int .i64 ti))), (3, .v (.sc (.int .i64 la))), (9, .v (.ptr 0 0)), (11, .v (.sc (.int .i64 ((ys.take k).foldl (fun z y => ofP1 l ro ti la r z ⟨x, y⟩) z0)))), (13, .v (slI xs)), (14, .v (slI ys)), (15, .v (.sc (.int .i64 i))), (16, .v (.sc (.int .i64 k)))]
/-! ## Which zooms there are -/
def levIn (o : List Int) (qs : List (Rc Int)) : List Int := qs.foldl (fun o q => putI o q.z) o
/-- The document's zooms. -/
def levR (l : List Ru) (ro ti : Int) (n : Nat) : List Int := (List.range n).foldl (fun o (la : Nat) => levIn o (patR l ro ti la)) []
theorem levR_succ (l : List Ru) (ro ti : Int) (n : Nat) : levR l ro ti (n + 1) = levIn (levR l ro ti n) (patR l ro ti n) := by simp [levR, List.range_succ]
theorem levIn_len : ∀ (qs : List (Rc Int)) (o : List Int), (levIn o qs).length ≤ o.length + qs.length
  | [], o => by simp [levIn]
  | q :: qs, o => by
    have h1 := levIn_len qs (putI o q.z)
    have h2 := putI_len q.z o
    have e : levIn o (q :: qs) = levIn (putI o q.z) qs := rfl
    rw [e]
    simp
    omega
theorem patR_len (l : List Ru) (ro ti la : Int) (hn : (boxesU l).length ≤ 1000) : (patR l ro ti la).length ≤ 4008004 := by
  have h1 := emit_len (R := rowD l ro ti la (edgesR (boxesU l) false)) (ys := edgesR (boxesU l) true) (rowD_len l ro ti la _) ((edgesR (boxesU l) true).length - 1)
  have hlx := edgesR_len false (boxesU l)
  have hly := edgesR_len true (boxesU l)
  have h4 : ((edgesR (boxesU l) true).length - 1) * (edgesR (boxesU l) false).length ≤ 2002 * 2002 := Nat.mul_le_mul (by omega) (by omega)
  unfold patR outD
  omega
theorem levR_len (l : List Ru) (ro ti : Int) (hn : (boxesU l).length ≤ 1000) : ∀ n, (levR l ro ti n).length ≤ n * 4008004
  | 0 => by simp [levR]
  | n + 1 => by
    have h1 := levR_len l ro ti hn n
    have h2 := patR_len l ro ti n hn
    have h3 := levIn_len (patR l ro ti n) (levR l ro ti n)
    rw [levR_succ]
    omega
def LrI (l : List Ru) (ro ti : Int) (n : Nat) (F : Fr) (H : List Bk) : Prop := F = [(0, .v (slU l)), (1, .v (.sc (.int .i64 ro))), (2, .v (.sc (.int .i64 ti))), (7, .v (slI (levR l ro ti n))), (8, .v (.sc (.int .i64 n)))]
def LsI (l : List Ru) (ro ti : Int) (n : Nat) (qs : List (Rc Int)) (k : Nat) (F : Fr) (H : List Bk) : Prop := F = [(0, .v (slU l)), (1, .v (.sc (.int .i64 ro))), (2, .v (.sc (.int .i64 ti))), (7, .v (slI (levIn (levR l ro ti n) (qs.take k)))), (8, .v (.sc (.int .i64 n))), (9, .v (slP qs)), (10, .v (.sc (.int .i64 k)))]
end Go.Proofs.Ytbcfoakceloenaa
