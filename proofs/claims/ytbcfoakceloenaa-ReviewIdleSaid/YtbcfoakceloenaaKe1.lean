/- Grant: bands, a table that is made, and its patches, by the program. -/
import Derived.Test.YtbcfoakceloenaaKd
import Derived.Test.YtbcfoakceloenaaBf
namespace Go.Proofs.Ytbcfoakceloenaa
set_option linter.all false
open Go.RowKit AM Can
set_option maxRecDepth 10000
attribute [local simp] aw_skip' aw_region' aw_seq' aw_cond' aw_block' aw_loop' aw_exit' aw_label' aw_ret' aops_nil' aops_cons' aop' aMove aAssign aPick aAlloc aBox aBuild slF aBuildSlice aLoad aLoadOwn aStore aStoreOwn isOwn delR aNilCheck aBin aMakeFunc aFieldAddr aField aIndexAddr aExtract aSliceOp aSlice aCallOp aCall' aLen aLenMap aDelete aMM aUn aConv aIface aAssert aMakeMap aLookup aMapUpdate aRange aNext aEntry entsOf keyB seekK aMakeSlice lookV aAppend putK layK eval evalV AM.valOf getF putF setF del SV.refers cellsAt rootSV plains shift ldV V.exact V.exactL V.ofValue V.ofPart V.ofCell V.cells V.one Value.oneCell' fitB qSeq qBlock getB afin aret resVs resV resTmps shareF evalS tupV valsS valsV pickV calm calmB lenV useOf feeds looks isT newsV partsV fillV putAt zerosV fitsNil nilB sliceB isEq isNeq awx_skip' awx_region' awx_seq' awx_cond' awx_block' awx_loop' awx_exit' awx_label' awx_ret' xops_nil' xops_cons' xop' xload xcall' addO delO inO putD memB Mix.effB Mix.laysB keysF badK subW weakV zeroRow yops_nil' yops_cons' yop' yload yindex yfield ylen oldO dropO takeO oldL exactB
attribute [local simp] awz_skip' awz_region' awz_seq' awz_cond' awz_block' awz_loop' awz_exit' awz_label' awz_ret' zops_nil' zops_cons' zop' zload zloadOwn zcall' z0 new0 remF old0 dltB

theorem rises_at {xs : List Int} (h : xs.Pairwise (· < ·)) (h0 : ∀ x ∈ xs, 0 ≤ x) : ∀ (i : Nat) (hi : i < xs.length), (i : Int) ≤ xs[i]
  | 0, hi => by have := h0 _ (List.getElem_mem hi); simpa using this
  | i + 1, hi => by
    have h1 := rises_at h h0 i (by omega)
    have h2 := pair_lt h (i := i) (j := i + 1) (by omega) hi (by omega)
    omega
theorem rises_len {xs : List Int} {n : Nat} (h : xs.Pairwise (· < ·)) (h0 : ∀ x ∈ xs, 0 ≤ x ∧ x ≤ n) : xs.length ≤ n + 1 := by
  by_cases hl : xs.length = 0
  · omega
  have h1 := rises_at h (fun x hx => (h0 x hx).1) (xs.length - 1) (by omega)
  have h2 := (h0 _ (List.getElem_mem (l := xs) (n := xs.length - 1) (by omega))).2
  omega
def cutsG (l : List Ru) (d : Bool) : List Int := numsC (endsD d (boxesU l))
theorem cutsG_in {l : List Ru} (hr : ∀ b ∈ boxesU l, rightR b = true) (d : Bool) : ∀ x ∈ cutsG l d, 0 ≤ x ∧ x ≤ 65536 := fun x hx => by
  obtain ⟨b, hb, h⟩ := endsD_mem.1 (((numsC_spec _).2 x).1 hx)
  have := rightR_iff.1 (hr b hb)
  unfold lo hi at h
  cases d <;> simp at h <;> omega
theorem cutsG_len {l : List Ru} (hr : ∀ b ∈ boxesU l, rightR b = true) (d : Bool) : (cutsG l d).length ≤ 65537 := rises_len (n := 65536) (numsC_spec _).1 (cutsG_in hr d)
def outP (R : Int → List (Run Int)) (ys : List Int) (k : Nat) : List (Rc Int) := emit (runsK (bandF R) ys k)
/-- The patches of rules that are for someone. -/
def patG (l : List Ru) : List (Rc Int) := outP (rowG l (cutsG l false)) (cutsG l true) ((cutsG l true).length - 1)
end Go.Proofs.Ytbcfoakceloenaa
namespace Go.Proofs.Ytbcfoakceloenaa
set_option linter.all false
open Go.RowKit AM Can
set_option maxRecDepth 10000
attribute [local simp] aw_skip' aw_region' aw_seq' aw_cond' aw_block' aw_loop' aw_exit' aw_label' aw_ret' aops_nil' aops_cons' aop' aMove aAssign aPick aAlloc aBox aBuild slF aBuildSlice aLoad aLoadOwn aStore aStoreOwn isOwn delR aNilCheck aBin aMakeFunc aFieldAddr aField aIndexAddr aExtract aSliceOp aSlice aCallOp aCall' aLen aLenMap aDelete aMM aUn aConv aIface aAssert aMakeMap aLookup aMapUpdate aRange aNext aEntry entsOf keyB seekK aMakeSlice lookV aAppend putK layK eval evalV AM.valOf getF putF setF del SV.refers cellsAt rootSV plains shift ldV V.exact V.exactL V.ofValue V.ofPart V.ofCell V.cells V.one Value.oneCell' fitB qSeq qBlock getB afin aret resVs resV resTmps shareF evalS tupV valsS valsV pickV calm calmB lenV useOf feeds looks isT newsV partsV fillV putAt zerosV fitsNil nilB sliceB isEq isNeq awx_skip' awx_region' awx_seq' awx_cond' awx_block' awx_loop' awx_exit' awx_label' awx_ret' xops_nil' xops_cons' xop' xload xcall' addO delO inO putD memB Mix.effB Mix.laysB keysF badK subW weakV zeroRow yops_nil' yops_cons' yop' yload yindex yfield ylen oldO dropO takeO oldL exactB
attribute [local simp] awz_skip' awz_region' awz_seq' awz_cond' awz_block' awz_loop' awz_exit' awz_label' awz_ret' zops_nil' zops_cons' zop' zload zloadOwn zcall' z0 new0 remF old0 dltB

/-- A table at block t, with what was reckoned in the map in block m. -/
structure Tab (H : List Bk) (t m : Nat) (l : List Ru) (es : List (Value × V)) : Prop where
  t : H[t]? = some (.cells [.v (slU l), .v (.map m)])
  m : H[m]? = some (.map es)
theorem Tab.ne {H : List Bk} {t m : Nat} {l : List Ru} {es : List (Value × V)} (h : Tab H t m l es) : t ≠ m := by
  rintro rfl
  have := h.t.symm.trans h.m
  simp at this
theorem Tab.stays {H H' : List Bk} {t m : Nat} {l : List Ru} {es : List (Value × V)} (h : Tab H t m l es) (hs : Stays H H') : Tab H' t m l es := ⟨hs.cells h.t, hs.map h.m⟩
def zcU : List V := [.sc (.int .i64 0), .sc (.int .i64 0), .sc (.int .i64 0), .sc (.int .i64 0), .sc (.int .i64 0), .nil, .sc (.int .i64 0)]
/-- A row of rules, of which the first k stand. -/
def preU (l : List Ru) (k : Nat) : List V := (l.take k).flatMap Ru.cs ++ zerosV (l.length - k) zcU
theorem preU_len {l : List Ru} {k : Nat} (h : k ≤ l.length) : (preU l k).length = l.length * 7 := by
  have h1 := flat_len' (enc := Ru.cs) (sz := 7) (fun _ => rfl) (l.take k)
  have h2 : (zerosV (l.length - k) zcU).length = (l.length - k) * 7 := by simp [zerosV, zcU]
  unfold preU
  rw [List.length_append, h1, h2, List.length_take]
  omega
theorem preU_put {l : List Ru} {k : Nat} (h : k < l.length) : (preU l k).take (k * 7) ++ l[k].cs ++ (preU l k).drop (k * 7 + 7) = preU l (k + 1) := by
  have h1 := flat_len' (enc := Ru.cs) (sz := 7) (fun _ => rfl) (l.take k)
  have e : l.length - k = (l.length - (k + 1)) + 1 := by omega
  unfold preU
  rw [e, zerosV_succ, flat_take_succ h, List.append_assoc ((l.take k).flatMap Ru.cs)]
  exact putRow (A := (l.take k).flatMap Ru.cs) (x := l[k].cs) (z := zcU) (B := zerosV (l.length - (k + 1)) zcU) (k := k * 7) (by rw [h1, List.length_take]; congr 1; omega) rfl
def NwI (l : List Ru) (H0 : List Bk) (k : Nat) (F : Fr) (H : List Bk) : Prop := (Stays H0 H ∧ H0.length ≤ H.length) ∧ F = [(4, .own true 60 l.length 7 (preU l k)), (18, .v (slU l)), (19, .v (.sc (.int .i64 l.length))), (20, .v (.sc (.int .i64 k)))]
end Go.Proofs.Ytbcfoakceloenaa
namespace Go.Proofs.Ytbcfoakceloenaa
set_option linter.all false
open Go.RowKit AM Can
set_option maxRecDepth 10000
attribute [local simp] aw_skip' aw_region' aw_seq' aw_cond' aw_block' aw_loop' aw_exit' aw_label' aw_ret' aops_nil' aops_cons' aop' aMove aAssign aPick aAlloc aBox aBuild slF aBuildSlice aLoad aLoadOwn aStore aStoreOwn isOwn delR aNilCheck aBin aMakeFunc aFieldAddr aField aIndexAddr aExtract aSliceOp aSlice aCallOp aCall' aLen aLenMap aDelete aMM aUn aConv aIface aAssert aMakeMap aLookup aMapUpdate aRange aNext aEntry entsOf keyB seekK aMakeSlice lookV aAppend putK layK eval evalV AM.valOf getF putF setF del SV.refers cellsAt rootSV plains shift ldV V.exact V.exactL V.ofValue V.ofPart V.ofCell V.cells V.one Value.oneCell' fitB qSeq qBlock getB afin aret resVs resV resTmps shareF evalS tupV valsS valsV pickV calm calmB lenV useOf feeds looks isT newsV partsV fillV putAt zerosV fitsNil nilB sliceB isEq isNeq awx_skip' awx_region' awx_seq' awx_cond' awx_block' awx_loop' awx_exit' awx_label' awx_ret' xops_nil' xops_cons' xop' xload xcall' addO delO inO putD memB Mix.effB Mix.laysB keysF badK subW weakV zeroRow yops_nil' yops_cons' yop' yload yindex yfield ylen oldO dropO takeO oldL exactB
attribute [local simp] awz_skip' awz_region' awz_seq' awz_cond' awz_block' awz_loop' awz_exit' awz_label' awz_ret' zops_nil' zops_cons' zop' zload zloadOwn zcall' z0 new0 remF old0 dltB

def keyW (ro ti la : Int) : Value := .agg #[.int .i64 ro, .int .i64 ti, .int .i64 la]
def forL (l : List Ru) (ro ti la : Int) : List Ru := l.filter fun r => forU r ro ti la
/-- The patches of rules, for someone. -/
def patF (l : List Ru) (ro ti la : Int) : List (Rc Int) := patG (forL l ro ti la)
/-- What was reckoned is right. -/
def Memo (l : List Ru) (es : List (Value × V)) : Prop := ∀ e ∈ es, ∃ ro ti la, e = (keyW ro ti la, slP (patF l ro ti la))
theorem wsame3 (a b c a' b' c' : Int) : wsame [.int .i64 a, .int .i64 b, .int .i64 c] [.int .i64 a', .int .i64 b', .int .i64 c'] = some (a == a' && (b == b' && (c == c' && true))) := by simp [wsame]
theorem wgo_memo {l : List Ru} {ro ti la : Int} : ∀ {es : List (Value × V)} {i : Nat}, Memo l es → wgo [.int .i64 ro, .int .i64 ti, .int .i64 la] es i = some none ∨ ∃ j, wgo [.int .i64 ro, .int .i64 ti, .int .i64 la] es i = some (some (j, slP (patF l ro ti la)))
  | [], _, _ => .inl rfl
  | e :: es, i, h => by
    obtain ⟨a, b, c, rfl⟩ := h e (by simp)
    have ih := wgo_memo (l := l) (ro := ro) (ti := ti) (la := la) (es := es) (i := i + 1) fun e he => h e (by simp [he])
    unfold keyW
    simp only [wgo, wsame3]
    cases hb : (ro == a && (ti == b && (la == c && true))) with
    | true =>
      simp at hb
      obtain ⟨rfl, rfl, rfl⟩ := hb
      exact .inr ⟨_, rfl⟩
    | false => exact ih
theorem filter_succ {α : Type} {q : α → Bool} {xs : List α} {k : Nat} (h : k < xs.length) : (xs.take (k + 1)).filter q = if q xs[k] = true then (xs.take k).filter q ++ [xs[k]] else (xs.take k).filter q := by
  rw [List.take_succ_eq_append_getElem h, List.filter_append]
  cases hq : q xs[k] <;> simp [hq]
def kcs (ro ti la : Int) : Bk := .cells [.v (.sc (.int .i64 ro)), .v (.sc (.int .i64 ti)), .v (.sc (.int .i64 la))]
def PtI (l : List Ru) (ro ti la : Int) (t : Nat) (H0 : List Bk) (k : Nat) (F : Fr) (H : List Bk) : Prop := Stays (H0 ++ [kcs ro ti la]) H ∧ F = [(0, .v (.ptr t 0)), (1, .v (.sc (.int .i64 ro))), (2, .v (.sc (.int .i64 ti))), (3, .v (.sc (.int .i64 la))), (9, .v (.ptr H0.length 0)), (12, ownU ((l.take k).filter fun r => forU r ro ti la)), (34, .v (slU l)), (35, .v (.sc (.int .i64 l.length))), (36, .v (.sc (.int .i64 k)))]
theorem forL_boxes {l : List Ru} {ro ti la : Int} : ∀ b ∈ boxesU (forL l ro ti la), rightR b = true := fun b hb => by
  obtain ⟨r, hr, hb⟩ := List.mem_flatMap.1 hb
  have h := (List.mem_filter.1 hr).2
  unfold forU ruRight at h
  split at h
  · rename_i h6
    simp [h6] at h
  · simp at h
    exact h.1.1.1.1.1.1.1.2 b hb
theorem filter_flat_len {l : List Ru} {q : Ru → Bool} : (boxesU (l.filter q)).length ≤ (boxesU l).length := by
  induction l with
  | nil => simp [boxesU]
  | cons r l ih =>
    unfold boxesU at ih ⊢
    rw [List.filter_cons]
    split
    · simp only [List.flatMap_cons, List.length_append]; omega
    · simp only [List.flatMap_cons, List.length_append]; omega
end Go.Proofs.Ytbcfoakceloenaa
