/- Grant: the zoom of a point, and the runs of a row, by the program. -/
import Derived.Test.YtbcfoakceloenaaKa
import Derived.Test.YtbcfoakceloenaaBe1
namespace Go.Proofs.Ytbcfoakceloenaa
set_option linter.all false
open Go.RowKit AM Can
set_option maxRecDepth 10000
attribute [local simp] aw_skip' aw_region' aw_seq' aw_cond' aw_block' aw_loop' aw_exit' aw_label' aw_ret' aops_nil' aops_cons' aop' aMove aAssign aPick aAlloc aBox aBuild slF aBuildSlice aLoad aLoadOwn aStore aStoreOwn isOwn delR aNilCheck aBin aMakeFunc aFieldAddr aField aIndexAddr aExtract aSliceOp aSlice aCallOp aCall' aLen aLenMap aDelete aMM aUn aConv aIface aAssert aMakeMap aLookup aMapUpdate aRange aNext aEntry entsOf keyB seekK aMakeSlice lookV aAppend putK layK eval evalV AM.valOf getF putF setF del SV.refers cellsAt rootSV plains shift ldV V.exact V.exactL V.ofValue V.ofPart V.ofCell V.cells V.one Value.oneCell' fitB qSeq qBlock getB afin aret resVs resV resTmps shareF evalS tupV valsS valsV pickV calm calmB lenV useOf feeds looks isT newsV partsV fillV putAt zerosV fitsNil nilB sliceB isEq isNeq awx_skip' awx_region' awx_seq' awx_cond' awx_block' awx_loop' awx_exit' awx_label' awx_ret' xops_nil' xops_cons' xop' xload xcall' addO delO inO putD memB Mix.effB Mix.laysB keysF badK subW weakV zeroRow yops_nil' yops_cons' yop' yload yindex yfield ylen oldO dropO takeO oldL exactB
attribute [local simp] awz_skip' awz_region' awz_seq' awz_cond' awz_block' awz_loop' awz_exit' awz_label' awz_ret' zops_nil' zops_cons' zop' zload zloadOwn zcall' z0 new0 remF old0 dltB

/-! ## Whether some rectangle is one of which something holds -/
def AskB (P : Program) (g : FuncId) (cap : List V) (q : Re → Bool) (H : List Bk) : Prop := ∀ H', Stays H H' → ∀ b : Re, AFn P g (b.v :: cap) H' fun y H'' => y = .sc (.bool (q b)) ∧ Stays H' H''
def IxI (H0 : List Bk) (g : FuncId) (cap : List V) (q : Re → Bool) (l : List Re) (k : Nat) (F : Fr) (H : List Bk) : Prop := (∀ b ∈ l.take k, q b = false) ∧ Stays H0 H ∧ F = [(0, .v (slR l)), (1, .v (.fn (.func g) [] cap)), (7, .v (.sc (.int .i64 l.length))), (8, .v (.sc (.int .i64 k)))]
/-! ## The zoom of a point -/
def labZ (n : Int) : Option Int := if n = 0 then none else some n
def hasU (p : Pt) (r : Ru) : Bool := hasB r.boxes p
def GzI (p : Pt) (l : List Ru) (k : Nat) (F : Fr) (H : List Bk) : Prop := Stays [ptB2 p] H ∧ F = [(3, .v (.ptr 0 0)), (5, .v (.sc (.int .i64 ((l.take k).foldl (zoomS (hasU p)) (0, 16)).1))), (6, .v (.sc (.int .i64 ((l.take k).foldl (zoomS (hasU p)) (0, 16)).2))), (9, .v (slU l)), (10, .v (.sc (.int .i64 l.length))), (11, .v (.sc (.int .i64 k)))]
end Go.Proofs.Ytbcfoakceloenaa
namespace Go.Proofs.Ytbcfoakceloenaa
set_option linter.all false
open Go.RowKit AM Can
set_option maxRecDepth 10000
attribute [local simp] aw_skip' aw_region' aw_seq' aw_cond' aw_block' aw_loop' aw_exit' aw_label' aw_ret' aops_nil' aops_cons' aop' aMove aAssign aPick aAlloc aBox aBuild slF aBuildSlice aLoad aLoadOwn aStore aStoreOwn isOwn delR aNilCheck aBin aMakeFunc aFieldAddr aField aIndexAddr aExtract aSliceOp aSlice aCallOp aCall' aLen aLenMap aDelete aMM aUn aConv aIface aAssert aMakeMap aLookup aMapUpdate aRange aNext aEntry entsOf keyB seekK aMakeSlice lookV aAppend putK layK eval evalV AM.valOf getF putF setF del SV.refers cellsAt rootSV plains shift ldV V.exact V.exactL V.ofValue V.ofPart V.ofCell V.cells V.one Value.oneCell' fitB qSeq qBlock getB afin aret resVs resV resTmps shareF evalS tupV valsS valsV pickV calm calmB lenV useOf feeds looks isT newsV partsV fillV putAt zerosV fitsNil nilB sliceB isEq isNeq awx_skip' awx_region' awx_seq' awx_cond' awx_block' awx_loop' awx_exit' awx_label' awx_ret' xops_nil' xops_cons' xop' xload xcall' addO delO inO putD memB Mix.effB Mix.laysB keysF badK subW weakV zeroRow yops_nil' yops_cons' yop' yload yindex yfield ylen oldO dropO takeO oldL exactB
attribute [local simp] awz_skip' awz_region' awz_seq' awz_cond' awz_block' awz_loop' awz_exit' awz_label' awz_ret' zops_nil' zops_cons' zop' zload zloadOwn zcall' z0 new0 remF old0 dltB

def spn (r : Run Int) : List V := [.sc (.int .i64 r.a), .sc (.int .i64 r.b), .sc (.int .i64 r.z)]
def slS (rs : List (Run Int)) : V := .sl rs.length 3 (rs.flatMap spn)
theorem slS_closed (rs : List (Run Int)) : V.closed (slS rs) = true := by simp [slS, V.closed, closed_flat (enc := spn) (fun _ => rfl)]
theorem rowS {rs : List (Run Int)} {k : Nat} (h : k < rs.length) : AM.rowAt 3 (rs.flatMap spn) (k : Int) = [.sc (.int .i64 rs[k].a), .sc (.int .i64 rs[k].b), .sc (.int .i64 rs[k].z)] := row_flat (enc := spn) (sz := 3) (fun _ => rfl) h
/-- The label of a point, of rules. -/
def labU (l : List Ru) (y x : Int) : Option Int := labZ (zoomL (hasU ⟨x, y⟩) l)
def rowG (l : List Ru) (xs : List Int) (y : Int) : List (Run Int) := runsK (labU l y) xs (xs.length - 1)
theorem rowG_len (l : List Ru) (xs : List Int) (y : Int) : (rowG l xs y).length ≤ xs.length := by
  have := runsK_len (f := labU l y) (xs := xs) (xs.length - 1)
  unfold rowG
  omega
def setEnd (v : Int) (r : Run Int) : Run Int := { r with b := v }
theorem poke_end {R : List (Run Int)} {r : Run Int} {v : Int} : ((R ++ [r]).flatMap spn).set (R.length * 3 + 1) (.sc (.int .i64 v)) = (R ++ [(⟨r.a, v, r.z⟩ : Run Int)]).flatMap spn := by
  have := flat_mod (enc := spn) (sz := 3) (o := 1) (v := .sc (.int .i64 v)) (f := setEnd v) (fun _ => rfl) (by decide) (fun _ => rfl) (k := R.length) (xs := R ++ [r]) (by simp)
  rw [this, modN_last]
  rfl
theorem lastAt {R : List (Run Int)} {r : Run Int} (o : Nat) (ho : o < 3) : ((R ++ [r]).flatMap spn)[R.length * 3 + o]? = (spn r)[o]? := by
  have hl := flat_len' (enc := spn) (sz := 3) (fun _ => rfl) R
  rw [List.flatMap_append, List.getElem?_append_right (by omega), hl]
  simp
theorem rowLast {R : List (Run Int)} {r : Run Int} : AM.rowAt 3 ((R ++ [r]).flatMap spn) (R.length : Int) = [.sc (.int .i64 r.a), .sc (.int .i64 r.b), .sc (.int .i64 r.z)] := by
  have := rowS (rs := R ++ [r]) (k := R.length) (by simp)
  simpa using this
theorem runsK_mem {L : Type} [DecidableEq L] {f : Int → Option L} {xs : List Int} : ∀ k, ∀ r ∈ runsK f xs k, r.a ∈ xs ∧ r.b + 1 ∈ xs
  | 0, r, h => by simp [runsK] at h
  | k + 1, r, h => by
    have ih := runsK_mem (f := f) (xs := xs) k
    rw [runsK] at h
    split at h
    · rename_i n m hn hm
      have hn := List.mem_of_getElem? hn
      have hm := List.mem_of_getElem? hm
      unfold Can.step at h
      split at h
      · unfold push at h
        split at h
        · rename_i q hq
          split at h
          · rcases List.mem_append.1 h with h | h
            · exact ih r (List.dropLast_subset _ h)
            · simp at h
              subst h
              exact ⟨(ih q (List.mem_of_getLast? hq)).1, by simpa using hm⟩
          · rcases List.mem_append.1 h with h | h
            · exact ih r h
            · simp at h
              subst h
              exact ⟨hn, by simpa using hm⟩
        · simp at h
          subst h
          exact ⟨hn, by simpa using hm⟩
      · exact ih r h
    · exact ih r h
theorem runsK_ends {L : Type} [DecidableEq L] {f : Int → Option L} {xs : List Int} (hx : ∀ x ∈ xs, 0 ≤ x ∧ x ≤ 65536) (k : Nat) : ∀ r ∈ runsK f xs k, -1 ≤ r.b ∧ r.b ≤ 65535 := fun r hr => by
  have := hx _ (runsK_mem k r hr).2
  omega
theorem labZ_no {n : Int} (h : labZ n = none) : n = 0 := by
  unfold labZ at h
  split at h
  · assumption
  · cases h
end Go.Proofs.Ytbcfoakceloenaa
