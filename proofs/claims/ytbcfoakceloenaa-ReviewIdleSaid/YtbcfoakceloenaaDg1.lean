/- Review: Changes, whether there is a point, everyone, by the program. -/
import Derived.Test.YtbcfoakceloenaaDe1
import Derived.Test.YtbcfoakceloenaaBe1
import Derived.Test.YtbcfoakceloenaaNu
namespace Go.Proofs.Ytbcfoakceloenaa
set_option linter.all false
open Go.RowKit AM Can
set_option maxRecDepth 10000
attribute [local simp] aw_skip' aw_region' aw_seq' aw_cond' aw_block' aw_loop' aw_exit' aw_label' aw_ret' aops_nil' aops_cons' aop' aMove aAssign aPick aAlloc aBox aBuild slF aBuildSlice aLoad aLoadOwn aStore aStoreOwn isOwn delR aNilCheck aBin aMakeFunc aFieldAddr aField aIndexAddr aExtract aSliceOp aSlice aCallOp aCall' aLen aLenMap aDelete aMM aUn aConv aIface aAssert aMakeMap aLookup aMapUpdate aRange aNext aEntry entsOf keyB seekK aMakeSlice lookV aAppend putK layK eval evalV AM.valOf getF putF setF del SV.refers cellsAt rootSV plains shift ldV V.exact V.exactL V.ofValue V.ofPart V.ofCell V.cells V.one Value.oneCell' fitB qSeq qBlock getB afin aret resVs resV resTmps shareF evalS tupV valsS valsV pickV calm calmB lenV useOf feeds looks isT newsV partsV fillV putAt zerosV fitsNil nilB sliceB isEq isNeq awx_skip' awx_region' awx_seq' awx_cond' awx_block' awx_loop' awx_exit' awx_label' awx_ret' xops_nil' xops_cons' xop' xload xcall' addO delO inO putD memB Mix.effB Mix.laysB keysF badK subW weakV zeroRow yops_nil' yops_cons' yop' yload yindex yfield ylen oldO dropO takeO oldL exactB
attribute [local simp] awz_skip' awz_region' awz_seq' awz_cond' awz_block' awz_loop' awz_exit' awz_label' awz_ret' zops_nil' zops_cons' zop' zload zloadOwn zcall' z0 new0 remF old0 dltB

def askL (ls : List (List Ru)) : Int := if ls.all fun l => decide (l.length ≤ 32) then (if ls.all fun l => l.all ruRight then 0 else 1) else 2
def argL (b : Bool) : Int := if b then 0 else 1
theorem sls_flat : ∀ ls : List (List Ru), ls.map slU = ls.flatMap fun l => [slU l]
  | [] => rfl
  | l :: ls => by simp [sls_flat ls]
theorem rowSls {ls : List (List Ru)} {k : Nat} (h : k < ls.length) : AM.rowAt 1 (ls.map slU) (k : Int) = [slU ls[k]] := by
  rw [sls_flat]
  exact row_flat (enc := fun l => [slU l]) (sz := 1) (fun _ => rfl) h
def RakI (ls : List (List Ru)) (k : Nat) (F : Fr) (H : List Bk) : Prop := (∀ l ∈ ls.take k, l.length ≤ 32) ∧ F = [(3, .v (.sc (.int .i64 (argL ((ls.take k).all fun l => l.all ruRight))))), (6, .v (slsU ls)), (7, .v (.sc (.int .i64 ls.length))), (8, .v (.sc (.int .i64 k)))]
theorem rvAsk (ls : List (List Ru)) (hl : ls.length ≤ 1000) (h1 : ∀ l ∈ ls, l.length ≤ 9223372036854775807) (hb : ∀ l ∈ ls, ∀ r ∈ l, r.boxes.length ≤ 9223372036854775807) : PFn Try.prog 28 [slsU ls] (.sc (.int .i64 (askL ls))) := by
  refine AFn.intro (fn := Try.f28) (by kernel_rfl) rfl (by kernel_rfl) (by simp) (AW.ofx [] mixed (by kernel_rfl) ?_)
  simp only [Try.f28, argsF]
  simp [slsU]
  refine AW.count ls.length (RakI ls) ⟨_, ?_, by simp, rfl⟩ ?_
  · simp [subW, weakV, getF, slsU, argL]
  rintro k F H hk ⟨ht, rfl⟩
  refine AW.ofx [] mixed (by kernel_rfl) ?_
  by_cases hlt : k < ls.length
  · have w1 : IntKind.i64.wrap ((k : Int) + 1) = (k : Int) + 1 := by rw [wrap_i64] <;> omega
    have hrow : AM.rowAt 1 (ls.map slU) (k : Int) = [V.sl ls[k].length 7 (ls[k].flatMap Ru.cs)] := rowSls hlt
    have hR := uRight ls[k] (h1 _ (List.getElem_mem hlt)) (hb _ (List.getElem_mem hlt))
    have c1 := slU_closed ls[k]
    have hst : ((ls.take (k + 1)).all fun l => l.all ruRight) = (((ls.take k).all fun l => l.all ruRight) && ls[k].all ruRight) := by
      rw [List.take_succ_eq_append_getElem hlt, List.all_append]
      simp
    generalize ((ls.take k).all fun l => l.all ruRight) = b0 at *
    unfold slU at hR c1
    by_cases h32 : 32 < ls[k].length
    · have h32' : (32 : Int) < ls[k].length := by omega
      have e : askL ls = 2 := by
        unfold askL
        rw [if_neg]
        intro h
        have := List.all_eq_true.1 h _ (List.getElem_mem hlt)
        simp at this
        omega
      simp [slsU, hlt, hrow, h32', h32, e]
    · have h32' : ¬ (32 : Int) < ls[k].length := by omega
      simp [slsU, hlt, hrow, h32', h32]
      refine callK.pure hR (by simp [V.closedL, c1]) rfl ?_
      have htn : ∀ l ∈ ls.take (k + 1), l.length ≤ 32 := fun l hl => by
        rw [List.take_succ_eq_append_getElem hlt] at hl
        rcases List.mem_append.1 hl with hl | hl
        · exact ht l hl
        · simp at hl; subst hl; omega
      cases hr : ls[k].all ruRight with
      | true =>
        rw [hr, Bool.and_true] at hst
        simp [w1, hlt]
        refine ⟨_, ?_, htn, rfl⟩
        rw [hst]
        simp [subW, weakV, getF, slsU]
      | false =>
        rw [hr, Bool.and_false] at hst
        simp [w1, hlt]
        refine ⟨_, ?_, htn, rfl⟩
        rw [hst]
        simp [subW, weakV, getF, slsU, argL]
  · have hk' : k = ls.length := by omega
    subst hk'
    rw [List.take_length] at ht
    have e : askL ls = argL (ls.all fun l => l.all ruRight) := by
      unfold askL argL
      rw [if_pos]
      exact List.all_eq_true.2 fun l hl => by simpa using ht l hl
    rw [List.take_length, ← e]
    simp [slsU]
/-! ## Two sets, laid over one another -/
def ovX (was is : List Ru) (w : Wo) : List Int := cutE (forL was w.ro w.ti w.la ++ forL is w.ro w.ti w.la) false
def ovY (was is : List Ru) (w : Wo) : List Int := cutE (forL was w.ro w.ti w.la ++ forL is w.ro w.ti w.la) true
/-- Rectangles of points of which something holds, by the program. -/
def ovP (q : Int → Int → Bool) (was is : List Ru) (w : Wo) : List (Rc (Int × Int)) := outO q (forL was w.ro w.ti w.la) (forL is w.ro w.ti w.la) w (ovX was is w) (ovY was is w) ((ovY was is w).length - 1)
theorem cutE_in {l : List Ru} (hr : ∀ b ∈ boxesU l, rightR b = true) (d : Bool) : ∀ x ∈ cutE l d, 0 ≤ x ∧ x ≤ 65536 := fun x hx => by
  have h := ((numsC_spec _).2 x).1 hx
  unfold endE at h
  rcases List.mem_append.1 h with h | h
  · simp at h
    omega
  · obtain ⟨b, hb, h⟩ := endsD_mem.1 h
    have := rightR_iff.1 (hr b hb)
    unfold lo hi at h
    cases d <;> simp at h <;> omega
theorem cutE_len {l : List Ru} (hr : ∀ b ∈ boxesU l, rightR b = true) (d : Bool) : (cutE l d).length ≤ 65537 := rises_len (n := 65536) (numsC_spec _).1 (cutE_in hr d)
theorem both_right (was is : List Ru) (w : Wo) : ∀ b ∈ boxesU (forL was w.ro w.ti w.la ++ forL is w.ro w.ti w.la), rightR b = true := fun b hb => by
  rw [boxesU_app] at hb
  rcases List.mem_append.1 hb with hb | hb
  · exact forL_boxes b hb
  · exact forL_boxes b hb
theorem outO_len (q : Int → Int → Bool) (a b : List Ru) (w : Wo) (xs ys : List Int) (hx : xs.length ≤ 65537) (hy : ys.length ≤ 65537) : (outO q a b w xs ys (ys.length - 1)).length ≤ 5000000000 := by
  have h1 := emit_len (R := rowOf q a b w xs) (ys := ys) (fun y => rowOf_len q a b w xs y) (ys.length - 1)
  have h2 := Nat.mul_le_mul (show ys.length - 1 ≤ 65537 by omega) hx
  unfold outO
  omega
theorem ovP_len (q : Int → Int → Bool) (was is : List Ru) (w : Wo) : (ovP q was is w).length ≤ 5000000000 := outO_len _ _ _ _ _ _ (cutE_len (both_right was is w) false) (cutE_len (both_right was is w) true)
/-- Each, over two sets: S holds of what was told. -/
theorem reachP (q : Int → Int → Bool) (g : FuncId) (hq : HoldQ Try.prog g q) (gt : FuncId) (cap : List V) (m : Nat) (S : List (Rc (Int × Int)) → List Bk → Prop) (was is : List Ru) (w : Wo)
    (hT : TellB Try.prog gt cap m S fun r => ∃ y, r ∈ rowOf q (forL was w.ro w.ti w.la) (forL is w.ro w.ti w.la) w (ovX was is w) y) (hS : ∀ out H H', S out H → Stays H H' → S out H')
    (h1 : was.length ≤ 1000) (h2 : is.length ≤ 1000) (n1 : (boxesU was).length ≤ 1000) (n2 : (boxesU is).length ≤ 1000) (H : List Bk) (hm : m < H.length) (h : S [] H) :
    AFn Try.prog 31 [ovV w (forL was w.ro w.ti w.la) (forL is w.ro w.ti w.la) (ovX was is w) (ovY was is w), .fn (.func g) [] [], .fn (.func gt) [] cap] H fun y H' => S (ovP q was is w) H' ∧ StaysBut m H H' := by
  have l1 := forL_len was w
  have l2 := forL_len is w
  have e1 : (boxesU (forL was w.ro w.ti w.la)).length ≤ (boxesU was).length := filter_flat_len
  have e2 : (boxesU (forL is w.ro w.ti w.la)).length ≤ (boxesU is).length := filter_flat_len
  have hr := both_right was is w
  exact reach q g hq gt cap m S w _ _ _ _ hT hS (by omega) (fun r hr => by have := mem_le (Nat.le_trans e1 n1) r hr; omega) (by omega) (fun r hr => by have := mem_le (Nat.le_trans e2 n2) r hr; omega)
    (cutE_len hr false) (cutE_len hr true) (cutE_in hr false) (cutE_in hr true) (numsC_spec _).1 H hm h
end Go.Proofs.Ytbcfoakceloenaa
namespace Go.Proofs.Ytbcfoakceloenaa
set_option linter.all false
open Go.RowKit AM Can
set_option maxRecDepth 10000
attribute [local simp] aw_skip' aw_region' aw_seq' aw_cond' aw_block' aw_loop' aw_exit' aw_label' aw_ret' aops_nil' aops_cons' aop' aMove aAssign aPick aAlloc aBox aBuild slF aBuildSlice aLoad aLoadOwn aStore aStoreOwn isOwn delR aNilCheck aBin aMakeFunc aFieldAddr aField aIndexAddr aExtract aSliceOp aSlice aCallOp aCall' aLen aLenMap aDelete aMM aUn aConv aIface aAssert aMakeMap aLookup aMapUpdate aRange aNext aEntry entsOf keyB seekK aMakeSlice lookV aAppend putK layK eval evalV AM.valOf getF putF setF del SV.refers cellsAt rootSV plains shift ldV V.exact V.exactL V.ofValue V.ofPart V.ofCell V.cells V.one Value.oneCell' fitB qSeq qBlock getB afin aret resVs resV resTmps shareF evalS tupV valsS valsV pickV calm calmB lenV useOf feeds looks isT newsV partsV fillV putAt zerosV fitsNil nilB sliceB isEq isNeq awx_skip' awx_region' awx_seq' awx_cond' awx_block' awx_loop' awx_exit' awx_label' awx_ret' xops_nil' xops_cons' xop' xload xcall' addO delO inO putD memB Mix.effB Mix.laysB keysF badK subW weakV zeroRow yops_nil' yops_cons' yop' yload yindex yfield ylen oldO dropO takeO oldL exactB
attribute [local simp] awz_skip' awz_region' awz_seq' awz_cond' awz_block' awz_loop' awz_exit' awz_label' awz_ret' zops_nil' zops_cons' zop' zload zloadOwn zcall' z0 new0 remF old0 dltB

def neB (a b : Int) : Bool := a != b
def ltB (a b : Int) : Bool := decide (a < b)
def allB (_ _ : Int) : Bool := true
def chP (was is : List Ru) (w : Wo) : List (Rc (Int × Int)) := if askL [was, is] = 0 ∧ numsU w.ro w.ti w.la = true then ovP neB was is w else []
/-- What is wrong with two sets and someone. -/
def chE (was is : List Ru) (w : Wo) : Int := if askL [was, is] = 0 then argL (numsU w.ro w.ti w.la) else askL [was, is]
def ScC (id : Nat) (out : List (Rc (Int × Int))) (H : List Bk) : Prop := H[id]? = some (.cells [ownC out])
theorem rtellCB (id : Nat) (okR : Run (Int × Int) → Prop) : TellB Try.prog 33 [.ptr id 0] id (ScC id) okR := fun out H y0 y1 R h _ _ _ _ hn => rtellC y0 y1 R out id H h (by omega)
theorem StaysBut.of2 {m : Nat} {H0 H1 H2 : List Bk} (h : StaysBut m H0 H1) (k : StaysBut m H1 H2) : StaysBut m H0 H2 := h.trans k
theorem askL2 (was is : List Ru) : askL [was, is] = 0 ∨ askL [was, is] ≠ 0 := by omega
set_option maxHeartbeats 4000000 in
theorem rchanges (was is : List Ru) (w : Wo) (h1 : was.length ≤ 9223372036854775807) (h2 : is.length ≤ 9223372036854775807) (b1 : ∀ r ∈ was, r.boxes.length ≤ 9223372036854775807) (b2 : ∀ r ∈ is, r.boxes.length ≤ 9223372036854775807)
    (hs : askL [was, is] = 0 → (boxesU was).length ≤ 1000 ∧ (boxesU is).length ≤ 1000) :
    PFn Try.prog 13 [slU was, slU is, w.v] (.tup [slC (chP was is w), .sc (.int .i64 (chE was is w))]) := by
  have hA := rvAsk [was, is] (by simp) (by simp; exact ⟨h1, h2⟩) (by simp; exact ⟨b1, b2⟩)
  have c1 := slU_closed was
  have c2 := slU_closed is
  unfold slsU at hA
  simp only [List.length_cons, List.length_nil, List.map_cons, List.map_nil] at hA
  have hW := rright w
  unfold Wo.v Wo.cs at hW ⊢
  by_cases h0 : askL [was, is] = 0
  · rw [h0] at hA
    cases hn : numsU w.ro w.ti w.la with
    | false =>
      have e1 : chP was is w = [] := by unfold chP; rw [if_neg]; rw [hn]; simp
      have e2 : chE was is w = 1 := by unfold chE; rw [if_pos h0, hn]; rfl
      rw [hn] at hW
      rw [e1, e2]
      refine AFn.out (r := .tup [.nil, .sc (.int .i64 1)]) ?_ fun I φ v hv => rel_tup_nil hv
      show PFn _ _ _ _
      unfold slU at hA c1 c2 ⊢
      simp only [V.closed] at c1 c2
      refine AFn.intro (fn := Try.f13) (by kernel_rfl) rfl (by kernel_rfl) (by simp) (AW.ofx [] mixed (by kernel_rfl) ?_)
      simp only [Try.f13, argsF]
      simp
      refine callK.pure hA (by simp [V.closedL, V.closed, c1, c2]) rfl ?_
      simp
      refine callK.pure hW rfl rfl ?_
      simp
    | true =>
      have e1 : chP was is w = ovP neB was is w := by unfold chP; rw [if_pos ⟨h0, hn⟩]
      have e2 : chE was is w = 0 := by unfold chE; rw [if_pos h0, hn]; rfl
      rw [hn] at hW
      rw [e1, e2]
      obtain ⟨n1, n2⟩ := hs h0
      have hle : was.length ≤ 32 ∧ is.length ≤ 32 := by
        unfold askL at h0
        split at h0
        · rename_i h
          simpa using h
        · cases h0
      have hO := rover was is w (by omega) (by omega) n1 n2
      have cO : (ovV w (forL was w.ro w.ti w.la) (forL is w.ro w.ti w.la) (cutE (forL was w.ro w.ti w.la ++ forL is w.ro w.ti w.la) false) (cutE (forL was w.ro w.ti w.la ++ forL is w.ro w.ti w.la) true)).closed = true := by simp [ovV, V.closed, V.closedL, slU_closed, slI_closed]
      have hE := fun id => reachP neB 32 hDiffer 33 [.ptr id 0] id (ScC id) was is w (rtellCB id _) (fun out H H' h hs => hs.cells h) (by omega) (by omega) n1 n2
      have hlen := ovP_len neB was is w
      unfold ovX ovY at hE
      unfold Wo.v Wo.cs at hO
      generalize ovV w (forL was w.ro w.ti w.la) (forL is w.ro w.ti w.la) (cutE (forL was w.ro w.ti w.la ++ forL is w.ro w.ti w.la) false) (cutE (forL was w.ro w.ti w.la ++ forL is w.ro w.ti w.la) true) = ov at *
      unfold slU at hA c1 c2 hO ⊢
      simp only [V.closed] at c1 c2
      refine AFn.intro (fn := Try.f13) (by kernel_rfl) rfl (by kernel_rfl) (by simp) ?_
      simp only [Try.f13, argsF]
      refine AW.seq (AW.ofx [] mixed (by kernel_rfl) ?_)
      simp
      refine AW.seq (AW.ofx [] mixed (by kernel_rfl) ?_)
      simp
      refine callK.pure hA (by simp [V.closedL, V.closed, c1, c2]) rfl ?_
      simp
      refine AW.seq (AW.ofx [] mixed (by kernel_rfl) ?_)
      simp
      refine callK.pure hW rfl rfl ?_
      simp
      refine AW.seq (AW.ofx [] mixed (by kernel_rfl) ?_)
      simp
      refine AW.seq (AW.ofx [] mixed (by kernel_rfl) ?_)
      simp
      refine callK.pure hO (by simp [V.closedL, V.closed, c1, c2]) cO ?_
      have hE1 := hE 1 [woB w, .cells [ownC []]] (by simp) rfl
      have hE2 : AFn Try.prog _ _ [woB w, .cells [.v .nil]] _ := hE1.weakCell (id := 1) (off := 0) (ks := [.v .nil]) (ownC []) rfl rfl (by simp [ownC, zeroRow]) rfl
      unfold woB at hE2
      simp
      refine callK.of hE2 ?_
      rintro y H2 ⟨hid, hs2⟩
      unfold ScC at hid
      simp
      refine AW.asSlCell (off := 0) hid (by unfold ownC; rfl) ?_
      have hid2 := setSelf (k := .cells [.v (slC (ovP neB was is w))]) hid
      have hP : V.sl (ovP neB was is w).length 6 ((ovP neB was is w).flatMap ccs) = slC (ovP neB was is w) := rfl
      simp only [List.set_cons_zero]
      rw [hP]
      generalize slC (ovP neB was is w) = r at *
      refine AW.ofx [] mixed (by kernel_rfl) ?_
      simp [hid2]
  · have e1 : chP was is w = [] := by unfold chP; rw [if_neg fun h => h0 h.1]
    have e2 : chE was is w = askL [was, is] := by unfold chE; rw [if_neg h0]
    rw [e1, e2]
    refine AFn.out (r := .tup [.nil, .sc (.int .i64 (askL [was, is]))]) ?_ fun I φ v hv => rel_tup_nil hv
    show PFn _ _ _ _
    generalize askL [was, is] = n at *
    have hb : (n != 0) = true := by simpa using h0
    unfold slU at hA c1 c2 ⊢
    simp only [V.closed] at c1 c2
    refine AFn.intro (fn := Try.f13) (by kernel_rfl) rfl (by kernel_rfl) (by simp) (AW.ofx [] mixed (by kernel_rfl) ?_)
    simp only [Try.f13, argsF]
    simp
    refine callK.pure hA (by simp [V.closedL, V.closed, c1, c2]) rfl ?_
    simp [hb]
end Go.Proofs.Ytbcfoakceloenaa
namespace Go.Proofs.Ytbcfoakceloenaa
set_option linter.all false
open Go.RowKit AM Can
set_option maxRecDepth 10000
attribute [local simp] aw_skip' aw_region' aw_seq' aw_cond' aw_block' aw_loop' aw_exit' aw_label' aw_ret' aops_nil' aops_cons' aop' aMove aAssign aPick aAlloc aBox aBuild slF aBuildSlice aLoad aLoadOwn aStore aStoreOwn isOwn delR aNilCheck aBin aMakeFunc aFieldAddr aField aIndexAddr aExtract aSliceOp aSlice aCallOp aCall' aLen aLenMap aDelete aMM aUn aConv aIface aAssert aMakeMap aLookup aMapUpdate aRange aNext aEntry entsOf keyB seekK aMakeSlice lookV aAppend putK layK eval evalV AM.valOf getF putF setF del SV.refers cellsAt rootSV plains shift ldV V.exact V.exactL V.ofValue V.ofPart V.ofCell V.cells V.one Value.oneCell' fitB qSeq qBlock getB afin aret resVs resV resTmps shareF evalS tupV valsS valsV pickV calm calmB lenV useOf feeds looks isT newsV partsV fillV putAt zerosV fitsNil nilB sliceB isEq isNeq awx_skip' awx_region' awx_seq' awx_cond' awx_block' awx_loop' awx_exit' awx_label' awx_ret' xops_nil' xops_cons' xop' xload xcall' addO delO inO putD memB Mix.effB Mix.laysB keysF badK subW weakV zeroRow yops_nil' yops_cons' yop' yload yindex yfield ylen oldO dropO takeO oldL exactB
attribute [local simp] awz_skip' awz_region' awz_seq' awz_cond' awz_block' awz_loop' awz_exit' awz_label' awz_ret' zops_nil' zops_cons' zop' zload zloadOwn zcall' z0 new0 remF old0 dltB

/-! ## Bits -/
def bitsN : List Bool → Nat
  | [] => 0
  | b :: bs => b.toNat + 2 * bitsN bs
theorem bitsN_lt : ∀ bs : List Bool, bitsN bs < 2 ^ bs.length
  | [] => by simp [bitsN]
  | b :: bs => by
    have := bitsN_lt bs
    cases b <;> simp [bitsN, Nat.pow_succ] <;> omega
theorem bitsN_app : ∀ (bs : List Bool) (b : Bool), bitsN (bs ++ [b]) = bitsN bs + (if b then 2 ^ bs.length else 0)
  | [], b => by cases b <;> simp [bitsN]
  | c :: bs, b => by
    have := bitsN_app bs b
    cases b <;> cases c <;> simp [bitsN, Nat.pow_succ] at this ⊢ <;> omega
theorem bitsN_inj : ∀ {bs cs : List Bool}, bs.length = cs.length → bitsN bs = bitsN cs → bs = cs
  | [], [], _, _ => rfl
  | [], _ :: _, h, _ => by simp at h
  | _ :: _, [], h, _ => by simp at h
  | b :: bs, c :: cs, h, e => by
    simp only [bitsN] at e
    simp at h
    have hb : b = c := by cases b <;> cases c <;> simp at e ⊢ <;> omega
    subst hb
    rw [bitsN_inj h (by omega)]
theorem bits_or {k : IntKind} (hk : k = .i64 ∨ k = .u64) {bs : List Bool} (h : bs.length ≤ 62) : orI k (bitsN bs : Nat) (2 ^ bs.length : Nat) = (bitsN (bs ++ [true]) : Nat) := by
  have h1 := bitsN_lt bs
  have h2 : 2 ^ bs.length ≤ 2 ^ 62 := Nat.pow_le_pow_right (by decide) h
  rw [orI_nat _ _ hk (by omega) (by omega), bitsN_app]
  have h3 := Nat.two_pow_add_eq_or_of_lt h1 1
  rw [Nat.mul_one, Nat.or_comm] at h3
  rw [← h3]
  simp
  omega
theorem shl_u64_1 {n : Nat} (h : n ≤ 62) : shlI .u64 1 n = (2 ^ n : Nat) := by
  have h2 : 2 ^ n ≤ 2 ^ 62 := Nat.pow_le_pow_right (by decide) h
  have := shlI_u64 1 n (by omega) (by omega)
  simpa using this
theorem shl_i64_1 {n : Nat} (h : n ≤ 61) : shlI .i64 1 n = (2 ^ n : Nat) := by
  have h2 : 2 ^ n ≤ 2 ^ 61 := Nat.pow_le_pow_right (by decide) h
  have := shlI_i64 1 n (by omega) (by omega)
  simpa using this
def maskU (l : List Ru) (w : Wo) : List Bool := l.map fun r => forU r w.ro w.ti w.la
def MkI (l : List Ru) (w : Wo) (k : Nat) (F : Fr) (H : List Bk) : Prop := Stays [woB w] H ∧ F = [(2, .v (.ptr 0 0)), (5, .v (.sc (.int .u64 (bitsN (maskU (l.take k) w) : Nat)))), (8, .v (slU l)), (9, .v (.sc (.int .i64 l.length))), (10, .v (.sc (.int .i64 k)))]
set_option maxHeartbeats 4000000 in
theorem rmask (l : List Ru) (w : Wo) (hl : l.length ≤ 32) (hb : ∀ r ∈ l, r.boxes.length ≤ 9223372036854775807) : PFn Try.prog 63 [w.v, slU l] (.sc (.int .u64 (bitsN (maskU l w) : Nat))) := by
  have hF := fun r h => ufor r w.ro w.ti w.la (hb r h)
  unfold Ru.v Ru.cs at hF
  unfold Wo.v Wo.cs
  refine AFn.intro (fn := Try.f63) (by kernel_rfl) rfl (by kernel_rfl) (by simp) (AW.ofx [] mixed (by kernel_rfl) ?_)
  simp only [Try.f63, argsF]
  simp [slU]
  refine AW.count l.length (MkI l w) ⟨_, ?_, .refl, rfl⟩ ?_
  · simp [subW, weakV, getF, slU, maskU, bitsN]
  rintro k F H hk ⟨hs, rfl⟩
  refine AW.ofx [] mixed (by kernel_rfl) ?_
  have h0 : H[0]? = some (woB w) := hs.cells rfl
  unfold woB at h0
  by_cases hlt : k < l.length
  · have w1 : IntKind.i64.wrap ((k : Int) + 1) = (k : Int) + 1 := by rw [wrap_i64] <;> omega
    have hk32 : ¬ (k : Int) < 0 := by omega
    have hrow := rowU hlt
    have hFk := hF _ (List.getElem_mem hlt)
    have hst : maskU (l.take (k + 1)) w = maskU (l.take k) w ++ [forU l[k] w.ro w.ti w.la] := by rw [List.take_succ_eq_append_getElem hlt]; simp only [maskU, List.map_append, List.map_cons, List.map_nil]
    have hml : (maskU (l.take k) w).length = k := by rw [maskU, List.length_map, List.length_take]; omega
    have cv : V.closedL [l[k].v] = true := by simp [V.closedL, V.closed, Ru.v, ru_closed]
    generalize maskU (l.take k) w = ms at *
    have o1 := bits_or (k := .u64) (.inr rfl) (bs := ms) (by omega)
    rw [hml] at o1
    have o2 := bitsN_app ms false
    have s1 := shl_u64_1 (n := k) (by omega)
    have hb2 := appL (H := H) (b := ruB l[k])
    have h0' := getA (L := [ruB l[k]]) h0
    have hs1 := hs.append (L := [ruB l[k]])
    unfold ruB slR at hb2 h0' hs1
    have h0e := fun h => (List.getElem_eq_iff (i := 0) h).2 h0'
    unfold slR at hrow hFk
    unfold Ru.v Ru.cs slR at cv
    simp [slU, hlt, hrow, setL, hb2, h0', h0e]
    refine callK.pure hFk (by simpa [V.closedL, V.closed] using cv) rfl ?_
    cases hq : forU l[k] w.ro w.ti w.la with
    | true =>
      rw [hq] at hst
      generalize 2 ^ k = p2 at *
      generalize hbz : bitsN (ms ++ [true]) = b2 at *
      simp [slU, binR_shl, binR_or, hk32, s1, o1, w1, hlt]
      refine ⟨_, ?_, hs1, rfl⟩
      rw [hst, hbz]
      simp [subW, weakV, getF, slU]
    | false =>
      rw [hq] at hst
      simp [slU, w1, hlt]
      refine ⟨_, ?_, hs1, rfl⟩
      rw [hst, o2]
      simp [subW, weakV, getF, slU]
  · have hk' : k = l.length := by omega
    subst hk'
    rw [List.take_length]
    simp [slU]
def cloakL (l : List Ru) : List Bool := (List.range 8).map fun n => cloaksU l (n : Nat)
def CkI (l : List Ru) (k : Nat) (F : Fr) (H : List Bk) : Prop := F = [(0, .v (slU l)), (3, .v (.sc (.int .i64 (bitsN ((List.range k).map fun n => cloaksU l (n : Nat)) : Nat)))), (5, .v (.sc (.int .i64 k)))]
theorem rcloaks (l : List Ru) (hl : l.length ≤ 9223372036854775807) (hb : ∀ r ∈ l, r.boxes.length ≤ 9223372036854775807) : PFn Try.prog 46 [slU l] (.sc (.int .i64 (bitsN (cloakL l) : Nat))) := by
  have hC := fun ro => ucloaks l ro hl hb
  have c1 := slU_closed l
  refine AFn.intro (fn := Try.f46) (by kernel_rfl) rfl (by kernel_rfl) (by simp) (AW.ofx [] mixed (by kernel_rfl) ?_)
  simp only [Try.f46, argsF]
  simp
  refine AW.count 8 (CkI l) ⟨_, ?_, rfl⟩ ?_
  · simp [subW, weakV, getF, bitsN]
  rintro k F H hk rfl
  refine AW.ofx [] mixed (by kernel_rfl) ?_
  by_cases hlt : k < 8
  · have w1 : IntKind.i64.wrap ((k : Int) + 1) = (k : Int) + 1 := by rw [wrap_i64] <;> omega
    have hk8 : (k : Int) < 8 := by omega
    have hk32 : ¬ (k : Int) < 0 := by omega
    have hml : ((List.range k).map fun n => cloaksU l (n : Nat)).length = k := by simp
    have hst : ((List.range (k + 1)).map fun n => cloaksU l (n : Nat)) = ((List.range k).map fun n => cloaksU l (n : Nat)) ++ [cloaksU l (k : Nat)] := by simp [List.range_succ]
    unfold CkI
    generalize ((List.range k).map fun n => cloaksU l (n : Nat)) = ms at *
    have o1 := bits_or (k := .i64) (.inl rfl) (bs := ms) (by omega)
    rw [hml] at o1
    have o2 := bitsN_app ms false
    have s1 := shl_i64_1 (n := k) (by omega)
    simp [hk8, hlt]
    refine callK.pure (hC _) (by simp [V.closedL, V.closed, c1]) rfl ?_
    cases hq : cloaksU l (k : Nat) with
    | true =>
      rw [hq] at hst
      generalize 2 ^ k = p2 at *
      generalize hbz : bitsN (ms ++ [true]) = b2 at *
      simp [binR_shl, binR_or, hk32, s1, o1, w1, hlt]
      rw [hst, hbz]
    | false =>
      rw [hq] at hst
      simp [w1, hlt]
      rw [hst, o2]
      simp [subW, weakV, getF]
  · have hk' : k = 8 := by omega
    subst hk'
    simp [cloakL]
/-! ## Whether there is a point -/
def someP (q : Int → Int → Bool) (was is : List Ru) (w : Wo) : Bool := decide (0 < (ovP q was is w).length)
def ScS (id : Nat) (out : List (Rc (Int × Int))) (H : List Bk) : Prop := H[id]? = some (.cells [.v (.sc (.bool (decide (0 < out.length))))])
theorem rtellSB (id : Nat) (okR : Run (Int × Int) → Prop) : TellB Try.prog 77 [.ptr id 0] id (ScS id) okR := fun out H y0 y1 R h _ _ _ _ hn => by
  have e : (decide (0 < out.length) || decide (0 < R.length)) = decide (0 < (out ++ R.map (rect y0 y1)).length) := by
    rw [List.length_append, List.length_map]
    rcases Nat.eq_zero_or_pos out.length with h1 | h1
    · rw [h1]; simp
    · have h2 : 0 < out.length + R.length := by omega
      rw [decide_eq_true h1, decide_eq_true h2, Bool.true_or]
  have := rtellS y0 y1 R (decide (0 < out.length)) id H h
  rw [e] at this
  exact this
theorem rsome (q : Int → Int → Bool) (g : FuncId) (hq : HoldQ Try.prog g q) (was is : List Ru) (w : Wo) (h1 : was.length ≤ 1000) (h2 : is.length ≤ 1000) (n1 : (boxesU was).length ≤ 1000) (n2 : (boxesU is).length ≤ 1000) :
    PFn Try.prog 64 [slU was, slU is, w.v, .fn (.func g) [] []] (.sc (.bool (someP q was is w))) := by
  have c1 := slU_closed was
  have c2 := slU_closed is
  have hO := rover was is w h1 h2 n1 n2
  have cO : (ovV w (forL was w.ro w.ti w.la) (forL is w.ro w.ti w.la) (cutE (forL was w.ro w.ti w.la ++ forL is w.ro w.ti w.la) false) (cutE (forL was w.ro w.ti w.la ++ forL is w.ro w.ti w.la) true)).closed = true := by simp [ovV, V.closed, V.closedL, slU_closed, slI_closed]
  have hE := reachP q g hq 77 [.ptr 1 0] 1 (ScS 1) was is w (rtellSB 1 _) (fun out H H' h hs => hs.cells h) h1 h2 n1 n2 [woB w, .cells [.v (.sc (.bool false))]] (by simp) rfl
  unfold ovX ovY at hE
  unfold Wo.v Wo.cs at hO ⊢
  generalize ovV w (forL was w.ro w.ti w.la) (forL is w.ro w.ti w.la) (cutE (forL was w.ro w.ti w.la ++ forL is w.ro w.ti w.la) false) (cutE (forL was w.ro w.ti w.la ++ forL is w.ro w.ti w.la) true) = ov at *
  unfold woB at hE
  unfold slU at c1 c2 hO ⊢
  simp only [V.closed] at c1 c2
  refine AFn.intro (fn := Try.f64) (by kernel_rfl) rfl (by kernel_rfl) (by simp) (AW.ofx [] mixed (by kernel_rfl) ?_)
  simp only [Try.f64, argsF]
  simp [setCells, setBlk]
  refine callK.pure hO (by simp [V.closedL, V.closed, c1, c2]) cO ?_
  simp
  refine callK.of hE ?_
  rintro y H2 ⟨hid, hs2⟩
  unfold ScS at hid
  simp [hid, someP]
end Go.Proofs.Ytbcfoakceloenaa
namespace Go.Proofs.Ytbcfoakceloenaa
set_option linter.all false
open Go.RowKit AM Can
set_option maxRecDepth 10000
attribute [local simp] aw_skip' aw_region' aw_seq' aw_cond' aw_block' aw_loop' aw_exit' aw_label' aw_ret' aops_nil' aops_cons' aop' aMove aAssign aPick aAlloc aBox aBuild slF aBuildSlice aLoad aLoadOwn aStore aStoreOwn isOwn delR aNilCheck aBin aMakeFunc aFieldAddr aField aIndexAddr aExtract aSliceOp aSlice aCallOp aCall' aLen aLenMap aDelete aMM aUn aConv aIface aAssert aMakeMap aLookup aMapUpdate aRange aNext aEntry entsOf keyB seekK aMakeSlice lookV aAppend putK layK eval evalV AM.valOf getF putF setF del SV.refers cellsAt rootSV plains shift ldV V.exact V.exactL V.ofValue V.ofPart V.ofCell V.cells V.one Value.oneCell' fitB qSeq qBlock getB afin aret resVs resV resTmps shareF evalS tupV valsS valsV pickV calm calmB lenV useOf feeds looks isT newsV partsV fillV putAt zerosV fitsNil nilB sliceB isEq isNeq awx_skip' awx_region' awx_seq' awx_cond' awx_block' awx_loop' awx_exit' awx_label' awx_ret' xops_nil' xops_cons' xop' xload xcall' addO delO inO putD memB Mix.effB Mix.laysB keysF badK subW weakV zeroRow yops_nil' yops_cons' yop' yload yindex yfield ylen oldO dropO takeO oldL exactB
attribute [local simp] awz_skip' awz_region' awz_seq' awz_cond' awz_block' awz_loop' awz_exit' awz_label' awz_ret' zops_nil' zops_cons' zop' zload zloadOwn zcall' z0 new0 remF old0 dltB

def personN (n : Nat) : Wo := ⟨(n / 64 : Nat), (n / 8 % 8 : Nat), (n % 8 : Nat)⟩
theorem person_at {i j k : Nat} (hj : j < 8) (hk : k < 8) : personN (64 * i + 8 * j + k) = ⟨i, j, k⟩ := by
  unfold personN
  congr 1 <;> omega
/-- What a function that is told everyone keeps: T ahead of the person n; it goes on as long as go says. -/
def TellW (P : Program) (g : FuncId) (cap : List V) (go : Nat → Bool) (T : Nat → List Bk → Prop) : Prop := ∀ (n : Nat) (H : List Bk), n < 512 → T n H → AFn P g ((personN n).v :: cap) H fun y H' => y = .sc (.bool (go (n + 1))) ∧ T (n + 1) H'
def Gone (go : Nat → Bool) (T : Nat → List Bk → Prop) (H : List Bk) : Prop := ∃ n, n ≤ 512 ∧ T n H ∧ (∀ j, 0 < j → j < n → go j = true) ∧ (n = 512 ∨ 0 < n ∧ go n = false)
def EvI (g : FuncId) (cap : List V) (go : Nat → Bool) (T : Nat → List Bk → Prop) (i : Nat) (F : Fr) (H : List Bk) : Prop := (T (64 * i) H ∧ ∀ j, 0 < j → j ≤ 64 * i → go j = true) ∧ F = [(0, .v (.fn (.func g) [] cap)), (5, .v (.sc (.int .i64 i)))]
def EvJ (g : FuncId) (cap : List V) (go : Nat → Bool) (T : Nat → List Bk → Prop) (i j : Nat) (F : Fr) (H : List Bk) : Prop := (T (64 * i + 8 * j) H ∧ ∀ n, 0 < n → n ≤ 64 * i + 8 * j → go n = true) ∧ F = [(0, .v (.fn (.func g) [] cap)), (2, .v (.sc (.int .i64 i))), (5, .v (.sc (.int .i64 i))), (8, .v (.sc (.int .i64 j)))]
def EvK (g : FuncId) (cap : List V) (go : Nat → Bool) (T : Nat → List Bk → Prop) (i j k : Nat) (F : Fr) (H : List Bk) : Prop := (T (64 * i + 8 * j + k) H ∧ ∀ n, 0 < n → n ≤ 64 * i + 8 * j + k → go n = true) ∧ F = [(0, .v (.fn (.func g) [] cap)), (2, .v (.sc (.int .i64 i))), (3, .v (.sc (.int .i64 j))), (5, .v (.sc (.int .i64 i))), (8, .v (.sc (.int .i64 j))), (11, .v (.sc (.int .i64 k)))]
set_option maxHeartbeats 4000000 in
theorem reveryone (g : FuncId) (cap : List V) (go : Nat → Bool) (T : Nat → List Bk → Prop) (hT : TellW Try.prog g cap go T) (H : List Bk) (h : T 0 H) : AFn Try.prog 61 [.fn (.func g) [] cap] H fun y H' => Gone go T H' := by
  refine AFn.intro (fn := Try.f61) (by kernel_rfl) rfl (by kernel_rfl) (by simp) (AW.ofx [] mixed (by kernel_rfl) ?_)
  simp only [Try.f61, argsF]
  simp
  refine AW.count 8 (EvI g cap go T) ⟨_, ?_, ⟨h, fun j h1 h2 => by omega⟩, rfl⟩ ?_
  · simp [subW, weakV, getF]
  rintro i F H1 hi ⟨⟨hTi, hgi⟩, rfl⟩
  refine AW.ofx [] mixed (by kernel_rfl) ?_
  by_cases hi8 : i < 8
  · have hi8' : (i : Int) < 8 := by omega
    have wi : IntKind.i64.wrap ((i : Int) + 1) = (i : Int) + 1 := by rw [wrap_i64] <;> omega
    simp [hi8', hi8]
    refine AW.count 8 (EvJ g cap go T i) ⟨_, ?_, ⟨hTi, hgi⟩, rfl⟩ ?_
    · simp [subW, weakV, getF]
    rintro j F H2 hj ⟨⟨hTj, hgj⟩, rfl⟩
    refine AW.ofx [] mixed (by kernel_rfl) ?_
    by_cases hj8 : j < 8
    · have hj8' : (j : Int) < 8 := by omega
      have wj : IntKind.i64.wrap ((j : Int) + 1) = (j : Int) + 1 := by rw [wrap_i64] <;> omega
      simp [hj8', hj8]
      refine AW.count 8 (EvK g cap go T i j) ⟨_, ?_, ⟨hTj, hgj⟩, rfl⟩ ?_
      · simp [subW, weakV, getF]
      rintro k F H3 hk ⟨⟨hTk, hgk⟩, rfl⟩
      refine AW.ofx [] mixed (by kernel_rfl) ?_
      by_cases hk8 : k < 8
      · have hk8' : (k : Int) < 8 := by omega
        have wk : IntKind.i64.wrap ((k : Int) + 1) = (k : Int) + 1 := by rw [wrap_i64] <;> omega
        have hTk2 := hT (64 * i + 8 * j + k) H3 (by omega) hTk
        rw [person_at hj8 hk8] at hTk2
        unfold Wo.v Wo.cs at hTk2
        simp [hk8', hk8]
        refine callK.of hTk2 ?_
        rintro y H4 ⟨rfl, h4⟩
        cases hg : go (64 * i + 8 * j + k + 1) with
        | true =>
          simp [hk8', hk8, wk]
          refine ⟨_, ?_, ⟨h4, fun n h1 h2 => ?_⟩, rfl⟩
          · simp [subW, weakV, getF]
          · by_cases e : n = 64 * i + 8 * j + k + 1
            · subst e; exact hg
            · exact hgk n h1 (by omega)
        | false =>
          simp
          exact ⟨_, by omega, h4, fun n h1 h2 => hgk n h1 (by omega), .inr ⟨by omega, hg⟩⟩
      · have hk' : k = 8 := by omega
        subst hk'
        simp [hj8, wj]
        refine ⟨_, ?_, ⟨hTk, hgk⟩, rfl⟩
        simp [subW, weakV, getF]
    · have hj' : j = 8 := by omega
      subst hj'
      simp [hi8, wi]
      refine ⟨_, ?_, ⟨hTj, hgj⟩, rfl⟩
      simp [subW, weakV, getF]
  · have hi' : i = 8 := by omega
    subst hi'
    simp
    exact ⟨512, by omega, hTi, fun n h1 h2 => hgi n h1 (by omega), .inl rfl⟩
end Go.Proofs.Ytbcfoakceloenaa
