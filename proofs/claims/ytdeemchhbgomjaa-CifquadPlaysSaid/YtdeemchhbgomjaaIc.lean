/- How many nodes shapes need, by the document. -/
import Derived.Test.YtdeemchhbgomjaaHo
import Derived.Test.YtdeemchhbgomjaaBi
import Derived.Test.YtdeemchhbgomjaaAt1
namespace Go.Proofs.Ytdeemchhbgomjaa
set_option linter.all false
open Go.RowKit AM
set_option maxRecDepth 10000
attribute [local simp] aw_skip' aw_region' aw_seq' aw_cond' aw_block' aw_loop' aw_exit' aw_label' aw_ret' aops_nil' aops_cons' aop' aMove aAssign aPick aAlloc aBox aBuild slF aBuildSlice aLoad aLoadOwn aStore aStoreOwn isOwn delR aNilCheck aBin aMakeFunc aFieldAddr aField aIndexOp aIndex partV aIndexAddr aExtract aSliceOp aSlice aShrink aCallOp aCall' aInvoke' aLen aLenMap aDelete aMM aUn aConv aIface aAssert aMakeMap aLookup aMapUpdate aRange aNext aEntry entsOf keyB seekK aMakeSlice lookV aAppend putK layK eval evalV AM.valOf getF putF setF del SV.refers cellsAt rootSV plains shift ldV V.exact V.exactL V.ofValue V.ofPart V.ofCell V.cells V.one Value.oneCell' fitB qSeq qBlock getB afin aret resVs resV resTmps shareF evalS tupV valsS valsV pickV calm calmB lenV useOf feeds shrinks stows looks isT newsV partsV fillV putAt zerosV fitsNil nilB sliceB isEq isNeq awx_skip' awx_region' awx_seq' awx_cond' awx_block' awx_loop' awx_exit' awx_label' awx_ret' xops_nil' xops_cons' xop' xload xcall' addO delO inO putD memB Mix.effB Mix.laysB keysF badK subW weakV zeroRow yops_nil' yops_cons' yop' yload yindex yfield ylen oldO dropO takeO oldL exactB
attribute [local simp] awz_skip' awz_region' awz_seq' awz_cond' awz_block' awz_loop' awz_exit' awz_label' awz_ret' zops_nil' zops_cons' zop' zload zloadOwn zcall' z0 new0 remF old0 dltB

def insC (cs : List Ce) (c : Ce) : List Ce := if c ∈ cs then cs else cs ++ [c]
/-- A row of cells of the call's own. -/
def ownCe (cs : List Ce) : SV := .own true 24 cs.length 3 (cs.flatMap Ce.cs)
theorem rowCe {cs : List Ce} {k : Nat} (hk : k < cs.length) : ((cs.flatMap Ce.cs).drop (k * 3)).take 3 = cs[k].cs := flat_get (enc := Ce.cs) (fun _ => rfl) hk
theorem cev_eq (c : Ce) : c.v = .agg [.sc (.int .i64 c.l), .sc (.int .i64 c.x), .sc (.int .i64 c.y)] := rfl
theorem ces_eq (c : Ce) : c.cs = [.sc (.int .i64 c.l), .sc (.int .i64 c.x), .sc (.int .i64 c.y)] := rfl
def PuI (cs : List Ce) (fc : List V) (c : Ce) (H0 : List Bk) (k : Nat) (F : Fr) (H : List Bk) : Prop := (∀ j (h : j < cs.length), j < k → cs[j] ≠ c) ∧ H = H0 ++ [ceB c] ∧ F = [(0, .own true 24 cs.length 3 fc), (3, .v (.ptr H0.length 0)), (5, .v (.sc (.int .i64 k)))]
theorem refput (cs : List Ce) (c : Ce) (H : List Bk) (hl : cs.length < 1000000) :
    OFn Try.prog 49 24 cs.length 3 (cs.flatMap Ce.cs) [c.v] H fun n' cs' H' => n' = (insC cs c).length ∧ cs' = (insC cs c).flatMap Ce.cs ∧ Kp NoB H H' := by
  rw [cev_eq]
  refine OFn.intro (t := 4) (fn := Try.f49) (by kernel_rfl) rfl (by kernel_rfl) (by simp) rfl ?_
  simp only [Try.f49, argsF]
  have hr := fun k (h : k < cs.length) => rowCe h
  have hln := flat_len' (enc := Ce.cs) (sz := 3) (fun _ => rfl) cs
  have hap : cs.flatMap Ce.cs ++ [.sc (.int .i64 c.l), .sc (.int .i64 c.x), .sc (.int .i64 c.y)] = (cs ++ [c]).flatMap Ce.cs := by simp [ces_eq c]
  generalize hfc : cs.flatMap Ce.cs = fc at *
  refine AW.seq (AW.ofx [] mixed (by kernel_rfl) ?_)
  simp
  refine AW.seq (AW.ofx [] mixed (by kernel_rfl) ?_)
  simp
  refine AW.count cs.length (PuI cs fc c H) ⟨_, ?_, fun _ _ h => by omega, rfl, rfl⟩ ?_
  · simp [subW, weakV, getF]
  rintro k F H1 hk ⟨hno, rfl, rfl⟩
  unfold ceB
  by_cases hlt : k < cs.length
  · have w1 : IntKind.i64.wrap ((k : Int) + 1) = (k : Int) + 1 := by rw [wrap_i64] <;> omega
    have hr' := hr k hlt
    rw [ces_eq] at hr'
    have hb : 3 ≤ fc.length - k * 3 := by omega
    refine AW.seq (AW.ofx [] mixed (by kernel_rfl) ?_)
    simp [hlt]
    refine AW.seq (AW.block (AW.seq (AW.ofx [] mixed (by kernel_rfl) ?_)))
    by_cases he : cs[k] = c
    · simp [hlt, hr', hb, hEq2, hGCe, he]
      refine AW.cond true (by simp [getB, getF, eval]) (fun _ => AW.seq (AW.ownMove rfl rfl rfl rfl (by decide) rfl ?_)) (fun h => by cases h)
      simp
      refine AW.ofx [] mixed (by kernel_rfl) ?_
      have hm : c ∈ cs := he ▸ List.getElem_mem _
      simp [oEnd, ofin, insC, hm, hfc]
      exact Kp.refl.app
    · simp [hlt, hr', hb, hEq2, hGCe, he]
      refine AW.ofx [] mixed (by kernel_rfl) ?_
      simp
      refine AW.ofx [] mixed (by kernel_rfl) ?_
      simp [w1]
      refine ⟨_, ?_, fun j h hj => ?_, rfl, rfl⟩
      · simp [subW, weakV, getF]
      · by_cases e : j = k
        · subst e
          exact he
        · exact hno j h (by omega)
  · have hk' : k = cs.length := by omega
    subst hk'
    refine AW.seq (AW.ofx [] mixed (by kernel_rfl) ?_)
    simp
    refine AW.seq (AW.ofx [] mixed (by kernel_rfl) ?_)
    simp
    refine ⟨by omega, AW.seq (AW.ownMove rfl rfl rfl rfl (by decide) rfl ?_)⟩
    simp
    refine AW.ofx [] mixed (by kernel_rfl) ?_
    have hm : c ∉ cs := fun hc => by
      obtain ⟨j, hj, e⟩ := List.getElem_of_mem hc
      exact hno j hj hj e
    simp [oEnd, ofin, insC, hm, hap]
    exact Kp.refl.app
def insAll (cs ds : List Ce) : List Ce := ds.foldl insC cs
theorem insC_len (cs : List Ce) (c : Ce) : (insC cs c).length ≤ cs.length + 1 := by
  unfold insC
  split <;> simp
theorem insAll_len : ∀ (ds cs : List Ce), (insAll cs ds).length ≤ cs.length + ds.length
  | [], cs => by simp [insAll]
  | d :: ds, cs => by
    have h1 := insAll_len ds (insC cs d)
    have h2 := insC_len cs d
    simp only [insAll, List.foldl_cons, List.length_cons] at h1 ⊢
    omega
theorem insAll_snoc (cs ds : List Ce) (d : Ce) : insAll cs (ds ++ [d]) = insC (insAll cs ds) d := by simp [insAll]
/-- The cells that a cell stands under, and itself. -/
def abvs (h : Ce) : List Ce := (List.range (h.l.toNat + 1)).map fun k => (aboveR h (k : Nat)).1
theorem abvs_len (h : Ce) : (abvs h).length = h.l.toNat + 1 := by simp [abvs]
def hmO (s : Sh) : Ce := (homeR s.box).1
def refC (xs : List Sh) : List Ce := insAll [⟨0, 0, 0⟩] (xs.flatMap fun s => abvs (hmO s))
theorem hmO_l (s : Sh) : 0 ≤ (hmO s).l ∧ (hmO s).l ≤ 16 := by
  unfold hmO
  by_cases h : rightR s.box = true
  · have hr := home_right h
    have := (rightC_iff.1 hr).1
    have hh : (homeR s.box).1 = hm s := by simp [homeR, h, hm]
    rw [hh]
    exact this
  · simp [homeR, h, Ce.zero]
theorem flat_abvs_len : ∀ xs : List Sh, (xs.flatMap fun s => abvs (hmO s)).length ≤ 17 * xs.length
  | [] => by simp
  | x :: xs => by
    have h1 := flat_abvs_len xs
    have h2 := hmO_l x
    rw [List.flatMap_cons, List.length_append, abvs_len, List.length_cons]
    omega
theorem refC_len (xs : List Sh) : (refC xs).length ≤ 1 + 17 * xs.length := by
  have h1 := insAll_len (xs.flatMap fun s => abvs (hmO s)) [⟨0, 0, 0⟩]
  have h2 := flat_abvs_len xs
  unfold refC
  simp only [List.length_cons, List.length_nil] at h1
  omega
theorem refC_snoc {xs : List Sh} {k : Nat} (hk : k < xs.length) : refC (xs.take (k + 1)) = insAll (refC (xs.take k)) (abvs (hmO xs[k])) := by
  unfold refC insAll
  rw [List.take_succ_eq_append_getElem hk, List.flatMap_append, List.foldl_append]
  simp
def NoO (xs : List Sh) (fs : List V) (k : Nat) (F : Fr) (H : List Bk) : Prop := F = [(0, .v (.sl xs.length 6 fs)), (3, ownCe (refC (xs.take k))), (4, .v (.sc (.int .i64 k)))]
def NoN (xs : List Sh) (fs : List V) (k : Nat) (acc : List Ce) (h : Ce) (q : Nat) (j : Nat) (F : Fr) (H : List Bk) : Prop := H[q]? = some (ceB h) ∧ F = [(0, .v (.sl xs.length 6 fs)), (3, ownCe (insAll acc ((abvs h).take j))), (4, .v (.sc (.int .i64 k))), (5, .v (.ptr q 0)), (7, .v (.sc (.int .i64 j)))]
theorem refNodes (xs : List Sh) (hx : xs.length ≤ 1000) : PFn Try.prog 27 [slS xs] (.sc (.int .i64 (refC xs).length)) := by
  unfold slS
  have hrow := fun k (h : k < xs.length) => row_flat (enc := Sh.cs) (sz := 6) (fun _ => rfl) h
  generalize hfs : xs.flatMap Sh.cs = fs at *
  refine AFn.intro (fn := Try.f27) (by kernel_rfl) rfl (by kernel_rfl) (by simp) ?_
  simp only [Try.f27, argsF]
  refine AW.seq (AW.ofx [] mixed (by kernel_rfl) ?_)
  simp
  refine AW.seq (AW.ofx [] mixed (by kernel_rfl) ?_)
  simp
  refine AW.seq (AW.seq (AW.ofx [] mixed (by kernel_rfl) ?_))
  simp
  refine AW.block (AW.count xs.length (NoO xs fs) ⟨_, ?_, rfl⟩ ?_)
  · simp [subW, weakV, getF, ownCe, refC, insAll, Ce.cs]
  rintro k F H hk rfl
  by_cases hlt : k < xs.length
  · have w1 : IntKind.i64.wrap ((k : Int) + 1) = (k : Int) + 1 := by rw [wrap_i64] <;> omega
    have hr' := hrow k hlt
    have hHo := refHome xs[k].box
    have hl := hmO_l xs[k]
    have hsn := refC_snoc hlt
    have hcl := refC_len (xs.take k)
    rw [List.length_take] at hcl
    have hmo : hmO xs[k] = (homeR xs[k].box).1 := rfl
    generalize hmO xs[k] = h at *
    generalize homeR xs[k].box = ho at *
    obtain ⟨h1, h2⟩ := ho
    simp only at hmo hHo
    subst hmo
    unfold Re.v Re.cs at hHo
    rw [cev_eq] at hHo
    generalize refC (xs.take k) = acc at *
    unfold ownCe
    generalize hfa : acc.flatMap Ce.cs = fa
    refine AW.seq (AW.ofx [] mixed (by kernel_rfl) ?_)
    simp [hlt]
    refine AW.seq (AW.block (AW.seq (AW.ofx [] mixed (by kernel_rfl) ?_)))
    simp [hlt, hr', Sh.cs]
    refine callK.pure hHo rfl rfl ?_
    simp [setCells, setBlk]
    have hq : (H ++ [ceB h])[H.length]? = some (ceB h) := by simp
    unfold ceB at hq
    generalize H ++ [Bk.cells [.v (.sc (.int .i64 h.l)), .v (.sc (.int .i64 h.x)), .v (.sc (.int .i64 h.y))]] = H2 at *
    generalize H.length = q at *
    refine AW.seq (AW.ofx [] mixed (by kernel_rfl) ?_)
    simp
    refine AW.block (AW.count (h.l.toNat + 1) (NoN xs fs k acc h q) ⟨_, ?_, hq, rfl⟩ ?_)
    · simp [subW, weakV, getF, ownCe, insAll, hfa]
    clear hfa hq
    rintro j F H3 hj ⟨hq, rfl⟩
    have hal := insAll_len ((abvs h).take j) acc
    rw [List.length_take, abvs_len] at hal
    by_cases hjl : j < h.l.toNat + 1
    · have w2 : IntKind.i64.wrap ((j : Int) + 1) = (j : Int) + 1 := by rw [wrap_i64] <;> omega
      have hjh : (j : Int) ≤ h.l := by omega
      have hAb := refAbove h (j : Nat)
      have hs2 : insAll acc ((abvs h).take (j + 1)) = insC (insAll acc ((abvs h).take j)) (aboveR h (j : Nat)).1 := by
        have hja : j < (abvs h).length := by rw [abvs_len]; exact hjl
        rw [List.take_succ_eq_append_getElem hja, insAll_snoc]
        congr 1
        simp [abvs]
      generalize aboveR h (j : Nat) = ab at *
      obtain ⟨a1, a2⟩ := ab
      simp only at hAb hs2
      rw [cev_eq, cev_eq] at hAb
      generalize insAll acc ((abvs h).take j) = ac2 at *
      have hP := fun H => refput ac2 a1 H (by omega)
      rw [cev_eq] at hP
      unfold ceB at hq
      unfold ownCe
      generalize hfa : ac2.flatMap Ce.cs = fa at *
      refine AW.seq (AW.ofx [] mixed (by kernel_rfl) ?_)
      simp [hq, hjh]
      refine AW.seq (AW.block (AW.seq (AW.ofx [] mixed (by kernel_rfl) ?_)))
      simp [hq]
      refine callK.pure hAb rfl rfl ?_
      simp [setCells, setBlk]
      have hq4 : (H3 ++ [ceB a1])[q]? = some (ceB h) := hget hq
      unfold ceB at hq4
      refine AW.ownCall rfl rfl rfl rfl rfl rfl rfl rfl rfl (xs := [.tmp 40]) (by decide) (by decide) (by decide) rfl ?_
      simp
      refine ⟨_, hP _, ?_⟩
      rintro n' cs' H' ⟨rfl, rfl, kp⟩
      refine AW.ofx [] mixed (by kernel_rfl) ?_
      simp [w2]
      refine ⟨by omega, _, ?_, kp.cells (fun h => h) hq4, rfl⟩
      simp [subW, weakV, getF, hs2, ownCe]
    · have hje : j = h.l.toNat + 1 := by omega
      have hjh : ¬ (j : Int) ≤ h.l := by omega
      unfold ownCe
      rw [List.take_of_length_le (by rw [abvs_len]; omega)]
      unfold ceB at hq
      refine AW.seq (AW.ofx [] mixed (by kernel_rfl) ?_)
      simp [hq, hjh]
      refine AW.ofx [] mixed (by kernel_rfl) ?_
      simp [w1]
      refine ⟨_, ?_, rfl⟩
      simp [subW, weakV, getF, hsn, ownCe]
  · have hk' : k = xs.length := by omega
    subst hk'
    unfold ownCe
    rw [List.take_length]
    refine AW.seq (AW.ofx [] mixed (by kernel_rfl) ?_)
    simp
    refine AW.ofx [] mixed (by kernel_rfl) ?_
    simp
end Go.Proofs.Ytdeemchhbgomjaa
