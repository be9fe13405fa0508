/- A quadtree of shapes: all, those that meet a rectangle, those within one. -/
import Derived.Test.YtdeemchhbgomjaaGreatHi
namespace Go.Proofs.YtdeemchhbgomjaaGreat
set_option linter.all false
open Go.RowKit AM
set_option maxRecDepth 10000
attribute [local simp] aw_skip' aw_region' aw_seq' aw_cond' aw_block' aw_loop' aw_exit' aw_label' aw_ret' aops_nil' aops_cons' aop' aMove aAssign aPick aAlloc aBox aBuild slF aBuildSlice aLoad aLoadOwn aStore aStoreOwn isOwn delR aNilCheck aBin aMakeFunc aFieldAddr aField aIndexOp aIndex partV aIndexAddr aExtract aSliceOp aSlice aShrink aCallOp aCall' aInvoke' aLen aLenMap aDelete aMM aUn aConv aIface aAssert aMakeMap aLookup aMapUpdate aRange aNext aEntry entsOf keyB seekK aMakeSlice lookV aAppend putK layK eval evalV AM.valOf getF putF setF del SV.refers cellsAt rootSV plains shift ldV V.exact V.exactL V.ofValue V.ofPart V.ofCell V.cells V.one Value.oneCell' fitB qSeq qBlock getB afin aret resVs resV resTmps shareF evalS tupV valsS valsV pickV calm calmB lenV useOf feeds shrinks stows looks isT newsV partsV fillV putAt zerosV fitsNil nilB sliceB isEq isNeq awx_skip' awx_region' awx_seq' awx_cond' awx_block' awx_loop' awx_exit' awx_label' awx_ret' xops_nil' xops_cons' xop' xload xcall' addO delO inO putD memB Mix.effB Mix.laysB keysF badK subW weakV zeroRow yops_nil' yops_cons' yop' yload yindex yfield ylen oldO dropO takeO oldL exactB

theorem holdsRight : HoldsOK 44 [] [] 0 none rightR := fun H b _ => (PFn.lift (gRight b) rfl rfl H).mono' fun y H' h => ⟨h.1, [], by simp [h.2]⟩
theorem holdsMeets (r : Re) (q : Nat) : HoldsOK 45 [] [.ptr q 0] q (some (reB r)) (fun b => meetsR b r) := by
  intro H b hq
  have hq := hq _ rfl
  have hM := gMeets b r
  have hq' := fun L => hget (L := L) hq
  unfold reB at hq'
  unfold Re.v Re.cs at hM ⊢
  simp only [List.nil_append]
  refine AFn.intro (fn := Tryz.f45) (by kernel_rfl) rfl (by kernel_rfl) (by simp) (AW.ofx [] mixed (by kernel_rfl) ?_)
  simp only [Tryz.f45, argsF]
  simp [hq']
  refine callK.pure hM rfl rfl ?_
  simp
theorem holdsWithin (r : Re) (q : Nat) : HoldsOK 47 [] [.ptr q 0] q (some (reB r)) (fun b => inB b r) := by
  intro H b hq
  have hq := hq _ rfl
  have hM := gIn b r
  have hq' := fun L => hget (L := L) hq
  unfold reB at hq'
  unfold Re.v Re.cs at hM ⊢
  simp only [List.nil_append]
  refine AFn.intro (fn := Tryz.f47) (by kernel_rfl) rfl (by kernel_rfl) (by simp) (AW.ofx [] mixed (by kernel_rfl) ?_)
  simp only [Tryz.f47, argsF]
  simp [hq']
  refine callK.pure hM rfl rfl ?_
  simp
def gridR : Re := ⟨0, 0, 65535, 65535⟩
theorem gGrid : PFn Tryz.prog 43 [] gridR.v := by
  refine AFn.intro (fn := Tryz.f43) (by kernel_rfl) rfl (by kernel_rfl) (by simp) (AW.ofx [] mixed (by kernel_rfl) ?_)
  simp only [Tryz.f43, argsF]
  simp [setCells, setBlk, gridR, Re.v, Re.cs]
theorem hf_all {S : List Sh} (h : ∀ s ∈ S, rightR s.box = true) : hf rightR S = S := List.filter_eq_self.2 h
section
variable {H : List Bk} {r : Nat} {S : List Sh} {T : Nat → Prop}
theorem tall (ht : TrS H r S T) : AFn Tryz.prog 19 [.ptr r 0] H fun y H' => y = slS (sortS S) ∧ Kp NoB H H' := by
  have hF := tfound ht holdsRight gridR (fun q hq => by cases hq) (fun _ b hb _ => by
    have := rightR_iff.1 hb
    have hg : rightR gridR = true := by decide
    simp only [meetsR, hb, hg, Bool.true_and, decide_eq_true_iff]
    simp only [gridR]
    omega)
  have hfl : foundL rightR gridR S = sortS S := by
    obtain ⟨b, m, I, es, hb, hT⟩ := ht
    rw [foundL, if_pos (by decide), hf_all hb.right]
  rw [hfl] at hF
  have hG := gGrid
  unfold gridR Re.v Re.cs at hF hG
  refine AFn.intro (fn := Tryz.f19) (by kernel_rfl) rfl (by kernel_rfl) (by simp) (AW.ofx [] mixed (by kernel_rfl) ?_)
  simp only [Tryz.f19, argsF]
  simp
  refine callK.pure hG rfl rfl ?_
  simp
  refine callK.of hF ?_
  rintro y H1 ⟨rfl, h1⟩
  simp
  exact h1
theorem meets_sym (a b : Re) : meetsR a b = true → meetsR a b = true := id
theorem tmeets (ht : TrS H r S T) (rc : Re) : AFn Tryz.prog 20 [.ptr r 0, rc.v] H fun y H' => y = slS (foundL (fun b => meetsR b rc) rc S) ∧ Kp NoB H H' := by
  have hF := tfound (ht.app (L := [reB rc])) (holdsMeets rc H.length) rc (fun q hq => by
    cases hq
    exact ⟨by simp, fun _ _ _ e => by cases e⟩) (fun _ b _ h => h)
  unfold reB Re.v Re.cs at hF
  unfold Re.v Re.cs
  refine AFn.intro (fn := Tryz.f20) (by kernel_rfl) rfl (by kernel_rfl) (by simp) (AW.ofx [] mixed (by kernel_rfl) ?_)
  simp only [Tryz.f20, argsF]
  simp
  refine callK.of hF ?_
  rintro y H1 ⟨rfl, h1⟩
  simp
  exact Kp.trans Kp.refl.app h1
theorem twithin (ht : TrS H r S T) (rc : Re) : AFn Tryz.prog 21 [.ptr r 0, rc.v] H fun y H' => y = slS (foundL (fun b => inB b rc) rc S) ∧ Kp NoB H H' := by
  have hF := tfound (ht.app (L := [reB rc])) (holdsWithin rc H.length) rc (fun q hq => by
    cases hq
    exact ⟨by simp, fun _ _ _ e => by cases e⟩) (fun hr b hb h => by
    have h1 := rightR_iff.1 hb
    simp only [inB, hb, hr, Bool.true_and, decide_eq_true_iff] at h
    simp only [meetsR, hb, hr, Bool.true_and, decide_eq_true_iff]
    omega)
  unfold reB Re.v Re.cs at hF
  unfold Re.v Re.cs
  refine AFn.intro (fn := Tryz.f21) (by kernel_rfl) rfl (by kernel_rfl) (by simp) (AW.ofx [] mixed (by kernel_rfl) ?_)
  simp only [Tryz.f21, argsF]
  simp
  refine callK.of hF ?_
  rintro y H1 ⟨rfl, h1⟩
  simp
  exact Kp.trans Kp.refl.app h1
theorem tnodes (ht : TrS H r S T) : AFn Tryz.prog 17 [.ptr r 0] H fun y H' => y = .sc (.int .i64 (ndCells 17 root0 S).length) ∧ H' = H := by
  have hM := tmade ht
  obtain ⟨b, m, I, es, hb, hT⟩ := ht
  have hr := hb.cr
  have hN := nnodes 17 root0 H S b I hb.nd (Nat.le_refl _)
  refine AFn.intro (fn := Tryz.f17) (by kernel_rfl) rfl (by kernel_rfl) (by simp) (AW.ofx [] mixed (by kernel_rfl) ?_)
  simp only [Tryz.f17, argsF]
  simp
  refine callK.of hM ?_
  rintro y H1 ⟨rfl, rfl⟩
  simp [hr]
  refine callK.of hN ?_
  rintro y H1 ⟨rfl, rfl⟩
  simp
theorem tlen (ht : TrS H r S T) : AFn Tryz.prog 16 [.ptr r 0] H fun y H' => y = .sc (.int .i64 S.length) ∧ H' = H := by
  have hM := tmade ht
  obtain ⟨b, m, I, es, hb, hT⟩ := ht
  have hr := hb.cr
  have hm := hb.cm
  have hl := hb.es.length_eq
  refine AFn.intro (fn := Tryz.f16) (by kernel_rfl) rfl (by kernel_rfl) (by simp) (AW.ofx [] mixed (by kernel_rfl) ?_)
  simp only [Tryz.f16, argsF]
  simp
  refine callK.of hM ?_
  rintro y H1 ⟨rfl, rfl⟩
  simp [hr, hm, hl]
def fnd (S : List Sh) (k : Int) : Option Sh := S.find? fun s => decide (s.id = k)
def fndV (S : List Sh) (k : Int) : V := match fnd S k with
  | some s => .tup [s.v, .sc (.bool true)]
  | none => .tup [Sh.zero.v, .sc (.bool false)]
theorem zvSh : zeroV Tryz.prog 32 = some (.agg [.sc (.int .i64 0), .sc (.int .i64 0), .sc (.int .i64 0), .sc (.int .i64 0), .sc (.int .i64 0), .sc (.int .i64 0)]) := by kernel_rfl
theorem fnd_sfind {S es : List Sh} (hn : (S.map Sh.id).Nodup) (hp : es.Perm S) (k : Int) : (sfind k es 0).map (·.2) = fnd S k := by
  cases hs : sfind k es 0 with
  | none =>
    have := sfind_nil hs
    refine (List.find?_eq_none.2 fun x hx => ?_).symm
    simpa using this x (hp.mem_iff.2 hx)
  | some p =>
    obtain ⟨j, s⟩ := p
    obtain ⟨h1, h2⟩ := sfind_mem hs
    have hS := hp.mem_iff.1 h1
    unfold fnd
    cases hf : S.find? fun s => decide (s.id = k) with
    | none =>
      have := List.find?_eq_none.1 hf s hS
      simp [h2] at this
    | some t =>
      have ht := List.mem_of_find?_eq_some hf
      have hk : t.id = k := by simpa using List.find?_some hf
      have := id_inj hn ht hS (hk.trans h2.symm)
      simp [this]
theorem tfind (ht : TrS H r S T) (k : Int) : AFn Tryz.prog 13 [.ptr r 0, .sc (.int .i64 k)] H fun y H' => y = fndV S k ∧ Kp NoB H H' := by
  have hM := fun L => tmade (ht.app (L := L))
  obtain ⟨b, m, I, es, hb, hT⟩ := ht
  have hr := fun L => hget (L := L) hb.cr
  have hm := fun L => hget (L := L) hb.cm
  have hfs := fnd_sfind hb.ids hb.es k
  unfold fndV
  rw [← hfs]
  refine AFn.intro (fn := Tryz.f13) (by kernel_rfl) rfl (by kernel_rfl) (by simp) ?_
  simp only [Tryz.f13, argsF]
  refine AW.seq (AW.ofx [] mixed (by kernel_rfl) ?_)
  simp
  refine AW.seq (AW.ofx [] mixed (by kernel_rfl) ?_)
  simp
  refine callK.of (hM _) ?_
  rintro y H1 ⟨rfl, rfl⟩
  simp
  refine AW.seq (AW.ofx [] mixed (by kernel_rfl) ?_)
  cases hs : sfind k es 0 with
  | none =>
    simp [hr, hm, mfind_s, hs, zvSh, setCells, setBlk]
    refine AW.ofx [] mixed (by kernel_rfl) ?_
    simp [setCells, setBlk, Sh.v, Sh.cs, Sh.zero]
    exact Kp.refl.app
  | some p =>
    unfold Sh.v Sh.cs
    simp [hr, hm, mfind_s, hs, zvSh, setCells, setBlk, Sh.v, Sh.cs]
    refine AW.ofx [] mixed (by kernel_rfl) ?_
    simp [setCells, setBlk, Sh.v, Sh.cs, Sh.zero]
    exact Kp.refl.app
end
end Go.Proofs.YtdeemchhbgomjaaGreat
