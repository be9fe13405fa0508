/- The pyramid's methods, by points. -/
import Derived.Test.YtoooldijnilpaaaPp
namespace Go.Proofs.Ytoooldijnilpaaa
set_option linter.all false
open Go.RowKit AM
set_option maxRecDepth 10000
attribute [local simp] aw_skip' aw_region' aw_seq' aw_cond' aw_block' aw_loop' aw_exit' aw_label' aw_ret' aops_nil' aops_cons' aop' aMove aAssign aPick aAlloc aBox aBuild aBuildSlice aLoad aLoadOwn aStore aStoreOwn isOwn delR aNilCheck aBin aMakeFunc aFieldAddr aField aIndexAddr aExtract aSliceOp aSlice aCallOp aCall' aLen aLenMap aDelete aMM aUn aConv aIface aAssert aMakeMap aLookup aMapUpdate aRange aNext aEntry entsOf keyB lookV aAppend putK layK eval evalV AM.valOf getF putF setF del SV.refers cellsAt rootSV plains shift ldV V.exact V.exactL V.ofValue V.ofPart V.ofCell V.cells V.one Value.oneCell' fitB qSeq qBlock getB afin aret resVs resV resTmps shareF evalS tupV valsS valsV pickV calm calmB lenV useOf feeds looks isT newsV partsV fillV putAt zerosV fitsNil nilB isEq isNeq awx_skip' awx_region' awx_seq' awx_cond' awx_block' awx_loop' awx_exit' awx_label' awx_ret' xops_nil' xops_cons' xop' xload xcall' addO delO inO putD memB Mix.effB Mix.laysB keysF badK subW weakV zeroRow yops_nil' yops_cons' yop' yload yindex yfield ylen oldO dropO takeO oldL exactB

/-- A pyramid of points. -/
def PyrS (H : List Bk) (r : Nat) (ms : List Nat) (ps : List Pt) : Prop := (∃ M, Pyr H r ms M ∧ Good M ps) ∧ (∀ p ∈ ps, fits p = true) ∧ ps.length ≤ 100000
theorem Pyr.kept {H H' : List Bk} {r : Nat} {ms S : List Nat} {M : Nat → List (Nat × Nat)} (h : Pyr H r ms M) (hk : KeptM S H H') (hr : r ∉ S) (hm : ∀ m ∈ ms, m ∉ S) : Pyr H' r ms M :=
  ⟨h.len, h.nd, hk _ _ hr h.r (fun _ _ _ => by simp), fun l m hl => hk _ _ (hm m (List.mem_of_getElem? hl)) (h.m l m hl) (fun _ _ _ => by simp)⟩
theorem PyrS.kept {H H' : List Bk} {r : Nat} {ms S : List Nat} {ps : List Pt} (h : PyrS H r ms ps) (hk : KeptM S H H') (hr : r ∉ S) (hm : ∀ m ∈ ms, m ∉ S) : PyrS H' r ms ps := by
  obtain ⟨⟨M, h1, h2⟩, h3⟩ := h
  exact ⟨⟨M, h1.kept hk hr hm, h2⟩, h3⟩
theorem PyrS.app {H L : List Bk} {r : Nat} {ms : List Nat} {ps : List Pt} (h : PyrS H r ms ps) : PyrS (H ++ L) r ms ps := h.kept (S := []) (KeptM.refl.append) (by simp) (by simp)
theorem PyrS.rm {H : List Bk} {r : Nat} {ms : List Nat} {ps : List Pt} (h : PyrS H r ms ps) : r ∉ ms := by
  obtain ⟨⟨M, h1, _⟩, _⟩ := h
  exact h1.rm
theorem PyrS.perm {H : List Bk} {r : Nat} {ms : List Nat} {ps qs : List Pt} (h : PyrS H r ms ps) (hp : ps.Perm qs) : PyrS H r ms qs := by
  obtain ⟨⟨M, h1, h2⟩, h3, h4⟩ := h
  exact ⟨⟨M, h1, h2.perm hp⟩, fun p hq => h3 p (hp.mem_iff.2 hq), by rw [← hp.length_eq]; exact h4⟩
section
variable {H : List Bk} {r : Nat} {ms : List Nat} {ps : List Pt}
theorem PyrS.made (h : PyrS H r ms ps) : AFn Try.prog 54 [.ptr r 0] H fun y H' => y = .sc (.bool true) ∧ H' = H := by
  obtain ⟨⟨M, h1, _⟩, _⟩ := h
  exact pmade h1
theorem PyrS.add (h : PyrS H r ms ps) (p : Pt) (hlen : ps.length < 100000) : AFn Try.prog 25 [.ptr r 0, p.v] H fun y H' => y = .sc (.bool (fits p)) ∧ KeptM ms H H' ∧ PyrS H' r ms (if fits p then p :: ps else ps) := by
  have hrm := h.rm
  obtain ⟨⟨M, hp, hG⟩, hf, hl⟩ := h
  unfold Pt.v Pt.cs
  refine AFn.intro (fn := Try.f25) (by kernel_rfl) rfl (by kernel_rfl) (by simp) (AW.ofx [] mixed (by kernel_rfl) ?_)
  simp only [Try.f25, argsF]
  simp
  have h1 := (hp.app (L := [.cells [.v (.ptr r 0)]])).app (L := [.cells [.v (.sc (.int .i64 p.x)), .v (.sc (.int .i64 p.y))]])
  have k1 : KeptM ms H ((H ++ [.cells [.v (.ptr r 0)]]) ++ [.cells [.v (.sc (.int .i64 p.x)), .v (.sc (.int .i64 p.y))]]) := KeptM.refl.append.append
  have q1 : ((H ++ [.cells [.v (.ptr r 0)]]) ++ [.cells [.v (.sc (.int .i64 p.x)), .v (.sc (.int .i64 p.y))]])[H.length]? = some (.cells [.v (.ptr r 0)]) := get_app app_len
  have q2 : ((H ++ [.cells [.v (.ptr r 0)]]) ++ [.cells [.v (.sc (.int .i64 p.x)), .v (.sc (.int .i64 p.y))]])[H.length + 1]? = some (.cells [.v (.sc (.int .i64 p.x)), .v (.sc (.int .i64 p.y))]) := by simp
  rw [List.append_assoc] at h1 k1 q1 q2
  simp only [List.cons_append, List.nil_append] at h1 k1 q1 q2
  revert h1 k1 q1 q2
  generalize H ++ [_, _] = H1
  intro h1 k1 q1 q2
  try simp [q1, q2]
  refine callK.of (pmade h1) ?_
  rintro y H' ⟨rfl, rfl⟩
  simp [q1, q2]
  have hc : CanTurn 1 p M := fun l hl' => by
    rw [(hG l hl').look]
    have := cntL_le ps l (lcode p l)
    omega
  have hqm : H.length ∉ ms := fun hm => by
    obtain ⟨l, hl', e⟩ := List.getElem_of_mem hm
    have := h1.m l H.length (by rw [List.getElem?_eq_getElem hl', e])
    rw [q1] at this
    cases this
  have hcall := peach (q := H.length) h1 59 1 p hc hqm q1 fun H2 M' l c hk hP hl' hb hb' => padd1 hP (hk _ _ hqm q1 (fun _ _ _ => by simp)) l c hl' hb hb'
  unfold Pt.v Pt.cs at hcall
  refine callK.of hcall ?_
  rintro y H2 ⟨rfl, hk, hP⟩
  simp
  refine ⟨k1.trans hk, ?_⟩
  cases hfp : fits p with
  | false =>
    rw [hfp] at hP
    exact ⟨⟨M, hP, hG⟩, hf, hl⟩
  | true =>
    rw [hfp] at hP
    exact ⟨⟨_, hP, hG.add p⟩, fun q hq => by
      rcases List.mem_cons.1 hq with rfl | hq
      · exact hfp
      · exact hf q hq, by simp; omega⟩
/-- How many points a cell has. -/
def cellN (ps : List Pt) (c : Ce) : Nat := if rightC c then cntL ps c.l.toNat (codeR c).1 else 0
theorem cellN_le (ps : List Pt) (c : Ce) : cellN ps c ≤ ps.length := by
  unfold cellN
  split
  · exact cntL_le _ _ _
  · omega
theorem PyrS.count (h : PyrS H r ms ps) (c : Ce) : AFn Try.prog 18 [.ptr r 0, c.v] H fun y H' => y = .sc (.int .i64 (cellN ps c)) ∧ PyrS H' r ms ps ∧ KeptM [] H H' := by
  have hC := cCode c
  unfold Ce.v Ce.cs at hC ⊢
  refine AFn.intro (fn := Try.f18) (by kernel_rfl) rfl (by kernel_rfl) (by simp) (AW.ofx [] mixed (by kernel_rfl) ?_)
  simp only [Try.f18, argsF]
  simp
  refine callK.pure hC rfl rfl ?_
  have h1 := h.app (L := [.cells [.v (.sc (.int .i64 c.l)), .v (.sc (.int .i64 c.x)), .v (.sc (.int .i64 c.y))]])
  have k1 : KeptM [] H (H ++ [.cells [.v (.sc (.int .i64 c.l)), .v (.sc (.int .i64 c.x)), .v (.sc (.int .i64 c.y))]]) := KeptM.refl.append
  have q1 : (H ++ [.cells [.v (.sc (.int .i64 c.l)), .v (.sc (.int .i64 c.x)), .v (.sc (.int .i64 c.y))]])[H.length]? = some (.cells [.v (.sc (.int .i64 c.l)), .v (.sc (.int .i64 c.x)), .v (.sc (.int .i64 c.y))]) := app_len
  revert h1 k1 q1
  generalize H ++ [_] = H1
  intro h1 k1 q1
  cases hr : rightC c with
  | false =>
    simp [codeR, cellN, hr]
    exact ⟨h1, k1⟩
  | true =>
  have hc2 : (codeR c).2 = true := codeR_two hr
  simp [hc2]
  refine callK.of h1.made ?_
  rintro y H' ⟨rfl, rfl⟩
  obtain ⟨⟨M, hp, hG⟩, hf, hl⟩ := id h1
  have hri := rightC_iff.1 hr
  have hr := hp.r
  have hlt : c.l.toNat < ms.length := by rw [hp.len]; omega
  have hm : ms[c.l.toNat]? = some ms[c.l.toNat] := List.getElem?_eq_getElem hlt
  have hH := hp.m _ _ hm
  have hlk := (hG c.l.toNat (by omega)).look (codeR c).1
  have hc17 : 0 ≤ c.l ∧ c.l < 17 := by omega
  generalize ms[c.l.toNat] = m at *
  simp [q1, hr, hm, hH, plains_head, mfind_p, zvInt, hc17]
  cases hf : pfind (codeR c).1 (M c.l.toNat) 0 with
  | none =>
    rw [look_none hf] at hlk
    simp [cellN, rightC_iff.2 hri, ← hlk]
    exact ⟨h1, k1⟩
  | some p =>
    obtain ⟨i, n⟩ := p
    rw [look_some hf] at hlk
    simp [cellN, rightC_iff.2 hri, ← hlk]
    exact ⟨h1, k1⟩
end
theorem pcountNil (H : List Bk) (c : Ce) : AFn Try.prog 18 [.sc (.pointer none), c.v] H fun y H' => y = .sc (.int .i64 0) ∧ KeptM [] H H' := by
  have hC := cCode c
  unfold Ce.v Ce.cs at hC ⊢
  refine AFn.intro (fn := Try.f18) (by kernel_rfl) rfl (by kernel_rfl) (by simp) (AW.ofx [] mixed (by kernel_rfl) ?_)
  simp only [Try.f18, argsF]
  simp
  refine callK.pure hC rfl rfl ?_
  have k1 : KeptM [] H (H ++ [.cells [.v (.sc (.int .i64 c.l)), .v (.sc (.int .i64 c.x)), .v (.sc (.int .i64 c.y))]]) := KeptM.refl.append
  cases hr : (codeR c).2 with
  | false =>
    simp [hr]
    exact k1
  | true =>
  simp [hr]
  refine callK.of (pmadeNil _) ?_
  rintro y H' ⟨rfl, rfl⟩
  simp
  exact k1
end Go.Proofs.Ytoooldijnilpaaa
