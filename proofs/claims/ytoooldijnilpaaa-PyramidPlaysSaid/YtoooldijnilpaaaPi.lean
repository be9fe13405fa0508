/- The pyramid's methods, by points, further. -/
import Derived.Test.YtoooldijnilpaaaPh
namespace Go.Proofs.Ytoooldijnilpaaa
set_option linter.all false
open Go.RowKit AM
set_option maxRecDepth 10000
attribute [local simp] aw_skip' aw_region' aw_seq' aw_cond' aw_block' aw_loop' aw_exit' aw_label' aw_ret' aops_nil' aops_cons' aop' aMove aAssign aPick aAlloc aBox aBuild aBuildSlice aLoad aLoadOwn aStore aStoreOwn isOwn delR aNilCheck aBin aMakeFunc aFieldAddr aField aIndexAddr aExtract aSliceOp aSlice aCallOp aCall' aLen aLenMap aDelete aMM aUn aConv aIface aAssert aMakeMap aLookup aMapUpdate aRange aNext aEntry entsOf keyB lookV aAppend putK layK eval evalV AM.valOf getF putF setF del SV.refers cellsAt rootSV plains shift ldV V.exact V.exactL V.ofValue V.ofPart V.ofCell V.cells V.one Value.oneCell' fitB qSeq qBlock getB afin aret resVs resV resTmps shareF evalS tupV valsS valsV pickV calm calmB lenV useOf feeds looks isT newsV partsV fillV putAt zerosV fitsNil nilB isEq isNeq awx_skip' awx_region' awx_seq' awx_cond' awx_block' awx_loop' awx_exit' awx_label' awx_ret' xops_nil' xops_cons' xop' xload xcall' addO delO inO putD memB Mix.effB Mix.laysB keysF badK subW weakV zeroRow yops_nil' yops_cons' yop' yload yindex yfield ylen oldO dropO takeO oldL exactB

section
variable {H : List Bk} {r : Nat} {ms : List Nat} {ps : List Pt}
theorem ofR16 (p : Pt) : (ofR p 16).2 = fits p ∧ (fits p = true → cellN ps (ofR p 16).1 = cntL ps 16 (pcode p)) := by
  have r16 : rightL 16 = true := by decide
  refine ⟨?_, fun h => ?_⟩
  · cases h : fits p <;> simp [ofR, r16, h]
  · have e1 : (ofR p 16).1 = ⟨16, p.x, p.y⟩ := by simp [ofR, r16, h, cellOf, side, two]
    have hr : rightC ⟨16, p.x, p.y⟩ = true := by
      have := fits_iff.1 h
      rw [rightC_iff]
      have e : two 16 = 65536 := by decide
      simp only [e]
      omega
    rw [e1]
    unfold cellN
    rw [if_pos hr]
    rfl
theorem cnt_mem {p : Pt} (hf : ∀ q ∈ ps, fits q = true) (hp : fits p = true) : 0 < cntL ps 16 (pcode p) ↔ p ∈ ps := by
  constructor
  · intro h
    unfold cntL at h
    obtain ⟨q, hq⟩ := List.exists_mem_of_length_pos h
    obtain ⟨h1, h2⟩ := List.mem_filter.1 hq
    have : pcode q = pcode p := by simpa [lcode16] using h2
    rw [← pcode_inj (hf q h1) hp this]
    exact h1
  · intro h
    have := cntL_pos h 16
    rwa [lcode16] at this
theorem PyrS.has (h : PyrS H r ms ps) (p : Pt) : AFn Try.prog 61 [.ptr r 0, p.v] H fun y H' => y = .sc (.bool (decide (p ∈ ps))) ∧ PyrS H' r ms ps ∧ KeptM [] H H' := by
  have hO := cOf p 16
  obtain ⟨o1, o2⟩ := ofR16 (ps := ps) p
  have hfits := h.2.1
  have hnot : fits p = false → p ∉ ps := fun e hm => by rw [hfits p hm] at e; cases e
  unfold Pt.v Pt.cs at hO ⊢
  unfold Ce.v Ce.cs at hO
  refine AFn.intro (fn := Try.f61) (by kernel_rfl) rfl (by kernel_rfl) (by simp) (AW.ofx [] mixed (by kernel_rfl) ?_)
  simp only [Try.f61, argsF]
  simp
  refine callK.pure hO rfl rfl ?_
  have h1 := h.app (L := [.cells [.v (.sc (.int .i64 p.x)), .v (.sc (.int .i64 p.y))]])
  have k1 : KeptM [] H (H ++ [.cells [.v (.sc (.int .i64 p.x)), .v (.sc (.int .i64 p.y))]]) := KeptM.refl.append
  revert h1 k1
  generalize H ++ [_] = H1
  intro h1 k1
  have hcnt := fun L => PyrS.count (h1.app (L := L)) (ofR p 16).1
  unfold Ce.v Ce.cs at hcnt
  rw [o1]
  cases hf : fits p with
  | false =>
    simp [setLast, hnot hf]
    exact ⟨h1.app, k1.append⟩
  | true =>
    rw [o2 hf] at hcnt
    have hm := cnt_mem (ps := ps) hfits hf
    generalize (ofR p 16).1 = c at *
    simp [setLast]
    refine callK.of (hcnt _) ?_
    rintro y H2 ⟨rfl, h2, k2⟩
    simp [hm]
    exact ⟨h2, k1.trans (KeptM.trans KeptM.refl.append k2)⟩
theorem KeptM.weak {S T : List Nat} {H H' : List Bk} (h : KeptM S H H') (hs : ∀ x ∈ S, x ∈ T) : KeptM T H H' := fun i b hi hb hn => h i b (fun e => hi (hs i e)) hb hn
theorem KeptM.any {S : List Nat} {H H' : List Bk} (h : KeptM [] H H') : KeptM S H H' := h.weak (by simp)
theorem PyrS.remove (h : PyrS H r ms ps) (p : Pt) : AFn Try.prog 26 [.ptr r 0, p.v] H fun y H' => y = .sc (.bool (decide (p ∈ ps))) ∧ KeptM ms H H' ∧ PyrS H' r ms (ps.erase p) := by
  have hhas := fun (H : List Bk) (h : PyrS H r ms ps) => h.has p
  unfold Pt.v Pt.cs at hhas ⊢
  refine AFn.intro (fn := Try.f26) (by kernel_rfl) rfl (by kernel_rfl) (by simp) (AW.ofx [] mixed (by kernel_rfl) ?_)
  simp only [Try.f26, argsF]
  simp
  have h1 := (h.app (L := [.cells [.v (.ptr r 0)]])).app (L := [.cells [.v (.sc (.int .i64 p.x)), .v (.sc (.int .i64 p.y))]])
  have k1 : KeptM ms H ((H ++ [.cells [.v (.ptr r 0)]]) ++ [.cells [.v (.sc (.int .i64 p.x)), .v (.sc (.int .i64 p.y))]]) := KeptM.refl.append.append
  have q1 : ((H ++ [.cells [.v (.ptr r 0)]]) ++ [.cells [.v (.sc (.int .i64 p.x)), .v (.sc (.int .i64 p.y))]])[H.length]? = some (.cells [.v (.ptr r 0)]) := get_app app_len
  have q2 : ((H ++ [.cells [.v (.ptr r 0)]]) ++ [.cells [.v (.sc (.int .i64 p.x)), .v (.sc (.int .i64 p.y))]])[H.length + 1]? = some (.cells [.v (.sc (.int .i64 p.x)), .v (.sc (.int .i64 p.y))]) := by simp
  rw [List.append_assoc] at h1 k1 q1 q2
  simp only [List.cons_append, List.nil_append] at h1 k1 q1 q2
  revert h1 k1 q1 q2
  generalize H ++ [_, _] = H1
  intro h1 k1 q1 q2
  try simp [q1, q2]
  refine callK.of h1.made ?_
  rintro y H' ⟨rfl, rfl⟩
  simp [q1, q2]
  refine callK.of (hhas _ h1) ?_
  rintro y H2 ⟨rfl, h2, k2⟩
  have q3 := k2 _ _ (by simp) q1 (fun _ _ _ => by simp)
  have q4 := k2 _ _ (by simp) q2 (fun _ _ _ => by simp)
  by_cases hm : p ∈ ps
  rotate_left
  · simp [hm]
    rw [List.erase_of_not_mem hm]
    exact ⟨k1.trans k2.any, h2⟩
  simp [hm, q3, q4]
  obtain ⟨⟨M, hp, hG⟩, hf, hl⟩ := h2
  have hc : CanTurn (-1) p M := fun l hl' => by
    rw [(hG l hl').look]
    have h5 := cntL_le ps l (lcode p l)
    have h6 := cntL_pos hm l
    omega
  have hqm : H.length ∉ ms := fun hm => by
    obtain ⟨l, hl', e⟩ := List.getElem_of_mem hm
    have := hp.m l H.length (by rw [List.getElem?_eq_getElem hl', e])
    rw [q3] at this
    cases this
  have hcall := peach (q := H.length) hp 62 (-1) p hc hqm q3 fun H2 M' l c hk hP hl' hb hb' => premove1 hP (hk _ _ hqm q3 (fun _ _ _ => by simp)) l c hl' hb hb'
  unfold Pt.v Pt.cs at hcall
  rw [hf p hm] at hcall
  refine callK.of hcall ?_
  rintro y H3 ⟨rfl, hk, hP⟩
  simp
  refine ⟨(k1.trans k2.any).trans hk, ⟨_, hP, hG.drop hm⟩, fun q hq => hf q (List.mem_of_mem_erase hq), ?_⟩
  have := List.length_erase_le (a := p) (l := ps)
  omega
def moveB (ps : List Pt) (p q : Pt) : Bool := fits q && decide (p ∈ ps)
theorem PyrS.move (h : PyrS H r ms ps) (p q : Pt) (hlen : ps.length < 100000) : AFn Try.prog 32 [.ptr r 0, p.v, q.v] H fun y H' => y = .sc (.bool (moveB ps p q)) ∧ KeptM ms H H' ∧ PyrS H' r ms (if moveB ps p q then q :: ps.erase p else ps) := by
  have hO := cOf q 0
  have hrem := fun (H : List Bk) (h : PyrS H r ms ps) => h.remove p
  have hadd := fun (H : List Bk) (h : PyrS H r ms (ps.erase p)) => h.add q (Nat.lt_of_le_of_lt (List.length_erase_le) hlen)
  unfold Pt.v Pt.cs at hrem hadd hO ⊢
  unfold Ce.v Ce.cs at hO
  have r0 : rightL 0 = true := by decide
  have e2 : (ofR q 0).2 = fits q := by cases h : fits q <;> simp [ofR, r0, h]
  rw [e2] at hO
  refine AFn.intro (fn := Try.f32) (by kernel_rfl) rfl (by kernel_rfl) (by simp) (AW.ofx [] mixed (by kernel_rfl) ?_)
  simp only [Try.f32, argsF]
  simp
  refine callK.pure hO rfl rfl ?_
  have h1 := (h.app (L := [.cells [.v (.sc (.int .i64 p.x)), .v (.sc (.int .i64 p.y))]])).app (L := [.cells [.v (.sc (.int .i64 q.x)), .v (.sc (.int .i64 q.y))]])
  have k1 : KeptM ms H ((H ++ [.cells [.v (.sc (.int .i64 p.x)), .v (.sc (.int .i64 p.y))]]) ++ [.cells [.v (.sc (.int .i64 q.x)), .v (.sc (.int .i64 q.y))]]) := KeptM.refl.append.append
  have q1 : ((H ++ [.cells [.v (.sc (.int .i64 p.x)), .v (.sc (.int .i64 p.y))]]) ++ [.cells [.v (.sc (.int .i64 q.x)), .v (.sc (.int .i64 q.y))]])[H.length]? = some (.cells [.v (.sc (.int .i64 p.x)), .v (.sc (.int .i64 p.y))]) := get_app app_len
  have q2 : ((H ++ [.cells [.v (.sc (.int .i64 p.x)), .v (.sc (.int .i64 p.y))]]) ++ [.cells [.v (.sc (.int .i64 q.x)), .v (.sc (.int .i64 q.y))]])[H.length + 1]? = some (.cells [.v (.sc (.int .i64 q.x)), .v (.sc (.int .i64 q.y))]) := by simp
  rw [List.append_assoc] at h1 k1 q1 q2
  simp only [List.cons_append, List.nil_append] at h1 k1 q1 q2
  revert h1 k1 q1 q2
  generalize hH1 : H ++ [.cells [.v (.sc (.int .i64 p.x)), .v (.sc (.int .i64 p.y))], .cells [.v (.sc (.int .i64 q.x)), .v (.sc (.int .i64 q.y))]] = H1
  intro h1 k1 q1 q2
  generalize hL : H1 ++ [Bk.cells [.v (.sc (.int .i64 (ofR q 0).1.l)), .v (.sc (.int .i64 (ofR q 0).1.x)), .v (.sc (.int .i64 (ofR q 0).1.y))]] = H2
  have h2 : PyrS H2 r ms ps := by rw [← hL]; exact h1.app
  have k2 : KeptM ms H H2 := by rw [← hL]; exact k1.append
  have q3 := get_app (L := [Bk.cells [.v (.sc (.int .i64 (ofR q 0).1.l)), .v (.sc (.int .i64 (ofR q 0).1.x)), .v (.sc (.int .i64 (ofR q 0).1.y))]]) q1
  have q4 := get_app (L := [Bk.cells [.v (.sc (.int .i64 (ofR q 0).1.l)), .v (.sc (.int .i64 (ofR q 0).1.x)), .v (.sc (.int .i64 (ofR q 0).1.y))]]) q2
  rw [hL] at q3 q4
  cases hf : fits q with
  | false =>
    simp [setLast, hL, moveB, hf]
    exact ⟨k2, h2⟩
  | true =>
    simp [setLast, hL, q3]
    refine callK.of (hrem _ h2) ?_
    rintro y H3 ⟨rfl, k3, h3⟩
    have q5 := k3 _ _ (fun hm => by
      obtain ⟨⟨M, hp, _⟩, _⟩ := h2
      obtain ⟨l, hl', e⟩ := List.getElem_of_mem hm
      have := hp.m l _ (by rw [List.getElem?_eq_getElem hl', e])
      rw [q4] at this
      cases this) q4 (fun _ _ _ => by simp)
    by_cases hm : p ∈ ps
    rotate_left
    · rw [List.erase_of_not_mem hm] at h3
      simp [hm, moveB]
      exact ⟨k2.trans k3, h3⟩
    simp [hm, q5]
    refine callK.of (hadd _ h3) ?_
    rintro y H4 ⟨rfl, k4, h4⟩
    rw [hf] at h4
    simp [moveB, hf, hm]
    exact ⟨(k2.trans k3).trans k4, h4⟩
theorem PyrS.total (h : PyrS H r ms ps) : AFn Try.prog 33 [.ptr r 0] H fun y H' => y = .sc (.int .i64 ps.length) ∧ PyrS H' r ms ps ∧ KeptM [] H H' := by
  have hc := h.count Ce.zero
  have e : cellN ps Ce.zero = ps.length := by
    unfold cellN
    rw [if_pos (by decide)]
    unfold cntL
    rw [List.filter_eq_self.2]
    intro p hp
    have hf := h.2.1 p hp
    obtain ⟨x, y, rfl, hx, hy⟩ := fits_nat hf
    simp [Ce.zero, codeR, mort]
    rw [lcode_nat hx hy (by omega)]
    split <;> simp [mort]
  rw [e] at hc
  unfold Ce.v Ce.cs Ce.zero at hc
  refine AFn.intro (fn := Try.f33) (by kernel_rfl) rfl (by kernel_rfl) (by simp) (AW.ofx [] mixed (by kernel_rfl) ?_)
  simp only [Try.f33, argsF]
  simp
  refine callK.of hc ?_
  rintro y H' ⟨rfl, h1, k1⟩
  simp
  exact ⟨h1, k1⟩
/-- How many cells of a level have points, at any number. -/
def levN (ps : List Pt) (l : Int) : Nat := lvlR ps l
theorem PyrS.level (h : PyrS H r ms ps) (l : Int) : AFn Try.prog 20 [.ptr r 0, .sc (.int .i64 l)] H fun y H' => y = .sc (.int .i64 (levN ps l)) ∧ H' = H := by
  refine AFn.intro (fn := Try.f20) (by kernel_rfl) rfl (by kernel_rfl) (by simp) (AW.ofx [] mixed (by kernel_rfl) ?_)
  simp only [Try.f20, argsF]
  simp
  refine callK.of h.made ?_
  rintro y H' ⟨rfl, rfl⟩
  simp
  by_cases h0 : l < 0
  · have : rightL l = false := by simp [rightL]; omega
    simp [h0, levN, lvlR, this]
  by_cases h1 : 17 ≤ l
  · have : rightL l = false := by simp [rightL]; omega
    simp [h0, h1, levN, lvlR, this]
  obtain ⟨n, rfl⟩ := Int.eq_ofNat_of_zero_le (show 0 ≤ l by omega)
  obtain ⟨⟨M, hp, hG⟩, hf, hl⟩ := h
  have hr := hp.r
  have hlt : n < ms.length := by rw [hp.len]; omega
  have hm : ms[n]? = some ms[n] := List.getElem?_eq_getElem hlt
  have hH := hp.m _ _ hm
  have hlv := lvl_plain hf (show n ≤ 16 by omega) (hG n (by omega))
  have hc17 : (n : Int) < 17 := by omega
  generalize ms[n] = m at *
  have h1' : ¬ 17 ≤ n := by omega
  simp [h0, h1, h1', hr, hm, hH, plains_head, hc17, levN, ← hlv]
def cellsN (ps : List Pt) (k : Nat) : Nat := ((List.range k).map fun l => levN ps (l : Nat)).sum
def CellsI (r : Nat) (ps : List Pt) (H0 : List Bk) (k : Nat) (F : Fr) (H : List Bk) : Prop := H = H0 ∧ F = [(0, .v (.ptr r 0)), (3, .v (.sc (.int .i64 (cellsN ps k)))), (5, .v (.sc (.int .i64 k)))]
theorem levN_le (ps : List Pt) (l : Int) : levN ps l ≤ ps.length := by
  unfold levN lvlR
  split
  · exact freshN_le _ _
  · omega
theorem cellsN_succ (ps : List Pt) (k : Nat) : cellsN ps (k + 1) = cellsN ps k + levN ps (k : Nat) := by simp [cellsN, List.range_succ]
theorem cellsN_le (ps : List Pt) (k : Nat) : cellsN ps k ≤ k * ps.length := by
  induction k with
  | zero => simp [cellsN]
  | succ k ih =>
    rw [cellsN_succ, Nat.succ_mul]
    have := levN_le ps (k : Nat)
    omega
theorem PyrS.cells (h : PyrS H r ms ps) : AFn Try.prog 21 [.ptr r 0] H fun y H' => y = .sc (.int .i64 (cellsN ps 17)) ∧ H' = H := by
  refine AFn.intro (fn := Try.f21) (by kernel_rfl) rfl (by kernel_rfl) (by simp) (AW.ofx [] mixed (by kernel_rfl) ?_)
  simp only [Try.f21, argsF]
  simp
  refine AW.count 17 (CellsI r ps H) ⟨_, ?_, rfl, rfl⟩ ?_
  · simp [subW, weakV, getF, cellsN]
  rintro k F H' hk ⟨rfl, rfl⟩
  refine AW.ofx [] mixed (by kernel_rfl) ?_
  have hle := cellsN_le ps k
  have hl := h.2.2
  by_cases hlt : k < 17
  · have hlt' : (k : Int) < 17 := by omega
    have hlv := levN_le ps (k : Nat)
    have hb : k * ps.length ≤ 17 * 100000 := Nat.mul_le_mul (by omega) hl
    have w1 : IntKind.i64.wrap ((k : Int) + 1) = (k : Int) + 1 := by rw [wrap_i64] <;> omega
    have w2 : IntKind.i64.wrap ((cellsN ps k : Int) + (levN ps (k : Nat) : Int)) = (cellsN ps k : Int) + (levN ps (k : Nat) : Int) := by rw [wrap_i64] <;> omega
    simp [hlt']
    refine callK.of (h.level (k : Nat)) ?_
    rintro y H2 ⟨rfl, rfl⟩
    simp [w1, w2]
    refine ⟨hlt, _, ?_, rfl, rfl⟩
    rw [cellsN_succ]
    simp [subW, weakV, getF]
  · have hk' : k = 17 := by omega
    subst hk'
    simp
end
end Go.Proofs.Ytoooldijnilpaaa
