/- The laws PyramidCounts, PyramidSums, PyramidLevels: their walks. -/
import Derived.Test.YtoooldijnilpaaaPk
namespace Go.Proofs.Ytoooldijnilpaaa
set_option linter.all false
open Go.RowKit AM
set_option maxRecDepth 10000
attribute [local simp] aw_skip' aw_region' aw_seq' aw_cond' aw_block' aw_loop' aw_exit' aw_label' aw_ret' aops_nil' aops_cons' aop' aMove aAssign aPick aAlloc aBox aBuild aBuildSlice aLoad aLoadOwn aStore aStoreOwn isOwn delR aNilCheck aBin aMakeFunc aFieldAddr aField aIndexAddr aExtract aSliceOp aSlice aCallOp aCall' aLen aLenMap aDelete aMM aUn aConv aIface aAssert aMakeMap aLookup aMapUpdate aRange aNext aEntry entsOf keyB lookV aAppend putK layK eval evalV AM.valOf getF putF setF del SV.refers cellsAt rootSV plains shift ldV V.exact V.exactL V.ofValue V.ofPart V.ofCell V.cells V.one Value.oneCell' fitB qSeq qBlock getB afin aret resVs resV resTmps shareF evalS tupV valsS valsV pickV calm calmB lenV useOf feeds looks isT newsV partsV fillV putAt zerosV fitsNil nilB isEq isNeq awx_skip' awx_region' awx_seq' awx_cond' awx_block' awx_loop' awx_exit' awx_label' awx_ret' xops_nil' xops_cons' xop' xload xcall' addO delO inO putD memB Mix.effB Mix.laysB keysF badK subW weakV zeroRow yops_nil' yops_cons' yop' yload yindex yfield ylen oldO dropO takeO oldL exactB

theorem flatP_closed (xs : List Pt) : V.closedL (xs.flatMap Pt.cs) = true := closed_flat (enc := Pt.cs) (fun _ => rfl) xs
theorem PyrS.fits {H : List Bk} {r : Nat} {ms : List Nat} {ps : List Pt} (h : PyrS H r ms ps) : ∀ p ∈ ps, fits p = true := h.2.1
theorem cellN_cntR {ps : List Pt} (hf : ∀ p ∈ ps, fits p = true) (c : Ce) : cellN ps c = cntR ps c := by
  unfold cellN
  split
  · rename_i h
    exact cnt_plain hf h
  · rename_i h
    unfold cntR
    rw [if_neg h]
def CoI (xs : List Pt) (c : Ce) (l : Int) (r : Nat) (ms : List Nat) (k : Nat) (F : Fr) (H : List Bk) : Prop := PyrS H r ms (haveL xs) ∧ H[0]? = some (.cells [.v (.sc (.int .i64 c.l)), .v (.sc (.int .i64 c.x)), .v (.sc (.int .i64 c.y))]) ∧
  F = [(2, .v (.sc (.int .i64 l))), (4, .v (.ptr 0 0)), (7, .v (.ptr r 0)), (8, .v (slP (haveL xs))), (9, .v (.sc (.int .i64 (cellsN (haveL xs) k)))), (10, .v (.sc (.int .i64 k)))]
theorem keepS_kept {ms : List Nat} {H H' : List Bk} (h : KeptM [] H H') : keepS H H' := fun id ks hk _ => h _ _ (by simp) hk (fun _ _ _ => by simp)
theorem countsLaw (xs : List Pt) (c : Ce) (l : Int) : AFn Try.prog 3 [slP xs, c.v, .sc (.int .i64 l)] [] fun y _ => y = .sc (.bool true) := by
  have hC := fun (H : List Bk) (r : Nat) (ms : List Nat) (h : PyrS H r ms (haveL xs)) => h.count c
  have hlen := haveL_len xs
  unfold Ce.v Ce.cs at hC ⊢
  refine AFn.intro (fn := Try.f3) (by kernel_rfl) rfl (by kernel_rfl) (by simp) (AW.ofx [(9, 20, [7, 4, 8, 2, 9])] mixed (by kernel_rfl) ?_)
  simp only [Try.f3, argsF]
  by_cases hx : xs.length ≤ 100
  rotate_left
  · simp
    refine callK.of (builtNot xs (by omega) _) ?_
    rintro y H1 ⟨rfl, k1⟩
    have hx' : (100 : Int) < xs.length := by omega
    simp [nilPy', slP, hx']
    refine callK.pure knownP rfl rfl ?_
    simp
  have hR := refCount (haveL xs) c (by omega)
  have hL := fun z => refLevelN (haveL xs) z (by omega)
  unfold Ce.v Ce.cs at hR
  simp
  refine callK.of (built xs hx _) ?_
  rintro y H1 ⟨r, ms, rfl, h1, k1, _, _⟩
  have q1 := k1 0 _ (by simp) rfl (fun _ _ _ => by simp)
  simp
  refine AW.count 17 (CoI xs c l r ms) ⟨_, ?_, h1, q1, rfl⟩ ?_
  · simp [subW, weakV, getF, cellsN]
  rintro k F H2 hk ⟨h2, q2, rfl⟩
  refine AW.ofx [(9, 20, [7, 4, 8, 2, 9])] mixed (by kernel_rfl) ?_
  by_cases hlt : k < 17
  · have hk16 : (k : Int) ≤ 16 := by omega
    have hk16' : k ≤ 16 := by omega
    have hle := cellsN_le (haveL xs) k
    have hlv := levN_le (haveL xs) (k : Nat)
    have hb : k * (haveL xs).length ≤ 17 * 100 := Nat.mul_le_mul (by omega) (by omega)
    have w1 : IntKind.i64.wrap ((k : Int) + 1) = (k : Int) + 1 := by rw [wrap_i64] <;> omega
    have w2 : IntKind.i64.wrap ((cellsN (haveL xs) k : Int) + (lvlR (haveL xs) (k : Nat) : Int)) = (cellsN (haveL xs) k : Int) + (levN (haveL xs) (k : Nat) : Int) := by
      unfold levN at hlv ⊢
      rw [wrap_i64] <;> omega
    simp [hk16, hk16']
    refine callK.pure (hL _) (by simp [V.closedL, V.closed, slP, flatP_closed]) rfl ?_
    simp [w1, w2]
    refine ⟨hlt, _, ?_, h2, q2, rfl⟩
    rw [cellsN_succ]
    simp [subW, weakV, getF]
  · have hk' : k = 17 := by omega
    subst hk'
    have e0 : exactB [.v (.sc (.int .i64 c.l)), .v (.sc (.int .i64 c.x)), .v (.sc (.int .i64 c.y))] = true := rfl
    simp [q2]
    refine callK.of (hC _ _ _ h2) ?_
    rintro y H3 ⟨rfl, h3, k3⟩
    simp [q2]
    refine ⟨keepS_kept (ms := []) k3, ?_⟩
    refine callK.pure hR (by simp [V.closedL, V.closed, slP, flatP_closed]) rfl ?_
    rw [cellN_cntR h2.fits c]
    simp [keepS_kept (ms := []) k3]
    refine callK.of (h3.level l) ?_
    rintro y H4 ⟨rfl, rfl⟩
    simp [keepS_kept (ms := []) k3]
    refine callK.pure (hL _) (by simp [V.closedL, V.closed, slP, flatP_closed]) rfl ?_
    have el : levN (haveL xs) l = lvlR (haveL xs) l := rfl
    rw [el]
    simp [keepS_kept (ms := []) k3]
    refine callK.of h3.cells ?_
    rintro y H5 ⟨rfl, rfl⟩
    simp
    refine ⟨keepS_kept (ms := []) k3, ?_⟩
    refine callK.pure knownP rfl rfl ?_
    simp
/-! ## Children together -/
theorem lcode_up (p : Pt) {l : Nat} (hl : l < 16) : lcode p (l + 1) / 4 = lcode p l := by
  unfold lcode
  rw [Nat.div_div_eq_div_mul, ← Nat.pow_succ, show (16 - (l + 1)).succ = 16 - l by omega]
theorem cnt_four (ps : List Pt) {l : Nat} (hl : l < 16) (k : Nat) : cntL ps l k = cntL ps (l + 1) (4 * k) + cntL ps (l + 1) (4 * k + 1) + cntL ps (l + 1) (4 * k + 2) + cntL ps (l + 1) (4 * k + 3) := by
  induction ps with
  | nil => simp [cntL]
  | cons p ps ih =>
    have h := lcode_up p hl
    simp only [cntL_cons, ih]
    by_cases h0 : lcode p l = k
    · have : lcode p (l + 1) = 4 * k ∨ lcode p (l + 1) = 4 * k + 1 ∨ lcode p (l + 1) = 4 * k + 2 ∨ lcode p (l + 1) = 4 * k + 3 := by omega
      rcases this with e | e | e | e <;> simp [h0, e] <;> omega
    · have e0 : lcode p (l + 1) ≠ 4 * k := by omega
      have e1 : lcode p (l + 1) ≠ 4 * k + 1 := by omega
      have e2 : lcode p (l + 1) ≠ 4 * k + 2 := by omega
      have e3 : lcode p (l + 1) ≠ 4 * k + 3 := by omega
      simp [h0, e0, e1, e2, e3]
theorem child_code {c : Ce} (hc : rightC c = true) (hl : c.l ≠ 16) {i : Nat} (hi : i < 4) : rightC (childR c i).1 = true ∧ (childR c i).1.l.toNat = c.l.toNat + 1 ∧ (codeR (childR c i).1).1 = 4 * (codeR c).1 + i := by
  obtain ⟨n, x, y, rfl, hn, hx, hy⟩ := rightC_nat hc
  have e : (childR ⟨n, x, y⟩ (i : Nat)).1 = ⟨((n + 1 : Nat) : Int), ((2 * x + i % 2 : Nat) : Int), ((2 * y + i / 2 : Nat) : Int)⟩ := by
    simp only [childR, hc]
    simp only at hl
    have h4 : (0 : Int) ≤ (i : Int) ∧ (i : Int) ≤ 3 := by omega
    simp [hl, h4]
  rw [e]
  simp only at hl
  have hx' : 2 * x + i % 2 < 2 ^ (n + 1) := by rw [Nat.pow_succ]; omega
  have hy' : 2 * y + i / 2 < 2 ^ (n + 1) := by rw [Nat.pow_succ]; omega
  refine ⟨rightC_of (by omega) hx' hy', by simp, ?_⟩
  rw [codeR_nat (by omega) hx' hy', codeR_nat hn hx hy]
  simp only
  rw [mort_succ, show (2 * x + i % 2) / 2 = x by omega, show (2 * y + i / 2) / 2 = y by omega]
  omega
def sumC (ps : List Pt) (c : Ce) (k : Nat) : Nat := ((List.range k).map fun i => cellN ps (childR c (i : Nat)).1).sum
theorem sumC_succ (ps : List Pt) (c : Ce) (k : Nat) : sumC ps c (k + 1) = sumC ps c k + cellN ps (childR c (k : Nat)).1 := by simp [sumC, List.range_succ]
theorem sumC_le (ps : List Pt) (c : Ce) (k : Nat) : sumC ps c k ≤ k * ps.length := by
  induction k with
  | zero => simp [sumC]
  | succ k ih =>
    rw [sumC_succ, Nat.succ_mul]
    have := cellN_le ps (childR c (k : Nat)).1
    omega
theorem sum_four (ps : List Pt) {c : Ce} (hc : rightC c = true) (hl : c.l ≠ 16) : cellN ps c = sumC ps c 4 := by
  have h1 := rightC_iff.1 hc
  have e : ∀ i, i < 4 → cellN ps (childR c (i : Nat)).1 = cntL ps (c.l.toNat + 1) (4 * (codeR c).1 + i) := fun i hi => by
    obtain ⟨q1, q2, q3⟩ := child_code hc hl hi
    unfold cellN
    rw [if_pos q1, q2, q3]
  have e0 : cellN ps c = cntL ps c.l.toNat (codeR c).1 := by unfold cellN; rw [if_pos hc]
  rw [e0, cnt_four ps (by omega)]
  have s0 : sumC ps c 0 = 0 := rfl
  have s1 := sumC_succ ps c 0
  have s2 := sumC_succ ps c 1
  have s3 := sumC_succ ps c 2
  have s4 := sumC_succ ps c 3
  rw [e 0 (by omega)] at s1
  rw [e 1 (by omega)] at s2
  rw [e 2 (by omega)] at s3
  rw [e 3 (by omega)] at s4
  simp only [Nat.zero_add, Nat.reduceAdd, Nat.add_zero] at s1 s2 s3 s4
  omega
def SuI (xs : List Pt) (c : Ce) (r : Nat) (ms : List Nat) (k : Nat) (F : Fr) (H : List Bk) : Prop := PyrS H r ms (haveL xs) ∧ H[0]? = some (.cells [.v (.sc (.int .i64 c.l)), .v (.sc (.int .i64 c.x)), .v (.sc (.int .i64 c.y))]) ∧
  F = [(3, .v (.ptr 0 0)), (5, .v (.ptr r 0)), (7, .v (.sc (.int .i64 (sumC (haveL xs) c k)))), (8, .v (.sc (.int .i64 k)))]
theorem sumsLaw (xs : List Pt) (c : Ce) : AFn Try.prog 4 [slP xs, c.v] [] fun y _ => y = .sc (.bool true) := by
  have hC := fun (H : List Bk) (r : Nat) (ms : List Nat) (h : PyrS H r ms (haveL xs)) => h.count c
  have hCh := fun (H : List Bk) (r : Nat) (ms : List Nat) (i : Int) (h : PyrS H r ms (haveL xs)) => h.count (childR c i).1
  have hR := refRightC c
  have hK := fun i => refChild c i
  have hlen := haveL_len xs
  unfold Ce.v Ce.cs at hC hR hK hCh ⊢
  refine AFn.intro (fn := Try.f4) (by kernel_rfl) rfl (by kernel_rfl) (by simp) (AW.ofx [] mixed (by kernel_rfl) ?_)
  simp only [Try.f4, argsF]
  by_cases hx : xs.length ≤ 100
  rotate_left
  · simp
    refine callK.of (builtNot xs (by omega) _) ?_
    rintro y H1 ⟨rfl, k1⟩
    have hx' : (100 : Int) < xs.length := by omega
    simp [nilPy, nilPy', slP, hx']
    refine callK.pure knownP rfl rfl ?_
    simp
  simp
  refine callK.of (built xs hx _) ?_
  rintro y H1 ⟨r, ms, rfl, h1, k1, _, _⟩
  have q1 := k1 0 _ (by simp) rfl (fun _ _ _ => by simp)
  try simp [q1]
  refine callK.pure hR rfl rfl ?_
  cases hr : rightC c with
  | false =>
    simp
    refine callK.pure knownP rfl rfl ?_
    simp
  | true =>
  by_cases hl : c.l = 16
  · simp [q1, hl]
    refine callK.pure knownP rfl rfl ?_
    simp
  have hl' : (c.l == 16) = false := by simpa using hl
  simp [q1, hl']
  refine AW.count 4 (SuI xs c r ms) ⟨_, ?_, h1, q1, rfl⟩ ?_
  · simp [subW, weakV, getF, sumC]
  rintro k F H2 hk ⟨h2, q2, rfl⟩
  refine AW.ofx [] mixed (by kernel_rfl) ?_
  have q2' := fun L => get_app (L := L) q2
  by_cases hlt : k < 4
  · have hlt' : (k : Int) < 4 := by omega
    have hle := sumC_le (haveL xs) c k
    have hlv := cellN_le (haveL xs) (childR c (k : Nat)).1
    have hb : k * (haveL xs).length ≤ 4 * 100 := Nat.mul_le_mul (by omega) (by omega)
    have w1 : IntKind.i64.wrap ((k : Int) + 1) = (k : Int) + 1 := by rw [wrap_i64] <;> omega
    have w2 : IntKind.i64.wrap ((sumC (haveL xs) c k : Int) + (cellN (haveL xs) (childR c (k : Nat)).1 : Int)) = (sumC (haveL xs) c k : Int) + (cellN (haveL xs) (childR c (k : Nat)).1 : Int) := by rw [wrap_i64] <;> omega
    have hs := sumC_succ (haveL xs) c k
    have hcall := fun L => hCh (H2 ++ L) r ms (k : Nat) h2.app
    have hk2 := hK (k : Nat)
    generalize (childR c (k : Nat)).1 = d at *
    generalize (childR c (k : Nat)).2 = ok at *
    simp [hlt', q2]
    refine callK.pure hk2 rfl rfl ?_
    simp [q2, setLast]
    refine callK.of (hcall _) ?_
    rintro y H3 ⟨rfl, h3, k3⟩
    simp [w1, w2]
    refine ⟨hlt, _, ?_, h3, k3 _ _ (by simp) (q2' _) (fun _ _ _ => by simp), rfl⟩
    rw [hs]
    simp [subW, weakV, getF]
  · have hk' : k = 4 := by omega
    subst hk'
    simp [q2]
    refine callK.of (hC _ _ _ h2) ?_
    rintro y H3 ⟨rfl, h3, k3⟩
    rw [sum_four _ hr hl]
    simp
    refine callK.pure knownP rfl rfl ?_
    simp
/-! ## Levels -/
theorem lvl_up {H : List Bk} {r : Nat} {ms : List Nat} {ps : List Pt} (h : PyrS H r ms ps) {l : Nat} (hl : l < 16) : levN ps (l : Nat) ≤ levN ps ((l + 1 : Nat) : Int) := by
  obtain ⟨⟨M, _, hG⟩, hf, _⟩ := h
  have h1 := lvl_plain hf (show l ≤ 16 by omega) (hG l (by omega))
  have h2 := lvl_plain hf (show l + 1 ≤ 16 by omega) (hG (l + 1) (by omega))
  unfold levN
  rw [← h1, ← h2]
  have := len_of_sub (l1 := (M l).map Prod.fst) (l2 := ((M (l + 1)).map Prod.fst).map (· / 4)) (hG l (by omega)).nd (fun c hc => by
    rw [(hG l (by omega)).mem] at hc
    unfold cntL at hc
    obtain ⟨p, hp⟩ := List.exists_mem_of_length_pos hc
    obtain ⟨q1, q2⟩ := List.mem_filter.1 hp
    have q2 : lcode p l = c := by simpa using q2
    refine List.mem_map.2 ⟨lcode p (l + 1), ((hG (l + 1) (by omega)).mem _).2 (cntL_pos q1 _), ?_⟩
    show lcode p (l + 1) / 4 = c
    rw [lcode_up p hl, q2])
  simpa using this
theorem lvl_zero {H : List Bk} {r : Nat} {ms : List Nat} {ps : List Pt} (h : PyrS H r ms ps) {l : Nat} (hl : l ≤ 16) : levN ps (l : Nat) = 0 ↔ ps.length = 0 := by
  constructor
  · intro h0
    obtain ⟨⟨M, _, hG⟩, hf, _⟩ := h
    have h1 := lvl_plain hf hl (hG l (by omega))
    cases ps with
    | nil => rfl
    | cons p ps =>
      have hm := ((hG l (by omega)).mem (lcode p l)).2 (cntL_pos (by simp) l)
      have := List.length_pos_of_mem hm
      simp at this
      unfold levN at h0
      omega
  · intro h0
    have := levN_le ps (l : Nat)
    omega
theorem levelsLaw (xs : List Pt) (l : Int) : AFn Try.prog 5 [slP xs, .sc (.int .i64 l)] [] fun y _ => y = .sc (.bool true) := by
  have hlen := haveL_len xs
  refine AFn.intro (fn := Try.f5) (by kernel_rfl) rfl (by kernel_rfl) (by simp) (AW.ofx [] mixed (by kernel_rfl) ?_)
  simp only [Try.f5, argsF]
  by_cases hx : xs.length ≤ 100
  rotate_left
  · simp
    refine callK.of (builtNot xs (by omega) _) ?_
    rintro y H1 ⟨rfl, k1⟩
    have hx' : (100 : Int) < xs.length := by omega
    simp [nilPy, nilPy', slP, hx']
    refine callK.pure knownP rfl rfl ?_
    simp
  simp
  refine callK.of (built xs hx _) ?_
  rintro y H1 ⟨r, ms, rfl, h1, k1, _, _⟩
  by_cases h0 : l < 0
  · simp [h0]
    refine callK.pure knownP rfl rfl ?_
    simp
  by_cases h15 : 15 < l
  · simp [h0, h15]
    refine callK.pure knownP rfl rfl ?_
    simp
  obtain ⟨n, hn⟩ := Int.eq_ofNat_of_zero_le (show 0 ≤ l by omega)
  have u1 := lvl_up h1 (show n < 16 by omega)
  have u2 := levN_le (haveL xs) ((n + 1 : Nat) : Int)
  have u3 := lvl_zero h1 (show n ≤ 16 by omega)
  have e1 : l + 1 = ((n + 1 : Nat) : Int) := by omega
  have w1 : IntKind.i64.wrap (l + 1) = l + 1 := by rw [wrap_i64] <;> omega
  rw [← e1] at u1 u2
  rw [← hn] at u1 u3
  simp [h0, h15]
  refine callK.of (h1.level l) ?_
  rintro y H2 ⟨rfl, rfl⟩
  simp [w1]
  refine callK.of (h1.level (l + 1)) ?_
  rintro y H3 ⟨rfl, rfl⟩
  simp [u1, w1]
  refine callK.of (h1.level (l + 1)) ?_
  rintro y H4 ⟨rfl, rfl⟩
  simp [u2, slP]
  refine callK.of (h1.level l) ?_
  rintro y H5 ⟨rfl, rfl⟩
  have e3 : (((haveL xs).length : Int) == 0) = ((levN (haveL xs) l : Int) == 0) := by
    rw [Bool.eq_iff_iff]
    simp only [beq_iff_eq]
    omega
  simp [slP, boolIs, e3]
  refine callK.pure knownP rfl rfl ?_
  simp
end Go.Proofs.Ytoooldijnilpaaa
