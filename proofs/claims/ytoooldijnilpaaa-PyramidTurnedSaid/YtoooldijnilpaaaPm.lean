/- All the points of a pyramid. -/
import Derived.Test.YtoooldijnilpaaaPk
import Derived.Test.YtoooldijnilpaaaAz
namespace Go.Proofs.Ytoooldijnilpaaa
set_option linter.all false
open Go.RowKit AM
set_option maxRecDepth 10000
attribute [local simp] aw_skip' aw_region' aw_seq' aw_cond' aw_block' aw_loop' aw_exit' aw_label' aw_ret' aops_nil' aops_cons' aop' aMove aAssign aPick aAlloc aBox aBuild aBuildSlice aLoad aLoadOwn aStore aStoreOwn isOwn delR aNilCheck aBin aMakeFunc aFieldAddr aField aIndexAddr aExtract aSliceOp aSlice aCallOp aCall' aLen aLenMap aDelete aMM aUn aConv aIface aAssert aMakeMap aLookup aMapUpdate aRange aNext aEntry entsOf keyB lookV aAppend putK layK eval evalV AM.valOf getF putF setF del SV.refers cellsAt rootSV plains shift ldV V.exact V.exactL V.ofValue V.ofPart V.ofCell V.cells V.one Value.oneCell' fitB qSeq qBlock getB afin aret resVs resV resTmps shareF evalS tupV valsS valsV pickV calm calmB lenV useOf feeds looks isT newsV partsV fillV putAt zerosV fitsNil nilB isEq isNeq awx_skip' awx_region' awx_seq' awx_cond' awx_block' awx_loop' awx_exit' awx_label' awx_ret' xops_nil' xops_cons' xop' xload xcall' addO delO inO putD memB Mix.effB Mix.laysB keysF badK subW weakV zeroRow yops_nil' yops_cons' yop' yload yindex yfield ylen oldO dropO takeO oldL exactB

/-- The points, in the order of their codes. -/
def sortP (ps : List Pt) : List Pt := ps.mergeSort fun p q => decide (pcode p ≤ pcode q)
theorem sortP_perm (ps : List Pt) : (sortP ps).Perm ps := List.mergeSort_perm _ _
theorem sortP_rises (ps : List Pt) : (sortP ps).Pairwise fun p q => pcode p ≤ pcode q := by
  have := List.pairwise_mergeSort (le := fun p q : Pt => decide (pcode p ≤ pcode q)) (fun a b c h1 h2 => by simp at *; omega) (fun a b => by simp; omega) ps
  simpa [sortP] using this
def codeZ (p : Pt) : Int := (pcode p : Nat)
theorem sortP_codes (ps : List Pt) : sorted' (ps.map codeZ) = (sortP ps).map codeZ := by
  refine (sorted'_unique ((sortP_perm ps).map codeZ) ?_).symm
  rw [List.pairwise_map]
  exact (sortP_rises ps).imp fun h => by unfold codeZ; omega
theorem sorted'_perm {a b : List Int} (h : a.Perm b) : sorted' a = sorted' b := by
  refine (sorted'_unique (a := b) ?_ (sorted'_rises a))
  exact (List.mergeSort_perm a _).trans h
def allC (es : List (Nat × Nat)) : List Int := es.flatMap fun e => List.replicate e.2 (e.1 : Int)
theorem count_allC {es : List (Nat × Nat)} (hn : (es.map Prod.fst).Nodup) (c : Nat) : (allC es).count (c : Int) = look es c := by
  induction es with
  | nil => rfl
  | cons e es ih =>
    simp only [List.map_cons, List.nodup_cons] at hn
    rw [look_cons]
    unfold allC at ih ⊢
    rw [List.flatMap_cons, List.count_append, ih hn.2, List.count_replicate]
    by_cases h : c = e.1
    · subst h
      rw [if_pos rfl, look_out hn.1]
      simp
    · rw [if_neg h]
      have : ¬ (e.1 : Int) = c := fun e' => h (by omega)
      simp [this]
theorem allC_nat {es : List (Nat × Nat)} {z : Int} (h : z ∈ allC es) : ∃ c : Nat, z = c := by
  unfold allC at h
  obtain ⟨e, _, h2⟩ := List.mem_flatMap.1 h
  exact ⟨e.1, (List.mem_replicate.1 h2).2⟩
theorem allC_perm {es : List (Nat × Nat)} {ps : List Pt} (h : Lv es (cntL ps 16)) : (allC es).Perm (ps.map codeZ) := by
  rw [List.perm_iff_count]
  intro z
  by_cases hz : ∃ c : Nat, z = c
  · obtain ⟨c, rfl⟩ := hz
    rw [count_allC h.nd, h.look]
    unfold cntL
    rw [List.count_eq_length_filter, List.filter_map, List.length_map]
    congr 1
    apply List.filter_congr
    intro p _
    simp only [lcode16, codeZ, Function.comp]
    rw [Bool.eq_iff_iff]
    simp only [decide_eq_true_eq, beq_iff_eq]
    omega
  · rw [List.count_eq_zero.2 (fun hm => hz (allC_nat hm)), List.count_eq_zero.2 (fun hm => by
      obtain ⟨p, _, e⟩ := List.mem_map.1 hm
      exact hz ⟨pcode p, e.symm⟩)]
def codesV (zs : List Int) : List V := zs.map fun z => .sc (.int .u64 z)
theorem scs_codes (zs : List Int) : scs (fun z : Int => [.int .u64 z]) zs = codesV zs := by
  unfold scs codesV
  induction zs with
  | nil => rfl
  | cons z zs ih =>
    rw [List.flatMap_cons, ih]
    rfl
theorem codesV_snoc (zs : List Int) (z : Int) : codesV zs ++ [.sc (.int .u64 z)] = codesV (zs ++ [z]) := by simp [codesV]
def rowZ (zs : List Int) : SV := .own true 67 zs.length 1 (codesV zs)
theorem row_codes {q : List Int} {k : Nat} (h : k < q.length) : AM.rowAt 1 (codesV q) (k : Int) = [.sc (.int .u64 q[k])] := by
  unfold AM.rowAt
  rw [Int.toNat_natCast, Nat.mul_one]
  unfold codesV
  rw [← List.map_drop, ← List.map_take, List.drop_eq_getElem_cons h]
  rfl
theorem cFromP (p : Pt) (hf : fits p = true) : PFn Try.prog 66 [.sc (.int .i64 16), .sc (.int .u64 (codeZ p))] (.tup [(⟨16, p.x, p.y⟩ : Ce).v, .sc (.bool true)]) := by
  obtain ⟨x, y, rfl, hx, hy⟩ := fits_nat hf
  have := cFromCode x y hx hy
  unfold codeZ
  rw [pcode_nat hx hy]
  exact this
theorem set_two {H : List Bk} {a b : Bk} {k : Bk} : (H ++ [a, b]).set (H.length + 1) k = H ++ [a, k] := by simp [List.set_append]
theorem set_one {H : List Bk} {cs : List SV} {b : Bk} {y : SV} {j : Nat} : setBlk (H ++ [.cells cs, b]) H.length j y = H ++ [.cells (cs.set j y), b] := by
  simp [setBlk]
theorem setB_last {H : List Bk} {cs : List SV} {j : Nat} {y : SV} : setBlk (H ++ [.cells cs]) H.length j y = H ++ [.cells (cs.set j y)] := by simp [setBlk]
section
variable {H : List Bk} {r : Nat} {ms : List Nat} {ps : List Pt}
def PmI (H : List Bk) (r m : Nat) (all : List Int) (n : Nat) (F : Fr) (H1 : List Bk) : Prop :=
  ∃ (left : List (Nat × Nat)) (zs : List Int) (cu : Option (Value × V)), n = left.length ∧ (zs ++ allC left).Perm all ∧ H1 = H ++ [.cells [rowZ zs], .iter m (left.map entP) cu] ∧ F = [(0, .v (.ptr r 0)), (3, .v (.ptr H.length 0)), (19, .v (.ptr (H.length + 1) 0))]
theorem erase_perm {α : Type} : ∀ {l : List α} {i : Nat} (h : i < l.length), ((l[i]'h) :: l.eraseIdx i).Perm l
  | x :: l, 0, _ => by simp
  | x :: l, i + 1, h => by
    have hi : i < l.length := by simpa using h
    have := erase_perm (l := l) (i := i) hi
    simp only [List.getElem_cons_succ, List.eraseIdx_cons_succ]
    exact (List.Perm.swap x (l[i]'hi) _).trans (this.cons x)
theorem cslot (i j t : Nat) : (Root.cell i j == Root.slot t) = false := by simp
theorem ccell (i j : Nat) : (Root.cell i j == Root.cell i j) = true := by simp
attribute [local simp] cslot ccell
def PnI (H : List Bk) (r m e1 e2 : Nat) (zs : List Int) (left : List (Nat × Nat)) (k : Nat) (F : Fr) (H1 : List Bk) : Prop :=
  H1 = H ++ [.cells [rowZ (zs ++ List.replicate k (e1 : Int))], .iter m (left.map entP) (some (.int .u64 e1, .sc (.int .i64 e2)))] ∧
  F = [(0, .v (.ptr r 0)), (3, .v (.ptr H.length 0)), (4, .v (.sc (.int .u64 e1))), (19, .v (.ptr (H.length + 1) 0)), (25, .v (.sc (.int .i64 e2))), (26, .v (.sc (.int .i64 k)))]
def PqI (H : List Bk) (qs : List Pt) (m : Nat) (cu : Option (Value × V)) (zs : List Int) (k : Nat) (F : Fr) (H1 : List Bk) : Prop :=
  H1[H.length]? = some (.cells [.own true 67 qs.length 1 (codesV (qs.map codeZ))]) ∧ KeptM [] H H1 ∧ F = [(3, .v (.ptr H.length 0)), (6, ownP (qs.take k)), (37, .lnk (.cell H.length 0) qs.length), (38, .v (.sc (.int .i64 qs.length))), (39, .v (.sc (.int .i64 k)))]
theorem PyrS.points (h : PyrS H r ms ps) : AFn Try.prog 29 [.ptr r 0] H fun y H' => y = slP (sortP ps) ∧ KeptM [] H H' := by
  refine AFn.intro (fn := Try.f29) (by kernel_rfl) rfl (by kernel_rfl) (by simp) ?_
  simp only [Try.f29, argsF]
  refine AW.seq (AW.ofx [] mixed (by kernel_rfl) ?_)
  simp
  refine AW.seq (AW.ofx [] mixed (by kernel_rfl) ?_)
  simp
  refine callK.of h.made ?_
  rintro y H' ⟨rfl, rfl⟩
  obtain ⟨⟨M, hp, hG⟩, hf, hlen⟩ := id h
  have hr := hp.r
  have hlt : 16 < ms.length := by rw [hp.len]; decide
  have hm : ms[16]? = some ms[16] := List.getElem?_eq_getElem hlt
  have hH := hp.m _ _ hm
  have hall := allC_perm (hG 16 (by decide))
  generalize ms[16] = m at *
  generalize M 16 = es at *
  simp
  refine AW.seq (AW.ofx [] mixed (by kernel_rfl) ?_)
  simp
  refine AW.weakCell (rowZ []) (id := H'.length) (off := 0) (by simp; rfl) rfl ⟨rfl, rfl, by decide⟩ rfl ?_
  rw [setB_last]
  have hr' := fun L => get_app (L := L) hr
  have hH' := fun L => get_app (L := L) hH
  refine AW.seq (AW.ofx [] mixed (by kernel_rfl) ?_)
  have hm' : ms[16]'hlt = m := by
    have := List.getElem?_eq_getElem hlt
    rw [hm] at this
    exact (Option.some.inj this).symm
  simp [hr', hH', plains_head, hm, hm', hp.len]
  refine AW.loopW (PmI H' r m (ps.map codeZ)) ⟨es.length, _, ?_, es, [], none, rfl, by simpa using hall, rfl, rfl⟩ ?_
  · simp [subW, weakV, getF]
  rintro n F H1 ⟨left, zs, cu, rfl, hzs, rfl, rfl⟩
  refine AW.ofx [] mixed (by kernel_rfl) ?_
  simp
  refine ⟨fun e => ?_, fun i k v e1 e2 => ?_⟩
  · subst e
    have hzs : zs.Perm (ps.map codeZ) := by simpa [allC] using hzs
    have hzl : zs.length ≤ 100000 := by
      have := hzs.length_eq
      rw [List.length_map] at this
      omega
    refine AW.seq (AW.sortCell (i := H'.length) (ks := [rowZ zs]) (zs := zs) (n := zs.length) sortsCodes ⟨_, Try.func64, rfl, by kernel_rfl⟩ (fun x v hv => by simp at hv; subst hv; rfl) rfl rfl rfl rfl rfl rfl rfl rfl rfl rfl rfl rfl rfl (by decide) (by decide) (by decide) (by decide) (by decide) (by decide) (by decide) (by decide) (by decide) (by simp) (by simp) ⟨_, Try.underlying92⟩ (by rfl) (by simp) (by simp [rowZ, scs_codes]) rfl (by omega) ?_)
    rintro ys rfl hl
    have hs := sorted'_perm hzs
    rw [sortP_codes] at hs
    rw [hs] at hl ⊢
    rw [scs_codes, ← hl, set_one]
    simp only [List.set_cons_zero, List.map_nil]
    have hql : (sortP ps).length ≤ 100000 := by rw [(sortP_perm ps).length_eq]; exact hlen
    have hqf : ∀ p ∈ sortP ps, fits p = true := fun p hp => hf p ((sortP_perm ps).mem_iff.1 hp)
    generalize sortP ps = qs at *
    clear hs hl hzs
    refine AW.ofx [] mixed (by kernel_rfl) ?_
    simp [cslot]
    refine AW.count qs.length (PqI H' qs m cu zs) ⟨_, ?_, by simp, KeptM.refl.append, rfl⟩ ?_
    · simp [subW, weakV, getF, zeroRow, ownP]
    rintro k F H2 hk ⟨hq, kq, rfl⟩
    have hq' := fun L => get_app (L := L) hq
    refine AW.ofx [] mixed (by kernel_rfl) ?_
    by_cases hlt : k < qs.length
    · have w1 : IntKind.i64.wrap ((k : Int) + 1) = (k : Int) + 1 := by rw [wrap_i64] <;> omega
      have hC := cFromP qs[k] (hqf _ (List.getElem_mem hlt))
      have hrow : (codesV (qs.map codeZ))[k]? = some (.sc (.int .u64 (codeZ qs[k]))) := by simp [codesV, hlt]
      unfold Ce.v Ce.cs at hC
      simp [hlt, hrow, ownP, hq]
      refine callK.pure hC rfl rfl ?_
      simp [w1, ownP, hlt, hq, hq', setLast]
      refine ⟨by omega, _, ?_, hq' _, kq.append, rfl⟩
      have e1 : ownP (qs.take (k + 1)) = .own true 43 (min k qs.length + 1) 2 ((qs.take k).flatMap Pt.cs ++ [.sc (.int .i64 qs[k].x), .sc (.int .i64 qs[k].y)]) := by
        unfold ownP
        rw [List.take_succ_eq_append_getElem hlt, List.flatMap_append, List.length_append, List.length_take]
        rfl
      rw [e1]
      simp [subW, weakV, getF]
    · have hk' : k = qs.length := by omega
      subst hk'
      simp [ownP]
      exact ⟨rfl, kq⟩
  · rintro hi he
    obtain ⟨rfl, rfl⟩ : Value.int .u64 e1 = k ∧ V.sc (.int .i64 e2) = v := by simpa [entP] using he
    have hil : i < left.length := (List.getElem?_eq_some_iff.1 hi).1
    have hperm : (allC left).Perm (List.replicate e2 (e1 : Int) ++ allC (left.eraseIdx i)) := by
      have h1 : left[i] = (e1, e2) := (List.getElem?_eq_some_iff.1 hi).2
      have h2 := (erase_perm hil).symm
      rw [h1] at h2
      exact (List.Perm.flatMap_right _ h2).trans (by simp [allC])
    have hlen2 : zs.length + e2 ≤ 100000 := by
      have h1 := hzs.length_eq
      have h2 := hperm.length_eq
      simp at h1 h2
      omega
    have hnew : (zs ++ List.replicate e2 (e1 : Int) ++ allC (left.eraseIdx i)).Perm (ps.map codeZ) := by
      rw [List.append_assoc]
      exact (List.Perm.append_left zs hperm.symm).trans hzs
    rw [← map_eraseIdx]
    refine AW.count e2 (PnI H' r m e1 e2 zs (left.eraseIdx i)) ⟨_, ?_, by simp, rfl⟩ ?_
    · simp [subW, weakV, getF]
    rintro k F H2 hk ⟨rfl, rfl⟩
    refine AW.ofx [] mixed (by kernel_rfl) ?_
    by_cases hlt : k < e2
    · have w1 : IntKind.i64.wrap ((k : Int) + 1) = (k : Int) + 1 := by rw [wrap_i64] <;> omega
      simp [hlt, rowZ, set_one, w1]
      refine ⟨⟨by omega, by omega⟩, _, ?_, ?_, rfl⟩
      · simp [subW, weakV, getF]
      · rw [codesV_snoc, rowZ, List.replicate_succ', ← List.append_assoc]
        simp [Nat.add_assoc]
    · have hk' : k = e2 := by omega
      subst hk'
      simp
      refine ⟨_, ?_, _, ?_, left.eraseIdx i, _, _, rfl, hnew, rfl, rfl⟩
      · rw [List.length_eraseIdx, if_pos hil]; omega
      · simp [subW, weakV, getF]
end
end Go.Proofs.Ytoooldijnilpaaa
