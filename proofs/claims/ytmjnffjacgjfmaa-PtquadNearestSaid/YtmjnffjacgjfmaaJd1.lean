/- A quadtree of points: is it made, which child has a point, a place for a node; a record is put in. -/
import Derived.Test.YtmjnffjacgjfmaaJa
import Derived.Test.YtmjnffjacgjfmaaBi
import Derived.Test.YtmjnffjacgjfmaaBh
import Derived.Test.YtmjnffjacgjfmaaAt1
namespace Go.Proofs.Ytmjnffjacgjfmaa
set_option linter.all false
open Go.RowKit AM
set_option maxRecDepth 10000
attribute [local simp] aw_skip' aw_region' aw_seq' aw_cond' aw_block' aw_loop' aw_exit' aw_label' aw_ret' aops_nil' aops_cons' aop' aMove aAssign aPick aAlloc aBox aBuild slF aBuildSlice aLoad aLoadOwn aLoadS sharesAt shares sharedV aStore aStoreOwn isOwn delR aNilCheck aBin aMakeFunc aFieldAddr aField aIndexOp aIndex partV aIndexAddr aExtract aSliceOp aSlice slV aShrink aCallOp aCall' aInvoke' aLen aLenMap aDelete aMM aUn aConv aIface aAssert aMakeMap aLookup aMapUpdate aRange aNext aEntry entsOf keyB seekK aMakeSlice lookV aApp aAppendB aAppendF aAppend putK layK eval evalV AM.valOf getF putF setF del SV.refers cellsAt rootSV plains shift ldV V.exact V.exactL V.ofValue V.ofPart V.ofCell V.cells V.one Value.oneCell' fitB qSeq qBlock getB afin aret resVs resV resTmps shareF evalS tupV valsS valsV pickV calm calmB lenV useOf feeds shrinks stows looks isT newsV partsV fillV putAt zerosV fitsNil nilB sliceB isEq isNeq awx_skip' awx_region' awx_seq' awx_cond' awx_block' awx_loop' awx_exit' awx_label' awx_ret' xops_nil' xops_cons' xop' xload xcall' addO delO inO putD memB Mix.effB Mix.laysB keysF badK subW weakV zeroRow yops_nil' yops_cons' yop' yload yindex yfield ylen oldO dropO takeO oldL exactB V.fixed V.fixedL
attribute [local simp] awz_skip' awz_region' awz_seq' awz_cond' awz_block' awz_loop' awz_exit' awz_label' awz_ret' zops_nil' zops_cons' zop' zload zloadOwn zcall' zlenK z0 new0 remF old0 dltB
theorem nilPt {x y : Operand} : binR Try.prog .neq 27 x y (.pointer none) (.pointer none) = some (.bool false) := by kernel_rfl
theorem wmadeNil (H : List Bk) : AFn Try.prog 35 [.sc (.pointer none)] H fun y H' => y = .sc (.bool false) ∧ H' = H := by
  refine AFn.intro (fn := Try.f35) (by kernel_rfl) rfl (by kernel_rfl) (by simp) (AW.ofx [] mixed (by kernel_rfl) ?_)
  simp only [Try.f35, argsF]
  simp [nilPt]
theorem wmade {H : List Bk} {r b nb mb cap : Nat} {s : Ar} {es : List Pr} (h : TrA H r b nb mb cap s es) : AFn Try.prog 35 [.ptr r 0] H fun y H' => y = .sc (.bool (decide (0 < s.A.length))) ∧ H' = H := by
  have hr := h.cr
  unfold trC at hr
  refine AFn.intro (fn := Try.f35) (by kernel_rfl) rfl (by kernel_rfl) (by simp) (AW.ofx [] mixed (by kernel_rfl) ?_)
  simp only [Try.f35, argsF]
  simp [hr]
/-- What the function that looks for a kid sees. -/
def kidY (n a : Nat) (lvl : Int) (p : Pt) (ys : List V) : Prop := ∃ u0 u2 u3 cs tl, (cs.drop (a * 10)).take 10 = .sc (.int .i64 lvl) :: tl ∧ ys = [.rd [u0, .sl n 10 cs, u2, u3], .sc (.int .i64 a), p.v]
theorem wkidP {n a : Nat} {lvl : Int} {p : Pt} (hl : 0 ≤ lvl ∧ lvl ≤ 100) (ha : a < n) (ys : List V) (hy : kidY n a lvl p ys) : PFn Try.prog 64 ys (.sc (.int .i64 (kidZ p lvl))) := by
  obtain ⟨u0, u2, u3, cs, tl, h1, rfl⟩ := hy
  have hO := cOf p (lvl + 1)
  have hw : IntKind.i64.wrap (lvl + 1) = lvl + 1 := by rw [wrap_i64] <;> omega
  have hn := ofR_nn p (lvl + 1)
  unfold Pt.v Pt.cs at hO ⊢
  unfold kidZ
  generalize ofR p (lvl + 1) = u at *
  obtain ⟨c, ok⟩ := u
  unfold Ce.v Ce.cs at hO
  refine AFn.intro (fn := Try.f64) (by kernel_rfl) rfl (by kernel_rfl) (by simp) ?_
  simp only [Try.f64, argsF]
  refine AW.seq (AW.ofx [] mixed (by kernel_rfl) ?_)
  simp
  have hrow : AM.rowAt 10 cs (a : Int) = .sc (.int .i64 lvl) :: tl := by
    unfold AM.rowAt
    simpa using h1
  refine AW.seq (AW.off [] [(1, 15, 17, [5, 0, 1])] mixed (by kernel_rfl) ?_)
  simp [awf_skip', awf_region', awf_seq', awf_cond', awf_block', awf_loop', awf_exit', awf_label', awf_ret', flK, floatY', yopsB_nil', yopsB_cons', ystep', ha, hw, hrow]
  have e1 : Int.tmod c.x 2 = c.x % 2 := Int.tmod_eq_emod_of_nonneg hn.1
  have e2 : Int.tmod c.y 2 = c.y % 2 := Int.tmod_eq_emod_of_nonneg hn.2
  have w1 : IntKind.i64.wrap (c.x % 2) = c.x % 2 := by rw [wrap_i64] <;> omega
  have w2 : IntKind.i64.wrap (c.y % 2) = c.y % 2 := by rw [wrap_i64] <;> omega
  have w3 : IntKind.i64.wrap (c.y % 2 * 2) = c.y % 2 * 2 := by rw [wrap_i64] <;> omega
  have w4 : IntKind.i64.wrap (c.x % 2 + c.y % 2 * 2) = c.x % 2 + c.y % 2 * 2 := by rw [wrap_i64] <;> omega
  have kp : ∀ x y : Bk, keepS [x] [x, y] := fun x y => of_eq_true (keepS_app (H := [x]) (L := [y]))
  refine ⟨callK.pure hO rfl rfl ?_, kp _ _, callK.pure hO rfl rfl ?_⟩
  all_goals
    simp [awf_skip', awf_region', awf_seq', awf_cond', awf_block', awf_loop', awf_exit', awf_label', awf_ret', flK, floatY', yopsB_nil', yopsB_cons', ystep', kp, setCells, setBlk]
    refine AW.ofx [] mixed (by kernel_rfl) ?_
    simp [binR_rem, e1, e2, w1, w2, w3, w4]
/-- What it sees, out of a tree. -/
theorem kid_view {H : List Bk} {r b nb mb cap : Nat} {s : Ar} {es : List Pr} {a : Nat} {q : Qn} {p : Pt} (h : TrA H r b nb mb cap s es) (hq : s.A[a]? = some q) : FView H [.ptr r 0, .sc (.int .i64 a), p.v] (kidY s.A.length a q.c.l p) := by
  intro c w vs hi hr
  have hal := (List.getElem?_eq_some_iff.1 hq).1
  have hle := h.le
  have hcr := h.cr
  unfold trC at hcr
  cases hr with
  | cons h1 h2 =>
  cases h1 with
  | @ptr _ _ B hB =>
  obtain ⟨_, _, arr, e, g1, g2, g6, g3⟩ := hi.blk r B _ hB hcr
  have h4 : arr.size = 4 := by rw [g2]; rfl
  have f1 := g3 1 _ _ rfl (Array.getElem?_eq_getElem (by omega))
  have hs : Rel c.I c.φ (.slb nb 0 s.A.length cap) (arr[1]'(by omega)) := f1.2
  rcases slb_shape hs with ⟨Bn, hn, hv1, q1, q2⟩ | ⟨_, _, _, _⟩
  rotate_left
  · omega
  obtain ⟨_, _, arr2, e2, k1, k2, k6, k3⟩ := hi.blk nb Bn _ hn (h.cn (by omega))
  have hlen2 : s.A.length * 10 ≤ arr2.size := by rw [k2, arC_len]; omega
  let us := arr2.toList.take (s.A.length * 10)
  have hul : us.length = s.A.length * 10 := by simp [us]; omega
  have huget : ∀ (j : Nat) (u : Value), us[j]? = some u → arr2[j]? = some u := fun j u hu => by
    simp only [us, List.getElem?_take] at hu
    split at hu
    · simpa using hu
    · cases hu
  have hcell : ∀ (j : Nat) (u : Value), us[j]? = some u → w.cell? ⟨Bn, 0 + j, none⟩ = some u := fun j u hu => by
    rw [Nat.zero_add]
    simp [World.cell?, k1, huget j u hu]
  have hfirst : us[a * 10]? = some (.int .i64 q.c.l) := by
    have hj : a * 10 < us.length := by omega
    have hg := List.getElem?_eq_getElem hj
    have hx := arC_get hq ((cap - s.A.length) * 10) 0 (by omega)
    rw [Nat.add_zero] at hx
    have := (k3 (a * 10) _ _ hx (huget _ _ hg)).2
    have : Rel c.I c.φ (.sc (.int .i64 q.c.l)) (us[a * 10]) := this
    rw [hg, Rel.exact this rfl]
  let ar : List Value := arr.toList
  have har : ∀ j (hj : j < 4), ar[j]? = some (arr[j]'(by omega)) := fun j hj => by simp [ar, h4, hj]
  refine ⟨[.rd [.sc (arr[0]'(by omega)), .sl s.A.length 10 (us.map .sc), .sc (arr[2]'(by omega)), .sc (arr[3]'(by omega))], .sc (.int .i64 a), p.v], ?_, ?_⟩
  · refine ⟨_, _, _, _, ((us.map V.sc).drop (a * 10 + 1)).take 9, ?_, rfl⟩
    have hj : a * 10 < (us.map V.sc).length := by simp; omega
    rw [List.drop_eq_getElem_cons hj, List.take_succ_cons]
    congr 1
    have : (us.map V.sc)[a * 10]? = some (.sc (.int .i64 q.c.l)) := by rw [List.getElem?_map, hfirst]; rfl
    rw [List.getElem?_eq_getElem hj] at this
    exact Option.some.inj this
  · refine .cons (.rd (vs := [arr[0]'(by omega), arr[1]'(by omega), arr[2]'(by omega), arr[3]'(by omega)]) (.cons (.sc _) (.cons ?_ (.cons (.sc _) (.cons (.sc _) .nil)))) (fun j u hu => ?_) (fun u hu => ?_)) (RelL.closed (RelL.mono hi.imm (fun _ _ h => h) h2) rfl)
    · rw [hv1]
      refine .sl (relL_map (fun v => .sc v) us) hcell (by simp [hul]) q1 q2 fun u hu => k6 u (List.mem_of_mem_take hu)
    · have hj : j < 4 := by simpa using (List.getElem?_eq_some_iff.1 hu).1
      have : arr[j]? = some u := by
        rcases (show j = 0 ∨ j = 1 ∨ j = 2 ∨ j = 3 by omega) with rfl | rfl | rfl | rfl <;> (simp at hu; rw [← hu]; simp [h4])
      simp [World.cell?, g1, this]
    · simp at hu
      rcases hu with rfl | rfl | rfl | rfl <;> exact g6 _ (by simp)
theorem wkid {H : List Bk} {r b nb mb cap : Nat} {s : Ar} {es : List Pr} {a : Nat} {q : Qn} {p : Pt} (h : TrA H r b nb mb cap s es) (hq : s.A[a]? = some q) (hc : rightC q.c = true) : SeeFn Try.prog 64 (kidY s.A.length a q.c.l p) (.sc (.int .i64 (kidF p q.c.l))) := by
  have hal := (List.getElem?_eq_some_iff.1 hq).1
  have hl := rightC_iff.1 hc
  rw [kidF_eq]
  refine ⟨⟨_, Try.func64, rfl, by kernel_rfl⟩, fun ys hy => wkidP (by omega) hal ys hy⟩
theorem snoc_of {α : Type} {l : List α} {x : α} (h : l.getLast? = some x) : ∃ l0, l = l0 ++ [x] := by
  rcases List.eq_nil_or_concat l with rfl | ⟨l0, y, rfl⟩
  · simp at h
  · simp at h
    exact ⟨l0, by rw [h]; simp⟩
theorem snoc_len {α : Type} (l : List α) (x : α) : (l ++ [x]).length = l.length + 1 := by simp
theorem frS_snoc (l : List Nat) (x : Nat) : frS (l ++ [x]) = frS l ++ [.sc (.int .i64 x)] := by simp [frS]
theorem frS_len (l : List Nat) : (frS l).length = l.length := by simp [frS]
/-- A fresh node as it is made. -/
def nd0 (c : Ce) : List SV := [.v (.sc (.int .i64 c.l)), .v (.sc (.int .i64 c.x)), .v (.sc (.int .i64 c.y)), .v (.sc (.int .i64 (-1))), .v (.sc (.int .i64 (-1))), .v (.sc (.int .i64 (-1))), .v (.sc (.int .i64 (-1))), .v (.sc (.int .i64 0)), .v (.sc (.bool false)), .v .nil]
set_option maxHeartbeats 2000000 in
theorem wleaf {H : List Bk} {r b nb mb cap : Nat} {s s' : Ar} {es : List Pr} {c : Ce} {a : Nat} (h : TrA H r b nb mb cap s es) (hl : leafF s c = some (s', a)) :
    AFn Try.prog 44 [.ptr r 0, c.v] H fun y H' => y = .sc (.int .i64 a) ∧ ∃ nb' cap', TrA H' r b nb' mb cap' s' es ∧ Stp r nb H H' nb' := by
  unfold Ce.v Ce.cs
  have hr := h.cr
  unfold trC at hr
  have hr' := fun L => hget (L := L) hr
  refine AFn.intro (fn := Try.f44) (by kernel_rfl) rfl (by kernel_rfl) (by simp) ?_
  simp only [Try.f44, argsF]
  refine AW.seq (AW.ofx [] mixed (by kernel_rfl) ?_)
  simp
  refine AW.seq (AW.ofx [] mixed (by kernel_rfl) ?_)
  simp [setCells_last1]
  have hT := h.app (L := [Bk.cells [.v (.sc (.int .i64 c.l)), .v (.sc (.int .i64 c.x)), .v (.sc (.int .i64 c.y))], Bk.cells (nd0 c)])
  have hN : (H ++ [Bk.cells [.v (.sc (.int .i64 c.l)), .v (.sc (.int .i64 c.x)), .v (.sc (.int .i64 c.y))], Bk.cells (nd0 c)])[H.length + 1]? = some (.cells (nd0 c)) := by simp
  have hS : Stp r nb H (H ++ [Bk.cells [.v (.sc (.int .i64 c.l)), .v (.sc (.int .i64 c.x)), .v (.sc (.int .i64 c.y))], Bk.cells (nd0 c)]) nb := Stp.refl.app
  have hor : r < H.length + 1 := by have := h.rl; omega
  have hon : cap ≠ 0 → nb < H.length + 1 := fun hc => by have := (List.getElem?_eq_some_iff.1 (h.cn hc)).1; omega
  unfold nd0 at hT hN hS
  refine AW.sub [(0, .v (.ptr r 0)), (5, .v (.ptr (H.length + 1) 0))] (by simp [subF, getF]) ?_
  generalize H ++ [_, _] = H2 at *
  generalize H.length + 1 = o at *
  clear hr hr'
  have hr := hT.cr
  unfold trC at hr
  have hle := hT.le
  cases hfr : s.fr.getLast? with
  | some a0 =>
    obtain ⟨fr0, hf⟩ : ∃ fr0, s.fr = fr0 ++ [a0] := snoc_of hfr
    unfold leafF at hl
    rw [hfr] at hl
    simp only at hl
    split at hl
    rotate_left
    · cases hl
    rename_i hb
    simp only [Option.some.injEq, Prod.mk.injEq] at hl
    obtain ⟨rfl, rfl⟩ := hl
    obtain ⟨ha, hbig⟩ := hb
    have hcap : cap ≠ 0 := by omega
    have hn := hT.cn hcap
    have hrn := hT.rn hcap
    rw [hf] at hr hbig
    rw [frS_snoc, snoc_len] at hr
    rw [snoc_len] at hbig
    unfold big at hbig
    have w1 : IntKind.i64.wrap (fr0.length : Int) = (fr0.length : Int) := by rw [wrap_i64] <;> omega
    have hlt : (fr0.length : Int) < (fr0.length : Int) + 1 := by omega
    have hfd : (frS fr0 ++ [V.sc (.int .i64 (a0 : Int))]).drop fr0.length = [.sc (.int .i64 a0)] := by
      rw [← frS_len fr0, List.drop_left]
    have hft : (frS fr0 ++ [V.sc (.int .i64 (a0 : Int))]).take fr0.length = frS fr0 := by
      rw [← frS_len fr0, List.take_left]
    refine AW.seq (AW.seq (AW.ofx [] mixed (by kernel_rfl) ?_))
    simp [hr, w1]
    refine AW.seq (AW.ofx [] mixed (by kernel_rfl) ?_)
    simp
    refine AW.cond true (by simp) (fun _ => ?_) (fun e => by cases e)
    refine AW.seq (AW.ofx [] mixed (by kernel_rfl) ?_)
    simp [hr, hlt, hfd]
    have hrl := (List.getElem?_eq_some_iff.1 hr).1
    have f1 : ∀ x, setBlk H2 r 2 x = H2.set r (.cells [.v (.sc (.int .i64 b)), .v (.slb nb 0 s.A.length cap), x, .v (.map mb)]) := fun x => by rw [setBlk_eq' hr]; rfl
    have f2 : ∀ x z, setBlk (H2.set r (.cells [.v (.sc (.int .i64 b)), .v (.slb nb 0 s.A.length cap), x, .v (.map mb)])) r 2 z = H2.set r (.cells [.v (.sc (.int .i64 b)), .v (.slb nb 0 s.A.length cap), z, .v (.map mb)]) := fun x z => by rw [setBlk_eq' (List.getElem?_set_self hrl), List.set_set]; rfl
    have f3 : ∀ K, (H2.set r K)[r]? = some K := fun K => List.getElem?_set_self hrl
    have f4 : ∀ K, (H2.set r K)[o]? = some (.cells (nd0 c)) := fun K => by rw [List.getElem?_set_ne (by omega)]; exact hN
    have f5 : ∀ K, (H2.set r K)[nb]? = some (.cells (arC s.A ((cap - s.A.length) * 10))) := fun K => by rw [List.getElem?_set_ne hrn]; exact hn
    have hac := arC_len s.A ((cap - s.A.length) * 10)
    unfold nd0 at f4
    refine AW.seq (AW.ofx [] mixed (by kernel_rfl) ?_)
    simp [hr, hlt, hft, f1, f2, f3]
    refine ⟨by omega, ?_⟩
    refine AW.seq (AW.ofx [] mixed (by kernel_rfl) ?_)
    simp [f3, f4, f5, ha]
    have hW := fun K => storeN (H := H2.set r K) (q := leafN c) (f5 K) ha ⟨rfl, rfl⟩
    unfold ndV leafN at hW
    refine ⟨by omega, AW.wk (hW _) ?_⟩
    refine AW.seq (AW.ofx [] mixed (by kernel_rfl) ?_)
    simp
    refine AW.ofx [] mixed (by kernel_rfl) ?_
    simp
    refine ⟨nb, ⟨cap, ?_⟩, ((hS.set (.inl rfl)).set (.inr (.inl rfl)))⟩
    have hnl := (List.getElem?_eq_some_iff.1 hn).1
    refine ⟨?_, fun _ => ?_, ?_, by simpa using hle, fun _ => hrn, hT.b0, by simpa using hrl⟩
    · rw [List.getElem?_set_ne (Ne.symm hrn), f3]
      unfold trC
      rw [hf]
      simp
    · rw [List.getElem?_set_self (by simpa using hnl)]
      simp [leafN]
    · rw [List.getElem?_set_ne (hT.nm hcap), List.getElem?_set_ne hT.rm]
      exact hT.cm
  | none =>
    have hf : s.fr = [] := by
      cases h : s.fr with
      | nil => rfl
      | cons x l => rw [h] at hfr; simp at hfr
    unfold leafF at hl
    rw [hfr] at hl
    simp only at hl
    split at hl
    rotate_left
    · cases hl
    rename_i hbig
    simp only [Option.some.injEq, Prod.mk.injEq] at hl
    obtain ⟨rfl, rfl⟩ := hl
    unfold big at hbig
    rw [hf] at hr
    have w1 : IntKind.i64.wrap (-1) = -1 := by decide
    refine AW.seq (AW.seq (AW.ofx [] mixed (by kernel_rfl) ?_))
    simp [hr, frS, w1]
    refine AW.seq (AW.ofx [] mixed (by kernel_rfl) ?_)
    simp
    refine AW.cond false (by simp) (fun e => by cases e) (fun _ => ?_)
    refine AW.ofx [] mixed (by kernel_rfl) ?_
    simp
    refine AW.sub [(0, .v (.ptr r 0)), (5, .v (.ptr o 0))] (by simp [subF, getF]) ?_
    have hrl := (List.getElem?_eq_some_iff.1 hr).1
    simp only [frS, List.length_nil, List.map_nil] at hr
    by_cases hcap : cap = 0
    · subst hcap
      have hA : s.A = [] := List.eq_nil_of_length_eq_zero (by omega)
      have g3 : ∀ k, (H2 ++ [k])[r]? = H2[r]? := fun k => by rw [List.getElem?_append_left hrl]
      refine AW.seq (AW.ofx [] mixed (by kernel_rfl) ?_)
      simp [hr, hN, g3]
      refine ⟨⟨by omega, by omega⟩, fun cap' hc' => ?_⟩
      simp only [setCells, setBlk_eq' ((g3 _).trans hr)]
      rw [List.set_append_left _ _ hrl]
      have hW := fun L => laidN (L := L) (k := (cap' - 1) * 10) (A := []) (q := leafN c) ⟨rfl, rfl⟩
      unfold ndV leafN at hW
      simp at hW
      refine AW.wk (hW _) ?_
      have hcr : ∀ x, (H2.set r x ++ [Bk.cells (arC [⟨c, -1, -1, -1, -1, 0, false, [], true⟩] ((cap' - 1) * 10))])[r]? = some x := fun x => by rw [List.getElem?_append_left (by simpa using hrl), List.getElem?_set_self hrl]
      refine AW.ofx [] mixed (by kernel_rfl) ?_
      simp [hcr]
      refine ⟨by rw [hA]; decide, H2.length, ⟨cap', ?_⟩, ⟨fun i x hi hx => hget (((hS.set (k := _) (.inl rfl)).kp) i x hi hx), by have := hS.len; simp; omega, .inr hS.len⟩⟩
      refine ⟨?_, fun _ => ?_, ?_, by rw [hA]; simpa using hc', fun _ => by simp; omega, hT.b0, by simp; omega⟩
      · rw [hcr, hA]
        rfl
      · rw [List.getElem?_append_right (by simp), hA]
        simp [leafN]
      · rw [List.getElem?_append_left (by have := (List.getElem?_eq_some_iff.1 hT.cm).1; simpa using this), List.getElem?_set_ne hT.rm]
        exact hT.cm
    · have hn := hT.cn hcap
      have hrn := hT.rn hcap
      have g1 : ∀ ds, (setCells H2 nb (s.A.length * 10) ds)[r]? = H2[r]? := fun ds => setCells_other hrn
      have hnl := (List.getElem?_eq_some_iff.1 hn).1
      have g2 : ∀ k, (H2.set nb .dead ++ [k])[r]? = H2[r]? := fun k => by rw [List.getElem?_append_left (by simpa using hrl), List.getElem?_set_ne (Ne.symm hrn)]
      have hml := (List.getElem?_eq_some_iff.1 hT.cm).1
      refine AW.seq (AW.ofx [] mixed (by kernel_rfl) ?_)
      simp [hr, hN, hn, g1, g2, hcap]
      have hlen := arC_len s.A ((cap - s.A.length) * 10)
      refine ⟨⟨by omega, by omega⟩, by omega, fun hroom => ?_, fun _ cap' hc' => ?_⟩
      · have e1 : ∀ (H0 : List Bk) ks x, H0[r]? = some (.cells ks) → setCells H0 r 1 [x] = H0.set r (.cells (ks.set 1 (.v x))) := fun H0 ks x h0 => by simp only [setCells, setBlk_eq' h0]
        rw [e1 _ _ _ ((g1 _).trans hr), setCells_comm hrn hn (by simp; omega)]
        have hn2 : ∀ K, (H2.set r K)[nb]? = some (.cells (arC s.A ((cap - s.A.length) * 10))) := fun K => by rw [List.getElem?_set_ne hrn]; exact hn
        have hW := fun K => moreN (H := H2.set r K) (q := leafN c) (hn2 K) hroom ⟨rfl, rfl⟩
        unfold ndV leafN at hW
        refine AW.wk (hW _) ?_
        have hcr : ∀ x K, ((H2.set r x).set nb K)[r]? = some x := fun x K => by rw [List.getElem?_set_ne (Ne.symm hrn), List.getElem?_set_self hrl]
        refine AW.ofx [] mixed (by kernel_rfl) ?_
        simp [hcr]
        refine ⟨by rw [wrap_i64] <;> omega, nb, ⟨cap, ?_⟩, ((hS.set (.inl rfl)).set (.inr (.inl rfl)))⟩
        refine ⟨?_, fun _ => ?_, ?_, by simpa using hroom, fun _ => hrn, hT.b0, by simpa using hrl⟩
        · rw [hcr]
          simp [trC, frS]
        · rw [List.getElem?_set_self (by simpa using hnl)]
          simp [leafN]
        · rw [List.getElem?_set_ne (hT.nm hcap), List.getElem?_set_ne hT.rm]
          exact hT.cm
      · have e1 : ∀ (H0 : List Bk) ks x, H0[r]? = some (.cells ks) → setCells H0 r 1 [x] = H0.set r (.cells (ks.set 1 (.v x))) := fun H0 ks x h0 => by simp only [setCells, setBlk_eq' h0]
        rw [e1 _ _ _ ((g2 _).trans hr), List.set_append_left _ _ (by simpa using hrl)]
        have hW := fun L => laidN (L := L) (k := (cap' - (s.A.length + 1)) * 10) (A := s.A) (q := leafN c) ⟨rfl, rfl⟩
        unfold ndV leafN at hW
        simp only [List.map_cons, List.map_nil, List.append_assoc, List.cons_append, List.nil_append] at hW
        rw [arC_take]
        refine AW.wk (hW _) ?_
        have hcr : ∀ x K, ((H2.set nb .dead).set r x ++ [K])[r]? = some x := fun x K => by rw [List.getElem?_append_left (by simpa using hrl), List.getElem?_set_self (by simpa using hrl)]
        refine AW.ofx [] mixed (by kernel_rfl) ?_
        simp [hcr]
        refine ⟨by rw [wrap_i64] <;> omega, H2.length, ⟨cap', ?_⟩, ⟨fun i x hi hx => hget ((((hS.set (k := .dead) (.inr (.inl rfl))).set (k := _) (.inl rfl)).kp) i x hi hx), by have := hS.len; simp; omega, .inr hS.len⟩⟩
        refine ⟨?_, fun _ => ?_, ?_, by simpa using hc', fun _ => by omega, hT.b0, by simp; omega⟩
        · rw [hcr]
          simp [trC, frS]
        · rw [List.getElem?_append_right (by simp)]
          simp [leafN]
        · rw [List.getElem?_append_left (by simpa using hml), List.getElem?_set_ne hT.rm, List.getElem?_set_ne (hT.nm hcap)]
          exact hT.cm
end Go.Proofs.Ytmjnffjacgjfmaa
namespace Go.Proofs.Ytmjnffjacgjfmaa
set_option linter.all false
open Go.RowKit AM
set_option maxRecDepth 10000
attribute [local simp] aw_skip' aw_region' aw_seq' aw_cond' aw_block' aw_loop' aw_exit' aw_label' aw_ret' aops_nil' aops_cons' aop' aMove aAssign aPick aAlloc aBox aBuild slF aBuildSlice aLoad aLoadOwn aLoadS sharesAt shares sharedV aStore aStoreOwn isOwn delR aNilCheck aBin aMakeFunc aFieldAddr aField aIndexOp aIndex partV aIndexAddr aExtract aSliceOp aSlice slV aShrink aCallOp aCall' aInvoke' aLen aLenMap aDelete aMM aUn aConv aIface aAssert aMakeMap aLookup aMapUpdate aRange aNext aEntry entsOf keyB seekK aMakeSlice lookV aApp aAppendB aAppendF aAppend putK layK eval evalV AM.valOf getF putF setF del SV.refers cellsAt rootSV plains shift ldV V.exact V.exactL V.ofValue V.ofPart V.ofCell V.cells V.one Value.oneCell' fitB qSeq qBlock getB afin aret resVs resV resTmps shareF evalS tupV valsS valsV pickV calm calmB lenV useOf feeds shrinks stows looks isT newsV partsV fillV putAt zerosV fitsNil nilB sliceB isEq isNeq awx_skip' awx_region' awx_seq' awx_cond' awx_block' awx_loop' awx_exit' awx_label' awx_ret' xops_nil' xops_cons' xop' xload xcall' addO delO inO putD memB Mix.effB Mix.laysB keysF badK subW weakV zeroRow yops_nil' yops_cons' yop' yload yindex yfield ylen oldO dropO takeO oldL exactB V.fixed V.fixedL
attribute [local simp] awz_skip' awz_region' awz_seq' awz_cond' awz_block' awz_loop' awz_exit' awz_label' awz_ret' zops_nil' zops_cons' zop' zload zloadOwn zcall' zlenK z0 new0 remF old0 dltB
def AddI (H : List Bk) (r b nb mb cap o : Nat) (rec : Ar → Nat → Pr → Option Ar) (rc : Pr) (s' : Ar) (es : List Pr) (n : Nat) (F : Fr) (H1 : List Bk) : Prop :=
  ∃ (s1 : Ar) (a1 : Nat), TrA H1 r b nb mb cap s1 es ∧ addF b rec n s1 a1 rc = some s' ∧ H1[o]? = some (prB rc) ∧ Stp r nb H H1 nb ∧ o ≠ nb ∧ o ≠ r ∧ F = [(0, .v (.ptr r 0)), (1, .v (.sc (.int .i64 a1))), (5, .v (.ptr o 0))]
def PartOK (b : Nat) (rec : Ar → Nat → Pr → Option Ar) : Prop := ∀ (H : List Bk) (r nb mb cap : Nat) (s s' : Ar) (es : List Pr) (a : Nat), TrA H r b nb mb cap s es → partF rec s a = some s' →
  AFn Try.prog 65 [.ptr r 0, .sc (.int .i64 a)] H fun y H' => ∃ nb' cap', TrA H' r b nb' mb cap' s' es ∧ Stp r nb H H' nb'
def PutOK (b : Nat) (rec : Ar → Nat → Pr → Option Ar) : Prop := ∀ (H : List Bk) (r nb mb cap : Nat) (s s' : Ar) (es : List Pr) (a : Nat) (rc : Pr), TrA H r b nb mb cap s es → rec s a rc = some s' →
  AFn Try.prog 45 [.ptr r 0, .sc (.int .i64 a), rc.v] H fun y H' => ∃ nb' cap', TrA H' r b nb' mb cap' s' es ∧ Stp r nb H H' nb'
/-- Behind the row that has grown. -/
def AddM (r b nb mb cap a o : Nat) (rc : Pr) (s2 : Ar) (es : List Pr) (H H2 : List Bk) (F : Fr) (H3 : List Bk) : Prop :=
  ∃ H4, Wk H3 H4 ∧ TrA H4 r b nb mb cap s2 es ∧ Stp r nb H H4 nb ∧ F = [(0, .v (.ptr r 0)), (1, .v (.sc (.int .i64 a))), (6, .v (.ptr nb (a * 10)))]
set_option maxHeartbeats 4000000 in
theorem wput {b : Nat} {rec : Ar → Nat → Pr → Option Ar} (hp : PartOK b rec) : PutOK b (addF b rec 18) := by
  intro H r nb mb cap s s' es a rc hT hadd
  unfold Pr.v Pr.cs
  refine AFn.intro (fn := Try.f45) (by kernel_rfl) rfl (by kernel_rfl) (by simp) ?_
  simp only [Try.f45, argsF]
  refine AW.seq (AW.ofx [] mixed (by kernel_rfl) ?_)
  simp
  have hc0 : cap ≠ 0 := by
    obtain ⟨_, q, _, hq, _⟩ := addF_some hadd
    exact hT.cap0 hq
  have hnl := (List.getElem?_eq_some_iff.1 (hT.cn hc0)).1
  have hrl := hT.rl
  refine AW.seq (AW.block (AW.loopW (AddI H r b nb mb cap H.length rec rc s' es) ⟨18, [(0, .v (.ptr r 0)), (1, .v (.sc (.int .i64 a))), (5, .v (.ptr H.length 0))], ?_, s, a, hT.app (L := [prB rc]), hadd, by simp [prB], Stp.refl.app, by omega, by omega, rfl⟩ ?_))
  · simp [subW, weakV, getF]
  rintro n F H1 ⟨s1, a1, h1, h2, h3, h4, ho1, ho2, rfl⟩
  obtain ⟨n, q, rfl, hq, hok, h2⟩ := addF_some h2
  obtain ⟨hc, hm1, hm2, hl⟩ := hok
  have hr := h1.cr
  have hn := h1.cn hc0
  have hrn := h1.rn hc0
  have hal := (List.getElem?_eq_some_iff.1 hq).1
  unfold trC at hr
  have hlen := arC_len s1.A ((cap - s1.A.length) * 10)
  obtain ⟨t8, d8⟩ := drop_split hq ((cap - s1.A.length) * 10)
  obtain ⟨t7, d7⟩ := drop_many hq ((cap - s1.A.length) * 10)
  refine AW.seq (AW.ofx [] mixed (by kernel_rfl) ?_)
  simp [hr, hn, hal, d8]
  rcases h2 with ⟨hs, a2, hk, h2⟩ | ⟨hs, h2⟩
  · simp only [hs, gd_tt]
    have w1 : IntKind.i64.wrap (q.many + 1) = q.many + 1 := by rw [wrap_i64] <;> omega
    have st : ∀ z, setBlk H1 nb (a1 * 10 + 7) (.v (.sc (.int .i64 z))) = H1.set nb (.cells (arC (s1.A.set a1 { q with many := z }) ((cap - s1.A.length) * 10))) := fun z => by rw [setBlk_eq' hn, set_many hq]
    have g8 : ({ q with many := q.many + 1 } : Qn).split = true := hs
    refine AW.block (AW.seq (AW.ofx [] mixed (by kernel_rfl) ?_))
    simp [hr, hn, hal, d7, w1, setCells, st]
    refine ⟨by omega, ?_⟩
    refine AW.sub [(0, .v (.ptr r 0)), (1, .v (.sc (.int .i64 a1))), (5, .v (.ptr H.length 0))] (by simp [subF, getF]) ?_
    have h1' := h1.node { q with many := q.many + 1 } hq
    have h3' : (H1.set nb (.cells (arC (s1.A.set a1 { q with many := q.many + 1 }) ((cap - s1.A.length) * 10))))[H.length]? = some (prB rc) := by rw [List.getElem?_set_ne (Ne.symm ho1)]; exact h3
    have h4' := h4.set (k := .cells (arC (s1.A.set a1 { q with many := q.many + 1 }) ((cap - s1.A.length) * 10))) (.inr (.inl rfl))
    have hq' : (s1.A.set a1 { q with many := q.many + 1 })[a1]? = some { q with many := q.many + 1 } := List.getElem?_set_self hal
    have hk' : ({ q with many := q.many + 1 } : Qn).kid (kidF rc.at_ q.c.l) = (a2 : Int) := by rw [← hk]; rcases (show kidF rc.at_ q.c.l = 0 ∨ kidF rc.at_ q.c.l = 1 ∨ kidF rc.at_ q.c.l = 2 ∨ kidF rc.at_ q.c.l = 3 by have := kidF_lt rc.at_ q.c.l; omega) with e | e | e | e <;> rw [e] <;> rfl
    have hal' : a1 < (s1.A.set a1 { q with many := q.many + 1 }).length := by simpa using hal
    have hK := wkid (p := rc.at_) h1' hq' hc
    have hV := kid_view (p := rc.at_) h1' hq'
    generalize H1.set nb _ = H2 at *
    have hr2 := h1'.cr
    have hn2 := h1'.cn hc0
    obtain ⟨tk, dk⟩ := drop_kid hq' ((cap - (s1.A.set a1 { q with many := q.many + 1 }).length) * 10) (kidF rc.at_ q.c.l) (kidF_lt _ _)
    rw [hk'] at dk
    have hkl := kidF_lt rc.at_ q.c.l
    unfold trC at hr2
    unfold prB at h3'
    unfold Pt.v Pt.cs at hV
    generalize s1.A.set a1 _ = A2 at *
    generalize kidF rc.at_ q.c.l = ki at *
    refine AW.ofz [(3, 12, [])] mixed (by kernel_rfl) ?_
    simp [hr2, hn2, hal', h3', hkl, dk]
    refine zcallK.see hK hV rfl ?_
    simp [hr2, hn2, hal', h3', hkl, dk]
    refine ⟨by omega, n, by omega, [(0, .v (.ptr r 0)), (1, .v (.sc (.int .i64 a2))), (5, .v (.ptr H.length 0))], ?_, ⟨A2, s1.fr⟩, a2, h1', h2, h3', h4', ho1, ho2, rfl⟩
    simp [subW, weakV, getF]
  · simp only [hs, gd_ft, qSeq, qBlock]
    have w1 : IntKind.i64.wrap (q.many + 1) = q.many + 1 := by rw [wrap_i64] <;> omega
    have st : ∀ z, setBlk H1 nb (a1 * 10 + 7) (.v (.sc (.int .i64 z))) = H1.set nb (.cells (arC (s1.A.set a1 { q with many := z }) ((cap - s1.A.length) * 10))) := fun z => by rw [setBlk_eq' hn, set_many hq]
    refine AW.seq (AW.ofx [] mixed (by kernel_rfl) ?_)
    simp [hr, hn, hal]
    refine AW.seq (AW.ofx [] mixed (by kernel_rfl) ?_)
    simp [hn, d7, w1, setCells, st]
    refine ⟨by omega, ?_⟩
    refine AW.sub [(0, .v (.ptr r 0)), (1, .v (.sc (.int .i64 a1))), (5, .v (.ptr H.length 0)), (6, .v (.ptr nb (a1 * 10)))] (by simp [subF, getF]) ?_
    have h1' := h1.node { q with many := q.many + 1 } hq
    have h3' : (H1.set nb (.cells (arC (s1.A.set a1 { q with many := q.many + 1 }) ((cap - s1.A.length) * 10))))[H.length]? = some (prB rc) := by rw [List.getElem?_set_ne (Ne.symm ho1)]; exact h3
    have h4' := h4.set (k := .cells (arC (s1.A.set a1 { q with many := q.many + 1 }) ((cap - s1.A.length) * 10))) (.inr (.inl rfl))
    have hq' : (s1.A.set a1 { q with many := q.many + 1 })[a1]? = some { q with many := q.many + 1 } := List.getElem?_set_self hal
    have hal' : a1 < (s1.A.set a1 { q with many := q.many + 1 }).length := by simpa using hal
    have hrn2 := h1'.rn hc0
    have hr2 := h1'.cr
    have hn2 := h1'.cn hc0
    have hnl2 := (List.getElem?_eq_some_iff.1 hn2).1
    have hge := get_rows hq' ((cap - (s1.A.set a1 { q with many := q.many + 1 }).length) * 10)
    have hse := fun l => set_rows hq' ((cap - (s1.A.set a1 { q with many := q.many + 1 }).length) * 10) false l
    obtain ⟨t9, d9⟩ := drop_rows hq' ((cap - (s1.A.set a1 { q with many := q.many + 1 }).length) * 10)
    have hlen2 := arC_len (s1.A.set a1 { q with many := q.many + 1 }) ((cap - (s1.A.set a1 { q with many := q.many + 1 }).length) * 10)
    have hnode := fun l => h1'.node { q with many := q.many + 1, l := l, full := false } hq'
    have hstp := fun l => h4'.set (i := nb) (k := .cells (arC ((s1.A.set a1 { q with many := q.many + 1 }).set a1 { q with many := q.many + 1, l := l, full := false }) ((cap - (s1.A.set a1 { q with many := q.many + 1 }).length) * 10))) (.inr (.inl rfl))
    generalize H1.set nb _ = H2 at *
    simp only [List.set_set] at hnode hstp hse
    unfold prB at h3'
    unfold trC at hr2
    have hfr : ∀ x : SV, setBlk H2 nb (a1 * 10 + 9) x = H2.set nb (.cells ((arC (s1.A.set a1 { q with many := q.many + 1 }) ((cap - (s1.A.set a1 { q with many := q.many + 1 }).length) * 10)).set (a1 * 10 + 9) x)) := fun x => setBlk_eq' hn2
    generalize arC (s1.A.set a1 { q with many := q.many + 1 }) ((cap - (s1.A.set a1 { q with many := q.many + 1 }).length) * 10) = ac at hn2 d9 hge hse hlen2 hfr
    refine AW.mid (AddM r b nb mb cap a1 H.length rc ⟨s1.A.set a1 { q with many := q.many + 1, l := q.l ++ [rc], full := false }, s1.fr⟩ es H H2) (AW.ofx [] mixed (by kernel_rfl) ?_) ?_
    · have hol : a1 * 10 + 9 < ac.length := (List.getElem?_eq_some_iff.1 hge).1
      have hF : ∀ (F : Fr) (H3 : List Bk) (pr : Bool), q.l ++ [rc] ≠ [] → H3 = H2.set nb (.cells (ac.set (a1 * 10 + 9) (.own pr 32 (q.l.length + 1) 4 ((q.l ++ [rc]).flatMap Pr.cs)))) → F = [(0, .v (.ptr r 0)), (1, .v (.sc (.int .i64 a1))), (6, .v (.ptr nb (a1 * 10)))] → AddM r b nb mb cap a1 H.length rc ⟨s1.A.set a1 { q with many := q.many + 1, l := q.l ++ [rc], full := false }, s1.fr⟩ es H H2 F H3 := by
        rintro F H3 pr hne rfl rfl
        refine ⟨_, ?_, hnode (q.l ++ [rc]), hstp (q.l ++ [rc]), rfl⟩
        rw [← hse (q.l ++ [rc]), lC_own]
        have := Wk.share (H := H2.set nb (.cells (ac.set (a1 * 10 + 9) (.own pr 32 (q.l.length + 1) 4 ((q.l ++ [rc]).flatMap Pr.cs))))) (id := nb) (off := a1 * 10 + 9) (List.getElem?_set_self hnl2) (List.getElem?_set_self hol)
        rw [List.set_set, List.set_set] at this
        rw [show (q.l ++ [rc]).length = q.l.length + 1 by simp]
        exact this
      by_cases hql : q.full = true
      · simp only [hql, lC_fs] at d9 hge
        simp [hn2, d9, h3', hge, hfr]
        refine ⟨⟨by omega, by omega⟩, by omega, [(0, .v (.ptr r 0)), (1, .v (.sc (.int .i64 a1))), (6, .v (.ptr nb (a1 * 10)))], ?_, hF _ _ true (by simp) ?_ rfl⟩
        · simp [subW, weakV, getF]
        · rw [flat_snoc]
      · have hql : q.full = false := by simpa using hql
        simp only [hql, lC_own] at hge d9
        have f4 : ∀ K, (H2.set nb K)[H.length]? = some (.cells [.v (.sc (.int .i64 rc.id)), .v (.sc (.int .i64 rc.at_.x)), .v (.sc (.int .i64 rc.at_.y)), .v (.sc (.int .i64 rc.lab))]) := fun K => by rw [List.getElem?_set_ne (Ne.symm ho1)]; exact h3'
        have f3 : ∀ K, (H2.set nb K)[nb]? = some K := fun K => List.getElem?_set_self hnl2
        have f2 : ∀ x z, setBlk (H2.set nb (.cells (ac.set (a1 * 10 + 9) x))) nb (a1 * 10 + 9) z = H2.set nb (.cells (ac.set (a1 * 10 + 9) z)) := fun x z => by rw [setBlk_eq' (f3 _), List.set_set, List.set_set]
        simp [hn2, d9, h3', hge, hfr, f2, f3, f4]
        refine ⟨⟨by omega, by omega⟩, by omega, [(0, .v (.ptr r 0)), (1, .v (.sc (.int .i64 a1))), (6, .v (.ptr nb (a1 * 10)))], ?_, hF _ _ false (by simp) ?_ rfl⟩
        · simp [subW, weakV, getF]
        · rw [flat_snoc]
    · rintro F3 H3 ⟨H4, hwk, hT4, hS4, rfl⟩
      refine AW.wk hwk ?_
      have hr4 := hT4.cr
      have hn4 := hT4.cn hc0
      have hq4 : (s1.A.set a1 { q with many := q.many + 1, l := q.l ++ [rc], full := false })[a1]? = some { q with many := q.many + 1, l := q.l ++ [rc], full := false } := List.getElem?_set_self hal
      have hge4 := get_rows hq4 ((cap - (s1.A.set a1 { q with many := q.many + 1, l := q.l ++ [rc], full := false }).length) * 10)
      obtain ⟨t4, d4⟩ := drop_rows hq4 ((cap - (s1.A.set a1 { q with many := q.many + 1, l := q.l ++ [rc], full := false }).length) * 10)
      obtain ⟨t5, d5⟩ := drop_cell hq4 ((cap - (s1.A.set a1 { q with many := q.many + 1, l := q.l ++ [rc], full := false }).length) * 10)
      have hP := fun s' h => hp H4 r nb mb cap ⟨s1.A.set a1 { q with many := q.many + 1, l := q.l ++ [rc], full := false }, s1.fr⟩ s' es a1 hT4 h
      rw [lC_own] at d4 hge4
      unfold trC at hr4
      simp only [List.length_append, List.length_cons, List.length_nil, Nat.zero_add] at d4 hge4
      generalize arC _ _ = ac4 at hn4 hge4 d4 d5
      refine AW.seq (AW.ofx [] mixed (by kernel_rfl) ?_)
      simp [hr4, hn4, hge4, d4, d5]
      have same : s' = ⟨s1.A.set a1 { q with many := q.many + 1, l := q.l ++ [rc], full := false }, s1.fr⟩ → ∃ nb', (∃ x, TrA H4 r b nb' mb x s' es) ∧ Stp r nb H H4 nb' := fun e => ⟨nb, ⟨cap, by rw [e]; exact hT4⟩, hS4⟩
      refine gd.intro (fun hb => ?_) (fun hb => ?_)
      · have hb : (b : Int) < (q.l.length : Int) + 1 := by simpa using hb
        refine AW.cond (decide (q.c.l < 16)) (by simp) (fun hc16 => ?_) (fun hc16 => ?_)
        · have hc16 : q.c.l < 16 := by simpa using hc16
          rcases h2 with ⟨_, _, h2⟩ | ⟨h2, _⟩
          rotate_left
          · exact absurd ⟨by omega, hc16⟩ h2
          refine AW.ofx [] mixed (by kernel_rfl) ?_
          simp
          refine callK.of (hP _ h2) ?_
          rintro y H5 ⟨nb5, cap5, k1, k2⟩
          simp
          exact ⟨nb5, ⟨cap5, k1⟩, hS4.trans k2⟩
        · have hc16 : ¬ q.c.l < 16 := by simpa using hc16
          rcases h2 with ⟨_, h2, _⟩ | ⟨_, h2⟩
          · exact absurd h2 hc16
          refine AW.ofx [] mixed (by kernel_rfl) ?_
          simp
          exact same h2
      · have hb : ¬ (b : Int) < (q.l.length : Int) + 1 := by simpa using hb
        rcases h2 with ⟨h2, _⟩ | ⟨_, h2⟩
        · exact absurd (by omega) hb
        refine AW.cond false (by simp) (fun e => by cases e) (fun _ => ?_)
        refine AW.ofx [] mixed (by kernel_rfl) ?_
        simp
        exact same h2
end Go.Proofs.Ytmjnffjacgjfmaa
namespace Go.Proofs.Ytmjnffjacgjfmaa
set_option linter.all false
open Go.RowKit AM
set_option maxRecDepth 10000
attribute [local simp] aw_skip' aw_region' aw_seq' aw_cond' aw_block' aw_loop' aw_exit' aw_label' aw_ret' aops_nil' aops_cons' aop' aMove aAssign aPick aAlloc aBox aBuild slF aBuildSlice aLoad aLoadOwn aLoadS sharesAt shares sharedV aStore aStoreOwn isOwn delR aNilCheck aBin aMakeFunc aFieldAddr aField aIndexOp aIndex partV aIndexAddr aExtract aSliceOp aSlice slV aShrink aCallOp aCall' aInvoke' aLen aLenMap aDelete aMM aUn aConv aIface aAssert aMakeMap aLookup aMapUpdate aRange aNext aEntry entsOf keyB seekK aMakeSlice lookV aApp aAppendB aAppendF aAppend putK layK eval evalV AM.valOf getF putF setF del SV.refers cellsAt rootSV plains shift ldV V.exact V.exactL V.ofValue V.ofPart V.ofCell V.cells V.one Value.oneCell' fitB qSeq qBlock getB afin aret resVs resV resTmps shareF evalS tupV valsS valsV pickV calm calmB lenV useOf feeds shrinks stows looks isT newsV partsV fillV putAt zerosV fitsNil nilB sliceB isEq isNeq awx_skip' awx_region' awx_seq' awx_cond' awx_block' awx_loop' awx_exit' awx_label' awx_ret' xops_nil' xops_cons' xop' xload xcall' addO delO inO putD memB Mix.effB Mix.laysB keysF badK subW weakV zeroRow yops_nil' yops_cons' yop' yload yindex yfield ylen oldO dropO takeO oldL exactB V.fixed V.fixedL
attribute [local simp] awz_skip' awz_region' awz_seq' awz_cond' awz_block' awz_loop' awz_exit' awz_label' awz_ret' zops_nil' zops_cons' zop' zload zloadOwn zcall' zlenK z0 new0 remF old0 dltB
/-- The kids are made, one by one. -/
def KidI (H : List Bk) (r b nb mb o : Nat) (q : Qn) (s : Ar) (a : Nat) (es : List Pr) (i : Nat) (F : Fr) (H1 : List Bk) : Prop :=
  ∃ (nb1 cap1 : Nat) (s1 : Ar) (ks : List Nat), TrA H1 r b nb1 mb cap1 s1 es ∧ kidsF q.c s i = some (s1, ks) ∧ H1[o]? = some (ceB q.c) ∧ H1[o + 1]? = some (kidB ks) ∧ Stp r nb H H1 nb1 ∧ (nb1 = nb ∨ o + 1 < nb1) ∧
    F = [(0, .v (.ptr r 0)), (1, .v (.sc (.int .i64 a))), (4, .v (lV q.l)), (5, .v (.ptr o 0)), (6, .v (.ptr (o + 1) 0)), (29, .v (.sc (.int .i64 i)))]
/-- The records go where they belong. -/
def PutI (H : List Bk) (r b nb mb : Nat) (rec : Ar → Nat → Pr → Option Ar) (l : List Pr) (s : Ar) (a : Nat) (es : List Pr) (i : Nat) (F : Fr) (H1 : List Bk) : Prop :=
  ∃ (nb1 cap1 : Nat) (s1 : Ar), TrA H1 r b nb1 mb cap1 s1 es ∧ putsF rec a l s i = some s1 ∧ Stp r nb H H1 nb1 ∧
    F = [(0, .v (.ptr r 0)), (1, .v (.sc (.int .i64 a))), (63, .v (lV l)), (64, .v (.sc (.int .i64 l.length))), (65, .v (.sc (.int .i64 i)))]
set_option maxHeartbeats 4000000 in
theorem wpart {b : Nat} {rec : Ar → Nat → Pr → Option Ar} (hp : PutOK b rec) : PartOK b rec := by
  intro H r nb mb cap s s' es a hT hpart
  obtain ⟨q, s4, ks4, q2, hq, hok, hkids, hq2, hputs⟩ := partF_some hpart
  obtain ⟨hc, hm1, hm2, hl⟩ := hok
  have hc0 := hT.cap0 hq
  have hr := hT.cr
  have hn := hT.cn hc0
  have hrn := hT.rn hc0
  have hnl := (List.getElem?_eq_some_iff.1 hn).1
  have hrl := hT.rl
  have hal := (List.getElem?_eq_some_iff.1 hq).1
  unfold trC at hr
  have hr' := fun L => hget (L := L) hr
  have hn' := fun L => hget (L := L) hn
  obtain ⟨t9, d9⟩ := drop_rows hq ((cap - s.A.length) * 10)
  obtain ⟨t0, d0⟩ := drop_cell hq ((cap - s.A.length) * 10)
  have hge := get_rows hq ((cap - s.A.length) * 10)
  have hse : ∀ x, x = lC q.full q.l → (arC s.A ((cap - s.A.length) * 10)).set (a * 10 + 9) x = arC s.A ((cap - s.A.length) * 10) := fun x hx => by
    rw [hx, set_rows hq]
    congr 1
    exact set_same hq
  generalize hac : arC s.A ((cap - s.A.length) * 10) = ac at *
  have hsb : ∀ x, x = lC q.full q.l → setBlk H nb (a * 10 + 9) x = H := fun x hx => by
    rw [setBlk_eq' hn, hse x hx]
    exact set_same hn
  refine AFn.intro (fn := Try.f65) (by kernel_rfl) rfl (by kernel_rfl) (by simp) ?_
  simp only [Try.f65, argsF]
  refine AW.mid (fun F H1 => F = [(0, .v (.ptr r 0)), (1, .v (.sc (.int .i64 a))), (4, .v (lV q.l)), (5, .v (.ptr H.length 0))] ∧ H1 = H ++ [ceB q.c]) (AW.ofx [] mixed (by kernel_rfl) ?_) ?_
  · have hcl : setCells (H ++ [Bk.cells [SV.v (V.sc (Value.int IntKind.i64 0)), SV.v (V.sc (Value.int IntKind.i64 0)), SV.v (V.sc (Value.int IntKind.i64 0))]]) H.length 0 [V.sc (Value.int IntKind.i64 q.c.l), V.sc (Value.int IntKind.i64 q.c.x), V.sc (Value.int IntKind.i64 q.c.y)] = H ++ [ceB q.c] := setCells_last rfl
    by_cases hql : q.full = true
    · simp only [hql, lC_fs] at d9 hge
      simp [hr, hn, hal, d9, d0, hge]
      refine ⟨_, ?_, rfl, hcl⟩
      simp [subW, weakV, getF]
      exact .inr (WV.of (lV_weak _))
    · have hql : q.full = false := by simpa using hql
      have hsb' := hsb (.own false 32 q.l.length 4 (q.l.flatMap Pr.cs)) (by rw [hql]; rfl)
      simp only [hql, lC_own] at d9 hge
      simp [hr, hn, hal, d9, d0, hge, hsb']
      refine ⟨_, ?_, rfl, hcl⟩
      simp [subW, weakV, getF, lV]
  · rintro F H1 ⟨rfl, rfl⟩
    refine AW.seq (AW.ofx [] mixed (by kernel_rfl) ?_)
    simp
    have hk0 : kidsF q.c s 0 = some (s, []) := rfl
    refine AW.mid (KidI H r b nb mb H.length q s a es 4) ?_ ?_
    · refine AW.seq (AW.ofx [] mixed (by kernel_rfl) ?_)
      simp
      refine AW.block (AW.count 4 (KidI H r b nb mb H.length q s a es) ⟨[(0, .v (.ptr r 0)), (1, .v (.sc (.int .i64 a))), (4, .v (lV q.l)), (5, .v (.ptr H.length 0)), (6, .v (.ptr (H.length + 1) 0)), (29, .v (.sc (.int .i64 0)))], ?_, nb, cap, s, [], hT.app (L := [ceB q.c, kidB []]), hk0, by simp, by simp [kidB, kidC, getK], Stp.refl.app, .inl rfl, rfl⟩ ?_)
      · simp [subW, weakV, getF]
      rintro k F H1 hk ⟨nb1, cap1, s1, ks, h1, h2, h3, h4, h5, h6, rfl⟩
      have hksl := kidsF_inv h2
      by_cases hk4 : k = 4
      · subst hk4
        refine AW.seq (AW.ofx [] mixed (by kernel_rfl) ?_)
        simp
        refine AW.seq (AW.ofx [] mixed (by kernel_rfl) ?_)
        simp
        refine ⟨_, ?_, nb1, cap1, s1, ks, h1, h2, h3, h4, h5, h6, rfl⟩
        simp [subW, weakV, getF]
      · have hlt : k < 4 := by omega
        have hltI : (k : Int) < 4 := by omega
        obtain ⟨s2, kk, hlf, hk1⟩ := kidsF_step hkids hlt h2
        have hC := cChild q.c (k : Int)
        unfold Ce.v Ce.cs at hC
        unfold ceB at h3
        refine AW.seq (AW.ofx [] mixed (by kernel_rfl) ?_)
        simp [hltI]
        refine AW.seq (AW.ofx [] mixed (by kernel_rfl) ?_)
        simp
        refine AW.seq (AW.block (AW.seq (AW.ofx [] mixed (by kernel_rfl) ?_)))
        simp
        refine AW.seq (AW.ofx [] mixed (by kernel_rfl) ?_)
        simp [h3]
        refine callK.pure hC rfl rfl ?_
        simp
        rw [setCells_last rfl]
        refine AW.sub [(0, .v (.ptr r 0)), (1, .v (.sc (.int .i64 a))), (4, .v (lV q.l)), (5, .v (.ptr H.length 0)), (6, .v (.ptr (H.length + 1) 0)), (29, .v (.sc (.int .i64 k))), (7, .v (.sc (.int .i64 k))), (8, .v (.ptr H1.length 0))] (by simp [subF, getF]) ?_
        have h1l := h5.len
        have hol := (List.getElem?_eq_some_iff.1 h4).1
        have hL := wleaf (h1.app (L := [ceB (childR q.c (k : Int)).1])) hlf
        unfold Ce.v Ce.cs ceB at hL
        refine AW.ofx [] mixed (by kernel_rfl) ?_
        simp
        refine callK.of hL ?_
        rintro y H2 ⟨rfl, nb2, cap2, k1, k2⟩
        have hn12 : nb1 ≠ H.length ∧ nb1 ≠ H.length + 1 := by rcases h6 with rfl | h6 <;> omega
        have g3 : H2[H.length]? = some (ceB q.c) := k2.kp _ _ (by omega) (hget h3)
        have g4 : H2[H.length + 1]? = some (kidB ks) := k2.kp _ _ (by omega) (hget h4)
        have hol2 := (List.getElem?_eq_some_iff.1 g4).1
        have g6 : nb2 = nb ∨ H.length + 1 < nb2 := by
          rcases k2.nb with rfl | e
          · exact h6
          · right
            simp at e
            omega
        have st : ∀ x, setBlk H2 (H.length + 1) k (.v (.sc (.int .i64 (x : Nat)))) = H2.set (H.length + 1) (.cells ([kidC ks 0, kidC ks 1, kidC ks 2, kidC ks 3].set k (.v (.sc (.int .i64 x))))) := fun x => setBlk_eq' g4
        unfold kidB at g4
        simp [hltI, g4, setCells_one, st]
        refine ⟨by omega, ?_⟩
        refine AW.ofx [] mixed (by kernel_rfl) ?_
        have w1 : IntKind.i64.wrap ((k : Int) + 1) = (k + 1 : Nat) := by rw [wrap_i64] <;> omega
        simp [w1]
        rw [kidB_set hksl hlt]
        have hn22 : nb2 ≠ H.length ∧ nb2 ≠ H.length + 1 := by rcases g6 with rfl | h6 <;> omega
        refine ⟨hlt, [(0, .v (.ptr r 0)), (1, .v (.sc (.int .i64 a))), (4, .v (lV q.l)), (5, .v (.ptr H.length 0)), (6, .v (.ptr (H.length + 1) 0)), (29, .v (.sc (.int .i64 ((k + 1 : Nat) : Int))))], ?_, nb2, cap2, s2, ks ++ [kk], ?_, hk1, ?_, ?_, ?_, g6, rfl⟩
        · simp [subW, weakV, getF]
        · exact k1.keep (I := fun x => x = H.length + 1) (KpA.refl.set rfl) (by omega) (fun _ => by omega) (fun e => by
            have := k1.cm
            rw [e, g4] at this
            cases this)
        · rw [List.getElem?_set_ne (by omega)]
          exact g3
        · rw [List.getElem?_set_self hol2]
          rfl
        · exact (h5.app.trans k2).set (.inr (.inr (by omega)))
    · rintro F H1 ⟨nb1, cap1, s1, ks, h1, h2, h3, h4, h5, h6, rfl⟩
      rw [hkids] at h2
      cases h2
      have hc1 := h1.cap0 hq2
      have hr1 := h1.cr
      have hn1 := h1.cn hc1
      have hrn1 := h1.rn hc1
      have hnl1 := (List.getElem?_eq_some_iff.1 hn1).1
      have hal1 := (List.getElem?_eq_some_iff.1 hq2).1
      have h1l := h5.len
      have hn12 : nb1 ≠ H.length ∧ nb1 ≠ H.length + 1 := by rcases h6 with rfl | h6 <;> omega
      unfold trC at hr1
      unfold kidB kidC at h4
      have hex := exactB_arC (sp := (cap1 - s4.A.length) * 10) (Nat.lt_of_le_of_lt (Nat.zero_le _) hal1)
      have kp : ∀ K, keepS H1 (H1.set nb1 K) := fun K => keepS_set hn1 hex
      obtain ⟨P, D, hP, hcut, hcut'⟩ := cutN hq2 ((cap1 - s4.A.length) * 10)
      rw [hcut] at hn1
      unfold ndC at hn1
      have f3 : ∀ K, (H1.set nb1 K)[nb1]? = some K := fun K => List.getElem?_set_self hnl1
      have st0 : ∀ x, setBlk H1 nb1 (a * 10 + 9) x = H1.set nb1 (.cells (P ++ ([.v (.sc (.int .i64 q2.c.l)), .v (.sc (.int .i64 q2.c.x)), .v (.sc (.int .i64 q2.c.y)), .v (.sc (.int .i64 q2.k0)), .v (.sc (.int .i64 q2.k1)), .v (.sc (.int .i64 q2.k2)), .v (.sc (.int .i64 q2.k3)), .v (.sc (.int .i64 q2.many)), .v (.sc (.bool q2.split)), x] ++ D))) := fun x => by
        rw [setBlk_eq' hn1, set_mid hP (by simp)]
        rfl
      have st8 : ∀ x y z, setBlk (H1.set nb1 (.cells (P ++ ([.v (.sc (.int .i64 q2.c.l)), .v (.sc (.int .i64 q2.c.x)), .v (.sc (.int .i64 q2.c.y)), .v (.sc (.int .i64 q2.k0)), .v (.sc (.int .i64 q2.k1)), .v (.sc (.int .i64 q2.k2)), .v (.sc (.int .i64 q2.k3)), .v (.sc (.int .i64 q2.many)), y, x] ++ D)))) nb1 (a * 10 + 8) z = H1.set nb1 (.cells (P ++ ([.v (.sc (.int .i64 q2.c.l)), .v (.sc (.int .i64 q2.c.x)), .v (.sc (.int .i64 q2.c.y)), .v (.sc (.int .i64 q2.k0)), .v (.sc (.int .i64 q2.k1)), .v (.sc (.int .i64 q2.k2)), .v (.sc (.int .i64 q2.k3)), .v (.sc (.int .i64 q2.many)), z, x] ++ D))) := fun x y z => by
        rw [setBlk_eq' (f3 _), set_mid hP (by simp), List.set_set]
        rfl
      have st3 : ∀ (x y m : SV) (k0 k1 k2 k3 : SV) (z0 z1 z2 z3 : V), setCells (H1.set nb1 (.cells (P ++ ([.v (.sc (.int .i64 q2.c.l)), .v (.sc (.int .i64 q2.c.x)), .v (.sc (.int .i64 q2.c.y)), k0, k1, k2, k3, m, y, x] ++ D)))) nb1 (a * 10 + 3) [z0, z1, z2, z3] = H1.set nb1 (.cells (P ++ ([.v (.sc (.int .i64 q2.c.l)), .v (.sc (.int .i64 q2.c.x)), .v (.sc (.int .i64 q2.c.y)), .v z0, .v z1, .v z2, .v z3, m, y, x] ++ D))) := fun x y m k0 k1 k2 k3 z0 z1 z2 z3 => by
        rw [setCells_mid hP (f3 _) (by simp), List.set_set]
        rfl
      have st7 : ∀ (x y m z : SV) (k0 k1 k2 k3 : SV), setBlk (H1.set nb1 (.cells (P ++ ([.v (.sc (.int .i64 q2.c.l)), .v (.sc (.int .i64 q2.c.x)), .v (.sc (.int .i64 q2.c.y)), k0, k1, k2, k3, m, y, x] ++ D)))) nb1 (a * 10 + 7) z = H1.set nb1 (.cells (P ++ ([.v (.sc (.int .i64 q2.c.l)), .v (.sc (.int .i64 q2.c.x)), .v (.sc (.int .i64 q2.c.y)), k0, k1, k2, k3, z, y, x] ++ D))) := fun x y m z k0 k1 k2 k3 => by
        rw [setBlk_eq' (f3 _), set_mid hP (by simp), List.set_set]
        rfl
      simp only [List.cons_append, List.nil_append] at st0 st8 st3 st7
      have hkq : ∀ K, (H1.set nb1 K)[H.length + 1]? = some (.cells [.v (.sc (.int .i64 (getK ks4 0))), .v (.sc (.int .i64 (getK ks4 1))), .v (.sc (.int .i64 (getK ks4 2))), .v (.sc (.int .i64 (getK ks4 3)))]) := fun K => by rw [List.getElem?_set_ne hn12.2]; exact h4
      refine AW.seq (AW.ofx [] mixed (by kernel_rfl) ?_)
      simp [hr1, hn1, hal1]
      refine AW.sub [(0, .v (.ptr r 0)), (1, .v (.sc (.int .i64 a))), (4, .v (lV q.l)), (6, .v (.ptr (H.length + 1) 0)), (10, .v (.ptr nb1 (a * 10)))] (by simp [subF, getF]) ?_
      refine AW.seq (AW.ofx [(9, 14, [10, 6])] mixed (by kernel_rfl) ?_)
      simp [hr1, hn1, f3, st0, st8, st3, st7, h4, hkq, kp, setCells_one]
      refine ⟨by omega, by omega, by omega, by omega, ?_⟩
      obtain ⟨q3, hq3⟩ : ∃ q3 : Qn, q3 = { q2 with l := [], full := true, split := true, k0 := getK ks4 0, k1 := getK ks4 1, k2 := getK ks4 2, k3 := getK ks4 3, many := 0 } := ⟨_, rfl⟩
      rw [← hq3] at hputs
      have hW : Wk (H1.set nb1 (.cells (P ++ ((ndV q3).map SV.v ++ D)))) (H1.set nb1 (.cells (P ++ (ndC q3 ++ D)))) := by
        have := Wk.seg (H := H1.set nb1 (.cells (P ++ (ndV q3).map SV.v ++ D))) (id := nb1) (ys := ndC q3) (List.getElem?_set_self hnl1) rfl (ndV_wk (q := q3) (by rw [hq3]; exact ⟨rfl, rfl⟩))
        rw [List.set_set, List.append_assoc, List.append_assoc] at this
        exact this
      rw [← hcut' q3] at hW
      have hT3 := h1.node q3 hq2
      have hS3 := h5.set (i := nb1) (k := .cells (arC (s4.A.set a q3) ((cap1 - s4.A.length) * 10))) (by rcases h6 with rfl | h6; exact .inr (.inl rfl); exact .inr (.inr (by omega)))
      rw [hq3] at hW
      simp only [ndV, List.map_cons, List.map_nil, List.cons_append, List.nil_append] at hW
      rw [← hq3] at hW
      refine AW.wk hW ?_
      clear hW kp st0 st8 st3 st7 hkq f3 hn1 hr1 h4 h3 hcut hcut'
      generalize H1.set nb1 _ = H3 at *
      refine AW.seq (AW.ofx [] mixed (by kernel_rfl) ?_)
      unfold lV
      simp
      refine AW.block (AW.count q.l.length (PutI H r b nb mb rec q.l ⟨s4.A.set a q3, s4.fr⟩ a es) ⟨[(0, .v (.ptr r 0)), (1, .v (.sc (.int .i64 a))), (63, .v (lV q.l)), (64, .v (.sc (.int .i64 q.l.length))), (65, .v (.sc (.int .i64 0)))], ?_, nb1, cap1, _, hT3, rfl, hS3, rfl⟩ ?_)
      · simp [subW, weakV, getF, lV]
      rintro k F H4 hk ⟨nb5, cap5, s5, g1, g2, g3, rfl⟩
      unfold lV
      by_cases hkl : k = q.l.length
      · subst hkl
        rw [g2] at hputs
        cases hputs
        refine AW.seq (AW.ofx [] mixed (by kernel_rfl) ?_)
        simp
        refine AW.seq (AW.ofx [] mixed (by kernel_rfl) ?_)
        simp
        exact ⟨nb5, ⟨cap5, g1⟩, g3⟩
      · have hlt : k < q.l.length := by omega
        have hltI : (k : Int) < (q.l.length : Int) := by omega
        obtain ⟨s6, hrec, g6⟩ := putsF_step hputs hlt hlt g2
        have hrow := rowP hlt
        have hP2 := hp (H4 ++ [prB q.l[k]]) r nb5 mb cap5 s5 s6 es a q.l[k] g1.app hrec
        generalize q.l[k] = rc at *
        unfold Pr.v at hP2
        rw [Pr.cs_eq] at hP2 hrow
        unfold prB at hP2
        refine AW.seq (AW.ofx [] mixed (by kernel_rfl) ?_)
        simp [hltI]
        refine AW.seq (AW.ofx [] mixed (by kernel_rfl) ?_)
        simp
        refine AW.seq (AW.block (AW.seq (AW.ofx [] mixed (by kernel_rfl) ?_)))
        simp [hltI, hlt, hrow]
        rw [setCells_last rfl]
        refine AW.sub [(0, .v (.ptr r 0)), (1, .v (.sc (.int .i64 a))), (63, .v (lV q.l)), (64, .v (.sc (.int .i64 q.l.length))), (65, .v (.sc (.int .i64 k))), (12, .v (.ptr H4.length 0))] (by simp [subF, getF, lV]) ?_
        refine AW.ofx [] mixed (by kernel_rfl) ?_
        simp
        refine callK.of hP2 ?_
        rintro y H6 ⟨nb6, cap6, e1, e2⟩
        simp
        refine AW.ofx [] mixed (by kernel_rfl) ?_
        have w1 : IntKind.i64.wrap ((k : Int) + 1) = (k + 1 : Nat) := by rw [wrap_i64] <;> omega
        simp [w1]
        refine ⟨_, ?_, nb6, cap6, s6, e1, g6, g3.app.trans e2, rfl⟩
        simp [subW, weakV, getF]
/-- Both, however often leaves are split. -/
theorem wputT {b : Nat} : ∀ f, PutOK b (putT b f)
  | 0 => fun H r nb mb cap s s' es a rc _ h => by cases h
  | f + 1 => wput (wpart (wputT f))
end Go.Proofs.Ytmjnffjacgjfmaa
