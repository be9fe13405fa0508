/- Regions: the document's answers, points, edges, runs of a row, and form. -/
import Derived.Test.YtbcfoakceloenaaGg
import Derived.Test.YtbcfoakceloenaaCz
import Derived.Test.YtbcfoakceloenaaAt1
namespace Go.Proofs.Ytbcfoakceloenaa
set_option linter.all false
open Go.RowKit AM
set_option maxRecDepth 10000
attribute [local simp] aw_skip' aw_region' aw_seq' aw_cond' aw_block' aw_loop' aw_exit' aw_label' aw_ret' aops_nil' aops_cons' aop' aMove aAssign aPick aAlloc aBox aBuild slF aBuildSlice aLoad aLoadOwn aStore aStoreOwn isOwn delR aNilCheck aBin aMakeFunc aFieldAddr aField aIndexAddr aExtract aSliceOp aSlice aCallOp aCall' aLen aLenMap aDelete aMM aUn aConv aIface aAssert aMakeMap aLookup aMapUpdate aRange aNext aEntry entsOf keyB seekK aMakeSlice lookV aAppend putK layK eval evalV AM.valOf getF putF setF del SV.refers cellsAt rootSV plains shift ldV V.exact V.exactL V.ofValue V.ofPart V.ofCell V.cells V.one Value.oneCell' fitB qSeq qBlock getB afin aret resVs resV resTmps shareF evalS tupV valsS valsV pickV calm calmB lenV useOf feeds looks isT newsV partsV fillV putAt zerosV fitsNil nilB sliceB isEq isNeq awx_skip' awx_region' awx_seq' awx_cond' awx_block' awx_loop' awx_exit' awx_label' awx_ret' xops_nil' xops_cons' xop' xload xcall' addO delO inO putD memB Mix.effB Mix.laysB keysF badK subW weakV zeroRow yops_nil' yops_cons' yop' yload yindex yfield ylen oldO dropO takeO oldL exactB

/-! ## What is wrong -/
def wrongR (l : List Re) : Int := if 256 < l.length then 2 else if l.all rightR then 0 else 1
theorem wrongR_big {l : List Re} (h : 256 < l.length) : wrongR l = 2 := by simp [wrongR, h]
theorem wrongR_ok {l : List Re} : wrongR l = 0 ↔ l.length ≤ 256 ∧ ∀ r ∈ l, rightR r = true := by
  unfold wrongR
  split
  · simp; omega
  · split
    · rename_i h1 h2
      simp at h2
      simp
      exact ⟨by omega, h2⟩
    · rename_i h1 h2
      simp at h2
      simp
      intro _
      obtain ⟨x, q1, q2⟩ := h2
      exact ⟨x, q1, q2⟩
theorem all_take {l : List Re} {k : Nat} (h : ∀ r ∈ l.take k, rightR r = true) (hk : k < l.length) (hr : rightR l[k] = true) : ∀ r ∈ l.take (k + 1), rightR r = true := by
  rw [List.take_succ_eq_append_getElem hk]
  intro r hm
  rcases List.mem_append.1 hm with hm | hm
  · exact h r hm
  · simp at hm; subst hm; exact hr
theorem wrongR_one {l : List Re} (h : ¬ 256 < l.length) {k : Nat} (hk : k < l.length) (hr : rightR l[k] = false) : wrongR l = 1 := by
  unfold wrongR
  rw [if_neg h, if_neg]
  intro hall
  have := List.all_eq_true.1 hall _ (List.getElem_mem hk)
  rw [hr] at this
  cases this
def WrI (l : List Re) (k : Nat) (F : Fr) (H : List Bk) : Prop := (∀ r ∈ l.take k, rightR r = true) ∧ F = [(0, .v (slR l)), (3, .v (.sc (.int .i64 k)))]
def AsI (l : List Re) (k : Nat) (F : Fr) (H : List Bk) : Prop := (∀ r ∈ l.take k, rightR r = true) ∧ F = [(8, .v (slR l)), (9, .v (.sc (.int .i64 l.length))), (10, .v (.sc (.int .i64 k)))]
def bothR (a b : List Re) : Int := if wrongR a = 2 ∨ wrongR b = 2 then 2 else if wrongR a = 0 then wrongR b else wrongR a
theorem wrongR_in (l : List Re) : wrongR l = 0 ∨ wrongR l = 1 ∨ wrongR l = 2 := by
  unfold wrongR
  split
  · simp
  · split <;> simp
theorem bothR_ok {a b : List Re} : bothR a b = 0 ↔ wrongR a = 0 ∧ wrongR b = 0 := by
  unfold bothR
  rcases wrongR_in a with h | h | h <;> rcases wrongR_in b with k | k | k <;> simp [h, k]
/-! ## Which points -/
def hasL (l : List Re) (x y : Int) : Bool := l.any fun r => hasR r ⟨x, y⟩
theorem hasL_none {l : List Re} {k : Nat} {x y : Int} (h : ∀ r ∈ l.take k, hasR r ⟨x, y⟩ = false) (hk : k < l.length) (hr : hasR l[k] ⟨x, y⟩ = false) : ∀ r ∈ l.take (k + 1), hasR r ⟨x, y⟩ = false := by
  rw [List.take_succ_eq_append_getElem hk]
  intro r hm
  rcases List.mem_append.1 hm with hm | hm
  · exact h r hm
  · simp at hm; subst hm; exact hr
def HaI (l : List Re) (x y : Int) (k : Nat) (F : Fr) (H : List Bk) : Prop := (∀ r ∈ l.take k, hasR r ⟨x, y⟩ = false) ∧ F = [(0, .v (slR l)), (1, .v (.sc (.int .i64 x))), (2, .v (.sc (.int .i64 y))), (7, .v (.sc (.int .i64 k)))]
def cntF (a b : List Re) (how : Int) (x y : Int) : Bool := if how = 1 then hasL a x y && !hasL b x y else if how = 2 then hasL a x y && hasL b x y else hasL a x y || hasL b x y
/-! ## Numbers at which something may change -/
def slI (xs : List Int) : V := .sl xs.length 1 (ints xs)
def ownI (xs : List Int) : SV := .own true 3 xs.length 1 (ints xs)
theorem ints_len (xs : List Int) : (ints xs).length = xs.length := by simp [ints]
theorem ints_get {xs : List Int} {k : Nat} (h : k < xs.length) : (ints xs)[k]? = some (.sc (.int .i64 xs[k])) := by simp [ints, h]
theorem ints_snoc (xs : List Int) (z : Int) : ints xs ++ [.sc (.int .i64 z)] = ints (xs ++ [z]) := by simp [ints]
theorem rowI {xs : List Int} {k : Nat} (h : k < xs.length) : AM.rowAt 1 (ints xs) (k : Int) = [.sc (.int .i64 xs[k])] := by
  unfold AM.rowAt ints
  rw [Int.toNat_natCast, Nat.mul_one, ← List.map_drop, ← List.map_take, List.drop_eq_getElem_cons h]
  rfl
theorem closed_ints : ∀ xs : List Int, V.closedL (ints xs) = true
  | [] => rfl
  | x :: xs => by
    have := closed_ints xs
    simpa [ints, V.closedL, V.closed] using this
theorem slI_closed (xs : List Int) : V.closed (slI xs) = true := by simp [slI, V.closed, closed_ints]
def PiI (xs : List Int) (n : Int) (k : Nat) (F : Fr) (H : List Bk) : Prop := n ∉ xs.take k ∧ F = [(0, .v (slI xs)), (1, .v (.sc (.int .i64 n))), (5, ownI (putIG n (xs.take k)).1), (6, .v (.sc (.bool (putIG n (xs.take k)).2))), (7, .v (.sc (.int .i64 k)))]
theorem refPutI (xs : List Int) (n : Int) (hx : xs.length ≤ 1000000000) : PFn Try.prog 59 [slI xs, .sc (.int .i64 n)] (slI (putI xs n)) := by
  refine AFn.intro (fn := Try.f59) (by kernel_rfl) rfl (by kernel_rfl) (by simp) (AW.ofx [] mixed (by kernel_rfl) ?_)
  simp only [Try.f59, argsF]
  simp [slI]
  refine AW.count xs.length (PiI xs n) ⟨_, ?_, by simp, rfl⟩ ?_
  · simp [subW, weakV, getF, slI, putIG, ownI, zeroRow, ints]
  rintro k F H hk ⟨hno, rfl⟩
  refine AW.ofx [] mixed (by kernel_rfl) ?_
  obtain ⟨l1, l2⟩ := putIG_len n (xs.take k)
  by_cases hlt : k < xs.length
  · have w1 : IntKind.i64.wrap ((k : Int) + 1) = (k : Int) + 1 := by rw [wrap_i64] <;> omega
    have hn := putIG_succ (n := n) hlt
    rw [List.length_take, Nat.min_eq_left hk] at l1 l2
    by_cases he : xs[k] = n
    · have hp : putI xs n = xs := by
        unfold putI
        rw [if_pos (he ▸ List.getElem_mem hlt)]
      have he' : (xs[k] == n) = true := by simpa using he
      simp [slI, hlt, rowI, he', hp, ownI]
    have he' : (xs[k] == n) = false := by simpa using he
    have hno' : n ∉ xs.take (k + 1) := by
      rw [List.take_succ_eq_append_getElem hlt, List.mem_append]
      rintro (h | h)
      · exact hno h
      · simp at h
        exact he h.symm
    generalize putIG n (xs.take k) = s at *
    obtain ⟨o, b⟩ := s
    simp only at l1 l2
    cases b with
    | true =>
      have e : putIS n (o, true) xs[k] = (o ++ [xs[k]], true) := by simp [putIS]
      rw [e] at hn
      simp [slI, hlt, rowI, ownI, he']
      refine ⟨by omega, ?_⟩
      try simp [slI, ownI, w1]
      refine ⟨_, ?_, hno', rfl⟩
      rw [hn]
      simp [subW, weakV, getF, slI, ownI, ints_snoc]
    | false =>
      have l2 := l2 rfl
      by_cases hc : n < xs[k]
      · have e : putIS n (o, false) xs[k] = (o ++ [n, xs[k]], true) := by simp [putIS, hc]
        rw [e] at hn
        simp [slI, hlt, rowI, ownI, he', hc]
        refine ⟨by omega, ?_⟩
        try simp [slI, hlt, rowI, ownI, w1]
        refine ⟨by omega, ?_⟩
        try simp [slI, hlt, rowI, ownI, w1]
        refine ⟨_, ?_, hno', rfl⟩
        rw [hn]
        simp [subW, weakV, getF, slI, ownI, ints]
      · have e : putIS n (o, false) xs[k] = (o ++ [xs[k]], false) := by simp [putIS, hc]
        rw [e] at hn
        simp [slI, hlt, rowI, ownI, he', hc]
        refine ⟨by omega, ?_⟩
        try simp [slI, hlt, rowI, ownI, w1]
        refine ⟨_, ?_, hno', rfl⟩
        rw [hn]
        simp [subW, weakV, getF, slI, ownI, ints_snoc]
  · have hk' : k = xs.length := by omega
    subst hk'
    rw [List.take_length] at l1 l2 hno ⊢
    unfold putI
    rw [if_neg hno]
    generalize putIG n xs = s at *
    obtain ⟨o, b⟩ := s
    simp only at l1 l2
    cases b with
    | true => simp [slI, ownI]
    | false =>
      have l2 := l2 rfl
      simp [slI, ownI]
      refine ⟨by omega, ?_⟩
      try simp [slI, ownI, ints_snoc]
end Go.Proofs.Ytbcfoakceloenaa
namespace Go.Proofs.Ytbcfoakceloenaa
set_option linter.all false
open Go.RowKit AM Can
set_option maxRecDepth 10000
attribute [local simp] aw_skip' aw_region' aw_seq' aw_cond' aw_block' aw_loop' aw_exit' aw_label' aw_ret' aops_nil' aops_cons' aop' aMove aAssign aPick aAlloc aBox aBuild slF aBuildSlice aLoad aLoadOwn aStore aStoreOwn isOwn delR aNilCheck aBin aMakeFunc aFieldAddr aField aIndexAddr aExtract aSliceOp aSlice aCallOp aCall' aLen aLenMap aDelete aMM aUn aConv aIface aAssert aMakeMap aLookup aMapUpdate aRange aNext aEntry entsOf keyB seekK aMakeSlice lookV aAppend putK layK eval evalV AM.valOf getF putF setF del SV.refers cellsAt rootSV plains shift ldV V.exact V.exactL V.ofValue V.ofPart V.ofCell V.cells V.one Value.oneCell' fitB qSeq qBlock getB afin aret resVs resV resTmps shareF evalS tupV valsS valsV pickV calm calmB lenV useOf feeds looks isT newsV partsV fillV putAt zerosV fitsNil nilB sliceB isEq isNeq awx_skip' awx_region' awx_seq' awx_cond' awx_block' awx_loop' awx_exit' awx_label' awx_ret' xops_nil' xops_cons' xop' xload xcall' addO delO inO putD memB Mix.effB Mix.laysB keysF badK subW weakV zeroRow yops_nil' yops_cons' yop' yload yindex yfield ylen oldO dropO takeO oldL exactB

/-! ## Edges -/
def edgeS (down : Bool) (o : List Int) (r : Re) : List Int := if down then putI (putI o r.y0) (r.y1 + 1) else putI (putI o r.x0) (r.x1 + 1)
def edgesR (l : List Re) (down : Bool) : List Int := l.foldl (edgeS down) [0, 65536]
theorem edgesR_succ {l : List Re} {down : Bool} {k : Nat} (h : k < l.length) : edgesR (l.take (k + 1)) down = edgeS down (edgesR (l.take k) down) l[k] := by
  unfold edgesR
  rw [List.take_succ_eq_append_getElem h, List.foldl_append]
  rfl
theorem edgeS_len (down : Bool) (o : List Int) (r : Re) : (edgeS down o r).length ≤ o.length + 2 := by
  unfold edgeS
  split
  · have h1 := putI_len r.y0 o
    have h2 := putI_len (r.y1 + 1) (putI o r.y0)
    omega
  · have h1 := putI_len r.x0 o
    have h2 := putI_len (r.x1 + 1) (putI o r.x0)
    omega
theorem edgesR_len (down : Bool) (l : List Re) : (edgesR l down).length ≤ 2 + 2 * l.length := by
  have go : ∀ (l : List Re) (o : List Int), (l.foldl (edgeS down) o).length ≤ o.length + 2 * l.length := by
    intro l
    induction l with
    | nil => intro o; simp
    | cons r l ih =>
      intro o
      have h1 := ih (edgeS down o r)
      have h2 := edgeS_len down o r
      rw [List.foldl_cons]
      simp only [List.length_cons]
      omega
  simpa [edgesR] using go l [0, 65536]
def lo (down : Bool) (r : Re) : Int := if down then r.y0 else r.x0
def hi (down : Bool) (r : Re) : Int := if down then r.y1 else r.x1
theorem edgeS_spec {down : Bool} {o : List Int} {r : Re} (h : o.Pairwise (· < ·)) : (edgeS down o r).Pairwise (· < ·) ∧ ∀ z, z ∈ edgeS down o r ↔ z ∈ o ∨ z = lo down r ∨ z = hi down r + 1 := by
  unfold edgeS lo hi
  split
  · obtain ⟨h1, h2⟩ := putI_spec (n := r.y0) h
    obtain ⟨h3, h4⟩ := putI_spec (n := r.y1 + 1) h1
    exact ⟨h3, fun z => by rw [h4, h2, or_assoc]⟩
  · obtain ⟨h1, h2⟩ := putI_spec (n := r.x0) h
    obtain ⟨h3, h4⟩ := putI_spec (n := r.x1 + 1) h1
    exact ⟨h3, fun z => by rw [h4, h2, or_assoc]⟩
theorem edgesR_spec (l : List Re) (down : Bool) : (edgesR l down).Pairwise (· < ·) ∧ ∀ z, z ∈ edgesR l down ↔ z = 0 ∨ z = 65536 ∨ ∃ r ∈ l, z = lo down r ∨ z = hi down r + 1 := by
  have go : ∀ (l : List Re) (o : List Int), o.Pairwise (· < ·) → (l.foldl (edgeS down) o).Pairwise (· < ·) ∧ ∀ z, z ∈ l.foldl (edgeS down) o ↔ z ∈ o ∨ ∃ r ∈ l, z = lo down r ∨ z = hi down r + 1 := by
    intro l
    induction l with
    | nil => intro o h; exact ⟨h, fun z => by simp⟩
    | cons r l ih =>
      intro o h
      obtain ⟨h1, h2⟩ := edgeS_spec (down := down) (r := r) h
      obtain ⟨h3, h4⟩ := ih _ h1
      refine ⟨h3, fun z => ?_⟩
      rw [List.foldl_cons, h4, h2]
      simp only [List.mem_cons, exists_eq_or_imp, or_assoc]
  obtain ⟨h1, h2⟩ := go l [0, 65536] (by simp)
  exact ⟨h1, fun z => by rw [edgesR, h2]; simp [or_assoc]⟩
def EdI (a b : List Re) (down : Bool) (k : Nat) (F : Fr) (H : List Bk) : Prop := F = [(0, .v (slR a)), (1, .v (slR b)), (2, .v (.sc (.bool down))), (7, .v (slI (edgesR ((a ++ b).take k) down))), (8, .v (.sc (.int .i64 k)))]
theorem refEdges (a b : List Re) (down : Bool) (ha : a.length ≤ 1000000) (hb : b.length ≤ 1000000) (hra : ∀ r ∈ a, rightR r = true) (hrb : ∀ r ∈ b, rightR r = true) : PFn Try.prog 36 [slR a, slR b, .sc (.bool down)] (slI (edgesR (a ++ b) down)) := by
  refine AFn.intro (fn := Try.f36) (by kernel_rfl) rfl (by kernel_rfl) (by simp) (AW.ofx [(10, 7, [7, 9]), (11, 7, [7, 9])] mixed (by kernel_rfl) ?_)
  simp only [Try.f36, argsF]
  simp [slR]
  refine AW.asSl 7 rfl ?_
  simp only [setF, Nat.reduceBEq, cond_true, cond_false]
  refine AW.count (a ++ b).length (EdI a b down) ⟨_, ?_, rfl⟩ ?_
  · simp [subW, weakV, getF, slR, slI, edgesR, ints]
  rintro k F H hk rfl
  have wl : IntKind.i64.wrap ((a.length : Int) + b.length) = (a.length : Int) + b.length := by rw [wrap_i64] <;> omega
  have hlen := edgesR_len down ((a ++ b).take k)
  rw [List.length_take] at hlen
  rw [List.length_append] at hk
  refine AW.ofx [(10, 7, [7, 9]), (11, 7, [7, 9])] mixed (by kernel_rfl) ?_
  by_cases hlt : k < (a ++ b).length
  · have w1 : IntKind.i64.wrap ((k : Int) + 1) = (k : Int) + 1 := by rw [wrap_i64] <;> omega
    have hn := edgesR_succ (down := down) hlt
    have hlt' : (k : Int) < (a.length : Int) + b.length := by rw [List.length_append] at hlt; omega
    have hr : rightR (a ++ b)[k] = true := by
      have := List.getElem_mem hlt
      rcases List.mem_append.1 this with h | h
      · exact hra _ h
      · exact hrb _ h
    have hr' := rightR_iff.1 hr
    have hfin : ∀ es, edgesR ((a ++ b).take (k + 1)) down = es → ∀ H, EdI a b down (k + 1) [(0, .v (slR a)), (1, .v (slR b)), (2, .v (.sc (.bool down))), (7, .v (slI es)), (8, .v (.sc (.int .i64 (k + 1 : Nat))))] H := fun es e H => by
      rw [EdI, e]
    have hp1 := refPutI (edgesR ((a ++ b).take k) down) (lo down (a ++ b)[k]) (by omega)
    have hpl := putI_len (lo down (a ++ b)[k]) (edgesR ((a ++ b).take k) down)
    have hp2 := refPutI (putI (edgesR ((a ++ b).take k) down) (lo down (a ++ b)[k])) (hi down (a ++ b)[k] + 1) (by omega)
    have c0 := slI_closed (edgesR ((a ++ b).take k) down)
    have c1 := slI_closed (putI (edgesR ((a ++ b).take k) down) (lo down (a ++ b)[k]))
    have c2 := slI_closed (putI (putI (edgesR ((a ++ b).take k) down) (lo down (a ++ b)[k])) (hi down (a ++ b)[k] + 1))
    have hsub : ∀ es, edgesR ((a ++ b).take (k + 1)) down = es → k < a.length + b.length → True := fun _ _ _ => trivial
    have wx : IntKind.i64.wrap ((a ++ b)[k].x1 + 1) = (a ++ b)[k].x1 + 1 := by rw [wrap_i64] <;> omega
    have wy : IntKind.i64.wrap ((a ++ b)[k].y1 + 1) = (a ++ b)[k].y1 + 1 := by rw [wrap_i64] <;> omega
    have e0 : edgeS down (edgesR ((a ++ b).take k) down) (a ++ b)[k] = putI (putI (edgesR ((a ++ b).take k) down) (lo down (a ++ b)[k])) (hi down (a ++ b)[k] + 1) := by
      unfold edgeS lo hi
      cases down <;> rfl
    rw [e0] at hn
    replace hfin := hfin _ hn
    by_cases hka : k < a.length
    · have hka' : (k : Int) < a.length := by omega
      have eg : (a ++ b)[k] = a[k] := List.getElem_append_left hka
      rw [eg] at hp1 hp2 c1 c2 hpl wx wy hfin
      generalize edgesR ((a ++ b).take k) down = es at *
      have hrow := rowR hka
      generalize a[k] = r at *
      cases down with
      | true =>
        simp only [lo, hi, if_true] at hp1 hp2 c1 c2 hpl hfin
        simp [slR, wl, hlt', hka, hrow, setL]
        refine callK.pure hp1 (by simp [V.closedL, V.closed, c0]) c1 ?_
        simp [wy]
        refine callK.pure hp2 (by simp [V.closedL, V.closed, c1]) c2 ?_
        simp [w1]
        refine ⟨by omega, _, ?_, hfin _⟩
        simp [subW, weakV, getF, slR]
      | false =>
        simp only [lo, hi, Bool.false_eq_true, if_false] at hp1 hp2 c1 c2 hpl hfin
        simp [slR, wl, hlt', hka, hrow, setL]
        refine callK.pure hp1 (by simp [V.closedL, V.closed, c0]) c1 ?_
        simp [wx]
        refine callK.pure hp2 (by simp [V.closedL, V.closed, c1]) c2 ?_
        simp [w1]
        refine ⟨by omega, _, ?_, hfin _⟩
        simp [subW, weakV, getF, slR]
    · have hka' : ¬ (k : Int) < a.length := by omega
      have hkb : k - a.length < b.length := by rw [List.length_append] at hlt; omega
      have eg : (a ++ b)[k] = b[k - a.length] := List.getElem_append_right (by omega)
      have ws : IntKind.i64.wrap ((k : Int) - a.length) = ((k - a.length : Nat) : Int) := by rw [wrap_i64] <;> omega
      rw [eg] at hp1 hp2 c1 c2 hpl wx wy hfin
      generalize edgesR ((a ++ b).take k) down = es at *
      have hrow := rowR hkb
      generalize b[k - a.length] = r at *
      cases down with
      | true =>
        simp only [lo, hi, if_true] at hp1 hp2 c1 c2 hpl hfin
        simp [slR, wl, hlt', hka, hka', hrow, setL, ws, hkb]
        refine callK.pure hp1 (by simp [V.closedL, V.closed, c0]) c1 ?_
        simp [wy]
        refine callK.pure hp2 (by simp [V.closedL, V.closed, c1]) c2 ?_
        simp [w1]
        refine ⟨by omega, _, ?_, hfin _⟩
        simp [subW, weakV, getF, slR]
      | false =>
        simp only [lo, hi, Bool.false_eq_true, if_false] at hp1 hp2 c1 c2 hpl hfin
        simp [slR, wl, hlt', hka, hka', hrow, setL, ws, hkb]
        refine callK.pure hp1 (by simp [V.closedL, V.closed, c0]) c1 ?_
        simp [wx]
        refine callK.pure hp2 (by simp [V.closedL, V.closed, c1]) c2 ?_
        simp [w1]
        refine ⟨by omega, _, ?_, hfin _⟩
        simp [subW, weakV, getF, slR]
  · have hk' : k = (a ++ b).length := by rw [List.length_append] at hlt ⊢; omega
    subst hk'
    rw [List.take_length]
    simp [slR, slI, wl]
end Go.Proofs.Ytbcfoakceloenaa
namespace Go.Proofs.Ytbcfoakceloenaa
set_option linter.all false
open Go.RowKit AM Can
set_option maxRecDepth 10000
attribute [local simp] aw_skip' aw_region' aw_seq' aw_cond' aw_block' aw_loop' aw_exit' aw_label' aw_ret' aops_nil' aops_cons' aop' aMove aAssign aPick aAlloc aBox aBuild slF aBuildSlice aLoad aLoadOwn aStore aStoreOwn isOwn delR aNilCheck aBin aMakeFunc aFieldAddr aField aIndexAddr aExtract aSliceOp aSlice aCallOp aCall' aLen aLenMap aDelete aMM aUn aConv aIface aAssert aMakeMap aLookup aMapUpdate aRange aNext aEntry entsOf keyB seekK aMakeSlice lookV aAppend putK layK eval evalV AM.valOf getF putF setF del SV.refers cellsAt rootSV plains shift ldV V.exact V.exactL V.ofValue V.ofPart V.ofCell V.cells V.one Value.oneCell' fitB qSeq qBlock getB afin aret resVs resV resTmps shareF evalS tupV valsS valsV pickV calm calmB lenV useOf feeds looks isT newsV partsV fillV putAt zerosV fitsNil nilB sliceB isEq isNeq awx_skip' awx_region' awx_seq' awx_cond' awx_block' awx_loop' awx_exit' awx_label' awx_ret' xops_nil' xops_cons' xop' xload xcall' addO delO inO putD memB Mix.effB Mix.laysB keysF badK subW weakV zeroRow yops_nil' yops_cons' yop' yload yindex yfield ylen oldO dropO takeO oldL exactB

def setX1 (v : Int) (r : Re) : Re := { r with x1 := v }
def lineS (y : Int) (cnt : Int → Bool) (s : List Re × Bool) (n m : Int) : List Re × Bool := if cnt n then (if s.2 then (modN (setX1 (m - 1)) (s.1.length - 1) s.1, true) else (s.1 ++ [⟨n, y, m - 1, y⟩], true)) else (s.1, false)
def lineK (cnt : Int → Bool) (xs : List Int) (y : Int) : Nat → List Re × Bool
  | 0 => ([], false)
  | k + 1 => match xs[k]?, xs[k + 1]? with
    | some n, some m => lineS y cnt (lineK cnt xs y k) n m
    | _, _ => lineK cnt xs y k
theorem lineK_succ {cnt : Int → Bool} {xs : List Int} {y : Int} {k : Nat} (h : k + 1 < xs.length) : lineK cnt xs y (k + 1) = lineS y cnt (lineK cnt xs y k) xs[k] xs[k + 1] := by
  have h1 : xs[k]? = some xs[k] := List.getElem?_eq_getElem (by omega)
  have h2 : xs[k + 1]? = some xs[k + 1] := List.getElem?_eq_getElem h
  rw [lineK, h1, h2]
theorem lineK_len {cnt : Int → Bool} {xs : List Int} {y : Int} : ∀ k, (lineK cnt xs y k).1.length ≤ k ∧ ((lineK cnt xs y k).2 = true → 0 < (lineK cnt xs y k).1.length)
  | 0 => by simp [lineK]
  | k + 1 => by
    obtain ⟨h1, h2⟩ := lineK_len (cnt := cnt) (xs := xs) (y := y) k
    rw [lineK]
    split
    · unfold lineS
      split
      · split
        · rename_i h
          have := h2 h
          rw [modN_len]
          exact ⟨by omega, fun _ => this⟩
        · simp
          omega
      · simp
        omega
    · exact ⟨by omega, h2⟩

def rowRe (y0 y1 : Int) (r : Run Unit) : Re := ⟨r.a, y0, r.b, y1⟩
theorem lineK_runs {cnt : Int → Bool} {xs : List Int} {y : Int} (hs : xs.Pairwise (· < ·)) : ∀ {k : Nat} (hk : k < xs.length), (lineK cnt xs y k).1 = (runsK (unitF cnt) xs k).map (rowRe y y) ∧
    ((lineK cnt xs y k).2 = true → ∃ R' r, runsK (unitF cnt) xs k = R' ++ [r] ∧ r.b + 1 = xs[k]) ∧ ((lineK cnt xs y k).2 = false → ∀ R' r, runsK (unitF cnt) xs k = R' ++ [r] → r.b + 1 ≠ xs[k])
  | 0, hk => by simp [lineK, runsK]
  | k + 1, hk => by
    obtain ⟨h1, h2, h3⟩ := lineK_runs hs (y := y) (cnt := cnt) (k := k) (by omega)
    have hlt := pair_lt hs (i := k) (j := k + 1) (by omega) hk (by omega)
    rw [lineK_succ hk, runsK_succ hk]
    unfold lineS Can.step unitF
    cases hc : cnt xs[k] with
    | false =>
      simp only [Bool.false_eq_true, if_false]
      refine ⟨h1, fun e => (by cases e), fun _ R' r e hb => ?_⟩
      have := (runsK_end hs (f := unitF cnt) (k := k) (by omega) e).1
      omega
    | true =>
      simp only [if_true]
      cases ho : (lineK cnt xs y k).2 with
      | true =>
        obtain ⟨R', r, e1, e2⟩ := h2 ho
        have e1' : runsK (fun x => if cnt x = true then some () else none) xs k = R' ++ [r] := e1
        rw [e1', push_more e2 rfl]
        simp only [if_true]
        have e3 : (lineK cnt xs y k).1 = R'.map (rowRe y y) ++ [rowRe y y r] := by rw [h1, e1]; simp
        refine ⟨?_, fun _ => ⟨R', _, rfl, by simp only; omega⟩, fun e => (by cases e)⟩
        rw [e3]
        have : ((R'.map (rowRe y y) ++ [rowRe y y r]).length - 1) = (R'.map (rowRe y y)).length := by simp
        rw [this, modN_last]
        simp [rowRe, setX1]
      | false =>
        have e1 : runsK (fun x => if cnt x = true then some () else none) xs k = runsK (unitF cnt) xs k := rfl
        rw [e1, push_fresh (fun R' r e hb => absurd hb (h3 ho R' r e))]
        simp only [Bool.false_eq_true, if_false]
        refine ⟨by rw [h1]; simp [rowRe], fun _ => ⟨_, _, rfl, by simp only; omega⟩, fun e => (by cases e)⟩
def lineR (a b : List Re) (how : Int) (xs : List Int) (y : Int) : List Re := (lineK (fun x => cntF a b how x y) xs y (xs.length - 1)).1
def LiI (a b : List Re) (how : Int) (xs : List Int) (y : Int) (k : Nat) (F : Fr) (H : List Bk) : Prop :=
  F = [(0, .v (slR a)), (1, .v (slR b)), (2, .v (slI xs)), (3, .v (.sc (.int .i64 y))), (4, .v (.sc (.int .i64 how))), (11, ownR (lineK (fun x => cntF a b how x y) xs y k).1), (12, .v (.sc (.bool (lineK (fun x => cntF a b how x y) xs y k).2))), (13, .v (.sc (.int .i64 k)))]
theorem setX1_cs (v : Int) (r : Re) : r.cs.set 2 (.sc (.int .i64 v)) = (setX1 v r).cs := rfl
theorem poke_last {o : List Re} {v : Int} (h : 0 < o.length) : (o.flatMap Re.cs).set ((o.length - 1) * 4 + 2) (.sc (.int .i64 v)) = (modN (setX1 v) (o.length - 1) o).flatMap Re.cs :=
  flat_mod (enc := Re.cs) (sz := 4) (fun _ => rfl) (by decide) (setX1_cs v) (by omega)
/-! ## Rows that are alike -/
def ends (r : Re) : Int × Int := (r.x0, r.x1)
def AlI (xs ys : List Re) (k : Nat) (F : Fr) (H : List Bk) : Prop := (xs.take k).map ends = (ys.take k).map ends ∧ F = [(0, .v (slR xs)), (1, .v (slR ys)), (5, .v (.sc (.int .i64 k)))]
end Go.Proofs.Ytbcfoakceloenaa
namespace Go.Proofs.Ytbcfoakceloenaa
set_option linter.all false
open Go.RowKit AM Can
set_option maxRecDepth 10000
attribute [local simp] aw_skip' aw_region' aw_seq' aw_cond' aw_block' aw_loop' aw_exit' aw_label' aw_ret' aops_nil' aops_cons' aop' aMove aAssign aPick aAlloc aBox aBuild slF aBuildSlice aLoad aLoadOwn aStore aStoreOwn isOwn delR aNilCheck aBin aMakeFunc aFieldAddr aField aIndexAddr aExtract aSliceOp aSlice aCallOp aCall' aLen aLenMap aDelete aMM aUn aConv aIface aAssert aMakeMap aLookup aMapUpdate aRange aNext aEntry entsOf keyB seekK aMakeSlice lookV aAppend putK layK eval evalV AM.valOf getF putF setF del SV.refers cellsAt rootSV plains shift ldV V.exact V.exactL V.ofValue V.ofPart V.ofCell V.cells V.one Value.oneCell' fitB qSeq qBlock getB afin aret resVs resV resTmps shareF evalS tupV valsS valsV pickV calm calmB lenV useOf feeds looks isT newsV partsV fillV putAt zerosV fitsNil nilB sliceB isEq isNeq awx_skip' awx_region' awx_seq' awx_cond' awx_block' awx_loop' awx_exit' awx_label' awx_ret' xops_nil' xops_cons' xop' xload xcall' addO delO inO putD memB Mix.effB Mix.laysB keysF badK subW weakV zeroRow yops_nil' yops_cons' yop' yload yindex yfield ylen oldO dropO takeO oldL exactB

namespace Can
theorem runsK_len {L : Type} [DecidableEq L] {f : Int → Option L} {xs : List Int} : ∀ k, (runsK f xs k).length ≤ k
  | 0 => by simp [runsK]
  | k + 1 => by
    have h1 := runsK_len (f := f) (xs := xs) k
    rw [runsK]
    split
    · unfold step
      split
      · unfold push
        split
        · split
          · simp; omega
          · simp; omega
        · simp
      · omega
    · omega
theorem runsK_lab {L : Type} [DecidableEq L] {f : Int → Option L} {xs : List Int} : ∀ k, ∀ r ∈ runsK f xs k, ∃ y, f y = some r.z
  | 0, r, hr => by simp [runsK] at hr
  | k + 1, r, hr => by
    have h1 := runsK_lab (f := f) (xs := xs) k
    rw [runsK] at hr
    split at hr
    · rename_i n m _ _
      unfold step at hr
      split at hr
      · rename_i z hz
        rcases List.eq_nil_or_concat (runsK f xs k) with e | ⟨R', r', e⟩
        · rw [e] at hr
          simp [push] at hr
          subst hr
          exact ⟨_, hz⟩
        · simp only [List.concat_eq_append] at e
          rw [e] at hr h1
          unfold push at hr
          simp only [List.getLast?_append, List.getLast?_singleton, Option.some_or, List.dropLast_concat] at hr
          split at hr
          · rcases List.mem_append.1 hr with hr | hr
            · exact h1 r (by simp [hr])
            · simp at hr
              subst hr
              exact ⟨_, hz⟩
          · rcases List.mem_append.1 hr with hr | hr
            · exact h1 r hr
            · simp at hr
              subst hr
              exact ⟨_, hz⟩
      · exact h1 r hr
    · exact h1 r hr
theorem emit_len {L : Type} [DecidableEq L] {R : Int → List (Run L)} {ys : List Int} {M : Nat} (hM : ∀ y, (R y).length ≤ M) (k : Nat) : (emit (runsK (bandF R) ys k)).length ≤ k * M := by
  have h1 := runsK_len (f := bandF R) (xs := ys) k
  have h2 := runsK_lab (f := bandF R) (xs := ys) k
  generalize runsK (bandF R) ys k = B at *
  have go : ∀ B : List (Run (List (Run L))), (∀ r ∈ B, ∃ y, bandF R y = some r.z) → (emit B).length ≤ B.length * M := by
    intro B
    induction B with
    | nil => simp [emit]
    | cons b B ih =>
      intro h
      have e : emit (b :: B) = band b ++ emit B := by simp [emit]
      have h3 := ih (fun r hr => h r (by simp [hr]))
      obtain ⟨y, hy⟩ := h b (by simp)
      have h4 : (band b).length ≤ M := by
        unfold bandF at hy
        split at hy
        · cases hy
        · have := Option.some.inj hy
          unfold band
          rw [List.length_map, ← this]
          exact hM y
      rw [e, List.length_append, List.length_cons, Nat.succ_mul]
      omega
  have h3 := go B h2
  have h4 := Nat.mul_le_mul_right M h1
  omega
end Can
def unF (a b : List Re) (how : Int) (x y : Int) : Option Unit := unitF (fun x => cntF a b how x y) x
def Rr (a b : List Re) (how : Int) (xs : List Int) (y : Int) : List (Run Unit) := rowK (unF a b how) xs y
def toRe (q : Rc Unit) : Re := ⟨q.x0, q.y0, q.x1, q.y1⟩
def outK (R : Int → List (Run Unit)) (ys : List Int) (k : Nat) : List Re := (emit (runsK (bandF R) ys k)).map toRe
def setY1 (v : Int) (r : Re) : Re := { r with y1 := v }
theorem lineR_eq {a b : List Re} {how : Int} {xs : List Int} (hs : xs.Pairwise (· < ·)) (h0 : 0 < xs.length) (y : Int) : lineR a b how xs y = (Rr a b how xs y).map (rowRe y y) :=
  (lineK_runs hs (y := y) (cnt := fun x => cntF a b how x y) (k := xs.length - 1) (by omega)).1
theorem ends_row (y0 y1 : Int) (R : List (Run Unit)) : (R.map (rowRe y0 y1)).map ends = R.map fun r => (r.a, r.b) := by simp [ends, rowRe]
theorem pairs_inj : ∀ {R S : List (Run Unit)}, (R.map fun r => (r.a, r.b)) = (S.map fun r => (r.a, r.b)) → R = S
  | [], [], _ => rfl
  | [], _ :: _, h => by simp at h
  | _ :: _, [], h => by simp at h
  | r :: R, s :: S, h => by
    simp only [List.map_cons, List.cons.injEq, Prod.mk.injEq] at h
    obtain ⟨⟨h1, h2⟩, h3⟩ := h
    cases r; cases s
    simp only at h1 h2
    subst h1 h2
    rw [pairs_inj h3]
theorem toRe_rect (y0 y1 : Int) (R : List (Run Unit)) : (R.map (rect y0 y1)).map toRe = R.map (rowRe y0 y1) := by simp [rect, toRe, rowRe]
theorem outK_stretch {R : Int → List (Run Unit)} {ys : List Int} (hs : ys.Pairwise (· < ·)) {i k : Nat} (hik : i < k) (hk : k < ys.length) (hnew : ∀ j, ∀ hj : j < ys.length, i = j + 1 → R ys[j] ≠ R (ys[i]'(by omega)))
    (hsame : ∀ j, ∀ hj : j < ys.length, i ≤ j → j < k → R ys[j] = R (ys[i]'(by omega))) : outK R ys k = outK R ys i ++ (R (ys[i]'(by omega))).map (rowRe (ys[i]'(by omega)) (ys[k] - 1)) := by
  unfold outK
  rw [emit_stretch hs hik hk hnew hsame, List.map_append, toRe_rect]
theorem Rr_len (a b : List Re) (how : Int) (xs : List Int) (y : Int) : (Rr a b how xs y).length ≤ xs.length := by
  have := runsK_len (f := fun x => unF a b how x y) (xs := xs) (xs.length - 1)
  unfold Rr rowK
  omega
def FoI (a b : List Re) (how : Int) (xs ys : List Int) (n : Nat) (F : Fr) (H : List Bk) : Prop := ∃ i, ∃ hi : i < ys.length, n = ys.length - i ∧ (∀ j, ∀ hj : j < ys.length, i = j + 1 → i + 1 < ys.length → Rr a b how xs ys[j] ≠ Rr a b how xs ys[i]) ∧
  F = [(0, .v (slR a)), (1, .v (slR b)), (2, .v (.sc (.int .i64 how))), (7, ownR (outK (Rr a b how xs) ys i)), (8, .v (slI xs)), (9, .v (slI ys)), (10, .v (.sc (.int .i64 i)))]
def FkI (a b : List Re) (how : Int) (xs ys : List Int) (i : Nat) (hi : i < ys.length) (n : Nat) (F : Fr) (H : List Bk) : Prop := ∃ k, ∃ hk : k < ys.length, n = ys.length - k ∧ i < k ∧ (∀ j, ∀ hj : j < ys.length, i ≤ j → j < k → Rr a b how xs ys[j] = Rr a b how xs ys[i]) ∧
  F = [(0, .v (slR a)), (1, .v (slR b)), (2, .v (.sc (.int .i64 how))), (7, ownR (outK (Rr a b how xs) ys i)), (8, .v (slI xs)), (9, .v (slI ys)), (10, .v (.sc (.int .i64 i))), (11, .v (slR (lineR a b how xs ys[i]))), (12, .v (.sc (.int .i64 k)))]
def FjI (a b : List Re) (how : Int) (xs ys : List Int) (out now : List Re) (v : Int) (k : Nat) (j : Nat) (F : Fr) (H : List Bk) : Prop :=
  F = [(0, .v (slR a)), (1, .v (slR b)), (2, .v (.sc (.int .i64 how))), (7, ownR (out ++ (now.take j).map (setY1 v))), (8, .v (slI xs)), (9, .v (slI ys)), (11, .v (slR now)), (12, .v (.sc (.int .i64 k))), (13, .v (.sc (.int .i64 j)))]
end Go.Proofs.Ytbcfoakceloenaa
