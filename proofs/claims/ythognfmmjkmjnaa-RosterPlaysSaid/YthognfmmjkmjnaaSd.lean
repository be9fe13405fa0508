/- More of a roster's methods; deeds. -/
import Derived.Test.YthognfmmjkmjnaaSb
namespace Go.Proofs.Ythognfmmjkmjnaa
set_option linter.all false
open Go.RowKit AM
set_option maxRecDepth 10000

structure Deed where
  kind : Int
  m : Me
  pk : Int
  pa : Int
  n : Int
namespace Deed
def cs (a : Deed) : List V := .sc (.int .i64 a.kind) :: (a.m.cs ++ [.sc (.int .i64 a.pk), .sc (.int .u64 a.pa), .sc (.int .i64 a.n)])
def v (a : Deed) : V := .agg a.cs
end Deed
def profR (k pk pa : Int) (x : Me) : Me × Int := if k = 0 ∨ pk < 1 ∨ 65535 < pk then (x, 1) else ({ x with kk := pk, area := pa }, 0)
theorem profR_user (k pk pa : Int) (x : Me) : (profR k pk pa x).1.user = x.user := by
  unfold profR
  split <;> rfl
def findR (l : List Me) (k : Int) : Me × Bool := match mfindMe k l 0 with
  | some (_, x) => (x, true)
  | none => (Me.none, false)
def doesR (l : List Me) (a : Deed) : List Me × Int :=
  if a.kind = 0 then enrolR l a.m else if a.kind = 1 then dropR l a.m.user else if a.kind = 2 then turnR (profR a.m.user a.pk a.pa) l a.m.user
  else if a.kind = 3 then turnR (quotaR a.m.user a.n) l a.m.user else turnR (spendR a.m.user) l a.m.user

theorem cloakRight (pk pa : Int) : PFn Try.prog 55 [.agg [.sc (.int .i64 pk), .sc (.int .u64 pa)]] (.sc (.bool (decide (1 ≤ pk ∧ pk ≤ 65535)))) := by
  refine AFn.intro (fn := Try.f55) (by kernel_rfl) rfl (by kernel_rfl) (by simp) (AW.of mixed (by kernel_rfl) ?_)
  simp only [Try.f55, argsF]
  simp [aw_skip', aw_region', aw_seq', aw_cond', aw_block', aw_loop', aw_exit', aw_label', aw_ret', aops_nil', aops_cons', aop', aMove, aAssign, aPick, aAlloc, aBox, aBuild, aBuildSlice, aLoad, aLoadOwn, aStore, aNilCheck, aBin, aMakeFunc, aFieldAddr, aField, aIndexAddr, aExtract, aSliceOp, aSlice, aCallOp, aCall', aLen, aLenMap, aDelete, aMM, aUn, aConv, aIface, aAssert, aMakeMap, aLookup, aMapUpdate, aRange, aNext, aEntry, entsOf, keyB, lookV, aAppend, putK, layK, eval, evalV, AM.valOf, getF, putF, setF, del, SV.refers, cellsAt, rootSV, plains, shift, ldV, V.exact, V.exactL, V.ofValue, V.ofPart, V.ofCell, V.cells, V.one, Value.oneCell', fitB, qSeq, qBlock, getB, afin, aret, resVs, resV, resTmps, shareF, evalS, tupV, valsS, valsV, pickV, calm, calmB, lenV, useOf, feeds, looks, isT, newsV, partsV, fillV, putAt, zerosV, fitsNil, nilB, isEq, isNeq]
  simp [gd]
  grind
theorem profile {H : List Bk} {r m : Nat} {l : List Me} (h : Ros H r m l) (k pk pa : Int) : AFn Try.prog 45 [.ptr r 0, .sc (.int .i64 k), .agg [.sc (.int .i64 pk), .sc (.int .u64 pa)]] H (Did H r m (turnR (profR k pk pa) l k)) := by
  refine AFn.intro (fn := Try.f45) (by kernel_rfl) rfl (by kernel_rfl) (by simp) (AW.of mixed (by kernel_rfl) ?_)
  simp only [Try.f45, argsF]
  simp [aw_skip', aw_region', aw_seq', aw_cond', aw_block', aw_loop', aw_exit', aw_label', aw_ret', aops_nil', aops_cons', aop', aMove, aAssign, aPick, aAlloc, aBox, aBuild, aBuildSlice, aLoad, aLoadOwn, aStore, aNilCheck, aBin, aMakeFunc, aFieldAddr, aField, aIndexAddr, aExtract, aSliceOp, aSlice, aCallOp, aCall', aLen, aLenMap, aDelete, aMM, aUn, aConv, aIface, aAssert, aMakeMap, aLookup, aMapUpdate, aRange, aNext, aEntry, entsOf, keyB, lookV, aAppend, putK, layK, eval, evalV, AM.valOf, getF, putF, setF, del, SV.refers, cellsAt, rootSV, plains, shift, ldV, V.exact, V.exactL, V.ofValue, V.ofPart, V.ofCell, V.cells, V.one, Value.oneCell', fitB, qSeq, qBlock, getB, afin, aret, resVs, resV, resTmps, shareF, evalS, tupV, valsS, valsV, pickV, calm, calmB, lenV, useOf, feeds, looks, isT, newsV, partsV, fillV, putAt, zerosV, fitsNil, nilB, isEq, isNeq]
  have a1 : ∀ (a b : Bk), (H ++ [a, b])[H.length + 1]? = some b := fun a b => by rw [List.getElem?_append_right (by omega)]; simp
  refine callK.of (turn (h.app (L := [.cells [.v (.sc (.int .i64 k))], .cells [.v (.sc (.int .i64 pk)), .v (.sc (.int .u64 pa))]])) k 54 [.ptr H.length 0, .ptr (H.length + 1) 0] (profR k pk pa) (profR_user k pk pa) fun H' q x hk hq hx => ?_) ?_
  · have hb : H'[H.length]? = some (.cells [.v (.sc (.int .i64 k))]) := hk _ _ (fun e => by have := (List.getElem?_eq_some_iff.1 h.m).1; omega) (by simp) (fun _ _ _ => by simp)
    have hc : H'[H.length + 1]? = some (.cells [.v (.sc (.int .i64 pk)), .v (.sc (.int .u64 pa))]) := hk _ _ (fun e => by have := (List.getElem?_eq_some_iff.1 h.m).1; omega) (a1 _ _) (fun _ _ _ => by simp)
    have hne : q ≠ H.length := by simp at hq; omega
    refine AFn.intro (fn := Try.f54) (by kernel_rfl) rfl (by kernel_rfl) (by simp) (AW.of mixed (by kernel_rfl) ?_)
    simp only [Try.f54, argsF]
    simp only [Me.cs, List.map_cons, List.map_nil] at hx
    simp [aw_skip', aw_region', aw_seq', aw_cond', aw_block', aw_loop', aw_exit', aw_label', aw_ret', aops_nil', aops_cons', aop', aMove, aAssign, aPick, aAlloc, aBox, aBuild, aBuildSlice, aLoad, aLoadOwn, aStore, aNilCheck, aBin, aMakeFunc, aFieldAddr, aField, aIndexAddr, aExtract, aSliceOp, aSlice, aCallOp, aCall', aLen, aLenMap, aDelete, aMM, aUn, aConv, aIface, aAssert, aMakeMap, aLookup, aMapUpdate, aRange, aNext, aEntry, entsOf, keyB, lookV, aAppend, putK, layK, eval, evalV, AM.valOf, getF, putF, setF, del, SV.refers, cellsAt, rootSV, plains, shift, ldV, V.exact, V.exactL, V.ofValue, V.ofPart, V.ofCell, V.cells, V.one, Value.oneCell', fitB, qSeq, qBlock, getB, afin, aret, resVs, resV, resTmps, shareF, evalS, tupV, valsS, valsV, pickV, calm, calmB, lenV, useOf, feeds, looks, isT, newsV, partsV, fillV, putAt, zerosV, fitsNil, nilB, isEq, isNeq, hb, hc, hx]
    have h1 := set_self (k := .cells [.v (.sc (.int .i64 x.user)), .v (.sc (.int .i64 x.role)), .v (.sc (.int .i64 x.tier)), .v (.sc (.int .i64 x.quota)), .v (.sc (.int .i64 pk)), .v (.sc (.int .u64 pa))]) hx
    have h2 := fun k => set_self (k := k) hx
    refine gd.intro (fun e => ?_) (fun e => ?_)
    · refine callK.pure (cloakRight pk pa) rfl rfl ?_
      have e : k ≠ 0 := by simpa using e
      by_cases e1 : 1 ≤ pk <;> by_cases e2 : pk ≤ 65535 <;> simp [aw_skip', aw_region', aw_seq', aw_cond', aw_block', aw_loop', aw_exit', aw_label', aw_ret', aops_nil', aops_cons', aop', aMove, aAssign, aPick, aAlloc, aBox, aBuild, aBuildSlice, aLoad, aLoadOwn, aStore, aNilCheck, aBin, aMakeFunc, aFieldAddr, aField, aIndexAddr, aExtract, aSliceOp, aSlice, aCallOp, aCall', aLen, aLenMap, aDelete, aMM, aUn, aConv, aIface, aAssert, aMakeMap, aLookup, aMapUpdate, aRange, aNext, aEntry, entsOf, keyB, lookV, aAppend, putK, layK, eval, evalV, AM.valOf, getF, putF, setF, del, SV.refers, cellsAt, rootSV, plains, shift, ldV, V.exact, V.exactL, V.ofValue, V.ofPart, V.ofCell, V.cells, V.one, Value.oneCell', fitB, qSeq, qBlock, getB, afin, aret, resVs, resV, resTmps, shareF, evalS, tupV, valsS, valsV, pickV, calm, calmB, lenV, useOf, feeds, looks, isT, newsV, partsV, fillV, putAt, zerosV, fitsNil, nilB, isEq, isNeq, hb, hc, hx, h1, h2, e1, e2, setCells, setBlk]
      · have : ¬ (pk < 1 ∨ 65535 < pk) := by omega
        simp [profR, e, this, Me.cs]
        exact Kept.set
      all_goals
        have : pk < 1 ∨ 65535 < pk := by omega
        simp [profR, this, Me.cs, Kept.refl]
    · have e : k = 0 := by simpa using e
      simp [aw_skip', aw_region', aw_seq', aw_cond', aw_block', aw_loop', aw_exit', aw_label', aw_ret', aops_nil', aops_cons', aop', aMove, aAssign, aPick, aAlloc, aBox, aBuild, aBuildSlice, aLoad, aLoadOwn, aStore, aNilCheck, aBin, aMakeFunc, aFieldAddr, aField, aIndexAddr, aExtract, aSliceOp, aSlice, aCallOp, aCall', aLen, aLenMap, aDelete, aMM, aUn, aConv, aIface, aAssert, aMakeMap, aLookup, aMapUpdate, aRange, aNext, aEntry, entsOf, keyB, lookV, aAppend, putK, layK, eval, evalV, AM.valOf, getF, putF, setF, del, SV.refers, cellsAt, rootSV, plains, shift, ldV, V.exact, V.exactL, V.ofValue, V.ofPart, V.ofCell, V.cells, V.one, Value.oneCell', fitB, qSeq, qBlock, getB, afin, aret, resVs, resV, resTmps, shareF, evalS, tupV, valsS, valsV, pickV, calm, calmB, lenV, useOf, feeds, looks, isT, newsV, partsV, fillV, putAt, zerosV, fitsNil, nilB, isEq, isNeq, profR, e, Me.cs, Kept.refl, hx]
  rintro y H' ⟨rfl, hR, hK⟩
  simp [aw_skip', aw_region', aw_seq', aw_cond', aw_block', aw_loop', aw_exit', aw_label', aw_ret', aops_nil', aops_cons', aop', aMove, aAssign, aPick, aAlloc, aBox, aBuild, aBuildSlice, aLoad, aLoadOwn, aStore, aNilCheck, aBin, aMakeFunc, aFieldAddr, aField, aIndexAddr, aExtract, aSliceOp, aSlice, aCallOp, aCall', aLen, aLenMap, aDelete, aMM, aUn, aConv, aIface, aAssert, aMakeMap, aLookup, aMapUpdate, aRange, aNext, aEntry, entsOf, keyB, lookV, aAppend, putK, layK, eval, evalV, AM.valOf, getF, putF, setF, del, SV.refers, cellsAt, rootSV, plains, shift, ldV, V.exact, V.exactL, V.ofValue, V.ofPart, V.ofCell, V.cells, V.one, Value.oneCell', fitB, qSeq, qBlock, getB, afin, aret, resVs, resV, resTmps, shareF, evalS, tupV, valsS, valsV, pickV, calm, calmB, lenV, useOf, feeds, looks, isT, newsV, partsV, fillV, putAt, zerosV, fitsNil, nilB, isEq, isNeq]
  exact ⟨rfl, hR, fun i b hi hb hn => hK i b hi (get_app hb) hn⟩
theorem setAll {H : List Bk} {b : Nat} {xs : List SV} {ys : List V} (hb : H[b]? = some (.cells xs)) (hl : xs.length = ys.length) : setCells H b 0 ys = H.set b (.cells (ys.map .v)) := by
  have go : ∀ (ys : List V) (pre xs : List SV) (H : List Bk), H[b]? = some (.cells (pre ++ xs)) → xs.length = ys.length → setCells H b pre.length ys = H.set b (.cells (pre ++ ys.map .v)) := by
    intro ys
    induction ys with
    | nil => intro pre xs H hb h; cases xs with
      | nil =>
        obtain ⟨hlt, e⟩ := List.getElem?_eq_some_iff.1 hb
        have : H.set b (.cells (pre ++ [])) = H := by rw [← e]; simp
        simpa [setCells] using this.symm
      | cons => cases h
    | cons y ys ih =>
      intro pre xs H hb h
      match xs, h with
      | x :: xs, h =>
        have e : setBlk H b pre.length (.v y) = H.set b (.cells ((pre ++ [.v y]) ++ xs)) := by
          unfold setBlk
          rw [hb]
          simp
        unfold setCells
        rw [e]
        have := ih (pre ++ [.v y]) xs (H.set b (.cells ((pre ++ [.v y]) ++ xs))) (set_self hb) (by simpa using h)
        simpa using this
  simpa using go ys [] xs H hb hl
theorem Old.set {H H' : List Bk} {b : Nat} {k : Bk} (h : Old H H') (hb : H.length ≤ b) : Old H (H'.set b k) := fun i x hx hn => by
  rw [List.getElem?_set_ne (Ne.symm (Nat.ne_of_lt (Nat.lt_of_lt_of_le (List.getElem?_eq_some_iff.1 hx).1 hb)))]
  exact h i x hx hn
theorem map_erase {α β : Type} (f : α → β) : ∀ (l : List α) (i : Nat), (l.eraseIdx i).map f = (l.map f).eraseIdx i
  | [], i => by simp
  | x :: l, 0 => rfl
  | x :: l, i + 1 => by simp [map_erase f l i]
theorem drop {H : List Bk} {r m : Nat} {l : List Me} (h : Ros H r m l) (k : Int) : AFn Try.prog 44 [.ptr r 0, .sc (.int .i64 k)] H (Did H r m (dropR l k)) := by
  have hr := h.r
  have hm := h.m
  have hr' := fun L => get_app (L := L) hr
  have hm' := fun L => get_app (L := L) hm
  refine AFn.intro (fn := Try.f44) (by kernel_rfl) rfl (by kernel_rfl) (by simp) (AW.of mixed (by kernel_rfl) ?_)
  simp only [Try.f44, argsF]
  simp [aw_skip', aw_region', aw_seq', aw_cond', aw_block', aw_loop', aw_exit', aw_label', aw_ret', aops_nil', aops_cons', aop', aMove, aAssign, aPick, aAlloc, aBox, aBuild, aBuildSlice, aLoad, aLoadOwn, aStore, aNilCheck, aBin, aMakeFunc, aFieldAddr, aField, aIndexAddr, aExtract, aSliceOp, aSlice, aCallOp, aCall', aLen, aLenMap, aDelete, aMM, aUn, aConv, aIface, aAssert, aMakeMap, aLookup, aMapUpdate, aRange, aNext, aEntry, entsOf, keyB, lookV, aAppend, putK, layK, eval, evalV, AM.valOf, getF, putF, setF, del, SV.refers, cellsAt, rootSV, plains, shift, ldV, V.exact, V.exactL, V.ofValue, V.ofPart, V.ofCell, V.cells, V.one, Value.oneCell', fitB, qSeq, qBlock, getB, afin, aret, resVs, resV, resTmps, shareF, evalS, tupV, valsS, valsV, pickV, calm, calmB, lenV, useOf, feeds, looks, isT, newsV, partsV, fillV, putAt, zerosV, fitsNil, nilB, isEq, isNeq]
  refine callK.of (made H r m hr) ?_
  rintro y H' ⟨rfl, rfl⟩
  simp [aw_skip', aw_region', aw_seq', aw_cond', aw_block', aw_loop', aw_exit', aw_label', aw_ret', aops_nil', aops_cons', aop', aMove, aAssign, aPick, aAlloc, aBox, aBuild, aBuildSlice, aLoad, aLoadOwn, aStore, aNilCheck, aBin, aMakeFunc, aFieldAddr, aField, aIndexAddr, aExtract, aSliceOp, aSlice, aCallOp, aCall', aLen, aLenMap, aDelete, aMM, aUn, aConv, aIface, aAssert, aMakeMap, aLookup, aMapUpdate, aRange, aNext, aEntry, entsOf, keyB, lookV, aAppend, putK, layK, eval, evalV, AM.valOf, getF, putF, setF, del, SV.refers, cellsAt, rootSV, plains, shift, ldV, V.exact, V.exactL, V.ofValue, V.ofPart, V.ofCell, V.cells, V.one, Value.oneCell', fitB, qSeq, qBlock, getB, afin, aret, resVs, resV, resTmps, shareF, evalS, tupV, valsS, valsV, pickV, calm, calmB, lenV, useOf, feeds, looks, isT, newsV, partsV, fillV, putAt, zerosV, fitsNil, nilB, isEq, isNeq]
  refine gd.intro (fun e => ?_) (fun e => ?_)
  · have e : k = 0 := by simpa using e
    exact ⟨by simp [dropR, e], by simpa [dropR, e] using h, Kept.refl⟩
  have e : k ≠ 0 := by simpa using e
  simp [aw_skip', aw_region', aw_seq', aw_cond', aw_block', aw_loop', aw_exit', aw_label', aw_ret', aops_nil', aops_cons', aop', aMove, aAssign, aPick, aAlloc, aBox, aBuild, aBuildSlice, aLoad, aLoadOwn, aStore, aNilCheck, aBin, aMakeFunc, aFieldAddr, aField, aIndexAddr, aExtract, aSliceOp, aSlice, aCallOp, aCall', aLen, aLenMap, aDelete, aMM, aUn, aConv, aIface, aAssert, aMakeMap, aLookup, aMapUpdate, aRange, aNext, aEntry, entsOf, keyB, lookV, aAppend, putK, layK, eval, evalV, AM.valOf, getF, putF, setF, del, SV.refers, cellsAt, rootSV, plains, shift, ldV, V.exact, V.exactL, V.ofValue, V.ofPart, V.ofCell, V.cells, V.one, Value.oneCell', fitB, qSeq, qBlock, getB, afin, aret, resVs, resV, resTmps, shareF, evalS, tupV, valsS, valsV, pickV, calm, calmB, lenV, useOf, feeds, looks, isT, newsV, partsV, fillV, putAt, zerosV, fitsNil, nilB, isEq, isNeq, hr, hm]
  cases hf : mfindMe k l 0 with
  | none =>
    simp [aw_skip', aw_region', aw_seq', aw_cond', aw_block', aw_loop', aw_exit', aw_label', aw_ret', aops_nil', aops_cons', aop', aMove, aAssign, aPick, aAlloc, aBox, aBuild, aBuildSlice, aLoad, aLoadOwn, aStore, aNilCheck, aBin, aMakeFunc, aFieldAddr, aField, aIndexAddr, aExtract, aSliceOp, aSlice, aCallOp, aCall', aLen, aLenMap, aDelete, aMM, aUn, aConv, aIface, aAssert, aMakeMap, aLookup, aMapUpdate, aRange, aNext, aEntry, entsOf, keyB, lookV, aAppend, putK, layK, eval, evalV, AM.valOf, getF, putF, setF, del, SV.refers, cellsAt, rootSV, plains, shift, ldV, V.exact, V.exactL, V.ofValue, V.ofPart, V.ofCell, V.cells, V.one, Value.oneCell', fitB, qSeq, qBlock, getB, afin, aret, resVs, resV, resTmps, shareF, evalS, tupV, valsS, valsV, pickV, calm, calmB, lenV, useOf, feeds, looks, isT, newsV, partsV, fillV, putAt, zerosV, fitsNil, nilB, isEq, isNeq, hr, hm, mfind_me, hf, zvMe, Me.v, Me.cs, Me.none, setLast]
    exact ⟨by simp [dropR, e, hf], by simpa [dropR, e, hf] using h.app, Kept.refl.append⟩
  | some p =>
  obtain ⟨i, x⟩ := p
  simp [aw_skip', aw_region', aw_seq', aw_cond', aw_block', aw_loop', aw_exit', aw_label', aw_ret', aops_nil', aops_cons', aop', aMove, aAssign, aPick, aAlloc, aBox, aBuild, aBuildSlice, aLoad, aLoadOwn, aStore, aNilCheck, aBin, aMakeFunc, aFieldAddr, aField, aIndexAddr, aExtract, aSliceOp, aSlice, aCallOp, aCall', aLen, aLenMap, aDelete, aMM, aUn, aConv, aIface, aAssert, aMakeMap, aLookup, aMapUpdate, aRange, aNext, aEntry, entsOf, keyB, lookV, aAppend, putK, layK, eval, evalV, AM.valOf, getF, putF, setF, del, SV.refers, cellsAt, rootSV, plains, shift, ldV, V.exact, V.exactL, V.ofValue, V.ofPart, V.ofCell, V.cells, V.one, Value.oneCell', fitB, qSeq, qBlock, getB, afin, aret, resVs, resV, resTmps, shareF, evalS, tupV, valsS, valsV, pickV, calm, calmB, lenV, useOf, feeds, looks, isT, newsV, partsV, fillV, putAt, zerosV, fitsNil, nilB, isEq, isNeq, hr, hm, hr', hm', mfind_me, hf, zvMe, Me.v, Me.cs, Me.none, setLast]
  refine ⟨by simp [dropR, e, hf], ?_, Kept.refl.append.turned⟩
  have e : dropR l k = (l.eraseIdx i, 0) := by simp [dropR, e, hf]
  rw [e]
  have := (h.app (L := [.cells (x.cs.map .v)])).turned (l' := l.eraseIdx i)
  simpa [map_erase, Me.ent, Me.v, Me.cs] using this
theorem find {H : List Bk} {r m : Nat} {l : List Me} (h : Ros H r m l) (k : Int) : AFn Try.prog 23 [.ptr r 0, .sc (.int .i64 k)] H fun y H' => y = .tup [(findR l k).1.v, .sc (.bool (findR l k).2)] ∧ Old H H' := by
  have hr := h.r
  have hm := h.m
  have hr' := fun L => get_app (L := L) hr
  have hm' := fun L => get_app (L := L) hm
  refine AFn.intro (fn := Try.f23) (by kernel_rfl) rfl (by kernel_rfl) (by simp) (AW.of mixed (by kernel_rfl) ?_)
  simp only [Try.f23, argsF]
  simp [aw_skip', aw_region', aw_seq', aw_cond', aw_block', aw_loop', aw_exit', aw_label', aw_ret', aops_nil', aops_cons', aop', aMove, aAssign, aPick, aAlloc, aBox, aBuild, aBuildSlice, aLoad, aLoadOwn, aStore, aNilCheck, aBin, aMakeFunc, aFieldAddr, aField, aIndexAddr, aExtract, aSliceOp, aSlice, aCallOp, aCall', aLen, aLenMap, aDelete, aMM, aUn, aConv, aIface, aAssert, aMakeMap, aLookup, aMapUpdate, aRange, aNext, aEntry, entsOf, keyB, lookV, aAppend, putK, layK, eval, evalV, AM.valOf, getF, putF, setF, del, SV.refers, cellsAt, rootSV, plains, shift, ldV, V.exact, V.exactL, V.ofValue, V.ofPart, V.ofCell, V.cells, V.one, Value.oneCell', fitB, qSeq, qBlock, getB, afin, aret, resVs, resV, resTmps, shareF, evalS, tupV, valsS, valsV, pickV, calm, calmB, lenV, useOf, feeds, looks, isT, newsV, partsV, fillV, putAt, zerosV, fitsNil, nilB, isEq, isNeq]
  have hb0 := app_len (H := H) (b := .cells (Me.none.cs.map .v))
  have h1 := h.app (L := [.cells (Me.none.cs.map .v)])
  have o0 := Old.app (H := H) (L := [.cells (Me.none.cs.map .v)])
  unfold Me.cs at hb0 h1 o0
  simp only [Me.none, List.map_cons, List.map_nil] at hb0 h1 o0
  clear hr' hm' hr hm
  revert hb0 h1 o0
  generalize hH1 : H ++ _ = H1
  clear hH1
  generalize hbl : H.length = b
  intro hb0 h1 o0
  have hr := h1.r
  have hm := h1.m
  have hr' := fun L => get_app (L := L) hr
  have hm' := fun L => get_app (L := L) hm
  have hb' := fun L => get_app (L := L) hb0
  refine callK.of (made H1 r m hr) ?_
  rintro y H' ⟨rfl, rfl⟩
  simp [aw_skip', aw_region', aw_seq', aw_cond', aw_block', aw_loop', aw_exit', aw_label', aw_ret', aops_nil', aops_cons', aop', aMove, aAssign, aPick, aAlloc, aBox, aBuild, aBuildSlice, aLoad, aLoadOwn, aStore, aNilCheck, aBin, aMakeFunc, aFieldAddr, aField, aIndexAddr, aExtract, aSliceOp, aSlice, aCallOp, aCall', aLen, aLenMap, aDelete, aMM, aUn, aConv, aIface, aAssert, aMakeMap, aLookup, aMapUpdate, aRange, aNext, aEntry, entsOf, keyB, lookV, aAppend, putK, layK, eval, evalV, AM.valOf, getF, putF, setF, del, SV.refers, cellsAt, rootSV, plains, shift, ldV, V.exact, V.exactL, V.ofValue, V.ofPart, V.ofCell, V.cells, V.one, Value.oneCell', fitB, qSeq, qBlock, getB, afin, aret, resVs, resV, resTmps, shareF, evalS, tupV, valsS, valsV, pickV, calm, calmB, lenV, useOf, feeds, looks, isT, newsV, partsV, fillV, putAt, zerosV, fitsNil, nilB, isEq, isNeq, hr, hm]
  have hs := fun L ys hl => setAll (ys := ys) (hb' L) hl
  have hg := fun L k => set_self (k := k) (hb' L)
  have ho : ∀ L k, Old H ((H' ++ L).set b k) := fun L k => (o0.trans Old.app).set (Nat.le_of_eq hbl)
  cases hf : mfindMe k l 0 with
  | none =>
    simp [aw_skip', aw_region', aw_seq', aw_cond', aw_block', aw_loop', aw_exit', aw_label', aw_ret', aops_nil', aops_cons', aop', aMove, aAssign, aPick, aAlloc, aBox, aBuild, aBuildSlice, aLoad, aLoadOwn, aStore, aNilCheck, aBin, aMakeFunc, aFieldAddr, aField, aIndexAddr, aExtract, aSliceOp, aSlice, aCallOp, aCall', aLen, aLenMap, aDelete, aMM, aUn, aConv, aIface, aAssert, aMakeMap, aLookup, aMapUpdate, aRange, aNext, aEntry, entsOf, keyB, lookV, aAppend, putK, layK, eval, evalV, AM.valOf, getF, putF, setF, del, SV.refers, cellsAt, rootSV, plains, shift, ldV, V.exact, V.exactL, V.ofValue, V.ofPart, V.ofCell, V.cells, V.one, Value.oneCell', fitB, qSeq, qBlock, getB, afin, aret, resVs, resV, resTmps, shareF, evalS, tupV, valsS, valsV, pickV, calm, calmB, lenV, useOf, feeds, looks, isT, newsV, partsV, fillV, putAt, zerosV, fitsNil, nilB, isEq, isNeq, hr, hm, mfind_me, hf, zvMe, Me.v, Me.cs, Me.none, setLast, hb', hs, hg, findR]
    exact ho _ _
  | some p =>
    simp [aw_skip', aw_region', aw_seq', aw_cond', aw_block', aw_loop', aw_exit', aw_label', aw_ret', aops_nil', aops_cons', aop', aMove, aAssign, aPick, aAlloc, aBox, aBuild, aBuildSlice, aLoad, aLoadOwn, aStore, aNilCheck, aBin, aMakeFunc, aFieldAddr, aField, aIndexAddr, aExtract, aSliceOp, aSlice, aCallOp, aCall', aLen, aLenMap, aDelete, aMM, aUn, aConv, aIface, aAssert, aMakeMap, aLookup, aMapUpdate, aRange, aNext, aEntry, entsOf, keyB, lookV, aAppend, putK, layK, eval, evalV, AM.valOf, getF, putF, setF, del, SV.refers, cellsAt, rootSV, plains, shift, ldV, V.exact, V.exactL, V.ofValue, V.ofPart, V.ofCell, V.cells, V.one, Value.oneCell', fitB, qSeq, qBlock, getB, afin, aret, resVs, resV, resTmps, shareF, evalS, tupV, valsS, valsV, pickV, calm, calmB, lenV, useOf, feeds, looks, isT, newsV, partsV, fillV, putAt, zerosV, fitsNil, nilB, isEq, isNeq, hr, hm, mfind_me, hf, zvMe, Me.v, Me.cs, Me.none, setLast, hb', hs, hg, findR]
    exact ho _ _
theorem does {H : List Bk} {r m : Nat} {l : List Me} (h : Ros H r m l) (a : Deed) : AFn Try.prog 22 [.ptr r 0, a.v] H (Did H r m (doesR l a)) := by
  refine AFn.intro (fn := Try.f22) (by kernel_rfl) rfl (by kernel_rfl) (by simp) (AW.of mixed (by kernel_rfl) ?_)
  unfold Deed.v Deed.cs Me.cs
  simp only [Try.f22, argsF]
  simp [aw_skip', aw_region', aw_seq', aw_cond', aw_block', aw_loop', aw_exit', aw_label', aw_ret', aops_nil', aops_cons', aop', aMove, aAssign, aPick, aAlloc, aBox, aBuild, aBuildSlice, aLoad, aLoadOwn, aStore, aNilCheck, aBin, aMakeFunc, aFieldAddr, aField, aIndexAddr, aExtract, aSliceOp, aSlice, aCallOp, aCall', aLen, aLenMap, aDelete, aMM, aUn, aConv, aIface, aAssert, aMakeMap, aLookup, aMapUpdate, aRange, aNext, aEntry, entsOf, keyB, lookV, aAppend, putK, layK, eval, evalV, AM.valOf, getF, putF, setF, del, SV.refers, cellsAt, rootSV, plains, shift, ldV, V.exact, V.exactL, V.ofValue, V.ofPart, V.ofCell, V.cells, V.one, Value.oneCell', fitB, qSeq, qBlock, getB, afin, aret, resVs, resV, resTmps, shareF, evalS, tupV, valsS, valsV, pickV, calm, calmB, lenV, useOf, feeds, looks, isT, newsV, partsV, fillV, putAt, zerosV, fitsNil, nilB, isEq, isNeq]
  have hb0 := app_len (H := H) (b := .cells (a.cs.map .v))
  have h1 := h.app (L := [.cells (a.cs.map .v)])
  have k0 : Kept m H (H ++ [.cells (a.cs.map .v)]) := Kept.refl.append
  unfold Deed.cs Me.cs at hb0 h1 k0
  simp only [List.map_cons, List.map_nil, List.cons_append, List.nil_append] at hb0 h1 k0
  revert hb0 h1 k0
  generalize hH1 : H ++ _ = H1
  clear hH1
  generalize H.length = b
  intro hb0 h1 k0
  refine gd.intro (fun e => ?_) (fun e => ?_)
  · refine callK.of (enrol h1 a.m) ?_
    rintro y H2 ⟨rfl, h2, k2⟩
    have e : a.kind = 0 := by simpa using e
    simp [aw_skip', aw_region', aw_seq', aw_cond', aw_block', aw_loop', aw_exit', aw_label', aw_ret', aops_nil', aops_cons', aop', aMove, aAssign, aPick, aAlloc, aBox, aBuild, aBuildSlice, aLoad, aLoadOwn, aStore, aNilCheck, aBin, aMakeFunc, aFieldAddr, aField, aIndexAddr, aExtract, aSliceOp, aSlice, aCallOp, aCall', aLen, aLenMap, aDelete, aMM, aUn, aConv, aIface, aAssert, aMakeMap, aLookup, aMapUpdate, aRange, aNext, aEntry, entsOf, keyB, lookV, aAppend, putK, layK, eval, evalV, AM.valOf, getF, putF, setF, del, SV.refers, cellsAt, rootSV, plains, shift, ldV, V.exact, V.exactL, V.ofValue, V.ofPart, V.ofCell, V.cells, V.one, Value.oneCell', fitB, qSeq, qBlock, getB, afin, aret, resVs, resV, resTmps, shareF, evalS, tupV, valsS, valsV, pickV, calm, calmB, lenV, useOf, feeds, looks, isT, newsV, partsV, fillV, putAt, zerosV, fitsNil, nilB, isEq, isNeq, doesR, e]
    exact ⟨rfl, h2, k0.trans k2⟩
  have e : a.kind ≠ 0 := by simpa using e
  refine gd.intro (fun e1 => ?_) (fun e1 => ?_)
  · refine callK.of (drop h1 a.m.user) ?_
    rintro y H2 ⟨rfl, h2, k2⟩
    have e1 : a.kind = 1 := by simpa using e1
    simp [aw_skip', aw_region', aw_seq', aw_cond', aw_block', aw_loop', aw_exit', aw_label', aw_ret', aops_nil', aops_cons', aop', aMove, aAssign, aPick, aAlloc, aBox, aBuild, aBuildSlice, aLoad, aLoadOwn, aStore, aNilCheck, aBin, aMakeFunc, aFieldAddr, aField, aIndexAddr, aExtract, aSliceOp, aSlice, aCallOp, aCall', aLen, aLenMap, aDelete, aMM, aUn, aConv, aIface, aAssert, aMakeMap, aLookup, aMapUpdate, aRange, aNext, aEntry, entsOf, keyB, lookV, aAppend, putK, layK, eval, evalV, AM.valOf, getF, putF, setF, del, SV.refers, cellsAt, rootSV, plains, shift, ldV, V.exact, V.exactL, V.ofValue, V.ofPart, V.ofCell, V.cells, V.one, Value.oneCell', fitB, qSeq, qBlock, getB, afin, aret, resVs, resV, resTmps, shareF, evalS, tupV, valsS, valsV, pickV, calm, calmB, lenV, useOf, feeds, looks, isT, newsV, partsV, fillV, putAt, zerosV, fitsNil, nilB, isEq, isNeq, doesR, e1]
    exact ⟨rfl, h2, k0.trans k2⟩
  have e1 : a.kind ≠ 1 := by simpa using e1
  refine gd.intro (fun e2 => ?_) (fun e2 => ?_)
  · refine callK.of (profile h1 a.m.user a.pk a.pa) ?_
    rintro y H2 ⟨rfl, h2, k2⟩
    have e2 : a.kind = 2 := by simpa using e2
    simp [aw_skip', aw_region', aw_seq', aw_cond', aw_block', aw_loop', aw_exit', aw_label', aw_ret', aops_nil', aops_cons', aop', aMove, aAssign, aPick, aAlloc, aBox, aBuild, aBuildSlice, aLoad, aLoadOwn, aStore, aNilCheck, aBin, aMakeFunc, aFieldAddr, aField, aIndexAddr, aExtract, aSliceOp, aSlice, aCallOp, aCall', aLen, aLenMap, aDelete, aMM, aUn, aConv, aIface, aAssert, aMakeMap, aLookup, aMapUpdate, aRange, aNext, aEntry, entsOf, keyB, lookV, aAppend, putK, layK, eval, evalV, AM.valOf, getF, putF, setF, del, SV.refers, cellsAt, rootSV, plains, shift, ldV, V.exact, V.exactL, V.ofValue, V.ofPart, V.ofCell, V.cells, V.one, Value.oneCell', fitB, qSeq, qBlock, getB, afin, aret, resVs, resV, resTmps, shareF, evalS, tupV, valsS, valsV, pickV, calm, calmB, lenV, useOf, feeds, looks, isT, newsV, partsV, fillV, putAt, zerosV, fitsNil, nilB, isEq, isNeq, doesR, e2]
    exact ⟨rfl, h2, k0.trans k2⟩
  have e2 : a.kind ≠ 2 := by simpa using e2
  refine gd.intro (fun e3 => ?_) (fun e3 => ?_)
  · refine callK.of (quota h1 a.m.user a.n) ?_
    rintro y H2 ⟨rfl, h2, k2⟩
    have e3 : a.kind = 3 := by simpa using e3
    simp [aw_skip', aw_region', aw_seq', aw_cond', aw_block', aw_loop', aw_exit', aw_label', aw_ret', aops_nil', aops_cons', aop', aMove, aAssign, aPick, aAlloc, aBox, aBuild, aBuildSlice, aLoad, aLoadOwn, aStore, aNilCheck, aBin, aMakeFunc, aFieldAddr, aField, aIndexAddr, aExtract, aSliceOp, aSlice, aCallOp, aCall', aLen, aLenMap, aDelete, aMM, aUn, aConv, aIface, aAssert, aMakeMap, aLookup, aMapUpdate, aRange, aNext, aEntry, entsOf, keyB, lookV, aAppend, putK, layK, eval, evalV, AM.valOf, getF, putF, setF, del, SV.refers, cellsAt, rootSV, plains, shift, ldV, V.exact, V.exactL, V.ofValue, V.ofPart, V.ofCell, V.cells, V.one, Value.oneCell', fitB, qSeq, qBlock, getB, afin, aret, resVs, resV, resTmps, shareF, evalS, tupV, valsS, valsV, pickV, calm, calmB, lenV, useOf, feeds, looks, isT, newsV, partsV, fillV, putAt, zerosV, fitsNil, nilB, isEq, isNeq, doesR, e3]
    exact ⟨rfl, h2, k0.trans k2⟩
  have e3 : a.kind ≠ 3 := by simpa using e3
  refine callK.of (spend h1 a.m.user) ?_
  rintro y H2 ⟨rfl, h2, k2⟩
  simp [aw_skip', aw_region', aw_seq', aw_cond', aw_block', aw_loop', aw_exit', aw_label', aw_ret', aops_nil', aops_cons', aop', aMove, aAssign, aPick, aAlloc, aBox, aBuild, aBuildSlice, aLoad, aLoadOwn, aStore, aNilCheck, aBin, aMakeFunc, aFieldAddr, aField, aIndexAddr, aExtract, aSliceOp, aSlice, aCallOp, aCall', aLen, aLenMap, aDelete, aMM, aUn, aConv, aIface, aAssert, aMakeMap, aLookup, aMapUpdate, aRange, aNext, aEntry, entsOf, keyB, lookV, aAppend, putK, layK, eval, evalV, AM.valOf, getF, putF, setF, del, SV.refers, cellsAt, rootSV, plains, shift, ldV, V.exact, V.exactL, V.ofValue, V.ofPart, V.ofCell, V.cells, V.one, Value.oneCell', fitB, qSeq, qBlock, getB, afin, aret, resVs, resV, resTmps, shareF, evalS, tupV, valsS, valsV, pickV, calm, calmB, lenV, useOf, feeds, looks, isT, newsV, partsV, fillV, putAt, zerosV, fitsNil, nilB, isEq, isNeq, doesR, e, e1, e2, e3]
  exact ⟨rfl, h2, k0.trans k2⟩
end Go.Proofs.Ythognfmmjkmjnaa
