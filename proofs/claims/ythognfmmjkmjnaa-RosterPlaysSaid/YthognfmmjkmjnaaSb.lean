/- A roster's methods. -/
import Derived.Test.YthognfmmjkmjnaaSa
namespace Go.Proofs.Ythognfmmjkmjnaa
set_option linter.all false
open Go.RowKit AM
set_option maxRecDepth 10000

def OK : Int := 0
/-- What Enrol does to the members. -/
def has (k : Int) (l : List Me) : Bool := (mfindMe k l 0).isSome
def enrolR (l : List Me) (x : Me) : List Me × Int := if x.right then (if has x.user l then (l, 20) else (l ++ [x], 0)) else (l, 1)
def dropR (l : List Me) (k : Int) : List Me × Int := if k = 0 then (l, 1) else match mfindMe k l 0 with
  | some (i, _) => (l.eraseIdx i, 0)
  | none => (l, 21)
/-- What a turn of one member does. -/
def turnR (do' : Me → Me × Int) (l : List Me) (k : Int) : List Me × Int := match mfindMe k l 0 with
  | some (i, x) => (l.set i (do' x).1, (do' x).2)
  | none => (l, 21)
def spendR (k : Int) (x : Me) : Me × Int := if k = 0 then (x, 0) else if x.quota = 0 then (x, 41) else ({ x with quota := IntKind.i64.wrap (x.quota - 1) }, 0)
def quotaR (k n : Int) (x : Me) : Me × Int := if k = 0 ∨ n < 0 ∨ n > 65535 then (x, 1) else ({ x with quota := n }, 0)
theorem spendR_user (k : Int) (x : Me) : (spendR k x).1.user = x.user := by
  unfold spendR
  split
  · rfl
  · split <;> rfl
theorem quotaR_user (k n : Int) (x : Me) : (quotaR k n x).1.user = x.user := by
  unfold quotaR
  split <;> rfl
/-- What a method leaves. -/
def Did (H : List Bk) (r m : Nat) (p : List Me × Int) (y : V) (H' : List Bk) : Prop := y = .sc (.int .i64 p.2) ∧ Ros H' r m p.1 ∧ Kept m H H'

theorem Kept.set {q : Nat} {H : List Bk} {k : Bk} : Kept q H (H.set q k) := fun i b hi hb _ => by rw [List.getElem?_set_ne (Ne.symm hi)]; exact hb
theorem zvMe : zeroV Try.prog 26 = some Me.none.v := by kernel_rfl
theorem setLast {H : List Bk} {xs : List SV} {ys : List V} (h : xs.length = ys.length) : setCells (H ++ [.cells xs]) H.length 0 ys = H ++ [.cells (ys.map .v)] := by
  have go : ∀ (ys : List V) (pre xs : List SV), xs.length = ys.length → setCells (H ++ [.cells (pre ++ xs)]) H.length pre.length ys = H ++ [.cells (pre ++ ys.map .v)] := by
    intro ys
    induction ys with
    | nil => intro pre xs h; cases xs with
      | nil => rfl
      | cons => cases h
    | cons y ys ih =>
      intro pre xs h
      match xs, h with
      | x :: xs, h =>
        have e : setBlk (H ++ [.cells (pre ++ x :: xs)]) H.length pre.length (.v y) = H ++ [.cells ((pre ++ [.v y]) ++ xs)] := by
          unfold setBlk
          simp
        unfold setCells
        rw [e]
        have := ih (pre ++ [.v y]) xs (by simpa using h)
        simpa using this
  simpa using go ys [] xs h
theorem Ros.turned {H : List Bk} {r m : Nat} {l l' : List Me} (h : Ros H r m l) : Ros ((killIt m H).set m (.map (l'.map Me.ent))) r m l' :=
  ⟨by rw [List.getElem?_set_ne (Ne.symm h.ne)]; exact killIt_some h.r (fun _ _ _ => by simp), turned_self h.m⟩
theorem Ros.app {H L : List Bk} {r m : Nat} {l : List Me} (h : Ros H r m l) : Ros (H ++ L) r m l := ⟨get_app h.r, get_app h.m⟩
theorem enrol {H : List Bk} {r m : Nat} {l : List Me} (h : Ros H r m l) (x : Me) : AFn Try.prog 13 [.ptr r 0, x.v] H (Did H r m (enrolR l x)) := by
  have hr := h.r
  have hm := h.m
  have hR := right x
  refine AFn.intro (fn := Try.f13) (by kernel_rfl) rfl (by kernel_rfl) (by simp) (AW.of mixed (by kernel_rfl) ?_)
  unfold Me.v Me.cs at hR ⊢
  simp only [Try.f13, argsF]
  simp [aw_skip', aw_region', aw_seq', aw_cond', aw_block', aw_loop', aw_exit', aw_label', aw_ret', aops_nil', aops_cons', aop', aMove, aAssign, aPick, aAlloc, aBox, aBuild, aBuildSlice, aLoad, aLoadOwn, aStore, aNilCheck, aBin, aMakeFunc, aFieldAddr, aField, aIndexAddr, aExtract, aSliceOp, aSlice, aCallOp, aCall', aLen, aLenMap, aDelete, aMM, aUn, aConv, aIface, aAssert, aMakeMap, aLookup, aMapUpdate, aRange, aNext, aEntry, entsOf, keyB, lookV, aAppend, putK, layK, eval, evalV, AM.valOf, getF, putF, setF, del, SV.refers, cellsAt, rootSV, plains, shift, ldV, V.exact, V.exactL, V.ofValue, V.ofPart, V.ofCell, V.cells, V.one, Value.oneCell', fitB, qSeq, qBlock, getB, afin, aret, resVs, resV, resTmps, shareF, evalS, tupV, valsS, valsV, pickV, calm, calmB, lenV, useOf, feeds, looks, isT, newsV, partsV, fillV, putAt, zerosV, fitsNil, nilB, isEq, isNeq]
  generalize hb : H.length = b
  have h1 := h.app (L := [.cells (x.cs.map .v)])
  have h1b : (H ++ [.cells (x.cs.map .v)])[b]? = some (.cells (x.cs.map .v)) := by subst hb; exact app_len
  have k1 : Kept m H (H ++ [.cells (x.cs.map .v)]) := Kept.refl.append
  unfold Me.cs at h1 h1b k1
  simp only [List.map_cons, List.map_nil] at h1 h1b k1
  revert h1 h1b k1
  generalize H ++ _ = H1
  intro h1 h1b k1
  have hr := h1.r
  have hm := h1.m
  refine callK.of (made H1 r m hr) ?_
  rintro y H' ⟨rfl, rfl⟩
  simp [aw_skip', aw_region', aw_seq', aw_cond', aw_block', aw_loop', aw_exit', aw_label', aw_ret', aops_nil', aops_cons', aop', aMove, aAssign, aPick, aAlloc, aBox, aBuild, aBuildSlice, aLoad, aLoadOwn, aStore, aNilCheck, aBin, aMakeFunc, aFieldAddr, aField, aIndexAddr, aExtract, aSliceOp, aSlice, aCallOp, aCall', aLen, aLenMap, aDelete, aMM, aUn, aConv, aIface, aAssert, aMakeMap, aLookup, aMapUpdate, aRange, aNext, aEntry, entsOf, keyB, lookV, aAppend, putK, layK, eval, evalV, AM.valOf, getF, putF, setF, del, SV.refers, cellsAt, rootSV, plains, shift, ldV, V.exact, V.exactL, V.ofValue, V.ofPart, V.ofCell, V.cells, V.one, Value.oneCell', fitB, qSeq, qBlock, getB, afin, aret, resVs, resV, resTmps, shareF, evalS, tupV, valsS, valsV, pickV, calm, calmB, lenV, useOf, feeds, looks, isT, newsV, partsV, fillV, putAt, zerosV, fitsNil, nilB, isEq, isNeq, h1b]
  refine callK.pure hR rfl rfl ?_
  simp [aw_skip', aw_region', aw_seq', aw_cond', aw_block', aw_loop', aw_exit', aw_label', aw_ret', aops_nil', aops_cons', aop', aMove, aAssign, aPick, aAlloc, aBox, aBuild, aBuildSlice, aLoad, aLoadOwn, aStore, aNilCheck, aBin, aMakeFunc, aFieldAddr, aField, aIndexAddr, aExtract, aSliceOp, aSlice, aCallOp, aCall', aLen, aLenMap, aDelete, aMM, aUn, aConv, aIface, aAssert, aMakeMap, aLookup, aMapUpdate, aRange, aNext, aEntry, entsOf, keyB, lookV, aAppend, putK, layK, eval, evalV, AM.valOf, getF, putF, setF, del, SV.refers, cellsAt, rootSV, plains, shift, ldV, V.exact, V.exactL, V.ofValue, V.ofPart, V.ofCell, V.cells, V.one, Value.oneCell', fitB, qSeq, qBlock, getB, afin, aret, resVs, resV, resTmps, shareF, evalS, tupV, valsS, valsV, pickV, calm, calmB, lenV, useOf, feeds, looks, isT, newsV, partsV, fillV, putAt, zerosV, fitsNil, nilB, isEq, isNeq]
  refine gd.intro (fun e => ?_) (fun e => ?_)
  · have e : x.right = false := by simpa using e
    refine ⟨?_, ?_, k1⟩
    · simp [enrolR, e]
    · have : (enrolR l x).1 = l := by simp [enrolR, e]
      rw [this]; exact h1
  have e : x.right = true := by simpa using e
  have hr' := fun L => get_app (L := L) hr
  have hm' := fun L => get_app (L := L) hm
  have hb' := fun L => get_app (L := L) h1b
  cases hf : mfindMe x.user l 0 with
  | some p =>
    simp [aw_skip', aw_region', aw_seq', aw_cond', aw_block', aw_loop', aw_exit', aw_label', aw_ret', aops_nil', aops_cons', aop', aMove, aAssign, aPick, aAlloc, aBox, aBuild, aBuildSlice, aLoad, aLoadOwn, aStore, aNilCheck, aBin, aMakeFunc, aFieldAddr, aField, aIndexAddr, aExtract, aSliceOp, aSlice, aCallOp, aCall', aLen, aLenMap, aDelete, aMM, aUn, aConv, aIface, aAssert, aMakeMap, aLookup, aMapUpdate, aRange, aNext, aEntry, entsOf, keyB, lookV, aAppend, putK, layK, eval, evalV, AM.valOf, getF, putF, setF, del, SV.refers, cellsAt, rootSV, plains, shift, ldV, V.exact, V.exactL, V.ofValue, V.ofPart, V.ofCell, V.cells, V.one, Value.oneCell', fitB, qSeq, qBlock, getB, afin, aret, resVs, resV, resTmps, shareF, evalS, tupV, valsS, valsV, pickV, calm, calmB, lenV, useOf, feeds, looks, isT, newsV, partsV, fillV, putAt, zerosV, fitsNil, nilB, isEq, isNeq, hr, hm, h1b, mfind_me, hf, zvMe, Me.v, Me.cs, Me.none, setLast]
    exact ⟨by simp [enrolR, e, has, hf], by simpa [enrolR, e, has, hf] using h1.app, k1.append⟩
  | none =>
  simp [aw_skip', aw_region', aw_seq', aw_cond', aw_block', aw_loop', aw_exit', aw_label', aw_ret', aops_nil', aops_cons', aop', aMove, aAssign, aPick, aAlloc, aBox, aBuild, aBuildSlice, aLoad, aLoadOwn, aStore, aNilCheck, aBin, aMakeFunc, aFieldAddr, aField, aIndexAddr, aExtract, aSliceOp, aSlice, aCallOp, aCall', aLen, aLenMap, aDelete, aMM, aUn, aConv, aIface, aAssert, aMakeMap, aLookup, aMapUpdate, aRange, aNext, aEntry, entsOf, keyB, lookV, aAppend, putK, layK, eval, evalV, AM.valOf, getF, putF, setF, del, SV.refers, cellsAt, rootSV, plains, shift, ldV, V.exact, V.exactL, V.ofValue, V.ofPart, V.ofCell, V.cells, V.one, Value.oneCell', fitB, qSeq, qBlock, getB, afin, aret, resVs, resV, resTmps, shareF, evalS, tupV, valsS, valsV, pickV, calm, calmB, lenV, useOf, feeds, looks, isT, newsV, partsV, fillV, putAt, zerosV, fitsNil, nilB, isEq, isNeq, hr, hm, h1b, mfind_me, hf, zvMe, Me.v, Me.cs, Me.none, setLast, hr', hm', hb']
  refine ⟨by simp [enrolR, e, has, hf], ?_, k1.append.turned⟩
  have : enrolR l x = (l ++ [x], 0) := by simp [enrolR, e, has, hf]
  rw [this]
  have := (h1.app (L := [.cells (Me.none.cs.map .v)])).turned (l' := l ++ [x])
  simpa [Me.ent, Me.v, Me.cs, Me.none] using this

theorem mfindMe_user {k : Int} : ∀ {l : List Me} {n i : Nat} {x : Me}, mfindMe k l n = some (i, x) → x.user = k ∧ n ≤ i ∧ l[i - n]? = some x
  | y :: l, n, i, x, h => by
    unfold mfindMe at h
    split at h
    · rename_i e
      simp only [Option.some.injEq, Prod.mk.injEq] at h
      obtain ⟨rfl, rfl⟩ := h
      exact ⟨e.symm, Nat.le_refl _, by simp⟩
    · obtain ⟨h1, h2, h3⟩ := mfindMe_user h
      refine ⟨h1, by omega, ?_⟩
      rw [show i - n = (i - (n + 1)) + 1 by omega, List.getElem?_cons_succ]
      exact h3
theorem turn {H : List Bk} {r m : Nat} {l : List Me} (h : Ros H r m l) (k : Int) (g : FuncId) (cap : List V) (do' : Me → Me × Int) (hu : ∀ x, (do' x).1.user = x.user)
    (hdo : ∀ H' q (x : Me), Kept m H H' → H.length ≤ q → H'[q]? = some (.cells (x.cs.map .v)) → AFn Try.prog g (.ptr q 0 :: cap) H' fun y H'' => y = .sc (.int .i64 (do' x).2) ∧ H''[q]? = some (.cells ((do' x).1.cs.map .v)) ∧ Kept q H' H'') :
    AFn Try.prog 41 [.ptr r 0, .sc (.int .i64 k), .fn (.func g) [] cap] H (Did H r m (turnR do' l k)) := by
  have hr := h.r
  have hm := h.m
  have hr' := fun L => get_app (L := L) hr
  have hm' := fun L => get_app (L := L) hm
  refine AFn.intro (fn := Try.f41) (by kernel_rfl) rfl (by kernel_rfl) (by simp) (AW.of mixed (by kernel_rfl) ?_)
  simp only [Try.f41, argsF]
  simp [aw_skip', aw_region', aw_seq', aw_cond', aw_block', aw_loop', aw_exit', aw_label', aw_ret', aops_nil', aops_cons', aop', aMove, aAssign, aPick, aAlloc, aBox, aBuild, aBuildSlice, aLoad, aLoadOwn, aStore, aNilCheck, aBin, aMakeFunc, aFieldAddr, aField, aIndexAddr, aExtract, aSliceOp, aSlice, aCallOp, aCall', aLen, aLenMap, aDelete, aMM, aUn, aConv, aIface, aAssert, aMakeMap, aLookup, aMapUpdate, aRange, aNext, aEntry, entsOf, keyB, lookV, aAppend, putK, layK, eval, evalV, AM.valOf, getF, putF, setF, del, SV.refers, cellsAt, rootSV, plains, shift, ldV, V.exact, V.exactL, V.ofValue, V.ofPart, V.ofCell, V.cells, V.one, Value.oneCell', fitB, qSeq, qBlock, getB, afin, aret, resVs, resV, resTmps, shareF, evalS, tupV, valsS, valsV, pickV, calm, calmB, lenV, useOf, feeds, looks, isT, newsV, partsV, fillV, putAt, zerosV, fitsNil, nilB, isEq, isNeq]
  refine callK.of (made H r m hr) ?_
  rintro y H' ⟨rfl, rfl⟩
  simp [aw_skip', aw_region', aw_seq', aw_cond', aw_block', aw_loop', aw_exit', aw_label', aw_ret', aops_nil', aops_cons', aop', aMove, aAssign, aPick, aAlloc, aBox, aBuild, aBuildSlice, aLoad, aLoadOwn, aStore, aNilCheck, aBin, aMakeFunc, aFieldAddr, aField, aIndexAddr, aExtract, aSliceOp, aSlice, aCallOp, aCall', aLen, aLenMap, aDelete, aMM, aUn, aConv, aIface, aAssert, aMakeMap, aLookup, aMapUpdate, aRange, aNext, aEntry, entsOf, keyB, lookV, aAppend, putK, layK, eval, evalV, AM.valOf, getF, putF, setF, del, SV.refers, cellsAt, rootSV, plains, shift, ldV, V.exact, V.exactL, V.ofValue, V.ofPart, V.ofCell, V.cells, V.one, Value.oneCell', fitB, qSeq, qBlock, getB, afin, aret, resVs, resV, resTmps, shareF, evalS, tupV, valsS, valsV, pickV, calm, calmB, lenV, useOf, feeds, looks, isT, newsV, partsV, fillV, putAt, zerosV, fitsNil, nilB, isEq, isNeq, hr, hm]
  cases hf : mfindMe k l 0 with
  | none =>
    simp [aw_skip', aw_region', aw_seq', aw_cond', aw_block', aw_loop', aw_exit', aw_label', aw_ret', aops_nil', aops_cons', aop', aMove, aAssign, aPick, aAlloc, aBox, aBuild, aBuildSlice, aLoad, aLoadOwn, aStore, aNilCheck, aBin, aMakeFunc, aFieldAddr, aField, aIndexAddr, aExtract, aSliceOp, aSlice, aCallOp, aCall', aLen, aLenMap, aDelete, aMM, aUn, aConv, aIface, aAssert, aMakeMap, aLookup, aMapUpdate, aRange, aNext, aEntry, entsOf, keyB, lookV, aAppend, putK, layK, eval, evalV, AM.valOf, getF, putF, setF, del, SV.refers, cellsAt, rootSV, plains, shift, ldV, V.exact, V.exactL, V.ofValue, V.ofPart, V.ofCell, V.cells, V.one, Value.oneCell', fitB, qSeq, qBlock, getB, afin, aret, resVs, resV, resTmps, shareF, evalS, tupV, valsS, valsV, pickV, calm, calmB, lenV, useOf, feeds, looks, isT, newsV, partsV, fillV, putAt, zerosV, fitsNil, nilB, isEq, isNeq, hr, hm, mfind_me, hf, zvMe, Me.v, Me.cs, Me.none, setLast]
    exact ⟨by simp [turnR, hf], by simpa [turnR, hf] using h.app, Kept.refl.append⟩
  | some p =>
  obtain ⟨i, x⟩ := p
  simp [aw_skip', aw_region', aw_seq', aw_cond', aw_block', aw_loop', aw_exit', aw_label', aw_ret', aops_nil', aops_cons', aop', aMove, aAssign, aPick, aAlloc, aBox, aBuild, aBuildSlice, aLoad, aLoadOwn, aStore, aNilCheck, aBin, aMakeFunc, aFieldAddr, aField, aIndexAddr, aExtract, aSliceOp, aSlice, aCallOp, aCall', aLen, aLenMap, aDelete, aMM, aUn, aConv, aIface, aAssert, aMakeMap, aLookup, aMapUpdate, aRange, aNext, aEntry, entsOf, keyB, lookV, aAppend, putK, layK, eval, evalV, AM.valOf, getF, putF, setF, del, SV.refers, cellsAt, rootSV, plains, shift, ldV, V.exact, V.exactL, V.ofValue, V.ofPart, V.ofCell, V.cells, V.one, Value.oneCell', fitB, qSeq, qBlock, getB, afin, aret, resVs, resV, resTmps, shareF, evalS, tupV, valsS, valsV, pickV, calm, calmB, lenV, useOf, feeds, looks, isT, newsV, partsV, fillV, putAt, zerosV, fitsNil, nilB, isEq, isNeq, hr, hm, mfind_me, hf, zvMe, Me.v, Me.cs, Me.none, setLast]
  have := hdo (H' ++ [.cells (x.cs.map .v)]) H'.length x Kept.refl.append (Nat.le_refl _) app_len
  refine callK.of this ?_
  rintro y H2 ⟨rfl, hq, hk⟩
  simp only [Me.cs, List.map_cons, List.map_nil] at hq
  have r2 : H2[r]? = some (.cells [.v (.map m)]) := hk _ _ (Nat.ne_of_lt (List.getElem?_eq_some_iff.1 hr).1) (hr' _) (fun _ _ _ => by simp)
  have m2 : H2[m]? = some (.map (l.map Me.ent)) := hk _ _ (Nat.ne_of_lt (List.getElem?_eq_some_iff.1 hm).1) (hm' _) (fun _ _ _ => by simp)
  have k2 : Kept m H' H2 := fun i b hi hb hn => hk _ _ (Nat.ne_of_lt (List.getElem?_eq_some_iff.1 hb).1) (get_app hb) hn
  simp [aw_skip', aw_region', aw_seq', aw_cond', aw_block', aw_loop', aw_exit', aw_label', aw_ret', aops_nil', aops_cons', aop', aMove, aAssign, aPick, aAlloc, aBox, aBuild, aBuildSlice, aLoad, aLoadOwn, aStore, aNilCheck, aBin, aMakeFunc, aFieldAddr, aField, aIndexAddr, aExtract, aSliceOp, aSlice, aCallOp, aCall', aLen, aLenMap, aDelete, aMM, aUn, aConv, aIface, aAssert, aMakeMap, aLookup, aMapUpdate, aRange, aNext, aEntry, entsOf, keyB, lookV, aAppend, putK, layK, eval, evalV, AM.valOf, getF, putF, setF, del, SV.refers, cellsAt, rootSV, plains, shift, ldV, V.exact, V.exactL, V.ofValue, V.ofPart, V.ofCell, V.cells, V.one, Value.oneCell', fitB, qSeq, qBlock, getB, afin, aret, resVs, resV, resTmps, shareF, evalS, tupV, valsS, valsV, pickV, calm, calmB, lenV, useOf, feeds, looks, isT, newsV, partsV, fillV, putAt, zerosV, fitsNil, nilB, isEq, isNeq, r2, m2, hq, mfind_me, hf]
  refine ⟨by simp [turnR, hf], ?_, k2.turned⟩
  have hx : x.user = k := (mfindMe_user hf).1
  have := (Ros.mk r2 m2).turned (l' := l.set i (do' x).1)
  have e : turnR do' l k = (l.set i (do' x).1, (do' x).2) := by simp [turnR, hf]
  rw [e]
  simpa [List.map_set, Me.ent, Me.v, Me.cs, hu, hx] using this
theorem spend {H : List Bk} {r m : Nat} {l : List Me} (h : Ros H r m l) (k : Int) : AFn Try.prog 17 [.ptr r 0, .sc (.int .i64 k)] H (Did H r m (turnR (spendR k) l k)) := by
  refine AFn.intro (fn := Try.f17) (by kernel_rfl) rfl (by kernel_rfl) (by simp) (AW.of mixed (by kernel_rfl) ?_)
  simp only [Try.f17, argsF]
  simp [aw_skip', aw_region', aw_seq', aw_cond', aw_block', aw_loop', aw_exit', aw_label', aw_ret', aops_nil', aops_cons', aop', aMove, aAssign, aPick, aAlloc, aBox, aBuild, aBuildSlice, aLoad, aLoadOwn, aStore, aNilCheck, aBin, aMakeFunc, aFieldAddr, aField, aIndexAddr, aExtract, aSliceOp, aSlice, aCallOp, aCall', aLen, aLenMap, aDelete, aMM, aUn, aConv, aIface, aAssert, aMakeMap, aLookup, aMapUpdate, aRange, aNext, aEntry, entsOf, keyB, lookV, aAppend, putK, layK, eval, evalV, AM.valOf, getF, putF, setF, del, SV.refers, cellsAt, rootSV, plains, shift, ldV, V.exact, V.exactL, V.ofValue, V.ofPart, V.ofCell, V.cells, V.one, Value.oneCell', fitB, qSeq, qBlock, getB, afin, aret, resVs, resV, resTmps, shareF, evalS, tupV, valsS, valsV, pickV, calm, calmB, lenV, useOf, feeds, looks, isT, newsV, partsV, fillV, putAt, zerosV, fitsNil, nilB, isEq, isNeq]
  refine callK.of (turn (h.app (L := [.cells [.v (.sc (.int .i64 k))]])) k 42 [.ptr H.length 0] (spendR k) (spendR_user k) fun H' q x hk hq hx => ?_) ?_
  · have hb : H'[H.length]? = some (.cells [.v (.sc (.int .i64 k))]) := hk _ _ (fun e => by have := (List.getElem?_eq_some_iff.1 h.m).1; omega) app_len (fun _ _ _ => by simp)
    have hne : q ≠ H.length := by simp at hq; omega
    refine AFn.intro (fn := Try.f42) (by kernel_rfl) rfl (by kernel_rfl) (by simp) (AW.of mixed (by kernel_rfl) ?_)
    simp only [Try.f42, argsF]
    simp only [Me.cs, List.map_cons, List.map_nil] at hx
    simp [aw_skip', aw_region', aw_seq', aw_cond', aw_block', aw_loop', aw_exit', aw_label', aw_ret', aops_nil', aops_cons', aop', aMove, aAssign, aPick, aAlloc, aBox, aBuild, aBuildSlice, aLoad, aLoadOwn, aStore, aNilCheck, aBin, aMakeFunc, aFieldAddr, aField, aIndexAddr, aExtract, aSliceOp, aSlice, aCallOp, aCall', aLen, aLenMap, aDelete, aMM, aUn, aConv, aIface, aAssert, aMakeMap, aLookup, aMapUpdate, aRange, aNext, aEntry, entsOf, keyB, lookV, aAppend, putK, layK, eval, evalV, AM.valOf, getF, putF, setF, del, SV.refers, cellsAt, rootSV, plains, shift, ldV, V.exact, V.exactL, V.ofValue, V.ofPart, V.ofCell, V.cells, V.one, Value.oneCell', fitB, qSeq, qBlock, getB, afin, aret, resVs, resV, resTmps, shareF, evalS, tupV, valsS, valsV, pickV, calm, calmB, lenV, useOf, feeds, looks, isT, newsV, partsV, fillV, putAt, zerosV, fitsNil, nilB, isEq, isNeq, hb, hx, setCells, setBlk]
    have h1 := set_self (k := .cells [.v (.sc (.int .i64 x.user)), .v (.sc (.int .i64 x.role)), .v (.sc (.int .i64 x.tier)), .v (.sc (.int .i64 (IntKind.i64.wrap (x.quota - 1)))), .v (.sc (.int .i64 x.kk)), .v (.sc (.int .u64 x.area))]) hx
    by_cases e : k = 0 <;> by_cases e1 : x.quota = 0 <;> simp [gd, spendR, Me.cs, Kept.refl, Kept.set, h1, e, e1]
  rintro y H' ⟨rfl, hR, hK⟩
  simp [aw_skip', aw_region', aw_seq', aw_cond', aw_block', aw_loop', aw_exit', aw_label', aw_ret', aops_nil', aops_cons', aop', aMove, aAssign, aPick, aAlloc, aBox, aBuild, aBuildSlice, aLoad, aLoadOwn, aStore, aNilCheck, aBin, aMakeFunc, aFieldAddr, aField, aIndexAddr, aExtract, aSliceOp, aSlice, aCallOp, aCall', aLen, aLenMap, aDelete, aMM, aUn, aConv, aIface, aAssert, aMakeMap, aLookup, aMapUpdate, aRange, aNext, aEntry, entsOf, keyB, lookV, aAppend, putK, layK, eval, evalV, AM.valOf, getF, putF, setF, del, SV.refers, cellsAt, rootSV, plains, shift, ldV, V.exact, V.exactL, V.ofValue, V.ofPart, V.ofCell, V.cells, V.one, Value.oneCell', fitB, qSeq, qBlock, getB, afin, aret, resVs, resV, resTmps, shareF, evalS, tupV, valsS, valsV, pickV, calm, calmB, lenV, useOf, feeds, looks, isT, newsV, partsV, fillV, putAt, zerosV, fitsNil, nilB, isEq, isNeq]
  exact ⟨rfl, hR, fun i b hi hb hn => hK i b hi (get_app hb) hn⟩
theorem quota {H : List Bk} {r m : Nat} {l : List Me} (h : Ros H r m l) (k n : Int) : AFn Try.prog 18 [.ptr r 0, .sc (.int .i64 k), .sc (.int .i64 n)] H (Did H r m (turnR (quotaR k n) l k)) := by
  refine AFn.intro (fn := Try.f18) (by kernel_rfl) rfl (by kernel_rfl) (by simp) (AW.of mixed (by kernel_rfl) ?_)
  simp only [Try.f18, argsF]
  simp [aw_skip', aw_region', aw_seq', aw_cond', aw_block', aw_loop', aw_exit', aw_label', aw_ret', aops_nil', aops_cons', aop', aMove, aAssign, aPick, aAlloc, aBox, aBuild, aBuildSlice, aLoad, aLoadOwn, aStore, aNilCheck, aBin, aMakeFunc, aFieldAddr, aField, aIndexAddr, aExtract, aSliceOp, aSlice, aCallOp, aCall', aLen, aLenMap, aDelete, aMM, aUn, aConv, aIface, aAssert, aMakeMap, aLookup, aMapUpdate, aRange, aNext, aEntry, entsOf, keyB, lookV, aAppend, putK, layK, eval, evalV, AM.valOf, getF, putF, setF, del, SV.refers, cellsAt, rootSV, plains, shift, ldV, V.exact, V.exactL, V.ofValue, V.ofPart, V.ofCell, V.cells, V.one, Value.oneCell', fitB, qSeq, qBlock, getB, afin, aret, resVs, resV, resTmps, shareF, evalS, tupV, valsS, valsV, pickV, calm, calmB, lenV, useOf, feeds, looks, isT, newsV, partsV, fillV, putAt, zerosV, fitsNil, nilB, isEq, isNeq]
  have a1 : ∀ (a b : Bk), (H ++ [a, b])[H.length + 1]? = some b := fun a b => by rw [List.getElem?_append_right (by omega)]; simp
  refine callK.of (turn (h.app (L := [.cells [.v (.sc (.int .i64 k))], .cells [.v (.sc (.int .i64 n))]])) k 43 [.ptr H.length 0, .ptr (H.length + 1) 0] (quotaR k n) (quotaR_user k n) fun H' q x hk hq hx => ?_) ?_
  · have hb : H'[H.length]? = some (.cells [.v (.sc (.int .i64 k))]) := hk _ _ (fun e => by have := (List.getElem?_eq_some_iff.1 h.m).1; omega) (by simp) (fun _ _ _ => by simp)
    have hc : H'[H.length + 1]? = some (.cells [.v (.sc (.int .i64 n))]) := hk _ _ (fun e => by have := (List.getElem?_eq_some_iff.1 h.m).1; omega) (a1 _ _) (fun _ _ _ => by simp)
    have hne : q ≠ H.length := by simp at hq; omega
    refine AFn.intro (fn := Try.f43) (by kernel_rfl) rfl (by kernel_rfl) (by simp) (AW.of mixed (by kernel_rfl) ?_)
    simp only [Try.f43, argsF]
    simp only [Me.cs, List.map_cons, List.map_nil] at hx
    simp [aw_skip', aw_region', aw_seq', aw_cond', aw_block', aw_loop', aw_exit', aw_label', aw_ret', aops_nil', aops_cons', aop', aMove, aAssign, aPick, aAlloc, aBox, aBuild, aBuildSlice, aLoad, aLoadOwn, aStore, aNilCheck, aBin, aMakeFunc, aFieldAddr, aField, aIndexAddr, aExtract, aSliceOp, aSlice, aCallOp, aCall', aLen, aLenMap, aDelete, aMM, aUn, aConv, aIface, aAssert, aMakeMap, aLookup, aMapUpdate, aRange, aNext, aEntry, entsOf, keyB, lookV, aAppend, putK, layK, eval, evalV, AM.valOf, getF, putF, setF, del, SV.refers, cellsAt, rootSV, plains, shift, ldV, V.exact, V.exactL, V.ofValue, V.ofPart, V.ofCell, V.cells, V.one, Value.oneCell', fitB, qSeq, qBlock, getB, afin, aret, resVs, resV, resTmps, shareF, evalS, tupV, valsS, valsV, pickV, calm, calmB, lenV, useOf, feeds, looks, isT, newsV, partsV, fillV, putAt, zerosV, fitsNil, nilB, isEq, isNeq, hb, hc, hx, setCells, setBlk]
    have h1 := set_self (k := .cells [.v (.sc (.int .i64 x.user)), .v (.sc (.int .i64 x.role)), .v (.sc (.int .i64 x.tier)), .v (.sc (.int .i64 n)), .v (.sc (.int .i64 x.kk)), .v (.sc (.int .u64 x.area))]) hx
    by_cases e : k = 0 <;> by_cases e1 : n < 0 <;> by_cases e2 : 65535 < n <;> simp [gd, quotaR, Me.cs, Kept.refl, Kept.set, h1, e, e1, e2]
  rintro y H' ⟨rfl, hR, hK⟩
  simp [aw_skip', aw_region', aw_seq', aw_cond', aw_block', aw_loop', aw_exit', aw_label', aw_ret', aops_nil', aops_cons', aop', aMove, aAssign, aPick, aAlloc, aBox, aBuild, aBuildSlice, aLoad, aLoadOwn, aStore, aNilCheck, aBin, aMakeFunc, aFieldAddr, aField, aIndexAddr, aExtract, aSliceOp, aSlice, aCallOp, aCall', aLen, aLenMap, aDelete, aMM, aUn, aConv, aIface, aAssert, aMakeMap, aLookup, aMapUpdate, aRange, aNext, aEntry, entsOf, keyB, lookV, aAppend, putK, layK, eval, evalV, AM.valOf, getF, putF, setF, del, SV.refers, cellsAt, rootSV, plains, shift, ldV, V.exact, V.exactL, V.ofValue, V.ofPart, V.ofCell, V.cells, V.one, Value.oneCell', fitB, qSeq, qBlock, getB, afin, aret, resVs, resV, resTmps, shareF, evalS, tupV, valsS, valsV, pickV, calm, calmB, lenV, useOf, feeds, looks, isT, newsV, partsV, fillV, putAt, zerosV, fitsNil, nilB, isEq, isNeq]
  exact ⟨rfl, hR, fun i b hi hb hn => hK i b hi (get_app hb) hn⟩
theorem rlen {H : List Bk} {r m : Nat} {l : List Me} (h : Ros H r m l) : AFn Try.prog 37 [.ptr r 0] H fun y H' => y = .sc (.int .i64 l.length) ∧ H' = H := by
  have hr := h.r
  have hm := h.m
  refine AFn.intro (fn := Try.f37) (by kernel_rfl) rfl (by kernel_rfl) (by simp) (AW.of mixed (by kernel_rfl) ?_)
  simp only [Try.f37, argsF]
  simp [aw_skip', aw_region', aw_seq', aw_cond', aw_block', aw_loop', aw_exit', aw_label', aw_ret', aops_nil', aops_cons', aop', aMove, aAssign, aPick, aAlloc, aBox, aBuild, aBuildSlice, aLoad, aLoadOwn, aStore, aNilCheck, aBin, aMakeFunc, aFieldAddr, aField, aIndexAddr, aExtract, aSliceOp, aSlice, aCallOp, aCall', aLen, aLenMap, aDelete, aMM, aUn, aConv, aIface, aAssert, aMakeMap, aLookup, aMapUpdate, aRange, aNext, aEntry, entsOf, keyB, lookV, aAppend, putK, layK, eval, evalV, AM.valOf, getF, putF, setF, del, SV.refers, cellsAt, rootSV, plains, shift, ldV, V.exact, V.exactL, V.ofValue, V.ofPart, V.ofCell, V.cells, V.one, Value.oneCell', fitB, qSeq, qBlock, getB, afin, aret, resVs, resV, resTmps, shareF, evalS, tupV, valsS, valsV, pickV, calm, calmB, lenV, useOf, feeds, looks, isT, newsV, partsV, fillV, putAt, zerosV, fitsNil, nilB, isEq, isNeq]
  refine callK.of (made H r m hr) ?_
  rintro y H' ⟨rfl, rfl⟩
  simp [aw_skip', aw_region', aw_seq', aw_cond', aw_block', aw_loop', aw_exit', aw_label', aw_ret', aops_nil', aops_cons', aop', aMove, aAssign, aPick, aAlloc, aBox, aBuild, aBuildSlice, aLoad, aLoadOwn, aStore, aNilCheck, aBin, aMakeFunc, aFieldAddr, aField, aIndexAddr, aExtract, aSliceOp, aSlice, aCallOp, aCall', aLen, aLenMap, aDelete, aMM, aUn, aConv, aIface, aAssert, aMakeMap, aLookup, aMapUpdate, aRange, aNext, aEntry, entsOf, keyB, lookV, aAppend, putK, layK, eval, evalV, AM.valOf, getF, putF, setF, del, SV.refers, cellsAt, rootSV, plains, shift, ldV, V.exact, V.exactL, V.ofValue, V.ofPart, V.ofCell, V.cells, V.one, Value.oneCell', fitB, qSeq, qBlock, getB, afin, aret, resVs, resV, resTmps, shareF, evalS, tupV, valsS, valsV, pickV, calm, calmB, lenV, useOf, feeds, looks, isT, newsV, partsV, fillV, putAt, zerosV, fitsNil, nilB, isEq, isNeq, hr, hm]
/-- What stood before stays. -/
def Old (H H' : List Bk) : Prop := ∀ (i : Nat) (b : Bk), H[i]? = some b → (∀ n l cu, b ≠ .iter n l cu) → H'[i]? = some b
theorem Old.of {m : Nat} {H H' : List Bk} (h : Kept m H H') (hm : H.length ≤ m) : Old H H' := fun i b hb hn => h i b (Nat.ne_of_lt (Nat.lt_of_lt_of_le (List.getElem?_eq_some_iff.1 hb).1 hm)) hb hn
theorem Old.ros {H H' : List Bk} {r m : Nat} {l : List Me} (h : Old H H') (h1 : Ros H r m l) : Ros H' r m l := ⟨h _ _ h1.r (fun _ _ _ => by simp), h _ _ h1.m (fun _ _ _ => by simp)⟩
theorem Old.trans {H H1 H2 : List Bk} (h : Old H H1) (h1 : Old H1 H2) : Old H H2 := fun i b hb hn => h1 i b (h i b hb hn) hn
theorem Old.refl {H : List Bk} : Old H H := fun _ _ h _ => h
theorem Old.app {H L : List Bk} : Old H (H ++ L) := fun _ _ h _ => get_app h
theorem known (H : List Bk) : AFn Try.prog 16 [] H fun y H' => y = .sc (.bool true) ∧ Old H H' := by
  refine AFn.intro (fn := Try.f16) (by kernel_rfl) rfl (by kernel_rfl) (by simp) (AW.of mixed (by kernel_rfl) ?_)
  simp only [Try.f16, argsF]
  simp [aw_skip', aw_region', aw_seq', aw_cond', aw_block', aw_loop', aw_exit', aw_label', aw_ret', aops_nil', aops_cons', aop', aMove, aAssign, aPick, aAlloc, aBox, aBuild, aBuildSlice, aLoad, aLoadOwn, aStore, aNilCheck, aBin, aMakeFunc, aFieldAddr, aField, aIndexAddr, aExtract, aSliceOp, aSlice, aCallOp, aCall', aLen, aLenMap, aDelete, aMM, aUn, aConv, aIface, aAssert, aMakeMap, aLookup, aMapUpdate, aRange, aNext, aEntry, entsOf, keyB, lookV, aAppend, putK, layK, eval, evalV, AM.valOf, getF, putF, setF, del, SV.refers, cellsAt, rootSV, plains, shift, ldV, V.exact, V.exactL, V.ofValue, V.ofPart, V.ofCell, V.cells, V.one, Value.oneCell', fitB, qSeq, qBlock, getB, afin, aret, resVs, resV, resTmps, shareF, evalS, tupV, valsS, valsV, pickV, calm, calmB, lenV, useOf, feeds, looks, isT, newsV, partsV, fillV, putAt, zerosV, fitsNil, nilB, isEq, isNeq]
  refine callK.of (rnew H) ?_
  rintro y H1 ⟨r, m, rfl, h, hr, hm, hk⟩
  simp [aw_skip', aw_region', aw_seq', aw_cond', aw_block', aw_loop', aw_exit', aw_label', aw_ret', aops_nil', aops_cons', aop', aMove, aAssign, aPick, aAlloc, aBox, aBuild, aBuildSlice, aLoad, aLoadOwn, aStore, aNilCheck, aBin, aMakeFunc, aFieldAddr, aField, aIndexAddr, aExtract, aSliceOp, aSlice, aCallOp, aCall', aLen, aLenMap, aDelete, aMM, aUn, aConv, aIface, aAssert, aMakeMap, aLookup, aMapUpdate, aRange, aNext, aEntry, entsOf, keyB, lookV, aAppend, putK, layK, eval, evalV, AM.valOf, getF, putF, setF, del, SV.refers, cellsAt, rootSV, plains, shift, ldV, V.exact, V.exactL, V.ofValue, V.ofPart, V.ofCell, V.cells, V.one, Value.oneCell', fitB, qSeq, qBlock, getB, afin, aret, resVs, resV, resTmps, shareF, evalS, tupV, valsS, valsV, pickV, calm, calmB, lenV, useOf, feeds, looks, isT, newsV, partsV, fillV, putAt, zerosV, fitsNil, nilB, isEq, isNeq]
  refine callK.of (enrol h ⟨7, 0, 0, 1, 0, 0⟩) ?_
  rintro y H2 ⟨rfl, h2, k2⟩
  have e2 : enrolR [Me.chief] ⟨7, 0, 0, 1, 0, 0⟩ = ([Me.chief, ⟨7, 0, 0, 1, 0, 0⟩], 0) := by decide
  rw [e2] at h2
  simp [aw_skip', aw_region', aw_seq', aw_cond', aw_block', aw_loop', aw_exit', aw_label', aw_ret', aops_nil', aops_cons', aop', aMove, aAssign, aPick, aAlloc, aBox, aBuild, aBuildSlice, aLoad, aLoadOwn, aStore, aNilCheck, aBin, aMakeFunc, aFieldAddr, aField, aIndexAddr, aExtract, aSliceOp, aSlice, aCallOp, aCall', aLen, aLenMap, aDelete, aMM, aUn, aConv, aIface, aAssert, aMakeMap, aLookup, aMapUpdate, aRange, aNext, aEntry, entsOf, keyB, lookV, aAppend, putK, layK, eval, evalV, AM.valOf, getF, putF, setF, del, SV.refers, cellsAt, rootSV, plains, shift, ldV, V.exact, V.exactL, V.ofValue, V.ofPart, V.ofCell, V.cells, V.one, Value.oneCell', fitB, qSeq, qBlock, getB, afin, aret, resVs, resV, resTmps, shareF, evalS, tupV, valsS, valsV, pickV, calm, calmB, lenV, useOf, feeds, looks, isT, newsV, partsV, fillV, putAt, zerosV, fitsNil, nilB, isEq, isNeq, e2]
  refine callK.of (spend h2 7) ?_
  rintro y H3 ⟨rfl, h3, k3⟩
  have e3 : turnR (spendR 7) [Me.chief, ⟨7, 0, 0, 1, 0, 0⟩] 7 = ([Me.chief, ⟨7, 0, 0, 0, 0, 0⟩], 0) := by decide
  rw [e3] at h3
  simp [aw_skip', aw_region', aw_seq', aw_cond', aw_block', aw_loop', aw_exit', aw_label', aw_ret', aops_nil', aops_cons', aop', aMove, aAssign, aPick, aAlloc, aBox, aBuild, aBuildSlice, aLoad, aLoadOwn, aStore, aNilCheck, aBin, aMakeFunc, aFieldAddr, aField, aIndexAddr, aExtract, aSliceOp, aSlice, aCallOp, aCall', aLen, aLenMap, aDelete, aMM, aUn, aConv, aIface, aAssert, aMakeMap, aLookup, aMapUpdate, aRange, aNext, aEntry, entsOf, keyB, lookV, aAppend, putK, layK, eval, evalV, AM.valOf, getF, putF, setF, del, SV.refers, cellsAt, rootSV, plains, shift, ldV, V.exact, V.exactL, V.ofValue, V.ofPart, V.ofCell, V.cells, V.one, Value.oneCell', fitB, qSeq, qBlock, getB, afin, aret, resVs, resV, resTmps, shareF, evalS, tupV, valsS, valsV, pickV, calm, calmB, lenV, useOf, feeds, looks, isT, newsV, partsV, fillV, putAt, zerosV, fitsNil, nilB, isEq, isNeq, e3]
  refine callK.of (spend h3 7) ?_
  rintro y H4 ⟨rfl, h4, k4⟩
  have e4 : turnR (spendR 7) [Me.chief, ⟨7, 0, 0, 0, 0, 0⟩] 7 = ([Me.chief, ⟨7, 0, 0, 0, 0, 0⟩], 41) := by decide
  rw [e4] at h4
  simp [aw_skip', aw_region', aw_seq', aw_cond', aw_block', aw_loop', aw_exit', aw_label', aw_ret', aops_nil', aops_cons', aop', aMove, aAssign, aPick, aAlloc, aBox, aBuild, aBuildSlice, aLoad, aLoadOwn, aStore, aNilCheck, aBin, aMakeFunc, aFieldAddr, aField, aIndexAddr, aExtract, aSliceOp, aSlice, aCallOp, aCall', aLen, aLenMap, aDelete, aMM, aUn, aConv, aIface, aAssert, aMakeMap, aLookup, aMapUpdate, aRange, aNext, aEntry, entsOf, keyB, lookV, aAppend, putK, layK, eval, evalV, AM.valOf, getF, putF, setF, del, SV.refers, cellsAt, rootSV, plains, shift, ldV, V.exact, V.exactL, V.ofValue, V.ofPart, V.ofCell, V.cells, V.one, Value.oneCell', fitB, qSeq, qBlock, getB, afin, aret, resVs, resV, resTmps, shareF, evalS, tupV, valsS, valsV, pickV, calm, calmB, lenV, useOf, feeds, looks, isT, newsV, partsV, fillV, putAt, zerosV, fitsNil, nilB, isEq, isNeq, e4]
  refine callK.of (spend h4 0) ?_
  rintro y H5 ⟨rfl, h5, k5⟩
  have e5 : turnR (spendR 0) [Me.chief, ⟨7, 0, 0, 0, 0, 0⟩] 0 = ([Me.chief, ⟨7, 0, 0, 0, 0, 0⟩], 0) := by decide
  rw [e5] at h5
  simp [aw_skip', aw_region', aw_seq', aw_cond', aw_block', aw_loop', aw_exit', aw_label', aw_ret', aops_nil', aops_cons', aop', aMove, aAssign, aPick, aAlloc, aBox, aBuild, aBuildSlice, aLoad, aLoadOwn, aStore, aNilCheck, aBin, aMakeFunc, aFieldAddr, aField, aIndexAddr, aExtract, aSliceOp, aSlice, aCallOp, aCall', aLen, aLenMap, aDelete, aMM, aUn, aConv, aIface, aAssert, aMakeMap, aLookup, aMapUpdate, aRange, aNext, aEntry, entsOf, keyB, lookV, aAppend, putK, layK, eval, evalV, AM.valOf, getF, putF, setF, del, SV.refers, cellsAt, rootSV, plains, shift, ldV, V.exact, V.exactL, V.ofValue, V.ofPart, V.ofCell, V.cells, V.one, Value.oneCell', fitB, qSeq, qBlock, getB, afin, aret, resVs, resV, resTmps, shareF, evalS, tupV, valsS, valsV, pickV, calm, calmB, lenV, useOf, feeds, looks, isT, newsV, partsV, fillV, putAt, zerosV, fitsNil, nilB, isEq, isNeq, e5]
  refine callK.of (rlen h5) ?_
  rintro y H6 ⟨rfl, rfl⟩
  simp [aw_skip', aw_region', aw_seq', aw_cond', aw_block', aw_loop', aw_exit', aw_label', aw_ret', aops_nil', aops_cons', aop', aMove, aAssign, aPick, aAlloc, aBox, aBuild, aBuildSlice, aLoad, aLoadOwn, aStore, aNilCheck, aBin, aMakeFunc, aFieldAddr, aField, aIndexAddr, aExtract, aSliceOp, aSlice, aCallOp, aCall', aLen, aLenMap, aDelete, aMM, aUn, aConv, aIface, aAssert, aMakeMap, aLookup, aMapUpdate, aRange, aNext, aEntry, entsOf, keyB, lookV, aAppend, putK, layK, eval, evalV, AM.valOf, getF, putF, setF, del, SV.refers, cellsAt, rootSV, plains, shift, ldV, V.exact, V.exactL, V.ofValue, V.ofPart, V.ofCell, V.cells, V.one, Value.oneCell', fitB, qSeq, qBlock, getB, afin, aret, resVs, resV, resTmps, shareF, evalS, tupV, valsS, valsV, pickV, calm, calmB, lenV, useOf, feeds, looks, isT, newsV, partsV, fillV, putAt, zerosV, fitsNil, nilB, isEq, isNeq]
  exact Old.of ((((hk.trans k2).trans k3).trans k4).trans k5) hm
end Go.Proofs.Ythognfmmjkmjnaa
