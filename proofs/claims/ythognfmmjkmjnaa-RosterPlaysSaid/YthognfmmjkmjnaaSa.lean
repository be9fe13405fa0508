/- Members of a roster, what stands in the roster's map, and the functions that only reckon. -/
import Derived.Test.YthognfmmjkmjnaaTy
namespace Go.Proofs.Ythognfmmjkmjnaa
set_option linter.all false
open Go.RowKit AM
set_option maxRecDepth 10000

structure Me where
  user : Int
  role : Int
  tier : Int
  quota : Int
  kk : Int
  area : Int
  deriving DecidableEq
namespace Me
def cs (x : Me) : List V := [.sc (.int .i64 x.user), .sc (.int .i64 x.role), .sc (.int .i64 x.tier), .sc (.int .i64 x.quota), .sc (.int .i64 x.kk), .sc (.int .u64 x.area)]
def v (x : Me) : V := .agg x.cs
def ent (x : Me) : Value × V := (.int .i64 x.user, x.v)
def right (x : Me) : Bool := decide (0 < x.user ∧ x.user < 65535 ∧ 0 ≤ x.role ∧ x.role ≤ 7 ∧ 0 ≤ x.tier ∧ x.tier ≤ 7 ∧ 0 ≤ x.quota ∧ x.quota ≤ 65535 ∧ x.kk = 0 ∧ x.area = 0)
def chief : Me := ⟨0, 0, 0, 65535, 0, 0⟩
def none : Me := ⟨0, 0, 0, 0, 0, 0⟩
end Me
theorem eqMe (a b c d e f a' b' c' d' e' f' : Int) : eqT Try.prog 10 26 (.agg #[.int .i64 a, .int .i64 b, .int .i64 c, .int .i64 d, .int .i64 e, .int .u64 f]) (.agg #[.int .i64 a', .int .i64 b', .int .i64 c', .int .i64 d', .int .i64 e', .int .u64 f']) = some (a == a' && (b == b' && (c == c' && (d == d' && ((e == e' && (f == f' && true)) && true))))) := by kernel_rfl
theorem gMe : Try.prog.eqGuardType Try.prog.depth 26 = false := by kernel_rfl
theorem eqPf (e f e' f' : Int) : eqT Try.prog 10 24 (.agg #[.int .i64 e, .int .u64 f]) (.agg #[.int .i64 e', .int .u64 f']) = some (e == e' && (f == f' && true)) := by kernel_rfl
theorem gPf : Try.prog.eqGuardType Try.prog.depth 24 = false := by kernel_rfl

/-! The map's plain law -/
def mfindMe (k : Int) : List Me → Nat → Option (Nat × Me)
  | [], _ => .none
  | x :: xs, i => if k = x.user then some (i, x) else mfindMe k xs (i + 1)
theorem mfind_me {k : Int} : ∀ {xs : List Me} {i : Nat}, mfind (.int .i64) (.int .i64 k) (xs.map Me.ent) i = some ((mfindMe k xs i).map fun p => (p.1, p.2.v))
  | [], i => rfl
  | x :: xs, i => by
    have : Instr.sameNow (.int .i64) (.int .i64 k) (.int .i64 x.user) = some (k == x.user) := rfl
    simp only [List.map_cons, Me.ent, mfind, mfindMe, this]
    by_cases h : k = x.user
    · simp [h]
    · have : (k == x.user) = false := by simpa using h
      rw [this, if_neg h]
      exact mfind_me

@[simp] theorem mfind_nil {d : TypeDesc} {k : Value} {i : Nat} : mfind d k [] i = some none := rfl
theorem nilNil {x y : Operand} : binR Try.prog .neq 27 x y (.pointer none) (.pointer none) = some (.bool false) := by kernel_rfl
theorem refRight (x : Me) : PFn Try.prog 14 [x.v] (.sc (.bool x.right)) := by
  refine AFn.intro (fn := Try.f14) (by kernel_rfl) rfl (by kernel_rfl) (by simp) (AW.of mixed (by kernel_rfl) ?_)
  unfold Me.v Me.cs
  simp only [Try.f14, argsF]
  simp [aw_skip', aw_region', aw_seq', aw_cond', aw_block', aw_loop', aw_exit', aw_label', aw_ret', aops_nil', aops_cons', aop', aMove, aAssign, aPick, aAlloc, aBox, aBuild, aBuildSlice, aLoad, aLoadOwn, aStore, aNilCheck, aBin, aMakeFunc, aFieldAddr, aField, aIndexAddr, aExtract, aSliceOp, aSlice, aCallOp, aCall', aLen, aLenMap, aDelete, aMM, aUn, aConv, aIface, aAssert, aMakeMap, aLookup, aMapUpdate, aRange, aNext, aEntry, entsOf, keyB, lookV, aAppend, putK, layK, eval, evalV, AM.valOf, getF, putF, setF, del, SV.refers, cellsAt, rootSV, plains, shift, ldV, V.exact, V.exactL, V.ofValue, V.ofPart, V.ofCell, V.cells, V.one, Value.oneCell', fitB, qSeq, qBlock, getB, afin, aret, resVs, resV, resTmps, shareF, evalS, tupV, valsS, valsV, pickV, calm, calmB, lenV, useOf, feeds, looks, isT, newsV, partsV, fillV, putAt, zerosV, fitsNil, nilB, isEq, isNeq]
  simp [gd, Me.right]
  grind
theorem right (x : Me) : PFn Try.prog 15 [x.v] (.sc (.bool x.right)) := by
  refine AFn.intro (fn := Try.f15) (by kernel_rfl) rfl (by kernel_rfl) (by simp) (AW.of mixed (by kernel_rfl) ?_)
  unfold Me.v Me.cs
  simp only [Try.f15, argsF]
  simp [aw_skip', aw_region', aw_seq', aw_cond', aw_block', aw_loop', aw_exit', aw_label', aw_ret', aops_nil', aops_cons', aop', aMove, aAssign, aPick, aAlloc, aBox, aBuild, aBuildSlice, aLoad, aLoadOwn, aStore, aNilCheck, aBin, aMakeFunc, aFieldAddr, aField, aIndexAddr, aExtract, aSliceOp, aSlice, aCallOp, aCall', aLen, aLenMap, aDelete, aMM, aUn, aConv, aIface, aAssert, aMakeMap, aLookup, aMapUpdate, aRange, aNext, aEntry, entsOf, keyB, lookV, aAppend, putK, layK, eval, evalV, AM.valOf, getF, putF, setF, del, SV.refers, cellsAt, rootSV, plains, shift, ldV, V.exact, V.exactL, V.ofValue, V.ofPart, V.ofCell, V.cells, V.one, Value.oneCell', fitB, qSeq, qBlock, getB, afin, aret, resVs, resV, resTmps, shareF, evalS, tupV, valsS, valsV, pickV, calm, calmB, lenV, useOf, feeds, looks, isT, newsV, partsV, fillV, putAt, zerosV, fitsNil, nilB, isEq, isNeq, eqPf, gPf]
  simp [gd, Me.right]
  grind
/-- Every block but one, and but walks over maps, stays. -/
def Kept (m : Nat) (H H' : List Bk) : Prop := ∀ i b, i ≠ m → H[i]? = some b → (∀ n l cu, b ≠ .iter n l cu) → H'[i]? = some b
theorem Kept.refl {m : Nat} {H : List Bk} : Kept m H H := fun _ _ _ h _ => h
theorem Kept.trans {m : Nat} {H H1 H2 : List Bk} (h : Kept m H H1) (h1 : Kept m H1 H2) : Kept m H H2 := fun i b hi hb hn => h1 i b hi (h i b hi hb hn) hn
theorem Kept.append {m : Nat} {H H1 L : List Bk} (h : Kept m H H1) : Kept m H (H1 ++ L) := fun i b hi hb hn => by
  have := h i b hi hb hn
  rw [List.getElem?_append_left (List.getElem?_eq_some_iff.1 this).1]
  exact this
theorem killIt_some {m i : Nat} {H : List Bk} {b : Bk} (h : H[i]? = some b) (hn : ∀ n l cu, b ≠ .iter n l cu) : (killIt m H)[i]? = some b := by
  unfold killIt
  rw [List.getElem?_map, h]
  cases b with
  | iter n l cu => exact absurd rfl (hn n l cu)
  | _ => rfl
theorem Kept.turned {m : Nat} {H H1 : List Bk} {k : Bk} (h : Kept m H H1) : Kept m H ((killIt m H1).set m k) := fun i b hi hb hn => by
  rw [List.getElem?_set_ne (Ne.symm hi)]
  exact killIt_some (h i b hi hb hn) hn
/-- A roster at block r over the map in block m. -/
structure Ros (H : List Bk) (r m : Nat) (l : List Me) : Prop where
  r : H[r]? = some (.cells [.v (.map m)])
  m : H[m]? = some (.map (l.map Me.ent))
theorem Ros.ne {H : List Bk} {r m : Nat} {l : List Me} (h : Ros H r m l) : r ≠ m := by
  rintro rfl
  have := h.r.symm.trans h.m
  simp at this
theorem get_app {H L : List Bk} {i : Nat} {b : Bk} (h : H[i]? = some b) : (H ++ L)[i]? = some b := by
  rw [List.getElem?_append_left (List.getElem?_eq_some_iff.1 h).1]
  exact h
theorem set_self {H : List Bk} {i : Nat} {b k : Bk} (h : H[i]? = some b) : (H.set i k)[i]? = some k := List.getElem?_set_self (List.getElem?_eq_some_iff.1 h).1
theorem killIt_len {m : Nat} {H : List Bk} : (killIt m H).length = H.length := by simp [killIt]
theorem turned_self {m n : Nat} {H : List Bk} {b k : Bk} (h : H[m]? = some b) : ((killIt n H).set m k)[m]? = some k := List.getElem?_set_self (by rw [killIt_len]; exact (List.getElem?_eq_some_iff.1 h).1)
theorem app_len {H : List Bk} {b : Bk} : (H ++ [b])[H.length]? = some b := by simp
theorem rnew (H : List Bk) : AFn Try.prog 12 [] H fun y H' => ∃ r m, y = .ptr r 0 ∧ Ros H' r m [Me.chief] ∧ H.length ≤ r ∧ H.length ≤ m ∧ Kept m H H' := by
  refine AFn.intro (fn := Try.f12) (by kernel_rfl) rfl (by kernel_rfl) (by simp) (AW.of mixed (by kernel_rfl) ?_)
  simp only [Try.f12, argsF]
  simp [aw_skip', aw_region', aw_seq', aw_cond', aw_block', aw_loop', aw_exit', aw_label', aw_ret', aops_nil', aops_cons', aop', aMove, aAssign, aPick, aAlloc, aBox, aBuild, aBuildSlice, aLoad, aLoadOwn, aStore, aNilCheck, aBin, aMakeFunc, aFieldAddr, aField, aIndexAddr, aExtract, aSliceOp, aSlice, aCallOp, aCall', aLen, aLenMap, aDelete, aMM, aUn, aConv, aIface, aAssert, aMakeMap, aLookup, aMapUpdate, aRange, aNext, aEntry, entsOf, keyB, lookV, aAppend, putK, layK, eval, evalV, AM.valOf, getF, putF, setF, del, SV.refers, cellsAt, rootSV, plains, shift, ldV, V.exact, V.exactL, V.ofValue, V.ofPart, V.ofCell, V.cells, V.one, Value.oneCell', fitB, qSeq, qBlock, getB, afin, aret, resVs, resV, resTmps, shareF, evalS, tupV, valsS, valsV, pickV, calm, calmB, lenV, useOf, feeds, looks, isT, newsV, partsV, fillV, putAt, zerosV, fitsNil, nilB, isEq, isNeq]
  refine ⟨H.length, ⟨?_, get_app (turned_self app_len)⟩, by simp [killIt], Nat.le_refl _, ((Kept.refl.append).turned).append⟩
  rw [List.getElem?_append_right (by simp [killIt])]
  simp [killIt]
theorem made (H : List Bk) (r m : Nat) (hr : H[r]? = some (.cells [.v (.map m)])) : AFn Try.prog 40 [.ptr r 0] H fun y H' => y = .sc (.bool true) ∧ H' = H := by
  refine AFn.intro (fn := Try.f40) (by kernel_rfl) rfl (by kernel_rfl) (by simp) (AW.of mixed (by kernel_rfl) ?_)
  simp only [Try.f40, argsF]
  simp [aw_skip', aw_region', aw_seq', aw_cond', aw_block', aw_loop', aw_exit', aw_label', aw_ret', aops_nil', aops_cons', aop', aMove, aAssign, aPick, aAlloc, aBox, aBuild, aBuildSlice, aLoad, aLoadOwn, aStore, aNilCheck, aBin, aMakeFunc, aFieldAddr, aField, aIndexAddr, aExtract, aSliceOp, aSlice, aCallOp, aCall', aLen, aLenMap, aDelete, aMM, aUn, aConv, aIface, aAssert, aMakeMap, aLookup, aMapUpdate, aRange, aNext, aEntry, entsOf, keyB, lookV, aAppend, putK, layK, eval, evalV, AM.valOf, getF, putF, setF, del, SV.refers, cellsAt, rootSV, plains, shift, ldV, V.exact, V.exactL, V.ofValue, V.ofPart, V.ofCell, V.cells, V.one, Value.oneCell', fitB, qSeq, qBlock, getB, afin, aret, resVs, resV, resTmps, shareF, evalS, tupV, valsS, valsV, pickV, calm, calmB, lenV, useOf, feeds, looks, isT, newsV, partsV, fillV, putAt, zerosV, fitsNil, nilB, isEq, isNeq, hr]
theorem madeNil (H : List Bk) : AFn Try.prog 40 [.sc (.pointer .none)] H fun y H' => y = .sc (.bool false) ∧ H' = H := by
  refine AFn.intro (fn := Try.f40) (by kernel_rfl) rfl (by kernel_rfl) (by simp) (AW.of mixed (by kernel_rfl) ?_)
  simp only [Try.f40, argsF]
  simp [aw_skip', aw_region', aw_seq', aw_cond', aw_block', aw_loop', aw_exit', aw_label', aw_ret', aops_nil', aops_cons', aop', aMove, aAssign, aPick, aAlloc, aBox, aBuild, aBuildSlice, aLoad, aLoadOwn, aStore, aNilCheck, aBin, aMakeFunc, aFieldAddr, aField, aIndexAddr, aExtract, aSliceOp, aSlice, aCallOp, aCall', aLen, aLenMap, aDelete, aMM, aUn, aConv, aIface, aAssert, aMakeMap, aLookup, aMapUpdate, aRange, aNext, aEntry, entsOf, keyB, lookV, aAppend, putK, layK, eval, evalV, AM.valOf, getF, putF, setF, del, SV.refers, cellsAt, rootSV, plains, shift, ldV, V.exact, V.exactL, V.ofValue, V.ofPart, V.ofCell, V.cells, V.one, Value.oneCell', fitB, qSeq, qBlock, getB, afin, aret, resVs, resV, resTmps, shareF, evalS, tupV, valsS, valsV, pickV, calm, calmB, lenV, useOf, feeds, looks, isT, newsV, partsV, fillV, putAt, zerosV, fitsNil, nilB, isEq, isNeq, nilNil]
end Go.Proofs.Ythognfmmjkmjnaa
