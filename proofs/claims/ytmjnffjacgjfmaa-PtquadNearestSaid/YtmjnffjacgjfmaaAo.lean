/- What operators give. Plain lemmas, over any program. -/
import Derived.Test.YtmjnffjacgjfmaaAm1
namespace Go.Proofs.Ytmjnffjacgjfmaa
set_option linter.all false
open Go.RowKit
namespace AM
section
variable {P : Program} {t : TypeId} {x y : Operand} {k : IntKind} {a b : Int}
@[simp] theorem binR_add : binR P .add t x y (.int k a) (.int k b) = some (.int k (k.wrap (a + b))) := by cases k <;> rfl
@[simp] theorem binR_sub : binR P .sub t x y (.int k a) (.int k b) = some (.int k (k.wrap (a - b))) := by cases k <;> rfl
@[simp] theorem binR_mul : binR P .mul t x y (.int k a) (.int k b) = some (.int k (k.wrap (a * b))) := by cases k <;> rfl
@[simp] theorem binR_eql : binR P .eql t x y (.int k a) (.int k b) = some (.bool (a == b)) := by cases k <;> rfl
@[simp] theorem binR_neq : binR P .neq t x y (.int k a) (.int k b) = some (.bool (a != b)) := by cases k <;> rfl
@[simp] theorem binR_lss : binR P .lss t x y (.int k a) (.int k b) = some (.bool (decide (a < b))) := by cases k <;> rfl
@[simp] theorem binR_leq : binR P .leq t x y (.int k a) (.int k b) = some (.bool (decide (a ≤ b))) := by cases k <;> rfl
@[simp] theorem binR_gtr : binR P .gtr t x y (.int k a) (.int k b) = some (.bool (decide (a > b))) := by cases k <;> rfl
@[simp] theorem binR_geq : binR P .geq t x y (.int k a) (.int k b) = some (.bool (decide (a ≥ b))) := by cases k <;> rfl
theorem idle_slice {t : TypeId} (h : sliceB P t = true) {op : BinOp} {r : Bool} (hop : (op = .eql ∧ r = true) ∨ (op = .neq ∧ r = false)) : binR P op t x y (.slice none 0 0) (.slice none 0 0) = some (.bool r) := by
  unfold sliceB at h
  split at h
  · rename_i e hu
    have hU : idle P (underlying t) = some (.slice e) := by
      unfold underlying
      rw [idle_bind]
      show idle P (match P.underlying t with | some d => pure d | none => stuck "no such type") = some (.slice e)
      rw [hu]
      rfl
    have hr0 : ∀ d, idle P (Op.equalIn (d + 1) t (.slice none 0 0) (.slice none 0 0)) = some true := fun d => by
      simp only [Op.equalIn]
      rw [idle_bind, hU]
      rfl
    have hr : idle P (Op.equal t (.slice none 0 0) (.slice none 0 0)) = some true := hr0 9999
    unfold binR
    rw [idle_bind]
    rcases hop with ⟨rfl, rfl⟩ | ⟨rfl, rfl⟩
    · show (some ()).bind _ = _
      simp only [Option.bind_some]
      unfold binOp
      simp only
      rw [idle_bind, hr]
      rfl
    · show (some ()).bind _ = _
      simp only [Option.bind_some]
      unfold binOp
      simp only
      rw [idle_bind, hr]
      rfl
  · cases h
@[simp] theorem binR_nil_eql {t : TypeId} (h : sliceB P t = true) : binR P .eql t x y (.slice none 0 0) (.slice none 0 0) = some (.bool true) := idle_slice h (.inl ⟨rfl, rfl⟩)
@[simp] theorem binR_nil_neq {t : TypeId} (h : sliceB P t = true) : binR P .neq t x y (.slice none 0 0) (.slice none 0 0) = some (.bool false) := idle_slice h (.inr ⟨rfl, rfl⟩)
@[simp] theorem unR_not {u : Bool} : unR P .not (.bool u) = some (.bool (!u)) := rfl
@[simp] theorem unR_neg : unR P .neg (.int k a) = some (.int k (k.wrap (0 - a))) := by cases k <;> rfl
@[simp] theorem mmR_min : mmR P .min (.int k a) (.int k b) = some (.int k (if b < a then b else a)) := by cases k <;> rfl
@[simp] theorem mmR_max : mmR P .max (.int k a) (.int k b) = some (.int k (if a < b then b else a)) := by cases k <;> rfl
theorem convR_int {t' : TypeId} {k' j : IntKind} (h : P.underlying t = some (.int j)) (h' : P.underlying t' = some (.int k')) : convR P t t' (.int k a) = some (.int k' (k'.wrap a)) := by
  have hu : ∀ {t : TypeId} {d : TypeDesc}, P.underlying t = some d → idle P (underlying t) = some d := fun {t d} h => by
    unfold underlying
    rw [idle_bind]
    show idle P (match P.underlying t with | some d => pure d | none => stuck "no such type") = some d
    rw [h]
    rfl
  unfold convR convert
  rw [idle_bind, hu h]
  simp only [Option.bind_some]
  rw [idle_bind, hu h']
  rfl
@[simp] theorem ble_dec (a b : Nat) : Nat.ble a b = decide (a ≤ b) := by
  cases h : Nat.ble a b with
  | true => simpa using Nat.le_of_ble_eq_true h
  | false =>
    have := Nat.not_le_of_not_ble_eq_true (n := a) (m := b) (by rw [h]; decide)
    exact (decide_eq_false this).symm
theorem wrap_i64 {n : Int} (h : -9223372036854775808 ≤ n) (h' : n ≤ 9223372036854775807) : IntKind.i64.wrap n = n := IntWalk.i64_in _ ⟨h, h'⟩
end
/-- Two ways, by a test. -/
def gd (b want : Bool) (X Y : Prop) : Prop := (b = want → X) ∧ (b = !want → Y)
section
variable {X Y : Prop}
@[simp ↓] theorem gd_tt : gd true true X Y = X := by simp [gd]
@[simp ↓] theorem gd_ff : gd false false X Y = X := by simp [gd]
@[simp ↓] theorem gd_tf : gd true false X Y = Y := by simp [gd]
@[simp ↓] theorem gd_ft : gd false true X Y = Y := by simp [gd]
end
/-! ## The same, one step at a time, at a state that is spelled out -/
section
variable {P : Program} {N : Nat} {ops rest : List Oper} {o : Oper} {K : St → Prop} {F : Fr} {H : List Bk} {Q : Exit → St → Prop} {c c' : Code} {x : Operand} {id : Nat} {draw : Bool} {arr : Array Oper}
theorem aops_nil' : aops P N ops [] K ⟨F, H⟩ = K ⟨F, H⟩ := rfl
theorem aops_cons' : aops P N ops (o :: rest) K ⟨F, H⟩ = match o.guard with
    | none => aop P N ops o ⟨F, H⟩ (aops P N ops rest K)
    | some (j, want) => match (ops[j]?).bind (·.dst) with
      | some t => match getF t F with
        | some (.v (.sc (.bool b))) => gd b want (aop P N ops o ⟨setF t (.v (.sc (.bool want))) F, H⟩ (aops P N ops rest K)) (putK N o.dst (.v (.tup [])) ⟨setF t (.v (.sc (.bool (!want)))) F, H⟩ (aops P N ops rest K))
        | some (.v (.tup [])) => putK N o.dst (.v (.tup [])) ⟨F, H⟩ (aops P N ops rest K)
        | _ => False
      | none => False := rfl
theorem aop' : aop P N ops o ⟨F, H⟩ K = match o.op with
  | .move x => aMove N ops o.dst x ⟨F, H⟩ K
  | .assign x => aAssign N o.dst x ⟨F, H⟩ K
  | .pick x y z => aPick N o.dst x y z ⟨F, H⟩ K
  | .alloc t => aAlloc P N o.dst t ⟨F, H⟩ K
  | .box _ x => aBox N o.dst x ⟨F, H⟩ K
  | .build t ps => aBuild P N o.dst t ps.toList ⟨slF F (ps.toList.map (·.2)), H⟩ K
  | .buildSlice t n ps => aBuildSlice P N o.dst t n ps.toList ⟨F, H⟩ K
  | .load t x => aLoad P N ops o.dst t x ⟨F, H⟩ K
  | .store t x y => aStore P o.dst t x y ⟨F, H⟩ K
  | .nilCheck x => aNilCheck N o.dst x ⟨F, H⟩ K
  | .binOp op t x y _ => aBin P N o.dst op t x y ⟨F, H⟩ K
  | .makeFunc f l k => aMakeFunc N o.dst f l.toList k.toList ⟨F, H⟩ K
  | .fieldAddr t x f => aFieldAddr P N o.dst t x f ⟨F, H⟩ K
  | .field t x f => aField P N o.dst t x f ⟨F, H⟩ K
  | .indexAddr t x i => aIndexAddr P N o.dst t x i ⟨F, H⟩ K
  | .extract x i => aExtract N o.dst x i ⟨F, H⟩ K
  | .slice t x lo hi mx => aSliceOp P N o t x lo hi mx ⟨F, H⟩ K
  | .call cl => aCallOp P N o cl ⟨F, H⟩ K
  | .unOp op _ x => aUn P N o.dst op x ⟨F, H⟩ K
  | .convert t u x => aConv P N o.dst t u x ⟨F, H⟩ K
  | .makeInterface t x => aIface P N o.dst t x ⟨F, H⟩ K
  | .typeAssert x _ t ok => aAssert P N o.dst x t ok ⟨F, H⟩ K
  | .makeMap _ r => aMakeMap N o.dst r ⟨F, H⟩ K
  | .lookup t x y ok => aLookup P N o.dst t x y ok ⟨F, H⟩ K
  | .mapUpdate t x y z => aMapUpdate P o.dst t x y z ⟨F, H⟩ K
  | .insert t x y z => aMapUpdate P o.dst t x y z ⟨F, H⟩ K
  | .range t x => aRange P N o.dst t x ⟨F, H⟩ K
  | .next x isS => aNext N o.dst x isS ⟨F, H⟩ K
  | .entry x => aEntry N o.dst x ⟨F, H⟩ K
  | .makeSlice t x y => aMakeSlice P N o.dst t x y ⟨F, H⟩ K
  | .index t x i => aIndexOp P N o t x i ⟨F, H⟩ K
  | _ => aGen P N o ⟨F, H⟩ K := rfl
theorem aw_skip' : aw P N .skip Q ⟨F, H⟩ = Q .normal ⟨F, H⟩ := rfl
theorem aw_region' : aw P N (.region id arr draw) Q ⟨F, H⟩ = aops P N arr.toList arr.toList (Q .normal) ⟨F, H⟩ := rfl
theorem aw_seq' : aw P N (.seq c c') Q ⟨F, H⟩ = aw P N c (qSeq (aw P N c' Q) Q) ⟨F, H⟩ := rfl
theorem aw_cond' : aw P N (.cond x c c') Q ⟨F, H⟩ = match getB ⟨F, H⟩ x with
    | some b => gd b true (aw P N c Q ⟨F, H⟩) (aw P N c' Q ⟨F, H⟩)
    | none => False := rfl
theorem aw_block' : aw P N (.block id c) Q ⟨F, H⟩ = aw P N c (qBlock id Q) ⟨F, H⟩ := rfl
theorem aw_loop' : aw P N (.loop c) Q ⟨F, H⟩ = AW P N (.loop c) Q ⟨F, H⟩ := rfl
theorem aw_exit' : aw P N (.exit id) Q ⟨F, H⟩ = Q (.exit id) ⟨F, H⟩ := rfl
theorem aw_label' : aw P N (.label id) Q ⟨F, H⟩ = Q .normal ⟨F, H⟩ := rfl
theorem aw_ret' : aw P N .ret Q ⟨F, H⟩ = Q .ret ⟨F, H⟩ := rfl
end
theorem PFn.lift {P : Program} {f : FuncId} {xs : List V} {r : V} (h : PFn P f xs r) (hx : V.closedL xs = true) (hr : r.closed = true) (H : List Bk) : AFn P f xs H fun y H' => y = r ∧ H' = H := by
  refine ⟨h.1, fun c w vs hi hs hv => ?_⟩
  let c0 : Cx := ⟨c.I, [], fun _ => .out⟩
  have hi0 : Inv c0 [] w := ⟨hi.imm, rfl, fun b hb => absurd rfl hb, fun b b' r hb => (by cases hb), fun id b k hb => (by simp [c0] at hb)⟩
  refine (h.2 c0 w vs hi0 (fun b t e => by cases e) (RelL.closed hv hx)).mono fun e w' he => ?_
  obtain ⟨v, y, H1, c1, rfl, k1, k2, k3, k4, rfl⟩ := he
  have ko : ∀ b, b < w.heap.size → w'.heap[b]? = w.heap[b]? ∧ ∀ o, c1.I b o = c.I b o := fun b hb => by
    obtain ⟨q1, _, q3⟩ := k4.out b hb rfl
    exact ⟨q1, q3⟩
  refine ⟨v, y, H, ⟨c1.I, c.φ, c.R⟩, rfl, Rel.closed k1 hr, ⟨k2.imm, hi.len, fun b hb => Nat.lt_of_lt_of_le (hi.lt b hb) k4.size, hi.uniq, fun id b k hb hk => ?_⟩, hs, ⟨k4.os, k4.tape, k4.output, k4.size, fun b hb hr => ⟨(ko b hb).1, hr, (ko b hb).2⟩, k4.imm, fun _ _ h => h⟩, rfl, rfl⟩
  obtain ⟨h1, h2, h3⟩ := hi.blk id b k hb hk
  have hlt := hi.lt b (by rw [h1]; simp)
  refine ⟨h1, fun o => ((ko b hlt).2 o).trans (h2 o), ?_⟩
  by_cases hck : ∃ cs, k = .cells cs
  rotate_left
  · exact BRel.stay (fun cs e => hck ⟨cs, e⟩) h3 (k4.imm) (fun _ _ h => h) (fun b' o ho _ => (ko b' (obj_lt ho)).1.trans ho)
  obtain ⟨cs, rfl⟩ := hck
  obtain ⟨arr, e, g1, g2, g6, g3⟩ := h3
  refine ⟨arr, e, (ko b hlt).1.trans g1, g2, g6, fun j x u hx hu => ⟨(g3 j x u hx hu).1, ?_⟩⟩
  exact SRel.mono (c := c) (c' := ⟨c1.I, c.φ, c.R⟩) (w := w) (w' := w') k4.imm (fun _ _ h => h) (fun b' q _ hq => by
    have := hi.lt b' (by rw [hq]; simp)
    exact ⟨hq, (ko b' this).1, (ko b' this).2⟩) (g3 j x u hx hu).2

/-- What stands at a call. -/
def callK (P : Program) (N : Nat) (dst : Option Tmp) (f : FuncId) (xs : List V) (F : Fr) (H : List Bk) (K : St → Prop) : Prop := (∃ Q, AFn P f xs H Q ∧ ∀ y H', Q y H' → putK N dst (.v y) ⟨calm F, H'⟩ K) ∨ pureK P N dst f xs F H K
theorem callK.of {P : Program} {N : Nat} {dst : Option Tmp} {f : FuncId} {xs : List V} {F : Fr} {H : List Bk} {K : St → Prop} {Q : V → List Bk → Prop} (h : AFn P f xs H Q) (hk : ∀ y H', Q y H' → putK N dst (.v y) ⟨calm F, H'⟩ K) : callK P N dst f xs F H K := .inl ⟨Q, h, hk⟩
theorem callK.pure {P : Program} {N : Nat} {dst : Option Tmp} {f : FuncId} {xs : List V} {F : Fr} {H : List Bk} {K : St → Prop} {r : V} (h : PFn P f xs r) (hx : V.closedL xs = true) (hr : r.closed = true) (hk : putK N dst (.v r) ⟨F, H⟩ K) : callK P N dst f xs F H K :=
  .inr ⟨r, h, hx, hr, hk⟩
theorem aCall' {P : Program} {N : Nat} {dst : Option Tmp} {f : Operand} {args : List Operand} {F : Fr} {H : List Bk} {K : St → Prop} : aCall P N dst f args ⟨F, H⟩ K = match evalV ⟨F, H⟩ f, valsS ⟨shareF F args, H⟩ args with
  | some (.fn (.func k) first cap), some vs => callK P N dst k (first ++ vs ++ cap) (shareF F args) H K
  | _, _ => False := rfl
theorem aInvoke' {P : Program} {N : Nat} {dst : Option Tmp} {x : Operand} {name : String} {args : List Operand} {F : Fr} {H : List Bk} {K : St → Prop} : aInvoke P N dst x name args ⟨F, H⟩ K = match evalV ⟨F, H⟩ x, valsS ⟨shareF F args, H⟩ args with
  | some (.iface t (.ptr id off)), some vs => MethodIs P t name (methodOf P t name) ∧ callK P N dst (methodOf P t name) (.ptr id off :: vs) (shareF F args) H K
  | _, _ => False := rfl
theorem gd.intro {b want : Bool} {X Y : Prop} (h : b = want → X) (k : b = !want → Y) : gd b want X Y := ⟨h, k⟩
/-! ## Rows of elements -/
section
variable {α : Type} {enc : α → List V} {sz : Nat}
theorem flat_get (hsz : ∀ x, (enc x).length = sz) : ∀ {xs : List α} {k : Nat} (h : k < xs.length), ((xs.flatMap enc).drop (k * sz)).take sz = enc xs[k]
  | x :: xs, 0, h => by
    simp only [Nat.zero_mul, List.drop_zero, List.flatMap_cons, List.getElem_cons_zero]
    rw [List.take_append, hsz, Nat.sub_self, List.take_zero, List.append_nil, List.take_of_length_le (by rw [hsz]; exact Nat.le_refl _)]
  | x :: xs, k + 1, h => by
    simp only [List.flatMap_cons, List.getElem_cons_succ]
    rw [Nat.succ_mul, List.drop_append, hsz, Nat.add_sub_cancel, List.drop_of_length_le (by rw [hsz]; omega), List.nil_append]
    exact flat_get hsz _
theorem row_flat (hsz : ∀ x, (enc x).length = sz) {xs : List α} {k : Nat} (h : k < xs.length) : rowAt sz (xs.flatMap enc) (k : Int) = enc xs[k] := by
  unfold rowAt
  rw [Int.toNat_natCast]
  exact flat_get hsz h
theorem flat_len' (hsz : ∀ x, (enc x).length = sz) : ∀ (xs : List α), (xs.flatMap enc).length = xs.length * sz
  | [] => by simp
  | x :: xs => by rw [List.flatMap_cons, List.length_append, hsz, flat_len' hsz xs, List.length_cons, Nat.succ_mul, Nat.add_comm]
theorem closedL_append : ∀ {xs ys : List V}, V.closedL (xs ++ ys) = (V.closedL xs && V.closedL ys)
  | [], ys => by simp [V.closedL]
  | x :: xs, ys => by simp [V.closedL, closedL_append (xs := xs), Bool.and_assoc]
theorem closed_flat (h : ∀ x, V.closedL (enc x) = true) : ∀ xs : List α, V.closedL (xs.flatMap enc) = true
  | [] => rfl
  | x :: xs => by rw [List.flatMap_cons, closedL_append, h, closed_flat h xs]; rfl
end
end AM
end Go.Proofs.Ytmjnffjacgjfmaa
