/- Comparisons, calls, one operation after the other, over an abstract state. Plain lemmas, over any program. -/
import Derived.Test.YtoooldijnilpaaaAk
namespace Go.Proofs.Ytoooldijnilpaaa
set_option linter.all false
open Go.RowKit
namespace AM
section
variable {P : Program} {c : Cx} {N : Nat} {s : St} {a : Act} {w : World} {K : St → Prop}

/-! ## Comparisons -/
def eqFs (P : Program) (f : TypeId → Value → Value → Option Bool) (xs ys : Array Value) : List Field → Option Bool
  | [] => some true
  | fd :: fs => bif fd.name == "_" then none else match aggT P fd.type, sizeT P fd.type with
    | some true, some n => match f fd.type (.agg (xs.extract fd.offset (fd.offset + n))) (.agg (ys.extract fd.offset (fd.offset + n))), eqFs P f xs ys fs with
      | some a, some b => some (a && b)
      | _, _ => none
    | some false, some _ => match xs[fd.offset]?, ys[fd.offset]? with
      | some x, some y => match f fd.type x y, eqFs P f xs ys fs with
        | some a, some b => some (a && b)
        | _, _ => none
      | _, _ => none
    | _, _ => none
/-- Field by field, down to the cells. -/
def eqT (P : Program) : Nat → TypeId → Value → Value → Option Bool
  | 0, _, _, _ => none
  | d + 1, t, x, y => match P.underlying t, x, y with
    | some .bool, .bool a, .bool b => some (a == b)
    | some (.int _), .int k a, .int k' b => if k = k' then some (a == b) else none
    | some .string, .string a, .string b => some (a == b)
    | some (.struct fs), .agg xs, .agg ys => bif P.stoodInHeld t then none else eqFs P (eqT P d) xs ys fs.toList
    | _, _, _ => none

theorem eqFs_run {f : TypeId → Value → Value → Option Bool} {e : Nat} {w : World} (hf : ∀ t x y r, f t x y = some r → (Op.equalIn e t x y).run P w = .ok r w) {xs ys : Array Value} :
    ∀ {fs : List Field} {r : Bool}, eqFs P f xs ys fs = some r → (Op.eqFields e xs ys fs).run P w = .ok r w
  | [], r, h => by cases h; simp [Op.eqFields]
  | fd :: fs, r, h => by
    unfold eqFs at h
    cases hn : fd.name == "_" with
    | true => rw [hn] at h; cases h
    | false =>
      rw [hn] at h
      simp only [cond_false] at h
      have hn : fd.name ≠ "_" := by simpa using hn
      have key : ∀ x y : Value, (part fd.type xs fd.offset).run P w = .ok x w → (part fd.type ys fd.offset).run P w = .ok y w → (match f fd.type x y, eqFs P f xs ys fs with
          | some a, some b => some (a && b)
          | _, _ => none) = some r → (Op.eqFields e xs ys (fd :: fs)).run P w = .ok r w := by
        intro x y hx hy h
        cases h1 : f fd.type x y with
        | none => rw [h1] at h; cases h
        | some a =>
          cases h2 : eqFs P f xs ys fs with
          | none => rw [h1, h2] at h; cases h
          | some b =>
            rw [h1, h2] at h
            cases h
            unfold Op.eqFields
            rw [if_pos hn]
            simp only [Sem.run_bind, hx, hy, Result.andThen_ok, hf _ _ _ _ h1]
            cases a
            · simp
            · simp only [Bool.not_true, Bool.false_eq_true, if_false, Bool.true_and]
              exact eqFs_run hf h2
      split at h
      · rename_i n ha hs
        exact key _ _ (by simp only [part, Sem.run_bind, run_isAgg ha, Result.andThen_ok, if_true, run_sizeOf hs, Sem.run_pure]) (by simp only [part, Sem.run_bind, run_isAgg ha, Result.andThen_ok, if_true, run_sizeOf hs, Sem.run_pure]) h
      · rename_i n ha hs
        cases hx : xs[fd.offset]? with
        | none => rw [hx] at h; cases h
        | some x =>
          cases hy : ys[fd.offset]? with
          | none => rw [hx, hy] at h; cases h
          | some y =>
            rw [hx, hy] at h
            exact key x y (by simp only [part, Sem.run_bind, run_isAgg ha, Result.andThen_ok, Bool.false_eq_true, if_false, hx, Sem.run_pure]) (by simp only [part, Sem.run_bind, run_isAgg ha, Result.andThen_ok, Bool.false_eq_true, if_false, hy, Sem.run_pure]) h
      · cases h

theorem eqT_run : ∀ (d : Nat) (t : TypeId) (x y : Value) (r : Bool), eqT P d t x y = some r → ∀ (e : Nat) (w : World), d ≤ e → (Op.equalIn e t x y).run P w = .ok r w := by
  intro d
  induction d with
  | zero => intro t x y r h; cases h
  | succ d ih =>
    intro t x y r h e w he
    obtain ⟨e, rfl⟩ : ∃ k, e = k + 1 := ⟨e - 1, by omega⟩
    unfold eqT at h
    split at h
    · rename_i a b hu
      cases h
      simp only [Op.equalIn, Sem.run_bind, run_underlying' hu, Result.andThen_ok, Sem.run_pure]
    · rename_i k a k' b hu
      split at h
      · rename_i hk
        cases h
        simp only [Op.equalIn, Sem.run_bind, run_underlying' hu, Result.andThen_ok, hk, if_true, Sem.run_pure]
      · cases h
    · rename_i a b hu
      cases h
      simp only [Op.equalIn, Sem.run_bind, run_underlying' hu, Result.andThen_ok, Sem.run_pure]
    · rename_i fs xs ys hu
      cases hp : P.stoodInHeld t with
      | true => rw [hp] at h; cases h
      | false =>
        rw [hp] at h
        simp only [cond_false] at h
        have hfs : P.fieldsOf t = fs := by simp [Program.fieldsOf, hu]
        rw [run_equalIn_agg w e t xs ys (by rw [hfs]; exact hu) hp, hfs]
        exact eqFs_run (fun t x y r h => ih t x y r h e w (by omega)) h
    · cases h

/-- What an operator of two operands gives. -/
def binR (P : Program) (op : BinOp) (t : TypeId) (x y : Operand) (u v : Value) : Option Value := idle P (eqGuard op t x y u v >>= fun _ => binOp op t u v)
def isEq : BinOp → Bool
  | .eql => true
  | _ => false
def isNeq : BinOp → Bool
  | .neq => true
  | _ => false
/-- Whether something that is there is held against nothing. -/
def thereV : V → Bool
  | .ptr .. => true
  | .rd _ => true
  | .map _ => true
  | .fn .. => true
  | _ => false
def nilB (P : Program) (t : TypeId) : Value → Bool
  | .pointer none => match P.underlying t with
    | some (.pointer _) => true
    | _ => false
  | .map none => match P.underlying t with
    | some (.map _ _) => true
    | _ => false
  | .nilFunc => match P.underlying t with
    | some (.func _ _ _) => true
    | _ => false
  | _ => false
def fitsNil : V → Value → Bool
  | .ptr .., .pointer none => true
  | .rd _, .pointer none => true
  | .map _, .map none => true
  | .fn .., .nilFunc => true
  | _, _ => false
theorem fits_shape {I : Nat → Nat → Option Value} {φ : List Nat} {p : V} {u v : Value} (h : Rel I φ p u) (hf : fitsNil p v = true) :
    (∃ a, u = .pointer (some a) ∧ v = .pointer none) ∨ (∃ r, u = .map (some r) ∧ v = .map none) ∨ (∃ f l k, u = .func f l k ∧ v = .nilFunc) := by
  cases h with
  | rd h1 h2 h3 =>
    cases v with
    | pointer z =>
      cases z with
      | none => exact .inl ⟨_, rfl, rfl⟩
      | some z => simp [fitsNil] at hf
    | _ => simp [fitsNil] at hf
  | ptr h =>
    cases v with
    | pointer z =>
      cases z with
      | none => exact .inl ⟨_, rfl, rfl⟩
      | some z => simp [fitsNil] at hf
    | _ => simp [fitsNil] at hf
  | map h =>
    cases v with
    | map z =>
      cases z with
      | none => exact .inr (.inl ⟨_, rfl, rfl⟩)
      | some z => simp [fitsNil] at hf
    | _ => simp [fitsNil] at hf
  | fn h1 h2 =>
    cases v with
    | nilFunc => exact .inr (.inr ⟨_, _, _, rfl, rfl⟩)
    | _ => simp [fitsNil] at hf
  | _ => simp [fitsNil] at hf
theorem equalIn_nil {t : TypeId} {u v : Value} (e : Nat) (w : World) (hn : nilB P t v = true) (h : (∃ a, u = .pointer (some a) ∧ v = .pointer none) ∨ (∃ r, u = .map (some r) ∧ v = .map none) ∨ (∃ f l k, u = .func f l k ∧ v = .nilFunc)) :
    (Op.equalIn (e + 1) t u v).run P w = .ok false w := by
  rcases h with ⟨a, rfl, rfl⟩ | ⟨r, rfl, rfl⟩ | ⟨f, l, k, rfl, rfl⟩
  · simp only [nilB] at hn
    split at hn
    · rename_i hu
      simp only [Op.equalIn, Sem.run_bind, run_underlying' hu, Result.andThen_ok, Sem.run_pure]
    · cases hn
  · simp only [nilB] at hn
    split at hn
    · rename_i hu
      simp only [Op.equalIn, Sem.run_bind, run_underlying' hu, Result.andThen_ok, Sem.run_pure, Option.isNone]
    · cases hn
  · simp only [nilB] at hn
    split at hn
    · rename_i hu
      simp only [Op.equalIn, Sem.run_bind, run_underlying' hu, Result.andThen_ok, Sem.run_pure]
    · cases hn
theorem bin_nil {t : TypeId} {x y : Operand} {u v : Value} (w : World) (hn : nilB P t v = true) (h : (∃ a, u = .pointer (some a) ∧ v = .pointer none) ∨ (∃ r, u = .map (some r) ∧ v = .map none) ∨ (∃ f l k, u = .func f l k ∧ v = .nilFunc)) :
    (∀ op, (eqGuard op t x y u v).run P w = .ok () w) ∧ (binOp .eql t u v).run P w = .ok (.bool false) w ∧ (binOp .neq t u v).run P w = .ok (.bool true) w := by
  have hr := equalIn_nil (P := P) 9999 w hn h
  have hr' : (Op.equal t u v).run P w = .ok false w := hr
  rcases h with ⟨a, rfl, rfl⟩ | ⟨r, rfl, rfl⟩ | ⟨f, l, k, rfl, rfl⟩
  all_goals
    refine ⟨fun op => by cases op <;> rfl, ?_, ?_⟩
    · unfold binOp
      simp only [Sem.run_bind, hr', Result.andThen_ok, Sem.run_pure]
    · unfold binOp
      simp only [Sem.run_bind, hr', Result.andThen_ok, Sem.run_pure, Bool.not_false]
def aBin (P : Program) (N : Nat) (dst : Option Tmp) (op : BinOp) (t : TypeId) (x y : Operand) (s : St) (K : St → Prop) : Prop := match evalV s x, evalV s y with
  | some p, some q => match p.exact, q.exact with
    | some (.agg us), some (.agg vs) => P.eqGuardType P.depth t = false ∧ (match eqT P 10 t (.agg us) (.agg vs) with
      | some r => bif isEq op then putK N dst (.v (.sc (.bool r))) s K else bif isNeq op then putK N dst (.v (.sc (.bool (!r)))) s K else False
      | none => False)
    | some u, some v => match binR P op t x y u v with
      | some r => putK N dst (.v (.ofValue r)) s K
      | none => False
    | none, some v => (fitsNil p v && nilB P t v) = true ∧ (bif isEq op then putK N dst (.v (.sc (.bool false))) s K else bif isNeq op then putK N dst (.v (.sc (.bool true))) s K else False)
    | _, _ => False
  | _, _ => False
theorem aBin_reads {o : Oper} {op : BinOp} {t t' : TypeId} {x y : Operand} (ho : o.op = .binOp op t x y t') (h : Sim c N s a w) (hk : aBin P N o.dst op t x y s K) : Reads P o a w (Post c w N K) := by
  unfold aBin at hk
  split at hk
  · rename_i p q hx hy
    have hp := evalV_rel h hx
    have hq := evalV_rel h hy
    split at hk
    · rename_i us vs hu hv
      have e1 := Rel.exact hp hu
      have e2 := Rel.exact hq hv
      obtain ⟨hg, hk⟩ := hk
      cases he : eqT P 10 t (.agg us) (.agg vs) with
      | none => rw [he] at hk; exact hk.elim
      | some r =>
        rw [he] at hk
        simp only at hk
        have hrun := fun w' => eqT_run 10 t _ _ r he 10000 w' (by omega)
        cases op <;> simp only [isEq, isNeq, cond_true, cond_false] at hk <;> first
          | exact hk.elim
          | (refine ⟨_, fun w' _ => ?_, putK_post h hk fun _ _ => Rel.sc _⟩
             unfold execOp
             simp only [ho, e1, e2, Sem.run_bind, run_eqGuard_agg w' _ t x y us vs hg, Result.andThen_ok, run_eql_struct, run_neq_struct, hrun, Sem.run_pure])
    · rename_i u v _ hu hv
      have e1 := Rel.exact hp hu
      have e2 := Rel.exact hq hv
      cases hb : binR P op t x y u v with
      | some r =>
        rw [hb] at hk
        refine ⟨r, fun w' _ => ?_, putK_post h hk fun _ _ => ofValue_rel r⟩
        unfold execOp
        have := idle_run hb w'
        simp only [ho, e1, e2]
        rw [Sem.run_bind, this, Result.andThen_ok, Sem.run_pure]
      | none =>
        rw [hb] at hk
        exact hk.elim
    · rename_i v hu hv
      obtain ⟨hf, hk⟩ := hk
      simp only [Bool.and_eq_true] at hf
      obtain ⟨f1, f2⟩ := hf
      have e2 := Rel.exact hq hv
      generalize hxv : a.eval x = xv at hp
      have hs := fits_shape hp f1
      cases op <;> simp only [isEq, isNeq, cond_true, cond_false] at hk <;> first
        | exact hk.elim
        | (refine ⟨_, fun w' _ => ?_, putK_post h hk fun _ _ => Rel.sc _⟩
           obtain ⟨b1, b2, b3⟩ := bin_nil (P := P) (x := x) (y := y) w' f2 hs
           unfold execOp
           simp only [ho, hxv, e2, Sem.run_bind, b1, Result.andThen_ok, b2, b3, Sem.run_pure])
    · exact hk.elim
  · exact hk.elim

/-! ## One operand; conversions; least and greatest -/
def unR (P : Program) (op : UnOp) (v : Value) : Option Value := idle P (Op.unary op v)
def aUn (P : Program) (N : Nat) (dst : Option Tmp) (op : UnOp) (x : Operand) (s : St) (K : St → Prop) : Prop := match valOf s x with
  | some v => match unR P op v with
    | some r => putK N dst (.v (.ofValue r)) s K
    | none => False
  | none => False
theorem aUn_reads {o : Oper} {op : UnOp} {t : TypeId} {x : Operand} (ho : o.op = .unOp op t x) (h : Sim c N s a w) (hk : aUn P N o.dst op x s K) : Reads P o a w (Post c w N K) := by
  unfold aUn at hk
  cases hx : valOf s x with
  | none => rw [hx] at hk; exact hk.elim
  | some v =>
    rw [hx] at hk
    simp only at hk
    cases hr : unR P op v with
    | none => rw [hr] at hk; exact hk.elim
    | some r =>
      rw [hr] at hk
      refine ⟨r, fun w' _ => ?_, putK_post h hk fun _ _ => ofValue_rel r⟩
      unfold execOp
      have := idle_run hr w'
      simp only [ho, valOf_eq h hx, Sem.run_bind, this, Result.andThen_ok, Sem.run_pure]
def convR (P : Program) (src dst : TypeId) (v : Value) : Option Value := idle P (convert src dst v)
def aConv (P : Program) (N : Nat) (dst : Option Tmp) (t u : TypeId) (x : Operand) (s : St) (K : St → Prop) : Prop := match valOf s x with
  | some v => match convR P t u v with
    | some r => putK N dst (.v (.ofValue r)) s K
    | none => False
  | none => False
theorem aConv_reads {o : Oper} {t u : TypeId} {x : Operand} (ho : o.op = .convert t u x) (h : Sim c N s a w) (hk : aConv P N o.dst t u x s K) : Reads P o a w (Post c w N K) := by
  unfold aConv at hk
  cases hx : valOf s x with
  | none => rw [hx] at hk; exact hk.elim
  | some v =>
    rw [hx] at hk
    simp only at hk
    cases hr : convR P t u v with
    | none => rw [hr] at hk; exact hk.elim
    | some r =>
      rw [hr] at hk
      refine ⟨r, fun w' _ => ?_, putK_post h hk fun _ _ => ofValue_rel r⟩
      unfold execOp
      have := idle_run hr w'
      simp only [ho, valOf_eq h hx, Sem.run_bind, this, Result.andThen_ok, Sem.run_pure]
def mmR (P : Program) (b : Builtin) (u v : Value) : Option Value := match b with
  | .min => idle P (Builtin.min_ #[] 0 #[u, v])
  | .max => idle P (Builtin.max_ #[] 0 #[u, v])
  | _ => none
def aMM (P : Program) (N : Nat) (dst : Option Tmp) (b : Builtin) (x y : Operand) (s : St) (K : St → Prop) : Prop := match valOf s x, valOf s y with
  | some u, some v => match mmR P b u v with
    | some r => putK N dst (.v (.ofValue r)) s K
    | none => False
  | _, _ => False
theorem aMM_reads {o : Oper} {b : Builtin} {ts : Array TypeId} {x y : Operand} (ho : o.op = .call { callee := .builtin b, args := #[x, y], argTypes := ts }) (h : Sim c N s a w) (hk : aMM P N o.dst b x y s K) : Reads P o a w (Post c w N K) := by
  unfold aMM at hk
  split at hk
  · rename_i u v hx hy
    cases hr : mmR P b u v with
    | none => rw [hr] at hk; exact hk.elim
    | some r =>
      rw [hr] at hk
      refine ⟨r, fun w' _ => ?_, putK_post h hk fun _ _ => ofValue_rel r⟩
      unfold execOp
      unfold mmR at hr
      split at hr
      · have := idle_run hr w'
        have e : Builtin.min_ ts o.type #[u, v] = Builtin.min_ #[] 0 #[u, v] := rfl
        simp only [ho, resolve, Sem.run_bind, Sem.run_pure, Result.andThen_ok, invoke, builtin, List.map_toArray, List.map_cons, List.map_nil, valOf_eq h hx, valOf_eq h hy, e, this]
      · have := idle_run hr w'
        have e : Builtin.max_ ts o.type #[u, v] = Builtin.max_ #[] 0 #[u, v] := rfl
        simp only [ho, resolve, Sem.run_bind, Sem.run_pure, Result.andThen_ok, invoke, builtin, List.map_toArray, List.map_cons, List.map_nil, valOf_eq h hx, valOf_eq h hy, e, this]
      · cases hr
  · exact hk.elim

/-! ## Interface values -/
def aIface (P : Program) (N : Nat) (dst : Option Tmp) (t : TypeId) (x : Operand) (s : St) (K : St → Prop) : Prop := match evalV s x, P.underlying t with
  | some v, some d => (match d with
    | .interface _ => False
    | _ => putK N dst (.v (.iface t v)) s K)
  | _, _ => False
theorem aIface_reads {o : Oper} {t : TypeId} {x : Operand} (ho : o.op = .makeInterface t x) (h : Sim c N s a w) (hk : aIface P N o.dst t x s K) : Reads P o a w (Post c w N K) := by
  unfold aIface at hk
  split at hk
  · rename_i v d hx hu
    refine ⟨.iface t (a.eval x), fun w' _ => ?_, ?_⟩
    · unfold execOp
      simp only [ho, Instr.makeInterface, Sem.run_bind, run_underlying' hu, Result.andThen_ok]
      split at hk
      · exact hk.elim
      · rename_i hd
        cases d <;> first
          | exact absurd rfl (hd _)
          | simp only [Sem.run_pure, Result.andThen_ok]
    · split at hk
      · exact hk.elim
      · exact putK_post h hk fun _ _ => Rel.iface (evalV_rel h hx)
  · exact hk.elim
def aAssert (P : Program) (N : Nat) (dst : Option Tmp) (x : Operand) (t : TypeId) (ok : Bool) (s : St) (K : St → Prop) : Prop := match evalV s x, P.underlying t with
  | some (.iface t' v), some d => (t' == t) = true ∧ (match d with
    | .interface _ => False
    | _ => putK N dst (.v (bif ok then .tup [v, .sc (.bool true)] else v)) s K)
  | _, _ => False
theorem aAssert_reads {o : Oper} {t t' : TypeId} {ok : Bool} {x : Operand} (ho : o.op = .typeAssert x t' t ok) (h : Sim c N s a w) (hk : aAssert P N o.dst x t ok s K) : Reads P o a w (Post c w N K) := by
  unfold aAssert at hk
  split at hk
  · rename_i t2 v d hx hu
    obtain ⟨h1, hk⟩ := hk
    have h1 : t2 = t := by simpa using h1
    subst h1
    have hr := evalV_rel h hx
    generalize hv : a.eval x = xv at hr
    cases hr with
    | iface hr =>
      rename_i u
      refine ⟨if ok then .tuple #[u, .bool true] else u, fun w' _ => ?_, ?_⟩
      · unfold execOp
        simp only [ho, hv, Instr.typeAssert, Sem.run_bind, run_underlying' hu, Result.andThen_ok]
        split at hk
        · exact hk.elim
        · rename_i hd
          cases d <;> first
            | exact absurd rfl (hd _)
            | (simp only [if_true, Sem.run_pure, Result.andThen_ok])
      · split at hk
        · exact hk.elim
        · refine putK_post h hk fun _ _ => ?_
          cases ok
          · exact hr
          · exact Rel.tup (vs := #[u, .bool true]) (.cons hr (.cons (.sc _) .nil))
  · exact hk.elim
end
end AM
end Go.Proofs.Ytoooldijnilpaaa
