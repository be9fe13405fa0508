/- Operations over an abstract state, further: parts of values, lengths, pieces of slices. Plain lemmas, over any program. -/
import Derived.Test.YtoooldijnilpaaaAg
namespace Go.Proofs.Ytoooldijnilpaaa
set_option linter.all false
open Go.RowKit
namespace AM
section
variable {P : Program} {c : Cx} {N : Nat} {s : St} {a : Act} {w : World} {K : St → Prop}

/-! ## nilCheck -/
def aNilCheck (N : Nat) (dst : Option Tmp) (x : Operand) (s : St) (K : St → Prop) : Prop := match eval s x with
  | some (.v (.ptr id off)) => putK N dst (.v (.ptr id off)) s K
  | some (.v (.rd cs)) => putK N dst (.v (.rd cs)) s K
  | some (.pth r off) => putK N dst (.pth r off) s K
  | some (.v (.fn (.func f) first cap)) => putK N dst (.v (.fn (.func f) first cap)) s K
  | some (.v (.iface t v)) => putK N dst (.v (.iface t v)) s K
  | _ => False
theorem aNilCheck_reads {o : Oper} {x : Operand} (ho : o.op = .nilCheck x) (h : Sim c N s a w) (hk : aNilCheck N o.dst x s K) : Reads P o a w (Post c w N K) := by
  unfold aNilCheck at hk
  split at hk
  · rename_i id off he
    have hr := eval_any h he (fun _ _ _ _ _ e => by cases e) (.slot 0)
    generalize hv : a.eval x = v at hr
    cases hr with
    | ptr hb =>
      refine ⟨_, fun w' _ => ?_, putK_post h hk fun _ _ => Rel.ptr hb⟩
      unfold execOp
      simp only [ho, hv, Sem.run_pure]
  · rename_i cs he
    have hr := eval_any h he (fun _ _ _ _ _ e => by cases e) (.slot 0)
    generalize hv : a.eval x = v at hr
    cases hr with
    | rd h1 h2 h3 =>
      refine ⟨_, fun w' _ => ?_, putK_post h hk fun _ _ => Rel.rd h1 h2 h3⟩
      unfold execOp
      simp only [ho, hv, Sem.run_pure]
  · rename_i r off he
    have hr := eval_any h he (fun _ _ _ _ _ e => by cases e) (.slot 0)
    obtain ⟨b, hv, hb⟩ := hr
    refine ⟨_, fun w' _ => ?_, putK_post h hk (v := .pointer (some ⟨b, off, none⟩)) fun _ _ => ⟨b, rfl, hb⟩⟩
    unfold execOp
    simp only [ho, hv, Sem.run_pure]
  · rename_i f first cap he
    have hr := eval_any h he (fun _ _ _ _ _ e => by cases e) (.slot 0)
    generalize hv : a.eval x = v at hr
    cases hr with
    | fn h1 h2 =>
      refine ⟨_, fun w' _ => ?_, putK_post h hk fun _ _ => Rel.fn h1 h2⟩
      unfold execOp
      simp only [ho, hv, Sem.run_pure]
  · rename_i t y he
    have hr := eval_any h he (fun _ _ _ _ _ e => by cases e) (.slot 0)
    generalize hv : a.eval x = v at hr
    cases hr with
    | iface h1 =>
      refine ⟨_, fun w' _ => ?_, putK_post h hk fun _ _ => Rel.iface h1⟩
      unfold execOp
      simp only [ho, hv, Sem.run_pure]
  · exact hk.elim

/-! ## pick -/
def pickV (t : Bool) (x y : V) : V := match x, y with
  | .sc (.bool a), .sc (.bool b) => .sc (.bool (bif t then a else b))
  | .sc (.int k a), .sc (.int k' b) => bif k == k' then .sc (.int k (bif t then a else b)) else (bif t then x else y)
  | _, _ => bif t then x else y
theorem pickV_rel {I : Nat → Nat → Option Value} {φ : List Nat} {t : Bool} {x y : V} {u v : Value} (hx : Rel I φ x u) (hy : Rel I φ y v) : Rel I φ (pickV t x y) (if t then u else v) := by
  unfold pickV
  split
  · cases hx; cases hy; cases t <;> exact .sc _
  · rename_i k a k' b
    cases hx; cases hy
    cases hk : k == k' with
    | true =>
      have : k = k' := by simpa using hk
      subst this
      cases t <;> exact .sc _
    | false => cases t <;> exact .sc _
  · cases t
    · exact hy
    · exact hx
def aPick (N : Nat) (dst : Option Tmp) (x y z : Operand) (s : St) (K : St → Prop) : Prop := match evalV s x, evalV s y, evalV s z with
  | some (.sc (.bool t)), some u, some v => putK N dst (.v (pickV t u v)) s K
  | _, _, _ => False
theorem aPick_reads {o : Oper} {x y z : Operand} (ho : o.op = .pick x y z) (h : Sim c N s a w) (hk : aPick N o.dst x y z s K) : Reads P o a w (Post c w N K) := by
  unfold aPick at hk
  split at hk
  · rename_i t u v hx hy hz
    have h1 : a.eval x = .bool t := Rel.exact (evalV_rel h hx) rfl
    refine ⟨if t then a.eval y else a.eval z, fun w' _ => ?_, putK_post h hk fun _ _ => pickV_rel (evalV_rel h hy) (evalV_rel h hz)⟩
    unfold execOp
    simp only [ho, h1, asBool, Sem.run_bind, Sem.run_pure, Result.andThen_ok]
  · exact hk.elim

/-! ## parts -/
def partV (P : Program) (t : TypeId) (cs : List V) (off : Nat) : Option V := match aggT P t, sizeT P t with
  | some true, some n => bif Nat.ble (off + n) cs.length then some (.agg ((cs.drop off).take n)) else none
  | some false, some _ => cs[off]?
  | _, _ => none
theorem run_part {t : TypeId} {cs : List V} {off : Nat} {y : V} {vs : Array Value} (hr : RelL c.I c.φ cs vs.toList) (hy : partV P t cs off = some y) : ∃ v, Rel c.I c.φ y v ∧ ∀ w, (part t vs off).run P w = .ok v w := by
  unfold partV at hy
  split at hy
  · rename_i n ha hn
    cases hle : Nat.ble (off + n) cs.length with
    | false => rw [hle] at hy; cases hy
    | true =>
      rw [hle] at hy
      cases hy
      have hle := Nat.le_of_ble_eq_true hle
      refine ⟨.agg (vs.extract off (off + n)), .agg ?_, fun w => ?_⟩
      · have := (hr.drop off).take n
        simpa [List.extract, Array.toList_extract] using this
      · simp only [part, Sem.run_bind, run_isAgg ha, Result.andThen_ok, if_true, run_sizeOf hn, Sem.run_pure]
  · rename_i n ha hn
    obtain ⟨v, hv, h1⟩ := hr.get hy
    refine ⟨v, h1, fun w => ?_⟩
    have hv : vs[off]? = some v := by simpa using hv
    simp only [part, Sem.run_bind, run_isAgg ha, Result.andThen_ok, Bool.false_eq_true, if_false, hv, Sem.run_pure]
  · cases hy
def aField (P : Program) (N : Nat) (dst : Option Tmp) (t : TypeId) (x : Operand) (f : Nat) (s : St) (K : St → Prop) : Prop := match evalV s x, P.underlying t with
  | some (.agg cs), some (.struct fs) => match fs[f]? with
    | some fd => match partV P fd.type cs fd.offset with
      | some y => putK N dst (.v y) s K
      | none => False
    | none => False
  | _, _ => False
theorem aField_reads {o : Oper} {t : TypeId} {x : Operand} {f : Nat} (ho : o.op = .field t x f) (h : Sim c N s a w) (hk : aField P N o.dst t x f s K) : Reads P o a w (Post c w N K) := by
  unfold aField at hk
  split at hk
  · rename_i cs fs hx hu
    have hr := evalV_rel h hx
    generalize hv : a.eval x = v at hr
    cases hr with
    | agg hr =>
      rename_i vs
      cases hfd : fs[f]? with
      | none => rw [hfd] at hk; exact hk.elim
      | some fd =>
        rw [hfd] at hk
        simp only at hk
        cases hp : partV P fd.type cs fd.offset with
        | none => rw [hp] at hk; exact hk.elim
        | some y =>
          rw [hp] at hk
          obtain ⟨u, h1, h2⟩ := run_part hr hp
          refine ⟨u, fun w' _ => ?_, putK_post h hk fun _ _ => h1⟩
          unfold execOp
          simp only [ho, hv, Instr.field, Sem.run_bind, run_underlying' hu, Result.andThen_ok, hfd, asAgg, Sem.run_pure, h2]
  · exact hk.elim
def aExtract (N : Nat) (dst : Option Tmp) (x : Operand) (i : Nat) (s : St) (K : St → Prop) : Prop := match evalV s x with
  | some (.tup cs) => match cs[i]? with
    | some y => putK N dst (.v y) s K
    | none => False
  | _ => False
theorem aExtract_reads {o : Oper} {x : Operand} {i : Nat} (ho : o.op = .extract x i) (h : Sim c N s a w) (hk : aExtract N o.dst x i s K) : Reads P o a w (Post c w N K) := by
  unfold aExtract at hk
  split at hk
  · rename_i cs hx
    have hr := evalV_rel h hx
    generalize hv : a.eval x = v at hr
    cases hr with
    | tup hr =>
      rename_i vs
      cases hi : cs[i]? with
      | none => rw [hi] at hk; exact hk.elim
      | some y =>
        rw [hi] at hk
        obtain ⟨u, h1, h2⟩ := hr.get hi
        have h1 : vs[i]? = some u := by simpa using h1
        refine ⟨u, fun w' _ => ?_, putK_post h hk fun _ _ => h2⟩
        unfold execOp
        simp only [ho, hv, Instr.extract, h1, Sem.run_bind, Sem.run_pure, Result.andThen_ok]
  · exact hk.elim

/-! ## len -/
def lenV : SV → Option Nat
  | .v (.sl n _ _) => some n
  | .v .nil => some 0
  | .lnk _ n => some n
  | .own _ _ n _ _ => some n
  | _ => none
theorem lenV_rel {r : Root} {x : SV} {n : Nat} {v : Value} (h : SRel c w r x v) (hn : lenV x = some n) : ∃ p cap, v = .slice p n cap := by
  unfold lenV at hn
  split at hn <;> cases hn
  · cases h with
    | sl => exact ⟨_, _, rfl⟩
    | sl0 => exact ⟨_, _, rfl⟩
  · cases h with
    | nil => exact ⟨_, _, rfl⟩
  · rcases h with ⟨rfl, rfl⟩ | ⟨b, cap, rfl, _⟩ <;> exact ⟨_, _, rfl⟩
  · obtain ⟨_, vs, _, h2, _, _⟩ := h
    rcases h2.2 with ⟨rfl, rfl⟩ | ⟨g, cap, cur, rfl, _⟩ <;> exact ⟨_, _, rfl⟩
def aLen (P : Program) (N : Nat) (dst : Option Tmp) (t : TypeId) (x : Operand) (s : St) (K : St → Prop) : Prop := match eval s x, P.underlying t with
  | some p, some (.slice _) => match lenV p with
    | some n => putK N dst (.v (.sc (.int .i64 n))) s K
    | none => False
  | _, _ => False
theorem aLen_reads {o : Oper} {t : TypeId} {x : Operand} (ho : o.op = .call { callee := .builtin .len, args := #[x], argTypes := #[t] }) (h : Sim c N s a w) (hk : aLen P N o.dst t x s K) : Reads P o a w (Post c w N K) := by
  unfold aLen at hk
  split at hk
  · rename_i p e hx hu
    cases hl : lenV p with
    | none => rw [hl] at hk; exact hk.elim
    | some n =>
      rw [hl] at hk
      have hv : ∃ q cap, a.eval x = .slice q n cap := by
        rcases eval_rel h hx (.slot 0) with ⟨t, _, _, _, hr⟩ | ⟨z, rfl, hr⟩
        · exact lenV_rel hr hl
        · exact lenV_rel (w := w) (r := .slot 0) (x := .v z) hr hl
      obtain ⟨q, cap, hv⟩ := hv
      refine ⟨_, fun w' _ => ?_, putK_post h hk fun _ _ => Rel.sc _⟩
      unfold execOp
      simp only [ho, resolve, Sem.run_bind, Sem.run_pure, Result.andThen_ok, invoke, builtin, List.map_toArray, List.map_cons, List.map_nil, hv, Builtin.len_]
      simp [run_underlying' hu, goInt]
  · exact hk.elim

/-! ## pieces of slices -/
def boundOf (s : St) (d : Int) : Option Operand → Option Int
  | none => some d
  | some x => match evalV s x with
    | some (.sc (.int _ i)) => some i
    | _ => none
theorem boundOf_run {d : Int} {x : Option Operand} {i : Int} (h : Sim c N s a w) (hb : boundOf s d x = some i) : (x = none ∧ i = d) ∨ ∃ y k, x = some y ∧ a.eval y = .int k i := by
  cases x with
  | none => cases hb; exact .inl ⟨rfl, rfl⟩
  | some y =>
    right
    simp only [boundOf] at hb
    cases hy : evalV s y with
    | none => rw [hy] at hb; cases hb
    | some z =>
      rw [hy] at hb
      cases z with
      | sc u =>
        cases u with
        | int k i' => cases hb; exact ⟨y, k, rfl, Rel.exact (evalV_rel h hy) rfl⟩
        | _ => cases hb
      | _ => cases hb
/-- The piece from l to h. -/
def piece (sz : Nat) (cs : List V) (l h : Int) : List V := (cs.drop (l.toNat * sz)).take ((h - l).toNat * sz)
def aSlice (P : Program) (N : Nat) (dst : Option Tmp) (t : TypeId) (x : Operand) (lo hi mx : Option Operand) (s : St) (K : St → Prop) : Prop := match evalV s x, P.underlying t with
  | some (.sl n sz cs), some (.slice e) => match boundOf s 0 lo, boundOf s n hi, boundOf s n mx with
    | some l, some h, some m => sizeT P e = some sz ∧ (mx.isSome = true → hi.isSome = true) ∧ (0 ≤ l ∧ l ≤ h ∧ h ≤ m ∧ m ≤ n) ∧ putK N dst (.v (.sl (h - l).toNat sz (piece sz cs l h))) s K
    | _, _, _ => False
  | _, _ => False
theorem run_sliceBound {x : Value} {k : IntKind} {i : Int} {y : Nat} {code : BoundsCode} (hx : x = .int k i) (h0 : 0 ≤ i) (h1 : i ≤ y) (w : World) : (Instr.sliceBound x y code).run P w = .ok i.toNat w := by
  subst hx
  simp only [Instr.sliceBound, asIntOf, Sem.run_bind, Sem.run_pure, Result.andThen_ok, h0, h1, and_self, if_true]
theorem aSlice_reads {o : Oper} {t : TypeId} {x : Operand} {lo hi mx : Option Operand} (ho : o.op = .slice t x lo hi mx) (h : Sim c N s a w) (hk : aSlice P N o.dst t x lo hi mx s K) : Reads P o a w (Post c w N K) := by
  unfold aSlice at hk
  split at hk
  · rename_i n sz cs e hx hu
    split at hk
    · rename_i l hh m hl hhi hm
      obtain ⟨hsz, hmh, ⟨h0, h1, h2, h3⟩, hk⟩ := hk
      have hr := evalV_rel h hx
      generalize hv : a.eval x = v at hr
      have hcap : ∃ q cap, v = .slice q n cap ∧ n ≤ cap := by
        cases hr with
        | sl _ _ _ r4 _ _ => exact ⟨_, _, rfl, r4⟩
        | sl0 => exact ⟨_, _, rfl, Nat.le_refl _⟩
      obtain ⟨q, cap, rfl, hnc⟩ := hcap
      -- the bounds
      have B : ∃ mm : Nat, (∀ w', (Instr.sliceBounds true n cap (lo.map a.eval) (hi.map a.eval) (mx.map a.eval)).run P w' = .ok (l.toNat, hh.toNat, mm) w') ∧ hh.toNat ≤ mm ∧ mm ≤ cap := by
        rcases boundOf_run h hm with ⟨rfl, rfl⟩ | ⟨my, mk, rfl, hmv⟩
        · rcases boundOf_run h hhi with ⟨rfl, rfl⟩ | ⟨hy, hk', rfl, hhv⟩
          · rcases boundOf_run h hl with ⟨rfl, rfl⟩ | ⟨ly, lk, rfl, hlv⟩
            · exact ⟨cap, fun w' => by simp [Instr.sliceBounds], by simpa using hnc, Nat.le_refl _⟩
            · refine ⟨cap, fun w' => ?_, by simpa using hnc, Nat.le_refl _⟩
              simp only [Instr.sliceBounds, Option.map_none, Option.map_some, Sem.run_bind, Sem.run_pure, Result.andThen_ok, run_sliceBound hlv h0 h1]
              simp
          · have hb := fun w' => run_sliceBound (P := P) (code := .sliceAcap) hhv (by omega : (0 : Int) ≤ hh) (y := cap) (by omega) w'
            rcases boundOf_run h hl with ⟨rfl, rfl⟩ | ⟨ly, lk, rfl, hlv⟩
            · refine ⟨cap, fun w' => ?_, by omega, Nat.le_refl _⟩
              simp only [Instr.sliceBounds, Option.map_none, Option.map_some, Sem.run_bind, Sem.run_pure, Result.andThen_ok, if_true, hb]
              simp
            · refine ⟨cap, fun w' => ?_, by omega, Nat.le_refl _⟩
              simp only [Instr.sliceBounds, Option.map_none, Option.map_some, Sem.run_bind, Sem.run_pure, Result.andThen_ok, if_true, hb, run_sliceBound hlv h0 (y := hh.toNat) (by omega)]
        · rcases boundOf_run h hhi with ⟨rfl, rfl⟩ | ⟨hy, hk', rfl, hhv⟩
          · have := hmh rfl
            cases this
          · have hmb := fun w' => run_sliceBound (P := P) (code := .slice3Acap) hmv (by omega : (0 : Int) ≤ m) (y := cap) (by omega) w'
            have hb := fun w' => run_sliceBound (P := P) (code := .slice3B) hhv (by omega : (0 : Int) ≤ hh) (y := m.toNat) (by omega) w'
            rcases boundOf_run h hl with ⟨rfl, rfl⟩ | ⟨ly, lk, rfl, hlv⟩
            · refine ⟨m.toNat, fun w' => ?_, by omega, by omega⟩
              simp only [Instr.sliceBounds, Option.map_none, Option.map_some, Sem.run_bind, Sem.run_pure, Result.andThen_ok, if_true, hmb, hb]
              simp
            · refine ⟨m.toNat, fun w' => ?_, by omega, by omega⟩
              simp only [Instr.sliceBounds, Option.map_none, Option.map_some, Sem.run_bind, Sem.run_pure, Result.andThen_ok, if_true, hmb, hb, run_sliceBound hlv h0 (y := hh.toNat) (by omega)]
      obtain ⟨mm, B1, B2, B3⟩ := B
      have e1 : (hh - l).toNat = hh.toNat - l.toNat := by omega
      refine ⟨.slice (if mm = l.toNat then q else q.map (·.add (l.toNat * sz))) (hh.toNat - l.toNat) (mm - l.toNat), fun w' _ => ?_, putK_post h hk fun _ _ => ?_⟩
      · unfold execOp
        simp only [ho, hv, Instr.sliceAt, Sem.run_bind, run_underlying' hu, Result.andThen_ok, Instr.slice, B1, run_sizeOf hsz, Sem.run_pure]
      · show Rel c.I c.φ _ _
        rw [e1]
        cases hr with
        | sl r1 r2 r3 r4 r5 r6 =>
          rename_i vs b off
          have hlen : hh.toNat * sz ≤ cs.length := by rw [r3]; exact Nat.mul_le_mul_right _ (by omega)
          have hsub : (hh.toNat - l.toNat) * sz = hh.toNat * sz - l.toNat * sz := by rw [Nat.sub_mul]
          have hle : l.toNat * sz ≤ hh.toNat * sz := Nat.mul_le_mul_right _ (by omega)
          by_cases hml : mm = l.toNat
          · rw [if_pos hml]
            have hz : hh.toNat - l.toNat = 0 := by omega
            have hp : piece sz cs l hh = [] := by unfold piece; rw [e1, hz]; simp
            rw [hz, hp]
            exact .sl (vs := []) .nil (fun j u hu => by simp at hu) (by simp) (Nat.zero_le _) (by omega) (fun u hu => by simp at hu)
          · rw [if_neg hml]
            simp only [Option.map_some, add_eq]
            refine .sl (vs := (vs.drop (l.toNat * sz)).take ((hh.toNat - l.toNat) * sz)) ?_ (fun j u hu => ?_) ?_ (by omega) (by omega) (fun u hu => r6 u (List.mem_of_mem_drop (List.mem_of_mem_take hu)))
            · have := (r1.drop (l.toNat * sz)).take ((hh - l).toNat * sz)
              rw [e1] at this
              unfold piece
              rw [e1]
              exact this
            · rw [List.getElem?_take] at hu
              split at hu
              · rw [List.getElem?_drop] at hu
                rw [Nat.add_assoc]
                exact r2 _ u hu
              · cases hu
            · unfold piece
              rw [e1, List.length_take, List.length_drop, hsub]
              omega
        | sl0 =>
          have : hh.toNat = 0 := by omega
          have hl0 : l.toNat = 0 := by omega
          have hm0 : mm = 0 := by omega
          have hp : piece sz [] l hh = [] := by unfold piece; simp
          rw [this, hl0, hp, hm0]
          exact .sl0
    · exact hk.elim
  · exact hk.elim
end
end AM
end Go.Proofs.Ytoooldijnilpaaa
