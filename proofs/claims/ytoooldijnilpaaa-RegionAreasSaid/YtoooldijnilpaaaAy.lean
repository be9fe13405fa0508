/- A region that draws its order, with any calls beside loads of cells that no call turns. Plain lemmas, over any program. -/
import Derived.Test.YtoooldijnilpaaaAr
import Derived.Test.YtoooldijnilpaaaMy
namespace Go.Proofs.Ytoooldijnilpaaa
set_option linter.all false
open Go.RowKit
namespace AM

/-- A block of cells that stand whole in themselves. -/
def exactB : List SV → Bool
  | [] => true
  | .v x :: ks => x.exact.isSome && exactB ks
  | _ :: _ => false
/-- Such blocks stay as they were. -/
def keepS (H0 H : List Bk) : Prop := ∀ (id : Nat) (ks : List SV), H0[id]? = some (Bk.cells ks) → exactB ks = true → H[id]? = some (Bk.cells ks)
@[simp] theorem keepS_refl {H : List Bk} : keepS H H = True := eq_true fun _ _ h _ => h
@[simp] theorem keepS_app {H L : List Bk} : keepS H (H ++ L) = True := eq_true fun id ks h _ => by
  rw [List.getElem?_append_left (List.getElem?_eq_some_iff.1 h).1]; exact h
theorem keepS.trans {H H1 H2 : List Bk} (h : keepS H H1) (k : keepS H1 H2) : keepS H H2 := fun id ks h0 he => k id ks (h id ks h0 he) he

def oldO (old : List (Nat × V)) : Operand → Option V
  | .tmp t => (old.find? fun p => p.1 == t).map (·.2)
  | _ => none
def dropO (dst : Option Tmp) (old : List (Nat × V)) : List (Nat × V) := match dst with
  | some d => old.filter fun p => !(p.1 == d)
  | none => old
def takeO (dst : Option Tmp) (y : Option V) (old : List (Nat × V)) : List (Nat × V) := match dst, y with
  | some d, some y => (d, y) :: dropO (some d) old
  | d, _ => dropO d old
def oldL (F : Fr) : List Nat → List (Nat × V)
  | [] => []
  | t :: ts => match getF t F with
    | some (.v y) => (t, y) :: oldL F ts
    | _ => oldL F ts
/-- What may be read beside calls: cells that never turn, and blocks that stand whole. -/
def yload (P : Program) (N : Nat) (H0 : List Bk) (dst : Option Tmp) (t : TypeId) (x : Operand) (old : List (Nat × V)) (s : St) (K : List (Nat × V) → St → Prop) : Prop := match oldO old x, aggT P t, sizeT P t with
  | some (.ptr id off), some agg, some n => match H0[id]? with
    | some (.cells ks) => exactB ks = true ∧ (match ldV agg n (plains (ks.drop off)) with
      | some y => putK N dst (.v y) s (K (takeO dst (some y) old))
      | none => False)
    | _ => False
  | some (.rd cs), some agg, some n => match ldV agg n cs with
    | some y => putK N dst (.v y) s (K (takeO dst (some y) old))
    | none => False
  | _, _, _ => False
def yindex (P : Program) (N : Nat) (dst : Option Tmp) (t : TypeId) (x ix : Operand) (old : List (Nat × V)) (s : St) (K : List (Nat × V) → St → Prop) : Prop := match evalV s x, evalV s ix, P.underlying t with
  | some (.sl n sz cs), some (.sc (.int _ i)), some (.slice e) => sizeT P e = some sz ∧ (0 ≤ i ∧ i < n) ∧ putK N dst (.v (.rd (rowAt sz cs i))) s (K (match oldO old x with
      | some (.sl m sz' cs') => bif decide (m = n) && decide (sz' = sz) then takeO dst (some (.rd (rowAt sz cs' i))) old else dropO dst old
      | _ => dropO dst old))
  | _, _, _ => False
def yfield (P : Program) (N : Nat) (dst : Option Tmp) (t : TypeId) (x : Operand) (f : Nat) (old : List (Nat × V)) (s : St) (K : List (Nat × V) → St → Prop) : Prop := match evalV s x, fieldT P t f with
  | some p, some n => match shift (.v p) n with
    | some y => putK N dst y s (K (match oldO old x with
      | some q => (match shift (.v q) n with
        | some (.v z) => takeO dst (some z) old
        | _ => dropO dst old)
      | none => dropO dst old))
    | none => False
  | _, _ => False
def ylen (P : Program) (N : Nat) (dst : Option Tmp) (args : List Operand) (ts : List TypeId) (old : List (Nat × V)) (s : St) (K : List (Nat × V) → St → Prop) : Prop := match args, ts with
  | [x], [t] => match evalV s x, P.underlying t with
    | some p, some (.slice _) => match lenV (.v p) with
      | some n => putK N dst (.v (.sc (.int .i64 n))) s (K (dropO dst old))
      | none => False
    | _, _ => False
  | _, _ => False
def yop (P : Program) (N : Nat) (ops : List Oper) (H0 : List Bk) (o : Oper) (old : List (Nat × V)) (s : St) (K : List (Nat × V) → St → Prop) : Prop := match o.op with
  | .load t x => yload P N H0 o.dst t x old s K
  | .move x => match evalV s x with
    | some y => putK N o.dst (.v y) s (K (takeO o.dst (oldO old x) old))
    | none => False
  | .fieldAddr t x f => yfield P N o.dst t x f old s K
  | .indexAddr t x ix => yindex P N o.dst t x ix old s K
  | .call { callee := .builtin .len, args, argTypes } => ylen P N o.dst args.toList argTypes.toList old s K
  | op => memB op = false ∧ aop P N ops o s (fun s' => keepS H0 s'.H ∧ K (dropO o.dst old) s')
def yops (P : Program) (N : Nat) (ops : List Oper) (H0 : List Bk) : List Oper → (St → Prop) → List (Nat × V) → St → Prop
  | [], K, _, s => K s
  | o :: rest, K, old, s => match o.guard with
    | none => yop P N ops H0 o old s (yops P N ops H0 rest K)
    | some (j, want) => match (ops[j]?).bind (·.dst) with
      | some t => match getF t s.F with
        | some (.v (.sc (.bool b))) => gd b want (yop P N ops H0 o old ⟨setF t (.v (.sc (.bool want))) s.F, s.H⟩ (yops P N ops H0 rest K)) (putK N o.dst (.v (.tup [])) ⟨setF t (.v (.sc (.bool (!want)))) s.F, s.H⟩ (yops P N ops H0 rest K (dropO o.dst old)))
        | some (.v (.tup [])) => putK N o.dst (.v (.tup [])) s (yops P N ops H0 rest K (dropO o.dst old))
        | _ => False
      | none => False
section
variable {P : Program} {N : Nat} {ops rest : List Oper} {H0 H : List Bk} {F : Fr} {o : Oper} {old : List (Nat × V)} {K : St → Prop} {K' : List (Nat × V) → St → Prop}
theorem yops_nil' : yops P N ops H0 [] K old ⟨F, H⟩ = K ⟨F, H⟩ := rfl
theorem yops_cons' : yops P N ops H0 (o :: rest) K old ⟨F, H⟩ = match o.guard with
    | none => yop P N ops H0 o old ⟨F, H⟩ (yops P N ops H0 rest K)
    | some (j, want) => match (ops[j]?).bind (·.dst) with
      | some t => match getF t F with
        | some (.v (.sc (.bool b))) => gd b want (yop P N ops H0 o old ⟨setF t (.v (.sc (.bool want))) F, H⟩ (yops P N ops H0 rest K)) (putK N o.dst (.v (.tup [])) ⟨setF t (.v (.sc (.bool (!want)))) F, H⟩ (yops P N ops H0 rest K (dropO o.dst old)))
        | some (.v (.tup [])) => putK N o.dst (.v (.tup [])) ⟨F, H⟩ (yops P N ops H0 rest K (dropO o.dst old))
        | _ => False
      | none => False := rfl
theorem yop' : yop P N ops H0 o old ⟨F, H⟩ K' = match o.op with
  | .load t x => yload P N H0 o.dst t x old ⟨F, H⟩ K'
  | .move x => match evalV ⟨F, H⟩ x with
    | some y => putK N o.dst (.v y) ⟨F, H⟩ (K' (takeO o.dst (oldO old x) old))
    | none => False
  | .fieldAddr t x f => yfield P N o.dst t x f old ⟨F, H⟩ K'
  | .indexAddr t x ix => yindex P N o.dst t x ix old ⟨F, H⟩ K'
  | .call { callee := .builtin .len, args, argTypes } => ylen P N o.dst args.toList argTypes.toList old ⟨F, H⟩ K'
  | op => memB op = false ∧ aop P N ops o ⟨F, H⟩ (fun s' => keepS H0 s'.H ∧ K' (dropO o.dst old) s') := rfl
end

section
variable {P : Program} {c c0 : Cx} {N : Nat} {s : St} {a : Act} {w w0 : World} {H0 : List Bk} {old : List (Nat × V)}

/-- A world in which what is read beside calls lies as it lay. -/
def JY (c0 : Cx) (H0 : List Bk) (w0 w : World) : Prop :=
  (∀ b o v, c0.I b o = some v → w.cell? ⟨b, o, none⟩ = some v) ∧ ∀ (id b : Nat) (ks : List SV) (o : Nat) (v : Value), c0.φ[id]? = some b → H0[id]? = some (Bk.cells ks) → exactB ks = true → w0.cell? ⟨b, o, none⟩ = some v → w.cell? ⟨b, o, none⟩ = some v
theorem JY.start (h : Inv c0 H0 w0) : JY c0 H0 w0 w0 := ⟨h.imm, fun _ _ _ _ _ _ _ _ h => h⟩
theorem exactB_get : ∀ {ks : List SV} {o : Nat} {x : SV}, exactB ks = true → ks[o]? = some x → ∃ y u, x = .v y ∧ y.exact = some u
  | [], o, x, _, h => by simp at h
  | k :: ks, o, x, he, h => by
    cases k with
    | v y =>
      simp only [exactB, Bool.and_eq_true] at he
      cases o with
      | zero =>
        simp at h
        subst h
        cases hy : y.exact with
        | none => rw [hy] at he; cases he.1
        | some u => exact ⟨y, u, rfl, hy⟩
      | succ o => exact exactB_get he.2 (by simpa using h)
    | _ => simp [exactB] at he
/-- Cells of such a block, in two worlds. -/
theorem exact_cells {c' : Cx} {H' : List Bk} {w' : World} {id b : Nat} {ks : List SV} (h : Inv c H0 w) (h' : Inv c' H' w') (hb : c.φ[id]? = some b) (hb' : c'.φ[id]? = some b) (hk : H0[id]? = some (.cells ks)) (hk' : H'[id]? = some (.cells ks)) (he : exactB ks = true) {o : Nat} {v : Value} (hv : w.cell? ⟨b, o, none⟩ = some v) : w'.cell? ⟨b, o, none⟩ = some v := by
  obtain ⟨_, _, arr, e, g1, g2, _, g3⟩ := h.blk id b _ hb hk
  obtain ⟨_, _, arr', e', q1, q2, _, q3⟩ := h'.blk id b _ hb' hk'
  have hv' : arr[o]? = some v := by simpa [World.cell?, g1] using hv
  have hlt : o < arr.size := (Array.getElem?_eq_some_iff.1 hv').1
  have hko : ks[o]? = some ks[o] := List.getElem?_eq_getElem (by omega)
  have ho' : arr'[o]? = some arr'[o] := Array.getElem?_eq_getElem (by omega)
  obtain ⟨y, u, hy, hu⟩ := exactB_get he hko
  have r1 := (g3 o _ _ hko hv').2
  have r2 := (q3 o _ _ hko ho').2
  rw [hy] at r1 r2
  have e1 : v = u := Rel.exact r1 hu
  have e2 : arr'[o] = u := Rel.exact r2 hu
  simp only [World.cell?, q1, Option.isSome_none, Bool.false_eq_true, if_false]
  rw [ho', e2, e1]
theorem JY.next (h0 : Inv c0 H0 w0) (hs : Sim c N s a w) (hx : Ext c0 w0 c w) (hk : keepS H0 s.H) : JY c0 H0 w0 w :=
  ⟨fun b o v hv => hs.inv.imm b o v (hx.imm b o v hv), fun id b ks o v hb hid he hv => exact_cells h0 hs.inv hb (hx.phi id b hb) hid (hk id ks hid he) he hv⟩

structure PastY (c0 : Cx) (H0 : List Bk) (w0 : World) (old : List (Nat × V)) (c : Cx) (a : Act) (w : World) : Prop where
  inv : Inv c0 H0 w0
  ext : Ext c0 w0 c w
  j : JY c0 H0 w0 w
  vals : ∀ p ∈ old, Rel c0.I c0.φ p.2 (a.eval (.tmp p.1))
theorem PastY.look {x : Operand} {y : V} (h : PastY c0 H0 w0 old c a w) (hx : oldO old x = some y) : Rel c0.I c0.φ y (a.eval x) := by
  unfold oldO at hx
  cases x with
  | tmp t =>
    simp only at hx
    cases hf : old.find? (fun p => p.1 == t) with
    | none => rw [hf] at hx; cases hx
    | some p =>
      rw [hf] at hx
      cases hx
      have h1 := h.vals p (List.mem_of_find?_eq_some hf)
      have h2 := List.find?_some hf
      simp at h2
      rw [h2] at h1
      exact h1
  | _ => cases hx
def YP (c0 : Cx) (H0 : List Bk) (w0 : World) (N : Nat) (K : List (Nat × V) → St → Prop) (a' : Act) (w' : World) : Prop := ∃ c' s' old', Sim c' N s' a' w' ∧ PastY c0 H0 w0 old' c' a' w' ∧ K old' s'
theorem dropO_mem {dst : Option Tmp} {p : Nat × V} (h : p ∈ dropO dst old) : dst ≠ some p.1 ∧ p ∈ old := by
  cases dst with
  | none => exact ⟨by simp, h⟩
  | some d =>
    simp only [dropO, List.mem_filter] at h
    refine ⟨fun e => ?_, h.1⟩
    cases e
    simp at h
/-- A slot is filled; what was known of others stays known. -/
theorem PastY.put {dst : Option Tmp} {v : Value} {c' : Cx} {w' : World} (p : PastY c0 H0 w0 old c a w) (hx : Ext c w c' w') (hj : JY c0 H0 w0 w') : PastY c0 H0 w0 (dropO dst old) c' (a.put dst v) w' :=
  ⟨p.inv, p.ext.trans hx, hj, fun q hq => by
    obtain ⟨h1, h2⟩ := dropO_mem hq
    have : (a.put dst v).eval (.tmp q.1) = a.eval (.tmp q.1) := Act.eval_put fun d' hd' e' => by cases hd'; cases e'; exact h1 rfl
    rw [this]
    exact p.vals q h2⟩
theorem put_yp {dst : Option Tmp} {y : SV} {z : Option V} {v : Value} {K : List (Nat × V) → St → Prop} (h : Sim c N s a w) (p : PastY c0 H0 w0 old c a w) (hk : putK N dst y s (K (takeO dst z old))) (hx : ∀ d, dst = some d → SRel c w (.slot d) y v)
    (hz : ∀ z', z = some z' → Rel c0.I c0.φ z' v) : YP c0 H0 w0 N K (a.put dst v) w := by
  cases dst with
  | none => exact ⟨c, s, _, h, p.put (dst := none) (Ext.refl c w) p.j, hk⟩
  | some d =>
    obtain ⟨h1, h2, h3⟩ := hk
    have h4 := Sim.put (F := s.F) (H := s.H) h h1 (fitB_fit h2) (hx d rfl)
    have p1 : PastY c0 H0 w0 (dropO (some d) old) (c.free (.slot d)) (a.put (some d) v) w := p.put (Ext.free c w _) p.j
    cases z with
    | none => exact ⟨_, _, _, h4, p1, h3⟩
    | some z' =>
      refine ⟨_, _, _, h4, ⟨p1.inv, p1.ext, p1.j, fun q hq => ?_⟩, h3⟩
      have hlt : d < a.tmps.size := by rw [h.size]; exact h1
      have ev : (a.put (some d) v).eval (.tmp d) = v := by simp [Act.eval, Act.put, hlt]
      simp only [takeO, List.mem_cons] at hq
      rcases hq with rfl | hq
      · rw [ev]; exact hz z' rfl
      · exact p1.vals q hq
theorem put_yp' {dst : Option Tmp} {y : SV} {v : Value} {K : List (Nat × V) → St → Prop} (h : Sim c N s a w) (p : PastY c0 H0 w0 old c a w) (hk : putK N dst y s (K (dropO dst old))) (hx : ∀ d, dst = some d → SRel c w (.slot d) y v) : YP c0 H0 w0 N K (a.put dst v) w := by
  refine put_yp (z := none) h p ?_ hx (fun z' e => by cases e)
  have : takeO dst none old = dropO dst old := by cases dst <;> rfl
  rw [this]
  exact hk
theorem run_loadAt' {t : TypeId} {agg : Bool} {n b off : Nat} {cs : List V} {vs : List Value} {y : V} {I : Nat → Nat → Option Value} {φ : List Nat} (ha : aggT P t = some agg) (hn : sizeT P t = some n) (hr : RelL I φ cs vs)
    (hy : ldV agg n cs = some y) : ∃ v, Rel I φ y v ∧ ∀ w', (∀ j u, vs[j]? = some u → w'.cell? ⟨b, off + j, none⟩ = some u) → (Instr.loadAt t (.pointer (some ⟨b, off, none⟩))).run P w' = .ok v w' := by
  unfold ldV at hy
  cases agg with
  | true =>
    simp only [cond_true] at hy
    cases hle : Nat.ble n cs.length with
    | false => rw [hle] at hy; cases hy
    | true =>
      rw [hle] at hy
      cases hy
      have hle : n ≤ cs.length := Nat.le_of_ble_eq_true hle
      refine ⟨.agg (vs.take n).toArray, .agg (by simpa using hr.take n), fun w' hc => ?_⟩
      have h1 := run_loadCellsFrom (P := P) (w := w') (b := b) (off := off) n 0 #[] (vs.take n) (by rw [List.length_take, ← hr.len]; omega) (fun j u hu => by
        rw [List.getElem?_take] at hu
        split at hu
        · exact hc j u hu
        · cases hu)
      simp only [Instr.loadAt, Instr.sureAddr, Sem.run_bind, Sem.run_pure, Result.andThen_ok, loadVar, run_isAgg ha, if_true, run_sizeOf hn, loadCells, h1, Array.empty_append]
  | false =>
    simp only [cond_false] at hy
    cases cs with
    | nil => cases hy
    | cons x xs =>
      cases hy
      cases hr with
      | cons h1 h2 =>
        rename_i v vs
        refine ⟨v, h1, fun w' hc => ?_⟩
        have h3 := hc 0 v rfl
        simp only [Nat.add_zero] at h3
        simp only [Instr.loadAt, Instr.sureAddr, Sem.run_bind, Sem.run_pure, Result.andThen_ok, loadVar, run_isAgg ha, Bool.false_eq_true, if_false]
        simp [load, Sem.run, h3]
/-- What one effect does leaves other slots as they are. -/
theorem wp_others {o : Oper} {Q : Act → World → Prop} (h : Acts P o a w Q) : o.wp P a w (fun a' w' => Q a' w' ∧ ∀ t, o.dst ≠ some t → a'.eval (.tmp t) = a.eval (.tmp t)) Mix.bot := by
  refine Mix.wp_of_eff (Mix.effS_mono (fun d v w' h2 => ⟨h2, fun t ht => ?_⟩) (Mix.eff_of_wp h))
  unfold Mix.putD
  cases d with
  | none => exact Act.eval_put fun d' hd' e' => by cases e'; exact ht hd'
  | some q =>
    show (({ a with defers := q :: a.defers } : Act).put o.dst v).eval (.tmp t) = _
    rw [Act.eval_put (a := { a with defers := q :: a.defers }) fun d' hd' e' => by cases e'; exact ht hd']
    rfl

theorem yop_does {ops : List Oper} {o : Oper} {K : List (Nat × V) → St → Prop} (h : Sim c N s a w) (p : PastY c0 H0 w0 old c a w) (hk : yop P N ops H0 o old s K) :
    (Mix.effB o = true → o.wp P a w (fun a' w' => JY c0 H0 w0 w' ∧ YP c0 H0 w0 N K a' w') Mix.bot) ∧ (Mix.effB o = false → ∃ v, (∀ w', JY c0 H0 w0 w' → (execOp a.eval o).run P w' = .ok (.value v) w') ∧ YP c0 H0 w0 N K (a.put o.dst v) w) := by
  unfold yop at hk
  split at hk
  · rename_i t x ho
    refine ⟨fun he => by simp [Mix.effB, ho] at he, fun _ => ?_⟩
    unfold yload at hk
    split at hk
    · rename_i id off agg n hx ha hn
      cases hid : H0[id]? with
      | none => rw [hid] at hk; exact hk.elim
      | some blk =>
        by_cases hck : ∃ cs, blk = .cells cs
        rotate_left
        · rw [hid] at hk; cases blk <;> first | exact absurd ⟨_, rfl⟩ hck | exact hk.elim
        obtain ⟨ks, rfl⟩ := hck
        rw [hid] at hk
        obtain ⟨hex, hk⟩ := hk
        split at hk
        · rename_i y hl
          have h0 : Sim c0 N ⟨[], H0⟩ a w0 := ⟨p.inv, h.size, h.defers, fun t x hx => by cases hx⟩
          have hq := p.look hx
          have hc : cellsAt ⟨[], H0⟩ (.v (.ptr id off)) = some (plains (ks.drop off)) := by simp [cellsAt, hid]
          obtain ⟨b, off', vs, e1, r1, r2, _⟩ := read_cells (r := .slot 0) (p := .v (.ptr id off)) h0 hq hc
          obtain ⟨v, r3, r4⟩ := run_loadAt' (P := P) (b := b) (off := off') ha hn r1 hl
          have hb : c0.φ[id]? = some b := by
            generalize a.eval x = u at hq e1
            subst e1
            cases hq with
            | ptr hb => exact hb
          refine ⟨v, fun w' hw => ?_, put_yp h p hk (fun d _ => Rel.mono p.ext.imm p.ext.phi r3) (fun z' hz => by cases hz; exact r3)⟩
          unfold execOp
          simp only [ho, e1, Sem.run_bind, r4 w' (fun j u hu => hw.2 id b ks _ u hb hid hex (r2 j u hu)), Result.andThen_ok, Sem.run_pure]
        · exact hk.elim
    · rename_i cs agg n hx ha hn
      split at hk
      · rename_i y hl
        have hq := p.look hx
        generalize hv : a.eval x = u at hq
        cases hq with
        | rd r1 r2 r5 =>
          rename_i vs b off
          obtain ⟨v, r3, r4⟩ := run_loadAt' (P := P) (b := b) (off := off) ha hn r1 hl
          refine ⟨v, fun w' hw => ?_, put_yp h p hk (fun d _ => Rel.mono p.ext.imm p.ext.phi r3) (fun z' hz => by cases hz; exact r3)⟩
          unfold execOp
          simp only [ho, hv, Sem.run_bind, r4 w' (fun j u hu => hw.1 _ _ u (r2 j u hu)), Result.andThen_ok, Sem.run_pure]
      · exact hk.elim
    · exact hk.elim
  · rename_i x ho
    refine ⟨fun he => by simp [Mix.effB, ho] at he, fun _ => ?_⟩
    cases hx : evalV s x with
    | none => rw [hx] at hk; exact hk.elim
    | some y =>
      rw [hx] at hk
      exact ⟨a.eval x, fun w' _ => by unfold execOp; simp only [ho, Sem.run_pure], put_yp h p hk (fun d _ => evalV_rel h hx) fun z' hz => p.look hz⟩
  · rename_i t x f ho
    refine ⟨fun he => by simp [Mix.effB, ho] at he, fun _ => ?_⟩
    unfold yfield at hk
    split at hk
    · rename_i q n hx hf
      cases hs : shift (.v q) n with
      | none => rw [hs] at hk; exact hk.elim
      | some y =>
        rw [hs] at hk
        have hq := evalV_rel h hx
        obtain ⟨b, off, e1, e2⟩ := shift_rel (w := w) (r := .slot 0) (x := .v q) hq hs
        refine ⟨.pointer (some ⟨b, off + n, none⟩), fun w' _ => ?_, ?_⟩
        · unfold execOp
          simp only [ho, e1, run_fieldAt hf, Sem.run_bind, Result.andThen_ok, Sem.run_pure]
        · cases hol : oldO old x with
          | none =>
            rw [hol] at hk
            exact put_yp' h p hk (fun d _ => e2 _)
          | some q' =>
            rw [hol] at hk
            simp only at hk
            cases hs' : shift (.v q') n with
            | none => rw [hs'] at hk; exact put_yp' h p hk (fun d _ => e2 _)
            | some y' =>
              rw [hs'] at hk
              cases y' with
              | v z =>
                refine put_yp h p hk (fun d _ => e2 _) fun z' hz => ?_
                cases hz
                obtain ⟨b', off', f1, f2⟩ := shift_rel (c := c0) (w := w0) (r := .slot 0) (x := .v q') (p.look hol) hs'
                rw [e1] at f1
                cases f1
                exact f2 (.slot 0)
              | _ => exact put_yp' h p hk (fun d _ => e2 _)
    · exact hk.elim
  · rename_i t x ix ho
    refine ⟨fun he => by simp [Mix.effB, ho] at he, fun _ => ?_⟩
    unfold yindex at hk
    split at hk
    · rename_i n sz cs kd i e hx hi hu
      obtain ⟨h1, ⟨h2, h3⟩, hk⟩ := hk
      have hix : a.eval ix = .int kd i := Rel.exact (evalV_rel h hi) rfl
      have hr := evalV_rel h hx
      have mk : ∀ {I : Nat → Nat → Option Value} {φ : List Nat} {b off len cap sz' n' : Nat} {cs' : List V}, Rel I φ (.sl n' sz' cs') (.slice (some ⟨b, off, none⟩) len cap) → n' = n → sz' = sz → Rel I φ (.rd (rowAt sz cs' i)) (.pointer (some ⟨b, off + i.toNat * sz, none⟩)) := by
        intro I φ b off len cap sz' n' cs' hq hn' hsz'
        clear hr hk hx h1
        subst hn' hsz'
        cases hq with
        | sl r1 r2 r3 r4 r5 r6 =>
          refine Rel.rd ((r1.drop _).take _) (fun j u hu => ?_) (fun u hu => r6 u (List.mem_of_mem_drop (List.mem_of_mem_take hu)))
          rw [List.getElem?_take] at hu
          split at hu
          · rw [List.getElem?_drop] at hu
            rw [Nat.add_assoc]
            exact r2 _ u hu
          · cases hu
        | sl0 => omega
      obtain ⟨b, off, cap, hv⟩ : ∃ b off cap, a.eval x = .slice (some ⟨b, off, none⟩) n cap := by
        clear mk
        revert hr
        generalize a.eval x = v
        intro hr
        cases hr with
        | sl r1 r2 r3 r4 r5 r6 => exact ⟨_, _, _, rfl⟩
        | sl0 => omega
      refine ⟨.pointer (some ⟨b, off + i.toNat * sz, none⟩), fun w' _ => ?_, ?_⟩
      · unfold execOp
        simp only [ho, hv, hix, Sem.run_bind, run_indexAt hu h1 h2 h3, Result.andThen_ok, Sem.run_pure]
      · have hs1 : ∀ d, o.dst = some d → SRel c w (.slot d) (.v (.rd (rowAt sz cs i))) (.pointer (some ⟨b, off + i.toNat * sz, none⟩)) := fun d _ => mk (hv ▸ hr) rfl rfl
        cases hol : oldO old x with
        | none => rw [hol] at hk; exact put_yp' h p hk hs1
        | some q =>
          rw [hol] at hk
          cases q with
          | sl m sz' cs' =>
            simp only at hk
            cases hd : (decide (m = n) && decide (sz' = sz)) with
            | false => rw [hd] at hk; exact put_yp' h p hk hs1
            | true =>
              rw [hd] at hk
              simp only [Bool.and_eq_true, decide_eq_true_eq] at hd
              refine put_yp h p hk hs1 fun z' hz => ?_
              cases hz
              exact mk (hv ▸ p.look hol) hd.1 hd.2
          | _ => exact put_yp' h p hk hs1
    · exact hk.elim
  · rename_i args ts ho
    refine ⟨fun he => by simp [Mix.effB, ho] at he, fun _ => ?_⟩
    unfold ylen at hk
    split at hk
    · rename_i x t e1 e2
      have e1 : args = #[x] := Array.toList_inj.1 e1
      have e2 : ts = #[t] := Array.toList_inj.1 e2
      subst e1 e2
      split at hk
      · rename_i q e hx hu
        cases hl : lenV (.v q) with
        | none => rw [hl] at hk; exact hk.elim
        | some n =>
          rw [hl] at hk
          obtain ⟨pp, cap, hv⟩ := lenV_rel (w := w) (r := .slot 0) (x := .v q) (evalV_rel h hx) hl
          refine ⟨.int .i64 n, fun w' _ => ?_, put_yp' h p hk (fun d _ => Rel.sc _)⟩
          unfold execOp
          simp only [ho, resolve, Sem.run_bind, Sem.run_pure, Result.andThen_ok, invoke, builtin, List.map_toArray, List.map_cons, List.map_nil, hv, Builtin.len_]
          simp [run_underlying' hu, goInt]
      · exact hk.elim
    · exact hk.elim
  · rename_i op hop1 hop2 hop3 hop4 hop5
    obtain ⟨hm, ha⟩ := hk
    have hd := aop_does h ha
    unfold Does at hd
    have lift : ∀ (a' : Act) (w' : World), Post c w N (fun s' => keepS H0 s'.H ∧ K (dropO o.dst old) s') a' w' → (∀ t, o.dst ≠ some t → a'.eval (.tmp t) = a.eval (.tmp t)) → JY c0 H0 w0 w' ∧ YP c0 H0 w0 N K a' w' := fun a' w' hp ht => by
      obtain ⟨c', s', k1, k2, k3, k4⟩ := hp
      have hx := p.ext.trans k2
      have hj := JY.next p.inv k1 hx k3
      exact ⟨hj, c', s', _, k1, ⟨p.inv, hx, hj, fun q hq => by
        obtain ⟨q1, q2⟩ := dropO_mem hq
        rw [ht _ q1]
        exact p.vals q q2⟩, k4⟩
    by_cases he : Mix.effB o = true
    · rw [if_pos he] at hd
      refine ⟨fun _ => ?_, fun e => by rw [he] at e; cases e⟩
      exact Oper.wp_mono (fun a' w' h2 => lift a' w' h2.1 h2.2) (wp_others hd)
    · rw [if_neg he] at hd
      refine ⟨fun e => absurd e he, fun _ => ?_⟩
      obtain ⟨v, r1, hp⟩ := hd
      exact ⟨v, fun w' _ => r1 w' (fun e => by rw [hm] at e; cases e), (lift _ _ hp fun t ht => Act.eval_put fun d' hd' e' => by cases e'; exact ht hd').2⟩

theorem yops_walk {ops : Array Oper} {Q : Exit → Act → World → Prop} {K : St → Prop} : ∀ {l : List Oper} {s : St} {c : Cx} {a : Act} {w : World} {old : List (Nat × V)}, Sim c N s a w → PastY c0 H0 w0 old c a w → yops P N ops.toList H0 l K old s → (∀ c' s' a' w', Sim c' N s' a' w' → Ext c0 w0 c' w' → K s' → Q .normal a' w') →
    Mix.walk P ops (fun _ w' => JY c0 H0 w0 w') (fun w' => JY c0 H0 w0 w') Q l a w
  | [], s, c, a, w, old, h, p, hk, hq => hq c s a w h p.ext hk
  | o :: l, s, c, a, w, old, h, p, hk, hq => by
    have cases' : (∃ s1 : St, Sim c N s1 a w ∧ Region.wanted o (yielded ops a.tmps) = true ∧ yop P N ops.toList H0 o old s1 (yops P N ops.toList H0 l K)) ∨
        (∃ s1 : St, Sim c N s1 a w ∧ Region.wanted o (yielded ops a.tmps) = false ∧ putK N o.dst (.v (.tup [])) s1 (yops P N ops.toList H0 l K (dropO o.dst old))) := by
      unfold yops at hk
      cases hg : o.guard with
      | none => rw [hg] at hk; exact .inl ⟨s, h, by simp [Region.wanted, hg], hk⟩
      | some q =>
        obtain ⟨j, want⟩ := q
        rw [hg] at hk
        simp only at hk
        cases hd : (ops.toList[j]?).bind (·.dst) with
        | none => rw [hd] at hk; exact hk.elim
        | some t =>
          rw [hd] at hk
          simp only at hk
          have hd' : (ops[j]?).bind (·.dst) = some t := by simpa using hd
          split at hk
          · rename_i b hb
            obtain ⟨v, hv, hr⟩ := h.fr t _ (mem_getF hb)
            have e : v = .bool b := Rel.exact hr rfl
            subst e
            have hy := yielded_of hd' hv
            cases hbw : b == want with
            | true =>
              have e : b = want := by simpa using hbw
              subst e
              exact .inl ⟨_, h.lit hb, by simp [Region.wanted, hg, hy, boolOf], hk.1 rfl⟩
            | false =>
              have e : b = !want := by cases b <;> cases want <;> simp_all
              subst e
              exact .inr ⟨_, h.lit hb, by simp [Region.wanted, hg, hy, boolOf], hk.2 rfl⟩
          · rename_i hb
            obtain ⟨v, hv, hr⟩ := h.fr t _ (mem_getF hb)
            have e : v = .tuple #[] := Rel.exact hr rfl
            subst e
            have hy := yielded_of hd' hv
            exact .inr ⟨s, h, by simp [Region.wanted, hg, hy, boolOf], hk⟩
          · exact hk.elim
    unfold Mix.walk
    rcases cases' with ⟨s1, h, hw, hk⟩ | ⟨s1, h, hw, hk⟩
    · obtain ⟨d1, d2⟩ := yop_does h p hk
      by_cases he : Mix.effB o = true
      · rw [if_pos he]
        refine wpList_step fun K' hK' => ?_
        rw [if_pos hw]
        refine Mix.wp_of_eff (Mix.effS_mono (fun d v w' h2 => ?_) (Mix.eff_of_wp (d1 he)))
        obtain ⟨g1, c', s', old', k1, k2, k3⟩ := h2
        exact hK' _ _ (wpList_nil ⟨g1, yops_walk k1 k2 k3 hq⟩)
      · rw [if_neg he]
        have he' : Mix.effB o = false := by simpa using he
        obtain ⟨v, hv, c', s', old', k1, k2, k3⟩ := d2 he'
        refine wpQuiet_step fun K' hK' => ?_
        rw [if_pos hw]
        refine ⟨v, fun w' hw' => ?_, hK' _ (wpQuiet_nil (yops_walk k1 k2 k3 hq))⟩
        unfold Oper.quietAt
        rw [hv w' hw']
        exact ⟨rfl, rfl⟩
    · obtain ⟨c', s', old', k1, k2, k3⟩ := put_yp' (v := undef) h p hk (fun _ _ => Rel.tup (vs := #[]) .nil)
      have h4 := yops_walk k1 k2 k3 hq
      by_cases he : Mix.effB o = true
      · rw [if_pos he]
        refine wpList_step fun K' hK' => ?_
        rw [if_neg (by rw [hw]; simp)]
        exact hK' _ _ (wpList_nil ⟨k2.j, h4⟩)
      · rw [if_neg he]
        refine wpQuiet_step fun K' hK' => ?_
        rw [if_neg (by rw [hw]; simp)]
        exact hK' _ (wpQuiet_nil h4)
theorem oldL_mem {F : Fr} : ∀ {ts : List Nat} {q : Nat × V}, q ∈ oldL F ts → getF q.1 F = some (.v q.2)
  | [], q, h => by cases h
  | t :: ts, q, h => by
    unfold oldL at h
    split at h
    · rename_i y hy
      rcases List.mem_cons.1 h with rfl | h
      · exact hy
      · exact oldL_mem h
    · exact oldL_mem h
theorem AW.regionY {id k : Nat} {ops : Array Oper} {F : Fr} {H : List Bk} {Q : Exit → St → Prop} (ts : List Nat) (hm : P.follows .mixedOrders = true) (hk : k ≤ ops.size) (ho : Mix.mixTail k ops = true)
    (h : yops P N ops.toList H (ops.toList.take k) (aops P N ops.toList (ops.toList.drop k) (Q .normal)) (oldL F ts) ⟨F, H⟩) : AW P N (.region id ops true) Q ⟨F, H⟩ := fun c a w hs => by
  have hs' := hs.drew
  have p : PastY c H w.drew (oldL F ts) c a w.drew := ⟨hs'.inv, Ext.refl c _, JY.start hs'.inv, fun q hq => by
    obtain ⟨v, hv, hr⟩ := hs'.fr q.1 _ (mem_getF (oldL_mem hq))
    have : a.eval (.tmp q.1) = v := by simp [Act.eval, hv]
    rw [this]
    exact hr⟩
  have h1 := yops_walk (ops := ops) (Q := Mix.endQ (Mix.walk P ops Agree (fun _ => True) (PostE c w N Q) (ops.toList.drop k))) (K := aops P N ops.toList (ops.toList.drop k) (Q .normal)) hs' p h fun c' s' a' w' k1 k2 k3 =>
    aops_walk (ops := ops) k1 k3 fun a2 w2 h2 => Post.step ((Ext.drew c w).trans k2) h2
  have e : ops = (ops.toList.take k ++ ops.toList.drop k).toArray := by simp
  have h2 := Mix.wp_region_tail (P := P) (C1 := fun _ w' => JY c H w.drew w') (J1 := fun w' => JY c H w.drew w') (C2 := Agree) (id := id) (pre := ops.toList.take k) (post := ops.toList.drop k) (Q := PostE c w N Q) (a := a) (w := w) (fun _ h => h) (fun w => Agree.refl w) (fun _ _ => Iff.rfl) hm (by
    rw [← e, List.length_take]; simpa [Nat.min_eq_left hk] using ho) (JY.start hs'.inv) (by rw [← e]; exact h1)
  rw [← e] at h2
  exact h2
end
end AM
end Go.Proofs.Ytoooldijnilpaaa
