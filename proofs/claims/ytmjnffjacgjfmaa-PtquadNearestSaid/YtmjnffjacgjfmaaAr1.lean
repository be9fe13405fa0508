/- Regions that draw their order, over an abstract state. Plain lemmas, over any program. -/
import Derived.Scope
import Derived.Test.YtmjnffjacgjfmaaAo
import Derived.Test.YtmjnffjacgjfmaaMix
namespace Go.Proofs.Ytmjnffjacgjfmaa
set_option linter.all false
open Go.RowKit
namespace AM

/-- What a stretch of code promises that no jump leaves. -/
def qScope (Q : Exit → St → Prop) : Exit → St → Prop
  | .goto _, _ => False
  | e, s => Q e s
theorem qScope_n {Q : Exit → St → Prop} {s : St} : qScope Q .normal s = Q .normal s := rfl
theorem qScope_r {Q : Exit → St → Prop} {s : St} : qScope Q .ret s = Q .ret s := rfl
theorem qScope_e {Q : Exit → St → Prop} {s : St} {i : Nat} : qScope Q (.exit i) s = Q (.exit i) s := rfl
theorem AW.scope {P : Program} {N : Nat} {x : Code} {Q : Exit → St → Prop} {s : St} (h : AW P N x (qScope Q) s) : AW P N (.scope x) Q s := fun c a w hs => wp_scope_straight (wp_mono (h c a w hs) fun e a' w' he => by
  obtain ⟨c', s', k1, k2, k3⟩ := he
  cases e with
  | goto l => exact k3.elim
  | _ => exact ⟨c', s', k1, k2, k3⟩)
theorem AW.cond {P : Program} {N : Nat} {Q : Exit → St → Prop} {F : Fr} {H : List Bk} {x : Operand} {t f : Code} (b : Bool) (hb : getB ⟨F, H⟩ x = some b) (h1 : b = true → AW P N t Q ⟨F, H⟩) (h2 : b = false → AW P N f Q ⟨F, H⟩) : AW P N (.cond x t f) Q ⟨F, H⟩ := fun c a w hs => by
  have hx : a.eval x = .bool b := by
    unfold getB at hb
    split at hb
    · rename_i b' hv
      cases hb
      exact Rel.exact (evalV_rel hs hv) rfl
    · cases hb
  exact wp_cond_split hx (fun e => h1 e c a w hs) (fun e => h2 e c a w hs)

def inO (old : List Nat) : Operand → Bool
  | .tmp t => old.contains t
  | .const _ => true
  | _ => false
def addO (dst : Option Tmp) (old : List Nat) : List Nat := match dst with
  | some d => d :: old
  | none => old
def delO (dst : Option Tmp) (old : List Nat) : List Nat := match dst with
  | some d => old.filter fun t => !(t == d)
  | none => old
def xload (P : Program) (N : Nat) (H0 : List Bk) (dst : Option Tmp) (t : TypeId) (x : Operand) (old : List Nat) (s : St) (K : List Nat → St → Prop) : Prop := inO old x = true ∧ match evalV s x, aggT P t, sizeT P t with
  | some p, some agg, some n => match cellsAt ⟨[], H0⟩ (.v p) with
    | some cs => match ldV agg n cs with
      | some y => putK N dst (.v y) s (K (addO dst old))
      | none => False
    | none => False
  | _, _, _ => False
def xcall (P : Program) (N : Nat) (dst : Option Tmp) (f : Operand) (args : List Operand) (old : List Nat) (s : St) (K : List Nat → St → Prop) : Prop := match evalV s f, valsV s args with
  | some (.fn (.func k) first cap), some vs => ∃ r, PFn P k (first ++ vs ++ cap) r ∧ V.closedL (first ++ vs ++ cap) = true ∧ r.closed = true ∧ putK N dst (.v r) s (K (delO dst old))
  | _, _ => False
def putD (dst : Option Tmp) (x : SV) (F : Fr) : Fr := match dst with
  | some d => putF d x F
  | none => F
def xop (P : Program) (N : Nat) (ops : List Oper) (H0 : List Bk) (o : Oper) (old : List Nat) (s : St) (K : List Nat → St → Prop) : Prop := match o.op with
  | .load t x => xload P N H0 o.dst t x old s K
  | .call { callee := .value f, args, .. } => xcall P N o.dst f args.toList old s K
  | .move x => match evalV s x with
    | some y => putK N o.dst (.v y) s (K (bif inO old x then addO o.dst old else delO o.dst old))
    | none => False
  | .fieldAddr t x f => match evalV s x, fieldT P t f with
    | some p, some n => match shift (.v p) n with
      | some y => putK N o.dst y s (K (bif inO old x then addO o.dst old else delO o.dst old))
      | none => False
    | _, _ => False
  | .indexAddr t x ix => match evalV s x, evalV s ix, P.underlying t with
    | some (.sl n sz cs), some (.sc (.int _ i)), some (.slice e) => sizeT P e = some sz ∧ (0 ≤ i ∧ i < n) ∧ putK N o.dst (.v (.rd (rowAt sz cs i))) s (K (bif inO old x then addO o.dst old else delO o.dst old))
    | some p, some (.sc (.int _ i)), some (.array n e) => match sizeT P e with
      | some sz => match shift (.v p) (i.toNat * sz) with
        | some y => (0 ≤ i ∧ i < n) ∧ putK N o.dst y s (K (bif inO old x then addO o.dst old else delO o.dst old))
        | none => False
      | none => False
    | _, _, _ => False
  | op => memB op = false ∧ (Mix.effB o = false ∨ Mix.laysB o = true) ∧ ∃ x H', aop P N ops o s (fun s' => s' = ⟨putD o.dst x s.F, H'⟩) ∧ K (delO o.dst old) ⟨putD o.dst x s.F, H'⟩
def xops (P : Program) (N : Nat) (ops : List Oper) (H0 : List Bk) : List Oper → (St → Prop) → List Nat → St → Prop
  | [], K, _, s => K s
  | o :: rest, K, old, s => match o.guard with
    | none => xop P N ops H0 o old s (xops P N ops H0 rest K)
    | some (j, want) => match (ops[j]?).bind (·.dst) with
      | some t => match getF t s.F with
        | some (.v (.sc (.bool b))) => gd b want (xop P N ops H0 o old ⟨setF t (.v (.sc (.bool want))) s.F, s.H⟩ (xops P N ops H0 rest K)) (putK N o.dst (.v (.tup [])) ⟨setF t (.v (.sc (.bool (!want)))) s.F, s.H⟩ (xops P N ops H0 rest K (delO o.dst old)))
        | some (.v (.tup [])) => putK N o.dst (.v (.tup [])) s (xops P N ops H0 rest K (delO o.dst old))
        | _ => False
      | none => False

/-- What stands at a call in such a region. -/
def xcallK (P : Program) (N : Nat) (dst : Option Tmp) (k : FuncId) (xs : List V) (F : Fr) (H : List Bk) (K : St → Prop) : Prop := ∃ r, PFn P k xs r ∧ V.closedL xs = true ∧ r.closed = true ∧ putK N dst (.v r) ⟨F, H⟩ K
theorem xcallK.of {P : Program} {N : Nat} {dst : Option Tmp} {k : FuncId} {xs : List V} {F : Fr} {H : List Bk} {K : St → Prop} {r : V} (h : PFn P k xs r) (hx : V.closedL xs = true) (hr : r.closed = true) (hk : putK N dst (.v r) ⟨F, H⟩ K) : xcallK P N dst k xs F H K := ⟨r, h, hx, hr, hk⟩
theorem xcall' {P : Program} {N : Nat} {dst : Option Tmp} {f : Operand} {args : List Operand} {old : List Nat} {F : Fr} {H : List Bk} {K : List Nat → St → Prop} : xcall P N dst f args old ⟨F, H⟩ K = match evalV ⟨F, H⟩ f, valsV ⟨F, H⟩ args with
  | some (.fn (.func k) first cap), some vs => xcallK P N dst k (first ++ vs ++ cap) F H (K (delO dst old))
  | _, _ => False := rfl
/-- What an operation gives, and then what follows. -/
def xmid (A K : SV → List Bk → Prop) : Prop := ∃ x H', A x H' ∧ K x H'
@[congr] theorem xmid_congr {A A' K : SV → List Bk → Prop} (h : ∀ x H', A x H' = A' x H') : xmid A K = xmid A' K := by
  have : A = A' := funext fun x => funext fun H' => h x H'
  rw [this]
@[simp] theorem xmid_eq {a : SV} {b : List Bk} {K : SV → List Bk → Prop} : xmid (fun x H' => a = x ∧ b = H') K = K a b := by
  apply propext
  constructor
  · rintro ⟨_, _, ⟨rfl, rfl⟩, h⟩
    exact h
  · exact fun h => ⟨_, _, ⟨rfl, rfl⟩, h⟩
section
variable {P : Program} {N : Nat} {ops rest : List Oper} {H0 H : List Bk} {F : Fr} {o : Oper} {old : List Nat} {K : St → Prop} {K' : List Nat → St → Prop}
theorem xops_nil' : xops P N ops H0 [] K old ⟨F, H⟩ = K ⟨F, H⟩ := rfl
theorem xops_cons' : xops P N ops H0 (o :: rest) K old ⟨F, H⟩ = match o.guard with
    | none => xop P N ops H0 o old ⟨F, H⟩ (xops P N ops H0 rest K)
    | some (j, want) => match (ops[j]?).bind (·.dst) with
      | some t => match getF t F with
        | some (.v (.sc (.bool b))) => gd b want (xop P N ops H0 o old ⟨setF t (.v (.sc (.bool want))) F, H⟩ (xops P N ops H0 rest K)) (putK N o.dst (.v (.tup [])) ⟨setF t (.v (.sc (.bool (!want)))) F, H⟩ (xops P N ops H0 rest K (delO o.dst old)))
        | some (.v (.tup [])) => putK N o.dst (.v (.tup [])) ⟨F, H⟩ (xops P N ops H0 rest K (delO o.dst old))
        | _ => False
      | none => False := rfl
theorem xop' : xop P N ops H0 o old ⟨F, H⟩ K' = match o.op with
  | .load t x => xload P N H0 o.dst t x old ⟨F, H⟩ K'
  | .call { callee := .value f, args, .. } => xcall P N o.dst f args.toList old ⟨F, H⟩ K'
  | .move x => match evalV ⟨F, H⟩ x with
    | some y => putK N o.dst (.v y) ⟨F, H⟩ (K' (bif inO old x then addO o.dst old else delO o.dst old))
    | none => False
  | .fieldAddr t x f => match evalV ⟨F, H⟩ x, fieldT P t f with
    | some p, some n => match shift (.v p) n with
      | some y => putK N o.dst y ⟨F, H⟩ (K' (bif inO old x then addO o.dst old else delO o.dst old))
      | none => False
    | _, _ => False
  | .indexAddr t x ix => match evalV ⟨F, H⟩ x, evalV ⟨F, H⟩ ix, P.underlying t with
    | some (.sl n sz cs), some (.sc (.int _ i)), some (.slice e) => sizeT P e = some sz ∧ (0 ≤ i ∧ i < n) ∧ putK N o.dst (.v (.rd (rowAt sz cs i))) ⟨F, H⟩ (K' (bif inO old x then addO o.dst old else delO o.dst old))
    | some p, some (.sc (.int _ i)), some (.array n e) => match sizeT P e with
      | some sz => match shift (.v p) (i.toNat * sz) with
        | some y => (0 ≤ i ∧ i < n) ∧ putK N o.dst y ⟨F, H⟩ (K' (bif inO old x then addO o.dst old else delO o.dst old))
        | none => False
      | none => False
    | _, _, _ => False
  | op => memB op = false ∧ (Mix.effB o = false ∨ Mix.laysB o = true) ∧ xmid (fun x H' => aop P N ops o ⟨F, H⟩ (fun s' => s' = ⟨putD o.dst x F, H'⟩)) (fun x H' => K' (delO o.dst old) ⟨putD o.dst x F, H'⟩) := rfl
end
section
variable {P : Program} {c c0 : Cx} {N : Nat} {s : St} {a : Act} {w w0 : World} {H0 : List Bk} {old : List Nat}

/-- What was there at the region's head is there still. -/
structure Past (c0 : Cx) (H0 : List Bk) (w0 : World) (old : List Nat) (c : Cx) (s : St) (a : Act) (w : World) : Prop where
  inv : Inv c0 H0 w0
  ext : Ext c0 w0 c w
  agree : Agree w0 w
  vals : ∀ t y, (t, SV.v y) ∈ s.F → old.contains t = true → Rel c0.I c0.φ y (a.eval (.tmp t))

theorem Past.oldV {x : Operand} {y : V} (h : Past c0 H0 w0 old c s a w) (hx : evalV s x = some y) (ho : inO old x = true) : Rel c0.I c0.φ y (a.eval x) := by
  unfold evalV at hx
  cases x with
  | tmp t =>
    simp only [eval] at hx
    split at hx
    · rename_i z hz
      cases hx
      exact h.vals t _ (mem_getF hz) ho
    · cases hx
  | const v =>
    simp only [eval] at hx
    cases hx
    exact ofValue_rel v
  | _ => cases ho

/-- Past goes on when a slot is filled. -/
theorem Past.put {dst : Option Tmp} {y : SV} {v : Value} {c' : Cx} {w' : World} {old' : List Nat} {H' : List Bk} (h : Past c0 H0 w0 old c s a w) (hs : Sim c N s a w) (hN : ∀ d, dst = some d → d < N) (hx : Ext c w c' w') (hg : Agree w0 w')
    (ho : ∀ t, old'.contains t = true → (dst = some t ∧ ∀ z, y = .v z → Rel c0.I c0.φ z v) ∨ (dst ≠ some t ∧ old.contains t = true)) : Past c0 H0 w0 old' c' ⟨putD dst y s.F, H'⟩ (a.put dst v) w' := by
  refine ⟨h.inv, h.ext.trans hx, hg, fun t z hz ht => ?_⟩
  cases dst with
  | none =>
    rcases ho t ht with ⟨e, _⟩ | ⟨_, e⟩
    · cases e
    · exact h.vals t z hz e
  | some d =>
    simp only [putD, putF, List.mem_cons, Prod.mk.injEq] at hz
    rcases hz with ⟨rfl, rfl⟩ | hz
    · rcases ho t ht with ⟨_, e⟩ | ⟨e, _⟩
      · have hlt : t < a.tmps.size := by rw [hs.size]; exact hN t rfl
        have : (a.put (some t) v).eval (.tmp t) = v := by simp [Act.eval, Act.put, hlt]
        rw [this]
        exact e z rfl
      · exact absurd rfl e
    · obtain ⟨h1, h2, _⟩ := mem_del hz
      rcases ho t ht with ⟨e, _⟩ | ⟨_, e⟩
      · cases e; exact absurd rfl h2
      · have : (a.put (some d) v).eval (.tmp t) = a.eval (.tmp t) := Act.eval_put fun d' hd' e' => by cases hd'; cases e'; exact h2 rfl
        rw [this]
        exact h.vals t z h1 e

theorem run_fieldAt {t : TypeId} {f off b o' : Nat} (hf : fieldT P t f = some off) : (Instr.fieldAt t (.pointer (some ⟨b, o', none⟩)) f).run P w = .ok (.pointer (some ⟨b, o' + off, none⟩)) w := by
  unfold fieldT at hf
  cases hu : P.underlying t with
  | none => rw [hu] at hf; cases hf
  | some d =>
    cases d with
    | struct fs =>
      rw [hu] at hf
      simp only at hf
      cases hfd : fs[f]? with
      | none => rw [hfd] at hf; cases hf
      | some fd =>
        rw [hfd] at hf
        simp only at hf
        cases hsz : sizeT P fd.type with
        | none => rw [hsz] at hf; cases hf
        | some n =>
          rw [hsz] at hf
          cases n with
          | zero => cases hf
          | succ n =>
            cases hf
            simp only [Instr.fieldAt, Sem.run_bind, run_underlying' hu, Result.andThen_ok, hfd, Instr.sureAddr, Sem.run_pure, fieldPlace, run_sizeOf hsz]
            simp [add_eq]
    | _ => rw [hu] at hf; cases hf
/-- What holds behind a stretch of such a region. -/
def XP (c0 : Cx) (H0 : List Bk) (w0 : World) (N : Nat) (K : List Nat → St → Prop) (a' : Act) (w' : World) : Prop := ∃ c' s' old', Sim c' N s' a' w' ∧ Past c0 H0 w0 old' c' s' a' w' ∧ K old' s'

theorem delO_old {dst : Option Tmp} {t : Nat} (h : (delO dst old).contains t = true) : dst ≠ some t ∧ old.contains t = true := by
  cases dst with
  | none => exact ⟨by simp, h⟩
  | some d =>
    simp only [delO, List.contains_iff_mem, List.mem_filter] at h
    refine ⟨fun e => ?_, by simpa using h.1⟩
    cases e
    simp at h
theorem addO_old {dst : Option Tmp} {t : Nat} (h : (addO dst old).contains t = true) : dst = some t ∨ (dst ≠ some t ∧ old.contains t = true) := by
  cases dst with
  | none => exact .inr ⟨by simp, h⟩
  | some d =>
    by_cases e : d = t
    · exact .inl (by rw [e])
    · right
      simp only [addO, List.contains_cons, Bool.or_eq_true, beq_iff_eq] at h
      exact ⟨by simpa using e, h.resolve_left (Ne.symm e)⟩

theorem put_xp {dst : Option Tmp} {y : SV} {v : Value} {old' : List Nat} {K : List Nat → St → Prop} (h : Sim c N s a w) (p : Past c0 H0 w0 old c s a w) (hk : putK N dst y s (K old')) (hx : ∀ d, dst = some d → SRel c w (.slot d) y v)
    (ho : ∀ t, old'.contains t = true → (dst = some t ∧ ∀ z, y = .v z → Rel c0.I c0.φ z v) ∨ (dst ≠ some t ∧ old.contains t = true)) : XP c0 H0 w0 N K (a.put dst v) w := by
  cases dst with
  | none => exact ⟨c, s, old', h, p.put (dst := none) (y := y) (H' := s.H) h (fun d e => by cases e) (Ext.refl c w) p.agree ho, hk⟩
  | some d =>
    obtain ⟨h1, h2, h3⟩ := hk
    have h4 := Sim.put (F := s.F) (H := s.H) h h1 (fitB_fit h2) (hx d rfl)
    exact ⟨_, _, old', h4, p.put (dst := some d) (y := y) (H' := s.H) h (fun d' e => by cases e; exact h1) (Ext.free c w _) p.agree ho, h3⟩

theorem xop_does {ops : List Oper} {o : Oper} {K : List Nat → St → Prop} (h : Sim c N s a w) (p : Past c0 H0 w0 old c s a w) (hk : xop P N ops H0 o old s K) :
    (Mix.effB o = true → o.wp P a w (fun a' w' => Agree w0 w' ∧ XP c0 H0 w0 N K a' w') Mix.bot) ∧ (Mix.effB o = false → ∃ v, (∀ w', Agree w0 w' → (execOp a.eval o).run P w' = .ok (.value v) w') ∧ XP c0 H0 w0 N K (a.put o.dst v) w) := by
  unfold xop at hk
  split at hk
  · rename_i t x ho
    refine ⟨fun he => by simp [Mix.effB, ho] at he, fun _ => ?_⟩
    obtain ⟨h1, hk⟩ := hk
    split at hk
    · rename_i q agg n hx ha hn
      cases hc : cellsAt ⟨[], H0⟩ (.v q) with
      | none => rw [hc] at hk; exact hk.elim
      | some cs =>
        rw [hc] at hk
        simp only at hk
        cases hl : ldV agg n cs with
        | none => rw [hl] at hk; exact hk.elim
        | some y =>
          rw [hl] at hk
          have h0 : Sim c0 N ⟨[], H0⟩ a w0 := ⟨p.inv, h.size, h.defers, fun t x hx => by cases hx⟩
          have hq := p.oldV hx h1
          obtain ⟨b, off, vs, e1, r1, r2, _⟩ := read_cells (r := .slot 0) (p := .v q) h0 hq hc
          obtain ⟨v, r3, r4⟩ := run_loadAt (P := P) ha hn r1 r2 hl
          refine ⟨v, fun w' hw => ?_, put_xp h p hk (fun d _ => Rel.mono p.ext.imm p.ext.phi r3) fun t ht => ?_⟩
          · unfold execOp
            simp only [ho, e1, Sem.run_bind, r4 w' hw, Result.andThen_ok, Sem.run_pure]
          · rcases addO_old ht with e | e
            · exact .inl ⟨e, fun z hz => by cases hz; exact r3⟩
            · exact .inr e
    · exact hk.elim
  · rename_i f args ts ho
    refine ⟨fun _ => ?_, fun he => by simp [Mix.effB, ho] at he⟩
    unfold xcall at hk
    split at hk
    · rename_i k first cap vs hf hv
      obtain ⟨r, hp, c1, c2, hk⟩ := hk
      have hfr := evalV_rel h hf
      generalize hfv : a.eval f = fv at hfr
      cases hfr with
      | fn r1 r2 =>
        rename_i first' cap'
        have hvs := valsV_rel h hv
        have hargs : RelL c.I c.φ (first ++ vs ++ cap) (first'.toList ++ args.toList.map a.eval ++ cap'.toList) := (r1.append hvs).append r2
        obtain ⟨⟨fn, e1, e2, e3⟩, hcall⟩ := hp
        let cc : Cx := ⟨c.I, [], fun _ => .out⟩
        have hi0 : Inv cc [] w := ⟨h.inv.imm, rfl, fun b hb => absurd rfl hb, fun b b' r hb => (by cases hb), fun id b k hb => (by simp [cc] at hb)⟩
        have hcl := hcall cc w _ hi0 (fun b t e => by cases e) (RelL.closed hargs c1)
        have hrun : (execOp a.eval o).run P w = .ok (.enter k (first'.toList ++ args.toList.map a.eval ++ cap'.toList).toArray) w := by
          unfold execOp
          simp only [ho, resolve, hfv, Deferred.ofValue, Sem.run_bind, Sem.run_pure, Result.andThen_ok, invoke, callFunc, run_program, e1, e3, Bool.false_eq_true, if_false]
          have e4 : fn.body.isNone = false := by cases hb : fn.body <;> simp_all
          simp only [e4, Bool.false_eq_true, if_false, Sem.run_pure]
          congr 2
          apply Array.toList_inj.1
          simp
        unfold Oper.wp
        rw [hrun, Oper.upon_enter]
        refine hcl.mono fun e w' he => ?_
        obtain ⟨v, y, H1, c3, rfl, k1, k2, k3, k4, rfl⟩ := he
        have ko : ∀ b, b < w.heap.size → w'.heap[b]? = w.heap[b]? ∧ ∀ o, c3.I b o = c.I b o := fun b hb => by
          obtain ⟨q1, _, q3⟩ := k4.out b hb rfl
          exact ⟨q1, q3⟩
        have hag : Agree w0 w' := fun b hb => (ko b (Nat.lt_of_lt_of_le hb p.ext.size)).1.trans (p.agree b hb)
        let c4 : Cx := ⟨c3.I, c.φ, c.R⟩
        have i4 : Inv c4 s.H w' := by
          refine ⟨k2.imm, h.inv.len, fun b hb => Nat.lt_of_lt_of_le (h.inv.lt b hb) k4.size, h.inv.uniq, fun id b k hb hk => ?_⟩
          obtain ⟨h1, h2, h3⟩ := h.inv.blk id b k hb hk
          have hlt := h.inv.lt b (by rw [h1]; simp)
          refine ⟨h1, fun o => ((ko b hlt).2 o).trans (h2 o), ?_⟩
          by_cases hck : ∃ cs, k = .cells cs
          · obtain ⟨cs, rfl⟩ := hck
            obtain ⟨arr, e, g1, g2, g6, g3⟩ := h3
            refine ⟨arr, e, (ko b hlt).1.trans g1, g2, g6, fun j x u hx hu => ⟨(g3 j x u hx hu).1, ?_⟩⟩
            exact SRel.mono (c := c) (c' := c4) (w := w) (w' := w') k4.imm (fun _ _ h => h) (fun b' q _ hq => by
              have := h.inv.lt b' (by rw [hq]; simp)
              exact ⟨hq, (ko b' this).1, (ko b' this).2⟩) (g3 j x u hx hu).2
          · exact BRel.stay (fun cs e => hck ⟨cs, e⟩) h3 k4.imm (fun _ _ h => h) (fun b' o ho _ => (ko b' (obj_lt ho)).1.trans ho)
        have x4 : Ext c w c4 w' := ⟨k4.os, k4.tape, k4.output, k4.size, fun b hb hr => ⟨(ko b hb).1, hr, (ko b hb).2⟩, k4.imm, fun _ _ h => h⟩
        have s4 : Sim c4 N s a w' := ⟨i4, h.size, h.defers, fun t x hx => by
          obtain ⟨u, hu, hr⟩ := h.fr t x hx
          refine ⟨u, hu, SRel.mono (c := c) (c' := c4) (w := w) (w' := w') k4.imm (fun _ _ h => h) (fun b' q _ hq => ?_) hr⟩
          have := h.inv.lt b' (by rw [hq]; simp)
          exact ⟨hq, (ko b' this).1, (ko b' this).2⟩⟩
        have p4 : Past c0 H0 w0 old c4 s a w' := ⟨p.inv, p.ext.trans x4, hag, p.vals⟩
        exact ⟨hag, put_xp s4 p4 hk (fun d _ => Rel.closed k1 c2) fun t ht => .inr (delO_old ht)⟩
    · exact hk.elim
  · rename_i x ho
    refine ⟨fun he => by simp [Mix.effB, ho] at he, fun _ => ?_⟩
    cases hx : evalV s x with
    | none => rw [hx] at hk; exact hk.elim
    | some y =>
      rw [hx] at hk
      refine ⟨a.eval x, fun w' _ => by unfold execOp; simp only [ho, Sem.run_pure], put_xp h p hk (fun d _ => evalV_rel h hx) fun t ht => ?_⟩
      cases hi : inO old x with
      | true =>
        rw [hi] at ht
        rcases addO_old ht with e | e
        · exact .inl ⟨e, fun z hz => by cases hz; exact p.oldV hx hi⟩
        · exact .inr e
      | false =>
        rw [hi] at ht
        exact .inr (delO_old ht)
  · rename_i t x f ho
    refine ⟨fun he => by simp [Mix.effB, ho] at he, fun _ => ?_⟩
    split at hk
    · rename_i q n hx hf
      cases hs : shift (.v q) n with
      | none => rw [hs] at hk; exact hk.elim
      | some y =>
        rw [hs] at hk
        have hq := evalV_rel h hx
        obtain ⟨b, off, e1, e2⟩ := shift_rel (w := w) (r := .slot 0) (x := .v q) hq hs
        have hm : memB o.op = false := by rw [ho]; rfl
        refine ⟨.pointer (some ⟨b, off + n, none⟩), fun w' _ => ?_, put_xp h p hk (fun d _ => e2 _) fun t ht => ?_⟩
        · unfold execOp
          simp only [ho, e1, run_fieldAt hf, Sem.run_bind, Result.andThen_ok, Sem.run_pure]
        · cases hi : inO old x with
          | true =>
            rw [hi] at ht
            rcases addO_old ht with e | e
            · refine .inl ⟨e, fun z hz => ?_⟩
              obtain ⟨b', off', f1, f2⟩ := shift_rel (c := c0) (w := w0) (r := .slot 0) (x := .v q) (p.oldV hx hi) hs
              rw [e1] at f1
              cases f1
              have := f2 (.slot 0)
              rw [hz] at this
              exact this
            · exact .inr e
          | false =>
            rw [hi] at ht
            exact .inr (delO_old ht)
    · exact hk.elim
  · rename_i t x ix ho
    refine ⟨fun he => by simp [Mix.effB, ho] at he, fun _ => ?_⟩
    split at hk
    · rename_i n sz cs kd i e hx hi hu
      obtain ⟨h1, ⟨h2, h3⟩, hk⟩ := hk
      have hix : a.eval ix = .int kd i := Rel.exact (evalV_rel h hi) rfl
      have hr := evalV_rel h hx
      have mk : ∀ {I : Nat → Nat → Option Value} {φ : List Nat} {b off len cap : Nat}, Rel I φ (.sl n sz cs) (.slice (some ⟨b, off, none⟩) len cap) → len = n → Rel I φ (.rd (rowAt sz cs i)) (.pointer (some ⟨b, off + i.toNat * sz, none⟩)) := by
        intro I φ b off len cap hr hl
        cases hr with
        | sl r1 r2 r3 r4 r5 r6 =>
          refine Rel.rd ((r1.drop _).take _) (fun j u hu => ?_) (fun u hu => r6 u (List.mem_of_mem_drop (List.mem_of_mem_take hu)))
          rw [List.getElem?_take] at hu
          split at hu
          · rw [List.getElem?_drop] at hu
            rw [Nat.add_assoc]
            exact r2 _ u hu
          · cases hu
        | sl0 => omega
      obtain ⟨b, off, cap, hv⟩ : ∃ b off cap, a.eval x = .slice (some ⟨b, off, none⟩) n cap := by
        generalize a.eval x = v at hr
        cases hr with
        | sl r1 r2 r3 r4 r5 r6 => exact ⟨_, _, _, rfl⟩
        | sl0 => omega
      refine ⟨.pointer (some ⟨b, off + i.toNat * sz, none⟩), fun w' _ => ?_, put_xp h p hk (fun d _ => mk (hv ▸ hr) rfl) fun t ht => ?_⟩
      · unfold execOp
        simp only [ho, hv, hix, Sem.run_bind, run_indexAt hu h1 h2 h3, Result.andThen_ok, Sem.run_pure]
      · cases hio : inO old x with
        | true =>
          rw [hio] at ht
          rcases addO_old ht with e | e
          · refine .inl ⟨e, fun z hz => ?_⟩
            cases hz
            have := p.oldV hx hio
            exact mk (hv ▸ this) rfl
          · exact .inr e
        | false =>
          rw [hio] at ht
          exact .inr (delO_old ht)
    · rename_i q kd i n e hx hi hu
      cases hsz : sizeT P e with
      | none => rw [hsz] at hk; exact hk.elim
      | some sz =>
        rw [hsz] at hk
        simp only at hk
        cases hs : shift (.v q) (i.toNat * sz) with
        | none => rw [hs] at hk; exact hk.elim
        | some y =>
          rw [hs] at hk
          obtain ⟨⟨h2, h3⟩, hk⟩ := hk
          have hix : a.eval ix = .int kd i := Rel.exact (evalV_rel h hi) rfl
          have hq := evalV_rel h hx
          obtain ⟨b, off, e1, e2⟩ := shift_rel (w := w) (r := .slot 0) (x := .v q) hq hs
          refine ⟨.pointer (some ⟨b, off + i.toNat * sz, none⟩), fun w' _ => ?_, put_xp h p hk (fun d _ => e2 _) fun t ht => ?_⟩
          · unfold execOp
            simp only [ho, e1, hix, Sem.run_bind, run_indexAt_arr hu hsz h2 h3, Result.andThen_ok, Sem.run_pure]
          · cases hi' : inO old x with
            | true =>
              rw [hi'] at ht
              rcases addO_old ht with e | e
              · refine .inl ⟨e, fun z hz => ?_⟩
                obtain ⟨b', off', f1, f2⟩ := shift_rel (c := c0) (w := w0) (r := .slot 0) (x := .v q) (p.oldV hx hi') hs
                rw [e1] at f1
                cases f1
                have := f2 (.slot 0)
                rw [hz] at this
                exact this
              · exact .inr e
            | false =>
              rw [hi'] at ht
              exact .inr (delO_old ht)
    · exact hk.elim
  · obtain ⟨hm, hel, x, H', ha, hk⟩ := hk
    have hd := aop_does h ha
    unfold Does at hd
    have lift : ∀ (v : Value) (w' : World) (c' : Cx), Sim c' N ⟨putD o.dst x s.F, H'⟩ (a.put o.dst v) w' → Ext c w c' w' → Agree w0 w' → XP c0 H0 w0 N K (a.put o.dst v) w' := fun v w' c' k1 k2 hg =>
      ⟨c', _, delO o.dst old, k1, p.put (dst := o.dst) (y := x) (v := v) (H' := H') h (fun d hd => by
        have hsz := k1.size
        rw [hd] at k1
        obtain ⟨u, hu, _⟩ := k1.fr d x (by simp [putD, putF])
        have := (Array.getElem?_eq_some_iff.1 hu).1
        simp only [Act.put, Array.size_setIfInBounds] at this
        rw [h.size] at this
        exact this) k2 hg fun t ht => .inr (delO_old ht), hk⟩
    by_cases he : Mix.effB o = true
    · rw [if_pos he] at hd
      refine ⟨fun _ => ?_, fun e => by rw [he] at e; cases e⟩
      have hl := hel.resolve_left (by rw [he]; simp)
      have hlay := Mix.lays_of (P := P) hl a.eval
      unfold Acts Oper.wp at hd
      unfold Oper.wp
      cases hr : (execOp a.eval o).run P w with
      | halt x w' =>
        rw [hr] at hd
        cases x <;> first | exact hd.elim | exact hd
      | ok n w' =>
        obtain ⟨v, ob, rfl, rfl⟩ := hlay w n w' hr
        rw [hr, Oper.upon_value] at hd
        rw [Oper.upon_value]
        obtain ⟨c', s', k1, k2, rfl⟩ := hd
        have hag : Agree w0 (w.alloc ob) := fun b hb => (heap_alloc_lt (Nat.lt_of_lt_of_le hb p.ext.size)).trans (p.agree b hb)
        exact ⟨hag, lift v _ c' k1 k2 hag⟩
    · rw [if_neg he] at hd
      refine ⟨fun e => absurd e he, fun _ => ?_⟩
      obtain ⟨v, r1, c', s', k1, k2, rfl⟩ := hd
      exact ⟨v, fun w' _ => r1 w' (fun e => by rw [hm] at e; cases e), lift v w c' k1 k2 p.agree⟩

theorem xops_walk {ops : Array Oper} {Q : Exit → Act → World → Prop} {K : St → Prop} : ∀ {l : List Oper} {s : St} {c : Cx} {a : Act} {w : World} {old : List Nat}, Sim c N s a w → Past c0 H0 w0 old c s a w → xops P N ops.toList H0 l K old s → (∀ c' s' a' w', Sim c' N s' a' w' → Ext c0 w0 c' w' → K s' → Q .normal a' w') →
    Mix.walk P ops (fun _ w' => Agree w0 w') (fun w' => Agree w0 w') Q l a w
  | [], s, c, a, w, old, h, p, hk, hq => hq c s a w h p.ext hk
  | o :: l, s, c, a, w, old, h, p, hk, hq => by
    have cases' : (∃ s1 : St, Sim c N s1 a w ∧ Past c0 H0 w0 old c s1 a w ∧ Region.wanted o (yielded ops a.tmps) = true ∧ xop P N ops.toList H0 o old s1 (xops P N ops.toList H0 l K)) ∨
        (∃ s1 : St, Sim c N s1 a w ∧ Past c0 H0 w0 old c s1 a w ∧ Region.wanted o (yielded ops a.tmps) = false ∧ putK N o.dst (.v (.tup [])) s1 (xops P N ops.toList H0 l K (delO o.dst old))) := by
      unfold xops at hk
      cases hg : o.guard with
      | none => rw [hg] at hk; exact .inl ⟨s, h, p, by simp [Region.wanted, hg], hk⟩
      | some q =>
        obtain ⟨j, want⟩ := q
        rw [hg] at hk
        simp only at hk
        cases hd : (ops.toList[j]?).bind (·.dst) with
        | none => rw [hd] at hk; exact hk.elim
        | some t =>
          rw [hd] at hk
          simp only at hk
          have hd' : (ops[j]?).bind (·.dst) = some t := by simpa using hd
          split at hk
          · rename_i b hb
            obtain ⟨v, hv, hr⟩ := h.fr t _ (mem_getF hb)
            have e : v = .bool b := Rel.exact hr rfl
            subst e
            have hy := yielded_of hd' hv
            have plit : Past c0 H0 w0 old c ⟨setF t (.v (.sc (.bool b))) s.F, s.H⟩ a w := ⟨p.inv, p.ext, p.agree, fun t' y hy' ht' => by
              rcases mem_setF hy' with ⟨rfl, e⟩ | ⟨_, hy'⟩
              · cases e
                have : a.eval (.tmp t') = .bool b := by simp [Act.eval, hv]
                rw [this]
                exact .sc _
              · exact p.vals t' y hy' ht'⟩
            cases hbw : b == want with
            | true =>
              have e : b = want := by simpa using hbw
              subst e
              exact .inl ⟨_, h.lit hb, plit, by simp [Region.wanted, hg, hy, boolOf], hk.1 rfl⟩
            | false =>
              have e : b = !want := by cases b <;> cases want <;> simp_all
              subst e
              exact .inr ⟨_, h.lit hb, plit, by simp [Region.wanted, hg, hy, boolOf], hk.2 rfl⟩
          · rename_i hb
            obtain ⟨v, hv, hr⟩ := h.fr t _ (mem_getF hb)
            have e : v = .tuple #[] := Rel.exact hr rfl
            subst e
            have hy := yielded_of hd' hv
            exact .inr ⟨s, h, p, by simp [Region.wanted, hg, hy, boolOf], hk⟩
          · exact hk.elim
    unfold Mix.walk
    rcases cases' with ⟨s1, h, p, hw, hk⟩ | ⟨s1, h, p, hw, hk⟩
    · obtain ⟨h1, h2⟩ := xop_does h p hk
      by_cases he : Mix.effB o = true
      · rw [if_pos he]
        refine wpList_step fun K' hK' => ?_
        rw [if_pos hw]
        refine Mix.wp_of_eff (Mix.effS_mono (fun d v w' h2 => ?_) (Mix.eff_of_wp (h1 he)))
        obtain ⟨g1, c', s', old', k1, k2, k3⟩ := h2
        exact hK' _ _ (wpList_nil ⟨g1, xops_walk k1 k2 k3 hq⟩)
      · rw [if_neg he]
        obtain ⟨v, r1, c', s', old', k1, k2, k3⟩ := h2 (by simpa using he)
        refine wpQuiet_step fun K' hK' => ?_
        rw [if_pos hw]
        refine ⟨v, fun w' hw' => ?_, hK' _ (wpQuiet_nil (xops_walk k1 k2 k3 hq))⟩
        unfold Oper.quietAt
        rw [r1 w' hw']
        exact ⟨rfl, rfl⟩
    · obtain ⟨c', s', old', k1, k2, k3⟩ := put_xp h p hk (v := undef) (fun _ _ => Rel.tup (vs := #[]) .nil) fun t ht => .inr (delO_old ht)
      have h4 := xops_walk k1 k2 k3 hq
      by_cases he : Mix.effB o = true
      · rw [if_pos he]
        refine wpList_step fun K' hK' => ?_
        rw [if_neg (by rw [hw]; simp)]
        exact hK' _ _ (wpList_nil ⟨k2.agree, h4⟩)
      · rw [if_neg he]
        refine wpQuiet_step fun K' hK' => ?_
        rw [if_neg (by rw [hw]; simp)]
        exact hK' _ (wpQuiet_nil h4)

def keysF : Fr → List Nat
  | [] => []
  | (k, _) :: F => k :: keysF F
/-- Such a region, in the order of the text. -/
theorem AW.regionX {id : Nat} {ops : Array Oper} {F : Fr} {H : List Bk} {Q : Exit → St → Prop} (hm : P.follows .mixedOrders = true) (ho : Mix.mixOk 2 ops = true) (h : xops P N ops.toList H ops.toList (Q .normal) (keysF F) ⟨F, H⟩) : AW P N (.region id ops true) Q ⟨F, H⟩ := fun c a w hs => by
  have hs' := hs.drew
  have p : Past c H w.drew (keysF F) c ⟨F, H⟩ a w.drew := ⟨hs'.inv, Ext.refl c _, Agree.refl _, fun t y hy _ => by
    obtain ⟨v, hv, hr⟩ := hs'.fr t _ hy
    have : a.eval (.tmp t) = v := by simp [Act.eval, hv]
    rw [this]
    exact hr⟩
  have h1 := xops_walk (Q := PostE c w N Q) hs' p h fun c' s' a' w' k1 k2 k3 => ⟨c', s', k1, (Ext.drew c w).trans k2, k3⟩
  have := Mix.wp_region_walk (P := P) (id := id) (l := ops.toList) (Q := PostE c w N Q) (a := a) (w := w) (C := fun _ w' => Agree w.drew w') (J := fun w' => Agree w.drew w') (fun _ h => h) (ga := 2) (fun h => by cases h) (fun _ _ _ => Iff.rfl) hm (by simpa using ho) (Agree.refl _) (by simpa using h1)
  simpa using this
end
end AM
end Go.Proofs.Ytmjnffjacgjfmaa
namespace Go.Proofs.Ytmjnffjacgjfmaa
set_option linter.all false
namespace Mix
def mixTail (k0 : Nat) (ops : Array Oper) : Bool :=
  certOk ops (Region.before ops) &&
  (Region.noSelect ops &&
  ((ops.zipIdx.all fun (o, i) => o.after.all fun e => !Region.binds .any e || decide (e.on < i)) &&
  ((List.range ops.size).all fun i => (List.range ops.size).all fun j => !decide (i < j) || (bitOf (Region.before ops) j i ||
    (decide (j < k0) && match ops[i]?, ops[j]? with
     | some x, some y => x.apart ops y && pairOk 2 x y
     | _, _ => true)))))
structure StaticT (k0 : Nat) (ops : Array Oper) : Prop where
  cert : certOk ops (Region.before ops) = true
  sel : Region.noSelect ops = true
  back : ∀ (i : Nat) (o : Oper), ops[i]? = some o → ∀ e ∈ o.after, Region.binds .any e = true → e.on < i
  pairs : ∀ (i j : Nat) (x y : Oper), ops[i]? = some x → ops[j]? = some y → i < j → bitOf (Region.before ops) j i = true ∨ (j < k0 ∧ x.apart ops y = true ∧ pairOk 2 x y = true)
theorem staticT_of {k0 : Nat} {ops : Array Oper} (h : mixTail k0 ops = true) : StaticT k0 ops := by
  simp only [mixTail, Bool.and_eq_true] at h
  obtain ⟨h1, h2, h3, h4⟩ := h
  refine ⟨h1, h2, fun i o ho e he hb => ?_, fun i j x y hx hy hij => ?_⟩
  · have h5 := Array.all_eq_true_iff_forall_mem.1 h3 (o, i) (by
      rw [Array.mem_iff_getElem?]
      exact ⟨i, by simp [Array.getElem?_zipIdx, ho]⟩)
    have h6 := Array.all_eq_true_iff_forall_mem.1 h5 e he
    simpa [hb] using h6
  · have hi : i < ops.size := (Array.getElem?_eq_some_iff.1 hx).1
    have hj : j < ops.size := (Array.getElem?_eq_some_iff.1 hy).1
    have h5 := List.all_eq_true.1 (List.all_eq_true.1 h4 i (List.mem_range.2 hi)) j (List.mem_range.2 hj)
    simp only [hx, hy, hij, decide_true, Bool.not_true, Bool.false_or, Bool.or_eq_true, Bool.and_eq_true, decide_eq_true_eq] at h5
    rcases h5 with h5 | ⟨h5, h6, h7⟩
    · exact .inl h5
    · exact .inr ⟨h5, h6, h7⟩
section
variable {P : Program} {ops : Array Oper} {C1 C2 : World → World → Prop} {J1 : World → Prop} {k0 : Nat}
def cAt (C1 C2 : World → World → Prop) (k0 i : Nat) : World → World → Prop := if i < k0 then C1 else C2
def jAt (J1 : World → Prop) (k0 i : Nat) : World → Prop := if i < k0 then J1 else fun _ => True
def anyT (P : Program) (ops : Array Oper) (C1 C2 : World → World → Prop) (J1 : World → Prop) (k0 : Nat) (Q : Act → World → Prop) : Nat → Array Bool → Act → World → Prop
  | 0, listed, a, w => Region.ready .any ops listed = [] ∧ Q a w
  | fuel + 1, listed, a, w => (Region.ready .any ops listed = [] → Q a w) ∧ ∀ i ∈ Region.ready .any ops listed, mOp P ops (cAt C1 C2 k0 i) (jAt J1 k0 i) i (anyT P ops C1 C2 J1 k0 Q fuel (listed.setIfInBounds i true)) a w

theorem anyT_first (hC : ∀ w, J1 w → C1 w w) (hC2 : ∀ w, C2 w w) (hgx : ∀ w w', C1 w w' ↔ J1 w') (hst : StaticT k0 ops) {Q : Act → World → Prop} {i : Nat} {x : Oper} (hi : ops[i]? = some x) :
    ∀ (fuel : Nat) (listed : Array Bool) (a : Act) (w : World), jAt J1 k0 i w → Closed ops listed → (∀ m, m < i → listed.getD m false = true) → i ∈ Region.ready .any ops listed →
      mOp P ops (cAt C1 C2 k0 i) (jAt J1 k0 i) i (anyT P ops C1 C2 J1 k0 Q fuel (listed.setIfInBounds i true)) a w → anyT P ops C1 C2 J1 k0 Q (fuel + 1) listed a w := by
  have his : i < ops.size := (Array.getElem?_eq_some_iff.1 hi).1
  intro fuel
  induction fuel with
  | zero =>
    intro listed a w hw hcl hlow hr H
    refine ⟨fun h => (by rw [h] at hr; cases hr), fun j hj => ?_⟩
    by_cases hji : j = i
    · subst hji; exact H
    · obtain ⟨a', w', h0, _⟩ := mOp_witness hw H
      have := ready_mono hj hji
      rw [h0] at this
      cases this
  | succ fuel ih =>
    intro listed a w hw hcl hlow hr H
    refine ⟨fun h => (by rw [h] at hr; cases hr), fun j hj => ?_⟩
    by_cases hji : j = i
    · subst hji; exact H
    · obtain ⟨hjun, y, hy, hall⟩ := mem_ready.1 hj
      have hij : i < j := by
        rcases Nat.lt_or_ge i j with h | h
        · exact h
        · have h1 := hlow j (by omega)
          rcases Nat.lt_or_ge j listed.size with h' | h'
          · simp [h'] at hjun h1; rw [hjun] at h1; cases h1
          · simp [Array.getElem?_eq_none h'] at h1
      have hiun := (mem_ready.1 hr).1
      have hilt : i < listed.size := by
        rcases Nat.lt_or_ge i listed.size with h' | h'
        · exact h'
        · simp [Array.getElem?_eq_none h'] at hiun
      have hnb : ¬ bitOf (Region.before ops) j i = true := fun hb => by
        have h1 := cert_ready hst.cert hcl his hj hb
        simp [hilt] at hiun h1
        rw [hiun] at h1
        cases h1
      obtain ⟨hk, hap, hpk⟩ := (hst.pairs i j x y hi hy hij).resolve_left hnb
      have ci : cAt C1 C2 k0 i = C1 := by unfold cAt; rw [if_pos (by omega)]
      have ji : jAt J1 k0 i = J1 := by unfold jAt; rw [if_pos (by omega)]
      have cj : cAt C1 C2 k0 j = C1 := by unfold cAt; rw [if_pos hk]
      have jj : jAt J1 k0 j = J1 := by unfold jAt; rw [if_pos hk]
      rw [ci, ji] at H
      rw [ji] at hw
      have H2 : mOp P ops C1 J1 i (mOp P ops C1 J1 j (anyT P ops C1 C2 J1 k0 Q fuel ((listed.setIfInBounds i true).setIfInBounds j true))) a w :=
        mOp_mono hw (fun a' w' _ h => by have := h.2 j (ready_mono hj hji); rw [cj, jj] at this; exact this) H
      have H3 := mOp_swap hC (ga := 2) (fun e => by cases e) (fun _ => hgx) hi hy (fun cs b => Region.noSelect_spec hst.sel i x cs b hi) (fun cs b => Region.noSelect_spec hst.sel j y cs b hy) hap hpk hw H2
      rw [cj, jj]
      refine mOp_mono hw (fun a' w' hw' h => ih (listed.setIfInBounds j true) a' w' (by rw [ji]; exact hw') (hcl.set hj) (fun m hm => getD_set_true (hlow m hm)) (ready_mono hr (Ne.symm hji)) ?_) H3
      rw [ci, ji, Array.setIfInBounds_comm _ _ hji]
      exact h

/-- One step in the order of the text. -/
def stepW (P : Program) (ops : Array Oper) (C : World → World → Prop) (J : World → Prop) (K : Act → World → Prop) (o : Oper) (a : Act) (w : World) : Prop :=
  if effB o = true then wpList P ops (Exit.then (fun a w => J w ∧ K a w) bot) [o] a w else wpQuiet P ops (C w) (fun a' => K a' w) [o] a
theorem walk_step {C : World → World → Prop} {J : World → Prop} {Q : Exit → Act → World → Prop} {o : Oper} {rest : List Oper} {a : Act} {w : World} (h : walk P ops C J Q (o :: rest) a w) : stepW P ops C J (walk P ops C J Q rest) o a w := h
theorem mOp_of_step {C : World → World → Prop} {J : World → Prop} {K : Act → World → Prop} {i : Nat} {o : Oper} {a : Act} {w : World} (hi : ops[i]? = some o) (h : stepW P ops C J K o a w) : mOp P ops C J i K a w := by
  unfold stepW at h
  unfold mOp
  simp only [hi]
  by_cases he : effB o = true
  · rw [if_pos he] at h
    unfold wpList at h
    by_cases hw : Region.wanted o (yielded ops a.tmps) = true
    · rw [if_pos hw] at h
      rcases h with h | ⟨_, a0, w0, h⟩
      · rw [show kindOf ops o a = .eff by unfold kindOf; rw [if_pos hw, if_pos he]]
        exact eff_of_wp (K := fun a w => J w ∧ K a w) (Oper.wp_mono (fun a' w' h => h) (by
          refine Oper.wp_mono (K := wpList P ops (Exit.then (fun a w => J w ∧ K a w) bot) []) (fun a' w' h => h) ?_
          revert h
          unfold Oper.wp
          generalize (execOp a.eval o).run P w = r
          cases r with
          | ok n w' =>
            cases n <;> simp only [Oper.upon] <;> intro h <;> first
              | exact h
              | exact Calls.mono h (fun e w'' he => by
                  cases e with
                  | returned v => exact he
                  | panicked c => exact he
                  | outgrown => obtain ⟨_, _, he⟩ := he; exact he.elim)
          | halt x w' => cases x <;> simp only [Oper.upon] <;> intro h <;> exact h))
      · exact h.elim
    · rw [if_neg hw] at h
      rw [show kindOf ops o a = .skip by unfold kindOf; rw [if_neg hw]]
      exact (show J w ∧ K (a.put o.dst undef) w from h).2
  · have he' : effB o = false := by simpa using he
    rw [if_neg he] at h
    unfold wpQuiet at h
    by_cases hw : Region.wanted o (yielded ops a.tmps) = true
    · rw [if_pos hw] at h
      rw [show kindOf ops o a = .still by unfold kindOf; rw [if_pos hw, if_neg he]]
      obtain ⟨v, h1, h2⟩ := h
      refine ⟨v, fun w' hw' => ?_, h2⟩
      have h3 := h1 w' hw'
      unfold Oper.quietAt at h3
      cases hr : (execOp a.eval o).run P w' with
      | halt x w'' => rw [hr] at h3; simp only [Oper.quietUpon] at h3
      | ok n w'' =>
        rw [hr] at h3
        obtain ⟨u, rfl⟩ := value_of he' hr
        simp only [Oper.quietUpon] at h3
        obtain ⟨rfl, rfl⟩ := h3
        rfl
    · rw [if_neg hw] at h
      rw [show kindOf ops o a = .skip by unfold kindOf; rw [if_neg hw]]
      exact h

/-- The walk in the order of the text, from operation number k on. -/
def walkT (P : Program) (ops : Array Oper) (C1 C2 : World → World → Prop) (J1 : World → Prop) (k0 : Nat) (Q : Act → World → Prop) : Nat → List Oper → Act → World → Prop
  | _, [], a, w => Q a w
  | k, o :: rest, a, w => ops[k]? = some o ∧ mOp P ops (cAt C1 C2 k0 k) (jAt J1 k0 k) k (walkT P ops C1 C2 J1 k0 Q (k + 1) rest) a w
def endQ (K : Act → World → Prop) : Exit → Act → World → Prop
  | .normal => K
  | _ => fun _ _ => False
theorem walkT_post {Q : Exit → Act → World → Prop} : ∀ (post : List Oper) (k : Nat) (a : Act) (w : World), k0 ≤ k → (∀ j, post[j]? = ops[k + j]?) → walk P ops C2 (fun _ => True) Q post a w → walkT P ops C1 C2 J1 k0 (Q .normal) k post a w
  | [], k, a, w, hk, _, h => h
  | o :: post, k, a, w, hk, hl, h => by
    have h0 : ops[k]? = some o := by simpa using (hl 0).symm
    unfold walkT
    rw [show cAt C1 C2 k0 k = C2 by unfold cAt; rw [if_neg (by omega)], show jAt J1 k0 k = fun _ => True by unfold jAt; rw [if_neg (by omega)]]
    exact ⟨h0, mOp_mono trivial (fun a w _ h => walkT_post post (k + 1) a w (by omega) (fun j => by have := hl (j + 1); simpa [Nat.add_assoc, Nat.add_comm 1 j] using this) h) (mOp_of_step h0 (walk_step h))⟩
theorem walkT_pre {Q : Exit → Act → World → Prop} {post : List Oper} : ∀ (pre : List Oper) (k : Nat) (a : Act) (w : World), k + pre.length = k0 → (∀ j, (pre ++ post)[j]? = ops[k + j]?) → J1 w → walk P ops C1 J1 (endQ (walk P ops C2 (fun _ => True) Q post)) pre a w → walkT P ops C1 C2 J1 k0 (Q .normal) k (pre ++ post) a w
  | [], k, a, w, hk, hl, _, h => by
    simp only [List.length_nil, Nat.add_zero] at hk
    exact walkT_post post k a w (by omega) hl h
  | o :: pre, k, a, w, hk, hl, hw, h => by
    have h0 : ops[k]? = some o := by simpa using (hl 0).symm
    simp only [List.length_cons] at hk
    rw [List.cons_append]
    unfold walkT
    rw [show cAt C1 C2 k0 k = C1 by unfold cAt; rw [if_pos (by omega)], show jAt J1 k0 k = J1 by unfold jAt; rw [if_pos (by omega)]]
    exact ⟨h0, mOp_mono hw (fun a w hw' h => walkT_pre pre (k + 1) a w (by omega) (fun j => by have := hl (j + 1); simpa [Nat.add_assoc, Nat.add_comm 1 j] using this) hw' h) (mOp_of_step h0 (walk_step h))⟩

theorem anyT_of_walk (hC : ∀ w, J1 w → C1 w w) (hC2 : ∀ w, C2 w w) (hgx : ∀ w w', C1 w w' ↔ J1 w') (hst : StaticT k0 ops) {Q : Act → World → Prop} :
    ∀ (l : List Oper) (k : Nat) (listed : Array Bool) (a : Act) (w : World), (∀ j, l[j]? = ops[k + j]?) → k + l.length = ops.size → listed.size = ops.size →
      (∀ m, m < ops.size → listed.getD m true = decide (m < k)) → (k < k0 → J1 w) → walkT P ops C1 C2 J1 k0 Q k l a w → anyT P ops C1 C2 J1 k0 Q l.length listed a w := by
  intro l
  induction l with
  | nil =>
    intro k listed a w hl hk hs hls hw h
    refine ⟨?_, h⟩
    rw [List.eq_nil_iff_forall_not_mem]
    intro j hj
    obtain ⟨h1, o, ho, _⟩ := mem_ready.1 hj
    have hjs : j < ops.size := (Array.getElem?_eq_some_iff.1 ho).1
    rw [hls j hjs] at h1
    simp only [List.length_nil, Nat.add_zero] at hk
    simp at h1
    omega
  | cons o rest ih =>
    intro k listed a w hl hk hs hls hw h
    have h0 : ops[k]? = some o := by simpa using (hl 0).symm
    have hks : k < ops.size := (Array.getElem?_eq_some_iff.1 h0).1
    have both : ∀ m, m < ops.size → listed.getD m false = listed.getD m true := fun m hm => by simp [hs, hm]
    have hr : k ∈ Region.ready .any ops listed := by
      rw [mem_ready]
      refine ⟨by rw [hls k hks]; simp, o, h0, fun e he hb => ?_⟩
      have := hst.back k o h0 e he hb
      rw [both e.on (by omega), hls e.on (by omega)]
      simpa using this
    have hcl : Closed ops listed := by
      intro j oj hj hlj e he hb
      have hjs : j < ops.size := (Array.getElem?_eq_some_iff.1 hj).1
      have := hst.back j oj hj e he hb
      rw [both j hjs, hls j hjs] at hlj
      rw [both e.on (by omega), hls e.on (by omega)]
      simp at hlj ⊢
      omega
    have hjk : jAt J1 k0 k w := by
      unfold jAt
      split
      · exact hw ‹_›
      · trivial
    refine anyT_first hC hC2 hgx hst h0 rest.length listed a w hjk hcl (fun m hm => by rw [both m (by omega), hls m (by omega)]; simpa using hm) hr ?_
    refine mOp_mono hjk (fun a' w' hw' h' => ?_) h.2
    refine ih (k + 1) (listed.setIfInBounds k true) a' w' (fun j => by have := hl (j + 1); simpa [Nat.add_assoc, Nat.add_comm 1 j] using this) (by simp only [List.length_cons] at hk; omega) (by simpa using hs) (fun m hm => ?_) (fun hk1 => ?_) h'
    · by_cases hmk : k = m
      · subst hmk
        simp [hs, hks]
      · rw [getD_set_ne true hmk, hls m hm]
        simp only [decide_eq_decide]
        omega
    · unfold jAt at hw'
      rw [if_pos (by omega)] at hw'
      exact hw'

theorem any_of_anyT (hC : ∀ w, J1 w → C1 w w) (hC2 : ∀ w, C2 w w) (hst : StaticT k0 ops) {Q : Exit → Act → World → Prop} : ∀ (fuel : Nat) (listed : Array Bool) (a : Act) (w : World), Closed ops listed → listed.size = ops.size → ((∃ i, i < k0 ∧ i < ops.size ∧ listed.getD i false = false) → J1 w) → anyT P ops C1 C2 J1 k0 (Q .normal) fuel listed a w →
    wpAny P .any ops (Exit.then (Q .normal) bot) fuel listed a w
  | 0, _, _, _, _, _, _, h => h
  | fuel + 1, listed, a, w, hcl, hs, hJ, h => by
    refine ⟨h.1, fun i hi => ?_⟩
    obtain ⟨hiun, oi, hoi, _⟩ := mem_ready.1 hi
    have his : i < ops.size := (Array.getElem?_eq_some_iff.1 hoi).1
    have hif : listed.getD i false = false := by simpa [hs, his] using hiun
    have hjw : jAt J1 k0 i w := by
      unfold jAt
      split
      · exact hJ ⟨i, ‹_›, his, hif⟩
      · trivial
    have hcw : cAt C1 C2 k0 i w w := by
      unfold cAt
      split
      · exact hC w (hJ ⟨i, ‹_›, his, hif⟩)
      · exact hC2 w
    have h1 := mOp_mono hjw (fun a w hw h => any_of_anyT hC hC2 hst (Q := Q) fuel _ a w (hcl.set hi) (by simpa using hs) (by
      rintro ⟨m, hm, hms, hmf⟩
      by_cases hik : i < k0
      · unfold jAt at hw
        rw [if_pos hik] at hw
        exact hw
      · exfalso
        have hmi : m < i := by omega
        obtain ⟨om, hom⟩ : ∃ om, ops[m]? = some om := ⟨_, Array.getElem?_eq_getElem hms⟩
        have hb := (hst.pairs m i om oi hom hoi hmi).resolve_right (fun e => hik e.1)
        have h1 := cert_ready hst.cert hcl hms hi hb
        have h2 := getD_set_true (i := i) h1
        rw [h2] at hmf
        cases hmf) h) (h.2 i hi)
    unfold mOp at h1
    unfold wpOp
    cases ho : ops[i]? with
    | none => rw [ho] at h1; exact h1
    | some o =>
      simp only [ho] at h1 ⊢
      unfold kindOf at h1
      by_cases hw : Region.wanted o (yielded ops a.tmps) = true
      · rw [if_pos hw] at h1
        rw [if_pos hw]
        by_cases he : effB o = true
        · rw [if_pos he] at h1
          exact .inl (wp_of_eff (effS_mono (P := P) (K := fun d v w' => jAt J1 k0 i w' ∧ wpAny P .any ops (Exit.then (Q .normal) bot) fuel (listed.setIfInBounds i true) (putD a o.dst d v) w') (fun d v w h => h.2) h1))
        · rw [if_neg he] at h1
          obtain ⟨v, h2, h3⟩ := h1
          refine .inl ?_
          unfold Oper.wp
          rw [h2 w hcw]
          exact h3
      · rw [if_neg hw] at h1
        rw [if_neg hw]
        exact h1
end
theorem wp_region_tail {P : Program} {C1 C2 : World → World → Prop} {J1 : World → Prop} (hC : ∀ w, J1 w → C1 w w) (hC2 : ∀ w, C2 w w) (hgx : ∀ w w', C1 w w' ↔ J1 w') {id : Nat} {pre post : List Oper} {Q : Exit → Act → World → Prop} {a : Act} {w : World}
    (hm : P.follows .mixedOrders = true) (hB : mixTail pre.length (pre ++ post).toArray = true) (hw : J1 w.drew) (h : walk P (pre ++ post).toArray C1 J1 (endQ (walk P (pre ++ post).toArray C2 (fun _ => True) Q post)) pre a w.drew) : (Code.region id (pre ++ post).toArray true).wp P Q a w := by
  have hst := staticT_of hB
  have h0 := walkT_pre (k0 := pre.length) pre 0 a w.drew (by simp) (fun j => by simp) hw h
  have h1 := anyT_of_walk hC hC2 hgx hst (pre ++ post) 0 (Array.replicate (pre ++ post).toArray.size false) a w.drew (by simp) (by simp) (by simp) (fun m hm => by simp at hm; simp [hm]) (fun _ => hw) h0
  have h2 := any_of_anyT hC hC2 hst (Q := Q) _ _ _ _ (by
    intro j o hj hl e he hb
    have hjs : j < (pre ++ post).toArray.size := (Array.getElem?_eq_some_iff.1 hj).1
    simp at hjs hl
    simp [hjs] at hl) (by simp) (fun _ => hw) h1
  refine Code.wp_mono (Q := Exit.then (Q .normal) bot) (fun e a w h => ?_) (wp_region_any hm (by simpa using h2))
  cases e <;> first | exact h | exact h.elim
end Mix
end Go.Proofs.Ytmjnffjacgjfmaa
namespace Go.Proofs.Ytmjnffjacgjfmaa
set_option linter.all false
open Go.RowKit
namespace AM

mutual
/-- A value that the blocks' places settle. -/
def V.fixed : V → Bool
  | .sc _ => true
  | .agg cs => V.fixedL cs
  | .tup cs => V.fixedL cs
  | .nil => true
  | .ptr _ _ => true
  | .map _ => true
  | .iface _ x => x.fixed
  | .fn _ first cap => V.fixedL first && V.fixedL cap
  | _ => false
def V.fixedL : List V → Bool
  | [] => true
  | x :: xs => x.fixed && V.fixedL xs
end
section
variable {I I' : Nat → Nat → Option Value} {φ φ' : List Nat}
mutual
theorem Rel.same (hφ : ∀ id b : Nat, φ[id]? = some b → φ'[id]? = some b) : ∀ {x : V} {v v' : Value}, Rel I φ x v → Rel I' φ' x v' → x.fixed = true → v' = v
  | _, _, _, .sc v, h, _ => by cases h; rfl
  | _, _, _, .agg hl, h, hf => by
    cases h with
    | agg hl' =>
      have := RelL.same hφ hl hl' (by simpa [V.fixed] using hf)
      rw [Array.toList_inj.1 this]
  | _, _, _, .tup hl, h, hf => by
    cases h with
    | tup hl' =>
      have := RelL.same hφ hl hl' (by simpa [V.fixed] using hf)
      rw [Array.toList_inj.1 this]
  | _, _, _, .nil, h, _ => by cases h; rfl
  | _, _, _, .ptr hb, h, _ => by
    cases h with
    | ptr hb' =>
      have := hφ _ _ hb
      rw [hb'] at this
      cases this
      rfl
  | _, _, _, .map hb, h, _ => by
    cases h with
    | map hb' =>
      have := hφ _ _ hb
      rw [hb'] at this
      cases this
      rfl
  | _, _, _, .iface hx, h, hf => by
    cases h with
    | iface hx' => rw [Rel.same hφ hx hx' (by simpa [V.fixed] using hf)]
  | _, _, _, .fn h1 h2, h, hf => by
    simp only [V.fixed, Bool.and_eq_true] at hf
    cases h with
    | fn h1' h2' =>
      rw [Array.toList_inj.1 (RelL.same hφ h1 h1' hf.1), Array.toList_inj.1 (RelL.same hφ h2 h2' hf.2)]
  | _, _, _, .sl .., _, hf => by simp [V.fixed] at hf
  | _, _, _, .sl0, _, hf => by simp [V.fixed] at hf
  | _, _, _, .rd .., _, hf => by simp [V.fixed] at hf
  | _, _, _, .fs .., _, hf => by simp [V.fixed] at hf
  | _, _, _, .fs0, _, hf => by simp [V.fixed] at hf
  | _, _, _, .slb .., _, hf => by simp [V.fixed] at hf
  | _, _, _, .slb0, _, hf => by simp [V.fixed] at hf
theorem RelL.same (hφ : ∀ id b : Nat, φ[id]? = some b → φ'[id]? = some b) : ∀ {xs : List V} {vs vs' : List Value}, RelL I φ xs vs → RelL I' φ' xs vs' → V.fixedL xs = true → vs' = vs
  | _, _, _, .nil, h, _ => by cases h; rfl
  | _, _, _, .cons h1 h2, h, hf => by
    simp only [V.fixedL, Bool.and_eq_true] at hf
    cases h with
    | cons h1' h2' => rw [Rel.same hφ h1 h1' hf.1, RelL.same hφ h2 h2' hf.2]
end
end
/-- A block of cells that the blocks' places settle. -/
def exactB : List SV → Bool
  | [] => true
  | .v x :: ks => x.fixed && exactB ks
  | _ :: _ => false
/-- Such blocks stay as they were. -/
def keepS (H0 H : List Bk) : Prop := ∀ (id : Nat) (ks : List SV), H0[id]? = some (Bk.cells ks) → exactB ks = true → H[id]? = some (Bk.cells ks)
@[simp] theorem keepS_refl {H : List Bk} : keepS H H = True := eq_true fun _ _ h _ => h
@[simp] theorem keepS_app {H L : List Bk} : keepS H (H ++ L) = True := eq_true fun id ks h _ => by
  rw [List.getElem?_append_left (List.getElem?_eq_some_iff.1 h).1]; exact h
theorem keepS.trans {H H1 H2 : List Bk} (h : keepS H H1) (k : keepS H1 H2) : keepS H H2 := fun id ks h0 he => k id ks (h id ks h0 he) he

def oldO (old : List (Nat × V)) : Operand → Option V
  | .tmp t => (old.find? fun p => p.1 == t).map (·.2)
  | _ => none
def dropO (dst : Option Tmp) (old : List (Nat × V)) : List (Nat × V) := match dst with
  | some d => old.filter fun p => !(p.1 == d)
  | none => old
def takeO (dst : Option Tmp) (y : Option V) (old : List (Nat × V)) : List (Nat × V) := match dst, y with
  | some d, some y => (d, y) :: dropO (some d) old
  | d, _ => dropO d old
def oldL (F : Fr) : List Nat → List (Nat × V)
  | [] => []
  | t :: ts => match getF t F with
    | some (.v y) => (t, y) :: oldL F ts
    | _ => oldL F ts
/-- What may be read beside calls: cells that never turn, and blocks that stand whole. -/
def yload (P : Program) (N : Nat) (H0 : List Bk) (dst : Option Tmp) (t : TypeId) (x : Operand) (old : List (Nat × V)) (s : St) (K : List (Nat × V) → St → Prop) : Prop := match oldO old x, aggT P t, sizeT P t with
  | some (.ptr id off), some agg, some n => match H0[id]? with
    | some (.cells ks) => exactB ks = true ∧ (match ldV agg n (plains (ks.drop off)) with
      | some y => putK N dst (.v y) s (K (takeO dst (some y) old))
      | none => False)
    | _ => False
  | some (.rd cs), some agg, some n => match ldV agg n cs with
    | some y => putK N dst (.v y) s (K (takeO dst (some y) old))
    | none => False
  | _, _, _ => False
def yindex (P : Program) (N : Nat) (dst : Option Tmp) (t : TypeId) (x ix : Operand) (old : List (Nat × V)) (s : St) (K : List (Nat × V) → St → Prop) : Prop := match evalV s x, evalV s ix, P.underlying t with
  | some (.sl n sz cs), some (.sc (.int _ i)), some (.slice e) => sizeT P e = some sz ∧ (0 ≤ i ∧ i < n) ∧ putK N dst (.v (.rd (rowAt sz cs i))) s (K (match oldO old x with
      | some (.sl m sz' cs') => bif decide (m = n) && decide (sz' = sz) then takeO dst (some (.rd (rowAt sz cs' i))) old else dropO dst old
      | _ => dropO dst old))
  | _, _, _ => False
def yfield (P : Program) (N : Nat) (dst : Option Tmp) (t : TypeId) (x : Operand) (f : Nat) (old : List (Nat × V)) (s : St) (K : List (Nat × V) → St → Prop) : Prop := match evalV s x, fieldT P t f with
  | some p, some n => match shift (.v p) n with
    | some y => putK N dst y s (K (match oldO old x with
      | some q => (match shift (.v q) n with
        | some (.v z) => takeO dst (some z) old
        | _ => dropO dst old)
      | none => dropO dst old))
    | none => False
  | _, _ => False
def ylen (P : Program) (N : Nat) (dst : Option Tmp) (args : List Operand) (ts : List TypeId) (old : List (Nat × V)) (s : St) (K : List (Nat × V) → St → Prop) : Prop := match args, ts with
  | [x], [t] => match evalV s x, P.underlying t with
    | some p, some (.slice _) => match lenV (.v p) with
      | some n => putK N dst (.v (.sc (.int .i64 n))) s (K (dropO dst old))
      | none => False
    | _, _ => False
  | _, _ => False
def yop (P : Program) (N : Nat) (ops : List Oper) (H0 : List Bk) (o : Oper) (old : List (Nat × V)) (s : St) (K : List (Nat × V) → St → Prop) : Prop := match o.op with
  | .load t x => yload P N H0 o.dst t x old s K
  | .move x => match evalV s x with
    | some y => putK N o.dst (.v y) s (K (takeO o.dst (oldO old x) old))
    | none => False
  | .nilCheck x => match evalV s x with
    | some (.ptr id off) => putK N o.dst (.v (.ptr id off)) s (K (takeO o.dst (oldO old x) old))
    | some (.rd cs) => putK N o.dst (.v (.rd cs)) s (K (takeO o.dst (oldO old x) old))
    | _ => memB o.op = false ∧ aop P N ops o s (fun s' => keepS H0 s'.H ∧ K (dropO o.dst old) s')
  | .fieldAddr t x f => yfield P N o.dst t x f old s K
  | .indexAddr t x ix => yindex P N o.dst t x ix old s K
  | .call { callee := .builtin .len, args, argTypes } => ylen P N o.dst args.toList argTypes.toList old s K
  | op => memB op = false ∧ aop P N ops o s (fun s' => keepS H0 s'.H ∧ K (dropO o.dst old) s')
def yops (P : Program) (N : Nat) (ops : List Oper) (H0 : List Bk) : List Oper → (St → Prop) → List (Nat × V) → St → Prop
  | [], K, _, s => K s
  | o :: rest, K, old, s => match o.guard with
    | none => yop P N ops H0 o old s (yops P N ops H0 rest K)
    | some (j, want) => match (ops[j]?).bind (·.dst) with
      | some t => match getF t s.F with
        | some (.v (.sc (.bool b))) => gd b want (yop P N ops H0 o old ⟨setF t (.v (.sc (.bool want))) s.F, s.H⟩ (yops P N ops H0 rest K)) (putK N o.dst (.v (.tup [])) ⟨setF t (.v (.sc (.bool (!want)))) s.F, s.H⟩ (yops P N ops H0 rest K (dropO o.dst old)))
        | some (.v (.tup [])) => putK N o.dst (.v (.tup [])) s (yops P N ops H0 rest K (dropO o.dst old))
        | _ => False
      | none => False
section
variable {P : Program} {N : Nat} {ops rest : List Oper} {H0 H : List Bk} {F : Fr} {o : Oper} {old : List (Nat × V)} {K : St → Prop} {K' : List (Nat × V) → St → Prop}
theorem yops_nil' : yops P N ops H0 [] K old ⟨F, H⟩ = K ⟨F, H⟩ := rfl
theorem yops_cons' : yops P N ops H0 (o :: rest) K old ⟨F, H⟩ = match o.guard with
    | none => yop P N ops H0 o old ⟨F, H⟩ (yops P N ops H0 rest K)
    | some (j, want) => match (ops[j]?).bind (·.dst) with
      | some t => match getF t F with
        | some (.v (.sc (.bool b))) => gd b want (yop P N ops H0 o old ⟨setF t (.v (.sc (.bool want))) F, H⟩ (yops P N ops H0 rest K)) (putK N o.dst (.v (.tup [])) ⟨setF t (.v (.sc (.bool (!want)))) F, H⟩ (yops P N ops H0 rest K (dropO o.dst old)))
        | some (.v (.tup [])) => putK N o.dst (.v (.tup [])) ⟨F, H⟩ (yops P N ops H0 rest K (dropO o.dst old))
        | _ => False
      | none => False := rfl
theorem yop' : yop P N ops H0 o old ⟨F, H⟩ K' = match o.op with
  | .load t x => yload P N H0 o.dst t x old ⟨F, H⟩ K'
  | .move x => match evalV ⟨F, H⟩ x with
    | some y => putK N o.dst (.v y) ⟨F, H⟩ (K' (takeO o.dst (oldO old x) old))
    | none => False
  | .nilCheck x => match evalV ⟨F, H⟩ x with
    | some (.ptr id off) => putK N o.dst (.v (.ptr id off)) ⟨F, H⟩ (K' (takeO o.dst (oldO old x) old))
    | some (.rd cs) => putK N o.dst (.v (.rd cs)) ⟨F, H⟩ (K' (takeO o.dst (oldO old x) old))
    | _ => memB o.op = false ∧ aop P N ops o ⟨F, H⟩ (fun s' => keepS H0 s'.H ∧ K' (dropO o.dst old) s')
  | .fieldAddr t x f => yfield P N o.dst t x f old ⟨F, H⟩ K'
  | .indexAddr t x ix => yindex P N o.dst t x ix old ⟨F, H⟩ K'
  | .call { callee := .builtin .len, args, argTypes } => ylen P N o.dst args.toList argTypes.toList old ⟨F, H⟩ K'
  | op => memB op = false ∧ aop P N ops o ⟨F, H⟩ (fun s' => keepS H0 s'.H ∧ K' (dropO o.dst old) s') := rfl
end

section
variable {P : Program} {c c0 : Cx} {N : Nat} {s : St} {a : Act} {w w0 : World} {H0 : List Bk} {old : List (Nat × V)}

/-- A world in which what is read beside calls lies as it lay. -/
def JY (c0 : Cx) (H0 : List Bk) (w0 w : World) : Prop :=
  (∀ b o v, c0.I b o = some v → w.cell? ⟨b, o, none⟩ = some v) ∧ ∀ (id b : Nat) (ks : List SV) (o : Nat) (v : Value), c0.φ[id]? = some b → H0[id]? = some (Bk.cells ks) → exactB ks = true → w0.cell? ⟨b, o, none⟩ = some v → w.cell? ⟨b, o, none⟩ = some v
theorem JY.start (h : Inv c0 H0 w0) : JY c0 H0 w0 w0 := ⟨h.imm, fun _ _ _ _ _ _ _ _ h => h⟩
theorem exactB_get : ∀ {ks : List SV} {o : Nat} {x : SV}, exactB ks = true → ks[o]? = some x → ∃ y, x = .v y ∧ y.fixed = true
  | [], o, x, _, h => by simp at h
  | k :: ks, o, x, he, h => by
    cases k with
    | v y =>
      simp only [exactB, Bool.and_eq_true] at he
      cases o with
      | zero =>
        simp at h
        subst h
        exact ⟨y, rfl, he.1⟩
      | succ o => exact exactB_get he.2 (by simpa using h)
    | _ => simp [exactB] at he
/-- Cells of such a block, in two worlds. -/
theorem exact_cells {c' : Cx} {H' : List Bk} {w' : World} {id b : Nat} {ks : List SV} (h : Inv c H0 w) (h' : Inv c' H' w') (hφ : ∀ id b : Nat, c.φ[id]? = some b → c'.φ[id]? = some b) (hb : c.φ[id]? = some b) (hb' : c'.φ[id]? = some b) (hk : H0[id]? = some (.cells ks)) (hk' : H'[id]? = some (.cells ks)) (he : exactB ks = true) {o : Nat} {v : Value} (hv : w.cell? ⟨b, o, none⟩ = some v) : w'.cell? ⟨b, o, none⟩ = some v := by
  obtain ⟨_, _, arr, e, g1, g2, _, g3⟩ := h.blk id b _ hb hk
  obtain ⟨_, _, arr', e', q1, q2, _, q3⟩ := h'.blk id b _ hb' hk'
  have hv' : arr[o]? = some v := by simpa [World.cell?, g1] using hv
  have hlt : o < arr.size := (Array.getElem?_eq_some_iff.1 hv').1
  have hko : ks[o]? = some ks[o] := List.getElem?_eq_getElem (by omega)
  have ho' : arr'[o]? = some arr'[o] := Array.getElem?_eq_getElem (by omega)
  obtain ⟨y, hy, hu⟩ := exactB_get he hko
  have r1 := (g3 o _ _ hko hv').2
  have r2 := (q3 o _ _ hko ho').2
  rw [hy] at r1 r2
  have e1 : arr'[o] = v := Rel.same hφ r1 r2 hu
  simp only [World.cell?, q1, Option.isSome_none, Bool.false_eq_true, if_false]
  rw [ho', e1]
theorem JY.next (h0 : Inv c0 H0 w0) (hs : Sim c N s a w) (hx : Ext c0 w0 c w) (hk : keepS H0 s.H) : JY c0 H0 w0 w :=
  ⟨fun b o v hv => hs.inv.imm b o v (hx.imm b o v hv), fun id b ks o v hb hid he hv => exact_cells h0 hs.inv hx.phi hb (hx.phi id b hb) hid (hk id ks hid he) he hv⟩

structure PastY (c0 : Cx) (H0 : List Bk) (w0 : World) (old : List (Nat × V)) (c : Cx) (a : Act) (w : World) : Prop where
  inv : Inv c0 H0 w0
  ext : Ext c0 w0 c w
  j : JY c0 H0 w0 w
  vals : ∀ p ∈ old, Rel c0.I c0.φ p.2 (a.eval (.tmp p.1))
theorem PastY.look {x : Operand} {y : V} (h : PastY c0 H0 w0 old c a w) (hx : oldO old x = some y) : Rel c0.I c0.φ y (a.eval x) := by
  unfold oldO at hx
  cases x with
  | tmp t =>
    simp only at hx
    cases hf : old.find? (fun p => p.1 == t) with
    | none => rw [hf] at hx; cases hx
    | some p =>
      rw [hf] at hx
      cases hx
      have h1 := h.vals p (List.mem_of_find?_eq_some hf)
      have h2 := List.find?_some hf
      simp at h2
      rw [h2] at h1
      exact h1
  | _ => cases hx
def YP (c0 : Cx) (H0 : List Bk) (w0 : World) (N : Nat) (K : List (Nat × V) → St → Prop) (a' : Act) (w' : World) : Prop := ∃ c' s' old', Sim c' N s' a' w' ∧ PastY c0 H0 w0 old' c' a' w' ∧ K old' s'
theorem dropO_mem {dst : Option Tmp} {p : Nat × V} (h : p ∈ dropO dst old) : dst ≠ some p.1 ∧ p ∈ old := by
  cases dst with
  | none => exact ⟨by simp, h⟩
  | some d =>
    simp only [dropO, List.mem_filter] at h
    refine ⟨fun e => ?_, h.1⟩
    cases e
    simp at h
/-- A slot is filled; what was known of others stays known. -/
theorem PastY.put {dst : Option Tmp} {v : Value} {c' : Cx} {w' : World} (p : PastY c0 H0 w0 old c a w) (hx : Ext c w c' w') (hj : JY c0 H0 w0 w') : PastY c0 H0 w0 (dropO dst old) c' (a.put dst v) w' :=
  ⟨p.inv, p.ext.trans hx, hj, fun q hq => by
    obtain ⟨h1, h2⟩ := dropO_mem hq
    have : (a.put dst v).eval (.tmp q.1) = a.eval (.tmp q.1) := Act.eval_put fun d' hd' e' => by cases hd'; cases e'; exact h1 rfl
    rw [this]
    exact p.vals q h2⟩
theorem put_yp {dst : Option Tmp} {y : SV} {z : Option V} {v : Value} {K : List (Nat × V) → St → Prop} (h : Sim c N s a w) (p : PastY c0 H0 w0 old c a w) (hk : putK N dst y s (K (takeO dst z old))) (hx : ∀ d, dst = some d → SRel c w (.slot d) y v)
    (hz : ∀ z', z = some z' → Rel c0.I c0.φ z' v) : YP c0 H0 w0 N K (a.put dst v) w := by
  cases dst with
  | none => exact ⟨c, s, _, h, p.put (dst := none) (Ext.refl c w) p.j, hk⟩
  | some d =>
    obtain ⟨h1, h2, h3⟩ := hk
    have h4 := Sim.put (F := s.F) (H := s.H) h h1 (fitB_fit h2) (hx d rfl)
    have p1 : PastY c0 H0 w0 (dropO (some d) old) (c.free (.slot d)) (a.put (some d) v) w := p.put (Ext.free c w _) p.j
    cases z with
    | none => exact ⟨_, _, _, h4, p1, h3⟩
    | some z' =>
      refine ⟨_, _, _, h4, ⟨p1.inv, p1.ext, p1.j, fun q hq => ?_⟩, h3⟩
      have hlt : d < a.tmps.size := by rw [h.size]; exact h1
      have ev : (a.put (some d) v).eval (.tmp d) = v := by simp [Act.eval, Act.put, hlt]
      simp only [takeO, List.mem_cons] at hq
      rcases hq with rfl | hq
      · rw [ev]; exact hz z' rfl
      · exact p1.vals q hq
theorem put_yp' {dst : Option Tmp} {y : SV} {v : Value} {K : List (Nat × V) → St → Prop} (h : Sim c N s a w) (p : PastY c0 H0 w0 old c a w) (hk : putK N dst y s (K (dropO dst old))) (hx : ∀ d, dst = some d → SRel c w (.slot d) y v) : YP c0 H0 w0 N K (a.put dst v) w := by
  refine put_yp (z := none) h p ?_ hx (fun z' e => by cases e)
  have : takeO dst none old = dropO dst old := by cases dst <;> rfl
  rw [this]
  exact hk
theorem run_loadAt' {t : TypeId} {agg : Bool} {n b off : Nat} {cs : List V} {vs : List Value} {y : V} {I : Nat → Nat → Option Value} {φ : List Nat} (ha : aggT P t = some agg) (hn : sizeT P t = some n) (hr : RelL I φ cs vs)
    (hy : ldV agg n cs = some y) : ∃ v, Rel I φ y v ∧ ∀ w', (∀ j u, vs[j]? = some u → w'.cell? ⟨b, off + j, none⟩ = some u) → (Instr.loadAt t (.pointer (some ⟨b, off, none⟩))).run P w' = .ok v w' := by
  unfold ldV at hy
  cases agg with
  | true =>
    simp only [cond_true] at hy
    cases hle : Nat.ble n cs.length with
    | false => rw [hle] at hy; cases hy
    | true =>
      rw [hle] at hy
      cases hy
      have hle : n ≤ cs.length := Nat.le_of_ble_eq_true hle
      refine ⟨.agg (vs.take n).toArray, .agg (by simpa using hr.take n), fun w' hc => ?_⟩
      have h1 := run_loadCellsFrom (P := P) (w := w') (b := b) (off := off) n 0 #[] (vs.take n) (by rw [List.length_take, ← hr.len]; omega) (fun j u hu => by
        rw [List.getElem?_take] at hu
        split at hu
        · exact hc j u hu
        · cases hu)
      simp only [Instr.loadAt, Instr.sureAddr, Sem.run_bind, Sem.run_pure, Result.andThen_ok, loadVar, run_isAgg ha, if_true, run_sizeOf hn, loadCells, h1, Array.empty_append]
  | false =>
    simp only [cond_false] at hy
    cases cs with
    | nil => cases hy
    | cons x xs =>
      cases hy
      cases hr with
      | cons h1 h2 =>
        rename_i v vs
        refine ⟨v, h1, fun w' hc => ?_⟩
        have h3 := hc 0 v rfl
        simp only [Nat.add_zero] at h3
        simp only [Instr.loadAt, Instr.sureAddr, Sem.run_bind, Sem.run_pure, Result.andThen_ok, loadVar, run_isAgg ha, Bool.false_eq_true, if_false]
        simp [load, Sem.run, h3]
/-- What one effect does leaves other slots as they are. -/
theorem wp_others {o : Oper} {Q : Act → World → Prop} (h : Acts P o a w Q) : o.wp P a w (fun a' w' => Q a' w' ∧ ∀ t, o.dst ≠ some t → a'.eval (.tmp t) = a.eval (.tmp t)) Mix.bot := by
  refine Mix.wp_of_eff (Mix.effS_mono (fun d v w' h2 => ⟨h2, fun t ht => ?_⟩) (Mix.eff_of_wp h))
  unfold Mix.putD
  cases d with
  | none => exact Act.eval_put fun d' hd' e' => by cases e'; exact ht hd'
  | some q =>
    show (({ a with defers := q :: a.defers } : Act).put o.dst v).eval (.tmp t) = _
    rw [Act.eval_put (a := { a with defers := q :: a.defers }) fun d' hd' e' => by cases e'; exact ht hd']
    rfl

theorem yop_gen {ops : List Oper} {o : Oper} {K : List (Nat × V) → St → Prop} (h : Sim c N s a w) (p : PastY c0 H0 w0 old c a w) (hk : memB o.op = false ∧ aop P N ops o s (fun s' => keepS H0 s'.H ∧ K (dropO o.dst old) s')) :
    (Mix.effB o = true → o.wp P a w (fun a' w' => JY c0 H0 w0 w' ∧ YP c0 H0 w0 N K a' w') Mix.bot) ∧ (Mix.effB o = false → ∃ v, (∀ w', JY c0 H0 w0 w' → (execOp a.eval o).run P w' = .ok (.value v) w') ∧ YP c0 H0 w0 N K (a.put o.dst v) w) := by
  obtain ⟨hm, ha⟩ := hk
  have hd := aop_does h ha
  unfold Does at hd
  have lift : ∀ (a' : Act) (w' : World), Post c w N (fun s' => keepS H0 s'.H ∧ K (dropO o.dst old) s') a' w' → (∀ t, o.dst ≠ some t → a'.eval (.tmp t) = a.eval (.tmp t)) → JY c0 H0 w0 w' ∧ YP c0 H0 w0 N K a' w' := fun a' w' hp ht => by
    obtain ⟨c', s', k1, k2, k3, k4⟩ := hp
    have hx := p.ext.trans k2
    have hj := JY.next p.inv k1 hx k3
    exact ⟨hj, c', s', _, k1, ⟨p.inv, hx, hj, fun q hq => by
      obtain ⟨q1, q2⟩ := dropO_mem hq
      rw [ht _ q1]
      exact p.vals q q2⟩, k4⟩
  by_cases he : Mix.effB o = true
  · rw [if_pos he] at hd
    refine ⟨fun _ => ?_, fun e => by rw [he] at e; cases e⟩
    exact Oper.wp_mono (fun a' w' h2 => lift a' w' h2.1 h2.2) (wp_others hd)
  · rw [if_neg he] at hd
    refine ⟨fun e => absurd e he, fun _ => ?_⟩
    obtain ⟨v, r1, hp⟩ := hd
    exact ⟨v, fun w' _ => r1 w' (fun e => by rw [hm] at e; cases e), (lift _ _ hp fun t ht => Act.eval_put fun d' hd' e' => by cases e'; exact ht hd').2⟩
theorem yop_does {ops : List Oper} {o : Oper} {K : List (Nat × V) → St → Prop} (h : Sim c N s a w) (p : PastY c0 H0 w0 old c a w) (hk : yop P N ops H0 o old s K) :
    (Mix.effB o = true → o.wp P a w (fun a' w' => JY c0 H0 w0 w' ∧ YP c0 H0 w0 N K a' w') Mix.bot) ∧ (Mix.effB o = false → ∃ v, (∀ w', JY c0 H0 w0 w' → (execOp a.eval o).run P w' = .ok (.value v) w') ∧ YP c0 H0 w0 N K (a.put o.dst v) w) := by
  unfold yop at hk
  split at hk
  · rename_i t x ho
    refine ⟨fun he => by simp [Mix.effB, ho] at he, fun _ => ?_⟩
    unfold yload at hk
    split at hk
    · rename_i id off agg n hx ha hn
      cases hid : H0[id]? with
      | none => rw [hid] at hk; exact hk.elim
      | some blk =>
        by_cases hck : ∃ cs, blk = .cells cs
        rotate_left
        · rw [hid] at hk; cases blk <;> first | exact absurd ⟨_, rfl⟩ hck | exact hk.elim
        obtain ⟨ks, rfl⟩ := hck
        rw [hid] at hk
        obtain ⟨hex, hk⟩ := hk
        split at hk
        · rename_i y hl
          have h0 : Sim c0 N ⟨[], H0⟩ a w0 := ⟨p.inv, h.size, h.defers, fun t x hx => by cases hx⟩
          have hq := p.look hx
          have hc : cellsAt ⟨[], H0⟩ (.v (.ptr id off)) = some (plains (ks.drop off)) := by simp [cellsAt, hid]
          obtain ⟨b, off', vs, e1, r1, r2, _⟩ := read_cells (r := .slot 0) (p := .v (.ptr id off)) h0 hq hc
          obtain ⟨v, r3, r4⟩ := run_loadAt' (P := P) (b := b) (off := off') ha hn r1 hl
          have hb : c0.φ[id]? = some b := by
            generalize a.eval x = u at hq e1
            subst e1
            cases hq with
            | ptr hb => exact hb
          refine ⟨v, fun w' hw => ?_, put_yp h p hk (fun d _ => Rel.mono p.ext.imm p.ext.phi r3) (fun z' hz => by cases hz; exact r3)⟩
          unfold execOp
          simp only [ho, e1, Sem.run_bind, r4 w' (fun j u hu => hw.2 id b ks _ u hb hid hex (r2 j u hu)), Result.andThen_ok, Sem.run_pure]
        · exact hk.elim
    · rename_i cs agg n hx ha hn
      split at hk
      · rename_i y hl
        have hq := p.look hx
        generalize hv : a.eval x = u at hq
        cases hq with
        | rd r1 r2 r5 =>
          rename_i vs b off
          obtain ⟨v, r3, r4⟩ := run_loadAt' (P := P) (b := b) (off := off) ha hn r1 hl
          refine ⟨v, fun w' hw => ?_, put_yp h p hk (fun d _ => Rel.mono p.ext.imm p.ext.phi r3) (fun z' hz => by cases hz; exact r3)⟩
          unfold execOp
          simp only [ho, hv, Sem.run_bind, r4 w' (fun j u hu => hw.1 _ _ u (r2 j u hu)), Result.andThen_ok, Sem.run_pure]
      · exact hk.elim
    · exact hk.elim
  · rename_i x ho
    refine ⟨fun he => by simp [Mix.effB, ho] at he, fun _ => ?_⟩
    cases hx : evalV s x with
    | none => rw [hx] at hk; exact hk.elim
    | some y =>
      rw [hx] at hk
      exact ⟨a.eval x, fun w' _ => by unfold execOp; simp only [ho, Sem.run_pure], put_yp h p hk (fun d _ => evalV_rel h hx) fun z' hz => p.look hz⟩
  · rename_i x ho
    split at hk
    · rename_i id off hx
      refine ⟨fun he => by simp [Mix.effB, ho] at he, fun _ => ?_⟩
      have hr := evalV_rel h hx
      refine ⟨a.eval x, fun w' _ => ?_, put_yp h p hk (fun d _ => hr) fun z' hz => p.look hz⟩
      generalize hv : a.eval x = v at hr
      cases hr with
      | ptr hb =>
        unfold execOp
        simp only [ho, hv, Sem.run_pure]
    · rename_i cs hx
      refine ⟨fun he => by simp [Mix.effB, ho] at he, fun _ => ?_⟩
      have hr := evalV_rel h hx
      refine ⟨a.eval x, fun w' _ => ?_, put_yp h p hk (fun d _ => hr) fun z' hz => p.look hz⟩
      generalize hv : a.eval x = v at hr
      cases hr with
      | rd h1 h2 h3 =>
        unfold execOp
        simp only [ho, hv, Sem.run_pure]
    · exact yop_gen h p hk
  · rename_i t x f ho
    refine ⟨fun he => by simp [Mix.effB, ho] at he, fun _ => ?_⟩
    unfold yfield at hk
    split at hk
    · rename_i q n hx hf
      cases hs : shift (.v q) n with
      | none => rw [hs] at hk; exact hk.elim
      | some y =>
        rw [hs] at hk
        have hq := evalV_rel h hx
        obtain ⟨b, off, e1, e2⟩ := shift_rel (w := w) (r := .slot 0) (x := .v q) hq hs
        refine ⟨.pointer (some ⟨b, off + n, none⟩), fun w' _ => ?_, ?_⟩
        · unfold execOp
          simp only [ho, e1, run_fieldAt hf, Sem.run_bind, Result.andThen_ok, Sem.run_pure]
        · cases hol : oldO old x with
          | none =>
            rw [hol] at hk
            exact put_yp' h p hk (fun d _ => e2 _)
          | some q' =>
            rw [hol] at hk
            simp only at hk
            cases hs' : shift (.v q') n with
            | none => rw [hs'] at hk; exact put_yp' h p hk (fun d _ => e2 _)
            | some y' =>
              rw [hs'] at hk
              cases y' with
              | v z =>
                refine put_yp h p hk (fun d _ => e2 _) fun z' hz => ?_
                cases hz
                obtain ⟨b', off', f1, f2⟩ := shift_rel (c := c0) (w := w0) (r := .slot 0) (x := .v q') (p.look hol) hs'
                rw [e1] at f1
                cases f1
                exact f2 (.slot 0)
              | _ => exact put_yp' h p hk (fun d _ => e2 _)
    · exact hk.elim
  · rename_i t x ix ho
    refine ⟨fun he => by simp [Mix.effB, ho] at he, fun _ => ?_⟩
    unfold yindex at hk
    split at hk
    · rename_i n sz cs kd i e hx hi hu
      obtain ⟨h1, ⟨h2, h3⟩, hk⟩ := hk
      have hix : a.eval ix = .int kd i := Rel.exact (evalV_rel h hi) rfl
      have hr := evalV_rel h hx
      have mk : ∀ {I : Nat → Nat → Option Value} {φ : List Nat} {b off len cap sz' n' : Nat} {cs' : List V}, Rel I φ (.sl n' sz' cs') (.slice (some ⟨b, off, none⟩) len cap) → n' = n → sz' = sz → Rel I φ (.rd (rowAt sz cs' i)) (.pointer (some ⟨b, off + i.toNat * sz, none⟩)) := by
        intro I φ b off len cap sz' n' cs' hq hn' hsz'
        clear hr hk hx h1
        subst hn' hsz'
        cases hq with
        | sl r1 r2 r3 r4 r5 r6 =>
          refine Rel.rd ((r1.drop _).take _) (fun j u hu => ?_) (fun u hu => r6 u (List.mem_of_mem_drop (List.mem_of_mem_take hu)))
          rw [List.getElem?_take] at hu
          split at hu
          · rw [List.getElem?_drop] at hu
            rw [Nat.add_assoc]
            exact r2 _ u hu
          · cases hu
        | sl0 => omega
      obtain ⟨b, off, cap, hv⟩ : ∃ b off cap, a.eval x = .slice (some ⟨b, off, none⟩) n cap := by
        clear mk
        revert hr
        generalize a.eval x = v
        intro hr
        cases hr with
        | sl r1 r2 r3 r4 r5 r6 => exact ⟨_, _, _, rfl⟩
        | sl0 => omega
      refine ⟨.pointer (some ⟨b, off + i.toNat * sz, none⟩), fun w' _ => ?_, ?_⟩
      · unfold execOp
        simp only [ho, hv, hix, Sem.run_bind, run_indexAt hu h1 h2 h3, Result.andThen_ok, Sem.run_pure]
      · have hs1 : ∀ d, o.dst = some d → SRel c w (.slot d) (.v (.rd (rowAt sz cs i))) (.pointer (some ⟨b, off + i.toNat * sz, none⟩)) := fun d _ => mk (hv ▸ hr) rfl rfl
        cases hol : oldO old x with
        | none => rw [hol] at hk; exact put_yp' h p hk hs1
        | some q =>
          rw [hol] at hk
          cases q with
          | sl m sz' cs' =>
            simp only at hk
            cases hd : (decide (m = n) && decide (sz' = sz)) with
            | false => rw [hd] at hk; exact put_yp' h p hk hs1
            | true =>
              rw [hd] at hk
              simp only [Bool.and_eq_true, decide_eq_true_eq] at hd
              refine put_yp h p hk hs1 fun z' hz => ?_
              cases hz
              exact mk (hv ▸ p.look hol) hd.1 hd.2
          | _ => exact put_yp' h p hk hs1
    · exact hk.elim
  · rename_i args ts ho
    refine ⟨fun he => by simp [Mix.effB, ho] at he, fun _ => ?_⟩
    unfold ylen at hk
    split at hk
    · rename_i x t e1 e2
      have e1 : args = #[x] := Array.toList_inj.1 e1
      have e2 : ts = #[t] := Array.toList_inj.1 e2
      subst e1 e2
      split at hk
      · rename_i q e hx hu
        cases hl : lenV (.v q) with
        | none => rw [hl] at hk; exact hk.elim
        | some n =>
          rw [hl] at hk
          obtain ⟨pp, cap, hv⟩ := lenV_rel (w := w) (r := .slot 0) (x := .v q) (evalV_rel h hx) hl
          refine ⟨.int .i64 n, fun w' _ => ?_, put_yp' h p hk (fun d _ => Rel.sc _)⟩
          unfold execOp
          simp only [ho, resolve, Sem.run_bind, Sem.run_pure, Result.andThen_ok, invoke, builtin, List.map_toArray, List.map_cons, List.map_nil, hv, Builtin.len_]
          simp [run_underlying' hu, goInt]
      · exact hk.elim
    · exact hk.elim
  · exact yop_gen h p hk

theorem yops_walk {ops : Array Oper} {Q : Exit → Act → World → Prop} {K : St → Prop} : ∀ {l : List Oper} {s : St} {c : Cx} {a : Act} {w : World} {old : List (Nat × V)}, Sim c N s a w → PastY c0 H0 w0 old c a w → yops P N ops.toList H0 l K old s → (∀ c' s' a' w', Sim c' N s' a' w' → Ext c0 w0 c' w' → K s' → Q .normal a' w') →
    Mix.walk P ops (fun _ w' => JY c0 H0 w0 w') (fun w' => JY c0 H0 w0 w') Q l a w
  | [], s, c, a, w, old, h, p, hk, hq => hq c s a w h p.ext hk
  | o :: l, s, c, a, w, old, h, p, hk, hq => by
    have cases' : (∃ s1 : St, Sim c N s1 a w ∧ Region.wanted o (yielded ops a.tmps) = true ∧ yop P N ops.toList H0 o old s1 (yops P N ops.toList H0 l K)) ∨
        (∃ s1 : St, Sim c N s1 a w ∧ Region.wanted o (yielded ops a.tmps) = false ∧ putK N o.dst (.v (.tup [])) s1 (yops P N ops.toList H0 l K (dropO o.dst old))) := by
      unfold yops at hk
      cases hg : o.guard with
      | none => rw [hg] at hk; exact .inl ⟨s, h, by simp [Region.wanted, hg], hk⟩
      | some q =>
        obtain ⟨j, want⟩ := q
        rw [hg] at hk
        simp only at hk
        cases hd : (ops.toList[j]?).bind (·.dst) with
        | none => rw [hd] at hk; exact hk.elim
        | some t =>
          rw [hd] at hk
          simp only at hk
          have hd' : (ops[j]?).bind (·.dst) = some t := by simpa using hd
          split at hk
          · rename_i b hb
            obtain ⟨v, hv, hr⟩ := h.fr t _ (mem_getF hb)
            have e : v = .bool b := Rel.exact hr rfl
            subst e
            have hy := yielded_of hd' hv
            cases hbw : b == want with
            | true =>
              have e : b = want := by simpa using hbw
              subst e
              exact .inl ⟨_, h.lit hb, by simp [Region.wanted, hg, hy, boolOf], hk.1 rfl⟩
            | false =>
              have e : b = !want := by cases b <;> cases want <;> simp_all
              subst e
              exact .inr ⟨_, h.lit hb, by simp [Region.wanted, hg, hy, boolOf], hk.2 rfl⟩
          · rename_i hb
            obtain ⟨v, hv, hr⟩ := h.fr t _ (mem_getF hb)
            have e : v = .tuple #[] := Rel.exact hr rfl
            subst e
            have hy := yielded_of hd' hv
            exact .inr ⟨s, h, by simp [Region.wanted, hg, hy, boolOf], hk⟩
          · exact hk.elim
    unfold Mix.walk
    rcases cases' with ⟨s1, h, hw, hk⟩ | ⟨s1, h, hw, hk⟩
    · obtain ⟨d1, d2⟩ := yop_does h p hk
      by_cases he : Mix.effB o = true
      · rw [if_pos he]
        refine wpList_step fun K' hK' => ?_
        rw [if_pos hw]
        refine Mix.wp_of_eff (Mix.effS_mono (fun d v w' h2 => ?_) (Mix.eff_of_wp (d1 he)))
        obtain ⟨g1, c', s', old', k1, k2, k3⟩ := h2
        exact hK' _ _ (wpList_nil ⟨g1, yops_walk k1 k2 k3 hq⟩)
      · rw [if_neg he]
        have he' : Mix.effB o = false := by simpa using he
        obtain ⟨v, hv, c', s', old', k1, k2, k3⟩ := d2 he'
        refine wpQuiet_step fun K' hK' => ?_
        rw [if_pos hw]
        refine ⟨v, fun w' hw' => ?_, hK' _ (wpQuiet_nil (yops_walk k1 k2 k3 hq))⟩
        unfold Oper.quietAt
        rw [hv w' hw']
        exact ⟨rfl, rfl⟩
    · obtain ⟨c', s', old', k1, k2, k3⟩ := put_yp' (v := undef) h p hk (fun _ _ => Rel.tup (vs := #[]) .nil)
      have h4 := yops_walk k1 k2 k3 hq
      by_cases he : Mix.effB o = true
      · rw [if_pos he]
        refine wpList_step fun K' hK' => ?_
        rw [if_neg (by rw [hw]; simp)]
        exact hK' _ _ (wpList_nil ⟨k2.j, h4⟩)
      · rw [if_neg he]
        refine wpQuiet_step fun K' hK' => ?_
        rw [if_neg (by rw [hw]; simp)]
        exact hK' _ (wpQuiet_nil h4)
theorem oldL_mem {F : Fr} : ∀ {ts : List Nat} {q : Nat × V}, q ∈ oldL F ts → getF q.1 F = some (.v q.2)
  | [], q, h => by cases h
  | t :: ts, q, h => by
    unfold oldL at h
    split at h
    · rename_i y hy
      rcases List.mem_cons.1 h with rfl | h
      · exact hy
      · exact oldL_mem h
    · exact oldL_mem h
theorem AW.regionY {id k : Nat} {ops : Array Oper} {F : Fr} {H : List Bk} {Q : Exit → St → Prop} (ts : List Nat) (hm : P.follows .mixedOrders = true) (hk : k ≤ ops.size) (ho : Mix.mixTail k ops = true)
    (h : yops P N ops.toList H (ops.toList.take k) (aops P N ops.toList (ops.toList.drop k) (Q .normal)) (oldL F ts) ⟨F, H⟩) : AW P N (.region id ops true) Q ⟨F, H⟩ := fun c a w hs => by
  have hs' := hs.drew
  have p : PastY c H w.drew (oldL F ts) c a w.drew := ⟨hs'.inv, Ext.refl c _, JY.start hs'.inv, fun q hq => by
    obtain ⟨v, hv, hr⟩ := hs'.fr q.1 _ (mem_getF (oldL_mem hq))
    have : a.eval (.tmp q.1) = v := by simp [Act.eval, hv]
    rw [this]
    exact hr⟩
  have h1 := yops_walk (ops := ops) (Q := Mix.endQ (Mix.walk P ops Agree (fun _ => True) (PostE c w N Q) (ops.toList.drop k))) (K := aops P N ops.toList (ops.toList.drop k) (Q .normal)) hs' p h fun c' s' a' w' k1 k2 k3 =>
    aops_walk (ops := ops) k1 k3 fun a2 w2 h2 => Post.step ((Ext.drew c w).trans k2) h2
  have e : ops = (ops.toList.take k ++ ops.toList.drop k).toArray := by simp
  have h2 := Mix.wp_region_tail (P := P) (C1 := fun _ w' => JY c H w.drew w') (J1 := fun w' => JY c H w.drew w') (C2 := Agree) (id := id) (pre := ops.toList.take k) (post := ops.toList.drop k) (Q := PostE c w N Q) (a := a) (w := w) (fun _ h => h) (fun w => Agree.refl w) (fun _ _ => Iff.rfl) hm (by
    rw [← e, List.length_take]; simpa [Nat.min_eq_left hk] using ho) (JY.start hs'.inv) (by rw [← e]; exact h1)
  rw [← e] at h2
  exact h2
end
end AM
end Go.Proofs.Ytmjnffjacgjfmaa
namespace Go.Proofs.Ytmjnffjacgjfmaa
set_option linter.all false
open Go.RowKit
namespace AM
def badK : List (Nat × Nat × List Nat) → Nat → Option (Nat × List Nat)
  | [], _ => none
  | (i, k) :: l, id => bif i == id then some k else badK l id
/-- As aw; the regions whose numbers are named are walked by yops, as far as it is told. -/
def awx (P : Program) (N : Nat) (bad : List (Nat × Nat × List Nat)) : Code → (Exit → St → Prop) → St → Prop
  | .skip, Q, s => Q .normal s
  | .region id ops draw, Q, s => match draw, badK bad id with
    | true, some k => yops P N ops.toList s.H (ops.toList.take k.1) (aops P N ops.toList (ops.toList.drop k.1) (Q .normal)) (oldL s.F k.2) s
    | _, _ => aops P N ops.toList ops.toList (Q .normal) s
  | .seq x y, Q, s => awx P N bad x (qSeq (awx P N bad y Q) Q) s
  | .cond x t f, Q, s => match getB s x with
    | some b => (b = true → awx P N bad t Q s) ∧ (b = false → awx P N bad f Q s)
    | none => False
  | .block id body, Q, s => awx P N bad body (qBlock id Q) s
  | .loop body, Q, s => AW P N (.loop body) Q s
  | .exit id, Q, s => Q (.exit id) s
  | .label _, Q, s => Q .normal s
  | .ret, Q, s => Q .ret s
  | _, _, _ => False
def okx (bad : List (Nat × Nat × List Nat)) : Code → Bool
  | .region id ops draw => !draw || (match badK bad id with
    | some k => Nat.ble k.1 ops.size && Mix.mixTail k.1 ops
    | none => Mix.mixOk 1 ops)
  | .seq x y => okx bad x && okx bad y
  | .cond _ x y => okx bad x && okx bad y
  | .block _ x => okx bad x
  | .loop x => okx bad x
  | _ => true
theorem awx_sound {P : Program} {N : Nat} {bad : List (Nat × Nat × List Nat)} (hm : P.follows .mixedOrders = true) : ∀ {code : Code} {Q : Exit → St → Prop} {s : St}, okx bad code = true → awx P N bad code Q s → AW P N code Q s := by
  intro code
  induction code with
  | skip => exact fun _ hk => AW.of hm rfl hk
  | region id ops draw =>
    intro Q s ho hk
    cases draw with
    | false => exact AW.of hm rfl hk
    | true =>
      unfold awx at hk
      simp only [okx, Bool.not_true, Bool.false_or] at ho
      cases hb : badK bad id with
      | some k =>
        rw [hb] at ho hk
        simp only [Bool.and_eq_true] at ho
        exact AW.regionY (F := s.F) (H := s.H) k.2 hm (Nat.le_of_ble_eq_true ho.1) ho.2 hk
      | none =>
        rw [hb] at ho hk
        exact AW.of hm (by simpa [okc] using ho) hk
  | seq x y ihx ihy =>
    intro Q s ho hk
    simp only [okx, Bool.and_eq_true] at ho
    refine AW.seq ((ihx ho.1 hk).mono fun e s' he => ?_)
    cases e with
    | normal => exact ihy ho.2 he
    | _ => exact he
  | cond x t f iht ihf =>
    intro Q s ho hk
    simp only [okx, Bool.and_eq_true] at ho
    unfold awx at hk
    cases hb : getB s x with
    | none => rw [hb] at hk; exact hk.elim
    | some b =>
      rw [hb] at hk
      exact AW.cond (F := s.F) (H := s.H) b hb (fun e => iht ho.1 (hk.1 e)) (fun e => ihf ho.2 (hk.2 e))
  | block id body ih =>
    intro Q s ho hk
    exact AW.block (ih ho hk)
  | loop body ih => exact fun _ hk => hk
  | exit id => exact fun _ hk => AW.of hm rfl hk
  | label l => exact fun _ hk => AW.of hm rfl hk
  | ret => exact fun _ hk => AW.of hm rfl hk
  | _ => exact fun _ hk => hk.elim
theorem AW.ofx {P : Program} {N : Nat} {x : Code} {Q : Exit → St → Prop} {s : St} (bad : List (Nat × Nat × List Nat)) (hm : P.follows .mixedOrders = true) (ho : okx bad x = true) (h : awx P N bad x Q s) : AW P N x Q s := awx_sound hm ho h
section
variable {P : Program} {N : Nat} {bad : List (Nat × Nat × List Nat)} {F : Fr} {H : List Bk} {Q : Exit → St → Prop} {c c' : Code} {x : Operand} {id : Nat} {draw : Bool} {arr : Array Oper}
theorem awx_skip' : awx P N bad .skip Q ⟨F, H⟩ = Q .normal ⟨F, H⟩ := rfl
theorem awx_region' : awx P N bad (.region id arr draw) Q ⟨F, H⟩ = if (draw && (badK bad id).isSome) = true then yops P N arr.toList H (arr.toList.take ((badK bad id).getD (0, [])).1) (aops P N arr.toList (arr.toList.drop ((badK bad id).getD (0, [])).1) (Q .normal)) (oldL F ((badK bad id).getD (0, [])).2) ⟨F, H⟩ else aops P N arr.toList arr.toList (Q .normal) ⟨F, H⟩ := by
  show (match draw, badK bad id with
    | true, some k => yops P N arr.toList H (arr.toList.take k.1) (aops P N arr.toList (arr.toList.drop k.1) (Q .normal)) (oldL F k.2) ⟨F, H⟩
    | _, _ => aops P N arr.toList arr.toList (Q .normal) ⟨F, H⟩) = _
  cases draw <;> cases badK bad id <;> rfl
theorem awx_seq' : awx P N bad (.seq c c') Q ⟨F, H⟩ = awx P N bad c (qSeq (awx P N bad c' Q) Q) ⟨F, H⟩ := rfl
theorem awx_cond' : awx P N bad (.cond x c c') Q ⟨F, H⟩ = match getB ⟨F, H⟩ x with
    | some b => gd b true (awx P N bad c Q ⟨F, H⟩) (awx P N bad c' Q ⟨F, H⟩)
    | none => False := rfl
theorem awx_block' : awx P N bad (.block id c) Q ⟨F, H⟩ = awx P N bad c (qBlock id Q) ⟨F, H⟩ := rfl
theorem awx_loop' : awx P N bad (.loop c) Q ⟨F, H⟩ = AW P N (.loop c) Q ⟨F, H⟩ := rfl
theorem awx_exit' : awx P N bad (.exit id) Q ⟨F, H⟩ = Q (.exit id) ⟨F, H⟩ := rfl
theorem awx_label' : awx P N bad (.label id) Q ⟨F, H⟩ = Q .normal ⟨F, H⟩ := rfl
theorem awx_ret' : awx P N bad .ret Q ⟨F, H⟩ = Q .ret ⟨F, H⟩ := rfl
end
/-! ## A frame that says less -/
/-- No row may stand for a row of nothing. -/
def zeroRow : SV → Prop
  | .v (.sl n _ cs) => n = 0 ∧ cs = []
  | .v (.fs n _ cs) => n = 0 ∧ cs = []
  | .own _ _ n sz cs => n = 0 ∧ cs = [] ∧ 0 < sz
  | _ => False
/-- What is said of a value may be told by less. -/
def WV (y x : SV) : Prop := ∃ y' x', y = .v y' ∧ x = .v x' ∧ ∀ I φ v, Rel I φ y' v → Rel I φ x' v
theorem WV.of {y x : V} (h : ∀ I φ v, Rel I φ y v → Rel I φ x v) : WV (.v y) (.v x) := ⟨y, x, rfl, rfl, h⟩
def weakV (y x : SV) : Prop := y = x ∨ (y = .v .nil ∧ zeroRow x) ∨ WV y x
/-- What is full is a slice. -/
theorem fs_sl {I : Nat → Nat → Option Value} {φ : List Nat} {n sz : Nat} {cs : List V} {v : Value} (h : Rel I φ (.fs n sz cs) v) : Rel I φ (.sl n sz cs) v := by
  cases h with
  | fs h1 h2 h3 h4 h5 => exact .sl h1 h2 h3 (Nat.le_refl _) h4 h5
  | fs0 => exact .sl0
def subW : Fr → Fr → Prop
  | [], _ => True
  | (t, x) :: F0, F => (match getF t F with
    | some y => weakV y x
    | none => False) ∧ subW F0 F
theorem zeroRow_rel {c : Cx} {w : World} {r : Root} {x : SV} {v : Value} (h : zeroRow x) (hv : SRel c w r (.v .nil) v) : SRel c w r x v := by
  have e : v = .slice none 0 0 := Rel.exact hv rfl
  subst e
  unfold zeroRow at h
  split at h
  · obtain ⟨rfl, rfl⟩ := h
    exact Rel.sl0
  · obtain ⟨rfl, rfl⟩ := h
    exact Rel.fs0
  · obtain ⟨rfl, rfl, h⟩ := h
    exact own_nil h
  · exact h.elim
theorem Sim.weak {c : Cx} {N : Nat} {F H} {a : Act} {w : World} : ∀ {F0 : Fr}, subW F0 F → Sim c N ⟨F, H⟩ a w → Sim c N ⟨F0, H⟩ a w := fun {F0} h hs => by
  refine ⟨hs.inv, hs.size, hs.defers, ?_⟩
  have hf := hs.fr
  simp only at hf ⊢
  clear hs
  induction F0 with
  | nil => intro t x hx; cases hx
  | cons p F0 ih =>
    obtain ⟨t0, x0⟩ := p
    intro t x hx
    rcases List.mem_cons.1 hx with e | hx
    · obtain ⟨rfl, rfl⟩ := Prod.mk.inj e
      have h1 := h.1
      cases hg : getF t F with
      | none => rw [hg] at h1; exact h1.elim
      | some y =>
        rw [hg] at h1
        obtain ⟨v, hv, hr⟩ := hf t y (mem_getF hg)
        rcases h1 with rfl | ⟨rfl, hz⟩ | ⟨y', x', rfl, rfl, hw⟩
        · exact ⟨v, hv, hr⟩
        · exact ⟨v, hv, zeroRow_rel hz hr⟩
        · exact ⟨v, hv, hw _ _ _ hr⟩
    · exact ih h.2 t x hx
theorem AW.weak {P : Program} {N : Nat} {F : Fr} {H : List Bk} {x : Code} {Q : Exit → St → Prop} (F0 : Fr) (h0 : subW F0 F) (h : AW P N x Q ⟨F0, H⟩) : AW P N x Q ⟨F, H⟩ := fun c a w hs => h c a w (Sim.weak h0 hs)
/-- A loop: what holds at each round's head, with a number that every round lowers. -/
theorem AW.loopW {P : Program} {N : Nat} {Q : Exit → St → Prop} {F : Fr} {H : List Bk} {x : Code} (R : Nat → Fr → List Bk → Prop) (h0 : ∃ n F0, subW F0 F ∧ R n F0 H) (round : ∀ n F H, R n F H → AW P N x (qSeq (fun s' => ∃ m F1, m < n ∧ subW F1 s'.F ∧ R m F1 s'.H) Q) ⟨F, H⟩) : AW P N (.loop x) Q ⟨F, H⟩ := fun c a w hs => by
  obtain ⟨n, F0, h1, h2⟩ := h0
  refine wp_loop_rank (fun n a' w' => ∃ c' F' H', Sim c' N ⟨F', H'⟩ a' w' ∧ Ext c w c' w' ∧ R n F' H') ⟨n, c, F0, H, hs.weak h1, Ext.refl c w, h2⟩ fun n a1 w1 h1 => ?_
  obtain ⟨c1, F1, H1, k1, k2, k3⟩ := h1
  refine wp_mono (round n F1 H1 k3 c1 a1 w1 k1) fun e a2 w2 he => ?_
  obtain ⟨c2, s2, l1, l2, l3⟩ := he
  cases e with
  | normal =>
    obtain ⟨m, F3, hm, hsub, hR⟩ := l3
    exact ⟨m, hm, c2, F3, s2.H, Sim.weak (F := s2.F) hsub l1, k2.trans l2, hR⟩
  | _ => exact ⟨c2, s2, l1, k2.trans l2, l3⟩
/-- A loop whose rounds are counted. -/
theorem AW.count {P : Program} {N : Nat} {Q : Exit → St → Prop} {F : Fr} {H : List Bk} {x : Code} (n : Nat) (R : Nat → Fr → List Bk → Prop) (h0 : ∃ F0, subW F0 F ∧ R 0 F0 H)
    (round : ∀ k F H, k ≤ n → R k F H → AW P N x (qSeq (fun s' => k < n ∧ ∃ F1, subW F1 s'.F ∧ R (k + 1) F1 s'.H) Q) ⟨F, H⟩) : AW P N (.loop x) Q ⟨F, H⟩ := by
  obtain ⟨F0, h1, h2⟩ := h0
  refine AW.loopW (fun m F H => ∃ k, k ≤ n ∧ m = n - k ∧ R k F H) ⟨n, F0, h1, 0, Nat.zero_le _, by omega, h2⟩ ?_
  rintro m F H ⟨k, hk, rfl, hR⟩
  refine (round k F H hk hR).mono fun e s he => ?_
  cases e with
  | normal =>
    obtain ⟨hlt, F1, g1, g2⟩ := he
    exact ⟨n - (k + 1), F1, by omega, g1, k + 1, by omega, rfl, g2⟩
  | _ => exact he
/-! ## Arguments that say less -/
/-- What is known of an argument may be told by less. -/
def WeakL (xs ys : List V) : Prop := ∀ I φ vs, RelL I φ xs vs → RelL I φ ys vs
theorem AFn.weak {P : Program} {f : FuncId} {xs ys : List V} {H : List Bk} {Q : V → List Bk → Prop} (h : AFn P f ys H Q) (hw : WeakL xs ys) : AFn P f xs H Q := ⟨h.1, fun c w vs hi hs hr => h.2 c w vs hi hs (hw _ _ _ hr)⟩
theorem WeakL.refl (xs : List V) : WeakL xs xs := fun _ _ _ h => h
theorem WeakL.cons {x : V} {xs ys : List V} (h : WeakL xs ys) : WeakL (x :: xs) (x :: ys) := fun I φ vs hr => by
  cases hr with
  | cons h1 h2 => exact .cons h1 (h _ _ _ h2)
theorem WeakL.nil0 {sz : Nat} {xs ys : List V} (h : WeakL xs ys) : WeakL (.nil :: xs) (.sl 0 sz [] :: ys) := fun I φ vs hr => by
  cases hr with
  | cons h1 h2 =>
    have e := Rel.exact h1 (rfl : V.nil.exact = some _)
    subst e
    exact .cons .sl0 (h _ _ _ h2)
end AM
end Go.Proofs.Ytmjnffjacgjfmaa
