/- A region that draws its order, with calls that only reckon beside reads of what was there; further rules of the walk. Plain lemmas, over any program. -/
import Derived.Test.YtoooldijnilpaaaAo
namespace Go.Proofs.Ytoooldijnilpaaa
set_option linter.all false
open Go.RowKit
namespace AM

theorem AW.cond {P : Program} {N : Nat} {Q : Exit → St → Prop} {F : Fr} {H : List Bk} {x : Operand} {t f : Code} (b : Bool) (hb : getB ⟨F, H⟩ x = some b) (h1 : b = true → AW P N t Q ⟨F, H⟩) (h2 : b = false → AW P N f Q ⟨F, H⟩) : AW P N (.cond x t f) Q ⟨F, H⟩ := fun c a w hs => by
  have hx : a.eval x = .bool b := by
    unfold getB at hb
    split at hb
    · rename_i b' hv
      cases hb
      exact Rel.exact (evalV_rel hs hv) rfl
    · cases hb
  exact wp_cond_split hx (fun e => h1 e c a w hs) (fun e => h2 e c a w hs)

def inO (old : List Nat) : Operand → Bool
  | .tmp t => old.contains t
  | .const _ => true
  | _ => false
def addO (dst : Option Tmp) (old : List Nat) : List Nat := match dst with
  | some d => d :: old
  | none => old
def delO (dst : Option Tmp) (old : List Nat) : List Nat := match dst with
  | some d => old.filter fun t => !(t == d)
  | none => old
def xload (P : Program) (N : Nat) (H0 : List Bk) (dst : Option Tmp) (t : TypeId) (x : Operand) (old : List Nat) (s : St) (K : List Nat → St → Prop) : Prop := inO old x = true ∧ match evalV s x, aggT P t, sizeT P t with
  | some p, some agg, some n => match cellsAt ⟨[], H0⟩ (.v p) with
    | some cs => match ldV agg n cs with
      | some y => putK N dst (.v y) s (K (addO dst old))
      | none => False
    | none => False
  | _, _, _ => False
def xcall (P : Program) (N : Nat) (dst : Option Tmp) (f : Operand) (args : List Operand) (old : List Nat) (s : St) (K : List Nat → St → Prop) : Prop := match evalV s f, valsV s args with
  | some (.fn (.func k) first cap), some vs => ∃ r, PFn P k (first ++ vs ++ cap) r ∧ V.closedL (first ++ vs ++ cap) = true ∧ r.closed = true ∧ putK N dst (.v r) s (K (delO dst old))
  | _, _ => False
def putD (dst : Option Tmp) (x : SV) (F : Fr) : Fr := match dst with
  | some d => putF d x F
  | none => F
def xop (P : Program) (N : Nat) (ops : List Oper) (H0 : List Bk) (o : Oper) (old : List Nat) (s : St) (K : List Nat → St → Prop) : Prop := match o.op with
  | .load t x => xload P N H0 o.dst t x old s K
  | .call { callee := .value f, args, .. } => xcall P N o.dst f args.toList old s K
  | .move x => match evalV s x with
    | some y => putK N o.dst (.v y) s (K (bif inO old x then addO o.dst old else delO o.dst old))
    | none => False
  | .fieldAddr t x f => match evalV s x, fieldT P t f with
    | some p, some n => match shift (.v p) n with
      | some y => putK N o.dst y s (K (bif inO old x then addO o.dst old else delO o.dst old))
      | none => False
    | _, _ => False
  | .indexAddr t x ix => match evalV s x, evalV s ix, P.underlying t with
    | some (.sl n sz cs), some (.sc (.int _ i)), some (.slice e) => sizeT P e = some sz ∧ (0 ≤ i ∧ i < n) ∧ putK N o.dst (.v (.rd (rowAt sz cs i))) s (K (bif inO old x then addO o.dst old else delO o.dst old))
    | some p, some (.sc (.int _ i)), some (.array n e) => match sizeT P e with
      | some sz => match shift (.v p) (i.toNat * sz) with
        | some y => (0 ≤ i ∧ i < n) ∧ putK N o.dst y s (K (bif inO old x then addO o.dst old else delO o.dst old))
        | none => False
      | none => False
    | _, _, _ => False
  | op => memB op = false ∧ (Mix.effB o = false ∨ Mix.laysB o = true) ∧ ∃ x H', aop P N ops o s (fun s' => s' = ⟨putD o.dst x s.F, H'⟩) ∧ K (delO o.dst old) ⟨putD o.dst x s.F, H'⟩
def xops (P : Program) (N : Nat) (ops : List Oper) (H0 : List Bk) : List Oper → (St → Prop) → List Nat → St → Prop
  | [], K, _, s => K s
  | o :: rest, K, old, s => match o.guard with
    | none => xop P N ops H0 o old s (xops P N ops H0 rest K)
    | some (j, want) => match (ops[j]?).bind (·.dst) with
      | some t => match getF t s.F with
        | some (.v (.sc (.bool b))) => gd b want (xop P N ops H0 o old ⟨setF t (.v (.sc (.bool want))) s.F, s.H⟩ (xops P N ops H0 rest K)) (putK N o.dst (.v (.tup [])) ⟨setF t (.v (.sc (.bool (!want)))) s.F, s.H⟩ (xops P N ops H0 rest K (delO o.dst old)))
        | some (.v (.tup [])) => putK N o.dst (.v (.tup [])) s (xops P N ops H0 rest K (delO o.dst old))
        | _ => False
      | none => False

/-- What stands at a call in such a region. -/
def xcallK (P : Program) (N : Nat) (dst : Option Tmp) (k : FuncId) (xs : List V) (F : Fr) (H : List Bk) (K : St → Prop) : Prop := ∃ r, PFn P k xs r ∧ V.closedL xs = true ∧ r.closed = true ∧ putK N dst (.v r) ⟨F, H⟩ K
theorem xcallK.of {P : Program} {N : Nat} {dst : Option Tmp} {k : FuncId} {xs : List V} {F : Fr} {H : List Bk} {K : St → Prop} {r : V} (h : PFn P k xs r) (hx : V.closedL xs = true) (hr : r.closed = true) (hk : putK N dst (.v r) ⟨F, H⟩ K) : xcallK P N dst k xs F H K := ⟨r, h, hx, hr, hk⟩
theorem xcall' {P : Program} {N : Nat} {dst : Option Tmp} {f : Operand} {args : List Operand} {old : List Nat} {F : Fr} {H : List Bk} {K : List Nat → St → Prop} : xcall P N dst f args old ⟨F, H⟩ K = match evalV ⟨F, H⟩ f, valsV ⟨F, H⟩ args with
  | some (.fn (.func k) first cap), some vs => xcallK P N dst k (first ++ vs ++ cap) F H (K (delO dst old))
  | _, _ => False := rfl
/-- What an operation gives, and then what follows. -/
def xmid (A K : SV → List Bk → Prop) : Prop := ∃ x H', A x H' ∧ K x H'
@[congr] theorem xmid_congr {A A' K : SV → List Bk → Prop} (h : ∀ x H', A x H' = A' x H') : xmid A K = xmid A' K := by
  have : A = A' := funext fun x => funext fun H' => h x H'
  rw [this]
@[simp] theorem xmid_eq {a : SV} {b : List Bk} {K : SV → List Bk → Prop} : xmid (fun x H' => a = x ∧ b = H') K = K a b := by
  apply propext
  constructor
  · rintro ⟨_, _, ⟨rfl, rfl⟩, h⟩
    exact h
  · exact fun h => ⟨_, _, ⟨rfl, rfl⟩, h⟩
section
variable {P : Program} {N : Nat} {ops rest : List Oper} {H0 H : List Bk} {F : Fr} {o : Oper} {old : List Nat} {K : St → Prop} {K' : List Nat → St → Prop}
theorem xops_nil' : xops P N ops H0 [] K old ⟨F, H⟩ = K ⟨F, H⟩ := rfl
theorem xops_cons' : xops P N ops H0 (o :: rest) K old ⟨F, H⟩ = match o.guard with
    | none => xop P N ops H0 o old ⟨F, H⟩ (xops P N ops H0 rest K)
    | some (j, want) => match (ops[j]?).bind (·.dst) with
      | some t => match getF t F with
        | some (.v (.sc (.bool b))) => gd b want (xop P N ops H0 o old ⟨setF t (.v (.sc (.bool want))) F, H⟩ (xops P N ops H0 rest K)) (putK N o.dst (.v (.tup [])) ⟨setF t (.v (.sc (.bool (!want)))) F, H⟩ (xops P N ops H0 rest K (delO o.dst old)))
        | some (.v (.tup [])) => putK N o.dst (.v (.tup [])) ⟨F, H⟩ (xops P N ops H0 rest K (delO o.dst old))
        | _ => False
      | none => False := rfl
theorem xop' : xop P N ops H0 o old ⟨F, H⟩ K' = match o.op with
  | .load t x => xload P N H0 o.dst t x old ⟨F, H⟩ K'
  | .call { callee := .value f, args, .. } => xcall P N o.dst f args.toList old ⟨F, H⟩ K'
  | .move x => match evalV ⟨F, H⟩ x with
    | some y => putK N o.dst (.v y) ⟨F, H⟩ (K' (bif inO old x then addO o.dst old else delO o.dst old))
    | none => False
  | .fieldAddr t x f => match evalV ⟨F, H⟩ x, fieldT P t f with
    | some p, some n => match shift (.v p) n with
      | some y => putK N o.dst y ⟨F, H⟩ (K' (bif inO old x then addO o.dst old else delO o.dst old))
      | none => False
    | _, _ => False
  | .indexAddr t x ix => match evalV ⟨F, H⟩ x, evalV ⟨F, H⟩ ix, P.underlying t with
    | some (.sl n sz cs), some (.sc (.int _ i)), some (.slice e) => sizeT P e = some sz ∧ (0 ≤ i ∧ i < n) ∧ putK N o.dst (.v (.rd (rowAt sz cs i))) ⟨F, H⟩ (K' (bif inO old x then addO o.dst old else delO o.dst old))
    | some p, some (.sc (.int _ i)), some (.array n e) => match sizeT P e with
      | some sz => match shift (.v p) (i.toNat * sz) with
        | some y => (0 ≤ i ∧ i < n) ∧ putK N o.dst y ⟨F, H⟩ (K' (bif inO old x then addO o.dst old else delO o.dst old))
        | none => False
      | none => False
    | _, _, _ => False
  | op => memB op = false ∧ (Mix.effB o = false ∨ Mix.laysB o = true) ∧ xmid (fun x H' => aop P N ops o ⟨F, H⟩ (fun s' => s' = ⟨putD o.dst x F, H'⟩)) (fun x H' => K' (delO o.dst old) ⟨putD o.dst x F, H'⟩) := rfl
end
section
variable {P : Program} {c c0 : Cx} {N : Nat} {s : St} {a : Act} {w w0 : World} {H0 : List Bk} {old : List Nat}

/-- What was there at the region's head is there still. -/
structure Past (c0 : Cx) (H0 : List Bk) (w0 : World) (old : List Nat) (c : Cx) (s : St) (a : Act) (w : World) : Prop where
  inv : Inv c0 H0 w0
  ext : Ext c0 w0 c w
  agree : Agree w0 w
  vals : ∀ t y, (t, SV.v y) ∈ s.F → old.contains t = true → Rel c0.I c0.φ y (a.eval (.tmp t))

theorem Past.oldV {x : Operand} {y : V} (h : Past c0 H0 w0 old c s a w) (hx : evalV s x = some y) (ho : inO old x = true) : Rel c0.I c0.φ y (a.eval x) := by
  unfold evalV at hx
  cases x with
  | tmp t =>
    simp only [eval] at hx
    split at hx
    · rename_i z hz
      cases hx
      exact h.vals t _ (mem_getF hz) ho
    · cases hx
  | const v =>
    simp only [eval] at hx
    cases hx
    exact ofValue_rel v
  | _ => cases ho

/-- Past goes on when a slot is filled. -/
theorem Past.put {dst : Option Tmp} {y : SV} {v : Value} {c' : Cx} {w' : World} {old' : List Nat} {H' : List Bk} (h : Past c0 H0 w0 old c s a w) (hs : Sim c N s a w) (hN : ∀ d, dst = some d → d < N) (hx : Ext c w c' w') (hg : Agree w0 w')
    (ho : ∀ t, old'.contains t = true → (dst = some t ∧ ∀ z, y = .v z → Rel c0.I c0.φ z v) ∨ (dst ≠ some t ∧ old.contains t = true)) : Past c0 H0 w0 old' c' ⟨putD dst y s.F, H'⟩ (a.put dst v) w' := by
  refine ⟨h.inv, h.ext.trans hx, hg, fun t z hz ht => ?_⟩
  cases dst with
  | none =>
    rcases ho t ht with ⟨e, _⟩ | ⟨_, e⟩
    · cases e
    · exact h.vals t z hz e
  | some d =>
    simp only [putD, putF, List.mem_cons, Prod.mk.injEq] at hz
    rcases hz with ⟨rfl, rfl⟩ | hz
    · rcases ho t ht with ⟨_, e⟩ | ⟨e, _⟩
      · have hlt : t < a.tmps.size := by rw [hs.size]; exact hN t rfl
        have : (a.put (some t) v).eval (.tmp t) = v := by simp [Act.eval, Act.put, hlt]
        rw [this]
        exact e z rfl
      · exact absurd rfl e
    · obtain ⟨h1, h2, _⟩ := mem_del hz
      rcases ho t ht with ⟨e, _⟩ | ⟨_, e⟩
      · cases e; exact absurd rfl h2
      · have : (a.put (some d) v).eval (.tmp t) = a.eval (.tmp t) := Act.eval_put fun d' hd' e' => by cases hd'; cases e'; exact h2 rfl
        rw [this]
        exact h.vals t z h1 e

theorem run_fieldAt {t : TypeId} {f off b o' : Nat} (hf : fieldT P t f = some off) : (Instr.fieldAt t (.pointer (some ⟨b, o', none⟩)) f).run P w = .ok (.pointer (some ⟨b, o' + off, none⟩)) w := by
  unfold fieldT at hf
  cases hu : P.underlying t with
  | none => rw [hu] at hf; cases hf
  | some d =>
    cases d with
    | struct fs =>
      rw [hu] at hf
      simp only at hf
      cases hfd : fs[f]? with
      | none => rw [hfd] at hf; cases hf
      | some fd =>
        rw [hfd] at hf
        simp only at hf
        cases hsz : sizeT P fd.type with
        | none => rw [hsz] at hf; cases hf
        | some n =>
          rw [hsz] at hf
          cases n with
          | zero => cases hf
          | succ n =>
            cases hf
            simp only [Instr.fieldAt, Sem.run_bind, run_underlying' hu, Result.andThen_ok, hfd, Instr.sureAddr, Sem.run_pure, fieldPlace, run_sizeOf hsz]
            simp [add_eq]
    | _ => rw [hu] at hf; cases hf
/-- What holds behind a stretch of such a region. -/
def XP (c0 : Cx) (H0 : List Bk) (w0 : World) (N : Nat) (K : List Nat → St → Prop) (a' : Act) (w' : World) : Prop := ∃ c' s' old', Sim c' N s' a' w' ∧ Past c0 H0 w0 old' c' s' a' w' ∧ K old' s'

theorem delO_old {dst : Option Tmp} {t : Nat} (h : (delO dst old).contains t = true) : dst ≠ some t ∧ old.contains t = true := by
  cases dst with
  | none => exact ⟨by simp, h⟩
  | some d =>
    simp only [delO, List.contains_iff_mem, List.mem_filter] at h
    refine ⟨fun e => ?_, by simpa using h.1⟩
    cases e
    simp at h
theorem addO_old {dst : Option Tmp} {t : Nat} (h : (addO dst old).contains t = true) : dst = some t ∨ (dst ≠ some t ∧ old.contains t = true) := by
  cases dst with
  | none => exact .inr ⟨by simp, h⟩
  | some d =>
    by_cases e : d = t
    · exact .inl (by rw [e])
    · right
      simp only [addO, List.contains_cons, Bool.or_eq_true, beq_iff_eq] at h
      exact ⟨by simpa using e, h.resolve_left (Ne.symm e)⟩

theorem put_xp {dst : Option Tmp} {y : SV} {v : Value} {old' : List Nat} {K : List Nat → St → Prop} (h : Sim c N s a w) (p : Past c0 H0 w0 old c s a w) (hk : putK N dst y s (K old')) (hx : ∀ d, dst = some d → SRel c w (.slot d) y v)
    (ho : ∀ t, old'.contains t = true → (dst = some t ∧ ∀ z, y = .v z → Rel c0.I c0.φ z v) ∨ (dst ≠ some t ∧ old.contains t = true)) : XP c0 H0 w0 N K (a.put dst v) w := by
  cases dst with
  | none => exact ⟨c, s, old', h, p.put (dst := none) (y := y) (H' := s.H) h (fun d e => by cases e) (Ext.refl c w) p.agree ho, hk⟩
  | some d =>
    obtain ⟨h1, h2, h3⟩ := hk
    have h4 := Sim.put (F := s.F) (H := s.H) h h1 (fitB_fit h2) (hx d rfl)
    exact ⟨_, _, old', h4, p.put (dst := some d) (y := y) (H' := s.H) h (fun d' e => by cases e; exact h1) (Ext.free c w _) p.agree ho, h3⟩

theorem xop_does {ops : List Oper} {o : Oper} {K : List Nat → St → Prop} (h : Sim c N s a w) (p : Past c0 H0 w0 old c s a w) (hk : xop P N ops H0 o old s K) :
    (Mix.effB o = true → o.wp P a w (fun a' w' => Agree w0 w' ∧ XP c0 H0 w0 N K a' w') Mix.bot) ∧ (Mix.effB o = false → ∃ v, (∀ w', Agree w0 w' → (execOp a.eval o).run P w' = .ok (.value v) w') ∧ XP c0 H0 w0 N K (a.put o.dst v) w) := by
  unfold xop at hk
  split at hk
  · rename_i t x ho
    refine ⟨fun he => by simp [Mix.effB, ho] at he, fun _ => ?_⟩
    obtain ⟨h1, hk⟩ := hk
    split at hk
    · rename_i q agg n hx ha hn
      cases hc : cellsAt ⟨[], H0⟩ (.v q) with
      | none => rw [hc] at hk; exact hk.elim
      | some cs =>
        rw [hc] at hk
        simp only at hk
        cases hl : ldV agg n cs with
        | none => rw [hl] at hk; exact hk.elim
        | some y =>
          rw [hl] at hk
          have h0 : Sim c0 N ⟨[], H0⟩ a w0 := ⟨p.inv, h.size, h.defers, fun t x hx => by cases hx⟩
          have hq := p.oldV hx h1
          obtain ⟨b, off, vs, e1, r1, r2, _⟩ := read_cells (r := .slot 0) (p := .v q) h0 hq hc
          obtain ⟨v, r3, r4⟩ := run_loadAt (P := P) ha hn r1 r2 hl
          refine ⟨v, fun w' hw => ?_, put_xp h p hk (fun d _ => Rel.mono p.ext.imm p.ext.phi r3) fun t ht => ?_⟩
          · unfold execOp
            simp only [ho, e1, Sem.run_bind, r4 w' hw, Result.andThen_ok, Sem.run_pure]
          · rcases addO_old ht with e | e
            · exact .inl ⟨e, fun z hz => by cases hz; exact r3⟩
            · exact .inr e
    · exact hk.elim
  · rename_i f args ts ho
    refine ⟨fun _ => ?_, fun he => by simp [Mix.effB, ho] at he⟩
    unfold xcall at hk
    split at hk
    · rename_i k first cap vs hf hv
      obtain ⟨r, hp, c1, c2, hk⟩ := hk
      have hfr := evalV_rel h hf
      generalize hfv : a.eval f = fv at hfr
      cases hfr with
      | fn r1 r2 =>
        rename_i first' cap'
        have hvs := valsV_rel h hv
        have hargs : RelL c.I c.φ (first ++ vs ++ cap) (first'.toList ++ args.toList.map a.eval ++ cap'.toList) := (r1.append hvs).append r2
        obtain ⟨⟨fn, e1, e2, e3⟩, hcall⟩ := hp
        let cc : Cx := ⟨c.I, [], fun _ => .out⟩
        have hi0 : Inv cc [] w := ⟨h.inv.imm, rfl, fun b hb => absurd rfl hb, fun b b' r hb => (by cases hb), fun id b k hb => (by simp [cc] at hb)⟩
        have hcl := hcall cc w _ hi0 (fun b t e => by cases e) (RelL.closed hargs c1)
        have hrun : (execOp a.eval o).run P w = .ok (.enter k (first'.toList ++ args.toList.map a.eval ++ cap'.toList).toArray) w := by
          unfold execOp
          simp only [ho, resolve, hfv, Deferred.ofValue, Sem.run_bind, Sem.run_pure, Result.andThen_ok, invoke, callFunc, run_program, e1, e3, Bool.false_eq_true, if_false]
          have e4 : fn.body.isNone = false := by cases hb : fn.body <;> simp_all
          simp only [e4, Bool.false_eq_true, if_false, Sem.run_pure]
          congr 2
          apply Array.toList_inj.1
          simp
        unfold Oper.wp
        rw [hrun, Oper.upon_enter]
        refine hcl.mono fun e w' he => ?_
        obtain ⟨v, y, H1, c3, rfl, k1, k2, k3, k4, rfl⟩ := he
        have ko : ∀ b, b < w.heap.size → w'.heap[b]? = w.heap[b]? ∧ ∀ o, c3.I b o = c.I b o := fun b hb => by
          obtain ⟨q1, _, q3⟩ := k4.out b hb rfl
          exact ⟨q1, q3⟩
        have hag : Agree w0 w' := fun b hb => (ko b (Nat.lt_of_lt_of_le hb p.ext.size)).1.trans (p.agree b hb)
        let c4 : Cx := ⟨c3.I, c.φ, c.R⟩
        have i4 : Inv c4 s.H w' := by
          refine ⟨k2.imm, h.inv.len, fun b hb => Nat.lt_of_lt_of_le (h.inv.lt b hb) k4.size, h.inv.uniq, fun id b k hb hk => ?_⟩
          obtain ⟨h1, h2, h3⟩ := h.inv.blk id b k hb hk
          have hlt := h.inv.lt b (by rw [h1]; simp)
          refine ⟨h1, fun o => ((ko b hlt).2 o).trans (h2 o), ?_⟩
          by_cases hck : ∃ cs, k = .cells cs
          · obtain ⟨cs, rfl⟩ := hck
            obtain ⟨arr, e, g1, g2, g6, g3⟩ := h3
            refine ⟨arr, e, (ko b hlt).1.trans g1, g2, g6, fun j x u hx hu => ⟨(g3 j x u hx hu).1, ?_⟩⟩
            exact SRel.mono (c := c) (c' := c4) (w := w) (w' := w') k4.imm (fun _ _ h => h) (fun b' q _ hq => by
              have := h.inv.lt b' (by rw [hq]; simp)
              exact ⟨hq, (ko b' this).1, (ko b' this).2⟩) (g3 j x u hx hu).2
          · exact BRel.stay (fun cs e => hck ⟨cs, e⟩) h3 k4.imm (fun _ _ h => h) (fun b' o ho _ => (ko b' (obj_lt ho)).1.trans ho)
        have x4 : Ext c w c4 w' := ⟨k4.os, k4.tape, k4.output, k4.size, fun b hb hr => ⟨(ko b hb).1, hr, (ko b hb).2⟩, k4.imm, fun _ _ h => h⟩
        have s4 : Sim c4 N s a w' := ⟨i4, h.size, h.defers, fun t x hx => by
          obtain ⟨u, hu, hr⟩ := h.fr t x hx
          refine ⟨u, hu, SRel.mono (c := c) (c' := c4) (w := w) (w' := w') k4.imm (fun _ _ h => h) (fun b' q _ hq => ?_) hr⟩
          have := h.inv.lt b' (by rw [hq]; simp)
          exact ⟨hq, (ko b' this).1, (ko b' this).2⟩⟩
        have p4 : Past c0 H0 w0 old c4 s a w' := ⟨p.inv, p.ext.trans x4, hag, p.vals⟩
        exact ⟨hag, put_xp s4 p4 hk (fun d _ => Rel.closed k1 c2) fun t ht => .inr (delO_old ht)⟩
    · exact hk.elim
  · rename_i x ho
    refine ⟨fun he => by simp [Mix.effB, ho] at he, fun _ => ?_⟩
    cases hx : evalV s x with
    | none => rw [hx] at hk; exact hk.elim
    | some y =>
      rw [hx] at hk
      refine ⟨a.eval x, fun w' _ => by unfold execOp; simp only [ho, Sem.run_pure], put_xp h p hk (fun d _ => evalV_rel h hx) fun t ht => ?_⟩
      cases hi : inO old x with
      | true =>
        rw [hi] at ht
        rcases addO_old ht with e | e
        · exact .inl ⟨e, fun z hz => by cases hz; exact p.oldV hx hi⟩
        · exact .inr e
      | false =>
        rw [hi] at ht
        exact .inr (delO_old ht)
  · rename_i t x f ho
    refine ⟨fun he => by simp [Mix.effB, ho] at he, fun _ => ?_⟩
    split at hk
    · rename_i q n hx hf
      cases hs : shift (.v q) n with
      | none => rw [hs] at hk; exact hk.elim
      | some y =>
        rw [hs] at hk
        have hq := evalV_rel h hx
        obtain ⟨b, off, e1, e2⟩ := shift_rel (w := w) (r := .slot 0) (x := .v q) hq hs
        have hm : memB o.op = false := by rw [ho]; rfl
        refine ⟨.pointer (some ⟨b, off + n, none⟩), fun w' _ => ?_, put_xp h p hk (fun d _ => e2 _) fun t ht => ?_⟩
        · unfold execOp
          simp only [ho, e1, run_fieldAt hf, Sem.run_bind, Result.andThen_ok, Sem.run_pure]
        · cases hi : inO old x with
          | true =>
            rw [hi] at ht
            rcases addO_old ht with e | e
            · refine .inl ⟨e, fun z hz => ?_⟩
              obtain ⟨b', off', f1, f2⟩ := shift_rel (c := c0) (w := w0) (r := .slot 0) (x := .v q) (p.oldV hx hi) hs
              rw [e1] at f1
              cases f1
              have := f2 (.slot 0)
              rw [hz] at this
              exact this
            · exact .inr e
          | false =>
            rw [hi] at ht
            exact .inr (delO_old ht)
    · exact hk.elim
  · rename_i t x ix ho
    refine ⟨fun he => by simp [Mix.effB, ho] at he, fun _ => ?_⟩
    split at hk
    · rename_i n sz cs kd i e hx hi hu
      obtain ⟨h1, ⟨h2, h3⟩, hk⟩ := hk
      have hix : a.eval ix = .int kd i := Rel.exact (evalV_rel h hi) rfl
      have hr := evalV_rel h hx
      have mk : ∀ {I : Nat → Nat → Option Value} {φ : List Nat} {b off len cap : Nat}, Rel I φ (.sl n sz cs) (.slice (some ⟨b, off, none⟩) len cap) → len = n → Rel I φ (.rd (rowAt sz cs i)) (.pointer (some ⟨b, off + i.toNat * sz, none⟩)) := by
        intro I φ b off len cap hr hl
        cases hr with
        | sl r1 r2 r3 r4 r5 r6 =>
          refine Rel.rd ((r1.drop _).take _) (fun j u hu => ?_) (fun u hu => r6 u (List.mem_of_mem_drop (List.mem_of_mem_take hu)))
          rw [List.getElem?_take] at hu
          split at hu
          · rw [List.getElem?_drop] at hu
            rw [Nat.add_assoc]
            exact r2 _ u hu
          · cases hu
        | sl0 => omega
      obtain ⟨b, off, cap, hv⟩ : ∃ b off cap, a.eval x = .slice (some ⟨b, off, none⟩) n cap := by
        generalize a.eval x = v at hr
        cases hr with
        | sl r1 r2 r3 r4 r5 r6 => exact ⟨_, _, _, rfl⟩
        | sl0 => omega
      refine ⟨.pointer (some ⟨b, off + i.toNat * sz, none⟩), fun w' _ => ?_, put_xp h p hk (fun d _ => mk (hv ▸ hr) rfl) fun t ht => ?_⟩
      · unfold execOp
        simp only [ho, hv, hix, Sem.run_bind, run_indexAt hu h1 h2 h3, Result.andThen_ok, Sem.run_pure]
      · cases hio : inO old x with
        | true =>
          rw [hio] at ht
          rcases addO_old ht with e | e
          · refine .inl ⟨e, fun z hz => ?_⟩
            cases hz
            have := p.oldV hx hio
            exact mk (hv ▸ this) rfl
          · exact .inr e
        | false =>
          rw [hio] at ht
          exact .inr (delO_old ht)
    · rename_i q kd i n e hx hi hu
      cases hsz : sizeT P e with
      | none => rw [hsz] at hk; exact hk.elim
      | some sz =>
        rw [hsz] at hk
        simp only at hk
        cases hs : shift (.v q) (i.toNat * sz) with
        | none => rw [hs] at hk; exact hk.elim
        | some y =>
          rw [hs] at hk
          obtain ⟨⟨h2, h3⟩, hk⟩ := hk
          have hix : a.eval ix = .int kd i := Rel.exact (evalV_rel h hi) rfl
          have hq := evalV_rel h hx
          obtain ⟨b, off, e1, e2⟩ := shift_rel (w := w) (r := .slot 0) (x := .v q) hq hs
          refine ⟨.pointer (some ⟨b, off + i.toNat * sz, none⟩), fun w' _ => ?_, put_xp h p hk (fun d _ => e2 _) fun t ht => ?_⟩
          · unfold execOp
            simp only [ho, e1, hix, Sem.run_bind, run_indexAt_arr hu hsz h2 h3, Result.andThen_ok, Sem.run_pure]
          · cases hi' : inO old x with
            | true =>
              rw [hi'] at ht
              rcases addO_old ht with e | e
              · refine .inl ⟨e, fun z hz => ?_⟩
                obtain ⟨b', off', f1, f2⟩ := shift_rel (c := c0) (w := w0) (r := .slot 0) (x := .v q) (p.oldV hx hi') hs
                rw [e1] at f1
                cases f1
                have := f2 (.slot 0)
                rw [hz] at this
                exact this
              · exact .inr e
            | false =>
              rw [hi'] at ht
              exact .inr (delO_old ht)
    · exact hk.elim
  · obtain ⟨hm, hel, x, H', ha, hk⟩ := hk
    have hd := aop_does h ha
    unfold Does at hd
    have lift : ∀ (v : Value) (w' : World) (c' : Cx), Sim c' N ⟨putD o.dst x s.F, H'⟩ (a.put o.dst v) w' → Ext c w c' w' → Agree w0 w' → XP c0 H0 w0 N K (a.put o.dst v) w' := fun v w' c' k1 k2 hg =>
      ⟨c', _, delO o.dst old, k1, p.put (dst := o.dst) (y := x) (v := v) (H' := H') h (fun d hd => by
        have hsz := k1.size
        rw [hd] at k1
        obtain ⟨u, hu, _⟩ := k1.fr d x (by simp [putD, putF])
        have := (Array.getElem?_eq_some_iff.1 hu).1
        simp only [Act.put, Array.size_setIfInBounds] at this
        rw [h.size] at this
        exact this) k2 hg fun t ht => .inr (delO_old ht), hk⟩
    by_cases he : Mix.effB o = true
    · rw [if_pos he] at hd
      refine ⟨fun _ => ?_, fun e => by rw [he] at e; cases e⟩
      have hl := hel.resolve_left (by rw [he]; simp)
      have hlay := Mix.lays_of (P := P) hl a.eval
      unfold Acts Oper.wp at hd
      unfold Oper.wp
      cases hr : (execOp a.eval o).run P w with
      | halt x w' =>
        rw [hr] at hd
        cases x <;> first | exact hd.elim | exact hd
      | ok n w' =>
        obtain ⟨v, ob, rfl, rfl⟩ := hlay w n w' hr
        rw [hr, Oper.upon_value] at hd
        rw [Oper.upon_value]
        obtain ⟨c', s', k1, k2, rfl⟩ := hd
        have hag : Agree w0 (w.alloc ob) := fun b hb => (heap_alloc_lt (Nat.lt_of_lt_of_le hb p.ext.size)).trans (p.agree b hb)
        exact ⟨hag, lift v _ c' k1 k2 hag⟩
    · rw [if_neg he] at hd
      refine ⟨fun e => absurd e he, fun _ => ?_⟩
      obtain ⟨v, r1, c', s', k1, k2, rfl⟩ := hd
      exact ⟨v, fun w' _ => r1 w' (fun e => by rw [hm] at e; cases e), lift v w c' k1 k2 p.agree⟩

theorem xops_walk {ops : Array Oper} {Q : Exit → Act → World → Prop} {K : St → Prop} : ∀ {l : List Oper} {s : St} {c : Cx} {a : Act} {w : World} {old : List Nat}, Sim c N s a w → Past c0 H0 w0 old c s a w → xops P N ops.toList H0 l K old s → (∀ c' s' a' w', Sim c' N s' a' w' → Ext c0 w0 c' w' → K s' → Q .normal a' w') →
    Mix.walk P ops (fun _ w' => Agree w0 w') (fun w' => Agree w0 w') Q l a w
  | [], s, c, a, w, old, h, p, hk, hq => hq c s a w h p.ext hk
  | o :: l, s, c, a, w, old, h, p, hk, hq => by
    have cases' : (∃ s1 : St, Sim c N s1 a w ∧ Past c0 H0 w0 old c s1 a w ∧ Region.wanted o (yielded ops a.tmps) = true ∧ xop P N ops.toList H0 o old s1 (xops P N ops.toList H0 l K)) ∨
        (∃ s1 : St, Sim c N s1 a w ∧ Past c0 H0 w0 old c s1 a w ∧ Region.wanted o (yielded ops a.tmps) = false ∧ putK N o.dst (.v (.tup [])) s1 (xops P N ops.toList H0 l K (delO o.dst old))) := by
      unfold xops at hk
      cases hg : o.guard with
      | none => rw [hg] at hk; exact .inl ⟨s, h, p, by simp [Region.wanted, hg], hk⟩
      | some q =>
        obtain ⟨j, want⟩ := q
        rw [hg] at hk
        simp only at hk
        cases hd : (ops.toList[j]?).bind (·.dst) with
        | none => rw [hd] at hk; exact hk.elim
        | some t =>
          rw [hd] at hk
          simp only at hk
          have hd' : (ops[j]?).bind (·.dst) = some t := by simpa using hd
          split at hk
          · rename_i b hb
            obtain ⟨v, hv, hr⟩ := h.fr t _ (mem_getF hb)
            have e : v = .bool b := Rel.exact hr rfl
            subst e
            have hy := yielded_of hd' hv
            have plit : Past c0 H0 w0 old c ⟨setF t (.v (.sc (.bool b))) s.F, s.H⟩ a w := ⟨p.inv, p.ext, p.agree, fun t' y hy' ht' => by
              rcases mem_setF hy' with ⟨rfl, e⟩ | ⟨_, hy'⟩
              · cases e
                have : a.eval (.tmp t') = .bool b := by simp [Act.eval, hv]
                rw [this]
                exact .sc _
              · exact p.vals t' y hy' ht'⟩
            cases hbw : b == want with
            | true =>
              have e : b = want := by simpa using hbw
              subst e
              exact .inl ⟨_, h.lit hb, plit, by simp [Region.wanted, hg, hy, boolOf], hk.1 rfl⟩
            | false =>
              have e : b = !want := by cases b <;> cases want <;> simp_all
              subst e
              exact .inr ⟨_, h.lit hb, plit, by simp [Region.wanted, hg, hy, boolOf], hk.2 rfl⟩
          · rename_i hb
            obtain ⟨v, hv, hr⟩ := h.fr t _ (mem_getF hb)
            have e : v = .tuple #[] := Rel.exact hr rfl
            subst e
            have hy := yielded_of hd' hv
            exact .inr ⟨s, h, p, by simp [Region.wanted, hg, hy, boolOf], hk⟩
          · exact hk.elim
    unfold Mix.walk
    rcases cases' with ⟨s1, h, p, hw, hk⟩ | ⟨s1, h, p, hw, hk⟩
    · obtain ⟨h1, h2⟩ := xop_does h p hk
      by_cases he : Mix.effB o = true
      · rw [if_pos he]
        refine wpList_step fun K' hK' => ?_
        rw [if_pos hw]
        refine Mix.wp_of_eff (Mix.effS_mono (fun d v w' h2 => ?_) (Mix.eff_of_wp (h1 he)))
        obtain ⟨g1, c', s', old', k1, k2, k3⟩ := h2
        exact hK' _ _ (wpList_nil ⟨g1, xops_walk k1 k2 k3 hq⟩)
      · rw [if_neg he]
        obtain ⟨v, r1, c', s', old', k1, k2, k3⟩ := h2 (by simpa using he)
        refine wpQuiet_step fun K' hK' => ?_
        rw [if_pos hw]
        refine ⟨v, fun w' hw' => ?_, hK' _ (wpQuiet_nil (xops_walk k1 k2 k3 hq))⟩
        unfold Oper.quietAt
        rw [r1 w' hw']
        exact ⟨rfl, rfl⟩
    · obtain ⟨c', s', old', k1, k2, k3⟩ := put_xp h p hk (v := undef) (fun _ _ => Rel.tup (vs := #[]) .nil) fun t ht => .inr (delO_old ht)
      have h4 := xops_walk k1 k2 k3 hq
      by_cases he : Mix.effB o = true
      · rw [if_pos he]
        refine wpList_step fun K' hK' => ?_
        rw [if_neg (by rw [hw]; simp)]
        exact hK' _ _ (wpList_nil ⟨k2.agree, h4⟩)
      · rw [if_neg he]
        refine wpQuiet_step fun K' hK' => ?_
        rw [if_neg (by rw [hw]; simp)]
        exact hK' _ (wpQuiet_nil h4)

def keysF : Fr → List Nat
  | [] => []
  | (k, _) :: F => k :: keysF F
/-- Such a region, in the order of the text. -/
theorem AW.regionX {id : Nat} {ops : Array Oper} {F : Fr} {H : List Bk} {Q : Exit → St → Prop} (hm : P.follows .mixedOrders = true) (ho : Mix.mixOk 2 ops = true) (h : xops P N ops.toList H ops.toList (Q .normal) (keysF F) ⟨F, H⟩) : AW P N (.region id ops true) Q ⟨F, H⟩ := fun c a w hs => by
  have hs' := hs.drew
  have p : Past c H w.drew (keysF F) c ⟨F, H⟩ a w.drew := ⟨hs'.inv, Ext.refl c _, Agree.refl _, fun t y hy _ => by
    obtain ⟨v, hv, hr⟩ := hs'.fr t _ hy
    have : a.eval (.tmp t) = v := by simp [Act.eval, hv]
    rw [this]
    exact hr⟩
  have h1 := xops_walk (Q := PostE c w N Q) hs' p h fun c' s' a' w' k1 k2 k3 => ⟨c', s', k1, (Ext.drew c w).trans k2, k3⟩
  have := Mix.wp_region_walk (P := P) (id := id) (l := ops.toList) (Q := PostE c w N Q) (a := a) (w := w) (C := fun _ w' => Agree w.drew w') (J := fun w' => Agree w.drew w') (fun _ h => h) (ga := 2) (fun h => by cases h) (fun _ _ _ => Iff.rfl) hm (by simpa using ho) (Agree.refl _) (by simpa using h1)
  simpa using this
end
end AM
end Go.Proofs.Ytoooldijnilpaaa
