/- Calls over an abstract state, and what a function promises over one. Plain lemmas, over any program. -/
import Derived.Test.YtoooldijnilpaaaAq
namespace Go.Proofs.Ytoooldijnilpaaa
set_option linter.all false
open Go.RowKit
namespace AM
section
variable {P : Program} {c : Cx} {N : Nat} {s : St} {a : Act} {w : World} {K : St → Prop}

def NoSlot (c : Cx) : Prop := ∀ b t, c.R b ≠ .own (.slot t)
def Enters (P : Program) (f : FuncId) : Prop := ∃ fn, P.funcs[f]? = some fn ∧ fn.body.isSome = true ∧ (fn.name == "runtime.NumGoroutine") = false

/-- What a function promises: given these values, over these blocks, it returns a value and leaves blocks of which Q holds. -/
def AFn (P : Program) (f : FuncId) (xs : List V) (H : List Bk) (Q : V → List Bk → Prop) : Prop :=
  Enters P f ∧ ∀ (c : Cx) (w : World) (vs : List Value), Inv c H w → NoSlot c → RelL c.I c.φ xs vs →
    Calls P f vs.toArray w fun e w' => ∃ v y H' c', e = .returned v ∧ Rel c'.I c'.φ y v ∧ Inv c' H' w' ∧ NoSlot c' ∧ Ext c w c' w' ∧ Q y H'

def isSlot : Role → Bool
  | .own (.slot _) => true
  | _ => false
/-- What a callee sees of its caller's rows: nothing. -/
def Cx.hide (c : Cx) : Cx := { c with R := fun b => bif isSlot (c.R b) then .out else c.R b }
theorem hide_out {b : Nat} (h : isSlot (c.R b) = true) : c.hide.R b = .out := by simp [Cx.hide, h]
theorem hide_same {b : Nat} (h : isSlot (c.R b) = false) : c.hide.R b = c.R b := by simp [Cx.hide, h]
theorem hide_noSlot (c : Cx) : NoSlot c.hide := fun b t h => by
  cases hs : isSlot (c.R b) with
  | true => rw [hide_out hs] at h; cases h
  | false =>
    rw [hide_same hs] at h
    rw [h] at hs
    cases hs
theorem hide_own {b : Nat} {r : Root} (h : c.hide.R b = .own r) : c.R b = .own r := by
  cases hs : isSlot (c.R b) with
  | true => rw [hide_out hs] at h; cases h
  | false => rwa [hide_same hs] at h

theorem Inv.hide {H : List Bk} (h : Inv c H w) : Inv c.hide H w := by
  refine ⟨h.imm, h.len, fun b hb => h.lt b fun e => hb ?_, fun b b' r hb hb' => h.uniq b b' r (hide_own hb) (hide_own hb'), fun id b k hb hk => ?_⟩
  · cases hs : isSlot (c.R b) with
    | true => exact hide_out hs
    | false => rw [hide_same hs]; exact e
  · obtain ⟨h1, h2, h3⟩ := h.blk id b k hb hk
    refine ⟨by rw [hide_same (by rw [h1]; rfl)]; exact h1, h2, ?_⟩
    by_cases hck : ∃ cs, k = .cells cs
    rotate_left
    · exact BRel.stay (fun cs e => hck ⟨cs, e⟩) h3 (fun _ _ _ h => h) (fun _ _ h => h) (fun _ _ h _ => h)
    obtain ⟨cs, rfl⟩ := hck
    obtain ⟨arr, e, g1, g2, g6, g3⟩ := h3
    refine ⟨arr, e, g1, g2, g6, fun j x v hx hv => ⟨(g3 j x v hx hv).1, ?_⟩⟩
    exact SRel.mono (c := c) (c' := c.hide) (w := w) (w' := w) (fun _ _ _ h => h) (fun _ _ h => h) (fun b' q hq hb' => ⟨(by
      rcases hq with rfl | hq
      · rw [hide_same (by rw [hb']; rfl)]; exact hb'
      · rw [flat_refers (g3 j x v hx hv).1] at hq; cases hq), rfl, fun _ => rfl⟩) (g3 j x v hx hv).2

/-- No way into a row that a cell holds lives on beside a call. -/
def calmB : SV → Bool
  | .pth (.cell ..) _ => false
  | .lnk (.cell ..) _ => false
  | _ => true
def calm : Fr → Fr
  | [] => []
  | (k, x) :: F => bif calmB x then (k, x) :: calm F else calm F
theorem mem_calm {k : Nat} {x : SV} : ∀ {F : Fr}, (k, x) ∈ calm F → (k, x) ∈ F ∧ calmB x = true
  | [], h => by cases h
  | (j, y) :: F, h => by
    unfold calm at h
    cases hc : calmB y with
    | true =>
      rw [hc] at h
      simp only [cond_true, List.mem_cons, Prod.mk.injEq] at h
      rcases h with ⟨rfl, rfl⟩ | h
      · exact ⟨by simp, hc⟩
      · exact ⟨List.mem_cons_of_mem _ (mem_calm h).1, (mem_calm h).2⟩
    | false =>
      rw [hc] at h
      exact ⟨List.mem_cons_of_mem _ (mem_calm (by simpa using h)).1, (mem_calm (by simpa using h)).2⟩

/-- The caller goes on behind a call. -/
theorem Sim.back {F : Fr} {H H' : List Bk} {c1 : Cx} {w1 : World} (h : Sim c N ⟨F, H⟩ a w) (h1 : Inv c1 H' w1) (hn : NoSlot c1) (hx : Ext c.hide w c1 w1) :
    ∃ c', Sim c' N ⟨calm F, H'⟩ a w1 ∧ Ext c w c' w1 ∧ c'.I = c1.I ∧ c'.φ = c1.φ := by
  let c' : Cx := { c1 with R := fun b => bif isSlot (c.R b) then c.R b else c1.R b }
  have rs : ∀ b, isSlot (c.R b) = true → c'.R b = c.R b := fun b hb => by simp [c', hb]
  have rn : ∀ b, isSlot (c.R b) = false → c'.R b = c1.R b := fun b hb => by simp [c', hb]
  have out1 : ∀ b, isSlot (c.R b) = true → b < w.heap.size ∧ w1.heap[b]? = w.heap[b]? ∧ c1.R b = .out ∧ ∀ o, c1.I b o = c.I b o := fun b hb => by
    have hlt := h.inv.lt b (fun e => by rw [e] at hb; cases hb)
    obtain ⟨k1, k2, k3⟩ := hx.out b hlt (hide_out hb)
    exact ⟨hlt, k1, k2, k3⟩
  have cell1 : ∀ b r, c1.R b = .own r → c'.R b = .own r := fun b r hb => by
    cases hs : isSlot (c.R b) with
    | true => rw [(out1 b hs).2.2.1] at hb; cases hb
    | false => rw [rn b hs]; exact hb
  refine ⟨c', ⟨⟨h1.imm, h1.len, fun b hb => ?_, fun b b' r hb hb' => ?_, fun id b k hb hk => ?_⟩, h.size, h.defers, fun t x hx' => ?_⟩, ?_, rfl, rfl⟩
  · cases hs : isSlot (c.R b) with
    | true => exact Nat.lt_of_lt_of_le (out1 b hs).1 hx.size
    | false => rw [rn b hs] at hb; exact h1.lt b hb
  · cases hs : isSlot (c.R b) with
    | true =>
      rw [rs b hs] at hb
      cases hs' : isSlot (c.R b') with
      | true => rw [rs b' hs'] at hb'; exact h.inv.uniq b b' r hb hb'
      | false =>
        rw [rn b' hs'] at hb'
        rw [hb] at hs
        cases r with
        | slot t => exact absurd hb' (hn b' t)
        | cell => cases hs
    | false =>
      rw [rn b hs] at hb
      cases hs' : isSlot (c.R b') with
      | true =>
        rw [rs b' hs'] at hb'
        rw [hb'] at hs'
        cases r with
        | slot t => exact absurd hb (hn b t)
        | cell => cases hs'
      | false => rw [rn b' hs'] at hb'; exact h1.uniq b b' r hb hb'
  · obtain ⟨k1, k2, k3⟩ := h1.blk id b k hb hk
    have hs : isSlot (c.R b) = false := by
      cases hs : isSlot (c.R b) with
      | true => rw [(out1 b hs).2.2.1] at k1; cases k1
      | false => rfl
    refine ⟨by rw [rn b hs]; exact k1, k2, ?_⟩
    by_cases hck : ∃ cs, k = .cells cs
    rotate_left
    · exact BRel.stay (fun cs e => hck ⟨cs, e⟩) k3 (fun _ _ _ h => h) (fun _ _ h => h) (fun _ _ h _ => h)
    obtain ⟨cs, rfl⟩ := hck
    obtain ⟨arr, e, g1, g2, g6, g3⟩ := k3
    refine ⟨arr, e, g1, g2, g6, fun j x v hx hv => ⟨(g3 j x v hx hv).1, ?_⟩⟩
    exact SRel.mono (c := c1) (c' := c') (w := w1) (w' := w1) (fun _ _ _ h => h) (fun _ _ h => h) (fun b' q hq hb' => ⟨cell1 b' q hb', rfl, fun _ => rfl⟩) (g3 j x v hx hv).2
  · obtain ⟨hxF, hcalm⟩ := mem_calm hx'
    obtain ⟨v, hv, hr⟩ := h.fr t x hxF
    refine ⟨v, hv, SRel.mono (c := c) (c' := c') (w := w) (w' := w1) hx.imm hx.phi (fun b q hq hb => ?_) hr⟩
    have hs : isSlot (c.R b) = true := by
      rw [hb]
      rcases hq with rfl | hq
      · rfl
      · cases q with
        | slot => rfl
        | cell id j =>
          cases x with
          | pth r' o =>
            have : r' = .cell id j := by simpa [SV.refers] using hq
            subst this
            cases hcalm
          | lnk r' o =>
            have : r' = .cell id j := by simpa [SV.refers] using hq
            subst this
            cases hcalm
          | _ => cases hq
    obtain ⟨_, o1, _, o3⟩ := out1 b hs
    exact ⟨by rw [rs b hs]; exact hb, o1, o3⟩
  · refine ⟨hx.os, hx.tape, hx.output, hx.size, fun b hb hr => ?_, hx.imm, hx.phi⟩
    have hs : isSlot (c.R b) = false := by rw [hr]; rfl
    obtain ⟨k1, k2, k3⟩ := hx.out b hb (by rw [hide_same hs]; exact hr)
    exact ⟨k1, by rw [rn b hs]; exact k2, k3⟩
theorem Ext.hide (c : Cx) (w : World) : Ext c w c.hide w :=
  ⟨rfl, rfl, rfl, Nat.le_refl _, fun b hb h => ⟨rfl, by rw [hide_same (by rw [h]; rfl)]; exact h, fun _ => rfl⟩, fun _ _ _ h => h, fun _ _ h => h⟩

/-! ## Arguments: a row that is handed to a call is shared -/
def shareF (F : Fr) : List Operand → Fr
  | [] => F
  | .tmp t :: xs => match getF t F with
    | some (.own true e n sz cs) => shareF (setF t (.own false e n sz cs) F) xs
    | _ => shareF F xs
  | _ :: xs => shareF F xs
def evalS (s : St) (x : Operand) : Option V := match eval s x with
  | some (.v y) => some y
  | some (.own false _ n sz cs) => some (.sl n sz cs)
  | _ => none
def valsS (s : St) : List Operand → Option (List V)
  | [] => some []
  | x :: xs => match evalS s x, valsS s xs with
    | some v, some l => some (v :: l)
    | _, _ => none
theorem Sim.shareF {H : List Bk} : ∀ {xs : List Operand} {F : Fr} {c : Cx}, Sim c N ⟨F, H⟩ a w → ∃ c', Sim c' N ⟨shareF F xs, H⟩ a w ∧ Ext c w c' w
  | [], F, c, h => ⟨c, h, Ext.refl c w⟩
  | x :: xs, F, c, h => by
    cases x with
    | tmp t =>
      simp only [AM.shareF]
      split
      · rename_i e n sz cs hg
        obtain ⟨c', u, _, _, h1, h2⟩ := h.share hg
        obtain ⟨c2, k1, k2⟩ := Sim.shareF (xs := xs) h1
        exact ⟨c2, k1, h2.trans k2⟩
      · exact Sim.shareF (xs := xs) h
    | _ => exact Sim.shareF (xs := xs) h
theorem evalS_rel {x : Operand} {y : V} (h : Sim c N s a w) (hx : evalS s x = some y) : Rel c.I c.φ y (a.eval x) := by
  unfold evalS at hx
  split at hx
  · rename_i z he
    cases hx
    exact eval_any h he (fun _ _ _ _ _ e => by cases e) (.slot 0)
  · rename_i e n sz cs he
    cases hx
    rcases eval_rel h he (.slot 0) with ⟨t, _, _, _, hr⟩ | ⟨z, e', _⟩
    · obtain ⟨h0, vs, h1, h2, h3, h4⟩ := hr
      generalize a.eval x = v at h2 h4
      rcases h2.2 with ⟨rfl, rfl⟩ | ⟨g, cap, cur, rfl, _, g1, g2, g3, g4, g5⟩
      · obtain ⟨rfl, rfl⟩ := nil_of h1 h2
        exact .sl0
      · obtain ⟨_, k2⟩ := h4 g rfl
        exact .sl h1 (fun j u hu => by rw [Nat.zero_add, k2]; simpa using hu) (by rw [h1.len, h2.1]) g2 g3 h3
    · cases e'
  · cases hx
theorem valsS_rel (h : Sim c N s a w) : ∀ {xs : List Operand} {l : List V}, valsS s xs = some l → RelL c.I c.φ l (xs.map a.eval)
  | [], l, hl => by cases hl; exact .nil
  | x :: xs, l, hl => by
    unfold valsS at hl
    cases hx : evalS s x with
    | none => rw [hx] at hl; cases hl
    | some v =>
      cases hp : valsS s xs with
      | none => rw [hx, hp] at hl; cases hl
      | some l' =>
        rw [hx, hp] at hl
        cases hl
        exact .cons (evalS_rel h hx) (valsS_rel h hp)

end
/-! ## Functions that only reckon -/
mutual
def V.closed : V → Bool
  | .sc _ => true
  | .agg cs => V.closedL cs
  | .tup cs => V.closedL cs
  | .nil => true
  | .sl _ _ cs => V.closedL cs
  | .rd cs => V.closedL cs
  | .ptr .. => false
  | .map _ => false
  | .fn _ first cap => V.closedL first && V.closedL cap
  | .iface _ x => x.closed
def V.closedL : List V → Bool
  | [] => true
  | x :: xs => x.closed && V.closedL xs
end
section
variable {I : Nat → Nat → Option Value} {φ φ' : List Nat}
mutual
theorem Rel.closed : ∀ {x : V} {v : Value}, Rel I φ x v → x.closed = true → Rel I φ' x v
  | _, _, .sc v, _ => .sc v
  | _, _, .agg h, hc => .agg (RelL.closed h hc)
  | _, _, .tup h, hc => .tup (RelL.closed h hc)
  | _, _, .nil, _ => .nil
  | _, _, .sl h h1 h2 h3 h4 h5, hc => .sl (RelL.closed h hc) h1 h2 h3 h4 h5
  | _, _, .sl0, _ => .sl0
  | _, _, .rd h h1 h5, hc => .rd (RelL.closed h hc) h1 h5
  | _, _, .ptr h, hc => by cases hc
  | _, _, .map h, hc => by cases hc
  | _, _, .fn h h1, hc => by
    simp only [V.closed, Bool.and_eq_true] at hc
    exact .fn (RelL.closed h hc.1) (RelL.closed h1 hc.2)
  | _, _, .iface h, hc => .iface (Rel.closed h hc)
theorem RelL.closed : ∀ {x : List V} {v : List Value}, RelL I φ x v → V.closedL x = true → RelL I φ' x v
  | _, _, .nil, _ => .nil
  | _, _, .cons h h1, hc => by
    simp only [V.closedL, Bool.and_eq_true] at hc
    exact .cons (Rel.closed h hc.1) (RelL.closed h1 hc.2)
end
end

/-- A function that only reckons: it returns r, whatever blocks there are. -/
def PFn (P : Program) (f : FuncId) (xs : List V) (r : V) : Prop := AFn P f xs [] fun y _ => y = r
section
variable {P : Program} {c : Cx} {N : Nat} {s : St} {a : Act} {w : World} {K : St → Prop}
/-- A call of a function that only reckons. -/
def pureK (P : Program) (N : Nat) (dst : Option Tmp) (f : FuncId) (xs : List V) (F : Fr) (H : List Bk) (K : St → Prop) : Prop := ∃ r, PFn P f xs r ∧ V.closedL xs = true ∧ r.closed = true ∧ putK N dst (.v r) ⟨F, H⟩ K
/-- Behind it all lies as it lay. -/
theorem Sim.past {c3 c0 : Cx} {H' : List Bk} {w' : World} (h : Sim c N s a w) (hI : c0.I = c.I) (h0 : ∀ b, c0.R b = .out) (k2 : Inv c3 H' w') (k4 : Ext c0 w c3 w') : Sim ⟨c3.I, c.φ, c.R⟩ N s a w' ∧ Ext c w ⟨c3.I, c.φ, c.R⟩ w' := by
  have ko : ∀ b, b < w.heap.size → w'.heap[b]? = w.heap[b]? ∧ ∀ o, c3.I b o = c.I b o := fun b hb => by
    obtain ⟨q1, _, q3⟩ := k4.out b hb (h0 b)
    exact ⟨q1, fun o => by rw [q3, hI]⟩
  have himm : ∀ b o v, c.I b o = some v → c3.I b o = some v := fun b o v hv => k4.imm b o v (by rw [hI]; exact hv)
  let c4 : Cx := ⟨c3.I, c.φ, c.R⟩
  refine ⟨⟨⟨k2.imm, h.inv.len, fun b hb => Nat.lt_of_lt_of_le (h.inv.lt b hb) k4.size, h.inv.uniq, fun id b k hb hk => ?_⟩, h.size, h.defers, fun t x hx => ?_⟩, k4.os, k4.tape, k4.output, k4.size, fun b hb hr => ⟨(ko b hb).1, hr, (ko b hb).2⟩, himm, fun _ _ h => h⟩
  · obtain ⟨h1, h2, h3⟩ := h.inv.blk id b k hb hk
    have hlt := h.inv.lt b (by rw [h1]; simp)
    refine ⟨h1, fun o => ((ko b hlt).2 o).trans (h2 o), ?_⟩
    by_cases hck : ∃ cs, k = .cells cs
    · obtain ⟨cs, rfl⟩ := hck
      obtain ⟨arr, e, g1, g2, g6, g3⟩ := h3
      refine ⟨arr, e, (ko b hlt).1.trans g1, g2, g6, fun j x u hx hu => ⟨(g3 j x u hx hu).1, ?_⟩⟩
      exact SRel.mono (c := c) (c' := c4) (w := w) (w' := w') himm (fun _ _ h => h) (fun b' q _ hq => by
        have := h.inv.lt b' (by rw [hq]; simp)
        exact ⟨hq, (ko b' this).1, (ko b' this).2⟩) (g3 j x u hx hu).2
    · exact BRel.stay (fun cs e => hck ⟨cs, e⟩) h3 himm (fun _ _ h => h) (fun b' o ho _ => (ko b' (obj_lt ho)).1.trans ho)
  · obtain ⟨u, hu, hr⟩ := h.fr t x hx
    refine ⟨u, hu, SRel.mono (c := c) (c' := c4) (w := w) (w' := w') himm (fun _ _ h => h) (fun b' q _ hq => ?_) hr⟩
    have := h.inv.lt b' (by rw [hq]; simp)
    exact ⟨hq, (ko b' this).1, (ko b' this).2⟩

def aCall (P : Program) (N : Nat) (dst : Option Tmp) (f : Operand) (args : List Operand) (s : St) (K : St → Prop) : Prop := match evalV s f, valsS ⟨shareF s.F args, s.H⟩ args with
  | some (.fn (.func k) first cap), some vs => (∃ Q, AFn P k (first ++ vs ++ cap) s.H Q ∧ ∀ y H', Q y H' → putK N dst (.v y) ⟨calm (shareF s.F args), H'⟩ K) ∨ pureK P N dst k (first ++ vs ++ cap) (shareF s.F args) s.H K
  | _, _ => False
theorem aCall_acts {o : Oper} {f : Operand} {args : Array Operand} {ts : Array TypeId} (ho : o.op = .call { callee := .value f, args := args, argTypes := ts }) (h : Sim c N s a w) (hk : aCall P N o.dst f args.toList s K) : Acts P o a w (Post c w N K) := by
  unfold aCall at hk
  split at hk
  · rename_i k first cap vs hf hv
    have hfr := evalV_rel h hf
    generalize hfv : a.eval f = fv at hfr
    cases hfr with
    | fn r1 r2 =>
      rename_i first' cap'
      obtain ⟨c1, h1, x1⟩ := Sim.shareF (F := s.F) (H := s.H) (xs := args.toList) h
      have hvs := valsS_rel h1 hv
      have hargs : RelL c1.I c1.φ (first ++ vs ++ cap) (first'.toList ++ args.toList.map a.eval ++ cap'.toList) :=
        ((RelL.mono x1.imm x1.phi r1).append hvs).append (RelL.mono x1.imm x1.phi r2)
      have hrun : Enters P k → (execOp a.eval o).run P w = .ok (.enter k (first'.toList ++ args.toList.map a.eval ++ cap'.toList).toArray) w := by
        rintro ⟨fn, e1, e2, e3⟩
        unfold execOp
        simp only [ho, resolve, hfv, Deferred.ofValue, Sem.run_bind, Sem.run_pure, Result.andThen_ok, invoke, callFunc, run_program, e1, e3, Bool.false_eq_true, if_false]
        have e4 : fn.body.isNone = false := by cases hb : fn.body <;> simp_all
        simp only [e4, Bool.false_eq_true, if_false, Sem.run_pure]
        congr 2
        apply Array.toList_inj.1
        simp
      rcases hk with ⟨Q, ⟨hen, hc⟩, hk⟩ | ⟨r, ⟨hen, hc⟩, cx, cr, hk⟩
      · have hcall := hc c1.hide w _ h1.inv.hide (hide_noSlot c1) hargs
        unfold Acts Oper.wp
        rw [hrun hen, Oper.upon_enter]
        refine hcall.mono fun e w' he => ?_
        obtain ⟨v, y, H', c2, rfl, q1, q2, q3, q4, q5⟩ := he
        obtain ⟨c3, s3, x3, i3, p3⟩ := h1.back q2 q3 q4
        have := putK_post (v := v) s3 (hk y H' q5) fun d _ => (show Rel c3.I c3.φ y v by rw [i3, p3]; exact q1)
        exact Post.step (x1.trans x3) this
      · let cc : Cx := ⟨c1.I, [], fun _ => .out⟩
        have hi0 : Inv cc [] w := ⟨h1.inv.imm, rfl, fun b hb => absurd rfl hb, fun b b' r hb => (by cases hb), fun id b k hb => (by simp [cc] at hb)⟩
        have hcall := hc cc w _ hi0 (fun b t e => by cases e) (RelL.closed hargs cx)
        unfold Acts Oper.wp
        rw [hrun hen, Oper.upon_enter]
        refine hcall.mono fun e w' he => ?_
        obtain ⟨v, y, H', c2, rfl, q1, q2, q3, q4, rfl⟩ := he
        obtain ⟨s3, x3⟩ := h1.past (c0 := cc) rfl (fun _ => rfl) q2 q4
        have := putK_post (v := v) s3 hk fun d _ => (show Rel c2.I c1.φ y v from Rel.closed q1 cr)
        exact Post.step (x1.trans x3) this
  · exact hk.elim
end
end AM
end Go.Proofs.Ytoooldijnilpaaa
