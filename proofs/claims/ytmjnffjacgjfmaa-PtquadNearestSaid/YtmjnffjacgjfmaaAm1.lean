/- Calls over an abstract state; code, statement by statement. Plain lemmas, over any program. -/
import Derived.Test.YtmjnffjacgjfmaaAs
namespace Go.Proofs.Ytmjnffjacgjfmaa
set_option linter.all false
open Go.RowKit
namespace AM
section
variable {P : Program} {c : Cx} {N : Nat} {s : St} {a : Act} {w : World} {K : St → Prop}

def NoSlot (c : Cx) : Prop := ∀ b t, c.R b ≠ .own (.slot t)
def Enters (P : Program) (f : FuncId) : Prop := ∃ fn, P.funcs[f]? = some fn ∧ fn.body.isSome = true ∧ (fn.name == "runtime.NumGoroutine") = false

/-- What a function promises: given these values, over these blocks, it returns a value and leaves blocks of which Q holds. -/
def AFn (P : Program) (f : FuncId) (xs : List V) (H : List Bk) (Q : V → List Bk → Prop) : Prop :=
  Enters P f ∧ ∀ (c : Cx) (w : World) (vs : List Value), Inv c H w → NoSlot c → RelL c.I c.φ xs vs →
    Calls P f vs.toArray w fun e w' => ∃ v y H' c', e = .returned v ∧ Rel c'.I c'.φ y v ∧ Inv c' H' w' ∧ NoSlot c' ∧ Ext c w c' w' ∧ Q y H'

def isSlot : Role → Bool
  | .own (.slot _) => true
  | _ => false
/-- What a callee sees of its caller's rows: nothing. -/
def Cx.hide (c : Cx) : Cx := { c with R := fun b => bif isSlot (c.R b) then .out else c.R b }
theorem hide_out {b : Nat} (h : isSlot (c.R b) = true) : c.hide.R b = .out := by simp [Cx.hide, h]
theorem hide_same {b : Nat} (h : isSlot (c.R b) = false) : c.hide.R b = c.R b := by simp [Cx.hide, h]
theorem hide_noSlot (c : Cx) : NoSlot c.hide := fun b t h => by
  cases hs : isSlot (c.R b) with
  | true => rw [hide_out hs] at h; cases h
  | false =>
    rw [hide_same hs] at h
    rw [h] at hs
    cases hs
theorem hide_own {b : Nat} {r : Root} (h : c.hide.R b = .own r) : c.R b = .own r := by
  cases hs : isSlot (c.R b) with
  | true => rw [hide_out hs] at h; cases h
  | false => rwa [hide_same hs] at h

theorem Inv.hide {H : List Bk} (h : Inv c H w) : Inv c.hide H w := by
  refine ⟨h.imm, h.len, fun b hb => h.lt b fun e => hb ?_, fun b b' r hb hb' => h.uniq b b' r (hide_own hb) (hide_own hb'), fun id b k hb hk => ?_⟩
  · cases hs : isSlot (c.R b) with
    | true => exact hide_out hs
    | false => rw [hide_same hs]; exact e
  · obtain ⟨h1, h2, h3⟩ := h.blk id b k hb hk
    refine ⟨by rw [hide_same (by rw [h1]; rfl)]; exact h1, h2, ?_⟩
    by_cases hck : ∃ cs, k = .cells cs
    rotate_left
    · exact BRel.stay (fun cs e => hck ⟨cs, e⟩) h3 (fun _ _ _ h => h) (fun _ _ h => h) (fun _ _ h _ => h)
    obtain ⟨cs, rfl⟩ := hck
    obtain ⟨arr, e, g1, g2, g6, g3⟩ := h3
    refine ⟨arr, e, g1, g2, g6, fun j x v hx hv => ⟨(g3 j x v hx hv).1, ?_⟩⟩
    exact SRel.mono (c := c) (c' := c.hide) (w := w) (w' := w) (fun _ _ _ h => h) (fun _ _ h => h) (fun b' q hq hb' => ⟨(by
      rcases hq with rfl | hq
      · rw [hide_same (by rw [hb']; rfl)]; exact hb'
      · rw [flat_refers (g3 j x v hx hv).1] at hq; cases hq), rfl, fun _ => rfl⟩) (g3 j x v hx hv).2

/-- The caller goes on behind a call. -/
theorem Sim.back {F : Fr} {H H' : List Bk} {c1 : Cx} {w1 : World} (h : Sim c N ⟨F, H⟩ a w) (h1 : Inv c1 H' w1) (hn : NoSlot c1) (hx : Ext c.hide w c1 w1) :
    ∃ c', Sim c' N ⟨calm F, H'⟩ a w1 ∧ Ext c w c' w1 ∧ c'.I = c1.I ∧ c'.φ = c1.φ := by
  let c' : Cx := { c1 with R := fun b => bif isSlot (c.R b) then c.R b else c1.R b }
  have rs : ∀ b, isSlot (c.R b) = true → c'.R b = c.R b := fun b hb => by simp [c', hb]
  have rn : ∀ b, isSlot (c.R b) = false → c'.R b = c1.R b := fun b hb => by simp [c', hb]
  have out1 : ∀ b, isSlot (c.R b) = true → b < w.heap.size ∧ w1.heap[b]? = w.heap[b]? ∧ c1.R b = .out ∧ ∀ o, c1.I b o = c.I b o := fun b hb => by
    have hlt := h.inv.lt b (fun e => by rw [e] at hb; cases hb)
    obtain ⟨k1, k2, k3⟩ := hx.out b hlt (hide_out hb)
    exact ⟨hlt, k1, k2, k3⟩
  have cell1 : ∀ b r, c1.R b = .own r → c'.R b = .own r := fun b r hb => by
    cases hs : isSlot (c.R b) with
    | true => rw [(out1 b hs).2.2.1] at hb; cases hb
    | false => rw [rn b hs]; exact hb
  refine ⟨c', ⟨⟨h1.imm, h1.len, fun b hb => ?_, fun b b' r hb hb' => ?_, fun id b k hb hk => ?_⟩, h.size, h.defers, fun t x hx' => ?_⟩, ?_, rfl, rfl⟩
  · cases hs : isSlot (c.R b) with
    | true => exact Nat.lt_of_lt_of_le (out1 b hs).1 hx.size
    | false => rw [rn b hs] at hb; exact h1.lt b hb
  · cases hs : isSlot (c.R b) with
    | true =>
      rw [rs b hs] at hb
      cases hs' : isSlot (c.R b') with
      | true => rw [rs b' hs'] at hb'; exact h.inv.uniq b b' r hb hb'
      | false =>
        rw [rn b' hs'] at hb'
        rw [hb] at hs
        cases r with
        | slot t => exact absurd hb' (hn b' t)
        | cell => cases hs
    | false =>
      rw [rn b hs] at hb
      cases hs' : isSlot (c.R b') with
      | true =>
        rw [rs b' hs'] at hb'
        rw [hb'] at hs'
        cases r with
        | slot t => exact absurd hb (hn b t)
        | cell => cases hs'
      | false => rw [rn b' hs'] at hb'; exact h1.uniq b b' r hb hb'
  · obtain ⟨k1, k2, k3⟩ := h1.blk id b k hb hk
    have hs : isSlot (c.R b) = false := by
      cases hs : isSlot (c.R b) with
      | true => rw [(out1 b hs).2.2.1] at k1; cases k1
      | false => rfl
    refine ⟨by rw [rn b hs]; exact k1, k2, ?_⟩
    by_cases hck : ∃ cs, k = .cells cs
    rotate_left
    · exact BRel.stay (fun cs e => hck ⟨cs, e⟩) k3 (fun _ _ _ h => h) (fun _ _ h => h) (fun _ _ h _ => h)
    obtain ⟨cs, rfl⟩ := hck
    obtain ⟨arr, e, g1, g2, g6, g3⟩ := k3
    refine ⟨arr, e, g1, g2, g6, fun j x v hx hv => ⟨(g3 j x v hx hv).1, ?_⟩⟩
    exact SRel.mono (c := c1) (c' := c') (w := w1) (w' := w1) (fun _ _ _ h => h) (fun _ _ h => h) (fun b' q hq hb' => ⟨cell1 b' q hb', rfl, fun _ => rfl⟩) (g3 j x v hx hv).2
  · obtain ⟨hxF, hcalm⟩ := mem_calm hx'
    obtain ⟨v, hv, hr⟩ := h.fr t x hxF
    refine ⟨v, hv, SRel.mono (c := c) (c' := c') (w := w) (w' := w1) hx.imm hx.phi (fun b q hq hb => ?_) hr⟩
    have hs : isSlot (c.R b) = true := by
      rw [hb]
      rcases hq with rfl | hq
      · rfl
      · cases q with
        | slot => rfl
        | cell id j =>
          cases x with
          | pth r' o =>
            have : r' = .cell id j := by simpa [SV.refers] using hq
            subst this
            cases hcalm
          | lnk r' o =>
            have : r' = .cell id j := by simpa [SV.refers] using hq
            subst this
            cases hcalm
          | _ => cases hq
    obtain ⟨_, o1, _, o3⟩ := out1 b hs
    exact ⟨by rw [rs b hs]; exact hb, o1, o3⟩
  · refine ⟨hx.os, hx.tape, hx.output, hx.size, fun b hb hr => ?_, hx.imm, hx.phi⟩
    have hs : isSlot (c.R b) = false := by rw [hr]; rfl
    obtain ⟨k1, k2, k3⟩ := hx.out b hb (by rw [hide_same hs]; exact hr)
    exact ⟨k1, by rw [rn b hs]; exact k2, k3⟩
theorem Ext.hide (c : Cx) (w : World) : Ext c w c.hide w :=
  ⟨rfl, rfl, rfl, Nat.le_refl _, fun b hb h => ⟨rfl, by rw [hide_same (by rw [h]; rfl)]; exact h, fun _ => rfl⟩, fun _ _ _ h => h, fun _ _ h => h⟩

/-! ## Arguments: a row that is handed to a call is shared -/
def shareF (F : Fr) : List Operand → Fr
  | [] => F
  | .tmp t :: xs => match getF t F with
    | some (.own true e n sz cs) => shareF (setF t (.own false e n sz cs) F) xs
    | _ => shareF F xs
  | _ :: xs => shareF F xs
def evalS (s : St) (x : Operand) : Option V := match eval s x with
  | some (.v y) => some y
  | some (.own false _ n sz cs) => some (.sl n sz cs)
  | _ => none
def valsS (s : St) : List Operand → Option (List V)
  | [] => some []
  | x :: xs => match evalS s x, valsS s xs with
    | some v, some l => some (v :: l)
    | _, _ => none
theorem Sim.shareF {H : List Bk} : ∀ {xs : List Operand} {F : Fr} {c : Cx}, Sim c N ⟨F, H⟩ a w → ∃ c', Sim c' N ⟨shareF F xs, H⟩ a w ∧ Ext c w c' w
  | [], F, c, h => ⟨c, h, Ext.refl c w⟩
  | x :: xs, F, c, h => by
    cases x with
    | tmp t =>
      simp only [AM.shareF]
      split
      · rename_i e n sz cs hg
        obtain ⟨c', u, _, _, h1, h2⟩ := h.share hg
        obtain ⟨c2, k1, k2⟩ := Sim.shareF (xs := xs) h1
        exact ⟨c2, k1, h2.trans k2⟩
      · exact Sim.shareF (xs := xs) h
    | _ => exact Sim.shareF (xs := xs) h
theorem evalS_rel {x : Operand} {y : V} (h : Sim c N s a w) (hx : evalS s x = some y) : Rel c.I c.φ y (a.eval x) := by
  unfold evalS at hx
  split at hx
  · rename_i z he
    cases hx
    exact eval_any h he (fun _ _ _ _ _ e => by cases e) (.slot 0)
  · rename_i e n sz cs he
    cases hx
    rcases eval_rel h he (.slot 0) with ⟨t, _, _, _, hr⟩ | ⟨z, e', _⟩
    · obtain ⟨h0, vs, h1, h2, h3, h4⟩ := hr
      generalize a.eval x = v at h2 h4
      rcases h2.2 with ⟨rfl, rfl⟩ | ⟨g, cap, cur, rfl, _, g1, g2, g3, g4, g5⟩
      · obtain ⟨rfl, rfl⟩ := nil_of h1 h2
        exact .sl0
      · obtain ⟨_, k2⟩ := h4 g rfl
        exact .sl h1 (fun j u hu => by rw [Nat.zero_add, k2]; simpa using hu) (by rw [h1.len, h2.1]) g2 g3 h3
    · cases e'
  · cases hx
theorem valsS_rel (h : Sim c N s a w) : ∀ {xs : List Operand} {l : List V}, valsS s xs = some l → RelL c.I c.φ l (xs.map a.eval)
  | [], l, hl => by cases hl; exact .nil
  | x :: xs, l, hl => by
    unfold valsS at hl
    cases hx : evalS s x with
    | none => rw [hx] at hl; cases hl
    | some v =>
      cases hp : valsS s xs with
      | none => rw [hx, hp] at hl; cases hl
      | some l' =>
        rw [hx, hp] at hl
        cases hl
        exact .cons (evalS_rel h hx) (valsS_rel h hp)

end
/-! ## Functions that only reckon -/
mutual
def V.closed : V → Bool
  | .sc _ => true
  | .agg cs => V.closedL cs
  | .tup cs => V.closedL cs
  | .nil => true
  | .sl _ _ cs => V.closedL cs
  | .rd cs => V.closedL cs
  | .ptr .. => false
  | .map _ => false
  | .fn _ first cap => V.closedL first && V.closedL cap
  | .iface _ x => x.closed
  | .fs _ _ cs => V.closedL cs
  | .slb .. => false
def V.closedL : List V → Bool
  | [] => true
  | x :: xs => x.closed && V.closedL xs
end
section
variable {I : Nat → Nat → Option Value} {φ φ' : List Nat}
mutual
theorem Rel.closed : ∀ {x : V} {v : Value}, Rel I φ x v → x.closed = true → Rel I φ' x v
  | _, _, .sc v, _ => .sc v
  | _, _, .agg h, hc => .agg (RelL.closed h hc)
  | _, _, .tup h, hc => .tup (RelL.closed h hc)
  | _, _, .nil, _ => .nil
  | _, _, .sl h h1 h2 h3 h4 h5, hc => .sl (RelL.closed h hc) h1 h2 h3 h4 h5
  | _, _, .sl0, _ => .sl0
  | _, _, .rd h h1 h5, hc => .rd (RelL.closed h hc) h1 h5
  | _, _, .ptr h, hc => by cases hc
  | _, _, .map h, hc => by cases hc
  | _, _, .fn h h1, hc => by
    simp only [V.closed, Bool.and_eq_true] at hc
    exact .fn (RelL.closed h hc.1) (RelL.closed h1 hc.2)
  | _, _, .iface h, hc => .iface (Rel.closed h hc)
  | _, _, .fs h h1 h2 h3 h4, hc => .fs (RelL.closed h hc) h1 h2 h3 h4
  | _, _, .fs0, _ => .fs0
  | _, _, .slb .., hc => by cases hc
  | _, _, .slb0 .., hc => by cases hc
theorem RelL.closed : ∀ {x : List V} {v : List Value}, RelL I φ x v → V.closedL x = true → RelL I φ' x v
  | _, _, .nil, _ => .nil
  | _, _, .cons h h1, hc => by
    simp only [V.closedL, Bool.and_eq_true] at hc
    exact .cons (Rel.closed h hc.1) (RelL.closed h1 hc.2)
end
end

/-- A function that only reckons: it returns r, whatever blocks there are. -/
def PFn (P : Program) (f : FuncId) (xs : List V) (r : V) : Prop := AFn P f xs [] fun y _ => y = r
section
variable {P : Program} {c : Cx} {N : Nat} {s : St} {a : Act} {w : World} {K : St → Prop}
/-- A call of a function that only reckons. -/
def pureK (P : Program) (N : Nat) (dst : Option Tmp) (f : FuncId) (xs : List V) (F : Fr) (H : List Bk) (K : St → Prop) : Prop := ∃ r, PFn P f xs r ∧ V.closedL xs = true ∧ r.closed = true ∧ putK N dst (.v r) ⟨F, H⟩ K
/-- Behind it all lies as it lay. -/
theorem Sim.past {c3 c0 : Cx} {H' : List Bk} {w' : World} (h : Sim c N s a w) (hI : c0.I = c.I) (h0 : ∀ b, c0.R b = .out) (k2 : Inv c3 H' w') (k4 : Ext c0 w c3 w') : Sim ⟨c3.I, c.φ, c.R⟩ N s a w' ∧ Ext c w ⟨c3.I, c.φ, c.R⟩ w' := by
  have ko : ∀ b, b < w.heap.size → w'.heap[b]? = w.heap[b]? ∧ ∀ o, c3.I b o = c.I b o := fun b hb => by
    obtain ⟨q1, _, q3⟩ := k4.out b hb (h0 b)
    exact ⟨q1, fun o => by rw [q3, hI]⟩
  have himm : ∀ b o v, c.I b o = some v → c3.I b o = some v := fun b o v hv => k4.imm b o v (by rw [hI]; exact hv)
  let c4 : Cx := ⟨c3.I, c.φ, c.R⟩
  refine ⟨⟨⟨k2.imm, h.inv.len, fun b hb => Nat.lt_of_lt_of_le (h.inv.lt b hb) k4.size, h.inv.uniq, fun id b k hb hk => ?_⟩, h.size, h.defers, fun t x hx => ?_⟩, k4.os, k4.tape, k4.output, k4.size, fun b hb hr => ⟨(ko b hb).1, hr, (ko b hb).2⟩, himm, fun _ _ h => h⟩
  · obtain ⟨h1, h2, h3⟩ := h.inv.blk id b k hb hk
    have hlt := h.inv.lt b (by rw [h1]; simp)
    refine ⟨h1, fun o => ((ko b hlt).2 o).trans (h2 o), ?_⟩
    by_cases hck : ∃ cs, k = .cells cs
    · obtain ⟨cs, rfl⟩ := hck
      obtain ⟨arr, e, g1, g2, g6, g3⟩ := h3
      refine ⟨arr, e, (ko b hlt).1.trans g1, g2, g6, fun j x u hx hu => ⟨(g3 j x u hx hu).1, ?_⟩⟩
      exact SRel.mono (c := c) (c' := c4) (w := w) (w' := w') himm (fun _ _ h => h) (fun b' q _ hq => by
        have := h.inv.lt b' (by rw [hq]; simp)
        exact ⟨hq, (ko b' this).1, (ko b' this).2⟩) (g3 j x u hx hu).2
    · exact BRel.stay (fun cs e => hck ⟨cs, e⟩) h3 himm (fun _ _ h => h) (fun b' o ho _ => (ko b' (obj_lt ho)).1.trans ho)
  · obtain ⟨u, hu, hr⟩ := h.fr t x hx
    refine ⟨u, hu, SRel.mono (c := c) (c' := c4) (w := w) (w' := w') himm (fun _ _ h => h) (fun b' q _ hq => ?_) hr⟩
    have := h.inv.lt b' (by rw [hq]; simp)
    exact ⟨hq, (ko b' this).1, (ko b' this).2⟩

/-- What stands at a call, ahead of its name callK. -/
def callB (P : Program) (N : Nat) (dst : Option Tmp) (f : FuncId) (xs : List V) (F : Fr) (H : List Bk) (K : St → Prop) : Prop := (∃ Q, AFn P f xs H Q ∧ ∀ y H', Q y H' → putK N dst (.v y) ⟨calm F, H'⟩ K) ∨ pureK P N dst f xs F H K
theorem callFunc_run {f : FuncId} {us : Array Value} {w : World} (h : Enters P f) : (callFunc f us).run P w = .ok (.enter f us) w := by
  obtain ⟨fn, e1, e2, e3⟩ := h
  have e4 : fn.body.isNone = false := by cases hb : fn.body <;> simp_all
  simp only [callFunc, Sem.run_bind, run_program, Result.andThen_ok, e1, e3, Bool.false_eq_true, if_false, e4, Sem.run_pure]
theorem callB_acts {o : Oper} {k : FuncId} {xs : List V} {us : Array Value} {F1 : Fr} {H1 : List Bk} {c1 : Cx} (hargs : RelL c1.I c1.φ xs us.toList)
    (hrun : Enters P k → (execOp a.eval o).run P w = .ok (.enter k us) w) (h1 : Sim c1 N ⟨F1, H1⟩ a w) (x1 : Ext c w c1 w) (hk : callB P N o.dst k xs F1 H1 K) : Acts P o a w (Post c w N K) := by
  rcases hk with ⟨Q, ⟨hen, hc⟩, hk⟩ | ⟨r, ⟨hen, hc⟩, cx, cr, hk⟩
  · have hcall := hc c1.hide w _ h1.inv.hide (hide_noSlot c1) hargs
    unfold Acts Oper.wp
    rw [hrun hen, Oper.upon_enter]
    refine hcall.mono fun e w' he => ?_
    obtain ⟨v, y, H', c2, rfl, q1, q2, q3, q4, q5⟩ := he
    obtain ⟨c3, s3, x3, i3, p3⟩ := h1.back q2 q3 q4
    have := putK_post (v := v) s3 (hk y H' q5) fun d _ => (show Rel c3.I c3.φ y v by rw [i3, p3]; exact q1)
    exact Post.step (x1.trans x3) this
  · let cc : Cx := ⟨c1.I, [], fun _ => .out⟩
    have hi0 : Inv cc [] w := ⟨h1.inv.imm, rfl, fun b hb => absurd rfl hb, fun b b' r hb => (by cases hb), fun id b k hb => (by simp [cc] at hb)⟩
    have hcall := hc cc w _ hi0 (fun b t e => by cases e) (RelL.closed hargs cx)
    unfold Acts Oper.wp
    rw [hrun hen, Oper.upon_enter]
    refine hcall.mono fun e w' he => ?_
    obtain ⟨v, y, H', c2, rfl, q1, q2, q3, q4, rfl⟩ := he
    obtain ⟨s3, x3⟩ := h1.past (c0 := cc) rfl (fun _ => rfl) q2 q4
    have := putK_post (v := v) s3 hk fun d _ => (show Rel c2.I c1.φ y v from Rel.closed q1 cr)
    exact Post.step (x1.trans x3) this
def aCall (P : Program) (N : Nat) (dst : Option Tmp) (f : Operand) (args : List Operand) (s : St) (K : St → Prop) : Prop := match evalV s f, valsS ⟨shareF s.F args, s.H⟩ args with
  | some (.fn (.func k) first cap), some vs => callB P N dst k (first ++ vs ++ cap) (shareF s.F args) s.H K
  | _, _ => False
theorem aCall_acts {o : Oper} {f : Operand} {args : Array Operand} {ts : Array TypeId} (ho : o.op = .call { callee := .value f, args := args, argTypes := ts }) (h : Sim c N s a w) (hk : aCall P N o.dst f args.toList s K) : Acts P o a w (Post c w N K) := by
  unfold aCall at hk
  split at hk
  · rename_i k first cap vs hf hv
    have hfr := evalV_rel h hf
    generalize hfv : a.eval f = fv at hfr
    cases hfr with
    | fn r1 r2 =>
      rename_i first' cap'
      obtain ⟨c1, h1, x1⟩ := Sim.shareF (F := s.F) (H := s.H) (xs := args.toList) h
      have hvs := valsS_rel h1 hv
      have hargs : RelL c1.I c1.φ (first ++ vs ++ cap) (first'.toList ++ args.toList.map a.eval ++ cap'.toList) :=
        ((RelL.mono x1.imm x1.phi r1).append hvs).append (RelL.mono x1.imm x1.phi r2)
      refine callB_acts (us := (first'.toList ++ args.toList.map a.eval ++ cap'.toList).toArray) hargs (fun hen => ?_) h1 x1 hk
      rw [← callFunc_run hen]
      unfold execOp
      simp only [ho, resolve, hfv, Deferred.ofValue, Sem.run_bind, Sem.run_pure, Result.andThen_ok, invoke]
      congr 2
      apply Array.toList_inj.1
      simp
  · exact hk.elim
/-! ## Calls by an interface -/
/-- The method that a name means for pointers of a type. -/
def MethodIs (P : Program) (t : TypeId) (name : String) (f : FuncId) : Prop := ∀ (p : Addr) (w : World), (method (P.types.size + Made.depth) t (.pointer (some p)) name).run P w = .ok (f, .pointer (some p)) w
open Classical in
noncomputable def methodOf (P : Program) (t : TypeId) (name : String) : FuncId := if h : ∃ f, MethodIs P t name f then Classical.choose h else 0
theorem MethodIs.eq {t : TypeId} {name : String} {f : FuncId} (h : MethodIs P t name f) : methodOf P t name = f := by
  have hx : ∃ f, MethodIs P t name f := ⟨f, h⟩
  unfold methodOf
  rw [dif_pos hx]
  have h1 := Classical.choose_spec hx
  have h2 := (h1 ⟨0, 0, none⟩ (default : World)).symm.trans (h ⟨0, 0, none⟩ default)
  simp only [Result.ok.injEq, Prod.mk.injEq, and_true] at h2
  exact h2
def aInvoke (P : Program) (N : Nat) (dst : Option Tmp) (x : Operand) (name : String) (args : List Operand) (s : St) (K : St → Prop) : Prop := match evalV s x, valsS ⟨shareF s.F args, s.H⟩ args with
  | some (.iface t (.ptr id off)), some vs => MethodIs P t name (methodOf P t name) ∧ callB P N dst (methodOf P t name) (.ptr id off :: vs) (shareF s.F args) s.H K
  | _, _ => False
theorem aInvoke_acts {o : Oper} {x : Operand} {name : String} {args : Array Operand} {ts : Array TypeId} (ho : o.op = .call { callee := .invoke x name, args := args, argTypes := ts }) (h : Sim c N s a w) (hk : aInvoke P N o.dst x name args.toList s K) : Acts P o a w (Post c w N K) := by
  unfold aInvoke at hk
  split at hk
  · rename_i t id off vs hf hv
    obtain ⟨hm, hk⟩ := hk
    have hfr := evalV_rel h hf
    generalize hfv : a.eval x = fv at hfr
    cases hfr with
    | iface r =>
      cases r with
      | @ptr _ _ b hb =>
        obtain ⟨c1, h1, x1⟩ := Sim.shareF (F := s.F) (H := s.H) (xs := args.toList) h
        have hvs := valsS_rel h1 hv
        refine callB_acts (us := (_ :: args.toList.map a.eval).toArray) (RelL.cons (Rel.mono x1.imm x1.phi (Rel.ptr hb)) hvs) (fun hen => ?_) h1 x1 hk
        rw [← callFunc_run hen]
        unfold execOp
        simp only [ho, resolve, hfv, Sem.run_bind, Sem.run_pure, Result.andThen_ok, invoke, callMethod, run_program]
        have e0 : (#[Value.iface t (.pointer (some ⟨b, off, none⟩))] ++ args.map a.eval)[0]? = some (Value.iface t (.pointer (some ⟨b, off, none⟩))) := by
          rw [Array.getElem?_append_left (by exact Nat.zero_lt_one)]
          rfl
        simp only [e0, Sem.run_bind, run_program, Result.andThen_ok, hm _ w]
        congr 2
        apply Array.toList_inj.1
        simp
        rw [List.take_of_length_le (by simp)]
  · exact hk.elim
end
end AM
end Go.Proofs.Ytmjnffjacgjfmaa
namespace Go.Proofs.Ytmjnffjacgjfmaa
set_option linter.all false
open Go.RowKit
namespace AM
theorem setF_self {t : Nat} {x y : SV} : ∀ {F : Fr}, getF t F = some x → (t, y) ∈ setF t y F
  | [], h => by cases h
  | (j, z) :: F, h => by
    unfold getF at h
    unfold setF
    cases hj : j == t with
    | true =>
      have : j = t := by simpa using hj
      subst this
      simp
    | false =>
      rw [hj] at h
      simp only [cond_false] at h ⊢
      exact List.mem_cons_of_mem _ (setF_self h)
theorem setF_other {t k : Nat} {x y : SV} : ∀ {F : Fr}, (k, x) ∈ F → k ≠ t → (k, x) ∈ setF t y F
  | [], h, _ => by cases h
  | (j, z) :: F, h, hne => by
    unfold setF
    cases hj : j == t with
    | true =>
      have : j = t := by simpa using hj
      subst this
      simp only [cond_true]
      rcases List.mem_cons.1 h with e | h
      · cases e
        exact absurd rfl hne
      · first | exact List.mem_cons_of_mem _ h | exact List.mem_cons_of_mem _ (setF_other h hne)
    | false =>
      simp only [cond_false]
      rcases List.mem_cons.1 h with e | h
      · cases e; simp
      · exact List.mem_cons_of_mem _ (setF_other h hne)
theorem Sim.asSl {c : Cx} {N : Nat} {a : Act} {w : World} {F : Fr} {H : List Bk} {t : Nat} {pr : Bool} {e n sz : Nat} {cs : List V} (h : Sim c N ⟨F, H⟩ a w) (ht : getF t F = some (.own pr e n sz cs)) : ∃ c', Sim c' N ⟨setF t (.v (.sl n sz cs)) F, H⟩ a w ∧ Ext c w c' w := by
  obtain ⟨c', u, _, _, h1, h2⟩ := h.share ht
  refine ⟨c', ⟨h1.inv, h1.size, h1.defers, fun k x hx => ?_⟩, h2⟩
  rcases mem_setF hx with ⟨rfl, rfl⟩ | ⟨hne, hx⟩
  · have hm : (k, SV.own false e n sz cs) ∈ setF k (.own false e n sz cs) F := setF_self ht
    obtain ⟨v, hv, hr⟩ := h1.fr k _ hm
    refine ⟨v, hv, ?_⟩
    obtain ⟨h0, vs, r1, r2, r3, r4⟩ := hr
    rcases r2.2 with ⟨rfl, rfl⟩ | ⟨g, cap, cur, rfl, _, g1, g2, g3, g4, g5⟩
    · obtain ⟨rfl, rfl⟩ := nil_of r1 r2
      exact Rel.sl0
    · obtain ⟨_, k2⟩ := r4 g rfl
      exact Rel.sl r1 (fun j u hu => by rw [Nat.zero_add, k2]; simpa using hu) (by rw [r1.len, r2.1]) g2 g3 r3
  · exact h1.fr k x (setF_other hx hne)
/-- The frame in which rows of the call's own that are operands are looked at alone. -/
def slF (F : Fr) : List Operand → Fr
  | [] => F
  | .tmp t :: xs => match getF t F with
    | some (.own pr e n sz cs) => slF (setF t (.v (.sl n sz cs)) F) xs
    | _ => slF F xs
  | _ :: xs => slF F xs
theorem Sim.slF {H : List Bk} {N : Nat} {a : Act} {w : World} : ∀ {xs : List Operand} {F : Fr} {c : Cx}, Sim c N ⟨F, H⟩ a w → ∃ c', Sim c' N ⟨slF F xs, H⟩ a w ∧ Ext c w c' w
  | [], F, c, h => ⟨c, h, Ext.refl c w⟩
  | x :: xs, F, c, h => by
    cases x with
    | tmp t =>
      simp only [AM.slF]
      split
      · rename_i ht
        obtain ⟨c1, h1, x1⟩ := h.asSl ht
        obtain ⟨c2, k1, k2⟩ := Sim.slF (xs := xs) h1
        exact ⟨c2, k1, x1.trans k2⟩
      · exact Sim.slF (xs := xs) h
    | _ => exact Sim.slF (xs := xs) h
end AM
end Go.Proofs.Ytmjnffjacgjfmaa
namespace Go.Proofs.Ytmjnffjacgjfmaa
set_option linter.all false
open Go.RowKit
namespace AM

def aGen (P : Program) (N : Nat) (o : Oper) (s : St) (K : St → Prop) : Prop := match exactV P s o with
  | some v => putK N o.dst (.v (.ofValue v)) s K
  | none => False
def aCallOp (P : Program) (N : Nat) (o : Oper) (cl : Call) (s : St) (K : St → Prop) : Prop := match cl.callee with
  | .value f => aCall P N o.dst f cl.args.toList s K
  | .invoke x name => aInvoke P N o.dst x name cl.args.toList s K
  | .builtin .append => match cl.args.toList, cl.argTypes.toList with
    | [x, y], [t, t'] => t = t' ∧ aApp P N o.dst t x y s K
    | _, _ => False
  | .builtin .len => match cl.args.toList, cl.argTypes.toList with
    | [x], [t] => match eval s x with
      | some (.v (.sc (.map _))) => aLenMap P N o.dst t x s K
      | some (.v (.map _)) => aLenMap P N o.dst t x s K
      | some (.v (.sc _)) => aGen P N o s K
      | _ => aLen P N o.dst t x s K
    | _, _ => False
  | .builtin .delete => match cl.args.toList, cl.argTypes.toList with
    | [x, y], t :: _ => aDelete P N o.dst t x y s K
    | _, _ => False
  | .builtin .min => match cl.args.toList with
    | [x, y] => aMM P N o.dst .min x y s K
    | _ => False
  | .builtin .max => match cl.args.toList with
    | [x, y] => aMM P N o.dst .max x y s K
    | _ => False
  | _ => aGen P N o s K
def aSliceOp (P : Program) (N : Nat) (o : Oper) (t : TypeId) (x : Operand) (lo hi mx : Option Operand) (s : St) (K : St → Prop) : Prop := match eval s x with
  | some (.v (.sl ..)) => aSlice P N o.dst t x lo hi mx s K
  | some (.v (.fs ..)) => aSlice P N o.dst t x lo hi mx s K
  | some (.own ..) => aShrink P N o.dst t x lo hi mx s K
  | _ => aGen P N o s K
def aIndexOp (P : Program) (N : Nat) (o : Oper) (t : TypeId) (x ix : Operand) (s : St) (K : St → Prop) : Prop := match evalV s x with
  | some (.agg _) => aIndex P N o.dst t x ix s K
  | _ => aGen P N o s K
def aop (P : Program) (N : Nat) (ops : List Oper) (o : Oper) (s : St) (K : St → Prop) : Prop := match o.op with
  | .move x => aMove N ops o.dst x s K
  | .assign x => aAssign N o.dst x s K
  | .pick x y z => aPick N o.dst x y z s K
  | .alloc t => aAlloc P N o.dst t s K
  | .box _ x => aBox N o.dst x s K
  | .build t ps => aBuild P N o.dst t ps.toList ⟨slF s.F (ps.toList.map (·.2)), s.H⟩ K
  | .buildSlice t n ps => aBuildSlice P N o.dst t n ps.toList s K
  | .load t x => aLoad P N ops o.dst t x s K
  | .store t x y => aStore P o.dst t x y s K
  | .nilCheck x => aNilCheck N o.dst x s K
  | .binOp op t x y _ => aBin P N o.dst op t x y s K
  | .makeFunc f l k => aMakeFunc N o.dst f l.toList k.toList s K
  | .fieldAddr t x f => aFieldAddr P N o.dst t x f s K
  | .field t x f => aField P N o.dst t x f s K
  | .indexAddr t x i => aIndexAddr P N o.dst t x i s K
  | .extract x i => aExtract N o.dst x i s K
  | .slice t x lo hi mx => aSliceOp P N o t x lo hi mx s K
  | .call cl => aCallOp P N o cl s K
  | .unOp op _ x => aUn P N o.dst op x s K
  | .convert t u x => aConv P N o.dst t u x s K
  | .makeInterface t x => aIface P N o.dst t x s K
  | .typeAssert x _ t ok => aAssert P N o.dst x t ok s K
  | .makeMap _ r => aMakeMap N o.dst r s K
  | .lookup t x y ok => aLookup P N o.dst t x y ok s K
  | .mapUpdate t x y z => aMapUpdate P o.dst t x y z s K
  | .insert t x y z => aMapUpdate P o.dst t x y z s K
  | .range t x => aRange P N o.dst t x s K
  | .next x isS => aNext N o.dst x isS s K
  | .entry x => aEntry N o.dst x s K
  | .makeSlice t x y => aMakeSlice P N o.dst t x y s K
  | .index t x i => aIndexOp P N o t x i s K
  | _ => aGen P N o s K

section
variable {P : Program} {c : Cx} {N : Nat} {s : St} {a : Act} {w : World} {K : St → Prop}

theorem aGen_reads' {o : Oper} (h : Sim c N s a w) (hk : aGen P N o s K) : Reads P o a w (Post c w N K) ∧ genB o.op = true := by
  unfold aGen at hk
  cases hv : exactV P s o with
  | none => rw [hv] at hk; exact hk.elim
  | some v =>
    rw [hv] at hk
    refine ⟨aGen_reads h hv hk, ?_⟩
    unfold exactV at hv
    cases hg : genB o.op with
    | true => rfl
    | false => rw [hg] at hv; cases hv

def Does (P : Program) (o : Oper) (a : Act) (w : World) (Q : Act → World → Prop) : Prop := if Mix.effB o = true then Acts P o a w Q else Reads P o a w Q
theorem Does.reads {o : Oper} {Q : Act → World → Prop} (h : Reads P o a w Q) : Does P o a w Q := by
  unfold Does
  split
  · exact h.acts
  · exact h
theorem Does.acts' {o : Oper} {Q : Act → World → Prop} (he : Mix.effB o = true) (h : Acts P o a w Q) : Does P o a w Q := by
  unfold Does
  rw [if_pos he]
  exact h
theorem Does.acts {o : Oper} {Q : Act → World → Prop} (h : Does P o a w Q) : Acts P o a w Q := by
  unfold Does at h
  split at h
  · exact h
  · exact h.acts

theorem aop_does {ops : List Oper} {o : Oper} (h : Sim c N s a w) (hk : aop P N ops o s K) : Does P o a w (Post c w N K) := by
  unfold aop at hk
  split at hk
  · rename_i x ho
    exact .reads ⟨a.eval x, fun w' _ => by unfold execOp; simp only [ho, Sem.run_pure], aMove_post h hk⟩
  · rename_i x ho
    exact .reads ⟨a.eval x, fun w' _ => by unfold execOp; simp only [ho, Sem.run_pure], aAssign_post h hk⟩
  · rename_i x y z ho
    exact .reads (aPick_reads ho h hk)
  · rename_i t ho
    exact .acts' (by simp [Mix.effB, ho]) (aAlloc_acts ho h hk)
  · rename_i t x ho
    exact .acts' (by simp [Mix.effB, ho]) (aBox_acts ho h hk)
  · rename_i t ps ho
    obtain ⟨c', h', x'⟩ := Sim.slF (F := s.F) (H := s.H) (xs := ps.toList.map (·.2)) h
    obtain ⟨v, q1, q2⟩ := aBuild_reads ho h' hk
    exact .reads ⟨v, q1, Post.step x' q2⟩
  · rename_i t n ps ho
    exact .acts' (by simp [Mix.effB, ho]) (aBuildSlice_acts ho h hk)
  · rename_i t x ho
    exact .reads (aLoad_reads ho h hk)
  · rename_i t x y ho
    exact .acts' (by simp [Mix.effB, ho]) (aStore_acts ho h hk)
  · rename_i x ho
    exact .reads (aNilCheck_reads ho h hk)
  · rename_i op t x y t' ho
    exact .reads (aBin_reads ho h hk)
  · rename_i f l k ho
    exact .reads (aMakeFunc_reads ho h hk)
  · rename_i t x f ho
    exact .reads (aFieldAddr_reads ho h hk)
  · rename_i t x f ho
    exact .reads (aField_reads ho h hk)
  · rename_i t x i ho
    exact .reads (aIndexAddr_reads ho h hk)
  · rename_i x i ho
    exact .reads (aExtract_reads ho h hk)
  · rename_i t x lo hi mx ho
    unfold aSliceOp at hk
    split at hk
    · exact .reads (aSlice_reads ho h hk)
    · exact .reads (aSlice_reads ho h hk)
    · exact .reads (aShrink_reads ho h hk)
    · exact .reads (aGen_reads' h hk).1
  · rename_i cl ho
    obtain ⟨callee, args, ts⟩ := cl
    unfold aCallOp at hk
    simp only at hk
    split at hk
    · rename_i f
      exact .acts' (by simp [Mix.effB, ho]) (aCall_acts ho h hk)
    · rename_i x name
      exact .acts' (by simp [Mix.effB, ho]) (aInvoke_acts ho h hk)
    · split at hk
      · rename_i x y t t' e1 e2
        obtain ⟨rfl, hk⟩ := hk
        have e1 : args = #[x, y] := Array.toList_inj.1 e1
        have e2 : ts = #[t, t] := Array.toList_inj.1 e2
        subst e1 e2
        exact .acts' (by simp [Mix.effB, ho]) (aApp_acts ho h hk)
      · exact hk.elim
    · split at hk
      · rename_i x t e1 e2
        have e1 : args = #[x] := Array.toList_inj.1 e1
        have e2 : ts = #[t] := Array.toList_inj.1 e2
        subst e1 e2
        split at hk
        · exact .reads (aLenMap_reads ho h hk)
        · exact .reads (aLenMap_reads ho h hk)
        · exact .reads (aGen_reads' h hk).1
        · exact .reads (aLen_reads ho h hk)
      · exact hk.elim
    · split at hk
      · rename_i x y t r e1 e2
        have e1 : args = #[x, y] := Array.toList_inj.1 e1
        subst e1
        exact .acts' (by simp [Mix.effB, ho]) (aDelete_acts ho (by rw [← Array.getElem?_toList, e2]; rfl) h hk)
      · exact hk.elim
    · split at hk
      · rename_i x y e1
        have e1 : args = #[x, y] := Array.toList_inj.1 e1
        subst e1
        exact .reads (aMM_reads ho h hk)
      · exact hk.elim
    · split at hk
      · rename_i x y e1
        have e1 : args = #[x, y] := Array.toList_inj.1 e1
        subst e1
        exact .reads (aMM_reads ho h hk)
      · exact hk.elim
    · exact .reads (aGen_reads' h hk).1
  · rename_i op t x ho
    exact .reads (aUn_reads ho h hk)
  · rename_i t u x ho
    exact .reads (aConv_reads ho h hk)
  · rename_i t x ho
    exact .reads (aIface_reads ho h hk)
  · rename_i x t' t ok ho
    exact .reads (aAssert_reads ho h hk)
  · rename_i t r ho
    exact .acts' (by simp [Mix.effB, ho]) (aMakeMap_acts ho h hk)
  · rename_i t x y ok ho
    exact .reads (aLookup_reads ho h hk)
  · rename_i t x y z ho
    exact .acts' (by simp [Mix.effB, ho]) (aMapUpdate_acts (.inl ho) h hk)
  · rename_i t x y z ho
    exact .acts' (by simp [Mix.effB, ho]) (aMapUpdate_acts (.inr ho) h hk)
  · rename_i t x ho
    exact .acts' (by simp [Mix.effB, ho]) (aRange_acts ho h hk)
  · rename_i x isS ho
    exact .acts' (by simp [Mix.effB, ho]) (aNext_acts ho h hk)
  · rename_i x ho
    exact .acts' (by simp [Mix.effB, ho]) (aEntry_acts ho h hk)
  · rename_i t x y ho
    exact .acts' (by simp [Mix.effB, ho]) (aMakeSlice_acts ho h hk)
  · rename_i t x i ho
    unfold aIndexOp at hk
    split at hk
    · exact .reads (aIndex_reads ho h hk)
    · exact .reads (aGen_reads' h hk).1
  · exact .reads (aGen_reads' h hk).1

/-! ## The operations of a region, in the order of the text -/
def aops (P : Program) (N : Nat) (ops : List Oper) : List Oper → (St → Prop) → St → Prop
  | [], K, s => K s
  | o :: rest, K, s => match o.guard with
    | none => aop P N ops o s (aops P N ops rest K)
    | some (j, want) => match (ops[j]?).bind (·.dst) with
      | some t => match getF t s.F with
        | some (.v (.sc (.bool b))) => (b = want → aop P N ops o ⟨setF t (.v (.sc (.bool want))) s.F, s.H⟩ (aops P N ops rest K)) ∧ (b = !want → putK N o.dst (.v (.tup [])) ⟨setF t (.v (.sc (.bool (!want)))) s.F, s.H⟩ (aops P N ops rest K))
        | some (.v (.tup [])) => putK N o.dst (.v (.tup [])) s (aops P N ops rest K)
        | _ => False
      | none => False

def boolOf : Value → Option Bool
  | .bool b => some b
  | _ => none
theorem yielded_of {ops : Array Oper} {j t : Nat} (hd : (ops[j]?).bind (·.dst) = some t) {v : Value} (hv : a.tmps[t]? = some v) : yielded ops a.tmps j = boolOf v := by
  unfold yielded
  rw [hd, Option.bind_some, hv]
  cases v <;> rfl

theorem Sim.lit {t : Nat} {b : Bool} (h : Sim c N s a w) (hg : getF t s.F = some (.v (.sc (.bool b)))) : Sim c N ⟨setF t (.v (.sc (.bool b))) s.F, s.H⟩ a w :=
  ⟨h.inv, h.size, h.defers, fun k x hx => by
    rcases mem_setF hx with ⟨rfl, rfl⟩ | ⟨_, hx⟩
    · exact h.fr _ _ (mem_getF hg)
    · exact h.fr k x hx⟩
theorem aops_cases {ops : Array Oper} {o : Oper} {rest : List Oper} (h : Sim c N s a w) (hk : aops P N ops.toList (o :: rest) K s) :
    (∃ s1, Sim c N s1 a w ∧ Region.wanted o (yielded ops a.tmps) = true ∧ aop P N ops.toList o s1 (aops P N ops.toList rest K)) ∨
    (∃ s1, Sim c N s1 a w ∧ Region.wanted o (yielded ops a.tmps) = false ∧ putK N o.dst (.v (.tup [])) s1 (aops P N ops.toList rest K)) := by
  unfold aops at hk
  cases hg : o.guard with
  | none => rw [hg] at hk; exact .inl ⟨s, h, by simp [Region.wanted, hg], hk⟩
  | some p =>
    obtain ⟨j, want⟩ := p
    rw [hg] at hk
    simp only at hk
    cases hd : (ops.toList[j]?).bind (·.dst) with
    | none => rw [hd] at hk; exact hk.elim
    | some t =>
      rw [hd] at hk
      simp only at hk
      have hd' : (ops[j]?).bind (·.dst) = some t := by simpa using hd
      split at hk
      · rename_i b hb
        obtain ⟨v, hv, hr⟩ := h.fr t _ (mem_getF hb)
        have e : v = .bool b := Rel.exact hr rfl
        subst e
        have hy := yielded_of hd' hv
        cases hbw : b == want with
        | true =>
          have e : b = want := by simpa using hbw
          subst e
          exact .inl ⟨_, h.lit hb, by simp [Region.wanted, hg, hy, boolOf], hk.1 rfl⟩
        | false =>
          have e : b = !want := by cases b <;> cases want <;> simp_all
          subst e
          exact .inr ⟨_, h.lit hb, by simp [Region.wanted, hg, hy, boolOf], hk.2 rfl⟩
      · rename_i hb
        obtain ⟨v, hv, hr⟩ := h.fr t _ (mem_getF hb)
        have e : v = .tuple #[] := Rel.exact hr rfl
        subst e
        have hy := yielded_of hd' hv
        exact .inr ⟨s, h, by simp [Region.wanted, hg, hy, boolOf], hk⟩
      · exact hk.elim

theorem skip_post {dst : Option Tmp} (h : Sim c N s a w) (hk : putK N dst (.v (.tup [])) s K) : Post c w N K (a.put dst undef) w := putK_post h hk fun _ _ => Rel.tup (vs := #[]) .nil

theorem aops_list {ops : Array Oper} {Q : Exit → Act → World → Prop} : ∀ {l : List Oper} {s : St} {c : Cx} {a : Act} {w : World}, Sim c N s a w → aops P N ops.toList l K s → (∀ a' w', Post c w N K a' w' → Q .normal a' w') → wpList P ops Q l a w
  | [], s, c, a, w, h, hk, hq => hq a w ⟨c, s, h, Ext.refl c w, hk⟩
  | o :: l, s, c, a, w, h, hk, hq => by
    refine wpList_step fun K' hK' => ?_
    rcases aops_cases h hk with ⟨s1, h, hw, hk⟩ | ⟨s1, h, hw, hk⟩
    · rw [if_pos hw]
      have h1 := (aop_does h hk).acts
      refine Mix.wp_of_eff (Mix.effS_mono (fun d v w' h2 => ?_) (Mix.eff_of_wp h1))
      obtain ⟨c', s', k1, k2, k3⟩ := h2
      exact hK' _ _ (aops_list k1 k3 fun a' w' h3 => hq a' w' (Post.step k2 h3))
    · rw [if_neg (by rw [hw]; simp)]
      obtain ⟨c', s', k1, k2, k3⟩ := skip_post h hk
      exact hK' _ _ (aops_list k1 k3 fun a' w' h3 => hq a' w' (Post.step k2 h3))

/-- A region that draws its order: reads ordered against all that acts. -/
theorem aops_walk {ops : Array Oper} {Q : Exit → Act → World → Prop} : ∀ {l : List Oper} {s : St} {c : Cx} {a : Act} {w : World}, Sim c N s a w → aops P N ops.toList l K s → (∀ a' w', Post c w N K a' w' → Q .normal a' w') →
    Mix.walk P ops Agree (fun _ => True) Q l a w
  | [], s, c, a, w, h, hk, hq => hq a w ⟨c, s, h, Ext.refl c w, hk⟩
  | o :: l, s, c, a, w, h, hk, hq => by
    unfold Mix.walk
    rcases aops_cases h hk with ⟨s1, h, hw, hk⟩ | ⟨s1, h, hw, hk⟩
    · have h1 := aop_does h hk
      unfold Does at h1
      by_cases he : Mix.effB o = true
      · rw [if_pos he] at h1 ⊢
        refine wpList_step fun K' hK' => ?_
        rw [if_pos hw]
        refine Mix.wp_of_eff (Mix.effS_mono (fun d v w' h2 => ?_) (Mix.eff_of_wp h1))
        obtain ⟨c', s', k1, k2, k3⟩ := h2
        exact hK' _ _ (wpList_nil ⟨trivial, aops_walk k1 k3 fun a' w' h3 => hq a' w' (Post.step k2 h3)⟩)
      · rw [if_neg he] at h1 ⊢
        obtain ⟨v, h2, c', s', k1, k2, k3⟩ := h1
        refine wpQuiet_step fun K' hK' => ?_
        rw [if_pos hw]
        refine ⟨v, fun w' hw' => ?_, hK' _ (wpQuiet_nil (aops_walk k1 k3 fun a' w' h3 => hq a' w' (Post.step k2 h3)))⟩
        unfold Oper.quietAt
        rw [h2 w' (fun _ => hw')]
        exact ⟨rfl, rfl⟩
    · obtain ⟨c', s', k1, k2, k3⟩ := skip_post h hk
      have h4 := aops_walk k1 k3 fun a' w' h3 => hq a' w' (Post.step k2 h3)
      by_cases he : Mix.effB o = true
      · rw [if_pos he]
        refine wpList_step fun K' hK' => ?_
        rw [if_neg (by rw [hw]; simp)]
        exact hK' _ _ (wpList_nil ⟨trivial, h4⟩)
      · rw [if_neg he]
        refine wpQuiet_step fun K' hK' => ?_
        rw [if_neg (by rw [hw]; simp)]
        exact hK' _ (wpQuiet_nil h4)
end

/-! ## Statements -/
def getB (s : St) (x : Operand) : Option Bool := match evalV s x with
  | some (.sc (.bool b)) => some b
  | _ => none
def qSeq (next : St → Prop) (Q : Exit → St → Prop) : Exit → St → Prop
  | .normal, s => next s
  | e, s => Q e s
def qBlock (id : Nat) (Q : Exit → St → Prop) : Exit → St → Prop
  | .exit k, s => if k = id then Q .normal s else Q (.exit k) s
  | e, s => Q e s
/-- What holds behind code. -/
def PostE (c : Cx) (w : World) (N : Nat) (Q : Exit → St → Prop) : Exit → Act → World → Prop := fun e => Post c w N (Q e)
/-- Code keeps a promise over an abstract state. -/
def AW (P : Program) (N : Nat) (code : Code) (Q : Exit → St → Prop) (s : St) : Prop := ∀ (c : Cx) (a : Act) (w : World), Sim c N s a w → code.wp P (PostE c w N Q) a w
def aw (P : Program) (N : Nat) : Code → (Exit → St → Prop) → St → Prop
  | .skip, Q, s => Q .normal s
  | .region _ ops _, Q, s => aops P N ops.toList ops.toList (Q .normal) s
  | .seq x y, Q, s => aw P N x (qSeq (aw P N y Q) Q) s
  | .cond x t f, Q, s => match getB s x with
    | some b => (b = true → aw P N t Q s) ∧ (b = false → aw P N f Q s)
    | none => False
  | .block id body, Q, s => aw P N body (qBlock id Q) s
  | .loop body, Q, s => AW P N (.loop body) Q s
  | .exit id, Q, s => Q (.exit id) s
  | .label _, Q, s => Q .normal s
  | .ret, Q, s => Q .ret s
  | _, _, _ => False

/-- All regions that draw have their reads ordered against what acts. -/
def okc : Code → Bool
  | .region _ ops draw => !draw || Mix.mixOk 1 ops
  | .seq x y => okc x && okc y
  | .cond _ x y => okc x && okc y
  | .block _ x => okc x
  | .loop x => okc x
  | _ => true

/-- A loop whose rounds bring a number down. -/
theorem wp_loop_rank {P : Program} {Q : Exit → Act → World → Prop} {a : Act} {w : World} {c : Code} (R : Nat → Act → World → Prop) (h₀ : ∃ n, R n a w)
    (round : ∀ n a w, R n a w → c.wp P (Exit.then (fun a' w' => ∃ m, m < n ∧ R m a' w') Q) a w) : (Code.loop c).wp P Q a w := by
  intro b k cs
  have key : ∀ n a w, R n a w → ∃ e a' w', Q e a' w' ∧ Arrives P (lone (b.at a (.code c :: .inLoop c :: k)) cs w) b k cs e a' w' := by
    intro n
    induction n using Nat.strongRecOn with
    | _ n ih =>
      intro a w hR
      obtain ⟨e, a₁, w₁, hq, harr⟩ := round n a w hR b (.inLoop c :: k) cs
      cases e with
      | normal =>
        obtain ⟨m, hlt, hR₁⟩ := hq
        obtain ⟨e₂, a₂, w₂, hq₂, harr₂⟩ := ih m hlt a₁ w₁ hR₁
        exact ⟨e₂, a₂, w₂, hq₂, .of_steps (Steps.trans harr (.one step_inLoop)) harr₂⟩
      | exit id => exact ⟨_, a₁, w₁, hq, .pass (x := .inLoop c) rfl (fun _ _ => .inl (by simp)) harr⟩
      | goto l => exact ⟨_, a₁, w₁, hq, .pass (x := .inLoop c) rfl (fun _ _ => .inl (by simp)) harr⟩
      | ret => exact ⟨_, a₁, w₁, hq, .pass (x := .inLoop c) rfl (fun _ _ => .inl (by simp)) harr⟩
      | panic ch => exact ⟨_, a₁, w₁, hq, .pass (x := .inLoop c) rfl (fun _ _ => .inl (by simp)) harr⟩
      | outgrown => exact ⟨_, a₁, w₁, hq, .pass (x := .inLoop c) rfl (fun _ _ => .inl (by simp)) harr⟩
  obtain ⟨n, hn⟩ := h₀
  obtain ⟨e, a', w', hq, harr⟩ := key n a w hn
  exact ⟨e, a', w', hq, .of_steps (.one step_loop) harr⟩

theorem aw_sound {P : Program} {N : Nat} (hm : P.follows .mixedOrders = true) : ∀ {code : Code} {Q : Exit → St → Prop} {s : St} {c : Cx} {a : Act} {w : World}, okc code = true → Sim c N s a w → aw P N code Q s → code.wp P (PostE c w N Q) a w := by
  intro code
  induction code with
  | skip => exact fun _ h hk => wp_skip ⟨_, _, h, Ext.refl _ _, hk⟩
  | region id ops draw =>
    intro Q s c a w ho h hk
    cases draw with
    | false => exact wp_region_list (aops_list h hk fun a' w' h => h)
    | true =>
      have ho : Mix.mixOk 1 ops = true := by simpa [okc] using ho
      have h1 := aops_walk (Q := PostE c w N Q) h.drew hk fun a' w' h2 => Post.step (Ext.drew c w) h2
      have := Mix.wp_region_walk (P := P) (id := id) (l := ops.toList) (Q := PostE c w N Q) (a := a) (w := w) (C := Agree) (J := fun _ => True) (fun w _ => Agree.refl w) (ga := 1) (fun _ w o w' hA b hb => (hA b (by simp; omega)).trans (heap_alloc_lt hb)) (fun h => by cases h) hm (by simpa using ho) trivial (by simpa using h1)
      simpa using this
  | seq x y ihx ihy =>
    intro Q s c a w ho h hk
    simp only [okc, Bool.and_eq_true] at ho
    refine wp_seq (wp_mono (ihx ho.1 h hk) fun e a' w' he => ?_)
    obtain ⟨c', s', k1, k2, k3⟩ := he
    cases e with
    | normal => exact wp_mono (ihy ho.2 k1 k3) fun e a2 w2 h2 => Post.step k2 h2
    | _ => exact ⟨c', s', k1, k2, k3⟩
  | cond x t f iht ihf =>
    intro Q s c a w ho h hk
    simp only [okc, Bool.and_eq_true] at ho
    unfold aw at hk
    cases hb : getB s x with
    | none => rw [hb] at hk; exact hk.elim
    | some b =>
      rw [hb] at hk
      obtain ⟨h1, h2⟩ := hk
      have hx : a.eval x = .bool b := by
        unfold getB at hb
        split at hb
        · rename_i b' hv
          cases hb
          exact Rel.exact (evalV_rel h hv) rfl
        · cases hb
      exact wp_cond_split hx (fun e => iht ho.1 h (h1 e)) (fun e => ihf ho.2 h (h2 e))
  | block id body ih =>
    intro Q s c a w ho h hk
    refine wp_block (wp_mono (ih ho h hk) fun e a' w' he => ?_)
    obtain ⟨c', s', k1, k2, k3⟩ := he
    cases e with
    | exit k =>
      simp only [Exit.inBlock]
      simp only [qBlock] at k3
      split
      · rename_i hk
        rw [if_pos hk] at k3
        exact ⟨c', s', k1, k2, k3⟩
      · rename_i hk
        rw [if_neg hk] at k3
        exact ⟨c', s', k1, k2, k3⟩
    | _ => exact ⟨c', s', k1, k2, k3⟩
  | loop body ih => exact fun _ h hk => hk _ _ _ h
  | exit id => exact fun _ h hk => wp_exit ⟨_, _, h, Ext.refl _ _, hk⟩
  | label l => exact fun _ h hk => wp_label ⟨_, _, h, Ext.refl _ _, hk⟩
  | ret => exact fun _ h hk => wp_ret ⟨_, _, h, Ext.refl _ _, hk⟩
  | _ => exact fun _ _ hk => hk.elim

/-- Part of a frame. -/
def subF : Fr → Fr → Prop
  | [], _ => True
  | (t, x) :: F0, F => getF t F = some x ∧ subF F0 F
theorem subF_mem : ∀ {F0 F : Fr}, subF F0 F → ∀ p, p ∈ F0 → p ∈ F
  | [], _, _, p, hp => by cases hp
  | (t, x) :: F0, F, h, p, hp => by
    rcases List.mem_cons.1 hp with rfl | hp
    · exact mem_getF h.1
    · exact subF_mem h.2 p hp
section
variable {P : Program} {N : Nat} {Q : Exit → St → Prop} {s : St} {F : Fr} {H : List Bk} {x y : Code}
theorem AW.of (hm : P.follows .mixedOrders = true) (ho : okc x = true) (h : aw P N x Q s) : AW P N x Q s := fun _ _ _ hs => aw_sound hm ho hs h
theorem AW.sub (F0 : Fr) (h0 : subF F0 F) (h : AW P N x Q ⟨F0, H⟩) : AW P N x Q ⟨F, H⟩ := fun c a w hs => h c a w (hs.sub (subF_mem h0))
theorem AW.seq (h : AW P N x (qSeq (AW P N y Q) Q) s) : AW P N (.seq x y) Q s := fun c a w hs => by
  refine wp_seq (wp_mono (h c a w hs) fun e a' w' he => ?_)
  obtain ⟨c', s', k1, k2, k3⟩ := he
  cases e with
  | normal => exact wp_mono (k3 c' a' w' k1) fun e a2 w2 h2 => Post.step k2 h2
  | _ => exact ⟨c', s', k1, k2, k3⟩
theorem AW.mono {Q' : Exit → St → Prop} (h : AW P N x Q s) (hq : ∀ e s, Q e s → Q' e s) : AW P N x Q' s := fun c a w hs => wp_mono (h c a w hs) fun _ _ _ he => Post.mono he fun s hs => hq _ s hs
theorem AW.block {id : Nat} (h : AW P N x (qBlock id Q) s) : AW P N (.block id x) Q s := fun c a w hs => by
  refine wp_block (wp_mono (h c a w hs) fun e a' w' he => ?_)
  obtain ⟨c', s', k1, k2, k3⟩ := he
  cases e with
  | exit k =>
    simp only [Exit.inBlock]
    simp only [qBlock] at k3
    split
    · rename_i hk
      rw [if_pos hk] at k3
      exact ⟨c', s', k1, k2, k3⟩
    · rename_i hk
      rw [if_neg hk] at k3
      exact ⟨c', s', k1, k2, k3⟩
  | _ => exact ⟨c', s', k1, k2, k3⟩
/-- A loop: what holds at each round's head, with a number that every round lowers. -/
theorem AW.loop (R : Nat → Fr → List Bk → Prop) (h0 : ∃ n F0, subF F0 F ∧ R n F0 H) (round : ∀ n F H, R n F H → AW P N x (qSeq (fun s' => ∃ m F1, m < n ∧ subF F1 s'.F ∧ R m F1 s'.H) Q) ⟨F, H⟩) : AW P N (.loop x) Q ⟨F, H⟩ := fun c a w hs => by
  obtain ⟨n, F0, h1, h2⟩ := h0
  refine wp_loop_rank (fun n a' w' => ∃ c' F' H', Sim c' N ⟨F', H'⟩ a' w' ∧ Ext c w c' w' ∧ R n F' H') ⟨n, c, F0, H, hs.sub (subF_mem h1), Ext.refl c w, h2⟩ fun n a1 w1 h1 => ?_
  obtain ⟨c1, F1, H1, k1, k2, k3⟩ := h1
  refine wp_mono (round n F1 H1 k3 c1 a1 w1 k1) fun e a2 w2 he => ?_
  obtain ⟨c2, s2, l1, l2, l3⟩ := he
  cases e with
  | normal =>
    obtain ⟨m, F3, hm, hsub, hR⟩ := l3
    exact ⟨m, hm, c2, F3, s2.H, Sim.sub (F := s2.F) l1 (subF_mem hsub), k2.trans l2, hR⟩
  | _ => exact ⟨c2, s2, l1, k2.trans l2, l3⟩
end

/-! ## Functions -/
def argsF : Nat → List V → Fr
  | _, [] => []
  | k, x :: xs => (k, .v x) :: argsF (k + 1) xs
theorem mem_argsF {t : Nat} {y : SV} : ∀ {xs : List V} {k : Nat}, (t, y) ∈ argsF k xs → ∃ j x, t = k + j ∧ xs[j]? = some x ∧ y = .v x
  | [], k, h => by cases h
  | x :: xs, k, h => by
    unfold argsF at h
    rcases List.mem_cons.1 h with h | h
    · cases h
      exact ⟨0, x, rfl, rfl, rfl⟩
    · obtain ⟨j, z, h1, h2, h3⟩ := mem_argsF h
      exact ⟨j + 1, z, by omega, by simpa using h2, h3⟩
def resV (P : Program) (s : St) : ResultVar → Option V
  | .tmp t => evalS s (.tmp t)
  | .cell t ty => match getF t s.F, aggT P ty, sizeT P ty with
    | some p, some agg, some n => match cellsAt s p with
      | some cs => ldV agg n cs
      | none => none
    | _, _, _ => none
def resVs (P : Program) (s : St) : List ResultVar → Option (List V)
  | [] => some []
  | r :: rs => match resV P s r, resVs P s rs with
    | some v, some l => some (v :: l)
    | _, _ => none
def resTmps : List ResultVar → List Operand
  | [] => []
  | .tmp t :: rs => .tmp t :: resTmps rs
  | .cell .. :: rs => resTmps rs
def tupV : List V → V
  | [v] => v
  | vs => .tup vs
def aret (P : Program) (rs : List ResultVar) (s : St) (Q : V → List Bk → Prop) : Prop := match resVs P ⟨shareF s.F (resTmps rs), s.H⟩ rs with
  | some vs => Q (tupV vs) s.H
  | none => False
def afin (P : Program) (rs : List ResultVar) (Q : V → List Bk → Prop) : Exit → St → Prop
  | .normal, s => aret P rs s Q
  | .ret, s => aret P rs s Q
  | _, _ => False

section
variable {P : Program} {c : Cx} {N : Nat} {s : St} {a : Act} {w : World}
def resRun (tmps : Array Value) : ResultVar → Sem Value
  | .tmp t => pure (tmps.getD t undef)
  | .cell a t => do loadVar t (← asAddr (tmps.getD a undef))
theorem resV_run {r : ResultVar} {y : V} (h : Sim c N s a w) (hr : resV P s r = some y) : ∃ v, Rel c.I c.φ y v ∧ (resRun a.tmps r).run P w = .ok v w := by
  cases r with
  | tmp t => exact ⟨_, evalS_rel h hr, by simp [resRun, Act.eval]⟩
  | cell t ty =>
    simp only [resV] at hr
    split at hr
    · rename_i p agg n hg ha hn
      cases hc : cellsAt s p with
      | none => rw [hc] at hr; cases hr
      | some cs =>
        rw [hc] at hr
        obtain ⟨v, hv, hp⟩ := h.fr t p (mem_getF hg)
        obtain ⟨b, off, vs, rfl, h1, h2, _⟩ := read_cells h hp hc
        obtain ⟨u, h3, h4⟩ := run_loadAt (P := P) ha hn h1 h2 hr
        refine ⟨u, h3, ?_⟩
        have h5 := h4 w (Agree.refl w)
        have e : a.tmps.getD t undef = .pointer (some ⟨b, off, none⟩) := by simp [hv]
        unfold resRun
        simp only [e, asAddr, Sem.run_bind, Sem.run_pure, Result.andThen_ok]
        simpa [Instr.loadAt, Instr.sureAddr] using h5
    · cases hr
theorem resVs_run (h : Sim c N s a w) : ∀ {rs : List ResultVar} {ys : List V}, resVs P s rs = some ys → ∃ vs, RelL c.I c.φ ys vs ∧ (rs.mapM (resRun a.tmps)).run P w = .ok vs w
  | [], ys, hy => by cases hy; exact ⟨[], .nil, by simp⟩
  | r :: rs, ys, hy => by
    unfold resVs at hy
    cases hr : resV P s r with
    | none => rw [hr] at hy; cases hy
    | some y =>
      cases hs : resVs P s rs with
      | none => rw [hr, hs] at hy; cases hy
      | some l =>
        rw [hr, hs] at hy
        cases hy
        obtain ⟨v, h1, h2⟩ := resV_run h hr
        obtain ⟨vs, h3, h4⟩ := resVs_run h hs
        exact ⟨v :: vs, .cons h1 h3, by simp only [List.mapM_cons, Sem.run_bind, h2, Result.andThen_ok, h4, Sem.run_pure]⟩
theorem results_run {fn : Func} {ys : List V} (h : Sim c N s a w) (hy : resVs P s fn.results.toList = some ys) : ∃ v, Rel c.I c.φ (tupV ys) v ∧ (results fn a.tmps).run P w = .ok v w := by
  obtain ⟨vs, h1, h2⟩ := resVs_run h hy
  have hm : (fn.results.mapM (resRun a.tmps)).run P w = .ok vs.toArray w := by
    rw [Array.mapM_eq_mapM_toList, Sem.run_map, h2]
    rfl
  have e0 : results fn a.tmps = (fn.results.mapM (resRun a.tmps)) >>= fun vs => pure (if h : vs.size = 1 then vs[0] else .tuple vs) := rfl
  refine ⟨if h : vs.toArray.size = 1 then vs.toArray[0] else .tuple vs.toArray, ?_, ?_⟩
  · clear h2 hm
    cases h1 with
    | nil => exact .tup (vs := #[]) .nil
    | cons k2 k3 =>
      cases k3 with
      | nil => exact k2
      | cons k3 k4 =>
        rw [dif_neg (by simp)]
        exact .tup (by simpa using RelL.cons k2 (.cons k3 k4))
  · rw [e0, Sem.run_bind, hm, Result.andThen_ok, Sem.run_pure]

/-- A function keeps its promise if its code does. -/
theorem AFn.intro {f : FuncId} {fn : Func} {code : Code} {xs : List V} {H : List Bk} {Q : V → List Bk → Prop} (hf : P.funcs[f]? = some fn) (hb : fn.body = some code) (hn : (fn.name == "runtime.NumGoroutine") = false)
    (hN : xs.length ≤ fn.ntmps) (h : AW P fn.ntmps code (afin P fn.results.toList Q) ⟨argsF 0 xs, H⟩) : AFn P f xs H Q := by
  refine ⟨⟨fn, hf, by rw [hb]; rfl, hn⟩, fun c w vs hi hs hr => ?_⟩
  refine calls_of_wp hf hb ?_
  have h0 : Sim c fn.ntmps ⟨argsF 0 xs, H⟩ { tmps := vs.toArray ++ Array.replicate (fn.ntmps - vs.toArray.size) undef, defers := [] } w := by
    refine ⟨hi, ?_, rfl, fun t x hx => ?_⟩
    · have := hr.len
      simp
      omega
    · obtain ⟨j, y, h1, h2, rfl⟩ := mem_argsF hx
      obtain ⟨v, h3, h4⟩ := hr.get h2
      refine ⟨v, ?_, h4⟩
      have ht : t = j := by omega
      subst ht
      have hlt : t < vs.toArray.size := by simpa using (List.getElem?_eq_some_iff.1 h3).1
      rw [Array.getElem?_append_left hlt]
      simpa using h3
  refine wp_mono (h c _ w h0) fun e a' w' he => ?_
  obtain ⟨c', s', k1, k2, k3⟩ := he
  have fin : aret P fn.results.toList s' Q → a'.defers = [] ∧ ∃ v, (results fn a'.tmps).run P w' = .ok v w' ∧ ∃ v_1 y H' c'_1, Ending.returned v = .returned v_1 ∧ Rel c'_1.I c'_1.φ y v_1 ∧ Inv c'_1 H' w' ∧ NoSlot c'_1 ∧ Ext c w c'_1 w' ∧ Q y H' := by
    intro k3
    unfold aret at k3
    obtain ⟨c2, l1, l2⟩ := Sim.shareF (F := s'.F) (H := s'.H) (xs := resTmps fn.results.toList) k1
    cases hy : resVs P ⟨shareF s'.F (resTmps fn.results.toList), s'.H⟩ fn.results.toList with
    | none => rw [hy] at k3; exact k3.elim
    | some ys =>
      rw [hy] at k3
      obtain ⟨v, m1, m2⟩ := results_run l1 hy
      exact ⟨k1.defers, v, m2, v, _, _, c2.hide, rfl, m1, l1.inv.hide, hide_noSlot c2, (k2.trans l2).trans (Ext.hide c2 w'), k3⟩
  cases e with
  | normal => exact fin k3
  | ret => exact fin k3
  | _ => exact k3.elim
end
end AM
end Go.Proofs.Ytmjnffjacgjfmaa
