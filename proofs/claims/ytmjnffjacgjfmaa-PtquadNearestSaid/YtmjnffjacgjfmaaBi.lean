/- Functions that are handed a row of the caller's own and hand back such a row. Plain lemmas, over any program. -/
import Derived.Test.YtmjnffjacgjfmaaAr1
import Derived.Test.YtmjnffjacgjfmaaAw1
namespace Go.Proofs.Ytmjnffjacgjfmaa
set_option linter.all false
open Go.RowKit
namespace AM
/-- No slot owns a row, but slot 0. -/
def OnlyZ (c : Cx) : Prop := ∀ b t, c.R b = .own (.slot t) → t = 0
/-- What a function promises that is handed a row of the caller's own, and other values, over these blocks: it hands back such a row. -/
def OFn (P : Program) (f : FuncId) (e n sz : Nat) (cs xs : List V) (H : List Bk) (Q : Nat → List V → List Bk → Prop) : Prop :=
  Enters P f ∧ ∀ (c : Cx) (w : World) (u : Value) (vs : List Value), Inv c H w → OnlyZ c → SRel c w (.slot 0) (.own true e n sz cs) u → RelL c.I c.φ xs vs →
    Calls P f (u :: vs).toArray w fun e' w' => ∃ v n' cs' H' c', e' = .returned v ∧ SRel c' w' (.slot 0) (.own true e n' sz cs') v ∧ Inv c' H' w' ∧ OnlyZ c' ∧ Ext c w c' w' ∧ Q n' cs' H'
/-- The row of one slot comes to slot 0; those of others are let go. -/
def Cx.pass (c : Cx) (t : Nat) : Cx := { c with R := fun b => if c.R b = .own (.slot t) then .own (.slot 0) else bif isSlot (c.R b) then .out else c.R b }
section
variable {P : Program} {c c1 : Cx} {N : Nat} {F : Fr} {H H' : List Bk} {a : Act} {w w1 : World} {t d : Nat}
theorem pass_self {b : Nat} (h : c.R b = .own (.slot t)) : (c.pass t).R b = .own (.slot 0) := by simp [Cx.pass, h]
theorem pass_other {b : Nat} (h : c.R b ≠ .own (.slot t)) (hs : isSlot (c.R b) = true) : (c.pass t).R b = .out := by simp [Cx.pass, h, hs]
theorem pass_same {b : Nat} (hs : isSlot (c.R b) = false) : (c.pass t).R b = c.R b := by
  have : c.R b ≠ .own (.slot t) := fun e => by rw [e] at hs; cases hs
  simp [Cx.pass, this, hs]
theorem pass_onlyZ : OnlyZ (c.pass t) := fun b k h => by
  by_cases h1 : c.R b = .own (.slot t)
  · rw [pass_self h1] at h
    cases h
    rfl
  · cases hs : isSlot (c.R b) with
    | true => rw [pass_other h1 hs] at h; cases h
    | false =>
      rw [pass_same hs] at h
      rw [h] at hs
      cases hs
theorem pass_back {b : Nat} {r : Root} (h : (c.pass t).R b = .own r) : (r = .slot 0 ∧ c.R b = .own (.slot t)) ∨ (c.R b = .own r ∧ isSlot (c.R b) = false) := by
  by_cases h1 : c.R b = .own (.slot t)
  · rw [pass_self h1] at h
    cases h
    exact .inl ⟨rfl, h1⟩
  · cases hs : isSlot (c.R b) with
    | true => rw [pass_other h1 hs] at h; cases h
    | false =>
      rw [pass_same hs] at h
      exact .inr ⟨h, rfl⟩
theorem pass_out {b : Nat} (h : c.R b = .out) : (c.pass t).R b = .out := by rw [pass_same (by rw [h]; rfl), h]
theorem Inv.pass (h : Inv c H w) : Inv (c.pass t) H w := by
  refine ⟨h.imm, h.len, fun b hb => h.lt b fun e => hb (pass_out e), fun b b' r hb hb' => ?_, fun id b k hb hk => ?_⟩
  · rcases pass_back hb with ⟨h1, h2⟩ | ⟨h1, h2⟩ <;> rcases pass_back hb' with ⟨g1, g2⟩ | ⟨g1, g2⟩
    · exact h.uniq b b' _ h2 g2
    · subst h1; rw [g1] at g2; cases g2
    · subst g1; rw [h1] at h2; cases h2
    · exact h.uniq b b' r h1 g1
  · obtain ⟨h1, h2, h3⟩ := h.blk id b k hb hk
    refine ⟨by rw [pass_same (by rw [h1]; rfl)]; exact h1, h2, ?_⟩
    by_cases hck : ∃ cs, k = .cells cs
    rotate_left
    · exact BRel.stay (fun cs e => hck ⟨cs, e⟩) h3 (fun _ _ _ h => h) (fun _ _ h => h) (fun _ _ h _ => h)
    obtain ⟨cs, rfl⟩ := hck
    obtain ⟨arr, e, g1, g2, g6, g3⟩ := h3
    refine ⟨arr, e, g1, g2, g6, fun j x v hx hv => ⟨(g3 j x v hx hv).1, ?_⟩⟩
    exact SRel.mono (c := c) (c' := c.pass t) (w := w) (w' := w) (fun _ _ _ h => h) (fun _ _ h => h) (fun b' q hq hb' => ⟨(by
      rcases hq with rfl | hq
      · rw [pass_same (by rw [hb']; rfl)]; exact hb'
      · rw [flat_refers (g3 j x v hx hv).1] at hq; cases hq), rfl, fun _ => rfl⟩) (g3 j x v hx hv).2
theorem Ext.pass (c : Cx) (w : World) : Ext c w (c.pass t) w :=
  ⟨rfl, rfl, rfl, Nat.le_refl _, fun b hb h => ⟨rfl, pass_out h, fun _ => rfl⟩, fun _ _ _ h => h, fun _ _ h => h⟩
/-- A row that changes its root. -/
theorem SRel.reroot {c' : Cx} {r r' : Root} {pr : Bool} {e n sz : Nat} {cs : List V} {v : Value} (h : SRel c w r (.own pr e n sz cs) v) (hI : c'.I = c.I) (hφ : c'.φ = c.φ) (hR : ∀ b, c.R b = .own r → c'.R b = .own r') : SRel c' w r' (.own pr e n sz cs) v := by
  obtain ⟨h0, vs, h1, h2, h4, h3⟩ := h
  exact ⟨h0, vs, by rw [hI, hφ]; exact h1, h2, h4, fun b hb => ⟨hR b (h3 b hb).1, fun o => by rw [hI]; exact (h3 b hb).2 o⟩⟩
/-- The caller goes on behind such a call. -/
theorem Sim.backO (h : Sim c N ⟨F, H⟩ a w) (hF : ∀ k x, (k, x) ∈ F → k ≠ t ∧ x.refers (.slot t) = false) (hd : ∀ b, c.R b ≠ .own (.slot d)) (h1 : Inv c1 H' w1) (hn : OnlyZ c1) (hx : Ext (c.pass t) w c1 w1) :
    ∃ c', Sim c' N ⟨calm F, H'⟩ a w1 ∧ Ext c w c' w1 ∧ c'.I = c1.I ∧ c'.φ = c1.φ ∧ (∀ b, c1.R b = .own (.slot 0) → c'.R b = .own (.slot d)) := by
  let K : Nat → Bool := fun b => isSlot (c.R b) && !decide (c.R b = .own (.slot t))
  let c' : Cx := { c1 with R := fun b => bif K b then c.R b else if c1.R b = .own (.slot 0) then .own (.slot d) else c1.R b }
  have out1 : ∀ b, K b = true → b < w.heap.size ∧ w1.heap[b]? = w.heap[b]? ∧ c1.R b = .out ∧ ∀ o, c1.I b o = c.I b o := fun b hb => by
    simp only [K, Bool.and_eq_true, Bool.not_eq_true', decide_eq_false_iff_not] at hb
    have hlt := h.inv.lt b (fun e => by rw [e] at hb; cases hb.1)
    obtain ⟨k1, k2, k3⟩ := hx.out b hlt (pass_other hb.2 hb.1)
    exact ⟨hlt, k1, k2, k3⟩
  have rs : ∀ b, K b = true → c'.R b = c.R b := fun b hb => by simp [c', hb]
  have rz : ∀ b, c1.R b = .own (.slot 0) → c'.R b = .own (.slot d) := fun b hb => by
    cases hs : K b with
    | true => rw [(out1 b hs).2.2.1] at hb; cases hb
    | false => simp [c', hs, hb]
  have rn : ∀ b, c1.R b ≠ .own (.slot 0) → K b = false → c'.R b = c1.R b := fun b hb hs => by simp [c', hs, hb]
  have cell1 : ∀ b r, c1.R b = .own r → r ≠ .slot 0 → c'.R b = .own r := fun b r hb hr => by
    cases hs : K b with
    | true => rw [(out1 b hs).2.2.1] at hb; cases hb
    | false => rw [rn b (by rw [hb]; simpa using hr) hs]; exact hb
  have back : ∀ b r, c'.R b = .own r → (K b = true ∧ c.R b = .own r) ∨ (K b = false ∧ r = .slot d ∧ c1.R b = .own (.slot 0)) ∨ (K b = false ∧ c1.R b = .own r ∧ ∃ i j, r = .cell i j) := fun b r hb => by
    cases hs : K b with
    | true => rw [rs b hs] at hb; exact .inl ⟨rfl, hb⟩
    | false =>
      by_cases hz : c1.R b = .own (.slot 0)
      · rw [rz b hz] at hb
        cases hb
        exact .inr (.inl ⟨rfl, rfl, hz⟩)
      · rw [rn b hz hs] at hb
        refine .inr (.inr ⟨rfl, hb, ?_⟩)
        cases r with
        | slot k =>
          have := hn b k hb
          subst this
          exact absurd hb hz
        | cell i j => exact ⟨i, j, rfl⟩
  have slotK : ∀ b k, c.R b = .own (.slot k) → k ≠ t → K b = true := fun b k hb hk => by
    simp only [K, hb, isSlot, Bool.true_and, Bool.not_eq_true', decide_eq_false_iff_not]
    simpa using hk
  refine ⟨c', ⟨⟨h1.imm, h1.len, fun b hb => ?_, fun b b' r hb hb' => ?_, fun id b k hb hk => ?_⟩, h.size, h.defers, fun k x hx' => ?_⟩, ?_, rfl, rfl, rz⟩
  · cases hs : K b with
    | true => exact Nat.lt_of_lt_of_le (out1 b hs).1 hx.size
    | false =>
      by_cases hz : c1.R b = .own (.slot 0)
      · exact h1.lt b (by rw [hz]; simp)
      · rw [rn b hz hs] at hb
        exact h1.lt b hb
  · rcases back b r hb with ⟨k1, k2⟩ | ⟨k1, k2, k3⟩ | ⟨k1, k2, i, j, k3⟩ <;> rcases back b' r hb' with ⟨g1, g2⟩ | ⟨g1, g2, g3⟩ | ⟨g1, g2, i', j', g3⟩
    · exact h.inv.uniq b b' r k2 g2
    · subst g2; exact absurd k2 (hd b)
    · subst g3
      simp only [K, k2, isSlot, Bool.false_and] at k1
      cases k1
    · subst k2; exact absurd g2 (hd b')
    · exact h1.uniq b b' _ k3 g3
    · rw [k2] at g3; cases g3
    · subst k3
      simp only [K, g2, isSlot, Bool.false_and] at g1
      cases g1
    · rw [g2] at k3; cases k3
    · exact h1.uniq b b' r k2 g2
  · obtain ⟨k1, k2, k3⟩ := h1.blk id b k hb hk
    have hs : K b = false := by
      cases hs : K b with
      | true => rw [(out1 b hs).2.2.1] at k1; cases k1
      | false => rfl
    refine ⟨by rw [rn b (by rw [k1]; simp) hs]; exact k1, k2, ?_⟩
    by_cases hck : ∃ cs, k = .cells cs
    rotate_left
    · exact BRel.stay (fun cs e => hck ⟨cs, e⟩) k3 (fun _ _ _ h => h) (fun _ _ h => h) (fun _ _ h _ => h)
    obtain ⟨cs, rfl⟩ := hck
    obtain ⟨arr, e, g1, g2, g6, g3⟩ := k3
    refine ⟨arr, e, g1, g2, g6, fun j x v hx hv => ⟨(g3 j x v hx hv).1, ?_⟩⟩
    exact SRel.mono (c := c1) (c' := c') (w := w1) (w' := w1) (fun _ _ _ h => h) (fun _ _ h => h) (fun b' q hq hb' => ⟨cell1 b' q hb' (by
      rcases hq with rfl | hq
      · simp
      · rw [flat_refers (g3 j x v hx hv).1] at hq; cases hq), rfl, fun _ => rfl⟩) (g3 j x v hx hv).2
  · obtain ⟨hxF, hcalm⟩ := mem_calm hx'
    obtain ⟨hkt, hrt⟩ := hF k x hxF
    obtain ⟨v, hv, hr⟩ := h.fr k x hxF
    refine ⟨v, hv, SRel.mono (c := c) (c' := c') (w := w) (w' := w1) hx.imm hx.phi (fun b q hq hb => ?_) hr⟩
    have hs : K b = true := by
      rcases hq with rfl | hq
      · exact slotK b k hb hkt
      · cases q with
        | slot k2 => exact slotK b k2 hb (by rintro rfl; rw [hrt] at hq; cases hq)
        | cell id j =>
          cases x with
          | pth r' o =>
            have : r' = .cell id j := by simpa [SV.refers] using hq
            subst this
            cases hcalm
          | lnk r' o =>
            have : r' = .cell id j := by simpa [SV.refers] using hq
            subst this
            cases hcalm
          | _ => cases hq
    obtain ⟨_, o1, _, o3⟩ := out1 b hs
    exact ⟨by rw [rs b hs]; exact hb, o1, o3⟩
  · refine ⟨hx.os, hx.tape, hx.output, hx.size, fun b hb hr => ?_, hx.imm, hx.phi⟩
    obtain ⟨k1, k2, k3⟩ := hx.out b hb (pass_out hr)
    have hs : K b = false := by simp only [K, hr, isSlot, Bool.false_and]
    exact ⟨k1, by rw [rn b (by rw [k2]; simp) hs]; exact k2, k3⟩
end
/-- What holds at the end of such a function. -/
def ofin (e sz : Nat) (t : Nat) (Q : Nat → List V → List Bk → Prop) (s : St) : Prop := match getF t s.F with
  | some (.own true e' n' sz' cs') => e' = e ∧ sz' = sz ∧ Q n' cs' s.H
  | _ => False
def oEnd (e sz : Nat) (t : Nat) (Q : Nat → List V → List Bk → Prop) : Exit → St → Prop
  | .normal, s => ofin e sz t Q s
  | .ret, s => ofin e sz t Q s
  | _, _ => False
theorem OFn.intro {P : Program} {f : FuncId} {fn : Func} {code : Code} {e n sz t : Nat} {cs xs : List V} {H : List Bk} {Q : Nat → List V → List Bk → Prop} (hf : P.funcs[f]? = some fn) (hb : fn.body = some code) (hn : (fn.name == "runtime.NumGoroutine") = false)
    (hN : xs.length + 1 ≤ fn.ntmps) (hres : fn.results.toList = [.tmp t]) (h : AW P fn.ntmps code (oEnd e sz t Q) ⟨(0, .own true e n sz cs) :: argsF 1 xs, H⟩) : OFn P f e n sz cs xs H Q := by
  refine ⟨⟨fn, hf, by rw [hb]; rfl, hn⟩, fun c w u vs hi hz hu hr => ?_⟩
  refine calls_of_wp hf hb ?_
  have h0 : Sim c fn.ntmps ⟨(0, .own true e n sz cs) :: argsF 1 xs, H⟩ { tmps := (u :: vs).toArray ++ Array.replicate (fn.ntmps - (u :: vs).toArray.size) undef, defers := [] } w := by
    refine ⟨hi, ?_, rfl, fun t x hx => ?_⟩
    · have := hr.len
      simp
      omega
    · rcases List.mem_cons.1 hx with hx | hx
      · cases hx
        exact ⟨u, by rw [Array.getElem?_append_left (by simp)]; simp, hu⟩
      · obtain ⟨j, y, h1, h2, rfl⟩ := mem_argsF hx
        obtain ⟨v, h3, h4⟩ := hr.get h2
        refine ⟨v, ?_, h4⟩
        subst h1
        have hlt : j < vs.length := (List.getElem?_eq_some_iff.1 h3).1
        rw [Array.getElem?_append_left (by simp; omega)]
        simpa [Nat.add_comm] using h3
  refine wp_mono (h c _ w h0) fun ex a' w' he => ?_
  obtain ⟨c', s', k1, k2, k3⟩ := he
  have fin : ofin e sz t Q s' → a'.defers = [] ∧ ∃ v, (results fn a'.tmps).run P w' = .ok v w' ∧ ∃ v_1 n' cs' H' c'_1, Ending.returned v = .returned v_1 ∧ SRel c'_1 w' (.slot 0) (.own true e n' sz cs') v_1 ∧ Inv c'_1 H' w' ∧ OnlyZ c'_1 ∧ Ext c w c'_1 w' ∧ Q n' cs' H' := by
    intro k3
    unfold ofin at k3
    split at k3
    · rename_i e' n' sz' cs' hg
      obtain ⟨rfl, rfl, hq⟩ := k3
      obtain ⟨v, hv, hs⟩ := k1.fr t _ (mem_getF hg)
      refine ⟨k1.defers, v, ?_, v, n', cs', s'.H, c'.pass t, rfl, hs.reroot rfl rfl fun b hb => pass_self hb, k1.inv.pass, pass_onlyZ, k2.trans (Ext.pass c' w'), hq⟩
      have hm : (fn.results.mapM (resRun a'.tmps)).run P w' = .ok #[v] w' := by
        rw [Array.mapM_eq_mapM_toList, Sem.run_map, hres]
        have : a'.tmps.getD t undef = v := by simp [hv]
        simp [resRun, this]
      have e0 : results fn a'.tmps = (fn.results.mapM (resRun a'.tmps)) >>= fun vs => pure (if h : vs.size = 1 then vs[0] else .tuple vs) := rfl
      rw [e0, Sem.run_bind, hm, Result.andThen_ok, Sem.run_pure]
      simp
    · exact k3.elim
  cases ex with
  | normal => exact fin k3
  | ret => exact fin k3
  | _ => exact k3.elim
section
variable {P : Program} {N : Nat} {id : Nat} {ops : Array Oper} {Q : Exit → St → Prop} {F : Fr} {H : List Bk} {f : FuncId} {e n sz : Nat} {cs : List V} {o1 o2 o3 : Oper} {rest : List Oper} {t u d : Nat} {xs : List Operand} {args : Array Operand} {ts : Array TypeId}
/-- A row is moved, and goes on as the call's own. -/
theorem AW.ownMove {pr : Bool} (hops : ops.toList = o1 :: rest) (h1 : o1.op = .move (.tmp u)) (hd1 : o1.dst = some t) (hg1 : o1.guard = none) (ht : t < N) (hF : getF u F = some (.own pr e n sz cs))
    (hQ : aops P N ops.toList rest (Q .normal) ⟨putF t (.own pr e n sz cs) (del u F), H⟩) : AW P N (.region id ops false) Q ⟨F, H⟩ := fun c a w hs => by
  refine wp_region_list ?_
  rw [hops]
  obtain ⟨c1, v, hv, s1, x1⟩ := Sim.hand (F := F) (H := H) hs hF ht
  have acts1 : Acts P o1 a w fun a' w' => a' = a.put (some t) v ∧ w' = w := by
    refine Reads.acts ⟨v, fun w' _ => ?_, by rw [hd1]; exact ⟨rfl, rfl⟩⟩
    have e1 : a.eval (.tmp u) = v := by simp [Act.eval, hv]
    simp [execOp, h1, e1]
  refine wpList_step fun K' hK' => ?_
  rw [if_pos (by simp [Region.wanted, hg1])]
  refine Mix.wp_of_eff (Mix.effS_mono (fun dd vv w' h2 => ?_) (Mix.eff_of_wp acts1))
  obtain ⟨ea, rfl⟩ := h2
  refine hK' _ _ ?_
  rw [ea]
  exact aops_list s1 hQ fun a' w'' hp => Post.step x1 hp
/-- A row is moved, something else is reckoned, and the row is handed to a function that hands it back. -/
theorem AW.ownCall (hops : ops.toList = o1 :: o2 :: o3 :: rest) (h1 : o1.op = .move (.tmp u)) (hd1 : o1.dst = some t) (hg1 : o1.guard = none) (hg2 : o2.guard = none) (h3 : o3.op = .call { callee := .value (.func f), args := args, argTypes := ts }) (hargs : args = #[.tmp t] ++ xs.toArray) (hd3 : o3.dst = some d) (hg3 : o3.guard = none)
    (ht : t < N) (hd : d < N) (hdt : d ≠ t) (hF : getF u F = some (.own true e n sz cs))
    (hQ : aop P N ops.toList o2 ⟨putF t (.own true e n sz cs) (del u F), H⟩ fun s2 => ∃ vs, valsV s2 xs = some vs ∧ getF t s2.F = some (.own true e n sz cs) ∧ ∃ Q', OFn P f e n sz cs vs s2.H Q' ∧
      ∀ n' cs' H', Q' n' cs' H' → aops P N ops.toList rest (Q .normal) ⟨(d, .own true e n' sz cs') :: calm (del d (del t s2.F)), H'⟩) : AW P N (.region id ops false) Q ⟨F, H⟩ := fun c a w hs => by
  subst hargs
  refine wp_region_list ?_
  rw [hops]
  obtain ⟨c1, v, hv, s1, x1⟩ := Sim.hand (F := F) (H := H) hs hF ht
  have acts1 : Acts P o1 a w fun a' w' => a' = a.put (some t) v ∧ w' = w := by
    refine Reads.acts ⟨v, fun w' _ => ?_, by rw [hd1]; exact ⟨rfl, rfl⟩⟩
    have e1 : a.eval (.tmp u) = v := by simp [Act.eval, hv]
    simp [execOp, h1, e1]
  refine wpList_step fun K' hK' => ?_
  rw [if_pos (by simp [Region.wanted, hg1])]
  refine Mix.wp_of_eff (Mix.effS_mono (fun dd vv w' h2 => ?_) (Mix.eff_of_wp acts1))
  obtain ⟨ea, rfl⟩ := h2
  refine hK' _ _ ?_
  rw [ea]
  have key : ∀ a2 w2, Post c1 w' N (fun s2 => ∃ vs, valsV s2 xs = some vs ∧ getF t s2.F = some (.own true e n sz cs) ∧ ∃ Q', OFn P f e n sz cs vs s2.H Q' ∧
      ∀ n' cs' H', Q' n' cs' H' → aops P N ops.toList rest (Q .normal) ⟨(d, .own true e n' sz cs') :: calm (del d (del t s2.F)), H'⟩) a2 w2 → wpList P ops (PostE c w' N Q) (o3 :: rest) a2 w2 := by
    intro a2 w2 h2
    obtain ⟨c2, s2, k1, k2, vs, hvs, hgt, Q', hO, hq⟩ := h2
    obtain ⟨F2, H2⟩ := s2
    obtain ⟨v, hv, hsr⟩ := k1.fr t _ (mem_getF hgt)
    have hvsr := valsV_rel k1 hvs
    have s3 : Sim c2 N ⟨del d (del t F2), H2⟩ a2 w2 := Sim.sub (F := F2) k1 fun p hp => (mem_del (x := p.2) (k := p.1) (mem_del (x := p.2) (k := p.1) hp).1).1
    have s4 := s3.free (r := .slot d) trivial fun k x hx => ⟨by simpa using (mem_del hx).2.1, (mem_del hx).2.2⟩
    have hsr4 : SRel (c2.free (.slot d)) w2 (.slot t) (.own true e n sz cs) v := hsr.reroot rfl rfl fun b hb => free_own hb (by simpa using Ne.symm hdt)
    obtain ⟨⟨fn, q1, q2, q3⟩, hcall⟩ := hO
    have hcl := hcall ((c2.free (.slot d)).pass t) w2 v _ s4.inv.pass pass_onlyZ (hsr4.reroot rfl rfl fun b hb => pass_self hb) hvsr
    have acts3 : Acts P o3 a2 w2 (fun a' w3 => wpList P ops (PostE c w' N Q) rest a' w3) := by
      unfold Acts Oper.wp
      have e2 : a2.eval (.tmp t) = v := by simp [Act.eval, hv]
      have hrun : (execOp a2.eval o3).run P w2 = .ok (.enter f (v :: xs.map a2.eval).toArray) w2 := by
        have hfv : a2.eval (.func f) = .func (.func f) #[] #[] := rfl
        have e4 : fn.body.isNone = false := by cases hb : fn.body <;> simp_all
        unfold execOp
        simp only [h3, resolve, hfv, Deferred.ofValue, Sem.run_bind, Sem.run_pure, Result.andThen_ok, invoke, callFunc, run_program, q1, q3, Bool.false_eq_true, if_false, e4]
        simp [e2]
      rw [hrun, Oper.upon_enter]
      refine hcl.mono fun e' w3 he => ?_
      obtain ⟨v', n', cs', H', c5, rfl, m1, m2, m3, m4, m5⟩ := he
      rw [hd3]
      obtain ⟨c6, r1, r2, r3, r4, r5⟩ := Sim.backO (d := d) s4 (fun k x hx => ⟨(mem_del (mem_del hx).1).2.1, (mem_del (mem_del hx).1).2.2⟩) (fun b hb => free_ne hb) m2 m3 m4
      have s7 : Sim c6 N ⟨(d, .own true e n' sz cs') :: calm (del d (del t F2)), H'⟩ (a2.put (some d) v') w3 := by
        refine ⟨r1.inv, by simpa [Act.put] using r1.size, r1.defers, fun k x hx => ?_⟩
        rcases List.mem_cons.1 hx with hx | hx
        · cases hx
          exact ⟨v', by simp [Act.put, Array.getElem?_setIfInBounds, r1.size, hd], m1.reroot r3 r4 r5⟩
        · obtain ⟨z, hz, hr⟩ := r1.fr k x hx
          have hne := (mem_del (mem_calm hx).1).2.1
          exact ⟨z, by simpa [Act.put, Array.getElem?_setIfInBounds, Ne.symm hne] using hz, hr⟩
      exact aops_list s7 (hq n' cs' H' m5) fun a' w'' hp => Post.step (((x1.trans k2).trans (Ext.free c2 w2 _)).trans r2) hp
    refine wpList_step fun K' hK' => ?_
    rw [if_pos (by simp [Region.wanted, hg3])]
    refine Mix.wp_of_eff (Mix.effS_mono (fun dd vv w3 h2 => ?_) (Mix.eff_of_wp acts3))
    exact hK' _ _ h2
  have acts2 := (aop_does s1 hQ).acts
  refine wpList_step fun K' hK' => ?_
  rw [if_pos (by simp [Region.wanted, hg2])]
  refine Mix.wp_of_eff (Mix.effS_mono (fun dd vv w2 h2 => ?_) (Mix.eff_of_wp acts2))
  exact hK' _ _ (key _ _ h2)
end
end AM
end Go.Proofs.Ytmjnffjacgjfmaa
