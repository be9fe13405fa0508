/- Code over an abstract state, where some regions that draw their order are walked beside the reads of what was there. Plain lemmas, over any program. -/
import Derived.Test.YtoooldijnilpaaaAy
namespace Go.Proofs.Ytoooldijnilpaaa
set_option linter.all false
open Go.RowKit
namespace AM
def badK : List (Nat × Nat × List Nat) → Nat → Option (Nat × List Nat)
  | [], _ => none
  | (i, k) :: l, id => bif i == id then some k else badK l id
/-- As aw; the regions whose numbers are named are walked by yops, as far as it is told. -/
def awx (P : Program) (N : Nat) (bad : List (Nat × Nat × List Nat)) : Code → (Exit → St → Prop) → St → Prop
  | .skip, Q, s => Q .normal s
  | .region id ops draw, Q, s => match draw, badK bad id with
    | true, some k => yops P N ops.toList s.H (ops.toList.take k.1) (aops P N ops.toList (ops.toList.drop k.1) (Q .normal)) (oldL s.F k.2) s
    | _, _ => aops P N ops.toList ops.toList (Q .normal) s
  | .seq x y, Q, s => awx P N bad x (qSeq (awx P N bad y Q) Q) s
  | .cond x t f, Q, s => match getB s x with
    | some b => (b = true → awx P N bad t Q s) ∧ (b = false → awx P N bad f Q s)
    | none => False
  | .block id body, Q, s => awx P N bad body (qBlock id Q) s
  | .loop body, Q, s => AW P N (.loop body) Q s
  | .exit id, Q, s => Q (.exit id) s
  | .label _, Q, s => Q .normal s
  | .ret, Q, s => Q .ret s
  | _, _, _ => False
def okx (bad : List (Nat × Nat × List Nat)) : Code → Bool
  | .region id ops draw => !draw || (match badK bad id with
    | some k => Nat.ble k.1 ops.size && Mix.mixTail k.1 ops
    | none => Mix.mixOk 1 ops)
  | .seq x y => okx bad x && okx bad y
  | .cond _ x y => okx bad x && okx bad y
  | .block _ x => okx bad x
  | .loop x => okx bad x
  | _ => true
theorem awx_sound {P : Program} {N : Nat} {bad : List (Nat × Nat × List Nat)} (hm : P.follows .mixedOrders = true) : ∀ {code : Code} {Q : Exit → St → Prop} {s : St}, okx bad code = true → awx P N bad code Q s → AW P N code Q s := by
  intro code
  induction code with
  | skip => exact fun _ hk => AW.of hm rfl hk
  | region id ops draw =>
    intro Q s ho hk
    cases draw with
    | false => exact AW.of hm rfl hk
    | true =>
      unfold awx at hk
      simp only [okx, Bool.not_true, Bool.false_or] at ho
      cases hb : badK bad id with
      | some k =>
        rw [hb] at ho hk
        simp only [Bool.and_eq_true] at ho
        exact AW.regionY (F := s.F) (H := s.H) k.2 hm (Nat.le_of_ble_eq_true ho.1) ho.2 hk
      | none =>
        rw [hb] at ho hk
        exact AW.of hm (by simpa [okc] using ho) hk
  | seq x y ihx ihy =>
    intro Q s ho hk
    simp only [okx, Bool.and_eq_true] at ho
    refine AW.seq ((ihx ho.1 hk).mono fun e s' he => ?_)
    cases e with
    | normal => exact ihy ho.2 he
    | _ => exact he
  | cond x t f iht ihf =>
    intro Q s ho hk
    simp only [okx, Bool.and_eq_true] at ho
    unfold awx at hk
    cases hb : getB s x with
    | none => rw [hb] at hk; exact hk.elim
    | some b =>
      rw [hb] at hk
      exact AW.cond (F := s.F) (H := s.H) b hb (fun e => iht ho.1 (hk.1 e)) (fun e => ihf ho.2 (hk.2 e))
  | block id body ih =>
    intro Q s ho hk
    exact AW.block (ih ho hk)
  | loop body ih => exact fun _ hk => hk
  | exit id => exact fun _ hk => AW.of hm rfl hk
  | label l => exact fun _ hk => AW.of hm rfl hk
  | ret => exact fun _ hk => AW.of hm rfl hk
  | _ => exact fun _ hk => hk.elim
theorem AW.ofx {P : Program} {N : Nat} {x : Code} {Q : Exit → St → Prop} {s : St} (bad : List (Nat × Nat × List Nat)) (hm : P.follows .mixedOrders = true) (ho : okx bad x = true) (h : awx P N bad x Q s) : AW P N x Q s := awx_sound hm ho h
section
variable {P : Program} {N : Nat} {bad : List (Nat × Nat × List Nat)} {F : Fr} {H : List Bk} {Q : Exit → St → Prop} {c c' : Code} {x : Operand} {id : Nat} {draw : Bool} {arr : Array Oper}
theorem awx_skip' : awx P N bad .skip Q ⟨F, H⟩ = Q .normal ⟨F, H⟩ := rfl
theorem awx_region' : awx P N bad (.region id arr draw) Q ⟨F, H⟩ = if (draw && (badK bad id).isSome) = true then yops P N arr.toList H (arr.toList.take ((badK bad id).getD (0, [])).1) (aops P N arr.toList (arr.toList.drop ((badK bad id).getD (0, [])).1) (Q .normal)) (oldL F ((badK bad id).getD (0, [])).2) ⟨F, H⟩ else aops P N arr.toList arr.toList (Q .normal) ⟨F, H⟩ := by
  show (match draw, badK bad id with
    | true, some k => yops P N arr.toList H (arr.toList.take k.1) (aops P N arr.toList (arr.toList.drop k.1) (Q .normal)) (oldL F k.2) ⟨F, H⟩
    | _, _ => aops P N arr.toList arr.toList (Q .normal) ⟨F, H⟩) = _
  cases draw <;> cases badK bad id <;> rfl
theorem awx_seq' : awx P N bad (.seq c c') Q ⟨F, H⟩ = awx P N bad c (qSeq (awx P N bad c' Q) Q) ⟨F, H⟩ := rfl
theorem awx_cond' : awx P N bad (.cond x c c') Q ⟨F, H⟩ = match getB ⟨F, H⟩ x with
    | some b => gd b true (awx P N bad c Q ⟨F, H⟩) (awx P N bad c' Q ⟨F, H⟩)
    | none => False := rfl
theorem awx_block' : awx P N bad (.block id c) Q ⟨F, H⟩ = awx P N bad c (qBlock id Q) ⟨F, H⟩ := rfl
theorem awx_loop' : awx P N bad (.loop c) Q ⟨F, H⟩ = AW P N (.loop c) Q ⟨F, H⟩ := rfl
theorem awx_exit' : awx P N bad (.exit id) Q ⟨F, H⟩ = Q (.exit id) ⟨F, H⟩ := rfl
theorem awx_label' : awx P N bad (.label id) Q ⟨F, H⟩ = Q .normal ⟨F, H⟩ := rfl
theorem awx_ret' : awx P N bad .ret Q ⟨F, H⟩ = Q .ret ⟨F, H⟩ := rfl
end
/-! ## A frame that says less -/
/-- No row may stand for a row of nothing. -/
def zeroRow : SV → Prop
  | .v (.sl n _ cs) => n = 0 ∧ cs = []
  | .own _ _ n sz cs => n = 0 ∧ cs = [] ∧ 0 < sz
  | _ => False
def weakV (y x : SV) : Prop := y = x ∨ (y = .v .nil ∧ zeroRow x)
def subW : Fr → Fr → Prop
  | [], _ => True
  | (t, x) :: F0, F => (match getF t F with
    | some y => weakV y x
    | none => False) ∧ subW F0 F
theorem zeroRow_rel {c : Cx} {w : World} {r : Root} {x : SV} {v : Value} (h : zeroRow x) (hv : SRel c w r (.v .nil) v) : SRel c w r x v := by
  have e : v = .slice none 0 0 := Rel.exact hv rfl
  subst e
  unfold zeroRow at h
  split at h
  · obtain ⟨rfl, rfl⟩ := h
    exact Rel.sl0
  · obtain ⟨rfl, rfl, h⟩ := h
    exact own_nil h
  · exact h.elim
theorem Sim.weak {c : Cx} {N : Nat} {F H} {a : Act} {w : World} : ∀ {F0 : Fr}, subW F0 F → Sim c N ⟨F, H⟩ a w → Sim c N ⟨F0, H⟩ a w := fun {F0} h hs => by
  refine ⟨hs.inv, hs.size, hs.defers, ?_⟩
  have hf := hs.fr
  simp only at hf ⊢
  clear hs
  induction F0 with
  | nil => intro t x hx; cases hx
  | cons p F0 ih =>
    obtain ⟨t0, x0⟩ := p
    intro t x hx
    rcases List.mem_cons.1 hx with e | hx
    · obtain ⟨rfl, rfl⟩ := Prod.mk.inj e
      have h1 := h.1
      cases hg : getF t F with
      | none => rw [hg] at h1; exact h1.elim
      | some y =>
        rw [hg] at h1
        obtain ⟨v, hv, hr⟩ := hf t y (mem_getF hg)
        rcases h1 with rfl | ⟨rfl, hz⟩
        · exact ⟨v, hv, hr⟩
        · exact ⟨v, hv, zeroRow_rel hz hr⟩
    · exact ih h.2 t x hx
theorem AW.weak {P : Program} {N : Nat} {F : Fr} {H : List Bk} {x : Code} {Q : Exit → St → Prop} (F0 : Fr) (h0 : subW F0 F) (h : AW P N x Q ⟨F0, H⟩) : AW P N x Q ⟨F, H⟩ := fun c a w hs => h c a w (Sim.weak h0 hs)
/-- A loop: what holds at each round's head, with a number that every round lowers. -/
theorem AW.loopW {P : Program} {N : Nat} {Q : Exit → St → Prop} {F : Fr} {H : List Bk} {x : Code} (R : Nat → Fr → List Bk → Prop) (h0 : ∃ n F0, subW F0 F ∧ R n F0 H) (round : ∀ n F H, R n F H → AW P N x (qSeq (fun s' => ∃ m F1, m < n ∧ subW F1 s'.F ∧ R m F1 s'.H) Q) ⟨F, H⟩) : AW P N (.loop x) Q ⟨F, H⟩ := fun c a w hs => by
  obtain ⟨n, F0, h1, h2⟩ := h0
  refine wp_loop_rank (fun n a' w' => ∃ c' F' H', Sim c' N ⟨F', H'⟩ a' w' ∧ Ext c w c' w' ∧ R n F' H') ⟨n, c, F0, H, hs.weak h1, Ext.refl c w, h2⟩ fun n a1 w1 h1 => ?_
  obtain ⟨c1, F1, H1, k1, k2, k3⟩ := h1
  refine wp_mono (round n F1 H1 k3 c1 a1 w1 k1) fun e a2 w2 he => ?_
  obtain ⟨c2, s2, l1, l2, l3⟩ := he
  cases e with
  | normal =>
    obtain ⟨m, F3, hm, hsub, hR⟩ := l3
    exact ⟨m, hm, c2, F3, s2.H, Sim.weak (F := s2.F) hsub l1, k2.trans l2, hR⟩
  | _ => exact ⟨c2, s2, l1, k2.trans l2, l3⟩
/-- A loop whose rounds are counted. -/
theorem AW.count {P : Program} {N : Nat} {Q : Exit → St → Prop} {F : Fr} {H : List Bk} {x : Code} (n : Nat) (R : Nat → Fr → List Bk → Prop) (h0 : ∃ F0, subW F0 F ∧ R 0 F0 H)
    (round : ∀ k F H, k ≤ n → R k F H → AW P N x (qSeq (fun s' => k < n ∧ ∃ F1, subW F1 s'.F ∧ R (k + 1) F1 s'.H) Q) ⟨F, H⟩) : AW P N (.loop x) Q ⟨F, H⟩ := by
  obtain ⟨F0, h1, h2⟩ := h0
  refine AW.loopW (fun m F H => ∃ k, k ≤ n ∧ m = n - k ∧ R k F H) ⟨n, F0, h1, 0, Nat.zero_le _, by omega, h2⟩ ?_
  rintro m F H ⟨k, hk, rfl, hR⟩
  refine (round k F H hk hR).mono fun e s he => ?_
  cases e with
  | normal =>
    obtain ⟨hlt, F1, g1, g2⟩ := he
    exact ⟨n - (k + 1), F1, by omega, g1, k + 1, by omega, rfl, g2⟩
  | _ => exact he
/-! ## Arguments that say less -/
/-- What is known of an argument may be told by less. -/
def WeakL (xs ys : List V) : Prop := ∀ I φ vs, RelL I φ xs vs → RelL I φ ys vs
theorem AFn.weak {P : Program} {f : FuncId} {xs ys : List V} {H : List Bk} {Q : V → List Bk → Prop} (h : AFn P f ys H Q) (hw : WeakL xs ys) : AFn P f xs H Q := ⟨h.1, fun c w vs hi hs hr => h.2 c w vs hi hs (hw _ _ _ hr)⟩
theorem WeakL.refl (xs : List V) : WeakL xs xs := fun _ _ _ h => h
theorem WeakL.cons {x : V} {xs ys : List V} (h : WeakL xs ys) : WeakL (x :: xs) (x :: ys) := fun I φ vs hr => by
  cases hr with
  | cons h1 h2 => exact .cons h1 (h _ _ _ h2)
theorem WeakL.nil0 {sz : Nat} {xs ys : List V} (h : WeakL xs ys) : WeakL (.nil :: xs) (.sl 0 sz [] :: ys) := fun I φ vs hr => by
  cases hr with
  | cons h1 h2 =>
    have e := Rel.exact h1 (rfl : V.nil.exact = some _)
    subst e
    exact .cons .sl0 (h _ _ _ h2)
end AM
end Go.Proofs.Ytoooldijnilpaaa
