/- Regions that draw their order, walked in each order that they may take. Plain lemmas, over any program. -/
import Derived.Test.YtmjnffjacgjfmaaBg
namespace Go.Proofs.Ytmjnffjacgjfmaa
set_option linter.all false
open Go.RowKit
namespace AM

/-- Which operations may come next, by those that came (as bits). -/
def rdT : List (Nat × List Nat) → Nat → List Nat
  | [], _ => []
  | (k, r) :: T, m => if k = m then r else rdT T m
def gone (P : Program) (N : Nat) (ops : List Oper) (K : Nat → St → Prop) (m i : Nat) : Option Oper → St → Prop
  | some o, s => aops P N ops [o] (K (m + 2 ^ i)) s
  | none, _ => False
def gall (P : Program) (N : Nat) (ops : List Oper) (K : Nat → St → Prop) (m : Nat) : List Nat → St → Prop
  | [], _ => True
  | i :: l, s => gone P N ops K m i ops[i]? s ∧ gall P N ops K m l s
theorem gall_mem {P : Program} {N : Nat} {ops : List Oper} {K : Nat → St → Prop} {m : Nat} {s : St} : ∀ {l : List Nat}, gall P N ops K m l s → ∀ i ∈ l, gone P N ops K m i ops[i]? s
  | x :: l, h, i, hi => by
    rcases List.mem_cons.1 hi with rfl | hi
    · exact h.1
    · exact gall_mem h.2 i hi
def gops (P : Program) (N : Nat) (ops : List Oper) (T : List (Nat × List Nat)) (K : St → Prop) : Nat → Nat → St → Prop
  | 0, _, s => K s
  | f + 1, m, s => gall P N ops (gops P N ops T K f) m (rdT T m) s
def okG (ops : Array Oper) (T : List (Nat × List Nat)) : Nat → Nat → Array Bool → Bool
  | 0, _, l => (Region.ready .any ops l).isEmpty
  | f + 1, m, l => !(Region.ready .any ops l).isEmpty && ((Region.ready .any ops l == rdT T m) && (Region.ready .any ops l).all fun i => okG ops T f (m + 2 ^ i) (l.setIfInBounds i true))
section
variable {P : Program} {N : Nat} {K : St → Prop}
theorem gops_zero' {ops : List Oper} {T : List (Nat × List Nat)} {m : Nat} {F : Fr} {H : List Bk} : gops P N ops T K 0 m ⟨F, H⟩ = K ⟨F, H⟩ := rfl
theorem gops_succ' {ops : List Oper} {T : List (Nat × List Nat)} {f m : Nat} {F : Fr} {H : List Bk} : gops P N ops T K (f + 1) m ⟨F, H⟩ = gall P N ops (gops P N ops T K f) m (rdT T m) ⟨F, H⟩ := rfl
theorem gall_nil' {ops : List Oper} {K : Nat → St → Prop} {m : Nat} {F : Fr} {H : List Bk} : gall P N ops K m [] ⟨F, H⟩ = True := rfl
theorem gall_cons' {ops : List Oper} {K : Nat → St → Prop} {m i : Nat} {l : List Nat} {F : Fr} {H : List Bk} : gall P N ops K m (i :: l) ⟨F, H⟩ = (gone P N ops K m i ops[i]? ⟨F, H⟩ ∧ gall P N ops K m l ⟨F, H⟩) := rfl
theorem gone_some' {ops : List Oper} {K : Nat → St → Prop} {m i : Nat} {o : Oper} {F : Fr} {H : List Bk} : gone P N ops K m i (some o) ⟨F, H⟩ = aops P N ops [o] (K (m + 2 ^ i)) ⟨F, H⟩ := rfl
theorem gops_any {ops : Array Oper} {T : List (Nat × List Nat)} {Q : Exit → Act → World → Prop} : ∀ {f m : Nat} {l : Array Bool} {s : St} {c : Cx} {a : Act} {w : World}, okG ops T f m l = true → Sim c N s a w → gops P N ops.toList T K f m s →
    (∀ a' w', Post c w N K a' w' → Q .normal a' w') → wpAny P .any ops Q f l a w
  | 0, m, l, s, c, a, w, ho, h, hk, hq => ⟨by simpa [okG] using ho, hq a w ⟨c, s, h, Ext.refl c w, hk⟩⟩
  | f + 1, m, l, s, c, a, w, ho, h, hk, hq => by
    unfold okG at ho
    simp only [Bool.and_eq_true, Bool.not_eq_true', List.isEmpty_eq_false_iff, beq_iff_eq, List.all_eq_true] at ho
    obtain ⟨h0, h1, h2⟩ := ho
    refine ⟨fun e => absurd e h0, fun i hi => ?_⟩
    have hk := gall_mem (show gall P N ops.toList (gops P N ops.toList T K f) m (rdT T m) s from hk) i (h1 ▸ hi)
    have h2 := h2 i hi
    unfold gone at hk
    unfold wpOp
    rw [← Array.getElem?_toList]
    cases hoi : ops.toList[i]? with
    | none => rw [hoi] at hk; exact hk.elim
    | some o =>
      rw [hoi] at hk
      simp only at hk ⊢
      rcases aops_cases h hk with ⟨s1, h, hw, hk⟩ | ⟨s1, h, hw, hk⟩
      · rw [if_pos hw]
        have h1 := (aop_does h hk).acts
        refine .inl (Mix.wp_of_eff (Mix.effS_mono (fun d v w' h3 => ?_) (Mix.eff_of_wp h1)))
        obtain ⟨c', s', k1, k2, k3⟩ := h3
        exact gops_any h2 k1 k3 fun a' w' h3 => hq a' w' (Post.step k2 h3)
      · rw [if_neg (by rw [hw]; simp)]
        obtain ⟨c', s', k1, k2, k3⟩ := skip_post h hk
        exact gops_any h2 k1 k3 fun a' w' h3 => hq a' w' (Post.step k2 h3)
theorem AW.regionA {id : Nat} {ops : Array Oper} {F : Fr} {H : List Bk} {Q : Exit → St → Prop} (T : List (Nat × List Nat)) (hm : P.follows .mixedOrders = true) (ho : okG ops T ops.size 0 (Array.replicate ops.size false) = true)
    (h : gops P N ops.toList T (Q .normal) ops.size 0 ⟨F, H⟩) : AW P N (.region id ops true) Q ⟨F, H⟩ := fun c a w hs => by
  refine wp_region_any hm (gops_any ho hs.drew h fun a' w' h2 => ?_)
  exact Post.step (Ext.drew c w) h2
/-- Two pieces, with the state between them. -/
theorem AW.midE {x y : Code} {Q : Exit → St → Prop} {s : St} (FA : Fr) (HA : List Bk) (h1 : AW P N x (qSeq (fun s' => subW FA s'.F ∧ s'.H = HA) Q) s) (h2 : AW P N y Q ⟨FA, HA⟩) : AW P N (.seq x y) Q s := AW.mid (fun F H => F = FA ∧ H = HA) (h1.mono fun e s' he => by
  cases e with
  | normal =>
    obtain ⟨k, e⟩ := he
    exact ⟨FA, k, rfl, e⟩
  | _ => exact he) (by
  rintro F H ⟨rfl, rfl⟩
  exact h2)
theorem callK.always {dst : Option Tmp} {f : FuncId} {xs : List V} {F : Fr} {H : List Bk} {r : V} (h : PFn P f xs r) (hx : V.closedL xs = true) (hr : r.closed = true) (hk : putK N dst (.v r) ⟨F, H⟩ K) : callK P N dst f xs F H K = True := eq_true (callK.pure h hx hr hk)
/-- Two pieces, with two things of which one holds between them. -/
theorem AW.mid2 {x y : Code} {Q : Exit → St → Prop} {s : St} (R : Fr → List Bk → Prop) (FA FB : Fr) (HA : List Bk) (h1 : AW P N x (qSeq (fun s' => (subW FA s'.F ∨ subW FB s'.F) ∧ s'.H = HA) Q) s) (ha : R FA HA) (hb : R FB HA) (h2 : ∀ F H, R F H → AW P N y Q ⟨F, H⟩) : AW P N (.seq x y) Q s := AW.mid R (h1.mono fun e s' he => by
  cases e with
  | normal =>
    obtain ⟨k | k, e⟩ := he
    · exact ⟨FA, k, e ▸ ha⟩
    · exact ⟨FB, k, e ▸ hb⟩
  | _ => exact he) h2
end
end AM
end Go.Proofs.Ytmjnffjacgjfmaa
