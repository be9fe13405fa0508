/- As XBg, where the calls only reckon and what is read beside them may be rows. -/
import Derived.Test.YtmjnffjacgjfmaaBg
import Derived.Test.YtmjnffjacgjfmaaBc
namespace Go.Proofs.Ytmjnffjacgjfmaa
set_option linter.all false
open Go.RowKit
namespace AM
def zstep (P : Program) (N : Nat) (ops : List Oper) (Fs : Fr) (H0 : List Bk) (o : Oper) (K : Fr → St → Prop) (F0 : Fr) (s : St) : Prop := match o.guard with
    | none => zop P N ops Fs H0 o F0 s K
    | some (j, want) => match (ops[j]?).bind (·.dst) with
      | some t => match getF t s.F with
        | some (.v (.sc (.bool b))) => gd b want (zop P N ops Fs H0 o F0 ⟨setF t (.v (.sc (.bool want))) s.F, s.H⟩ K) (putK N o.dst (.v (.tup [])) ⟨setF t (.v (.sc (.bool (!want)))) s.F, s.H⟩ (K (new0 o.dst none F0)))
        | some (.v (.tup [])) => putK N o.dst (.v (.tup [])) s (K (new0 o.dst none F0))
        | _ => False
      | none => False
def zopsB (P : Program) (N : Nat) (ops : List Oper) (Fs : Fr) (H0 : List Bk) (of : Oper) (B : List Oper) (K : St → Prop) : List Oper → Fr → St → Prop
  | [], F0, s => zstep P N ops Fs H0 of (zops P N ops Fs H0 B K) F0 s
  | o :: A, F0, s => zstep P N ops Fs H0 o (zopsB P N ops Fs H0 of B K A) F0 s ∧ (Mix.effB o = true → zstep P N ops Fs H0 of (zops P N ops Fs H0 (o :: A ++ B) K) F0 s)
section
variable {P : Program} {N : Nat} {ops A B : List Oper} {Fs F0 : Fr} {H0 H : List Bk} {F : Fr} {o of : Oper} {K : St → Prop} {K' : Fr → St → Prop}
theorem zstep' : zstep P N ops Fs H0 o K' F0 ⟨F, H⟩ = match o.guard with
    | none => zop P N ops Fs H0 o F0 ⟨F, H⟩ K'
    | some (j, want) => match (ops[j]?).bind (·.dst) with
      | some t => match getF t F with
        | some (.v (.sc (.bool b))) => gd b want (zop P N ops Fs H0 o F0 ⟨setF t (.v (.sc (.bool want))) F, H⟩ K') (putK N o.dst (.v (.tup [])) ⟨setF t (.v (.sc (.bool (!want)))) F, H⟩ (K' (new0 o.dst none F0)))
        | some (.v (.tup [])) => putK N o.dst (.v (.tup [])) ⟨F, H⟩ (K' (new0 o.dst none F0))
        | _ => False
      | none => False := rfl
theorem zopsB_nil' : zopsB P N ops Fs H0 of B K [] F0 ⟨F, H⟩ = zstep P N ops Fs H0 of (zops P N ops Fs H0 B K) F0 ⟨F, H⟩ := rfl
theorem zopsB_cons' : zopsB P N ops Fs H0 of B K (o :: A) F0 ⟨F, H⟩ = (zstep P N ops Fs H0 o (zopsB P N ops Fs H0 of B K A) F0 ⟨F, H⟩ ∧ (Mix.effB o = true → zstep P N ops Fs H0 of (zops P N ops Fs H0 (o :: A ++ B) K) F0 ⟨F, H⟩)) := rfl
theorem zopsB_eff (h : Mix.effB o = true) : zopsB P N ops Fs H0 of B K (o :: A) F0 ⟨F, H⟩ = (zstep P N ops Fs H0 o (zopsB P N ops Fs H0 of B K A) F0 ⟨F, H⟩ ∧ zstep P N ops Fs H0 of (zops P N ops Fs H0 (o :: A ++ B) K) F0 ⟨F, H⟩) := by
  rw [zopsB_cons']
  simp [h]
theorem zopsB_quiet (h : Mix.effB o = false) : zopsB P N ops Fs H0 of B K (o :: A) F0 ⟨F, H⟩ = zstep P N ops Fs H0 o (zopsB P N ops Fs H0 of B K A) F0 ⟨F, H⟩ := by
  rw [zopsB_cons']
  simp [h]
theorem zopsB_ite : zopsB P N ops Fs H0 of B K (o :: A) F0 ⟨F, H⟩ = if Mix.effB o = true then (zstep P N ops Fs H0 o (zopsB P N ops Fs H0 of B K A) F0 ⟨F, H⟩ ∧ zstep P N ops Fs H0 of (zops P N ops Fs H0 (o :: A ++ B) K) F0 ⟨F, H⟩) else zstep P N ops Fs H0 o (zopsB P N ops Fs H0 of B K A) F0 ⟨F, H⟩ := by
  rw [zopsB_cons']
  split <;> simp [*]
end
section
variable {P : Program} {c c0 : Cx} {N : Nat} {s : St} {a : Act} {w w0 : World} {Fs F0 : Fr} {H0 : List Bk}
theorem zstep_walk {ops : Array Oper} {o : Oper} {K : Fr → St → Prop} {KQ : Act → World → Prop} (h : Sim c N s a w) (p : PastZ c0 Fs H0 w0 N F0 c a w) (hk : zstep P N ops.toList Fs H0 o K F0 s)
    (hq : ∀ c' s' a' w' F0', Sim c' N s' a' w' → PastZ c0 Fs H0 w0 N F0' c' a' w' → K F0' s' → KQ a' w') : Mix.stepW P ops (fun _ w' => Agree w0 w') (fun w' => Agree w0 w') KQ o a w := by
  have cases' : (∃ s1 : St, Sim c N s1 a w ∧ Region.wanted o (yielded ops a.tmps) = true ∧ zop P N ops.toList Fs H0 o F0 s1 K) ∨
      (∃ s1 : St, Sim c N s1 a w ∧ Region.wanted o (yielded ops a.tmps) = false ∧ putK N o.dst (.v (.tup [])) s1 (K (new0 o.dst none F0))) := by
    unfold zstep at hk
    cases hg : o.guard with
    | none => rw [hg] at hk; exact .inl ⟨s, h, by simp [Region.wanted, hg], hk⟩
    | some q =>
      obtain ⟨j, want⟩ := q
      rw [hg] at hk
      simp only at hk
      cases hd : (ops.toList[j]?).bind (·.dst) with
      | none => rw [hd] at hk; exact hk.elim
      | some t =>
        rw [hd] at hk
        simp only at hk
        have hd' : (ops[j]?).bind (·.dst) = some t := by simpa using hd
        split at hk
        · rename_i b hb
          obtain ⟨v, hv, hr⟩ := h.fr t _ (mem_getF hb)
          have e : v = .bool b := Rel.exact hr rfl
          subst e
          have hy := yielded_of hd' hv
          cases hbw : b == want with
          | true =>
            have e : b = want := by simpa using hbw
            subst e
            exact .inl ⟨_, h.lit hb, by simp [Region.wanted, hg, hy, boolOf], hk.1 rfl⟩
          | false =>
            have e : b = !want := by cases b <;> cases want <;> simp_all
            subst e
            exact .inr ⟨_, h.lit hb, by simp [Region.wanted, hg, hy, boolOf], hk.2 rfl⟩
        · rename_i hb
          obtain ⟨v, hv, hr⟩ := h.fr t _ (mem_getF hb)
          have e : v = .tuple #[] := Rel.exact hr rfl
          subst e
          have hy := yielded_of hd' hv
          exact .inr ⟨s, h, by simp [Region.wanted, hg, hy, boolOf], hk⟩
        · exact hk.elim
  unfold Mix.stepW
  rcases cases' with ⟨s1, h, hw, hk⟩ | ⟨s1, h, hw, hk⟩
  · obtain ⟨d1, d2⟩ := zop_does h p hk
    by_cases he : Mix.effB o = true
    · rw [if_pos he]
      refine wpList_step fun K' hK' => ?_
      rw [if_pos hw]
      refine Mix.wp_of_eff (Mix.effS_mono (fun d v w' h2 => ?_) (Mix.eff_of_wp (d1 he)))
      obtain ⟨g1, c', s', old', k1, k2, k3⟩ := h2
      exact hK' _ _ (wpList_nil ⟨g1, hq _ _ _ _ _ k1 k2 k3⟩)
    · rw [if_neg he]
      have he' : Mix.effB o = false := by simpa using he
      obtain ⟨v, hv, c', s', old', k1, k2, k3⟩ := d2 he'
      refine wpQuiet_step fun K' hK' => ?_
      rw [if_pos hw]
      refine ⟨v, fun w' hw' => ?_, hK' _ (wpQuiet_nil (hq _ _ _ _ _ k1 k2 k3))⟩
      unfold Oper.quietAt
      rw [hv w' hw']
      exact ⟨rfl, rfl⟩
  · obtain ⟨c', s', old', k1, k2, k3⟩ := put_zp (z := none) (v := undef) h p hk (fun _ _ => Rel.tup (vs := #[]) .nil) (fun d z _ e => by cases e)
    have h4 := hq _ _ _ _ _ k1 k2 k3
    by_cases he : Mix.effB o = true
    · rw [if_pos he]
      refine wpList_step fun K' hK' => ?_
      rw [if_neg (by rw [hw]; simp)]
      exact hK' _ _ (wpList_nil ⟨k2.agree, h4⟩)
    · rw [if_neg he]
      refine wpQuiet_step fun K' hK' => ?_
      rw [if_neg (by rw [hw]; simp)]
      exact hK' _ (wpQuiet_nil h4)
theorem zopsB_walk {ops : Array Oper} {Q : Exit → Act → World → Prop} {of : Oper} {B : List Oper} {K : St → Prop} (hq : ∀ c' s' a' w', Sim c' N s' a' w' → Ext c0 w0 c' w' → K s' → Q .normal a' w') : ∀ {A : List Oper} {s : St} {c : Cx} {a : Act} {w : World} {F0 : Fr}, Sim c N s a w → PastZ c0 Fs H0 w0 N F0 c a w → zopsB P N ops.toList Fs H0 of B K A F0 s →
    Mix.walkB P ops (fun _ w' => Agree w0 w') (fun w' => Agree w0 w') Q of B A a w
  | [], s, c, a, w, F0, h, p, hk => zstep_walk h p hk fun c' s' a' w' old' k1 k2 k3 => zops_walk k1 k2 k3 hq
  | o :: A, s, c, a, w, F0, h, p, hk => ⟨zstep_walk h p hk.1 fun c' s' a' w' old' k1 k2 k3 => zopsB_walk hq k1 k2 k3, fun he => zstep_walk h p (hk.2 he) fun c' s' a' w' old' k1 k2 k3 => zops_walk k1 k2 k3 hq⟩
def floatZ (P : Program) (N : Nat) (ops : List Oper) (Fs : Fr) (H : List Bk) (f k : Nat) (K : St → Prop) (F0 : Fr) (s : St) : Prop := match ops.drop f with
  | of :: r => zopsB P N ops Fs H of (r.take (k - f - 1)) K (ops.take f) F0 s
  | [] => False
theorem floatZ' {P : Program} {N : Nat} {ops : List Oper} {Fs : Fr} {H : List Bk} {f k : Nat} {K : St → Prop} {F0 : Fr} {s : St} : floatZ P N ops Fs H f k K F0 s = match ops.drop f with
  | of :: r => zopsB P N ops Fs H of (r.take (k - f - 1)) K (ops.take f) F0 s
  | [] => False := rfl
theorem AW.regionFZ {id : Nat} {ops : Array Oper} {F : Fr} {H : List Bk} {Q : Exit → St → Prop} (f k : Nat) (hm : P.follows .mixedOrders = true) (hk : k ≤ ops.size) (hf : f < k) (ho : Mix.mixFloat f k ops = true)
    (h : floatZ P N ops.toList F H f k (aops P N ops.toList (ops.toList.drop k) (Q .normal)) F ⟨F, H⟩) : AW P N (.region id ops true) Q ⟨F, H⟩ := fun c a w hs => by
  have hs' := hs.drew
  have p : PastZ c F H w.drew N F c a w.drew := ⟨⟨a, hs'⟩, Ext.refl c _, Agree.refl _, fun q hq => by
    obtain ⟨v, hv, hr⟩ := hs'.fr q.1 q.2 hq
    have : a.eval (.tmp q.1) = v := by simp [Act.eval, hv]
    rw [this]
    exact hr⟩
  unfold floatZ at h
  cases hd : ops.toList.drop f with
  | nil => rw [hd] at h; exact h.elim
  | cons of r =>
    rw [hd] at h
    simp only at h
    have hlen : r.length = ops.size - f - 1 := by
      have := congrArg List.length hd
      simp at this
      omega
    have hpost : r.drop (k - f - 1) = ops.toList.drop k := by
      have : ops.toList.drop k = (ops.toList.drop f).drop (k - f) := by rw [List.drop_drop]; congr 1; omega
      rw [this, hd]
      cases hkf : k - f with
      | zero => omega
      | succ d => simp
    have e : ops = (ops.toList.take f ++ (of :: (r.take (k - f - 1) ++ ops.toList.drop k))).toArray := by
      rw [← hpost, List.take_append_drop, ← hd, List.take_append_drop]
    have h1 := zopsB_walk (ops := ops) (Q := Mix.endQ (Mix.walk P ops Agree (fun _ => True) (PostE c w N Q) (ops.toList.drop k))) (K := aops P N ops.toList (ops.toList.drop k) (Q .normal)) (fun c' s' a' w' k1 k2 k3 =>
      aops_walk (ops := ops) k1 k3 fun a2 w2 h2 => Post.step ((Ext.drew c w).trans k2) h2) hs' p h
    have lf : (ops.toList.take f).length = f := by simp; omega
    have lk : (r.take (k - f - 1)).length = k - f - 1 := by rw [List.length_take, hlen]; omega
    have h2 := Mix.wp_region_float (P := P) (C1 := fun _ w' => Agree w.drew w') (J1 := fun w' => Agree w.drew w') (C2 := Agree) (id := id) (A := ops.toList.take f) (of := of) (B := r.take (k - f - 1)) (post := ops.toList.drop k) (Q := PostE c w N Q) (a := a) (w := w) (fun _ h => h) (fun w => Agree.refl w) (fun _ _ => Iff.rfl) hm (by
      rw [← e, lf, lk, show f + 1 + (k - f - 1) = k by omega]; exact ho) (Agree.refl _) (by rw [← e]; exact h1)
    rw [← e] at h2
    exact h2
end
end AM
end Go.Proofs.Ytmjnffjacgjfmaa
