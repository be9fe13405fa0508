/- A region that draws its order, of which a stretch at the end is ordered behind all that stands ahead of it, each operation. -/
import Derived.Test.YtoooldijnilpaaaMix
namespace Go.Proofs.Ytoooldijnilpaaa
set_option linter.all false
namespace Mix
def mixTail (k0 : Nat) (ops : Array Oper) : Bool :=
  certOk ops (Region.before ops) &&
  (Region.noSelect ops &&
  ((ops.zipIdx.all fun (o, i) => o.after.all fun e => !Region.binds .any e || decide (e.on < i)) &&
  ((List.range ops.size).all fun i => (List.range ops.size).all fun j => !decide (i < j) || (bitOf (Region.before ops) j i ||
    (decide (j < k0) && match ops[i]?, ops[j]? with
     | some x, some y => x.apart ops y && pairOk 2 x y
     | _, _ => true)))))
structure StaticT (k0 : Nat) (ops : Array Oper) : Prop where
  cert : certOk ops (Region.before ops) = true
  sel : Region.noSelect ops = true
  back : ∀ (i : Nat) (o : Oper), ops[i]? = some o → ∀ e ∈ o.after, Region.binds .any e = true → e.on < i
  pairs : ∀ (i j : Nat) (x y : Oper), ops[i]? = some x → ops[j]? = some y → i < j → bitOf (Region.before ops) j i = true ∨ (j < k0 ∧ x.apart ops y = true ∧ pairOk 2 x y = true)
theorem staticT_of {k0 : Nat} {ops : Array Oper} (h : mixTail k0 ops = true) : StaticT k0 ops := by
  simp only [mixTail, Bool.and_eq_true] at h
  obtain ⟨h1, h2, h3, h4⟩ := h
  refine ⟨h1, h2, fun i o ho e he hb => ?_, fun i j x y hx hy hij => ?_⟩
  · have h5 := Array.all_eq_true_iff_forall_mem.1 h3 (o, i) (by
      rw [Array.mem_iff_getElem?]
      exact ⟨i, by simp [Array.getElem?_zipIdx, ho]⟩)
    have h6 := Array.all_eq_true_iff_forall_mem.1 h5 e he
    simpa [hb] using h6
  · have hi : i < ops.size := (Array.getElem?_eq_some_iff.1 hx).1
    have hj : j < ops.size := (Array.getElem?_eq_some_iff.1 hy).1
    have h5 := List.all_eq_true.1 (List.all_eq_true.1 h4 i (List.mem_range.2 hi)) j (List.mem_range.2 hj)
    simp only [hx, hy, hij, decide_true, Bool.not_true, Bool.false_or, Bool.or_eq_true, Bool.and_eq_true, decide_eq_true_eq] at h5
    rcases h5 with h5 | ⟨h5, h6, h7⟩
    · exact .inl h5
    · exact .inr ⟨h5, h6, h7⟩
section
variable {P : Program} {ops : Array Oper} {C1 C2 : World → World → Prop} {J1 : World → Prop} {k0 : Nat}
def cAt (C1 C2 : World → World → Prop) (k0 i : Nat) : World → World → Prop := if i < k0 then C1 else C2
def jAt (J1 : World → Prop) (k0 i : Nat) : World → Prop := if i < k0 then J1 else fun _ => True
def anyT (P : Program) (ops : Array Oper) (C1 C2 : World → World → Prop) (J1 : World → Prop) (k0 : Nat) (Q : Act → World → Prop) : Nat → Array Bool → Act → World → Prop
  | 0, listed, a, w => Region.ready .any ops listed = [] ∧ Q a w
  | fuel + 1, listed, a, w => (Region.ready .any ops listed = [] → Q a w) ∧ ∀ i ∈ Region.ready .any ops listed, mOp P ops (cAt C1 C2 k0 i) (jAt J1 k0 i) i (anyT P ops C1 C2 J1 k0 Q fuel (listed.setIfInBounds i true)) a w

theorem anyT_first (hC : ∀ w, J1 w → C1 w w) (hC2 : ∀ w, C2 w w) (hgx : ∀ w w', C1 w w' ↔ J1 w') (hst : StaticT k0 ops) {Q : Act → World → Prop} {i : Nat} {x : Oper} (hi : ops[i]? = some x) :
    ∀ (fuel : Nat) (listed : Array Bool) (a : Act) (w : World), jAt J1 k0 i w → Closed ops listed → (∀ m, m < i → listed.getD m false = true) → i ∈ Region.ready .any ops listed →
      mOp P ops (cAt C1 C2 k0 i) (jAt J1 k0 i) i (anyT P ops C1 C2 J1 k0 Q fuel (listed.setIfInBounds i true)) a w → anyT P ops C1 C2 J1 k0 Q (fuel + 1) listed a w := by
  have his : i < ops.size := (Array.getElem?_eq_some_iff.1 hi).1
  intro fuel
  induction fuel with
  | zero =>
    intro listed a w hw hcl hlow hr H
    refine ⟨fun h => (by rw [h] at hr; cases hr), fun j hj => ?_⟩
    by_cases hji : j = i
    · subst hji; exact H
    · obtain ⟨a', w', h0, _⟩ := mOp_witness hw H
      have := ready_mono hj hji
      rw [h0] at this
      cases this
  | succ fuel ih =>
    intro listed a w hw hcl hlow hr H
    refine ⟨fun h => (by rw [h] at hr; cases hr), fun j hj => ?_⟩
    by_cases hji : j = i
    · subst hji; exact H
    · obtain ⟨hjun, y, hy, hall⟩ := mem_ready.1 hj
      have hij : i < j := by
        rcases Nat.lt_or_ge i j with h | h
        · exact h
        · have h1 := hlow j (by omega)
          rcases Nat.lt_or_ge j listed.size with h' | h'
          · simp [h'] at hjun h1; rw [hjun] at h1; cases h1
          · simp [Array.getElem?_eq_none h'] at h1
      have hiun := (mem_ready.1 hr).1
      have hilt : i < listed.size := by
        rcases Nat.lt_or_ge i listed.size with h' | h'
        · exact h'
        · simp [Array.getElem?_eq_none h'] at hiun
      have hnb : ¬ bitOf (Region.before ops) j i = true := fun hb => by
        have h1 := cert_ready hst.cert hcl his hj hb
        simp [hilt] at hiun h1
        rw [hiun] at h1
        cases h1
      obtain ⟨hk, hap, hpk⟩ := (hst.pairs i j x y hi hy hij).resolve_left hnb
      have ci : cAt C1 C2 k0 i = C1 := by unfold cAt; rw [if_pos (by omega)]
      have ji : jAt J1 k0 i = J1 := by unfold jAt; rw [if_pos (by omega)]
      have cj : cAt C1 C2 k0 j = C1 := by unfold cAt; rw [if_pos hk]
      have jj : jAt J1 k0 j = J1 := by unfold jAt; rw [if_pos hk]
      rw [ci, ji] at H
      rw [ji] at hw
      have H2 : mOp P ops C1 J1 i (mOp P ops C1 J1 j (anyT P ops C1 C2 J1 k0 Q fuel ((listed.setIfInBounds i true).setIfInBounds j true))) a w :=
        mOp_mono hw (fun a' w' _ h => by have := h.2 j (ready_mono hj hji); rw [cj, jj] at this; exact this) H
      have H3 := mOp_swap hC (ga := 2) (fun e => by cases e) (fun _ => hgx) hi hy (fun cs b => Region.noSelect_spec hst.sel i x cs b hi) (fun cs b => Region.noSelect_spec hst.sel j y cs b hy) hap hpk hw H2
      rw [cj, jj]
      refine mOp_mono hw (fun a' w' hw' h => ih (listed.setIfInBounds j true) a' w' (by rw [ji]; exact hw') (hcl.set hj) (fun m hm => getD_set_true (hlow m hm)) (ready_mono hr (Ne.symm hji)) ?_) H3
      rw [ci, ji, Array.setIfInBounds_comm _ _ hji]
      exact h

/-- One step in the order of the text. -/
def stepW (P : Program) (ops : Array Oper) (C : World → World → Prop) (J : World → Prop) (K : Act → World → Prop) (o : Oper) (a : Act) (w : World) : Prop :=
  if effB o = true then wpList P ops (Exit.then (fun a w => J w ∧ K a w) bot) [o] a w else wpQuiet P ops (C w) (fun a' => K a' w) [o] a
theorem walk_step {C : World → World → Prop} {J : World → Prop} {Q : Exit → Act → World → Prop} {o : Oper} {rest : List Oper} {a : Act} {w : World} (h : walk P ops C J Q (o :: rest) a w) : stepW P ops C J (walk P ops C J Q rest) o a w := h
theorem mOp_of_step {C : World → World → Prop} {J : World → Prop} {K : Act → World → Prop} {i : Nat} {o : Oper} {a : Act} {w : World} (hi : ops[i]? = some o) (h : stepW P ops C J K o a w) : mOp P ops C J i K a w := by
  unfold stepW at h
  unfold mOp
  simp only [hi]
  by_cases he : effB o = true
  · rw [if_pos he] at h
    unfold wpList at h
    by_cases hw : Region.wanted o (yielded ops a.tmps) = true
    · rw [if_pos hw] at h
      rcases h with h | ⟨_, a0, w0, h⟩
      · rw [show kindOf ops o a = .eff by unfold kindOf; rw [if_pos hw, if_pos he]]
        exact eff_of_wp (K := fun a w => J w ∧ K a w) (Oper.wp_mono (fun a' w' h => h) (by
          refine Oper.wp_mono (K := wpList P ops (Exit.then (fun a w => J w ∧ K a w) bot) []) (fun a' w' h => h) ?_
          revert h
          unfold Oper.wp
          generalize (execOp a.eval o).run P w = r
          cases r with
          | ok n w' =>
            cases n <;> simp only [Oper.upon] <;> intro h <;> first
              | exact h
              | exact Calls.mono h (fun e w'' he => by
                  cases e with
                  | returned v => exact he
                  | panicked c => exact he
                  | outgrown => obtain ⟨_, _, he⟩ := he; exact he.elim)
          | halt x w' => cases x <;> simp only [Oper.upon] <;> intro h <;> exact h))
      · exact h.elim
    · rw [if_neg hw] at h
      rw [show kindOf ops o a = .skip by unfold kindOf; rw [if_neg hw]]
      exact (show J w ∧ K (a.put o.dst undef) w from h).2
  · have he' : effB o = false := by simpa using he
    rw [if_neg he] at h
    unfold wpQuiet at h
    by_cases hw : Region.wanted o (yielded ops a.tmps) = true
    · rw [if_pos hw] at h
      rw [show kindOf ops o a = .still by unfold kindOf; rw [if_pos hw, if_neg he]]
      obtain ⟨v, h1, h2⟩ := h
      refine ⟨v, fun w' hw' => ?_, h2⟩
      have h3 := h1 w' hw'
      unfold Oper.quietAt at h3
      cases hr : (execOp a.eval o).run P w' with
      | halt x w'' => rw [hr] at h3; simp only [Oper.quietUpon] at h3
      | ok n w'' =>
        rw [hr] at h3
        obtain ⟨u, rfl⟩ := value_of he' hr
        simp only [Oper.quietUpon] at h3
        obtain ⟨rfl, rfl⟩ := h3
        rfl
    · rw [if_neg hw] at h
      rw [show kindOf ops o a = .skip by unfold kindOf; rw [if_neg hw]]
      exact h

/-- The walk in the order of the text, from operation number k on. -/
def walkT (P : Program) (ops : Array Oper) (C1 C2 : World → World → Prop) (J1 : World → Prop) (k0 : Nat) (Q : Act → World → Prop) : Nat → List Oper → Act → World → Prop
  | _, [], a, w => Q a w
  | k, o :: rest, a, w => ops[k]? = some o ∧ mOp P ops (cAt C1 C2 k0 k) (jAt J1 k0 k) k (walkT P ops C1 C2 J1 k0 Q (k + 1) rest) a w
def endQ (K : Act → World → Prop) : Exit → Act → World → Prop
  | .normal => K
  | _ => fun _ _ => False
theorem walkT_post {Q : Exit → Act → World → Prop} : ∀ (post : List Oper) (k : Nat) (a : Act) (w : World), k0 ≤ k → (∀ j, post[j]? = ops[k + j]?) → walk P ops C2 (fun _ => True) Q post a w → walkT P ops C1 C2 J1 k0 (Q .normal) k post a w
  | [], k, a, w, hk, _, h => h
  | o :: post, k, a, w, hk, hl, h => by
    have h0 : ops[k]? = some o := by simpa using (hl 0).symm
    unfold walkT
    rw [show cAt C1 C2 k0 k = C2 by unfold cAt; rw [if_neg (by omega)], show jAt J1 k0 k = fun _ => True by unfold jAt; rw [if_neg (by omega)]]
    exact ⟨h0, mOp_mono trivial (fun a w _ h => walkT_post post (k + 1) a w (by omega) (fun j => by have := hl (j + 1); simpa [Nat.add_assoc, Nat.add_comm 1 j] using this) h) (mOp_of_step h0 (walk_step h))⟩
theorem walkT_pre {Q : Exit → Act → World → Prop} {post : List Oper} : ∀ (pre : List Oper) (k : Nat) (a : Act) (w : World), k + pre.length = k0 → (∀ j, (pre ++ post)[j]? = ops[k + j]?) → J1 w → walk P ops C1 J1 (endQ (walk P ops C2 (fun _ => True) Q post)) pre a w → walkT P ops C1 C2 J1 k0 (Q .normal) k (pre ++ post) a w
  | [], k, a, w, hk, hl, _, h => by
    simp only [List.length_nil, Nat.add_zero] at hk
    exact walkT_post post k a w (by omega) hl h
  | o :: pre, k, a, w, hk, hl, hw, h => by
    have h0 : ops[k]? = some o := by simpa using (hl 0).symm
    simp only [List.length_cons] at hk
    rw [List.cons_append]
    unfold walkT
    rw [show cAt C1 C2 k0 k = C1 by unfold cAt; rw [if_pos (by omega)], show jAt J1 k0 k = J1 by unfold jAt; rw [if_pos (by omega)]]
    exact ⟨h0, mOp_mono hw (fun a w hw' h => walkT_pre pre (k + 1) a w (by omega) (fun j => by have := hl (j + 1); simpa [Nat.add_assoc, Nat.add_comm 1 j] using this) hw' h) (mOp_of_step h0 (walk_step h))⟩

theorem anyT_of_walk (hC : ∀ w, J1 w → C1 w w) (hC2 : ∀ w, C2 w w) (hgx : ∀ w w', C1 w w' ↔ J1 w') (hst : StaticT k0 ops) {Q : Act → World → Prop} :
    ∀ (l : List Oper) (k : Nat) (listed : Array Bool) (a : Act) (w : World), (∀ j, l[j]? = ops[k + j]?) → k + l.length = ops.size → listed.size = ops.size →
      (∀ m, m < ops.size → listed.getD m true = decide (m < k)) → (k < k0 → J1 w) → walkT P ops C1 C2 J1 k0 Q k l a w → anyT P ops C1 C2 J1 k0 Q l.length listed a w := by
  intro l
  induction l with
  | nil =>
    intro k listed a w hl hk hs hls hw h
    refine ⟨?_, h⟩
    rw [List.eq_nil_iff_forall_not_mem]
    intro j hj
    obtain ⟨h1, o, ho, _⟩ := mem_ready.1 hj
    have hjs : j < ops.size := (Array.getElem?_eq_some_iff.1 ho).1
    rw [hls j hjs] at h1
    simp only [List.length_nil, Nat.add_zero] at hk
    simp at h1
    omega
  | cons o rest ih =>
    intro k listed a w hl hk hs hls hw h
    have h0 : ops[k]? = some o := by simpa using (hl 0).symm
    have hks : k < ops.size := (Array.getElem?_eq_some_iff.1 h0).1
    have both : ∀ m, m < ops.size → listed.getD m false = listed.getD m true := fun m hm => by simp [hs, hm]
    have hr : k ∈ Region.ready .any ops listed := by
      rw [mem_ready]
      refine ⟨by rw [hls k hks]; simp, o, h0, fun e he hb => ?_⟩
      have := hst.back k o h0 e he hb
      rw [both e.on (by omega), hls e.on (by omega)]
      simpa using this
    have hcl : Closed ops listed := by
      intro j oj hj hlj e he hb
      have hjs : j < ops.size := (Array.getElem?_eq_some_iff.1 hj).1
      have := hst.back j oj hj e he hb
      rw [both j hjs, hls j hjs] at hlj
      rw [both e.on (by omega), hls e.on (by omega)]
      simp at hlj ⊢
      omega
    have hjk : jAt J1 k0 k w := by
      unfold jAt
      split
      · exact hw ‹_›
      · trivial
    refine anyT_first hC hC2 hgx hst h0 rest.length listed a w hjk hcl (fun m hm => by rw [both m (by omega), hls m (by omega)]; simpa using hm) hr ?_
    refine mOp_mono hjk (fun a' w' hw' h' => ?_) h.2
    refine ih (k + 1) (listed.setIfInBounds k true) a' w' (fun j => by have := hl (j + 1); simpa [Nat.add_assoc, Nat.add_comm 1 j] using this) (by simp only [List.length_cons] at hk; omega) (by simpa using hs) (fun m hm => ?_) (fun hk1 => ?_) h'
    · by_cases hmk : k = m
      · subst hmk
        simp [hs, hks]
      · rw [getD_set_ne true hmk, hls m hm]
        simp only [decide_eq_decide]
        omega
    · unfold jAt at hw'
      rw [if_pos (by omega)] at hw'
      exact hw'

theorem any_of_anyT (hC : ∀ w, J1 w → C1 w w) (hC2 : ∀ w, C2 w w) (hst : StaticT k0 ops) {Q : Exit → Act → World → Prop} : ∀ (fuel : Nat) (listed : Array Bool) (a : Act) (w : World), Closed ops listed → listed.size = ops.size → ((∃ i, i < k0 ∧ i < ops.size ∧ listed.getD i false = false) → J1 w) → anyT P ops C1 C2 J1 k0 (Q .normal) fuel listed a w →
    wpAny P .any ops (Exit.then (Q .normal) bot) fuel listed a w
  | 0, _, _, _, _, _, _, h => h
  | fuel + 1, listed, a, w, hcl, hs, hJ, h => by
    refine ⟨h.1, fun i hi => ?_⟩
    obtain ⟨hiun, oi, hoi, _⟩ := mem_ready.1 hi
    have his : i < ops.size := (Array.getElem?_eq_some_iff.1 hoi).1
    have hif : listed.getD i false = false := by simpa [hs, his] using hiun
    have hjw : jAt J1 k0 i w := by
      unfold jAt
      split
      · exact hJ ⟨i, ‹_›, his, hif⟩
      · trivial
    have hcw : cAt C1 C2 k0 i w w := by
      unfold cAt
      split
      · exact hC w (hJ ⟨i, ‹_›, his, hif⟩)
      · exact hC2 w
    have h1 := mOp_mono hjw (fun a w hw h => any_of_anyT hC hC2 hst (Q := Q) fuel _ a w (hcl.set hi) (by simpa using hs) (by
      rintro ⟨m, hm, hms, hmf⟩
      by_cases hik : i < k0
      · unfold jAt at hw
        rw [if_pos hik] at hw
        exact hw
      · exfalso
        have hmi : m < i := by omega
        obtain ⟨om, hom⟩ : ∃ om, ops[m]? = some om := ⟨_, Array.getElem?_eq_getElem hms⟩
        have hb := (hst.pairs m i om oi hom hoi hmi).resolve_right (fun e => hik e.1)
        have h1 := cert_ready hst.cert hcl hms hi hb
        have h2 := getD_set_true (i := i) h1
        rw [h2] at hmf
        cases hmf) h) (h.2 i hi)
    unfold mOp at h1
    unfold wpOp
    cases ho : ops[i]? with
    | none => rw [ho] at h1; exact h1
    | some o =>
      simp only [ho] at h1 ⊢
      unfold kindOf at h1
      by_cases hw : Region.wanted o (yielded ops a.tmps) = true
      · rw [if_pos hw] at h1
        rw [if_pos hw]
        by_cases he : effB o = true
        · rw [if_pos he] at h1
          exact .inl (wp_of_eff (effS_mono (P := P) (K := fun d v w' => jAt J1 k0 i w' ∧ wpAny P .any ops (Exit.then (Q .normal) bot) fuel (listed.setIfInBounds i true) (putD a o.dst d v) w') (fun d v w h => h.2) h1))
        · rw [if_neg he] at h1
          obtain ⟨v, h2, h3⟩ := h1
          refine .inl ?_
          unfold Oper.wp
          rw [h2 w hcw]
          exact h3
      · rw [if_neg hw] at h1
        rw [if_neg hw]
        exact h1
end
theorem wp_region_tail {P : Program} {C1 C2 : World → World → Prop} {J1 : World → Prop} (hC : ∀ w, J1 w → C1 w w) (hC2 : ∀ w, C2 w w) (hgx : ∀ w w', C1 w w' ↔ J1 w') {id : Nat} {pre post : List Oper} {Q : Exit → Act → World → Prop} {a : Act} {w : World}
    (hm : P.follows .mixedOrders = true) (hB : mixTail pre.length (pre ++ post).toArray = true) (hw : J1 w.drew) (h : walk P (pre ++ post).toArray C1 J1 (endQ (walk P (pre ++ post).toArray C2 (fun _ => True) Q post)) pre a w.drew) : (Code.region id (pre ++ post).toArray true).wp P Q a w := by
  have hst := staticT_of hB
  have h0 := walkT_pre (k0 := pre.length) pre 0 a w.drew (by simp) (fun j => by simp) hw h
  have h1 := anyT_of_walk hC hC2 hgx hst (pre ++ post) 0 (Array.replicate (pre ++ post).toArray.size false) a w.drew (by simp) (by simp) (by simp) (fun m hm => by simp at hm; simp [hm]) (fun _ => hw) h0
  have h2 := any_of_anyT hC hC2 hst (Q := Q) _ _ _ _ (by
    intro j o hj hl e he hb
    have hjs : j < (pre ++ post).toArray.size := (Array.getElem?_eq_some_iff.1 hj).1
    simp at hjs hl
    simp [hjs] at hl) (by simp) (fun _ => hw) h1
  refine Code.wp_mono (Q := Exit.then (Q .normal) bot) (fun e a w h => ?_) (wp_region_any hm (by simpa using h2))
  cases e <;> first | exact h | exact h.elim
end Mix
end Go.Proofs.Ytoooldijnilpaaa
