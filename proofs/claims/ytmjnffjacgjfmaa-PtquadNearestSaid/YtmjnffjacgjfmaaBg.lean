/- A drawn region with calls and one new variable that is ordered against none of them: walked once for each place that the new variable may take. -/
import Derived.Test.YtmjnffjacgjfmaaAr1
namespace Go.Proofs.Ytmjnffjacgjfmaa
set_option linter.all false
open Go.RowKit
namespace Mix
def mixFloat (f k0 : Nat) (ops : Array Oper) : Bool :=
  certOk ops (Region.before ops) &&
  (Region.noSelect ops &&
  ((ops.zipIdx.all fun (o, i) => o.after.all fun e => !Region.binds .any e || decide (e.on < i)) &&
  ((match ops[f]? with
    | some o => o.after.all fun e => !Region.binds .any e
    | none => false) && (decide (f < k0) &&
  ((List.range ops.size).all fun i => (List.range ops.size).all fun j => !decide (i < j) || (bitOf (Region.before ops) j i ||
    (decide (j < k0) && match ops[i]?, ops[j]? with
     | some x, some y => (decide (j = f) && effB x) || (x.apart ops y && pairOk 2 x y)
     | _, _ => true)))))))
structure StaticF (f k0 : Nat) (ops : Array Oper) : Prop where
  cert : certOk ops (Region.before ops) = true
  sel : Region.noSelect ops = true
  back : ∀ (i : Nat) (o : Oper), ops[i]? = some o → ∀ e ∈ o.after, Region.binds .any e = true → e.on < i
  float : ∃ o, ops[f]? = some o ∧ ∀ e ∈ o.after, Region.binds .any e = false
  lt : f < k0
  pairs : ∀ (i j : Nat) (x y : Oper), ops[i]? = some x → ops[j]? = some y → i < j → bitOf (Region.before ops) j i = true ∨ (j < k0 ∧ ((j = f ∧ effB x = true) ∨ (x.apart ops y = true ∧ pairOk 2 x y = true)))
theorem staticF_of {f k0 : Nat} {ops : Array Oper} (h : mixFloat f k0 ops = true) : StaticF f k0 ops := by
  simp only [mixFloat, Bool.and_eq_true] at h
  obtain ⟨h1, h2, h3, hf, hl, h4⟩ := h
  refine ⟨h1, h2, fun i o ho e he hb => ?_, ?_, of_decide_eq_true hl, fun i j x y hx hy hij => ?_⟩
  · have h5 := Array.all_eq_true_iff_forall_mem.1 h3 (o, i) (by
      rw [Array.mem_iff_getElem?]
      exact ⟨i, by simp [Array.getElem?_zipIdx, ho]⟩)
    have h6 := Array.all_eq_true_iff_forall_mem.1 h5 e he
    simpa [hb] using h6
  · cases ho : ops[f]? with
    | none => rw [ho] at hf; cases hf
    | some o =>
      rw [ho] at hf
      exact ⟨o, rfl, fun e he => by simpa using Array.all_eq_true_iff_forall_mem.1 hf e he⟩
  · have hi : i < ops.size := (Array.getElem?_eq_some_iff.1 hx).1
    have hj : j < ops.size := (Array.getElem?_eq_some_iff.1 hy).1
    have h5 := List.all_eq_true.1 (List.all_eq_true.1 h4 i (List.mem_range.2 hi)) j (List.mem_range.2 hj)
    simp only [hx, hy, hij, decide_true, Bool.not_true, Bool.false_or, Bool.or_eq_true, Bool.and_eq_true, decide_eq_true_eq] at h5
    rcases h5 with h5 | ⟨h5, h6 | h6⟩
    · exact .inl h5
    · exact .inr ⟨h5, .inl h6⟩
    · exact .inr ⟨h5, .inr h6⟩
section
variable {P : Program} {ops : Array Oper} {C C1 C2 : World → World → Prop} {J J1 : World → Prop} {f k0 : Nat}
theorem pairOk2_quiet {x y : Oper} (h : pairOk 2 x y = true) (hx : effB x = true) : effB y = false := by
  cases hy : effB y with
  | false => rfl
  | true => simp [pairOk, hx, hy] at h
theorem mOp_and {i : Nat} {K K' : Act → World → Prop} {a : Act} {w : World} (hC : C w w) (hq : ∀ o, ops[i]? = some o → effB o = false) (h : mOp P ops C J i K a w) (h' : mOp P ops C J i K' a w) : mOp P ops C J i (fun a w => K a w ∧ K' a w) a w := by
  unfold mOp at *
  cases ho : ops[i]? with
  | none => rw [ho] at h h'; exact ⟨h, h'⟩
  | some o =>
    simp only [ho] at h h' ⊢
    have hk : kindOf ops o a = .still ∨ kindOf ops o a = .skip := by
      unfold kindOf
      rw [hq o ho]
      split
      · exact .inl rfl
      · exact .inr rfl
    rcases hk with hk | hk
    · rw [hk] at h h' ⊢
      obtain ⟨v, h1, h2⟩ := h
      obtain ⟨v', h1', h2'⟩ := h'
      have e := (h1 w hC).symm.trans (h1' w hC)
      injection e with e
      injection e with e
      subst e
      exact ⟨v, h1, h2, h2'⟩
    · rw [hk] at h h' ⊢
      exact ⟨h, h'⟩
/-- As mOp_swap, for a pair of which one is quiet. -/
theorem mOp_swapQ (hC : ∀ w, J w → C w w) (hgx : ∀ w w', C w w' ↔ J w') {i j : Nat} {x y : Oper} (hi : ops[i]? = some x) (hj : ops[j]? = some y)
    (hsx : ∀ cs b, x.op ≠ .select cs b) (hsy : ∀ cs b, y.op ≠ .select cs b) (hap : x.apart ops y = true ∨ y.apart ops x = true) (hq : effB y = false) {K : Act → World → Prop} {a : Act} {w : World} (hw : J w)
    (h : mOp P ops C J i (mOp P ops C J j K) a w) : mOp P ops C J j (mOp P ops C J i K) a w := by
  have hap' : x.apart ops y = true := by
    rcases hap with h | h
    · exact h
    · obtain ⟨h1, h2, h3⟩ := Oper.apart_spec h
      have k2 : ∀ d, x.dst = some d → y.dst ≠ some d := fun d hd hd' => h2 d hd' hd
      unfold Oper.apart
      cases hx : x.dst <;> cases hy : y.dst <;> simp_all
  exact mOp_swap hC (ga := 2) (fun e => by cases e) (fun _ => hgx) hi hj hsx hsy hap' (by simp [pairOk, hq]) hw h

theorem anyF_first (hC : ∀ w, J1 w → C1 w w) (hgx : ∀ w w', C1 w w' ↔ J1 w') (hst : StaticF f k0 ops) {Q : Act → World → Prop} {i : Nat} {x : Oper} (hi : ops[i]? = some x) :
    ∀ (fuel : Nat) (listed : Array Bool) (a : Act) (w : World), jAt J1 k0 i w → Closed ops listed → listed.size = ops.size → (∀ m, m < i → listed.getD m false = true) → i ∈ Region.ready .any ops listed →
      mOp P ops (cAt C1 C2 k0 i) (jAt J1 k0 i) i (anyT P ops C1 C2 J1 k0 Q fuel (listed.setIfInBounds i true)) a w →
      (i < f → effB x = true → listed.getD f true = false → mOp P ops C1 J1 f (anyT P ops C1 C2 J1 k0 Q fuel (listed.setIfInBounds f true)) a w) → anyT P ops C1 C2 J1 k0 Q (fuel + 1) listed a w := by
  have his : i < ops.size := (Array.getElem?_eq_some_iff.1 hi).1
  obtain ⟨of, hof, hfree⟩ := hst.float
  have hfs : f < ops.size := (Array.getElem?_eq_some_iff.1 hof).1
  intro fuel
  induction fuel with
  | zero =>
    intro listed a w hw hcl hsz hlow hr H _
    refine ⟨fun h => (by rw [h] at hr; cases hr), fun j hj => ?_⟩
    by_cases hji : j = i
    · subst hji; exact H
    · obtain ⟨a', w', h0, _⟩ := mOp_witness hw H
      have := ready_mono hj hji
      rw [h0] at this
      cases this
  | succ fuel ih =>
    intro listed a w hw hcl hsz hlow hr H Hf
    refine ⟨fun h => (by rw [h] at hr; cases hr), fun j hj => ?_⟩
    by_cases hji : j = i
    · subst hji; exact H
    · obtain ⟨hjun, y, hy, hall⟩ := mem_ready.1 hj
      have hjs : j < ops.size := (Array.getElem?_eq_some_iff.1 hy).1
      have hij : i < j := by
        rcases Nat.lt_or_ge i j with h | h
        · exact h
        · have h1 := hlow j (by omega)
          rcases Nat.lt_or_ge j listed.size with h' | h'
          · simp [h'] at hjun h1; rw [hjun] at h1; cases h1
          · simp [Array.getElem?_eq_none h'] at h1
      have hiun := (mem_ready.1 hr).1
      have hilt : i < listed.size := by
        rcases Nat.lt_or_ge i listed.size with h' | h'
        · exact h'
        · simp [Array.getElem?_eq_none h'] at hiun
      have hnb : ¬ bitOf (Region.before ops) j i = true := fun hb => by
        have h1 := cert_ready hst.cert hcl his hj hb
        simp [hilt] at hiun h1
        rw [hiun] at h1
        cases h1
      obtain ⟨hk, hor⟩ := (hst.pairs i j x y hi hy hij).resolve_left hnb
      have ci : cAt C1 C2 k0 i = C1 := by unfold cAt; rw [if_pos (by omega)]
      have ji : jAt J1 k0 i = J1 := by unfold jAt; rw [if_pos (by omega)]
      have cj : cAt C1 C2 k0 j = C1 := by unfold cAt; rw [if_pos hk]
      have jj : jAt J1 k0 j = J1 := by unfold jAt; rw [if_pos hk]
      rcases hor with ⟨rfl, hex⟩ | ⟨hap, hpk⟩
      · rw [cj, jj]
        exact Hf hij hex hjun
      rw [ci, ji] at H
      rw [ji] at hw
      have sx := fun cs b => Region.noSelect_spec hst.sel i x cs b hi
      have sy := fun cs b => Region.noSelect_spec hst.sel j y cs b hy
      have sf := fun cs b => Region.noSelect_spec hst.sel f of cs b hof
      have H2 : mOp P ops C1 J1 i (mOp P ops C1 J1 j (anyT P ops C1 C2 J1 k0 Q fuel ((listed.setIfInBounds i true).setIfInBounds j true))) a w :=
        mOp_mono hw (fun a' w' _ h => by have := h.2 j (ready_mono hj hji); rw [cj, jj] at this; exact this) H
      have H3 := mOp_swap hC (ga := 2) (fun e => by cases e) (fun _ => hgx) hi hy sx sy hap hpk hw H2
      rw [cj, jj]
      by_cases hcase : i < f ∧ effB x = true ∧ listed.getD f true = false
      · obtain ⟨hif, hex, hfun⟩ := hcase
        have hyq := pairOk2_quiet hpk hex
        by_cases hjf : j = f
        · subst hjf
          exact Hf hif hex hfun
        have hflt : listed.getD f false = false := by
          simpa [hsz, hfs] using hfun
        have F1 := Hf hif hex hfun
        have F2 : mOp P ops C1 J1 f (mOp P ops C1 J1 j (anyT P ops C1 C2 J1 k0 Q fuel ((listed.setIfInBounds f true).setIfInBounds j true))) a w :=
          mOp_mono hw (fun a' w' _ h => by have := h.2 j (ready_mono hj hjf); rw [cj, jj] at this; exact this) F1
        have hapf : of.apart ops y = true ∨ y.apart ops of = true := by
          rcases Nat.lt_or_ge f j with hfj | hfj
          · have hnb2 : ¬ bitOf (Region.before ops) j f = true := fun hb => by
              have h1 := cert_ready hst.cert hcl hfs hj hb
              rw [h1] at hflt
              cases hflt
            rcases (hst.pairs f j of y hof hy hfj).resolve_left hnb2 with ⟨_, ⟨e, _⟩ | ⟨h1, _⟩⟩
            · exact absurd e hjf
            · exact .inl h1
          · have hnb2 : ¬ bitOf (Region.before ops) f j = true := fun hb => by
              obtain ⟨o', ho', e, he, hbi, _⟩ := cert_spec hst.cert hfs hjs hb
              rw [hof] at ho'
              cases ho'
              rw [hfree e he] at hbi
              cases hbi
            rcases (hst.pairs j f y of hy hof (by omega)).resolve_left hnb2 with ⟨_, ⟨_, e⟩ | ⟨h1, _⟩⟩
            · rw [hyq] at e; cases e
            · exact .inr h1
        have F3 := mOp_swapQ hC hgx hof hy sf sy hapf hyq hw F2
        have both := mOp_and (hC w hw) (fun o ho => by rw [hy] at ho; cases ho; exact hyq) H3 F3
        refine mOp_mono hw (fun a' w' hw' h => ih (listed.setIfInBounds j true) a' w' (by rw [ji]; exact hw') (hcl.set hj) (by simpa using hsz) (fun m hm => getD_set_true (hlow m hm)) (ready_mono hr (Ne.symm hji)) ?_ (fun _ _ _ => ?_)) both
        · rw [ci, ji, Array.setIfInBounds_comm _ _ hji]
          exact h.1
        · rw [Array.setIfInBounds_comm _ _ hjf]
          exact h.2
      · refine mOp_mono hw (fun a' w' hw' h => ih (listed.setIfInBounds j true) a' w' (by rw [ji]; exact hw') (hcl.set hj) (by simpa using hsz) (fun m hm => getD_set_true (hlow m hm)) (ready_mono hr (Ne.symm hji)) ?_ (fun h1 h2 h3 => ?_)) H3
        · rw [ci, ji, Array.setIfInBounds_comm _ _ hji]
          exact h
        · exfalso
          refine hcase ⟨h1, h2, ?_⟩
          by_cases hjf : j = f
          · subst hjf; exact hjun
          · rw [getD_set_ne true hjf] at h3
            exact h3
/-- The walk in the order of the text behind the new variable. -/
def walkG (P : Program) (ops : Array Oper) (C1 C2 : World → World → Prop) (J1 : World → Prop) (f k0 : Nat) (Q : Act → World → Prop) : Nat → List Oper → Act → World → Prop
  | _, [], a, w => Q a w
  | k, o :: rest, a, w => ops[k]? = some o ∧ if k = f then walkG P ops C1 C2 J1 f k0 Q (k + 1) rest a w else mOp P ops (cAt C1 C2 k0 k) (jAt J1 k0 k) k (walkG P ops C1 C2 J1 f k0 Q (k + 1) rest) a w
/-- The walk ahead of it: it may come at each act. -/
def walkF (P : Program) (ops : Array Oper) (C1 C2 : World → World → Prop) (J1 : World → Prop) (f k0 : Nat) (Q : Act → World → Prop) : Nat → List Oper → Act → World → Prop
  | _, [], a, w => Q a w
  | k, o :: rest, a, w => ops[k]? = some o ∧ mOp P ops (cAt C1 C2 k0 k) (jAt J1 k0 k) k (if k = f then walkG P ops C1 C2 J1 f k0 Q (k + 1) rest else walkF P ops C1 C2 J1 f k0 Q (k + 1) rest) a w ∧
      (k < f → effB o = true → mOp P ops C1 J1 f (walkG P ops C1 C2 J1 f k0 Q k (o :: rest)) a w)
theorem listed_facts {ops : Array Oper} {listed : Array Bool} {f k : Nat} {fd : Bool} (hst : StaticF f k0 ops) (hs : listed.size = ops.size) (hls : ∀ m, m < ops.size → listed.getD m true = decide (m < k ∨ (fd = true ∧ m = f))) :
    Closed ops listed ∧ (∀ m, m < k → m < ops.size → listed.getD m false = true) ∧ (∀ o, ops[k]? = some o → (fd = true → k ≠ f) → k ∈ Region.ready .any ops listed) := by
  have both : ∀ m, m < ops.size → listed.getD m false = listed.getD m true := fun m hm => by simp [hs, hm]
  obtain ⟨of, hof, hfree⟩ := hst.float
  refine ⟨fun j oj hj hlj e he hb => ?_, fun m hm hms => ?_, fun o ho hne => ?_⟩
  · have hjs : j < ops.size := (Array.getElem?_eq_some_iff.1 hj).1
    have := hst.back j oj hj e he hb
    rw [both j hjs, hls j hjs] at hlj
    rw [both e.on (by omega), hls e.on (by omega)]
    simp at hlj ⊢
    rcases hlj with h | ⟨_, rfl⟩
    · exact .inl (by omega)
    · rw [hj] at hof
      cases hof
      rw [hfree e he] at hb
      cases hb
  · rw [both m hms, hls m hms]
    simp [hm]
  · have hks : k < ops.size := (Array.getElem?_eq_some_iff.1 ho).1
    rw [mem_ready]
    refine ⟨?_, o, ho, fun e he hb => ?_⟩
    · rw [hls k hks]
      simp
      exact hne
    · have := hst.back k o ho e he hb
      rw [both e.on (by omega), hls e.on (by omega)]
      simp [this]
theorem anyG_of_walk (hC : ∀ w, J1 w → C1 w w) (hgx : ∀ w w', C1 w w' ↔ J1 w') (hst : StaticF f k0 ops) {Q : Act → World → Prop} :
    ∀ (l : List Oper) (k : Nat) (listed : Array Bool) (a : Act) (w : World), (∀ j, l[j]? = ops[k + j]?) → k + l.length = ops.size → listed.size = ops.size →
      (∀ m, m < ops.size → listed.getD m true = decide (m < k ∨ (true = true ∧ m = f))) → (k < k0 → J1 w) → walkG P ops C1 C2 J1 f k0 Q k l a w → anyT P ops C1 C2 J1 k0 Q (if k ≤ f then l.length - 1 else l.length) listed a w := by
  obtain ⟨of, hof, hfree⟩ := hst.float
  have hfs : f < ops.size := (Array.getElem?_eq_some_iff.1 hof).1
  have hlt := hst.lt
  intro l
  induction l with
  | nil =>
    intro k listed a w hl hk hs hls hw h
    simp only [List.length_nil, Nat.add_zero] at hk
    have e : (if k ≤ f then ([] : List Oper).length - 1 else ([] : List Oper).length) = 0 := by simp
    rw [e]
    refine ⟨?_, h⟩
    rw [List.eq_nil_iff_forall_not_mem]
    intro j hj
    obtain ⟨h1, o, ho, _⟩ := mem_ready.1 hj
    have hjs : j < ops.size := (Array.getElem?_eq_some_iff.1 ho).1
    rw [hls j hjs] at h1
    simp at h1
    omega
  | cons o rest ih =>
    intro k listed a w hl hk hs hls hw h
    have h0 : ops[k]? = some o := by simpa using (hl 0).symm
    have hks : k < ops.size := (Array.getElem?_eq_some_iff.1 h0).1
    have hl' : ∀ j, rest[j]? = ops[k + 1 + j]? := fun j => by have := hl (j + 1); simpa [Nat.add_assoc, Nat.add_comm 1 j] using this
    have hk' : k + 1 + rest.length = ops.size := by simp only [List.length_cons] at hk; omega
    unfold walkG at h
    by_cases hkf : k = f
    · rw [if_pos hkf] at h
      have e : (if k ≤ f then (o :: rest).length - 1 else (o :: rest).length) = if k + 1 ≤ f then rest.length - 1 else rest.length := by
        rw [if_pos (by omega), if_neg (by omega)]
        simp
      rw [e]
      refine ih (k + 1) listed a w hl' hk' hs (fun m hm => ?_) (fun _ => hw (by omega)) h.2
      rw [hls m hm, decide_eq_decide]
      simp only [true_and]
      omega
    · rw [if_neg hkf] at h
      obtain ⟨hcl, hlow, hrd⟩ := listed_facts hst hs hls
      have hjk : jAt J1 k0 k w := by
        unfold jAt
        split
        · exact hw ‹_›
        · trivial
      have e : (if k ≤ f then (o :: rest).length - 1 else (o :: rest).length) = (if k + 1 ≤ f then rest.length - 1 else rest.length) + 1 := by
        simp only [List.length_cons] at hk ⊢
        split <;> split <;> omega
      rw [e]
      refine anyF_first hC hgx hst h0 _ listed a w hjk hcl hs (fun m hm => hlow m hm (by omega)) (hrd o h0 fun _ => hkf) ?_ (fun _ _ h3 => ?_)
      · refine mOp_mono hjk (fun a' w' hw' h' => ?_) h.2
        refine ih (k + 1) (listed.setIfInBounds k true) a' w' hl' hk' (by simpa using hs) (fun m hm => ?_) (fun hk1 => ?_) h'
        · by_cases hmk : k = m
          · subst hmk
            simp [hs, hks]
          · rw [getD_set_ne true hmk, hls m hm]
            rw [decide_eq_decide]
            simp only [true_and]
            omega
        · unfold jAt at hw'
          rw [if_pos (by omega)] at hw'
          exact hw'
      · rw [hls f hfs] at h3
        simp at h3
theorem anyF_of_walk (hC : ∀ w, J1 w → C1 w w) (hgx : ∀ w w', C1 w w' ↔ J1 w') (hst : StaticF f k0 ops) {Q : Act → World → Prop} :
    ∀ (l : List Oper) (k : Nat) (listed : Array Bool) (a : Act) (w : World), (∀ j, l[j]? = ops[k + j]?) → k + l.length = ops.size → listed.size = ops.size → k ≤ f →
      (∀ m, m < ops.size → listed.getD m true = decide (m < k)) → J1 w → walkF P ops C1 C2 J1 f k0 Q k l a w → anyT P ops C1 C2 J1 k0 Q l.length listed a w := by
  obtain ⟨of, hof, hfree⟩ := hst.float
  have hfs : f < ops.size := (Array.getElem?_eq_some_iff.1 hof).1
  have hlt := hst.lt
  intro l
  induction l with
  | nil =>
    intro k listed a w hl hk hs hkf hls hw h
    simp only [List.length_nil, Nat.add_zero] at hk
    omega
  | cons o rest ih =>
    intro k listed a w hl hk hs hkf hls hw h
    have h0 : ops[k]? = some o := by simpa using (hl 0).symm
    have hks : k < ops.size := (Array.getElem?_eq_some_iff.1 h0).1
    have hl' : ∀ j, rest[j]? = ops[k + 1 + j]? := fun j => by have := hl (j + 1); simpa [Nat.add_assoc, Nat.add_comm 1 j] using this
    have hk' : k + 1 + rest.length = ops.size := by simp only [List.length_cons] at hk; omega
    have hls' : ∀ m, m < ops.size → listed.getD m true = decide (m < k ∨ (false = true ∧ m = f)) := fun m hm => by rw [hls m hm, decide_eq_decide]; simp
    obtain ⟨hcl, hlow, hrd⟩ := listed_facts hst hs hls'
    have hjk : jAt J1 k0 k w := by
      unfold jAt
      split
      · exact hw
      · trivial
    have jk : jAt J1 k0 k = J1 := by unfold jAt; rw [if_pos (by omega)]
    have set1 : ∀ m, m < ops.size → (listed.setIfInBounds k true).getD m true = decide (m < k + 1) := fun m hm => by
      by_cases hmk : k = m
      · subst hmk
        simp [hs, hks]
      · rw [getD_set_ne true hmk, hls m hm, decide_eq_decide]
        omega
    unfold walkF at h
    obtain ⟨_, h1, h2⟩ := h
    refine anyF_first hC hgx hst h0 rest.length listed a w hjk hcl hs (fun m hm => hlow m hm (by omega)) (hrd o h0 (by simp)) ?_ (fun hlt he _ => ?_)
    · refine mOp_mono hjk (fun a' w' hw' h' => ?_) h1
      rw [jk] at hw'
      by_cases hkf' : k = f
      · rw [if_pos hkf'] at h'
        have := anyG_of_walk hC hgx hst rest (k + 1) (listed.setIfInBounds k true) a' w' hl' hk' (by simpa using hs) (fun m hm => by
          rw [set1 m hm, decide_eq_decide]
          omega) (fun _ => hw') h'
        rw [if_neg (by omega)] at this
        exact this
      · rw [if_neg hkf'] at h'
        exact ih (k + 1) (listed.setIfInBounds k true) a' w' hl' hk' (by simpa using hs) (by omega) set1 hw' h'
    · refine mOp_mono hw (fun a' w' hw' h' => ?_) (h2 hlt he)
      have := anyG_of_walk hC hgx hst (o :: rest) k (listed.setIfInBounds f true) a' w' hl hk (by simpa using hs) (fun m hm => by
        by_cases hmf : f = m
        · subst hmf
          simp [hs, hfs]
        · rw [getD_set_ne true hmf, hls m hm, decide_eq_decide]
          simp
          omega) (fun _ => hw') h'
      rw [if_pos (by omega)] at this
      simpa using this
theorem any_of_anyF (hC : ∀ w, J1 w → C1 w w) (hC2 : ∀ w, C2 w w) (hst : StaticF f k0 ops) {Q : Exit → Act → World → Prop} : ∀ (fuel : Nat) (listed : Array Bool) (a : Act) (w : World), Closed ops listed → listed.size = ops.size → ((∃ i, i < k0 ∧ i < ops.size ∧ listed.getD i false = false) → J1 w) → anyT P ops C1 C2 J1 k0 (Q .normal) fuel listed a w →
    wpAny P .any ops (Exit.then (Q .normal) bot) fuel listed a w
  | 0, _, _, _, _, _, _, h => h
  | fuel + 1, listed, a, w, hcl, hs, hJ, h => by
    have hlt := hst.lt
    refine ⟨h.1, fun i hi => ?_⟩
    obtain ⟨hiun, oi, hoi, _⟩ := mem_ready.1 hi
    have his : i < ops.size := (Array.getElem?_eq_some_iff.1 hoi).1
    have hif : listed.getD i false = false := by simpa [hs, his] using hiun
    have hjw : jAt J1 k0 i w := by
      unfold jAt
      split
      · exact hJ ⟨i, ‹_›, his, hif⟩
      · trivial
    have hcw : cAt C1 C2 k0 i w w := by
      unfold cAt
      split
      · exact hC w (hJ ⟨i, ‹_›, his, hif⟩)
      · exact hC2 w
    have h1 := mOp_mono hjw (fun a w hw h => any_of_anyF hC hC2 hst (Q := Q) fuel _ a w (hcl.set hi) (by simpa using hs) (by
      rintro ⟨m, hm, hms, hmf⟩
      by_cases hik : i < k0
      · unfold jAt at hw
        rw [if_pos hik] at hw
        exact hw
      · exfalso
        have hmi : m < i := by omega
        obtain ⟨om, hom⟩ : ∃ om, ops[m]? = some om := ⟨_, Array.getElem?_eq_getElem hms⟩
        have hb := (hst.pairs m i om oi hom hoi hmi).resolve_right (fun e => hik e.1)
        have h1 := cert_ready hst.cert hcl hms hi hb
        have h2 := getD_set_true (i := i) h1
        rw [h2] at hmf
        cases hmf) h) (h.2 i hi)
    unfold mOp at h1
    unfold wpOp
    cases ho : ops[i]? with
    | none => rw [ho] at h1; exact h1
    | some o =>
      simp only [ho] at h1 ⊢
      unfold kindOf at h1
      by_cases hw : Region.wanted o (yielded ops a.tmps) = true
      · rw [if_pos hw] at h1
        rw [if_pos hw]
        by_cases he : effB o = true
        · rw [if_pos he] at h1
          exact .inl (wp_of_eff (effS_mono (P := P) (K := fun d v w' => jAt J1 k0 i w' ∧ wpAny P .any ops (Exit.then (Q .normal) bot) fuel (listed.setIfInBounds i true) (putD a o.dst d v) w') (fun d v w h => h.2) h1))
        · rw [if_neg he] at h1
          obtain ⟨v, h2, h3⟩ := h1
          refine .inl ?_
          unfold Oper.wp
          rw [h2 w hcw]
          exact h3
      · rw [if_neg hw] at h1
        rw [if_neg hw]
        exact h1
/-- The walk as a list: the new variable may come ahead of each act of A. -/
def walkB (P : Program) (ops : Array Oper) (C : World → World → Prop) (J : World → Prop) (Q : Exit → Act → World → Prop) (of : Oper) (B : List Oper) : List Oper → Act → World → Prop
  | [], a, w => stepW P ops C J (walk P ops C J Q B) of a w
  | o :: A, a, w => stepW P ops C J (walkB P ops C J Q of B A) o a w ∧ (effB o = true → stepW P ops C J (walk P ops C J Q (o :: A ++ B)) of a w)
theorem stepS_mono' {k : Kind} {s : Sem Next} {w : World} {K K' : Option Deferred → Value → World → Prop} (hK : ∀ d v w, K d v w → K' d v w) (h : stepS P C J k s w K) : stepS P C J k s w K' := by
  cases k with
  | skip => exact hK _ _ _ h
  | eff =>
    change effS P s w (fun d v w' => J w' ∧ K d v w') at h
    change effS P s w (fun d v w' => J w' ∧ K' d v w')
    exact effS_mono (fun d v w h => ⟨h.1, hK _ _ _ h.2⟩) h
  | still => obtain ⟨v, h1, h2⟩ := h; exact ⟨v, h1, hK _ _ _ h2⟩
theorem mOp_mono' {i : Nat} {K K' : Act → World → Prop} {a : Act} {w : World} (hK : ∀ a w, K a w → K' a w) (h : mOp P ops C J i K a w) : mOp P ops C J i K' a w := by
  unfold mOp at *
  cases ho : ops[i]? with
  | none => rw [ho] at h; exact hK _ _ h
  | some o => rw [ho] at h; exact stepS_mono' (fun d v w' h => hK _ _ h) h
theorem walkG_post {Q : Exit → Act → World → Prop} : ∀ (post : List Oper) (k : Nat) (a : Act) (w : World), f < k → walkT P ops C1 C2 J1 k0 (Q .normal) k post a w → walkG P ops C1 C2 J1 f k0 (Q .normal) k post a w
  | [], k, a, w, _, h => h
  | o :: post, k, a, w, hk, h => by
    unfold walkT at h
    unfold walkG
    rw [if_neg (by omega)]
    exact ⟨h.1, mOp_mono' (fun a w h => walkG_post post (k + 1) a w (by omega) h) h.2⟩
section
variable {Q : Exit → Act → World → Prop} {of : Oper} {B post : List Oper}
theorem shift1 {o : Oper} {l : List Oper} {k : Nat} (hl : ∀ j, (o :: l)[j]? = ops[k + j]?) : ops[k]? = some o ∧ ∀ j, l[j]? = ops[k + 1 + j]? := ⟨by simpa using (hl 0).symm, fun j => by have := hl (j + 1); simpa [Nat.add_assoc, Nat.add_comm 1 j] using this⟩
theorem walkG_mid (hk0 : f + 1 + B.length = k0) : ∀ (A : List Oper) (k : Nat) (a : Act) (w : World), k + A.length = f → (∀ j, (A ++ (of :: (B ++ post)))[j]? = ops[k + j]?) → J1 w →
    walk P ops C1 J1 (endQ (walk P ops C2 (fun _ => True) Q post)) (A ++ B) a w → walkG P ops C1 C2 J1 f k0 (Q .normal) k (A ++ (of :: (B ++ post))) a w
  | [], k, a, w, hk, hl, hw, h => by
    simp only [List.length_nil, Nat.add_zero] at hk
    obtain ⟨h0, h1⟩ := shift1 hl
    simp only [List.nil_append]
    unfold walkG
    rw [if_pos hk]
    exact ⟨h0, walkG_post _ (k + 1) a w (by omega) (walkT_pre B (k + 1) a w (by omega) h1 hw h)⟩
  | o :: A, k, a, w, hk, hl, hw, h => by
    simp only [List.length_cons] at hk
    rw [List.cons_append] at hl h ⊢
    obtain ⟨h0, h1⟩ := shift1 hl
    unfold walkG
    rw [if_neg (by omega), show cAt C1 C2 k0 k = C1 by unfold cAt; rw [if_pos (by omega)], show jAt J1 k0 k = J1 by unfold jAt; rw [if_pos (by omega)]]
    exact ⟨h0, mOp_mono hw (fun a w hw' h => walkG_mid hk0 A (k + 1) a w (by omega) h1 hw' h) (mOp_of_step h0 (walk_step h))⟩
theorem walkF_pre (hk0 : f + 1 + B.length = k0) (hof : ops[f]? = some of) : ∀ (A : List Oper) (k : Nat) (a : Act) (w : World), k + A.length = f → (∀ j, (A ++ (of :: (B ++ post)))[j]? = ops[k + j]?) → J1 w →
    walkB P ops C1 J1 (endQ (walk P ops C2 (fun _ => True) Q post)) of B A a w → walkF P ops C1 C2 J1 f k0 (Q .normal) k (A ++ (of :: (B ++ post))) a w
  | [], k, a, w, hk, hl, hw, h => by
    simp only [List.length_nil, Nat.add_zero] at hk
    obtain ⟨h0, h1⟩ := shift1 hl
    simp only [List.nil_append]
    unfold walkF
    rw [if_pos hk, show cAt C1 C2 k0 k = C1 by unfold cAt; rw [if_pos (by omega)], show jAt J1 k0 k = J1 by unfold jAt; rw [if_pos (by omega)]]
    exact ⟨h0, mOp_mono hw (fun a w hw' h => walkG_post _ (k + 1) a w (by omega) (walkT_pre B (k + 1) a w (by omega) h1 hw' h)) (mOp_of_step h0 h), fun h => absurd h (by omega)⟩
  | o :: A, k, a, w, hk, hl, hw, h => by
    have hk' := hk
    simp only [List.length_cons] at hk
    have hl' := hl
    rw [List.cons_append] at hl ⊢
    obtain ⟨h0, h1⟩ := shift1 hl
    unfold walkF
    rw [if_neg (by omega), show cAt C1 C2 k0 k = C1 by unfold cAt; rw [if_pos (by omega)], show jAt J1 k0 k = J1 by unfold jAt; rw [if_pos (by omega)]]
    exact ⟨h0, mOp_mono hw (fun a w hw' h => walkF_pre hk0 hof A (k + 1) a w (by omega) h1 hw' h) (mOp_of_step h0 h.1), fun _ he =>
      mOp_mono hw (fun a w hw' h => walkG_mid hk0 (o :: A) k a w hk' hl' hw' h) (mOp_of_step hof (h.2 he))⟩
end
end
theorem wp_region_float {P : Program} {C1 C2 : World → World → Prop} {J1 : World → Prop} (hC : ∀ w, J1 w → C1 w w) (hC2 : ∀ w, C2 w w) (hgx : ∀ w w', C1 w w' ↔ J1 w') {id : Nat} {A B post : List Oper} {of : Oper} {Q : Exit → Act → World → Prop} {a : Act} {w : World}
    (hm : P.follows .mixedOrders = true) (hB : mixFloat A.length (A.length + 1 + B.length) (A ++ (of :: (B ++ post))).toArray = true) (hw : J1 w.drew)
    (h : walkB P (A ++ (of :: (B ++ post))).toArray C1 J1 (endQ (walk P (A ++ (of :: (B ++ post))).toArray C2 (fun _ => True) Q post)) of B A a w.drew) : (Code.region id (A ++ (of :: (B ++ post))).toArray true).wp P Q a w := by
  have hst := staticF_of hB
  have h0 := walkF_pre (f := A.length) (k0 := A.length + 1 + B.length) rfl (by simp) A 0 a w.drew (by simp) (fun j => by simp) hw h
  have h1 := anyF_of_walk hC hgx hst (A ++ (of :: (B ++ post))) 0 (Array.replicate (A ++ (of :: (B ++ post))).toArray.size false) a w.drew (by simp) (by simp) (by simp) (Nat.zero_le _) (fun m hm => by simp at hm; simp [hm]) hw h0
  have h2 := any_of_anyF hC hC2 hst (Q := Q) _ _ _ _ (by
    intro j o hj hl e he hb
    have hjs : j < (A ++ (of :: (B ++ post))).toArray.size := (Array.getElem?_eq_some_iff.1 hj).1
    simp at hjs hl
    simp [hjs] at hl) (by simp) (fun _ => hw) h1
  refine Code.wp_mono (Q := Exit.then (Q .normal) bot) (fun e a w h => ?_) (wp_region_any hm (by simpa using h2))
  cases e <;> first | exact h | exact h.elim
end Mix
namespace AM
def ystep (P : Program) (N : Nat) (ops : List Oper) (H0 : List Bk) (o : Oper) (K : List (Nat × V) → St → Prop) (old : List (Nat × V)) (s : St) : Prop := match o.guard with
    | none => yop P N ops H0 o old s K
    | some (j, want) => match (ops[j]?).bind (·.dst) with
      | some t => match getF t s.F with
        | some (.v (.sc (.bool b))) => gd b want (yop P N ops H0 o old ⟨setF t (.v (.sc (.bool want))) s.F, s.H⟩ K) (putK N o.dst (.v (.tup [])) ⟨setF t (.v (.sc (.bool (!want)))) s.F, s.H⟩ (K (dropO o.dst old)))
        | some (.v (.tup [])) => putK N o.dst (.v (.tup [])) s (K (dropO o.dst old))
        | _ => False
      | none => False
/-- The new variable 'of' may come ahead of each act of A. -/
def yopsB (P : Program) (N : Nat) (ops : List Oper) (H0 : List Bk) (of : Oper) (B : List Oper) (K : St → Prop) : List Oper → List (Nat × V) → St → Prop
  | [], old, s => ystep P N ops H0 of (yops P N ops H0 B K) old s
  | o :: A, old, s => ystep P N ops H0 o (yopsB P N ops H0 of B K A) old s ∧ (Mix.effB o = true → ystep P N ops H0 of (yops P N ops H0 (o :: A ++ B) K) old s)
section
variable {P : Program} {N : Nat} {ops A B : List Oper} {H0 H : List Bk} {F : Fr} {o of : Oper} {old : List (Nat × V)} {K : St → Prop} {K' : List (Nat × V) → St → Prop}
theorem ystep' : ystep P N ops H0 o K' old ⟨F, H⟩ = match o.guard with
    | none => yop P N ops H0 o old ⟨F, H⟩ K'
    | some (j, want) => match (ops[j]?).bind (·.dst) with
      | some t => match getF t F with
        | some (.v (.sc (.bool b))) => gd b want (yop P N ops H0 o old ⟨setF t (.v (.sc (.bool want))) F, H⟩ K') (putK N o.dst (.v (.tup [])) ⟨setF t (.v (.sc (.bool (!want)))) F, H⟩ (K' (dropO o.dst old)))
        | some (.v (.tup [])) => putK N o.dst (.v (.tup [])) ⟨F, H⟩ (K' (dropO o.dst old))
        | _ => False
      | none => False := rfl
theorem yopsB_nil' : yopsB P N ops H0 of B K [] old ⟨F, H⟩ = ystep P N ops H0 of (yops P N ops H0 B K) old ⟨F, H⟩ := rfl
theorem yopsB_cons' : yopsB P N ops H0 of B K (o :: A) old ⟨F, H⟩ = (ystep P N ops H0 o (yopsB P N ops H0 of B K A) old ⟨F, H⟩ ∧ (Mix.effB o = true → ystep P N ops H0 of (yops P N ops H0 (o :: A ++ B) K) old ⟨F, H⟩)) := rfl
end
section
variable {P : Program} {c c0 : Cx} {N : Nat} {s : St} {a : Act} {w w0 : World} {H0 : List Bk} {old : List (Nat × V)}
theorem ystep_walk {ops : Array Oper} {o : Oper} {K : List (Nat × V) → St → Prop} {KQ : Act → World → Prop} (h : Sim c N s a w) (p : PastY c0 H0 w0 old c a w) (hk : ystep P N ops.toList H0 o K old s)
    (hq : ∀ c' s' a' w' old', Sim c' N s' a' w' → PastY c0 H0 w0 old' c' a' w' → K old' s' → KQ a' w') : Mix.stepW P ops (fun _ w' => JY c0 H0 w0 w') (fun w' => JY c0 H0 w0 w') KQ o a w := by
  have cases' : (∃ s1 : St, Sim c N s1 a w ∧ Region.wanted o (yielded ops a.tmps) = true ∧ yop P N ops.toList H0 o old s1 K) ∨
      (∃ s1 : St, Sim c N s1 a w ∧ Region.wanted o (yielded ops a.tmps) = false ∧ putK N o.dst (.v (.tup [])) s1 (K (dropO o.dst old))) := by
    unfold ystep at hk
    cases hg : o.guard with
    | none => rw [hg] at hk; exact .inl ⟨s, h, by simp [Region.wanted, hg], hk⟩
    | some q =>
      obtain ⟨j, want⟩ := q
      rw [hg] at hk
      simp only at hk
      cases hd : (ops.toList[j]?).bind (·.dst) with
      | none => rw [hd] at hk; exact hk.elim
      | some t =>
        rw [hd] at hk
        simp only at hk
        have hd' : (ops[j]?).bind (·.dst) = some t := by simpa using hd
        split at hk
        · rename_i b hb
          obtain ⟨v, hv, hr⟩ := h.fr t _ (mem_getF hb)
          have e : v = .bool b := Rel.exact hr rfl
          subst e
          have hy := yielded_of hd' hv
          cases hbw : b == want with
          | true =>
            have e : b = want := by simpa using hbw
            subst e
            exact .inl ⟨_, h.lit hb, by simp [Region.wanted, hg, hy, boolOf], hk.1 rfl⟩
          | false =>
            have e : b = !want := by cases b <;> cases want <;> simp_all
            subst e
            exact .inr ⟨_, h.lit hb, by simp [Region.wanted, hg, hy, boolOf], hk.2 rfl⟩
        · rename_i hb
          obtain ⟨v, hv, hr⟩ := h.fr t _ (mem_getF hb)
          have e : v = .tuple #[] := Rel.exact hr rfl
          subst e
          have hy := yielded_of hd' hv
          exact .inr ⟨s, h, by simp [Region.wanted, hg, hy, boolOf], hk⟩
        · exact hk.elim
  unfold Mix.stepW
  rcases cases' with ⟨s1, h, hw, hk⟩ | ⟨s1, h, hw, hk⟩
  · obtain ⟨d1, d2⟩ := yop_does h p hk
    by_cases he : Mix.effB o = true
    · rw [if_pos he]
      refine wpList_step fun K' hK' => ?_
      rw [if_pos hw]
      refine Mix.wp_of_eff (Mix.effS_mono (fun d v w' h2 => ?_) (Mix.eff_of_wp (d1 he)))
      obtain ⟨g1, c', s', old', k1, k2, k3⟩ := h2
      exact hK' _ _ (wpList_nil ⟨g1, hq _ _ _ _ _ k1 k2 k3⟩)
    · rw [if_neg he]
      have he' : Mix.effB o = false := by simpa using he
      obtain ⟨v, hv, c', s', old', k1, k2, k3⟩ := d2 he'
      refine wpQuiet_step fun K' hK' => ?_
      rw [if_pos hw]
      refine ⟨v, fun w' hw' => ?_, hK' _ (wpQuiet_nil (hq _ _ _ _ _ k1 k2 k3))⟩
      unfold Oper.quietAt
      rw [hv w' hw']
      exact ⟨rfl, rfl⟩
  · obtain ⟨c', s', old', k1, k2, k3⟩ := put_yp' (v := undef) h p hk (fun _ _ => Rel.tup (vs := #[]) .nil)
    have h4 := hq _ _ _ _ _ k1 k2 k3
    by_cases he : Mix.effB o = true
    · rw [if_pos he]
      refine wpList_step fun K' hK' => ?_
      rw [if_neg (by rw [hw]; simp)]
      exact hK' _ _ (wpList_nil ⟨k2.j, h4⟩)
    · rw [if_neg he]
      refine wpQuiet_step fun K' hK' => ?_
      rw [if_neg (by rw [hw]; simp)]
      exact hK' _ (wpQuiet_nil h4)
theorem yopsB_walk {ops : Array Oper} {Q : Exit → Act → World → Prop} {of : Oper} {B : List Oper} {K : St → Prop} (hq : ∀ c' s' a' w', Sim c' N s' a' w' → Ext c0 w0 c' w' → K s' → Q .normal a' w') : ∀ {A : List Oper} {s : St} {c : Cx} {a : Act} {w : World} {old : List (Nat × V)}, Sim c N s a w → PastY c0 H0 w0 old c a w → yopsB P N ops.toList H0 of B K A old s →
    Mix.walkB P ops (fun _ w' => JY c0 H0 w0 w') (fun w' => JY c0 H0 w0 w') Q of B A a w
  | [], s, c, a, w, old, h, p, hk => ystep_walk h p hk fun c' s' a' w' old' k1 k2 k3 => yops_walk k1 k2 k3 hq
  | o :: A, s, c, a, w, old, h, p, hk => ⟨ystep_walk h p hk.1 fun c' s' a' w' old' k1 k2 k3 => yopsB_walk hq k1 k2 k3, fun he => ystep_walk h p (hk.2 he) fun c' s' a' w' old' k1 k2 k3 => yops_walk k1 k2 k3 hq⟩
def floatY (P : Program) (N : Nat) (ops : List Oper) (H : List Bk) (f k : Nat) (K : St → Prop) (old : List (Nat × V)) (s : St) : Prop := match ops.drop f with
  | of :: r => yopsB P N ops H of (r.take (k - f - 1)) K (ops.take f) old s
  | [] => False
theorem floatY' {P : Program} {N : Nat} {ops : List Oper} {H : List Bk} {f k : Nat} {K : St → Prop} {old : List (Nat × V)} {s : St} : floatY P N ops H f k K old s = match ops.drop f with
  | of :: r => yopsB P N ops H of (r.take (k - f - 1)) K (ops.take f) old s
  | [] => False := rfl
theorem AW.regionF {id : Nat} {ops : Array Oper} {F : Fr} {H : List Bk} {Q : Exit → St → Prop} (f k : Nat) (ts : List Nat) (hm : P.follows .mixedOrders = true) (hk : k ≤ ops.size) (hf : f < k) (ho : Mix.mixFloat f k ops = true)
    (h : floatY P N ops.toList H f k (aops P N ops.toList (ops.toList.drop k) (Q .normal)) (oldL F ts) ⟨F, H⟩) : AW P N (.region id ops true) Q ⟨F, H⟩ := fun c a w hs => by
  have hs' := hs.drew
  have p : PastY c H w.drew (oldL F ts) c a w.drew := ⟨hs'.inv, Ext.refl c _, JY.start hs'.inv, fun q hq => by
    obtain ⟨v, hv, hr⟩ := hs'.fr q.1 _ (mem_getF (oldL_mem hq))
    have : a.eval (.tmp q.1) = v := by simp [Act.eval, hv]
    rw [this]
    exact hr⟩
  unfold floatY at h
  cases hd : ops.toList.drop f with
  | nil => rw [hd] at h; exact h.elim
  | cons of r =>
    rw [hd] at h
    simp only at h
    have hlen : r.length = ops.size - f - 1 := by
      have := congrArg List.length hd
      simp at this
      omega
    have hpost : r.drop (k - f - 1) = ops.toList.drop k := by
      have : ops.toList.drop k = (ops.toList.drop f).drop (k - f) := by rw [List.drop_drop]; congr 1; omega
      rw [this, hd]
      cases hkf : k - f with
      | zero => omega
      | succ d => simp
    have e : ops = (ops.toList.take f ++ (of :: (r.take (k - f - 1) ++ ops.toList.drop k))).toArray := by
      rw [← hpost, List.take_append_drop, ← hd, List.take_append_drop]
    have h1 := yopsB_walk (ops := ops) (Q := Mix.endQ (Mix.walk P ops Agree (fun _ => True) (PostE c w N Q) (ops.toList.drop k))) (K := aops P N ops.toList (ops.toList.drop k) (Q .normal)) (fun c' s' a' w' k1 k2 k3 =>
      aops_walk (ops := ops) k1 k3 fun a2 w2 h2 => Post.step ((Ext.drew c w).trans k2) h2) hs' p h
    have lf : (ops.toList.take f).length = f := by simp; omega
    have lk : (r.take (k - f - 1)).length = k - f - 1 := by rw [List.length_take, hlen]; omega
    have h2 := Mix.wp_region_float (P := P) (C1 := fun _ w' => JY c H w.drew w') (J1 := fun w' => JY c H w.drew w') (C2 := Agree) (id := id) (A := ops.toList.take f) (of := of) (B := r.take (k - f - 1)) (post := ops.toList.drop k) (Q := PostE c w N Q) (a := a) (w := w) (fun _ h => h) (fun w => Agree.refl w) (fun _ _ => Iff.rfl) hm (by
      rw [← e, lf, lk, show f + 1 + (k - f - 1) = k by omega]; exact ho) (JY.start hs'.inv) (by rw [← e]; exact h1)
    rw [← e] at h2
    exact h2
end
/-- Two pieces with what holds between them. -/
theorem AW.mid {P : Program} {N : Nat} {x y : Code} {Q : Exit → St → Prop} {s : St} (R : Fr → List Bk → Prop) (h1 : AW P N x (qSeq (fun s' => ∃ F1, subW F1 s'.F ∧ R F1 s'.H) Q) s) (h2 : ∀ F H, R F H → AW P N y Q ⟨F, H⟩) : AW P N (.seq x y) Q s := AW.seq (h1.mono fun e s' he => by
  cases e with
  | normal =>
    obtain ⟨F1, k1, k2⟩ := he
    exact AW.weak F1 k1 (h2 F1 s'.H k2)
  | _ => exact he)
/-! ## The walker that knows such regions -/
def flK : List (Nat × Nat × Nat × List Nat) → Nat → Option (Nat × Nat × List Nat)
  | [], _ => none
  | (i, k) :: l, id => bif i == id then some k else flK l id
def awf (P : Program) (N : Nat) (bad : List (Nat × Nat × List Nat)) (fl : List (Nat × Nat × Nat × List Nat)) : Code → (Exit → St → Prop) → St → Prop
  | .skip, Q, s => Q .normal s
  | .region id ops draw, Q, s => match draw, flK fl id with
    | true, some k => floatY P N ops.toList s.H k.1 k.2.1 (aops P N ops.toList (ops.toList.drop k.2.1) (Q .normal)) (oldL s.F k.2.2) s
    | _, _ => awx P N bad (.region id ops draw) Q s
  | .seq x y, Q, s => awf P N bad fl x (qSeq (awf P N bad fl y Q) Q) s
  | .cond x t f, Q, s => match getB s x with
    | some b => (b = true → awf P N bad fl t Q s) ∧ (b = false → awf P N bad fl f Q s)
    | none => False
  | .block id body, Q, s => awf P N bad fl body (qBlock id Q) s
  | .loop body, Q, s => AW P N (.loop body) Q s
  | .exit id, Q, s => Q (.exit id) s
  | .label _, Q, s => Q .normal s
  | .ret, Q, s => Q .ret s
  | _, _, _ => False
def okf (bad : List (Nat × Nat × List Nat)) (fl : List (Nat × Nat × Nat × List Nat)) : Code → Bool
  | .region id ops draw => match draw, flK fl id with
    | true, some k => Nat.ble k.2.1 ops.size && Nat.blt k.1 k.2.1 && Mix.mixFloat k.1 k.2.1 ops
    | _, _ => okx bad (.region id ops draw)
  | .seq x y => okf bad fl x && okf bad fl y
  | .cond _ x y => okf bad fl x && okf bad fl y
  | .block _ x => okf bad fl x
  | .loop _ => true
  | _ => true
theorem awf_sound {P : Program} {N : Nat} {bad : List (Nat × Nat × List Nat)} {fl : List (Nat × Nat × Nat × List Nat)} (hm : P.follows .mixedOrders = true) : ∀ {code : Code} {Q : Exit → St → Prop} {s : St}, okf bad fl code = true → awf P N bad fl code Q s → AW P N code Q s := by
  intro code
  induction code with
  | skip => exact fun _ hk => AW.of hm rfl hk
  | region id ops draw =>
    intro Q s ho hk
    unfold awf at hk
    unfold okf at ho
    cases draw with
    | false => exact awx_sound hm (bad := bad) ho hk
    | true =>
      cases hb : flK fl id with
      | some k =>
        rw [hb] at ho hk
        simp only [Bool.and_eq_true] at ho
        exact AW.regionF (F := s.F) (H := s.H) k.1 k.2.1 k.2.2 hm (Nat.le_of_ble_eq_true ho.1.1) (by have := ho.1.2; simp [Nat.blt] at this; omega) ho.2 hk
      | none =>
        rw [hb] at ho hk
        exact awx_sound hm (bad := bad) ho hk
  | seq x y ihx ihy =>
    intro Q s ho hk
    simp only [okf, Bool.and_eq_true] at ho
    refine AW.seq ((ihx ho.1 hk).mono fun e s' he => ?_)
    cases e with
    | normal => exact ihy ho.2 he
    | _ => exact he
  | cond x t f iht ihf =>
    intro Q s ho hk
    simp only [okf, Bool.and_eq_true] at ho
    unfold awf at hk
    cases hb : getB s x with
    | none => rw [hb] at hk; exact hk.elim
    | some b =>
      rw [hb] at hk
      exact AW.cond (F := s.F) (H := s.H) b hb (fun e => iht ho.1 (hk.1 e)) (fun e => ihf ho.2 (hk.2 e))
  | block id body ih =>
    intro Q s ho hk
    exact AW.block (ih ho hk)
  | loop body ih => exact fun _ hk => hk
  | exit id => exact fun _ hk => AW.of hm rfl hk
  | label l => exact fun _ hk => AW.of hm rfl hk
  | ret => exact fun _ hk => AW.of hm rfl hk
  | _ => exact fun _ hk => hk.elim
theorem AW.off {P : Program} {N : Nat} {x : Code} {Q : Exit → St → Prop} {s : St} (bad : List (Nat × Nat × List Nat)) (fl : List (Nat × Nat × Nat × List Nat)) (hm : P.follows .mixedOrders = true) (ho : okf bad fl x = true) (h : awf P N bad fl x Q s) : AW P N x Q s := awf_sound hm ho h
section
variable {P : Program} {N : Nat} {bad : List (Nat × Nat × List Nat)} {fl : List (Nat × Nat × Nat × List Nat)} {F : Fr} {H : List Bk} {Q : Exit → St → Prop} {c c' : Code} {x : Operand} {id : Nat} {draw : Bool} {arr : Array Oper}
theorem awf_skip' : awf P N bad fl .skip Q ⟨F, H⟩ = Q .normal ⟨F, H⟩ := rfl
theorem awf_region' : awf P N bad fl (.region id arr draw) Q ⟨F, H⟩ = if (draw && (flK fl id).isSome) = true then floatY P N arr.toList H ((flK fl id).getD (0, 0, [])).1 ((flK fl id).getD (0, 0, [])).2.1 (aops P N arr.toList (arr.toList.drop ((flK fl id).getD (0, 0, [])).2.1) (Q .normal)) (oldL F ((flK fl id).getD (0, 0, [])).2.2) ⟨F, H⟩ else awx P N bad (.region id arr draw) Q ⟨F, H⟩ := by
  show (match draw, flK fl id with
    | true, some k => floatY P N arr.toList H k.1 k.2.1 (aops P N arr.toList (arr.toList.drop k.2.1) (Q .normal)) (oldL F k.2.2) ⟨F, H⟩
    | _, _ => awx P N bad (.region id arr draw) Q ⟨F, H⟩) = _
  cases draw <;> cases flK fl id <;> rfl
theorem awf_seq' : awf P N bad fl (.seq c c') Q ⟨F, H⟩ = awf P N bad fl c (qSeq (awf P N bad fl c' Q) Q) ⟨F, H⟩ := rfl
theorem awf_cond' : awf P N bad fl (.cond x c c') Q ⟨F, H⟩ = match getB ⟨F, H⟩ x with
    | some b => gd b true (awf P N bad fl c Q ⟨F, H⟩) (awf P N bad fl c' Q ⟨F, H⟩)
    | none => False := rfl
theorem awf_block' : awf P N bad fl (.block id c) Q ⟨F, H⟩ = awf P N bad fl c (qBlock id Q) ⟨F, H⟩ := rfl
theorem awf_loop' : awf P N bad fl (.loop c) Q ⟨F, H⟩ = AW P N (.loop c) Q ⟨F, H⟩ := rfl
theorem awf_exit' : awf P N bad fl (.exit id) Q ⟨F, H⟩ = Q (.exit id) ⟨F, H⟩ := rfl
theorem awf_label' : awf P N bad fl (.label id) Q ⟨F, H⟩ = Q .normal ⟨F, H⟩ := rfl
theorem awf_ret' : awf P N bad fl .ret Q ⟨F, H⟩ = Q .ret ⟨F, H⟩ := rfl
end
end AM
end Go.Proofs.Ytmjnffjacgjfmaa
