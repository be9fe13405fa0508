/- Code over an abstract state: operation by operation, statement by statement, function by function. Plain lemmas, over any program. -/
import Derived.Test.YtoooldijnilpaaaAm
namespace Go.Proofs.Ytoooldijnilpaaa
set_option linter.all false
open Go.RowKit
namespace AM

def aGen (P : Program) (N : Nat) (o : Oper) (s : St) (K : St → Prop) : Prop := match exactV P s o with
  | some v => putK N o.dst (.v (.ofValue v)) s K
  | none => False
def aCallOp (P : Program) (N : Nat) (o : Oper) (cl : Call) (s : St) (K : St → Prop) : Prop := match cl.callee with
  | .value f => aCall P N o.dst f cl.args.toList s K
  | .builtin .append => match cl.args.toList, cl.argTypes.toList with
    | [x, y], [t, t'] => t = t' ∧ aAppend P N o.dst t x y s K
    | _, _ => False
  | .builtin .len => match cl.args.toList, cl.argTypes.toList with
    | [x], [t] => match eval s x with
      | some (.v (.sc (.map _))) => aLenMap P N o.dst t x s K
      | some (.v (.map _)) => aLenMap P N o.dst t x s K
      | some (.v (.sc _)) => aGen P N o s K
      | _ => aLen P N o.dst t x s K
    | _, _ => False
  | .builtin .delete => match cl.args.toList, cl.argTypes.toList with
    | [x, y], t :: _ => aDelete P N o.dst t x y s K
    | _, _ => False
  | .builtin .min => match cl.args.toList with
    | [x, y] => aMM P N o.dst .min x y s K
    | _ => False
  | .builtin .max => match cl.args.toList with
    | [x, y] => aMM P N o.dst .max x y s K
    | _ => False
  | _ => aGen P N o s K
def aSliceOp (P : Program) (N : Nat) (o : Oper) (t : TypeId) (x : Operand) (lo hi mx : Option Operand) (s : St) (K : St → Prop) : Prop := match evalV s x with
  | some (.sl ..) => aSlice P N o.dst t x lo hi mx s K
  | _ => aGen P N o s K
def aop (P : Program) (N : Nat) (ops : List Oper) (o : Oper) (s : St) (K : St → Prop) : Prop := match o.op with
  | .move x => aMove N ops o.dst x s K
  | .assign x => aAssign N o.dst x s K
  | .pick x y z => aPick N o.dst x y z s K
  | .alloc t => aAlloc P N o.dst t s K
  | .box _ x => aBox N o.dst x s K
  | .build t ps => aBuild P N o.dst t ps.toList s K
  | .buildSlice t n ps => aBuildSlice P N o.dst t n ps.toList s K
  | .load t x => aLoad P N ops o.dst t x s K
  | .store t x y => aStore P o.dst t x y s K
  | .nilCheck x => aNilCheck N o.dst x s K
  | .binOp op t x y _ => aBin P N o.dst op t x y s K
  | .makeFunc f l k => aMakeFunc N o.dst f l.toList k.toList s K
  | .fieldAddr t x f => aFieldAddr P N o.dst t x f s K
  | .field t x f => aField P N o.dst t x f s K
  | .indexAddr t x i => aIndexAddr P N o.dst t x i s K
  | .extract x i => aExtract N o.dst x i s K
  | .slice t x lo hi mx => aSliceOp P N o t x lo hi mx s K
  | .call cl => aCallOp P N o cl s K
  | .unOp op _ x => aUn P N o.dst op x s K
  | .convert t u x => aConv P N o.dst t u x s K
  | .makeInterface t x => aIface P N o.dst t x s K
  | .typeAssert x _ t ok => aAssert P N o.dst x t ok s K
  | .makeMap _ r => aMakeMap N o.dst r s K
  | .lookup t x y ok => aLookup P N o.dst t x y ok s K
  | .mapUpdate t x y z => aMapUpdate P o.dst t x y z s K
  | .insert t x y z => aMapUpdate P o.dst t x y z s K
  | .range t x => aRange P N o.dst t x s K
  | .next x isS => aNext N o.dst x isS s K
  | .entry x => aEntry N o.dst x s K
  | _ => aGen P N o s K

section
variable {P : Program} {c : Cx} {N : Nat} {s : St} {a : Act} {w : World} {K : St → Prop}

theorem aGen_reads' {o : Oper} (h : Sim c N s a w) (hk : aGen P N o s K) : Reads P o a w (Post c w N K) ∧ genB o.op = true := by
  unfold aGen at hk
  cases hv : exactV P s o with
  | none => rw [hv] at hk; exact hk.elim
  | some v =>
    rw [hv] at hk
    refine ⟨aGen_reads h hv hk, ?_⟩
    unfold exactV at hv
    cases hg : genB o.op with
    | true => rfl
    | false => rw [hg] at hv; cases hv

def Does (P : Program) (o : Oper) (a : Act) (w : World) (Q : Act → World → Prop) : Prop := if Mix.effB o = true then Acts P o a w Q else Reads P o a w Q
theorem Does.reads {o : Oper} {Q : Act → World → Prop} (h : Reads P o a w Q) : Does P o a w Q := by
  unfold Does
  split
  · exact h.acts
  · exact h
theorem Does.acts' {o : Oper} {Q : Act → World → Prop} (he : Mix.effB o = true) (h : Acts P o a w Q) : Does P o a w Q := by
  unfold Does
  rw [if_pos he]
  exact h
theorem Does.acts {o : Oper} {Q : Act → World → Prop} (h : Does P o a w Q) : Acts P o a w Q := by
  unfold Does at h
  split at h
  · exact h
  · exact h.acts

theorem aop_does {ops : List Oper} {o : Oper} (h : Sim c N s a w) (hk : aop P N ops o s K) : Does P o a w (Post c w N K) := by
  unfold aop at hk
  split at hk
  · rename_i x ho
    exact .reads ⟨a.eval x, fun w' _ => by unfold execOp; simp only [ho, Sem.run_pure], aMove_post h hk⟩
  · rename_i x ho
    exact .reads ⟨a.eval x, fun w' _ => by unfold execOp; simp only [ho, Sem.run_pure], aAssign_post h hk⟩
  · rename_i x y z ho
    exact .reads (aPick_reads ho h hk)
  · rename_i t ho
    exact .acts' (by simp [Mix.effB, ho]) (aAlloc_acts ho h hk)
  · rename_i t x ho
    exact .acts' (by simp [Mix.effB, ho]) (aBox_acts ho h hk)
  · rename_i t ps ho
    exact .reads (aBuild_reads ho h hk)
  · rename_i t n ps ho
    exact .acts' (by simp [Mix.effB, ho]) (aBuildSlice_acts ho h hk)
  · rename_i t x ho
    exact .reads (aLoad_reads ho h hk)
  · rename_i t x y ho
    exact .acts' (by simp [Mix.effB, ho]) (aStore_acts ho h hk)
  · rename_i x ho
    exact .reads (aNilCheck_reads ho h hk)
  · rename_i op t x y t' ho
    exact .reads (aBin_reads ho h hk)
  · rename_i f l k ho
    exact .reads (aMakeFunc_reads ho h hk)
  · rename_i t x f ho
    exact .reads (aFieldAddr_reads ho h hk)
  · rename_i t x f ho
    exact .reads (aField_reads ho h hk)
  · rename_i t x i ho
    exact .reads (aIndexAddr_reads ho h hk)
  · rename_i x i ho
    exact .reads (aExtract_reads ho h hk)
  · rename_i t x lo hi mx ho
    unfold aSliceOp at hk
    split at hk
    · exact .reads (aSlice_reads ho h hk)
    · exact .reads (aGen_reads' h hk).1
  · rename_i cl ho
    obtain ⟨callee, args, ts⟩ := cl
    unfold aCallOp at hk
    simp only at hk
    split at hk
    · rename_i f
      exact .acts' (by simp [Mix.effB, ho]) (aCall_acts ho h hk)
    · split at hk
      · rename_i x y t t' e1 e2
        obtain ⟨rfl, hk⟩ := hk
        have e1 : args = #[x, y] := Array.toList_inj.1 e1
        have e2 : ts = #[t, t] := Array.toList_inj.1 e2
        subst e1 e2
        exact .acts' (by simp [Mix.effB, ho]) (aAppend_acts ho h hk)
      · exact hk.elim
    · split at hk
      · rename_i x t e1 e2
        have e1 : args = #[x] := Array.toList_inj.1 e1
        have e2 : ts = #[t] := Array.toList_inj.1 e2
        subst e1 e2
        split at hk
        · exact .reads (aLenMap_reads ho h hk)
        · exact .reads (aLenMap_reads ho h hk)
        · exact .reads (aGen_reads' h hk).1
        · exact .reads (aLen_reads ho h hk)
      · exact hk.elim
    · split at hk
      · rename_i x y t r e1 e2
        have e1 : args = #[x, y] := Array.toList_inj.1 e1
        subst e1
        exact .acts' (by simp [Mix.effB, ho]) (aDelete_acts ho (by rw [← Array.getElem?_toList, e2]; rfl) h hk)
      · exact hk.elim
    · split at hk
      · rename_i x y e1
        have e1 : args = #[x, y] := Array.toList_inj.1 e1
        subst e1
        exact .reads (aMM_reads ho h hk)
      · exact hk.elim
    · split at hk
      · rename_i x y e1
        have e1 : args = #[x, y] := Array.toList_inj.1 e1
        subst e1
        exact .reads (aMM_reads ho h hk)
      · exact hk.elim
    · exact .reads (aGen_reads' h hk).1
  · rename_i op t x ho
    exact .reads (aUn_reads ho h hk)
  · rename_i t u x ho
    exact .reads (aConv_reads ho h hk)
  · rename_i t x ho
    exact .reads (aIface_reads ho h hk)
  · rename_i x t' t ok ho
    exact .reads (aAssert_reads ho h hk)
  · rename_i t r ho
    exact .acts' (by simp [Mix.effB, ho]) (aMakeMap_acts ho h hk)
  · rename_i t x y ok ho
    exact .reads (aLookup_reads ho h hk)
  · rename_i t x y z ho
    exact .acts' (by simp [Mix.effB, ho]) (aMapUpdate_acts (.inl ho) h hk)
  · rename_i t x y z ho
    exact .acts' (by simp [Mix.effB, ho]) (aMapUpdate_acts (.inr ho) h hk)
  · rename_i t x ho
    exact .acts' (by simp [Mix.effB, ho]) (aRange_acts ho h hk)
  · rename_i x isS ho
    exact .acts' (by simp [Mix.effB, ho]) (aNext_acts ho h hk)
  · rename_i x ho
    exact .acts' (by simp [Mix.effB, ho]) (aEntry_acts ho h hk)
  · exact .reads (aGen_reads' h hk).1

/-! ## The operations of a region, in the order of the text -/
def aops (P : Program) (N : Nat) (ops : List Oper) : List Oper → (St → Prop) → St → Prop
  | [], K, s => K s
  | o :: rest, K, s => match o.guard with
    | none => aop P N ops o s (aops P N ops rest K)
    | some (j, want) => match (ops[j]?).bind (·.dst) with
      | some t => match getF t s.F with
        | some (.v (.sc (.bool b))) => (b = want → aop P N ops o ⟨setF t (.v (.sc (.bool want))) s.F, s.H⟩ (aops P N ops rest K)) ∧ (b = !want → putK N o.dst (.v (.tup [])) ⟨setF t (.v (.sc (.bool (!want)))) s.F, s.H⟩ (aops P N ops rest K))
        | some (.v (.tup [])) => putK N o.dst (.v (.tup [])) s (aops P N ops rest K)
        | _ => False
      | none => False

def boolOf : Value → Option Bool
  | .bool b => some b
  | _ => none
theorem yielded_of {ops : Array Oper} {j t : Nat} (hd : (ops[j]?).bind (·.dst) = some t) {v : Value} (hv : a.tmps[t]? = some v) : yielded ops a.tmps j = boolOf v := by
  unfold yielded
  rw [hd, Option.bind_some, hv]
  cases v <;> rfl

theorem Sim.lit {t : Nat} {b : Bool} (h : Sim c N s a w) (hg : getF t s.F = some (.v (.sc (.bool b)))) : Sim c N ⟨setF t (.v (.sc (.bool b))) s.F, s.H⟩ a w :=
  ⟨h.inv, h.size, h.defers, fun k x hx => by
    rcases mem_setF hx with ⟨rfl, rfl⟩ | ⟨_, hx⟩
    · exact h.fr _ _ (mem_getF hg)
    · exact h.fr k x hx⟩
theorem aops_cases {ops : Array Oper} {o : Oper} {rest : List Oper} (h : Sim c N s a w) (hk : aops P N ops.toList (o :: rest) K s) :
    (∃ s1, Sim c N s1 a w ∧ Region.wanted o (yielded ops a.tmps) = true ∧ aop P N ops.toList o s1 (aops P N ops.toList rest K)) ∨
    (∃ s1, Sim c N s1 a w ∧ Region.wanted o (yielded ops a.tmps) = false ∧ putK N o.dst (.v (.tup [])) s1 (aops P N ops.toList rest K)) := by
  unfold aops at hk
  cases hg : o.guard with
  | none => rw [hg] at hk; exact .inl ⟨s, h, by simp [Region.wanted, hg], hk⟩
  | some p =>
    obtain ⟨j, want⟩ := p
    rw [hg] at hk
    simp only at hk
    cases hd : (ops.toList[j]?).bind (·.dst) with
    | none => rw [hd] at hk; exact hk.elim
    | some t =>
      rw [hd] at hk
      simp only at hk
      have hd' : (ops[j]?).bind (·.dst) = some t := by simpa using hd
      split at hk
      · rename_i b hb
        obtain ⟨v, hv, hr⟩ := h.fr t _ (mem_getF hb)
        have e : v = .bool b := Rel.exact hr rfl
        subst e
        have hy := yielded_of hd' hv
        cases hbw : b == want with
        | true =>
          have e : b = want := by simpa using hbw
          subst e
          exact .inl ⟨_, h.lit hb, by simp [Region.wanted, hg, hy, boolOf], hk.1 rfl⟩
        | false =>
          have e : b = !want := by cases b <;> cases want <;> simp_all
          subst e
          exact .inr ⟨_, h.lit hb, by simp [Region.wanted, hg, hy, boolOf], hk.2 rfl⟩
      · rename_i hb
        obtain ⟨v, hv, hr⟩ := h.fr t _ (mem_getF hb)
        have e : v = .tuple #[] := Rel.exact hr rfl
        subst e
        have hy := yielded_of hd' hv
        exact .inr ⟨s, h, by simp [Region.wanted, hg, hy, boolOf], hk⟩
      · exact hk.elim

theorem skip_post {dst : Option Tmp} (h : Sim c N s a w) (hk : putK N dst (.v (.tup [])) s K) : Post c w N K (a.put dst undef) w := putK_post h hk fun _ _ => Rel.tup (vs := #[]) .nil

theorem aops_list {ops : Array Oper} {Q : Exit → Act → World → Prop} : ∀ {l : List Oper} {s : St} {c : Cx} {a : Act} {w : World}, Sim c N s a w → aops P N ops.toList l K s → (∀ a' w', Post c w N K a' w' → Q .normal a' w') → wpList P ops Q l a w
  | [], s, c, a, w, h, hk, hq => hq a w ⟨c, s, h, Ext.refl c w, hk⟩
  | o :: l, s, c, a, w, h, hk, hq => by
    refine wpList_step fun K' hK' => ?_
    rcases aops_cases h hk with ⟨s1, h, hw, hk⟩ | ⟨s1, h, hw, hk⟩
    · rw [if_pos hw]
      have h1 := (aop_does h hk).acts
      refine Mix.wp_of_eff (Mix.effS_mono (fun d v w' h2 => ?_) (Mix.eff_of_wp h1))
      obtain ⟨c', s', k1, k2, k3⟩ := h2
      exact hK' _ _ (aops_list k1 k3 fun a' w' h3 => hq a' w' (Post.step k2 h3))
    · rw [if_neg (by rw [hw]; simp)]
      obtain ⟨c', s', k1, k2, k3⟩ := skip_post h hk
      exact hK' _ _ (aops_list k1 k3 fun a' w' h3 => hq a' w' (Post.step k2 h3))

/-- A region that draws its order: reads ordered against all that acts. -/
theorem aops_walk {ops : Array Oper} {Q : Exit → Act → World → Prop} : ∀ {l : List Oper} {s : St} {c : Cx} {a : Act} {w : World}, Sim c N s a w → aops P N ops.toList l K s → (∀ a' w', Post c w N K a' w' → Q .normal a' w') →
    Mix.walk P ops Agree (fun _ => True) Q l a w
  | [], s, c, a, w, h, hk, hq => hq a w ⟨c, s, h, Ext.refl c w, hk⟩
  | o :: l, s, c, a, w, h, hk, hq => by
    unfold Mix.walk
    rcases aops_cases h hk with ⟨s1, h, hw, hk⟩ | ⟨s1, h, hw, hk⟩
    · have h1 := aop_does h hk
      unfold Does at h1
      by_cases he : Mix.effB o = true
      · rw [if_pos he] at h1 ⊢
        refine wpList_step fun K' hK' => ?_
        rw [if_pos hw]
        refine Mix.wp_of_eff (Mix.effS_mono (fun d v w' h2 => ?_) (Mix.eff_of_wp h1))
        obtain ⟨c', s', k1, k2, k3⟩ := h2
        exact hK' _ _ (wpList_nil ⟨trivial, aops_walk k1 k3 fun a' w' h3 => hq a' w' (Post.step k2 h3)⟩)
      · rw [if_neg he] at h1 ⊢
        obtain ⟨v, h2, c', s', k1, k2, k3⟩ := h1
        refine wpQuiet_step fun K' hK' => ?_
        rw [if_pos hw]
        refine ⟨v, fun w' hw' => ?_, hK' _ (wpQuiet_nil (aops_walk k1 k3 fun a' w' h3 => hq a' w' (Post.step k2 h3)))⟩
        unfold Oper.quietAt
        rw [h2 w' (fun _ => hw')]
        exact ⟨rfl, rfl⟩
    · obtain ⟨c', s', k1, k2, k3⟩ := skip_post h hk
      have h4 := aops_walk k1 k3 fun a' w' h3 => hq a' w' (Post.step k2 h3)
      by_cases he : Mix.effB o = true
      · rw [if_pos he]
        refine wpList_step fun K' hK' => ?_
        rw [if_neg (by rw [hw]; simp)]
        exact hK' _ _ (wpList_nil ⟨trivial, h4⟩)
      · rw [if_neg he]
        refine wpQuiet_step fun K' hK' => ?_
        rw [if_neg (by rw [hw]; simp)]
        exact hK' _ (wpQuiet_nil h4)
end

/-! ## Statements -/
def getB (s : St) (x : Operand) : Option Bool := match evalV s x with
  | some (.sc (.bool b)) => some b
  | _ => none
def qSeq (next : St → Prop) (Q : Exit → St → Prop) : Exit → St → Prop
  | .normal, s => next s
  | e, s => Q e s
def qBlock (id : Nat) (Q : Exit → St → Prop) : Exit → St → Prop
  | .exit k, s => if k = id then Q .normal s else Q (.exit k) s
  | e, s => Q e s
/-- What holds behind code. -/
def PostE (c : Cx) (w : World) (N : Nat) (Q : Exit → St → Prop) : Exit → Act → World → Prop := fun e => Post c w N (Q e)
/-- Code keeps a promise over an abstract state. -/
def AW (P : Program) (N : Nat) (code : Code) (Q : Exit → St → Prop) (s : St) : Prop := ∀ (c : Cx) (a : Act) (w : World), Sim c N s a w → code.wp P (PostE c w N Q) a w
def aw (P : Program) (N : Nat) : Code → (Exit → St → Prop) → St → Prop
  | .skip, Q, s => Q .normal s
  | .region _ ops _, Q, s => aops P N ops.toList ops.toList (Q .normal) s
  | .seq x y, Q, s => aw P N x (qSeq (aw P N y Q) Q) s
  | .cond x t f, Q, s => match getB s x with
    | some b => (b = true → aw P N t Q s) ∧ (b = false → aw P N f Q s)
    | none => False
  | .block id body, Q, s => aw P N body (qBlock id Q) s
  | .loop body, Q, s => AW P N (.loop body) Q s
  | .exit id, Q, s => Q (.exit id) s
  | .label _, Q, s => Q .normal s
  | .ret, Q, s => Q .ret s
  | _, _, _ => False

/-- All regions that draw have their reads ordered against what acts. -/
def okc : Code → Bool
  | .region _ ops draw => !draw || Mix.mixOk 1 ops
  | .seq x y => okc x && okc y
  | .cond _ x y => okc x && okc y
  | .block _ x => okc x
  | .loop x => okc x
  | _ => true

/-- A loop whose rounds bring a number down. -/
theorem wp_loop_rank {P : Program} {Q : Exit → Act → World → Prop} {a : Act} {w : World} {c : Code} (R : Nat → Act → World → Prop) (h₀ : ∃ n, R n a w)
    (round : ∀ n a w, R n a w → c.wp P (Exit.then (fun a' w' => ∃ m, m < n ∧ R m a' w') Q) a w) : (Code.loop c).wp P Q a w := by
  intro b k cs
  have key : ∀ n a w, R n a w → ∃ e a' w', Q e a' w' ∧ Arrives P (lone (b.at a (.code c :: .inLoop c :: k)) cs w) b k cs e a' w' := by
    intro n
    induction n using Nat.strongRecOn with
    | _ n ih =>
      intro a w hR
      obtain ⟨e, a₁, w₁, hq, harr⟩ := round n a w hR b (.inLoop c :: k) cs
      cases e with
      | normal =>
        obtain ⟨m, hlt, hR₁⟩ := hq
        obtain ⟨e₂, a₂, w₂, hq₂, harr₂⟩ := ih m hlt a₁ w₁ hR₁
        exact ⟨e₂, a₂, w₂, hq₂, .of_steps (Steps.trans harr (.one step_inLoop)) harr₂⟩
      | exit id => exact ⟨_, a₁, w₁, hq, .pass (x := .inLoop c) rfl (fun _ _ => .inl (by simp)) harr⟩
      | goto l => exact ⟨_, a₁, w₁, hq, .pass (x := .inLoop c) rfl (fun _ _ => .inl (by simp)) harr⟩
      | ret => exact ⟨_, a₁, w₁, hq, .pass (x := .inLoop c) rfl (fun _ _ => .inl (by simp)) harr⟩
      | panic ch => exact ⟨_, a₁, w₁, hq, .pass (x := .inLoop c) rfl (fun _ _ => .inl (by simp)) harr⟩
      | outgrown => exact ⟨_, a₁, w₁, hq, .pass (x := .inLoop c) rfl (fun _ _ => .inl (by simp)) harr⟩
  obtain ⟨n, hn⟩ := h₀
  obtain ⟨e, a', w', hq, harr⟩ := key n a w hn
  exact ⟨e, a', w', hq, .of_steps (.one step_loop) harr⟩

theorem aw_sound {P : Program} {N : Nat} (hm : P.follows .mixedOrders = true) : ∀ {code : Code} {Q : Exit → St → Prop} {s : St} {c : Cx} {a : Act} {w : World}, okc code = true → Sim c N s a w → aw P N code Q s → code.wp P (PostE c w N Q) a w := by
  intro code
  induction code with
  | skip => exact fun _ h hk => wp_skip ⟨_, _, h, Ext.refl _ _, hk⟩
  | region id ops draw =>
    intro Q s c a w ho h hk
    cases draw with
    | false => exact wp_region_list (aops_list h hk fun a' w' h => h)
    | true =>
      have ho : Mix.mixOk 1 ops = true := by simpa [okc] using ho
      have h1 := aops_walk (Q := PostE c w N Q) h.drew hk fun a' w' h2 => Post.step (Ext.drew c w) h2
      have := Mix.wp_region_walk (P := P) (id := id) (l := ops.toList) (Q := PostE c w N Q) (a := a) (w := w) (C := Agree) (J := fun _ => True) (fun w _ => Agree.refl w) (ga := 1) (fun _ w o w' hA b hb => (hA b (by simp; omega)).trans (heap_alloc_lt hb)) (fun h => by cases h) hm (by simpa using ho) trivial (by simpa using h1)
      simpa using this
  | seq x y ihx ihy =>
    intro Q s c a w ho h hk
    simp only [okc, Bool.and_eq_true] at ho
    refine wp_seq (wp_mono (ihx ho.1 h hk) fun e a' w' he => ?_)
    obtain ⟨c', s', k1, k2, k3⟩ := he
    cases e with
    | normal => exact wp_mono (ihy ho.2 k1 k3) fun e a2 w2 h2 => Post.step k2 h2
    | _ => exact ⟨c', s', k1, k2, k3⟩
  | cond x t f iht ihf =>
    intro Q s c a w ho h hk
    simp only [okc, Bool.and_eq_true] at ho
    unfold aw at hk
    cases hb : getB s x with
    | none => rw [hb] at hk; exact hk.elim
    | some b =>
      rw [hb] at hk
      obtain ⟨h1, h2⟩ := hk
      have hx : a.eval x = .bool b := by
        unfold getB at hb
        split at hb
        · rename_i b' hv
          cases hb
          exact Rel.exact (evalV_rel h hv) rfl
        · cases hb
      exact wp_cond_split hx (fun e => iht ho.1 h (h1 e)) (fun e => ihf ho.2 h (h2 e))
  | block id body ih =>
    intro Q s c a w ho h hk
    refine wp_block (wp_mono (ih ho h hk) fun e a' w' he => ?_)
    obtain ⟨c', s', k1, k2, k3⟩ := he
    cases e with
    | exit k =>
      simp only [Exit.inBlock]
      simp only [qBlock] at k3
      split
      · rename_i hk
        rw [if_pos hk] at k3
        exact ⟨c', s', k1, k2, k3⟩
      · rename_i hk
        rw [if_neg hk] at k3
        exact ⟨c', s', k1, k2, k3⟩
    | _ => exact ⟨c', s', k1, k2, k3⟩
  | loop body ih => exact fun _ h hk => hk _ _ _ h
  | exit id => exact fun _ h hk => wp_exit ⟨_, _, h, Ext.refl _ _, hk⟩
  | label l => exact fun _ h hk => wp_label ⟨_, _, h, Ext.refl _ _, hk⟩
  | ret => exact fun _ h hk => wp_ret ⟨_, _, h, Ext.refl _ _, hk⟩
  | _ => exact fun _ _ hk => hk.elim

/-- Part of a frame. -/
def subF : Fr → Fr → Prop
  | [], _ => True
  | (t, x) :: F0, F => getF t F = some x ∧ subF F0 F
theorem subF_mem : ∀ {F0 F : Fr}, subF F0 F → ∀ p, p ∈ F0 → p ∈ F
  | [], _, _, p, hp => by cases hp
  | (t, x) :: F0, F, h, p, hp => by
    rcases List.mem_cons.1 hp with rfl | hp
    · exact mem_getF h.1
    · exact subF_mem h.2 p hp
section
variable {P : Program} {N : Nat} {Q : Exit → St → Prop} {s : St} {F : Fr} {H : List Bk} {x y : Code}
theorem AW.of (hm : P.follows .mixedOrders = true) (ho : okc x = true) (h : aw P N x Q s) : AW P N x Q s := fun _ _ _ hs => aw_sound hm ho hs h
theorem AW.sub (F0 : Fr) (h0 : subF F0 F) (h : AW P N x Q ⟨F0, H⟩) : AW P N x Q ⟨F, H⟩ := fun c a w hs => h c a w (hs.sub (subF_mem h0))
theorem AW.seq (h : AW P N x (qSeq (AW P N y Q) Q) s) : AW P N (.seq x y) Q s := fun c a w hs => by
  refine wp_seq (wp_mono (h c a w hs) fun e a' w' he => ?_)
  obtain ⟨c', s', k1, k2, k3⟩ := he
  cases e with
  | normal => exact wp_mono (k3 c' a' w' k1) fun e a2 w2 h2 => Post.step k2 h2
  | _ => exact ⟨c', s', k1, k2, k3⟩
theorem AW.mono {Q' : Exit → St → Prop} (h : AW P N x Q s) (hq : ∀ e s, Q e s → Q' e s) : AW P N x Q' s := fun c a w hs => wp_mono (h c a w hs) fun _ _ _ he => Post.mono he fun s hs => hq _ s hs
theorem AW.block {id : Nat} (h : AW P N x (qBlock id Q) s) : AW P N (.block id x) Q s := fun c a w hs => by
  refine wp_block (wp_mono (h c a w hs) fun e a' w' he => ?_)
  obtain ⟨c', s', k1, k2, k3⟩ := he
  cases e with
  | exit k =>
    simp only [Exit.inBlock]
    simp only [qBlock] at k3
    split
    · rename_i hk
      rw [if_pos hk] at k3
      exact ⟨c', s', k1, k2, k3⟩
    · rename_i hk
      rw [if_neg hk] at k3
      exact ⟨c', s', k1, k2, k3⟩
  | _ => exact ⟨c', s', k1, k2, k3⟩
/-- A loop: what holds at each round's head, with a number that every round lowers. -/
theorem AW.loop (R : Nat → Fr → List Bk → Prop) (h0 : ∃ n F0, subF F0 F ∧ R n F0 H) (round : ∀ n F H, R n F H → AW P N x (qSeq (fun s' => ∃ m F1, m < n ∧ subF F1 s'.F ∧ R m F1 s'.H) Q) ⟨F, H⟩) : AW P N (.loop x) Q ⟨F, H⟩ := fun c a w hs => by
  obtain ⟨n, F0, h1, h2⟩ := h0
  refine wp_loop_rank (fun n a' w' => ∃ c' F' H', Sim c' N ⟨F', H'⟩ a' w' ∧ Ext c w c' w' ∧ R n F' H') ⟨n, c, F0, H, hs.sub (subF_mem h1), Ext.refl c w, h2⟩ fun n a1 w1 h1 => ?_
  obtain ⟨c1, F1, H1, k1, k2, k3⟩ := h1
  refine wp_mono (round n F1 H1 k3 c1 a1 w1 k1) fun e a2 w2 he => ?_
  obtain ⟨c2, s2, l1, l2, l3⟩ := he
  cases e with
  | normal =>
    obtain ⟨m, F3, hm, hsub, hR⟩ := l3
    exact ⟨m, hm, c2, F3, s2.H, Sim.sub (F := s2.F) l1 (subF_mem hsub), k2.trans l2, hR⟩
  | _ => exact ⟨c2, s2, l1, k2.trans l2, l3⟩
end

/-! ## Functions -/
def argsF : Nat → List V → Fr
  | _, [] => []
  | k, x :: xs => (k, .v x) :: argsF (k + 1) xs
theorem mem_argsF {t : Nat} {y : SV} : ∀ {xs : List V} {k : Nat}, (t, y) ∈ argsF k xs → ∃ j x, t = k + j ∧ xs[j]? = some x ∧ y = .v x
  | [], k, h => by cases h
  | x :: xs, k, h => by
    unfold argsF at h
    rcases List.mem_cons.1 h with h | h
    · cases h
      exact ⟨0, x, rfl, rfl, rfl⟩
    · obtain ⟨j, z, h1, h2, h3⟩ := mem_argsF h
      exact ⟨j + 1, z, by omega, by simpa using h2, h3⟩
def resV (P : Program) (s : St) : ResultVar → Option V
  | .tmp t => evalS s (.tmp t)
  | .cell t ty => match getF t s.F, aggT P ty, sizeT P ty with
    | some p, some agg, some n => match cellsAt s p with
      | some cs => ldV agg n cs
      | none => none
    | _, _, _ => none
def resVs (P : Program) (s : St) : List ResultVar → Option (List V)
  | [] => some []
  | r :: rs => match resV P s r, resVs P s rs with
    | some v, some l => some (v :: l)
    | _, _ => none
def resTmps : List ResultVar → List Operand
  | [] => []
  | .tmp t :: rs => .tmp t :: resTmps rs
  | .cell .. :: rs => resTmps rs
def tupV : List V → V
  | [v] => v
  | vs => .tup vs
def aret (P : Program) (rs : List ResultVar) (s : St) (Q : V → List Bk → Prop) : Prop := match resVs P ⟨shareF s.F (resTmps rs), s.H⟩ rs with
  | some vs => Q (tupV vs) s.H
  | none => False
def afin (P : Program) (rs : List ResultVar) (Q : V → List Bk → Prop) : Exit → St → Prop
  | .normal, s => aret P rs s Q
  | .ret, s => aret P rs s Q
  | _, _ => False

section
variable {P : Program} {c : Cx} {N : Nat} {s : St} {a : Act} {w : World}
def resRun (tmps : Array Value) : ResultVar → Sem Value
  | .tmp t => pure (tmps.getD t undef)
  | .cell a t => do loadVar t (← asAddr (tmps.getD a undef))
theorem resV_run {r : ResultVar} {y : V} (h : Sim c N s a w) (hr : resV P s r = some y) : ∃ v, Rel c.I c.φ y v ∧ (resRun a.tmps r).run P w = .ok v w := by
  cases r with
  | tmp t => exact ⟨_, evalS_rel h hr, by simp [resRun, Act.eval]⟩
  | cell t ty =>
    simp only [resV] at hr
    split at hr
    · rename_i p agg n hg ha hn
      cases hc : cellsAt s p with
      | none => rw [hc] at hr; cases hr
      | some cs =>
        rw [hc] at hr
        obtain ⟨v, hv, hp⟩ := h.fr t p (mem_getF hg)
        obtain ⟨b, off, vs, rfl, h1, h2, _⟩ := read_cells h hp hc
        obtain ⟨u, h3, h4⟩ := run_loadAt (P := P) ha hn h1 h2 hr
        refine ⟨u, h3, ?_⟩
        have h5 := h4 w (Agree.refl w)
        have e : a.tmps.getD t undef = .pointer (some ⟨b, off, none⟩) := by simp [hv]
        unfold resRun
        simp only [e, asAddr, Sem.run_bind, Sem.run_pure, Result.andThen_ok]
        simpa [Instr.loadAt, Instr.sureAddr] using h5
    · cases hr
theorem resVs_run (h : Sim c N s a w) : ∀ {rs : List ResultVar} {ys : List V}, resVs P s rs = some ys → ∃ vs, RelL c.I c.φ ys vs ∧ (rs.mapM (resRun a.tmps)).run P w = .ok vs w
  | [], ys, hy => by cases hy; exact ⟨[], .nil, by simp⟩
  | r :: rs, ys, hy => by
    unfold resVs at hy
    cases hr : resV P s r with
    | none => rw [hr] at hy; cases hy
    | some y =>
      cases hs : resVs P s rs with
      | none => rw [hr, hs] at hy; cases hy
      | some l =>
        rw [hr, hs] at hy
        cases hy
        obtain ⟨v, h1, h2⟩ := resV_run h hr
        obtain ⟨vs, h3, h4⟩ := resVs_run h hs
        exact ⟨v :: vs, .cons h1 h3, by simp only [List.mapM_cons, Sem.run_bind, h2, Result.andThen_ok, h4, Sem.run_pure]⟩
theorem results_run {fn : Func} {ys : List V} (h : Sim c N s a w) (hy : resVs P s fn.results.toList = some ys) : ∃ v, Rel c.I c.φ (tupV ys) v ∧ (results fn a.tmps).run P w = .ok v w := by
  obtain ⟨vs, h1, h2⟩ := resVs_run h hy
  have hm : (fn.results.mapM (resRun a.tmps)).run P w = .ok vs.toArray w := by
    rw [Array.mapM_eq_mapM_toList, Sem.run_map, h2]
    rfl
  have e0 : results fn a.tmps = (fn.results.mapM (resRun a.tmps)) >>= fun vs => pure (if h : vs.size = 1 then vs[0] else .tuple vs) := rfl
  refine ⟨if h : vs.toArray.size = 1 then vs.toArray[0] else .tuple vs.toArray, ?_, ?_⟩
  · clear h2 hm
    cases h1 with
    | nil => exact .tup (vs := #[]) .nil
    | cons k2 k3 =>
      cases k3 with
      | nil => exact k2
      | cons k3 k4 =>
        rw [dif_neg (by simp)]
        exact .tup (by simpa using RelL.cons k2 (.cons k3 k4))
  · rw [e0, Sem.run_bind, hm, Result.andThen_ok, Sem.run_pure]

/-- A function keeps its promise if its code does. -/
theorem AFn.intro {f : FuncId} {fn : Func} {code : Code} {xs : List V} {H : List Bk} {Q : V → List Bk → Prop} (hf : P.funcs[f]? = some fn) (hb : fn.body = some code) (hn : (fn.name == "runtime.NumGoroutine") = false)
    (hN : xs.length ≤ fn.ntmps) (h : AW P fn.ntmps code (afin P fn.results.toList Q) ⟨argsF 0 xs, H⟩) : AFn P f xs H Q := by
  refine ⟨⟨fn, hf, by rw [hb]; rfl, hn⟩, fun c w vs hi hs hr => ?_⟩
  refine calls_of_wp hf hb ?_
  have h0 : Sim c fn.ntmps ⟨argsF 0 xs, H⟩ { tmps := vs.toArray ++ Array.replicate (fn.ntmps - vs.toArray.size) undef, defers := [] } w := by
    refine ⟨hi, ?_, rfl, fun t x hx => ?_⟩
    · have := hr.len
      simp
      omega
    · obtain ⟨j, y, h1, h2, rfl⟩ := mem_argsF hx
      obtain ⟨v, h3, h4⟩ := hr.get h2
      refine ⟨v, ?_, h4⟩
      have ht : t = j := by omega
      subst ht
      have hlt : t < vs.toArray.size := by simpa using (List.getElem?_eq_some_iff.1 h3).1
      rw [Array.getElem?_append_left hlt]
      simpa using h3
  refine wp_mono (h c _ w h0) fun e a' w' he => ?_
  obtain ⟨c', s', k1, k2, k3⟩ := he
  have fin : aret P fn.results.toList s' Q → a'.defers = [] ∧ ∃ v, (results fn a'.tmps).run P w' = .ok v w' ∧ ∃ v_1 y H' c'_1, Ending.returned v = .returned v_1 ∧ Rel c'_1.I c'_1.φ y v_1 ∧ Inv c'_1 H' w' ∧ NoSlot c'_1 ∧ Ext c w c'_1 w' ∧ Q y H' := by
    intro k3
    unfold aret at k3
    obtain ⟨c2, l1, l2⟩ := Sim.shareF (F := s'.F) (H := s'.H) (xs := resTmps fn.results.toList) k1
    cases hy : resVs P ⟨shareF s'.F (resTmps fn.results.toList), s'.H⟩ fn.results.toList with
    | none => rw [hy] at k3; exact k3.elim
    | some ys =>
      rw [hy] at k3
      obtain ⟨v, m1, m2⟩ := results_run l1 hy
      exact ⟨k1.defers, v, m2, v, _, _, c2.hide, rfl, m1, l1.inv.hide, hide_noSlot c2, (k2.trans l2).trans (Ext.hide c2 w'), k3⟩
  cases e with
  | normal => exact fin k3
  | ret => exact fin k3
  | _ => exact k3.elim
end
end AM
end Go.Proofs.Ytoooldijnilpaaa
