/- Operations that lay or turn memory, over an abstract state. Plain lemmas, over any program. -/
import Derived.Test.YtoooldijnilpaaaAh
import Derived.Test.YtoooldijnilpaaaMix
namespace Go.Proofs.Ytoooldijnilpaaa
set_option linter.all false
open Go.RowKit
namespace AM
section
variable {P : Program} {c : Cx} {N : Nat} {s : St} {a : Act} {w : World} {K : St → Prop}

/-- What one operation does, alone. -/
def Acts (P : Program) (o : Oper) (a : Act) (w : World) (Q : Act → World → Prop) : Prop := o.wp P a w Q Mix.bot

theorem Reads.acts {o : Oper} {Q : Act → World → Prop} (h : Reads P o a w Q) : Acts P o a w Q := by
  obtain ⟨v, h1, h2⟩ := h
  unfold Acts Oper.wp
  rw [h1 w (fun _ => Agree.refl w)]
  exact h2
theorem acts_value {o : Oper} {Q : Act → World → Prop} {v : Value} {w' : World} (hr : (execOp a.eval o).run P w = .ok (.value v) w') (h : Q (a.put o.dst v) w') : Acts P o a w Q := by
  unfold Acts Oper.wp
  rw [hr]
  exact h
theorem acts_skip {o : Oper} {Q : Act → World → Prop} {w' : World} (hr : (execOp a.eval o).run P w = .ok .skip w') (h : Q (a.put o.dst undef) w') : Acts P o a w Q := by
  unfold Acts Oper.wp
  rw [hr]
  exact h

/-- Behind a step, slot by slot. -/
theorem Post.step {c' : Cx} {w' w'' : World} {a' : Act} (x : Ext c w c' w') (h : Post c' w' N K a' w'') : Post c w N K a' w'' := by
  obtain ⟨c2, s2, h1, h2, h3⟩ := h
  exact ⟨c2, s2, h1, x.trans h2, h3⟩

/-- One cell: no struct. -/
def V.one : V → Bool
  | .sc v => v.oneCell'
  | .agg _ => false
  | .tup _ => false
  | _ => true
theorem one_rel {I : Nat → Nat → Option Value} {φ : List Nat} {x : V} {v : Value} (h : Rel I φ x v) (h1 : x.one = true) : v.oneCell' = true := by
  cases h <;> first | exact h1 | rfl | (simp [V.one] at h1)
theorem one_relL {I : Nat → Nat → Option Value} {φ : List Nat} : ∀ {xs : List V} {vs : List Value}, RelL I φ xs vs → xs.all V.one = true → ∀ v ∈ vs, v.oneCell' = true
  | _, _, .nil, _ => fun v hv => by cases hv
  | _, _, .cons h k, h1 => fun v hv => by
    simp only [List.all_cons, Bool.and_eq_true] at h1
    rcases List.mem_cons.1 hv with rfl | hv
    · exact one_rel h h1.1
    · exact one_relL k h1.2 v hv

/-! ## alloc, box -/
def zeroT (P : Program) (t : TypeId) : Option Value := (P.info? t).bind (·.zero)
theorem run_zeroValue {t : TypeId} {z : Value} (h : zeroT P t = some z) (w : World) : (zeroValue t).run P w = .ok z w := by
  unfold zeroT at h
  unfold zeroValue typeInfo program
  cases hu : P.info? t with
  | none => rw [hu] at h; cases h
  | some d =>
    rw [hu] at h
    simp only [Option.bind_some] at h
    simp only [Sem.run_bind, Sem.run, Result.andThen_ok, hu, Sem.run_pure, h]
/-- The cells of a zero value. -/
def zeroCs (P : Program) (t : TypeId) : Option (List V) := match zeroT P t with
  | some z => bif z.cells.toList.all (·.oneCell') then some (z.cells.toList.map V.ofCell) else none
  | none => none
theorem run_newRow (e : TypeId) (cells : Array Value) (w : World) : (newRow e cells).run P w = .ok ⟨w.heap.size, 0, none⟩ (w.alloc (.cells cells e)) := by
  unfold newRow newObj
  simp only [Sem.run_bind, Sem.run, Result.andThen_ok, Sem.run_pure]
  rfl
def layK (N : Nat) (dst : Option Tmp) (cs : List V) (s : St) (K : St → Prop) : Prop := match dst with
  | some d => d < N ∧ K ⟨putF d (.v (.ptr s.H.length 0)) s.F, s.H ++ [.cells (cs.map .v)]⟩
  | none => False
theorem layK_post {dst : Option Tmp} {cs : List V} {arr : Array Value} {e : TypeId} (h : Sim c N s a w) (hk : layK N dst cs s K) (hc : RelL c.I c.φ cs arr.toList) (h1 : ∀ v ∈ arr.toList, v.oneCell' = true) :
    Post c w N K (a.put dst (.pointer (some ⟨w.heap.size, 0, none⟩))) (w.alloc (.cells arr e)) := by
  cases dst with
  | none => exact hk.elim
  | some d =>
    obtain ⟨k1, k2⟩ := hk
    have hs := Sim.lay (F := s.F) (H := s.H) (e := e) h hc h1
    have hp := lay_ptr h.inv w.heap.size
    exact ⟨_, _, hs.put k1 (x := .v (.ptr s.H.length 0)) trivial hp, (Ext.lay c w _).trans (Ext.free _ _ _), k2⟩

def aAlloc (P : Program) (N : Nat) (dst : Option Tmp) (t : TypeId) (s : St) (K : St → Prop) : Prop := match zeroCs P t with
  | some cs => layK N dst cs s K
  | none => False
theorem aAlloc_acts {o : Oper} {t : TypeId} (ho : o.op = .alloc t) (h : Sim c N s a w) (hk : aAlloc P N o.dst t s K) : Acts P o a w (Post c w N K) := by
  unfold aAlloc zeroCs at hk
  cases hz : zeroT P t with
  | none => rw [hz] at hk; exact hk.elim
  | some z =>
    rw [hz] at hk
    simp only at hk
    cases h1 : z.cells.toList.all (·.oneCell') with
    | false => rw [h1] at hk; exact hk.elim
    | true =>
      rw [h1] at hk
      simp only [cond_true] at hk
      refine acts_value (v := .pointer (some ⟨w.heap.size, 0, none⟩)) (w' := w.alloc (.cells z.cells t)) ?_ (layK_post h hk (relL_map ofCell_rel _) fun v hv => List.all_eq_true.1 h1 v hv)
      unfold execOp
      simp only [ho, Instr.alloc, Sem.run_bind, run_zeroValue hz, Result.andThen_ok, newVar, run_newRow, Sem.run_pure]
def aBox (N : Nat) (dst : Option Tmp) (x : Operand) (s : St) (K : St → Prop) : Prop := match evalV s x with
  | some y => (V.cells y).all V.one = true ∧ layK N dst (V.cells y) s K
  | none => False
theorem cells_rel {I : Nat → Nat → Option Value} {φ : List Nat} {y : V} {v : Value} (h : Rel I φ y v) (h1 : (V.cells y).all V.one = true) : RelL I φ (V.cells y) v.cells.toList := by
  cases h with
  | agg h => exact h
  | sc =>
    have : v.cells = #[v] := by
      cases v <;> first | rfl | (simp [V.cells, V.one, Value.oneCell'] at h1)
    rw [this]
    exact .cons (.sc _) .nil
  | tup h => simp [V.cells, V.one] at h1
  | nil => exact .cons .nil .nil
  | sl a1 a2 a3 a4 a5 a6 => exact .cons (.sl a1 a2 a3 a4 a5 a6) .nil
  | sl0 => exact .cons .sl0 .nil
  | rd a1 a2 a3 => exact .cons (.rd a1 a2 a3) .nil
  | ptr h => exact .cons (.ptr h) .nil
  | map h => exact .cons (.map h) .nil
  | fn a1 a2 => exact .cons (.fn a1 a2) .nil
  | iface h => exact .cons (.iface h) .nil
theorem aBox_acts {o : Oper} {t : TypeId} {x : Operand} (ho : o.op = .box t x) (h : Sim c N s a w) (hk : aBox N o.dst x s K) : Acts P o a w (Post c w N K) := by
  unfold aBox at hk
  cases hx : evalV s x with
  | none => rw [hx] at hk; exact hk.elim
  | some y =>
    rw [hx] at hk
    obtain ⟨h1, hk⟩ := hk
    have hc := cells_rel (evalV_rel h hx) h1
    refine acts_value (v := .pointer (some ⟨w.heap.size, 0, none⟩)) (w' := w.alloc (.cells (a.eval x).cells t)) ?_ (layK_post h hk hc (one_relL hc h1))
    unfold execOp
    simp only [ho, Instr.box, Sem.run_bind, Result.andThen_ok, newVar, run_newRow, Sem.run_pure]

/-! ## store -/
def setCells (H : List Bk) (id off : Nat) : List V → List Bk
  | [] => H
  | x :: xs => setCells (setBlk H id off (.v x)) id (off + 1) xs
/-- A row of the call's own is laid into a cell. -/
def aStoreOwn (P : Program) (t : TypeId) (x y : Operand) (s : St) (K : St → Prop) : Prop := match y, eval s y, eval s x, sizeT P t with
  | .tmp u, some (.own pr e n sz cs), some (.v (.ptr id off)), some m => m = 1 ∧ (match s.H[id]? with
    | some (.cells ks) => Nat.ble (off + 1) ks.length = true ∧ K ⟨delR (.cell id off) (del u s.F), setBlk s.H id off (.own pr e n sz cs)⟩
    | _ => False)
  | _, _, _, _ => False
def isOwn : Option SV → Bool
  | some (.own ..) => true
  | _ => false
def aStore (P : Program) (dst : Option Tmp) (t : TypeId) (x y : Operand) (s : St) (K : St → Prop) : Prop := dst = none ∧ bif isOwn (eval s y) then aStoreOwn P t x y s K else match eval s x, evalV s y, sizeT P t with
  | some (.v (.ptr id off)), some v, some n => (V.cells v).all V.one = true ∧ (V.cells v).length = n ∧ (match s.H[id]? with
    | some (.cells ks) => Nat.ble (off + n) ks.length = true ∧ K ⟨s.F, setCells s.H id off (V.cells v)⟩
    | _ => False)
  | some (.pth (.slot t) off), some v, some n => (V.cells v).all V.one = true ∧ (V.cells v).length = n ∧ (match getF t s.F with
    | some (.own true e m sz cs) => off + n ≤ cs.length ∧ K ⟨setF t (.own true e m sz (cs.take off ++ V.cells v ++ cs.drop (off + n))) s.F, s.H⟩
    | _ => False)
  | _, _, _ => False

theorem run_store1 {b o : Nat} {v u : Value} {arr : Array Value} {e : TypeId} (hb : w.heap[b]? = some (.cells arr e (0, 0))) (hu : arr[o]? = some u) (h1 : v.oneCell' = true) : (store ⟨b, o, none⟩ v).run P w = .ok () (w.setCell ⟨b, o, none⟩ v) := by
  rw [run_store P w _ v .plain h1]
  have hc : w.cell? ⟨b, o, none⟩ = some u := by simp [World.cell?, hb, hu]
  have hf : w.frozen? ⟨b, o, none⟩ = false := by simp [World.frozen?, hb]
  rw [hc, hf]
  simp

theorem setBlk_eq {H : List Bk} {id j : Nat} {x : SV} {cs : List SV} (hk : H[id]? = some (.cells cs)) : setBlk H id j x = H.set id (.cells (cs.set j x)) := by
  unfold setBlk
  rw [hk]

/-- Cells of a numbered block, one behind the other. -/
theorem storeCells_post {id b off : Nat} : ∀ (xs : List V) (vs : List Value) (i : Nat) {H : List Bk} {ks : List SV} {w : World} {F : Fr}, Sim c N ⟨F, H⟩ a w → c.φ[id]? = some b → H[id]? = some (.cells ks) → RelL c.I c.φ xs vs → (∀ v ∈ vs, v.oneCell' = true) →
    off + i + xs.length ≤ ks.length → ∃ w', (storeCells ⟨b, off, none⟩ vs i).run P w = .ok () w' ∧ Sim c N ⟨F, setCells H id (off + i) xs⟩ a w' ∧ Ext c w c w'
  | [], vs, i, H, ks, w, F, h, hb, hk, hr, h1, hl => by
    cases hr
    exact ⟨w, by simp [storeCells], h, Ext.refl c w⟩
  | x :: xs, vs, i, H, ks, w, F, h, hb, hk, hr, h1, hl => by
    cases hr with
    | cons hx hr =>
      rename_i v vs
      obtain ⟨g0, _, arr, e, g1, g2, _, _⟩ := h.inv.blk id b _ hb hk
      simp only [List.length_cons] at hl
      have hlt : off + i < arr.size := by omega
      have hv1 := h1 v (by simp)
      have hst := run_store1 (P := P) g1 (Array.getElem?_eq_getElem hlt) hv1
      have h2 := h.store (v := v) (x := x) (j := off + i) hb hk hv1 hx
      have hk2 : (H.set id (.cells (ks.set (off + i) (.v x))))[id]? = some (.cells (ks.set (off + i) (.v x))) := by
        rw [List.getElem?_set_self (List.getElem?_eq_some_iff.1 hk).1]
      obtain ⟨w', k1, k2, k3⟩ := storeCells_post (off := off) xs vs (i + 1) (ks := ks.set (off + i) (.v x)) h2 hb hk2 hr (fun u hu => h1 u (List.mem_cons_of_mem _ hu)) (by simp; omega)
      refine ⟨w', ?_, ?_, (Ext.store c w (by rw [g0]; simp)).trans k3⟩
      · unfold storeCells
        rw [add_eq, Sem.run_bind, hst, Result.andThen_ok, k1]
      · unfold setCells
        rw [setBlk_eq hk]
        exact k2
theorem getF_setF {t : Nat} {x y : SV} : ∀ {F : Fr}, getF t F = some y → getF t (setF t x F) = some x
  | [], h => by cases h
  | (k, z) :: F, h => by
    unfold getF at h
    cases hkt : k == t with
    | true => simp [setF, getF, hkt]
    | false =>
      rw [hkt] at h
      simp only [cond_false] at h
      simp only [setF, hkt, cond_false, getF]
      exact getF_setF h
theorem setF_setF {t : Nat} {x y : SV} : ∀ {F : Fr}, setF t x (setF t y F) = setF t x F
  | [] => rfl
  | (k, z) :: F => by
    cases hkt : k == t with
    | true => simp [setF, hkt, setF_setF (F := F)]
    | false => simp [setF, hkt, setF_setF (F := F)]
theorem pokeCells_post {t e m sz b off : Nat} : ∀ (xs : List V) (vs : List Value) (i : Nat) {cs : List V} {w : World} {F : Fr} {H : List Bk}, Sim c N ⟨F, H⟩ a w → getF t F = some (.own true e m sz cs) → c.R b = .own (.slot t) → RelL c.I c.φ xs vs → (∀ v ∈ vs, v.oneCell' = true) →
    off + i + xs.length ≤ cs.length → ∃ w', (storeCells ⟨b, off, none⟩ vs i).run P w = .ok () w' ∧ Sim c N ⟨setF t (.own true e m sz (cs.take (off + i) ++ xs ++ cs.drop (off + i + xs.length))) F, H⟩ a w' ∧ Ext c w c w'
  | [], vs, i, cs, w, F, H, h, ht, hb, hr, h1, hl => by
    cases hr
    refine ⟨w, by simp [storeCells], ?_, Ext.refl c w⟩
    simp only [List.append_nil, List.length_nil, Nat.add_zero, List.take_append_drop]
    exact ⟨h.inv, h.size, h.defers, fun k x hx => by
      rcases mem_setF hx with ⟨rfl, rfl⟩ | ⟨_, hx⟩
      · exact h.fr _ _ (mem_getF ht)
      · exact h.fr k x hx⟩
  | x :: xs, vs, i, cs, w, F, H, h, ht, hb, hr, h1, hl => by
    cases hr with
    | cons hx hr =>
      rename_i v vs
      simp only [List.length_cons] at hl
      have hv1 := h1 v (by simp)
      have hlt : off + i < cs.length := by omega
      obtain ⟨h2, h3⟩ := h.poke (t := t) (v := v) (x := x) (o := off + i) ht hb hlt hv1 hx
      obtain ⟨u, hu, h0, us, q1, q2, _, q3⟩ := h.fr t _ (mem_getF ht)
      have hst : (store ⟨b, off + i, none⟩ v).run P w = .ok () (w.setCell ⟨b, off + i, none⟩ v) := by
        rcases q2.2 with ⟨rfl, rfl⟩ | ⟨g, cap, cur, rfl, _, g1, g2, g3, g4, g5⟩
        · obtain ⟨rfl, rfl⟩ := nil_of q1 q2
          simp at hlt
        · have := h.inv.uniq g b _ (q3 g rfl).1 hb
          subst this
          have hc : off + i < cur.size := by
            have h6 := q2.1
            have h7 := q1.len
            have : m * sz ≤ cap * sz := Nat.mul_le_mul_right _ g2
            omega
          exact run_store1 g1 (Array.getElem?_eq_getElem hc) hv1
      have hg : getF t (setF t (.own true e m sz (cs.set (off + i) x)) F) = some (.own true e m sz (cs.set (off + i) x)) := getF_setF ht
      obtain ⟨w', k1, k2, k3⟩ := pokeCells_post (off := off) xs vs (i + 1) (cs := cs.set (off + i) x) h2 hg hb hr (fun u hu => h1 u (List.mem_cons_of_mem _ hu)) (by simp; omega)
      refine ⟨w', ?_, ?_, h3.trans k3⟩
      · unfold storeCells
        rw [add_eq, Sem.run_bind, hst, Result.andThen_ok, k1]
      · refine k2.sub fun p hp => ?_
        have e1 : (cs.set (off + i) x).take (off + (i + 1)) ++ xs ++ (cs.set (off + i) x).drop (off + (i + 1) + xs.length) = cs.take (off + i) ++ (x :: xs) ++ cs.drop (off + i + (xs.length + 1)) := by
          rw [show off + (i + 1) = off + i + 1 by omega, List.drop_set_of_lt (by omega), List.take_set, List.take_succ_eq_append_getElem hlt]
          rw [List.set_append, if_neg (by simp; omega), List.length_take, Nat.min_eq_left (by omega), Nat.sub_self]
          simp only [List.set_cons_zero, List.append_assoc, List.cons_append, List.nil_append]
          rw [show off + i + 1 + xs.length = off + i + (xs.length + 1) by omega]
        rw [e1]
        rw [setF_setF]
        exact hp

theorem aStore_acts {o : Oper} {t : TypeId} {x y : Operand} (ho : o.op = .store t x y) (h : Sim c N s a w) (hk : aStore P o.dst t x y s K) : Acts P o a w (Post c w N K) := by
  obtain ⟨hd, hk⟩ := hk
  cases hio : isOwn (eval s y) with
  | true =>
    rw [hio] at hk
    simp only [cond_true] at hk
    unfold aStoreOwn at hk
    split at hk
    · rename_i u pr e n sz cs id off m hx hn hy
      obtain ⟨rfl, hk⟩ := hk
      cases hb' : s.H[id]? with
      | none => rw [hb'] at hk; exact hk.elim
      | some blk =>
        by_cases hck : ∃ cs, blk = .cells cs
        rotate_left
        · rw [hb'] at hk; cases blk <;> first | exact absurd ⟨_, rfl⟩ hck | cases hk | exact hk.elim
        obtain ⟨ks, rfl⟩ := hck
        rw [hb'] at hk
        obtain ⟨h3, hk⟩ := hk
        have h3 := Nat.le_of_ble_eq_true h3
        have hp := eval_any h hx (fun _ _ _ _ _ e => by cases e) (.slot 0)
        generalize hv : a.eval x = q at hp
        cases hp with
        | ptr hb =>
          rename_i b
          obtain ⟨c', v, k1, k2, k3, k4⟩ := Sim.place (F := s.F) (H := s.H) h hy hb hb' (off := off) (by omega)
          obtain ⟨_, _, arr, e', g1, g2, _, _⟩ := h.inv.blk id b _ hb hb'
          have hst := run_store1 (P := P) g1 (Array.getElem?_eq_getElem (i := off) (by omega)) k2
          refine acts_skip (w' := w.setCell ⟨b, off, none⟩ v) ?_ ⟨c', _, by rw [hd]; exact k3, k4, hk⟩
          have ev : a.eval (.tmp u) = v := by simp [Act.eval, k1]
          have hsz : v.cells = #[v] := by cases v <;> first | rfl | (simp [Value.oneCell'] at k2)
          unfold execOp
          simp only [ho, hv, ev, Instr.storeAt, Instr.sureAddr, Sem.run_bind, Sem.run_pure, Result.andThen_ok, storeVar, run_sizeOf hn, hsz]
          simp [storeCells, add_eq, hst]
    · exact hk.elim
  | false =>
  rw [hio] at hk
  simp only [cond_false] at hk
  split at hk
  · rename_i id off v n hx hy hn
    obtain ⟨h1, h2, hk⟩ := hk
    cases hb' : s.H[id]? with
    | none => rw [hb'] at hk; exact hk.elim
    | some blk =>
      by_cases hck : ∃ cs, blk = .cells cs
      rotate_left
      · rw [hb'] at hk; cases blk <;> first | exact absurd ⟨_, rfl⟩ hck | cases hk | exact hk.elim
      obtain ⟨ks, rfl⟩ := hck
      rw [hb'] at hk
      obtain ⟨h3, hk⟩ := hk
      have h3 := Nat.le_of_ble_eq_true h3
      have hp := eval_any h hx (fun _ _ _ _ _ e => by cases e) (.slot 0)
      generalize hv : a.eval x = u at hp
      cases hp with
      | ptr hb =>
        rename_i b
        have hc := cells_rel (evalV_rel h hy) h1
        obtain ⟨w', k1, k2, k3⟩ := storeCells_post (P := P) (off := off) (V.cells v) (a.eval y).cells.toList 0 (F := s.F) h hb hb' hc (one_relL hc h1) (by omega)
        refine acts_skip (w' := w') ?_ ⟨c, _, by rw [hd]; exact k2, k3, by simpa using hk⟩
        have hsz : (a.eval y).cells.size = n := by rw [← h2, hc.len]; simp
        unfold execOp
        simp only [ho, hv, Instr.storeAt, Instr.sureAddr, Sem.run_bind, Sem.run_pure, Result.andThen_ok, storeVar, run_sizeOf hn]
        rw [if_neg (by simpa using hsz), k1]
        simp
  · rename_i t' off v n hx hy hn
    obtain ⟨h1, h2, hk⟩ := hk
    split at hk
    · rename_i e m sz cs ht
      obtain ⟨h3, hk⟩ := hk
      obtain ⟨b, hv, hb⟩ := eval_any h hx (fun _ _ _ _ _ e => by cases e) (.slot 0)
      have hc := cells_rel (evalV_rel h hy) h1
      obtain ⟨w', k1, k2, k3⟩ := pokeCells_post (P := P) (off := off) (V.cells v) (a.eval y).cells.toList 0 (F := s.F) (H := s.H) h ht hb hc (one_relL hc h1) (by omega)
      have e1 : (V.cells v).length = n := h2
      simp only [Nat.add_zero, e1] at k2
      refine acts_skip (w' := w') ?_ ⟨c, _, by rw [hd]; exact k2, k3, hk⟩
      have hsz : (a.eval y).cells.size = n := by rw [← h2, hc.len]; simp
      unfold execOp
      simp only [ho, hv, Instr.storeAt, Instr.sureAddr, Sem.run_bind, Sem.run_pure, Result.andThen_ok, storeVar, run_sizeOf hn]
      rw [if_neg (by simpa using hsz), k1]
      simp
    · exact hk.elim
  · exact hk.elim
end
end AM
end Go.Proofs.Ytoooldijnilpaaa
