/- Operations over an abstract state: what acts, and what is reckoned. Plain lemmas, over any program. -/
import Derived.Test.YtmjnffjacgjfmaaAf1
import Derived.Test.YtmjnffjacgjfmaaMix
import Derived.Maps.AppendAt
import Derived.Laws.MakeOwn
namespace Go.Proofs.Ytmjnffjacgjfmaa
set_option linter.all false
open Go.RowKit
namespace AM
section
variable {P : Program} {c : Cx} {N : Nat} {s : St} {a : Act} {w : World} {K : St → Prop}

/-- What one operation does, alone. -/
def Acts (P : Program) (o : Oper) (a : Act) (w : World) (Q : Act → World → Prop) : Prop := o.wp P a w Q Mix.bot

theorem Reads.acts {o : Oper} {Q : Act → World → Prop} (h : Reads P o a w Q) : Acts P o a w Q := by
  obtain ⟨v, h1, h2⟩ := h
  unfold Acts Oper.wp
  rw [h1 w (fun _ => Agree.refl w)]
  exact h2
theorem acts_value {o : Oper} {Q : Act → World → Prop} {v : Value} {w' : World} (hr : (execOp a.eval o).run P w = .ok (.value v) w') (h : Q (a.put o.dst v) w') : Acts P o a w Q := by
  unfold Acts Oper.wp
  rw [hr]
  exact h
theorem acts_skip {o : Oper} {Q : Act → World → Prop} {w' : World} (hr : (execOp a.eval o).run P w = .ok .skip w') (h : Q (a.put o.dst undef) w') : Acts P o a w Q := by
  unfold Acts Oper.wp
  rw [hr]
  exact h

/-- Behind a step, slot by slot. -/
theorem Post.step {c' : Cx} {w' w'' : World} {a' : Act} (x : Ext c w c' w') (h : Post c' w' N K a' w'') : Post c w N K a' w'' := by
  obtain ⟨c2, s2, h1, h2, h3⟩ := h
  exact ⟨c2, s2, h1, x.trans h2, h3⟩

/-- One cell: no struct. -/
def V.one : V → Bool
  | .sc v => v.oneCell'
  | .agg _ => false
  | .tup _ => false
  | _ => true
theorem one_rel {I : Nat → Nat → Option Value} {φ : List Nat} {x : V} {v : Value} (h : Rel I φ x v) (h1 : x.one = true) : v.oneCell' = true := by
  cases h <;> first | exact h1 | rfl | (simp [V.one] at h1)
theorem one_relL {I : Nat → Nat → Option Value} {φ : List Nat} : ∀ {xs : List V} {vs : List Value}, RelL I φ xs vs → xs.all V.one = true → ∀ v ∈ vs, v.oneCell' = true
  | _, _, .nil, _ => fun v hv => by cases hv
  | _, _, .cons h k, h1 => fun v hv => by
    simp only [List.all_cons, Bool.and_eq_true] at h1
    rcases List.mem_cons.1 hv with rfl | hv
    · exact one_rel h h1.1
    · exact one_relL k h1.2 v hv

/-! ## alloc, box -/
def zeroT (P : Program) (t : TypeId) : Option Value := (P.info? t).bind (·.zero)
theorem run_zeroValue {t : TypeId} {z : Value} (h : zeroT P t = some z) (w : World) : (zeroValue t).run P w = .ok z w := by
  unfold zeroT at h
  unfold zeroValue typeInfo program
  cases hu : P.info? t with
  | none => rw [hu] at h; cases h
  | some d =>
    rw [hu] at h
    simp only [Option.bind_some] at h
    simp only [Sem.run_bind, Sem.run, Result.andThen_ok, hu, Sem.run_pure, h]
/-- The cells of a zero value. -/
def zeroCs (P : Program) (t : TypeId) : Option (List V) := match zeroT P t with
  | some z => bif z.cells.toList.all (·.oneCell') then some (z.cells.toList.map V.ofCell) else none
  | none => none
theorem run_newRow (e : TypeId) (cells : Array Value) (w : World) : (newRow e cells).run P w = .ok ⟨w.heap.size, 0, none⟩ (w.alloc (.cells cells e)) := by
  unfold newRow newObj
  simp only [Sem.run_bind, Sem.run, Result.andThen_ok, Sem.run_pure]
  rfl
def layK (N : Nat) (dst : Option Tmp) (cs : List V) (s : St) (K : St → Prop) : Prop := match dst with
  | some d => d < N ∧ K ⟨putF d (.v (.ptr s.H.length 0)) s.F, s.H ++ [.cells (cs.map .v)]⟩
  | none => False
theorem layK_post {dst : Option Tmp} {cs : List V} {arr : Array Value} {e : TypeId} (h : Sim c N s a w) (hk : layK N dst cs s K) (hc : RelL c.I c.φ cs arr.toList) (h1 : ∀ v ∈ arr.toList, v.oneCell' = true) :
    Post c w N K (a.put dst (.pointer (some ⟨w.heap.size, 0, none⟩))) (w.alloc (.cells arr e)) := by
  cases dst with
  | none => exact hk.elim
  | some d =>
    obtain ⟨k1, k2⟩ := hk
    have hs := Sim.lay (F := s.F) (H := s.H) (e := e) h hc h1
    have hp := lay_ptr h.inv w.heap.size
    exact ⟨_, _, hs.put k1 (x := .v (.ptr s.H.length 0)) trivial hp, (Ext.lay c w _).trans (Ext.free _ _ _), k2⟩

def aAlloc (P : Program) (N : Nat) (dst : Option Tmp) (t : TypeId) (s : St) (K : St → Prop) : Prop := match zeroCs P t with
  | some cs => layK N dst cs s K
  | none => False
theorem aAlloc_acts {o : Oper} {t : TypeId} (ho : o.op = .alloc t) (h : Sim c N s a w) (hk : aAlloc P N o.dst t s K) : Acts P o a w (Post c w N K) := by
  unfold aAlloc zeroCs at hk
  cases hz : zeroT P t with
  | none => rw [hz] at hk; exact hk.elim
  | some z =>
    rw [hz] at hk
    simp only at hk
    cases h1 : z.cells.toList.all (·.oneCell') with
    | false => rw [h1] at hk; exact hk.elim
    | true =>
      rw [h1] at hk
      simp only [cond_true] at hk
      refine acts_value (v := .pointer (some ⟨w.heap.size, 0, none⟩)) (w' := w.alloc (.cells z.cells t)) ?_ (layK_post h hk (relL_map ofCell_rel _) fun v hv => List.all_eq_true.1 h1 v hv)
      unfold execOp
      simp only [ho, Instr.alloc, Sem.run_bind, run_zeroValue hz, Result.andThen_ok, newVar, run_newRow, Sem.run_pure]
def aBox (N : Nat) (dst : Option Tmp) (x : Operand) (s : St) (K : St → Prop) : Prop := match evalV s x with
  | some y => (V.cells y).all V.one = true ∧ layK N dst (V.cells y) s K
  | none => False
theorem cells_rel {I : Nat → Nat → Option Value} {φ : List Nat} {y : V} {v : Value} (h : Rel I φ y v) (h1 : (V.cells y).all V.one = true) : RelL I φ (V.cells y) v.cells.toList := by
  cases h with
  | agg h => exact h
  | sc =>
    have : v.cells = #[v] := by
      cases v <;> first | rfl | (simp [V.cells, V.one, Value.oneCell'] at h1)
    rw [this]
    exact .cons (.sc _) .nil
  | tup h => simp [V.cells, V.one] at h1
  | nil => exact .cons .nil .nil
  | sl a1 a2 a3 a4 a5 a6 => exact .cons (.sl a1 a2 a3 a4 a5 a6) .nil
  | sl0 => exact .cons .sl0 .nil
  | rd a1 a2 a3 => exact .cons (.rd a1 a2 a3) .nil
  | ptr h => exact .cons (.ptr h) .nil
  | map h => exact .cons (.map h) .nil
  | fn a1 a2 => exact .cons (.fn a1 a2) .nil
  | iface h => exact .cons (.iface h) .nil
  | fs a1 a2 a3 a4 a5 => exact .cons (.fs a1 a2 a3 a4 a5) .nil
  | fs0 => exact .cons .fs0 .nil
  | slb a1 a2 a3 => exact .cons (.slb a1 a2 a3) .nil
  | slb0 => exact .cons .slb0 .nil
theorem aBox_acts {o : Oper} {t : TypeId} {x : Operand} (ho : o.op = .box t x) (h : Sim c N s a w) (hk : aBox N o.dst x s K) : Acts P o a w (Post c w N K) := by
  unfold aBox at hk
  cases hx : evalV s x with
  | none => rw [hx] at hk; exact hk.elim
  | some y =>
    rw [hx] at hk
    obtain ⟨h1, hk⟩ := hk
    have hc := cells_rel (evalV_rel h hx) h1
    refine acts_value (v := .pointer (some ⟨w.heap.size, 0, none⟩)) (w' := w.alloc (.cells (a.eval x).cells t)) ?_ (layK_post h hk hc (one_relL hc h1))
    unfold execOp
    simp only [ho, Instr.box, Sem.run_bind, Result.andThen_ok, newVar, run_newRow, Sem.run_pure]

/-! ## store -/
def setCells (H : List Bk) (id off : Nat) : List V → List Bk
  | [] => H
  | x :: xs => setCells (setBlk H id off (.v x)) id (off + 1) xs
/-- A row of the call's own is laid into a cell. -/
def aStoreOwn (P : Program) (t : TypeId) (x y : Operand) (s : St) (K : St → Prop) : Prop := match y, eval s y, eval s x, sizeT P t with
  | .tmp u, some (.own pr e n sz cs), some (.v (.ptr id off)), some m => m = 1 ∧ (match s.H[id]? with
    | some (.cells ks) => Nat.ble (off + 1) ks.length = true ∧ K ⟨delR (.cell id off) (del u s.F), setBlk s.H id off (.own pr e n sz cs)⟩
    | _ => False)
  | _, _, _, _ => False
def isOwn : Option SV → Bool
  | some (.own ..) => true
  | _ => false
def aStore (P : Program) (dst : Option Tmp) (t : TypeId) (x y : Operand) (s : St) (K : St → Prop) : Prop := dst = none ∧ bif isOwn (eval s y) then aStoreOwn P t x y s K else match eval s x, evalV s y, sizeT P t with
  | some (.v (.ptr id off)), some v, some n => (V.cells v).all V.one = true ∧ (V.cells v).length = n ∧ (match s.H[id]? with
    | some (.cells ks) => Nat.ble (off + n) ks.length = true ∧ K ⟨s.F, setCells s.H id off (V.cells v)⟩
    | _ => False)
  | some (.pth (.slot t) off), some v, some n => (V.cells v).all V.one = true ∧ (V.cells v).length = n ∧ (match getF t s.F with
    | some (.own true e m sz cs) => off + n ≤ cs.length ∧ K ⟨setF t (.own true e m sz (cs.take off ++ V.cells v ++ cs.drop (off + n))) s.F, s.H⟩
    | _ => False)
  | some (.pth (.cell id j) off), some v, some n => (V.cells v).all V.one = true ∧ (V.cells v).length = n ∧ (match s.H[id]? with
    | some (.cells ks) => (match ks[j]? with
      | some (.own true e m sz cs) => off + n ≤ cs.length ∧ K ⟨s.F, setBlk s.H id j (.own true e m sz (cs.take off ++ V.cells v ++ cs.drop (off + n)))⟩
      | _ => False)
    | _ => False)
  | _, _, _ => False

theorem run_store1 {b o : Nat} {v u : Value} {arr : Array Value} {e : TypeId} (hb : w.heap[b]? = some (.cells arr e (0, 0))) (hu : arr[o]? = some u) (h1 : v.oneCell' = true) : (store ⟨b, o, none⟩ v).run P w = .ok () (w.setCell ⟨b, o, none⟩ v) := by
  rw [run_store P w _ v .plain h1]
  have hc : w.cell? ⟨b, o, none⟩ = some u := by simp [World.cell?, hb, hu]
  have hf : w.frozen? ⟨b, o, none⟩ = false := by simp [World.frozen?, hb]
  rw [hc, hf]
  simp

theorem setBlk_eq {H : List Bk} {id j : Nat} {x : SV} {cs : List SV} (hk : H[id]? = some (.cells cs)) : setBlk H id j x = H.set id (.cells (cs.set j x)) := by
  unfold setBlk
  rw [hk]

/-- Cells of a numbered block, one behind the other. -/
theorem storeCells_post {id b off : Nat} : ∀ (xs : List V) (vs : List Value) (i : Nat) {H : List Bk} {ks : List SV} {w : World} {F : Fr}, Sim c N ⟨F, H⟩ a w → c.φ[id]? = some b → H[id]? = some (.cells ks) → RelL c.I c.φ xs vs → (∀ v ∈ vs, v.oneCell' = true) →
    off + i + xs.length ≤ ks.length → ∃ w', (storeCells ⟨b, off, none⟩ vs i).run P w = .ok () w' ∧ Sim c N ⟨F, setCells H id (off + i) xs⟩ a w' ∧ Ext c w c w'
  | [], vs, i, H, ks, w, F, h, hb, hk, hr, h1, hl => by
    cases hr
    exact ⟨w, by simp [storeCells], h, Ext.refl c w⟩
  | x :: xs, vs, i, H, ks, w, F, h, hb, hk, hr, h1, hl => by
    cases hr with
    | cons hx hr =>
      rename_i v vs
      obtain ⟨g0, _, arr, e, g1, g2, _, _⟩ := h.inv.blk id b _ hb hk
      simp only [List.length_cons] at hl
      have hlt : off + i < arr.size := by omega
      have hv1 := h1 v (by simp)
      have hst := run_store1 (P := P) g1 (Array.getElem?_eq_getElem hlt) hv1
      have h2 := h.store (v := v) (x := x) (j := off + i) hb hk hv1 hx
      have hk2 : (H.set id (.cells (ks.set (off + i) (.v x))))[id]? = some (.cells (ks.set (off + i) (.v x))) := by
        rw [List.getElem?_set_self (List.getElem?_eq_some_iff.1 hk).1]
      obtain ⟨w', k1, k2, k3⟩ := storeCells_post (off := off) xs vs (i + 1) (ks := ks.set (off + i) (.v x)) h2 hb hk2 hr (fun u hu => h1 u (List.mem_cons_of_mem _ hu)) (by simp; omega)
      refine ⟨w', ?_, ?_, (Ext.store c w (by rw [g0]; simp)).trans k3⟩
      · unfold storeCells
        rw [add_eq, Sem.run_bind, hst, Result.andThen_ok, k1]
      · unfold setCells
        rw [setBlk_eq hk]
        exact k2
theorem getF_setF {t : Nat} {x y : SV} : ∀ {F : Fr}, getF t F = some y → getF t (setF t x F) = some x
  | [], h => by cases h
  | (k, z) :: F, h => by
    unfold getF at h
    cases hkt : k == t with
    | true => simp [setF, getF, hkt]
    | false =>
      rw [hkt] at h
      simp only [cond_false] at h
      simp only [setF, hkt, cond_false, getF]
      exact getF_setF h
theorem setF_setF {t : Nat} {x y : SV} : ∀ {F : Fr}, setF t x (setF t y F) = setF t x F
  | [] => rfl
  | (k, z) :: F => by
    cases hkt : k == t with
    | true => simp [setF, hkt, setF_setF (F := F)]
    | false => simp [setF, hkt, setF_setF (F := F)]
theorem pokeCells_post {t e m sz b off : Nat} : ∀ (xs : List V) (vs : List Value) (i : Nat) {cs : List V} {w : World} {F : Fr} {H : List Bk}, Sim c N ⟨F, H⟩ a w → getF t F = some (.own true e m sz cs) → c.R b = .own (.slot t) → RelL c.I c.φ xs vs → (∀ v ∈ vs, v.oneCell' = true) →
    off + i + xs.length ≤ cs.length → ∃ w', (storeCells ⟨b, off, none⟩ vs i).run P w = .ok () w' ∧ Sim c N ⟨setF t (.own true e m sz (cs.take (off + i) ++ xs ++ cs.drop (off + i + xs.length))) F, H⟩ a w' ∧ Ext c w c w'
  | [], vs, i, cs, w, F, H, h, ht, hb, hr, h1, hl => by
    cases hr
    refine ⟨w, by simp [storeCells], ?_, Ext.refl c w⟩
    simp only [List.append_nil, List.length_nil, Nat.add_zero, List.take_append_drop]
    exact ⟨h.inv, h.size, h.defers, fun k x hx => by
      rcases mem_setF hx with ⟨rfl, rfl⟩ | ⟨_, hx⟩
      · exact h.fr _ _ (mem_getF ht)
      · exact h.fr k x hx⟩
  | x :: xs, vs, i, cs, w, F, H, h, ht, hb, hr, h1, hl => by
    cases hr with
    | cons hx hr =>
      rename_i v vs
      simp only [List.length_cons] at hl
      have hv1 := h1 v (by simp)
      have hlt : off + i < cs.length := by omega
      obtain ⟨h2, h3⟩ := h.poke (t := t) (v := v) (x := x) (o := off + i) ht hb hlt hv1 hx
      obtain ⟨u, hu, h0, us, q1, q2, _, q3⟩ := h.fr t _ (mem_getF ht)
      have hst : (store ⟨b, off + i, none⟩ v).run P w = .ok () (w.setCell ⟨b, off + i, none⟩ v) := by
        rcases q2.2 with ⟨rfl, rfl⟩ | ⟨g, cap, cur, rfl, _, g1, g2, g3, g4, g5⟩
        · obtain ⟨rfl, rfl⟩ := nil_of q1 q2
          simp at hlt
        · have := h.inv.uniq g b _ (q3 g rfl).1 hb
          subst this
          have hc : off + i < cur.size := by
            have h6 := q2.1
            have h7 := q1.len
            have : m * sz ≤ cap * sz := Nat.mul_le_mul_right _ g2
            omega
          exact run_store1 g1 (Array.getElem?_eq_getElem hc) hv1
      have hg : getF t (setF t (.own true e m sz (cs.set (off + i) x)) F) = some (.own true e m sz (cs.set (off + i) x)) := getF_setF ht
      obtain ⟨w', k1, k2, k3⟩ := pokeCells_post (off := off) xs vs (i + 1) (cs := cs.set (off + i) x) h2 hg hb hr (fun u hu => h1 u (List.mem_cons_of_mem _ hu)) (by simp; omega)
      refine ⟨w', ?_, ?_, h3.trans k3⟩
      · unfold storeCells
        rw [add_eq, Sem.run_bind, hst, Result.andThen_ok, k1]
      · refine k2.sub fun p hp => ?_
        have e1 : (cs.set (off + i) x).take (off + (i + 1)) ++ xs ++ (cs.set (off + i) x).drop (off + (i + 1) + xs.length) = cs.take (off + i) ++ (x :: xs) ++ cs.drop (off + i + (xs.length + 1)) := by
          rw [show off + (i + 1) = off + i + 1 by omega, List.drop_set_of_lt (by omega), List.take_set, List.take_succ_eq_append_getElem hlt]
          rw [List.set_append, if_neg (by simp; omega), List.length_take, Nat.min_eq_left (by omega), Nat.sub_self]
          simp only [List.set_cons_zero, List.append_assoc, List.cons_append, List.nil_append]
          rw [show off + i + 1 + xs.length = off + i + (xs.length + 1) by omega]
        rw [e1]
        rw [setF_setF]
        exact hp

/-- A cell of the row that a block's cell holds is turned. -/
theorem Sim.pokeCell {id j e n sz o : Nat} {ks : List SV} {cs : List V} {x : V} {b : Nat} {v : Value} {F : Fr} {H : List Bk} (h : Sim c N ⟨F, H⟩ a w) (hk : H[id]? = some (.cells ks)) (hj : ks[j]? = some (.own true e n sz cs)) (hb : c.R b = .own (.cell id j)) (ho : o < cs.length) (hv1 : v.oneCell' = true) (hx : Rel c.I c.φ x v) :
    Sim c N ⟨F, H.set id (.cells (ks.set j (.own true e n sz (cs.set o x))))⟩ a (w.setCell ⟨b, o, none⟩ v) ∧ Ext c w c (w.setCell ⟨b, o, none⟩ v) := by
  have hidl := (List.getElem?_eq_some_iff.1 hk).1
  obtain ⟨b0, hb0⟩ : ∃ b0, c.φ[id]? = some b0 := by
    have h2 := h.inv.len
    exact ⟨c.φ[id], List.getElem?_eq_getElem (by rw [h2]; exact hidl)⟩
  obtain ⟨r0, i0, arr, e0, g1, g2, g6, g3⟩ := h.inv.blk id b0 _ hb0 hk
  have hjl := (List.getElem?_eq_some_iff.1 hj).1
  have hja : j < arr.size := by omega
  obtain ⟨f0, h0, vs, h1, h2, h6, h3⟩ := g3 j _ _ hj (Array.getElem?_eq_getElem hja)
  have hblk : arr[j].ownBlock = some b := by
    generalize arr[j] = u at *
    rcases h2.2 with ⟨rfl, rfl⟩ | ⟨g, cap, cur, rfl, _⟩
    · obtain ⟨rfl, rfl⟩ := nil_of h1 h2
      simp at ho
    · have := h.inv.uniq g b _ (h3 g rfl).1 hb
      subst this
      rfl
  obtain ⟨_, k2⟩ := h3 b hblk
  have k2' : ∀ o, c.I b o = none := fun o => by rw [k2]; rfl
  have hne0 : b0 ≠ b := by rintro rfl; rw [r0] at hb; cases hb
  refine ⟨⟨⟨fun b' o' u hu => ?_, by rw [List.length_set]; exact h.inv.len, fun b' hb' => by rw [size_set]; exact h.inv.lt b' hb', h.inv.uniq, fun id' b' k hb' hk' => ?_⟩, h.size, h.defers, fun k y hy => ?_⟩, Ext.store c w (by rw [hb]; simp)⟩
  · have hne : b' ≠ b := by rintro rfl; rw [k2'] at hu; cases hu
    rw [World.cell?_of_block (a := ⟨b', o', none⟩) (heap_set_other (w := w) (p := ⟨b, o, none⟩) (u := v) hne)]
    exact h.inv.imm b' o' u hu
  · by_cases hid : id = id'
    · subst hid
      rw [List.getElem?_set_self hidl] at hk'
      cases hk'
      rw [hb0] at hb'
      cases hb'
      refine ⟨r0, i0, arr, e0, (heap_set_other (w := w) (p := ⟨b, o, none⟩) (u := v) hne0).trans g1, by rw [List.length_set]; exact g2, g6, fun i y u hy hu => ?_⟩
      by_cases hij : j = i
      · subst hij
        rw [List.getElem?_set_self hjl] at hy
        cases hy
        rw [Array.getElem?_eq_getElem hja] at hu
        cases hu
        refine ⟨rfl, h0, vs.set o v, h1.set o hx, own_set h2 hblk (by rw [← h1.len]; exact ho), fun u hu => (List.mem_or_eq_of_mem_set hu).elim (h6 u) (fun e => e ▸ hv1), fun b' hb' => ?_⟩
        obtain ⟨k3, k4⟩ := h3 b' hb'
        exact ⟨k3, fun o => by rw [k4]; rfl⟩
      · rw [List.getElem?_set_ne hij] at hy
        obtain ⟨q1, q2⟩ := g3 i y u hy hu
        exact ⟨q1, q2.apart hb (by intro e; cases e; exact hij rfl)⟩
    · rw [List.getElem?_set_ne hid] at hk'
      obtain ⟨q1, q2, q3⟩ := h.inv.blk id' b' k hb' hk'
      have hneb : b' ≠ b := by rintro rfl; rw [q1] at hb; cases hb
      refine ⟨q1, q2, ?_⟩
      by_cases hck : ∃ cs, k = .cells cs
      rotate_left
      · exact BRel.stay (fun cs e => hck ⟨cs, e⟩) q3 (fun _ _ _ h => h) (fun _ _ h => h) (fun _ _ h ho => set_obj h ho)
      obtain ⟨cs', rfl⟩ := hck
      obtain ⟨arr', e', p1, p2, p6, p3⟩ := q3
      refine ⟨arr', e', (heap_set_other (w := w) (p := ⟨b, o, none⟩) (u := v) hneb).trans p1, p2, p6, fun i y u hy hu => ?_⟩
      obtain ⟨q1, q2⟩ := p3 i y u hy hu
      exact ⟨q1, q2.apart hb (by intro e; cases e; exact hid rfl)⟩
  · obtain ⟨u', hu', hs⟩ := h.fr k y hy
    exact ⟨u', hu', hs.apart hb (by simp)⟩
theorem pokeCellsB_post {id j e m sz b off : Nat} : ∀ (xs : List V) (vs : List Value) (i : Nat) {ks : List SV} {cs : List V} {w : World} {F : Fr} {H : List Bk}, Sim c N ⟨F, H⟩ a w → H[id]? = some (.cells ks) → ks[j]? = some (.own true e m sz cs) → c.R b = .own (.cell id j) → RelL c.I c.φ xs vs → (∀ v ∈ vs, v.oneCell' = true) →
    off + i + xs.length ≤ cs.length → ∃ w', (storeCells ⟨b, off, none⟩ vs i).run P w = .ok () w' ∧ Sim c N ⟨F, H.set id (.cells (ks.set j (.own true e m sz (cs.take (off + i) ++ xs ++ cs.drop (off + i + xs.length)))))⟩ a w' ∧ Ext c w c w'
  | [], vs, i, ks, cs, w, F, H, h, hk, hj, hb, hr, h1, hl => by
    cases hr
    refine ⟨w, by simp [storeCells], ?_, Ext.refl c w⟩
    simp only [List.append_nil, List.length_nil, Nat.add_zero, List.take_append_drop]
    have e1 : ks.set j (.own true e m sz cs) = ks := by
      obtain ⟨hl, hg⟩ := List.getElem?_eq_some_iff.1 hj
      rw [← hg, List.set_getElem_self]
    have e2 : H.set id (.cells ks) = H := by
      obtain ⟨hl, hg⟩ := List.getElem?_eq_some_iff.1 hk
      rw [← hg, List.set_getElem_self]
    rw [e1, e2]
    exact h
  | x :: xs, vs, i, ks, cs, w, F, H, h, hk, hj, hb, hr, h1, hl => by
    cases hr with
    | cons hx hr =>
      rename_i v vs
      simp only [List.length_cons] at hl
      have hv1 := h1 v (by simp)
      have hlt : off + i < cs.length := by omega
      obtain ⟨h2, h3⟩ := h.pokeCell (v := v) (x := x) (o := off + i) hk hj hb hlt hv1 hx
      have hst : (store ⟨b, off + i, none⟩ v).run P w = .ok () (w.setCell ⟨b, off + i, none⟩ v) := by
        have hidl := (List.getElem?_eq_some_iff.1 hk).1
        obtain ⟨b0, hb0⟩ : ∃ b0, c.φ[id]? = some b0 := by
          have h2 := h.inv.len
          exact ⟨c.φ[id], List.getElem?_eq_getElem (by rw [h2]; exact hidl)⟩
        obtain ⟨r0, i0, arr, e0, g1, g2, g6, g3⟩ := h.inv.blk id b0 _ hb0 hk
        have hjl := (List.getElem?_eq_some_iff.1 hj).1
        have hja : j < arr.size := by omega
        obtain ⟨f0, h0, us, q1, q2, _, q3⟩ := g3 j _ _ hj (Array.getElem?_eq_getElem hja)
        generalize arr[j] = u at *
        rcases q2.2 with ⟨rfl, rfl⟩ | ⟨g, cap, cur, rfl, _, g1, g2, g3, g4, g5⟩
        · obtain ⟨rfl, rfl⟩ := nil_of q1 q2
          simp at hlt
        · have := h.inv.uniq g b _ (q3 g rfl).1 hb
          subst this
          have hc : off + i < cur.size := by
            have h6 := q2.1
            have h7 := q1.len
            have : m * sz ≤ cap * sz := Nat.mul_le_mul_right _ g2
            omega
          exact run_store1 g1 (Array.getElem?_eq_getElem hc) hv1
      have hk2 : (H.set id (.cells (ks.set j (.own true e m sz (cs.set (off + i) x)))))[id]? = some (.cells (ks.set j (.own true e m sz (cs.set (off + i) x)))) := List.getElem?_set_self (List.getElem?_eq_some_iff.1 hk).1
      have hj2 : (ks.set j (.own true e m sz (cs.set (off + i) x)))[j]? = some (.own true e m sz (cs.set (off + i) x)) := List.getElem?_set_self (List.getElem?_eq_some_iff.1 hj).1
      obtain ⟨w', k1, k2, k3⟩ := pokeCellsB_post (off := off) xs vs (i + 1) h2 hk2 hj2 hb hr (fun u hu => h1 u (List.mem_cons_of_mem _ hu)) (by simp; omega)
      refine ⟨w', ?_, ?_, h3.trans k3⟩
      · unfold storeCells
        rw [add_eq, Sem.run_bind, hst, Result.andThen_ok, k1]
      · have e1 : (cs.set (off + i) x).take (off + (i + 1)) ++ xs ++ (cs.set (off + i) x).drop (off + (i + 1) + xs.length) = cs.take (off + i) ++ (x :: xs) ++ cs.drop (off + i + (xs.length + 1)) := by
          rw [show off + (i + 1) = off + i + 1 by omega, List.drop_set_of_lt (by omega), List.take_set, List.take_succ_eq_append_getElem hlt]
          rw [List.set_append, if_neg (by simp; omega), List.length_take, Nat.min_eq_left (by omega), Nat.sub_self]
          simp only [List.set_cons_zero, List.append_assoc, List.cons_append, List.nil_append]
          rw [show off + i + 1 + xs.length = off + i + (xs.length + 1) by omega]
        rw [e1, List.set_set, List.set_set] at k2
        exact k2

theorem aStore_acts {o : Oper} {t : TypeId} {x y : Operand} (ho : o.op = .store t x y) (h : Sim c N s a w) (hk : aStore P o.dst t x y s K) : Acts P o a w (Post c w N K) := by
  obtain ⟨hd, hk⟩ := hk
  cases hio : isOwn (eval s y) with
  | true =>
    rw [hio] at hk
    simp only [cond_true] at hk
    unfold aStoreOwn at hk
    split at hk
    · rename_i u pr e n sz cs id off m hx hn hy
      obtain ⟨rfl, hk⟩ := hk
      cases hb' : s.H[id]? with
      | none => rw [hb'] at hk; exact hk.elim
      | some blk =>
        by_cases hck : ∃ cs, blk = .cells cs
        rotate_left
        · rw [hb'] at hk; cases blk <;> first | exact absurd ⟨_, rfl⟩ hck | cases hk | exact hk.elim
        obtain ⟨ks, rfl⟩ := hck
        rw [hb'] at hk
        obtain ⟨h3, hk⟩ := hk
        have h3 := Nat.le_of_ble_eq_true h3
        have hp := eval_any h hx (fun _ _ _ _ _ e => by cases e) (.slot 0)
        generalize hv : a.eval x = q at hp
        cases hp with
        | ptr hb =>
          rename_i b
          obtain ⟨c', v, k1, k2, k3, k4⟩ := Sim.place (F := s.F) (H := s.H) h hy hb hb' (off := off) (by omega)
          obtain ⟨_, _, arr, e', g1, g2, _, _⟩ := h.inv.blk id b _ hb hb'
          have hst := run_store1 (P := P) g1 (Array.getElem?_eq_getElem (i := off) (by omega)) k2
          refine acts_skip (w' := w.setCell ⟨b, off, none⟩ v) ?_ ⟨c', _, by rw [hd]; exact k3, k4, hk⟩
          have ev : a.eval (.tmp u) = v := by simp [Act.eval, k1]
          have hsz : v.cells = #[v] := by cases v <;> first | rfl | (simp [Value.oneCell'] at k2)
          unfold execOp
          simp only [ho, hv, ev, Instr.storeAt, Instr.sureAddr, Sem.run_bind, Sem.run_pure, Result.andThen_ok, storeVar, run_sizeOf hn, hsz]
          simp [storeCells, add_eq, hst]
    · exact hk.elim
  | false =>
  rw [hio] at hk
  simp only [cond_false] at hk
  split at hk
  · rename_i id off v n hx hy hn
    obtain ⟨h1, h2, hk⟩ := hk
    cases hb' : s.H[id]? with
    | none => rw [hb'] at hk; exact hk.elim
    | some blk =>
      by_cases hck : ∃ cs, blk = .cells cs
      rotate_left
      · rw [hb'] at hk; cases blk <;> first | exact absurd ⟨_, rfl⟩ hck | cases hk | exact hk.elim
      obtain ⟨ks, rfl⟩ := hck
      rw [hb'] at hk
      obtain ⟨h3, hk⟩ := hk
      have h3 := Nat.le_of_ble_eq_true h3
      have hp := eval_any h hx (fun _ _ _ _ _ e => by cases e) (.slot 0)
      generalize hv : a.eval x = u at hp
      cases hp with
      | ptr hb =>
        rename_i b
        have hc := cells_rel (evalV_rel h hy) h1
        obtain ⟨w', k1, k2, k3⟩ := storeCells_post (P := P) (off := off) (V.cells v) (a.eval y).cells.toList 0 (F := s.F) h hb hb' hc (one_relL hc h1) (by omega)
        refine acts_skip (w' := w') ?_ ⟨c, _, by rw [hd]; exact k2, k3, by simpa using hk⟩
        have hsz : (a.eval y).cells.size = n := by rw [← h2, hc.len]; simp
        unfold execOp
        simp only [ho, hv, Instr.storeAt, Instr.sureAddr, Sem.run_bind, Sem.run_pure, Result.andThen_ok, storeVar, run_sizeOf hn]
        rw [if_neg (by simpa using hsz), k1]
        simp
  · rename_i t' off v n hx hy hn
    obtain ⟨h1, h2, hk⟩ := hk
    split at hk
    · rename_i e m sz cs ht
      obtain ⟨h3, hk⟩ := hk
      obtain ⟨b, hv, hb⟩ := eval_any h hx (fun _ _ _ _ _ e => by cases e) (.slot 0)
      have hc := cells_rel (evalV_rel h hy) h1
      obtain ⟨w', k1, k2, k3⟩ := pokeCells_post (P := P) (off := off) (V.cells v) (a.eval y).cells.toList 0 (F := s.F) (H := s.H) h ht hb hc (one_relL hc h1) (by omega)
      have e1 : (V.cells v).length = n := h2
      simp only [Nat.add_zero, e1] at k2
      refine acts_skip (w' := w') ?_ ⟨c, _, by rw [hd]; exact k2, k3, hk⟩
      have hsz : (a.eval y).cells.size = n := by rw [← h2, hc.len]; simp
      unfold execOp
      simp only [ho, hv, Instr.storeAt, Instr.sureAddr, Sem.run_bind, Sem.run_pure, Result.andThen_ok, storeVar, run_sizeOf hn]
      rw [if_neg (by simpa using hsz), k1]
      simp
    · exact hk.elim
  · rename_i id j off v n hx hy hn
    obtain ⟨h1, h2, hk⟩ := hk
    split at hk
    · rename_i ks hks
      split at hk
      · rename_i e m sz cs hj
        obtain ⟨h3, hk⟩ := hk
        obtain ⟨b, hv, hb⟩ := eval_any h hx (fun _ _ _ _ _ e => by cases e) (.slot 0)
        have hc := cells_rel (evalV_rel h hy) h1
        obtain ⟨w', k1, k2, k3⟩ := pokeCellsB_post (P := P) (off := off) (V.cells v) (a.eval y).cells.toList 0 (F := s.F) (H := s.H) h hks hj hb hc (one_relL hc h1) (by omega)
        have e1 : (V.cells v).length = n := h2
        simp only [Nat.add_zero, e1] at k2
        rw [setBlk_eq hks] at hk
        refine acts_skip (w' := w') ?_ ⟨c, _, by rw [hd]; exact k2, k3, hk⟩
        have hsz : (a.eval y).cells.size = n := by rw [← h2, hc.len]; simp
        unfold execOp
        simp only [ho, hv, Instr.storeAt, Instr.sureAddr, Sem.run_bind, Sem.run_pure, Result.andThen_ok, storeVar, run_sizeOf hn]
        rw [if_neg (by simpa using hsz), k1]
        simp
      · exact hk.elim
    · exact hk.elim
  · exact hk.elim
end
end AM
end Go.Proofs.Ytmjnffjacgjfmaa
namespace Go.Proofs.Ytmjnffjacgjfmaa
set_option linter.all false
open Go.RowKit
namespace AM
section
variable {P : Program} {c : Cx} {N : Nat} {s : St} {a : Act} {w : World} {K : St → Prop}

/-! ## Parts put into a row of cells -/
def putAt (cs : List V) (off : Nat) (xs : List V) : List V := cs.take off ++ xs ++ cs.drop (off + xs.length)
def fillV (place : Nat → Option (Nat × Nat)) (cs : List V) : List (Nat × V) → Option (List V)
  | [] => some cs
  | (i, v) :: rest => match place i with
    | none => none
    | some (off, size) => bif (V.cells v).length == size && Nat.ble (off + size) cs.length && (V.cells v).all V.one then fillV place (putAt cs off (V.cells v)) rest else none

theorem foldl_set (vs : List Value) : ∀ (arr : Array Value) (off k : Nat), off + k + vs.length ≤ arr.size →
    ((vs.zipIdx k).foldl (fun cs (p : Value × Nat) => cs.setIfInBounds (off + p.2) p.1) arr).toList = arr.toList.take (off + k) ++ vs ++ arr.toList.drop (off + k + vs.length) := by
  induction vs with
  | nil => intro arr off k h; simp
  | cons v vs ih =>
    intro arr off k h
    simp only [List.length_cons] at h
    rw [List.zipIdx_cons, List.foldl_cons, ih _ off (k + 1) (by simp; omega), Array.toList_setIfInBounds]
    have hlt : off + k < arr.toList.length := by simp; omega
    rw [show off + (k + 1) = off + k + 1 by omega, List.take_set, List.take_succ_eq_append_getElem hlt, List.drop_set_of_lt (by omega)]
    rw [List.set_append, if_neg (by simp; omega), List.length_take, Nat.min_eq_left (by omega), Nat.sub_self]
    simp only [List.set_cons_zero, List.append_assoc, List.cons_append, List.nil_append, List.length_cons]
    rw [show off + k + 1 + vs.length = off + k + (vs.length + 1) by omega]

theorem RelL.putAt {I : Nat → Nat → Option Value} {φ : List Nat} {cs xs : List V} {vs us : List Value} (h : RelL I φ cs vs) (k : RelL I φ xs us) (off : Nat) : RelL I φ (putAt cs off xs) (vs.take off ++ us ++ vs.drop (off + us.length)) := by
  unfold AM.putAt
  rw [← k.len]
  exact ((h.take off).append k).append (h.drop _)

/-- What is put in, part by part. -/
inductive Parts (I : Nat → Nat → Option Value) (φ : List Nat) : List (Nat × V) → List (Nat × Value) → Prop
  | nil : Parts I φ [] []
  | cons {i : Nat} {x : V} {v : Value} {xs : List (Nat × V)} {vs : List (Nat × Value)} : Rel I φ x v → Parts I φ xs vs → Parts I φ ((i, x) :: xs) ((i, v) :: vs)

theorem fillV_run {I : Nat → Nat → Option Value} {φ : List Nat} {place : Nat → Option (Nat × Nat)} : ∀ {ps : List (Nat × V)} {qs : List (Nat × Value)} {cs ds : List V} {arr : Array Value}, Parts I φ ps qs → RelL I φ cs arr.toList → (∀ v ∈ arr.toList, v.oneCell' = true) →
    fillV place cs ps = some ds → ∃ arr', Instr.fill place arr qs = some arr' ∧ RelL I φ ds arr'.toList ∧ arr'.size = arr.size ∧ ∀ v ∈ arr'.toList, v.oneCell' = true
  | _, _, cs, ds, arr, .nil, hc, h1, hf => by
    cases hf
    exact ⟨arr, rfl, hc, rfl, h1⟩
  | _, _, cs, ds, arr, .cons (i := i) (x := x) (v := v) (xs := xs) (vs := vs) hx hp, hc, h1, hf => by
    unfold fillV at hf
    unfold Instr.fill
    cases hpl : place i with
    | none => rw [hpl] at hf; cases hf
    | some p =>
      obtain ⟨off, size⟩ := p
      rw [hpl] at hf
      simp only at hf ⊢
      cases hb : ((V.cells x).length == size && Nat.ble (off + size) cs.length && (V.cells x).all V.one) with
      | false => rw [hb] at hf; cases hf
      | true =>
        rw [hb] at hf
        simp only [cond_true] at hf
        simp only [Bool.and_eq_true, beq_iff_eq] at hb
        obtain ⟨⟨b1, b2⟩, b3⟩ := hb
        have b2 := Nat.le_of_ble_eq_true b2
        have hcr := cells_rel hx b3
        have hsz : v.cells.size = size := by rw [← b1, hcr.len]; simp
        have hcl := hc.len
        simp only [Array.length_toList] at hcl
        rw [if_neg (by simp [hsz]; omega)]
        have hfold := foldl_set v.cells.toList arr off 0 (by simp [hsz]; omega)
        have e1 : Array.foldl (fun cs (x : Value × Nat) => match x with | (c, j) => cs.setIfInBounds (off + j) c) arr v.cells.zipIdx = ((v.cells.toList.zipIdx 0).foldl (fun cs (p : Value × Nat) => cs.setIfInBounds (off + p.2) p.1) arr) := by
          rw [← Array.foldl_toList, Array.toList_zipIdx]
        rw [e1]
        have hone := one_relL hcr b3
        have hput := hc.putAt hcr off
        simp only [Nat.add_zero] at hfold
        rw [← hfold] at hput
        obtain ⟨arr', k1, k2, k3, k4⟩ := fillV_run (place := place) hp hput (fun u hu => by
          rw [hfold] at hu
          rcases List.mem_append.1 hu with hu | hu
          · rcases List.mem_append.1 hu with hu | hu
            · exact h1 u (List.mem_of_mem_take hu)
            · exact hone u hu
          · exact h1 u (List.mem_of_mem_drop hu)) hf
        refine ⟨arr', k1, k2, ?_, k4⟩
        rw [k3, ← Array.length_toList, hfold]
        simp [hsz]
        omega

def partsV (s : St) : List (Nat × Operand) → Option (List (Nat × V))
  | [] => some []
  | (i, x) :: ps => match evalV s x, partsV s ps with
    | some v, some l => some ((i, v) :: l)
    | _, _ => none
theorem partsV_rel (h : Sim c N s a w) : ∀ {ps : List (Nat × Operand)} {l : List (Nat × V)}, partsV s ps = some l → Parts c.I c.φ l (ps.map fun (i, x) => (i, a.eval x))
  | [], l, hl => by cases hl; exact .nil
  | (i, x) :: ps, l, hl => by
    unfold partsV at hl
    cases hx : evalV s x with
    | none => rw [hx] at hl; cases hl
    | some v =>
      cases hp : partsV s ps with
      | none => rw [hx, hp] at hl; cases hl
      | some l' =>
        rw [hx, hp] at hl
        cases hl
        exact .cons (evalV_rel h hx) (partsV_rel h hp)

/-! ## A struct or an array is put together -/
def placesT (P : Program) : List Field → Option (List (Nat × Nat))
  | [] => some []
  | f :: fs => match sizeT P f.type, placesT P fs with
    | some n, some l => some ((f.offset, n) :: l)
    | _, _ => none
def placeOf (P : Program) (t : TypeId) : Option (Nat → Option (Nat × Nat)) := match P.underlying t with
  | some (.struct fs) => match placesT P fs.toList with
    | some l => some (fun i => l[i]?)
    | none => none
  | some (.array _ e) => match sizeT P e with
    | some n => some (fun i => some (i * n, n))
    | none => none
  | _ => none
def aBuild (P : Program) (N : Nat) (dst : Option Tmp) (t : TypeId) (parts : List (Nat × Operand)) (s : St) (K : St → Prop) : Prop := match zeroCs P t, partsV s parts, placeOf P t with
  | some zc, some ps, some place => match fillV place zc ps with
    | some cs => putK N dst (.v (.agg cs)) s K
    | none => False
  | _, _, _ => False

theorem run_places {w : World} : ∀ {fs : List Field} {l : List (Nat × Nat)}, placesT P fs = some l → (fs.mapM fun f => do pure (f.offset, ← sizeOf f.type) : Sem (List (Nat × Nat))).run P w = .ok l w
  | [], l, h => by cases h; simp
  | f :: fs, l, h => by
    unfold placesT at h
    cases hn : sizeT P f.type with
    | none => rw [hn] at h; cases h
    | some n =>
      cases hl : placesT P fs with
      | none => rw [hn, hl] at h; cases h
      | some l' =>
        rw [hn, hl] at h
        cases h
        simp only [List.mapM_cons, Sem.run_bind, run_sizeOf hn, Result.andThen_ok, Sem.run_pure, run_places hl]

theorem aBuild_reads {o : Oper} {t : TypeId} {parts : Array (Nat × Operand)} (ho : o.op = .build t parts) (h : Sim c N s a w) (hk : aBuild P N o.dst t parts.toList s K) : Reads P o a w (Post c w N K) := by
  unfold aBuild at hk
  split at hk
  · rename_i zc ps place hz hp hpl
    cases hf : fillV place zc ps with
    | none => rw [hf] at hk; exact hk.elim
    | some cs =>
      rw [hf] at hk
      unfold zeroCs at hz
      cases hzt : zeroT P t with
      | none => rw [hzt] at hz; cases hz
      | some z =>
        rw [hzt] at hz
        simp only at hz
        cases h1 : z.cells.toList.all (·.oneCell') with
        | false => rw [h1] at hz; cases hz
        | true =>
          rw [h1] at hz
          cases hz
          obtain ⟨arr', k1, k2, _, _⟩ := fillV_run (I := c.I) (φ := c.φ) (partsV_rel h hp) (relL_map ofCell_rel z.cells.toList) (fun v hv => List.all_eq_true.1 h1 v hv) hf
          refine ⟨.agg arr', fun w' _ => ?_, putK_post h hk fun _ _ => Rel.agg k2⟩
          have e1 : (parts.map fun (x : Nat × Operand) => match x with | (i, x) => (i, a.eval x)).toList = parts.toList.map fun (i, x) => (i, a.eval x) := by simp
          unfold placeOf at hpl
          cases hu : P.underlying t with
          | none => rw [hu] at hpl; cases hpl
          | some d =>
            rw [hu] at hpl
            cases d with
            | struct fs =>
              simp only at hpl
              cases hls : placesT P fs.toList with
              | none => rw [hls] at hpl; cases hpl
              | some l =>
                rw [hls] at hpl
                cases hpl
                have hm : (fs.mapM fun f => do pure (f.offset, ← sizeOf f.type) : Sem (Array (Nat × Nat))).run P w' = .ok l.toArray w' := by
                  have := run_places (P := P) (w := w') hls
                  rw [Array.mapM_eq_mapM_toList, Sem.run_map, this]
                  rfl
                unfold execOp
                simp only [ho, Instr.build, Sem.run_bind, run_zeroValue hzt, Result.andThen_ok, Sem.run_pure, run_underlying' hu, hm]
                rw [e1]
                have e2 : (fun x : Nat => l.toArray[x]?) = fun i => l[i]? := by funext i; simp
                simp only [e2, k1, Sem.run_pure, Result.andThen_ok]
            | array n e =>
              simp only at hpl
              cases hls : sizeT P e with
              | none => rw [hls] at hpl; cases hpl
              | some l =>
                rw [hls] at hpl
                cases hpl
                unfold execOp
                simp only [ho, Instr.build, Sem.run_bind, run_zeroValue hzt, Result.andThen_ok, Sem.run_pure, run_underlying' hu, run_sizeOf hls]
                rw [e1]
                simp only [k1, Sem.run_pure, Result.andThen_ok]
            | _ => cases hpl
  · exact hk.elim
end
end AM
end Go.Proofs.Ytmjnffjacgjfmaa
namespace Go.Proofs.Ytmjnffjacgjfmaa
set_option linter.all false
open Go.RowKit
namespace AM
section
variable {P : Program} {c : Cx} {N : Nat} {s : St} {a : Act} {w : World} {K : St → Prop}

/-! ## Zero cells, again and again -/
def zerosV (n : Nat) (zc : List V) : List V := (List.replicate n zc).flatten
theorem range_mod (z : Array Value) (hz : 0 < z.size) : ∀ n, ((Array.range (n * z.size)).map fun j => z[j % z.size]!).toList = (List.replicate n z.toList).flatten
  | 0 => by simp
  | n + 1 => by
    have ih := range_mod z hz n
    simp only [Array.toList_map, Array.toList_range] at ih ⊢
    rw [Nat.succ_mul, List.range_add, List.map_append, ih, List.replicate_succ', List.flatten_append, List.map_map]
    congr 1
    simp only [List.flatten_cons, List.flatten_nil, List.append_nil]
    apply List.ext_getElem
    · simp
    · intro i h1 h2
      simp only [List.getElem_map, List.getElem_range, Function.comp]
      have hi : i < z.size := by simpa using h2
      rw [Nat.mul_comm n z.size, Nat.mul_add_mod, Nat.mod_eq_of_lt hi]
      simp [hi]
theorem relL_zeros {I : Nat → Nat → Option Value} {φ : List Nat} {zc : List V} {zs : List Value} (h : RelL I φ zc zs) : ∀ n, RelL I φ (zerosV n zc) (List.replicate n zs).flatten
  | 0 => by unfold zerosV; exact .nil
  | n + 1 => by
    unfold zerosV
    simp only [List.replicate_succ, List.flatten_cons]
    exact h.append (relL_zeros h n)

/-! ## A literal of a slice -/
def aBuildSlice (P : Program) (N : Nat) (dst : Option Tmp) (t : TypeId) (n : Nat) (parts : List (Nat × Operand)) (s : St) (K : St → Prop) : Prop := match P.underlying t, dst with
  | some (.slice e), some d => match zeroCs P e, partsV s parts, sizeT P e with
    | some zc, some ps, some sz => (Nat.ble 1 sz = true ∧ zc.length = sz ∧ Nat.ble (n * sz) 16777216 = true) ∧ (match fillV (fun i => some (i * sz, sz)) (zerosV n zc) ps with
      | some cs => d < N ∧ K ⟨putF d (.own true e n sz cs) s.F, s.H⟩
      | none => False)
    | _, _, _ => False
  | _, _ => False
theorem aBuildSlice_acts {o : Oper} {t : TypeId} {n : Nat} {parts : Array (Nat × Operand)} (ho : o.op = .buildSlice t n parts) (h : Sim c N s a w) (hk : aBuildSlice P N o.dst t n parts.toList s K) : Acts P o a w (Post c w N K) := by
  unfold aBuildSlice at hk
  split at hk
  · rename_i e d hu hd
    split at hk
    · rename_i zc ps sz hz hp hs
      obtain ⟨⟨q1, q2, q3⟩, hk⟩ := hk
      have q1 := Nat.le_of_ble_eq_true q1
      have q3 := Nat.le_of_ble_eq_true q3
      cases hf : fillV (fun i => some (i * sz, sz)) (zerosV n zc) ps with
      | none => rw [hf] at hk; exact hk.elim
      | some cs =>
        rw [hf] at hk
        obtain ⟨hk0, hk⟩ := hk
        unfold zeroCs at hz
        cases hzt : zeroT P e with
        | none => rw [hzt] at hz; cases hz
        | some z =>
          rw [hzt] at hz
          simp only at hz
          cases h1 : z.cells.toList.all (·.oneCell') with
          | false => rw [h1] at hz; cases hz
          | true =>
            rw [h1] at hz
            cases hz
            have hzs : z.cells.size = sz := by simpa using q2
            have hrow : ∀ k, ((Array.range (k * sz)).map fun j => z.cells[j % z.cells.size]!).toList = (List.replicate k z.cells.toList).flatten := fun k => by
              have := range_mod z.cells (by omega) k
              rwa [hzs] at this ⊢
            have hone : ∀ v ∈ ((Array.range (n * sz)).map fun j => z.cells[j % z.cells.size]!).toList, v.oneCell' = true := fun v hv => by
              rw [hrow] at hv
              obtain ⟨l, hl, hv⟩ := List.mem_flatten.1 hv
              rw [(List.mem_replicate.1 hl).2] at hv
              exact List.all_eq_true.1 h1 v hv
            obtain ⟨arr', k1, k2, k3, k4⟩ := fillV_run (I := c.I) (φ := c.φ) (arr := (Array.range (n * sz)).map fun j => z.cells[j % z.cells.size]!) (partsV_rel h hp) (by rw [hrow]; exact relL_zeros (relL_map ofCell_rel _) n) hone hf
            have hsz : arr'.size = n * sz := by rw [k3]; simp
            obtain ⟨m1, m2⟩ := Sim.layOwn (F := s.F) (H := s.H) (arr := arr') (cs := cs) (e := e) (n := n) (cap := n) (sz := sz) h hk0 q1 (by rw [List.take_of_length_le (by simp [hsz])]; exact k2) (Nat.le_refl _) (by
                have : n ≤ n * sz := Nat.le_mul_of_pos_right _ q1
                unfold maxLen; omega) hsz k4
            refine acts_value (v := .slice (some ⟨w.heap.size, 0, none⟩) n n) (w' := w.alloc (.cells arr' e)) ?_ ⟨_, _, by rw [hd]; exact m1, m2, hk⟩
            have e1 : (parts.map fun (x : Nat × Operand) => match x with | (i, x) => (i, a.eval x)).toList = parts.toList.map fun (i, x) => (i, a.eval x) := by simp
            unfold execOp
            simp only [ho, Instr.buildSlice, Sem.run_bind, run_underlying' hu, Result.andThen_ok, run_sizeOf hs]
            rw [if_neg (by omega)]
            by_cases hn : n * sz = 0
            · have hn0 : n = 0 := by
                rcases Nat.mul_eq_zero.1 hn with h | h
                · exact h
                · omega
              subst hn0
              rw [if_pos (by simp)]
              simp only [Sem.run_bind, Sem.run_pure, Result.andThen_ok]
              have e3 : ((Array.range (0 * sz)).map fun j => (#[] : Array Value)[j % (#[] : Array Value).size]!) = ((Array.range (0 * sz)).map fun j => z.cells[j % z.cells.size]!) := by simp
              rw [e1, e3]
              simp only [k1, Sem.run_bind, run_newRow, Result.andThen_ok, Sem.run_pure]
            · rw [if_neg hn]
              simp only [Sem.run_bind, run_zeroValue hzt, Result.andThen_ok, Sem.run_pure]
              rw [e1]
              simp only [k1, Sem.run_bind, run_newRow, Result.andThen_ok, Sem.run_pure]
    · exact hk.elim
  · exact hk.elim

theorem del_del (d : Nat) : ∀ F : Fr, del d (del d F) = del d F
  | [] => rfl
  | (k, y) :: F => by
    cases hc : (k == d || y.refers (.slot d)) with
    | true =>
      have e : del d ((k, y) :: F) = del d F := by simp only [del, hc, cond_true]
      rw [e, del_del d F]
    | false =>
      have e : ∀ F, del d ((k, y) :: F) = (k, y) :: del d F := fun F => by simp only [del, hc, cond_false]
      rw [e, e, del_del d F]

/-! ## append -/
theorem run_append_none {t ty e : TypeId} {sz : Nat} {q A : Option Addr} {n cap : Nat} (ht : P.underlying t = some (.slice e)) (hs : sizeT P e = some sz) (hn : n ≤ cap) :
    (Builtin.append_ #[t, t] ty #[.slice q n cap, .slice A 0 0]).run P w = .ok (.slice q n cap) w := by
  unfold Builtin.append_
  simp only [List.getElem?_toArray, List.getElem?_cons_zero, List.getElem?_cons_succ, Sem.run_bind, run_underlying' ht, Result.andThen_ok, run_sizeOf hs]
  cases q <;> cases A <;> simp [run_underlying' ht, Builtin.lenOf, Builtin.firstCells, hn, storeCells, loadCells, loadCellsFrom]

theorem append_any {t ty e : TypeId} {i : TypeInfo} {z : Value} {sz bytes : Nat} (ht : P.underlying t = some (.slice e)) (hi : P.info? e = some i) (hz : i.zero = some z) (hsize : i.size = sz) (hby : i.bytes = bytes) (hzs : z.cells.size = sz) (hsz : 0 < sz)
    {v x : Value} {n m : Nat} {xs news : List Value} (hown : w.ownsRow 0 e sz v n xs)
    (hx : ((∃ A, x = .slice A 0 0) ∧ m = 0 ∧ news = []) ∨ ∃ b o cp, x = .slice (some ⟨b, o, none⟩) m cp ∧ news.length = m * sz ∧ ∀ j u, news[j]? = some u → w.cell? ⟨b, o + j, none⟩ = some u)
    (h1 : ∀ u ∈ news, u.oneCell' = true) (h63 : n + m ≤ maxLen) (hbytes : (n + m) * bytes ≤ 140737488355328) :
    ∃ v' w', (Builtin.append_ #[t, t] ty #[v, x]).run P w = .ok v' w' ∧ w'.ownsRow 0 e sz v' (n + m) (xs ++ news) ∧ w.grownBy w' v.ownBlock ∧ (v'.ownBlock = v.ownBlock ∨ v'.ownBlock = some w.heap.size) ∧
      ∀ g, v.ownBlock = some g → ∀ o u, xs[o]? = some u → w'.cell? ⟨g, o, none⟩ = some u := by
  rcases hx with ⟨⟨A, rfl⟩, rfl, rfl⟩ | ⟨b, o, cp, rfl, hl, hc⟩
  · have hv : ∃ q cap, v = .slice q n cap ∧ n ≤ cap := by
      rcases hown.2 with ⟨rfl, rfl⟩ | ⟨g, cap, cur, rfl, _, _, h2, _⟩
      · exact ⟨_, _, rfl, Nat.le_refl _⟩
      · exact ⟨_, _, rfl, h2⟩
    obtain ⟨q, cap, rfl, hn⟩ := hv
    refine ⟨_, w, run_append_none (sz := sz) ht (by simp [sizeT, hi, hsize]) hn, by simpa using hown, ⟨rfl, rfl, rfl, Nat.le_refl _, fun _ _ _ => rfl⟩, .inl rfl, fun g hg o u hu => own_cell hown hg hu⟩
  · have hc' : ∀ j u, news[j]? = some u → w.cell? ((⟨b, o, none⟩ : Addr).add j) = some u := fun j u hu => by rw [add_eq]; exact hc j u hu
    obtain ⟨v', w', hr, k1, k2, k3, k4⟩ := run_append_own_at (P := P) w 0 t ty e i z sz bytes ht hi hz hsize hby hzs hsz v n xs hown ⟨b, o, none⟩ m cp news hl hc' h1 h63 hbytes (Nat.zero_le _)
    refine ⟨v', w', hr, k1, k2, k4, fun g hg o' u hu => ?_⟩
    rcases hown.2 with ⟨rfl, _⟩ | ⟨g', cap, cur, rfl, _, g1, g2, g3, g4, g5⟩
    · cases hg
    · cases hg
      by_cases hroom : n + m ≤ cap
      · have hfit : n * i.size + news.length ≤ cur.size := by rw [hl, g4, hsize, ← Nat.add_mul]; exact Nat.mul_le_mul_right _ hroom
        have hr2 := run_append_room (P := P) w t ty e i ht hi g' n cap cur g1 ⟨b, o, none⟩ m cp news (by rw [hsize]; exact hl) hc' h1 hroom hfit
        rw [hr] at hr2
        cases hr2
        have h6 : (xs ++ news)[o']? = some u := by rw [List.getElem?_append_left (List.getElem?_eq_some_iff.1 hu).1]; exact hu
        exact own_cell k1 rfl h6
      · have holds : ∀ j u, xs[j]? = some u → w.cell? ((⟨g', 0, none⟩ : Addr).add j) = some u := hown.cells (g := g') rfl
        have hsmall : n + m ≤ 9223372036854775807 := by simp only [maxLen] at h63; omega
        have hr2 := run_append_grow (P := P) w t ty e i z ht hi hz ⟨g', 0, none⟩ n cap xs (by rw [hsize]; exact hown.1) holds ⟨b, o, none⟩ m cp news (by rw [hsize]; exact hl) hc' (by omega) (by omega) (growslice_fits (by omega) (by rw [hby]; exact hbytes))
        rw [hr] at hr2
        cases hr2
        exact cell_alloc' (w := w.drew) (own_cell hown rfl hu)

def elT (P : Program) (t : TypeId) : Option (TypeId × Nat × Nat) := match P.underlying t with
  | some (.slice e) => match P.info? e with
    | some i => match i.zero with
      | some z => bif z.cells.size == i.size && Nat.ble 1 i.size then some (e, i.size, i.bytes) else none
      | none => none
    | none => none
  | _ => none
theorem elT_spec {t e : TypeId} {sz bytes : Nat} (h : elT P t = some (e, sz, bytes)) : P.underlying t = some (.slice e) ∧ 0 < sz ∧ ∃ i z, P.info? e = some i ∧ i.zero = some z ∧ i.size = sz ∧ i.bytes = bytes ∧ z.cells.size = sz := by
  unfold elT at h
  split at h
  · rename_i e' hu
    cases hi : P.info? e' with
    | none => rw [hi] at h; cases h
    | some i =>
      rw [hi] at h
      simp only at h
      cases hz : i.zero with
      | none => rw [hz] at h; cases h
      | some z =>
        rw [hz] at h
        simp only at h
        cases hb : (z.cells.size == i.size && Nat.ble 1 i.size) with
        | false => rw [hb] at h; cases h
        | true =>
          rw [hb] at h
          cases h
          simp only [Bool.and_eq_true, beq_iff_eq] at hb
          exact ⟨hu, Nat.le_of_ble_eq_true hb.2, i, z, hi, hz, rfl, rfl, hb.1⟩
  · cases h

/-- What is appended: how many elements, and their cells. -/
def newsV (s : St) (sz : Nat) (x : Operand) : Option (Nat × List V) := match eval s x with
  | some (.v (.sl m z ds)) => bif z == sz then some (m, ds) else none
  | some (.v .nil) => some (0, [])
  | some (.own _ _ m z ds) => bif z == sz then some (m, ds) else none
  | _ => none
theorem newsV_rel {sz m : Nat} {ds : List V} {x : Operand} (h : Sim c N s a w) (hx : newsV s sz x = some (m, ds)) :
    ∃ ns, RelL c.I c.φ ds ns ∧ (∀ u ∈ ns, u.oneCell' = true) ∧ (((∃ A, a.eval x = .slice A 0 0) ∧ m = 0 ∧ ns = []) ∨ ∃ b o cp, a.eval x = .slice (some ⟨b, o, none⟩) m cp ∧ ns.length = m * sz ∧ ∀ j u, ns[j]? = some u → w.cell? ⟨b, o + j, none⟩ = some u) := by
  unfold newsV at hx
  cases he : eval s x with
  | none => rw [he] at hx; cases hx
  | some y =>
    rw [he] at hx
    cases y with
    | v q =>
      have hr := eval_any h he (fun _ _ _ _ _ e => by cases e) (.slot 0)
      cases q with
      | sl m' z ds' =>
        simp only at hx
        cases hz : z == sz with
        | false => rw [hz] at hx; cases hx
        | true =>
          rw [hz] at hx
          cases hx
          have hz : z = sz := by simpa using hz
          subst hz
          generalize a.eval x = v at hr
          cases hr with
          | sl r1 r2 r3 r4 r5 r6 => exact ⟨_, r1, r6, .inr ⟨_, _, _, rfl, by rw [← r1.len, r3], fun j u hu => h.inv.imm _ _ _ (r2 j u hu)⟩⟩
          | sl0 => exact ⟨[], .nil, fun u hu => (by cases hu), .inl ⟨⟨_, rfl⟩, rfl, rfl⟩⟩
      | nil =>
        cases hx
        generalize a.eval x = v at hr
        cases hr
        exact ⟨[], .nil, fun u hu => (by cases hu), .inl ⟨⟨_, rfl⟩, rfl, rfl⟩⟩
      | _ => cases hx
    | own pr e m' z ds' =>
      simp only at hx
      cases hz : z == sz with
      | false => rw [hz] at hx; cases hx
      | true =>
        rw [hz] at hx
        cases hx
        have hz : z = sz := by simpa using hz
        subst hz
        rcases eval_rel h he (.slot 0) with ⟨t, _, _, _, hr⟩ | ⟨z, e', hr⟩
        · obtain ⟨h0, vs, h1, h2, h3, h4⟩ := hr
          rcases h2.2 with ⟨e1, e2⟩ | ⟨g, cap, cur, e1, _, g1, g2, g3, g4, g5⟩
          · subst e2
            rw [e1] at h2
            obtain ⟨rfl, rfl⟩ := nil_of h1 h2
            exact ⟨[], .nil, h3, .inl ⟨⟨_, e1⟩, rfl, rfl⟩⟩
          · refine ⟨vs, h1, h3, .inr ⟨g, 0, cap, e1, h2.1, fun j u hu => ?_⟩⟩
            rw [Nat.zero_add]
            exact own_cell h2 (by rw [e1]; rfl) hu
        · cases e'
    | _ => cases hx

def aAppend (P : Program) (N : Nat) (dst : Option Tmp) (t : TypeId) (x y : Operand) (s : St) (K : St → Prop) : Prop := match elT P t, dst with
  | some (e, sz, bytes), some d => match newsV s sz y with
    | some (m, ds) => match eval s x with
      | some (.v .nil) => d < N ∧ m * bytes ≤ 140737488355328 ∧ m ≤ 9223372036854775807 ∧ K ⟨putF d (.own true e m sz ds) s.F, s.H⟩
      | some (.own pr e' n sz' cs) => match x with
        | .tmp u => (e' == e && sz' == sz) = true ∧ d < N ∧ ((n + m) * bytes ≤ 140737488355328 ∧ n + m ≤ 9223372036854775807) ∧ K ⟨putF d (.own pr e (n + m) sz (cs ++ ds)) (del u s.F), s.H⟩
        | _ => False
      | _ => False
    | none => False
  | _, _ => False
theorem aAppend_acts {o : Oper} {t : TypeId} {x y : Operand} (ho : o.op = .call { callee := .builtin .append, args := #[x, y], argTypes := #[t, t] }) (h : Sim c N s a w) (hk : aAppend P N o.dst t x y s K) : Acts P o a w (Post c w N K) := by
  unfold aAppend at hk
  split at hk
  · rename_i e sz bytes d hel hd
    obtain ⟨ht, hsz, i, z, hi, hz, hs, hb, hzs⟩ := elT_spec hel
    cases hy : newsV s sz y with
    | none => rw [hy] at hk; exact hk.elim
    | some q =>
      obtain ⟨m, ds⟩ := q
      rw [hy] at hk
      simp only at hk
      obtain ⟨ns, r1, r2, r3⟩ := newsV_rel h hy
      have run : ∀ v' w', (Builtin.append_ #[t, t] o.type #[a.eval x, a.eval y]).run P w = .ok v' w' → (execOp a.eval o).run P w = .ok (.value v') w' := fun v' w' hr => by
        unfold execOp
        simp only [ho, resolve, Sem.run_bind, Sem.run_pure, Result.andThen_ok, invoke, builtin, List.map_toArray, List.map_cons, List.map_nil, hr]
      cases hx : eval s x with
      | none => rw [hx] at hk; exact hk.elim
      | some p =>
        rw [hx] at hk
        cases p with
        | v q =>
          cases q with
          | nil =>
            obtain ⟨h1, h2, h3, hk⟩ := hk
            have hv : a.eval x = .slice none 0 0 := by
              have := eval_any h hx (fun _ _ _ _ _ e => by cases e) (.slot 0)
              generalize a.eval x = v at this
              cases this
              rfl
            have hown : w.ownsRow 0 e sz (.slice none 0 0) 0 [] := ⟨by simp, .inl ⟨rfl, rfl⟩⟩
            obtain ⟨v', w', hr, k1, k2, k3, k4⟩ := append_any (P := P) (ty := o.type) ht hi hz hs hb hzs hsz hown r3 r2 (by unfold maxLen; omega) (by rw [Nat.zero_add]; exact h2)
            simp only [Nat.zero_add, List.nil_append] at k1
            have hsim : Sim c N ⟨del d s.F, s.H⟩ a w := Sim.sub (F := s.F) h fun p hp => (mem_del (x := p.2) (k := p.1) hp).1
            obtain ⟨c', q1, q2⟩ := hsim.grow (t := d) (u := d) (pr := true) (n := 0) (m := m) (cs := []) (vs := []) (v := .slice none 0 0) h1 hsz (fun k x hx => ⟨(mem_del hx).2.1, (mem_del hx).2.2⟩) .nil hown (fun b hb => by cases hb) r1 (by simpa using r2) (by simpa using k1) k2 k3 (fun g hg => by cases hg)
            simp only [Nat.zero_add, List.nil_append] at q1
            unfold putF at q1
            rw [del_del] at q1
            refine acts_value (run _ _ (by rw [hv]; exact hr)) ?_
            rw [hd]
            exact ⟨c', ⟨putF d (.own true e m sz ds) s.F, s.H⟩, q1, q2, hk⟩
          | _ => exact hk.elim
        | own pr e' n sz' cs =>
          cases x with
          | tmp u =>
            obtain ⟨h0, h1, ⟨h2, h3⟩, hk⟩ := hk
            simp only [Bool.and_eq_true, beq_iff_eq] at h0
            obtain ⟨rfl, rfl⟩ := h0
            rcases eval_rel h hx (.slot 0) with ⟨t', ht', _, _, hr'⟩ | ⟨z', e'', _⟩
            · cases ht'
              obtain ⟨_, vs, l1, l2, l3, l4⟩ := hr'
              obtain ⟨v', w', hr, k1, k2, k3, k4⟩ := append_any (P := P) (ty := o.type) ht hi hz hs hb hzs hsz l2 r3 r2 (by unfold maxLen; omega) h2
              have hsim : Sim c N ⟨del u s.F, s.H⟩ a w := Sim.sub (F := s.F) h fun p hp => (mem_del (x := p.2) (k := p.1) hp).1
              obtain ⟨c', q1, q2⟩ := hsim.grow (t := d) (u := u) (pr := pr) (n := n) (m := m) (cs := cs) (vs := vs) h1 hsz (fun k x hx => ⟨(mem_del hx).2.1, (mem_del hx).2.2⟩) l1 l2 l4 r1 (fun x hx => (List.mem_append.1 hx).elim (l3 x) (r2 x)) k1 k2 k3 k4
              exact acts_value (run _ _ hr) ⟨c', _, by rw [hd]; exact q1, q2, hk⟩
            · cases e''
          | _ => exact hk.elim
        | _ => exact hk.elim
  · exact hk.elim

/-! ## make -/
def aMakeSlice (P : Program) (N : Nat) (dst : Option Tmp) (t : TypeId) (x y : Operand) (s : St) (K : St → Prop) : Prop := match elT P t, dst, valOf s x, valOf s y with
  | some (e, sz, bytes), some d, some (.int _ n), some (.int _ m) => match zeroCs P e with
    | some zc => n = m ∧ (0 ≤ n ∧ (bytes : Int) * n ≤ 281474976710656 ∧ n ≤ 9223372036854775807) ∧ d < N ∧ K ⟨putF d (.own true e n.toNat sz (zerosV n.toNat zc)) s.F, s.H⟩
    | none => False
  | _, _, _, _ => False
theorem aMakeSlice_acts {o : Oper} {t : TypeId} {x y : Operand} (ho : o.op = .makeSlice t x y) (h : Sim c N s a w) (hk : aMakeSlice P N o.dst t x y s K) : Acts P o a w (Post c w N K) := by
  unfold aMakeSlice at hk
  split at hk
  · rename_i e sz bytes d kn n km m hel hd hx hy
    obtain ⟨ht, hsz, i, z, hi, hz, hs, hb, hzs⟩ := elT_spec hel
    unfold zeroCs at hk
    have hzt : zeroT P e = some z := by simp [zeroT, hi, hz]
    rw [hzt] at hk
    simp only at hk
    cases h1 : z.cells.toList.all (·.oneCell') with
    | false => rw [h1] at hk; exact hk.elim
    | true =>
      rw [h1] at hk
      simp only [cond_true] at hk
      obtain ⟨rfl, ⟨q0, q1, q2⟩, hk0, hk⟩ := hk
      have hxv := valOf_eq h hx
      have hyv := valOf_eq h hy
      have hrow : ((Array.range (n.toNat * sz)).map fun j => z.cells[j % z.cells.size]!).toList = (List.replicate n.toNat z.cells.toList).flatten := by
        have := range_mod z.cells (by omega) n.toNat
        rwa [hzs] at this ⊢
      have hone : ∀ v ∈ ((Array.range (n.toNat * sz)).map fun j => z.cells[j % z.cells.size]!).toList, v.oneCell' = true := fun v hv => by
        rw [hrow] at hv
        obtain ⟨l, hl, hv⟩ := List.mem_flatten.1 hv
        rw [(List.mem_replicate.1 hl).2] at hv
        exact List.all_eq_true.1 h1 v hv
      obtain ⟨m1, m2⟩ := Sim.layOwn (F := s.F) (H := s.H) (arr := (Array.range (n.toNat * sz)).map fun j => z.cells[j % z.cells.size]!) (cs := zerosV n.toNat (z.cells.toList.map V.ofCell)) (e := e) (n := n.toNat) (cap := n.toNat) (sz := sz) h hk0 hsz
        (by rw [List.take_of_length_le (by simp)]; rw [hrow]; exact relL_zeros (relL_map ofCell_rel _) _) (Nat.le_refl _) (by unfold maxLen; omega) (by simp) hone
      refine acts_value (v := .slice (some ⟨w.heap.size, 0, none⟩) n.toNat n.toNat) (w' := w.alloc (.cells ((Array.range (n.toNat * sz)).map fun j => z.cells[j % z.cells.size]!) e)) ?_ ⟨_, _, by rw [hd]; exact m1, m2, hk⟩
      unfold execOp
      simp only [ho, hxv, hyv, Sem.run_bind]
      rw [run_make w t e i z ht hi hz kn km n n q0 (Int.le_refl _) (by rw [hb]; exact q1) q2]
      simp only [Result.andThen_ok, Sem.run_pure, hs]
      rfl
  · exact hk.elim

/-! ## makeFunc -/
def valsV (s : St) : List Operand → Option (List V)
  | [] => some []
  | x :: xs => match evalV s x, valsV s xs with
    | some v, some l => some (v :: l)
    | _, _ => none
theorem valsV_rel (h : Sim c N s a w) : ∀ {xs : List Operand} {l : List V}, valsV s xs = some l → RelL c.I c.φ l (xs.map a.eval)
  | [], l, hl => by cases hl; exact .nil
  | x :: xs, l, hl => by
    unfold valsV at hl
    cases hx : evalV s x with
    | none => rw [hx] at hl; cases hl
    | some v =>
      cases hp : valsV s xs with
      | none => rw [hx, hp] at hl; cases hl
      | some l' =>
        rw [hx, hp] at hl
        cases hl
        exact .cons (evalV_rel h hx) (valsV_rel h hp)
def aMakeFunc (N : Nat) (dst : Option Tmp) (f : Fn) (first cap : List Operand) (s : St) (K : St → Prop) : Prop := match valsV s first, valsV s cap with
  | some l, some k => putK N dst (.v (.fn f l k)) s K
  | _, _ => False
theorem aMakeFunc_reads {o : Oper} {f : Fn} {first cap : Array Operand} (ho : o.op = .makeFunc f first cap) (h : Sim c N s a w) (hk : aMakeFunc N o.dst f first.toList cap.toList s K) : Reads P o a w (Post c w N K) := by
  unfold aMakeFunc at hk
  split at hk
  · rename_i l k h1 h2
    refine ⟨.func f (first.map a.eval) (cap.map a.eval), fun w' _ => ?_, putK_post h hk fun _ _ => Rel.fn (by simpa using valsV_rel h h1) (by simpa using valsV_rel h h2)⟩
    unfold execOp
    simp only [ho, Instr.makeFunc, Sem.run_bind, Sem.run_pure, Result.andThen_ok]
  · exact hk.elim
end
end AM
end Go.Proofs.Ytmjnffjacgjfmaa
namespace Go.Proofs.Ytmjnffjacgjfmaa
set_option linter.all false
open Go.RowKit
namespace AM
section
variable {P : Program} {c : Cx} {N : Nat} {s : St} {a : Act} {w : World} {K : St → Prop}

/-! ## Comparisons -/
def eqFs (P : Program) (f : TypeId → Value → Value → Option Bool) (xs ys : Array Value) : List Field → Option Bool
  | [] => some true
  | fd :: fs => bif fd.name == "_" then none else match aggT P fd.type, sizeT P fd.type with
    | some true, some n => match f fd.type (.agg (xs.extract fd.offset (fd.offset + n))) (.agg (ys.extract fd.offset (fd.offset + n))), eqFs P f xs ys fs with
      | some a, some b => some (a && b)
      | _, _ => none
    | some false, some _ => match xs[fd.offset]?, ys[fd.offset]? with
      | some x, some y => match f fd.type x y, eqFs P f xs ys fs with
        | some a, some b => some (a && b)
        | _, _ => none
      | _, _ => none
    | _, _ => none
/-- Field by field, down to the cells. -/
def eqT (P : Program) : Nat → TypeId → Value → Value → Option Bool
  | 0, _, _, _ => none
  | d + 1, t, x, y => match P.underlying t, x, y with
    | some .bool, .bool a, .bool b => some (a == b)
    | some (.int _), .int k a, .int k' b => if k = k' then some (a == b) else none
    | some .string, .string a, .string b => some (a == b)
    | some (.struct fs), .agg xs, .agg ys => bif P.stoodInHeld t then none else eqFs P (eqT P d) xs ys fs.toList
    | _, _, _ => none

theorem eqFs_run {f : TypeId → Value → Value → Option Bool} {e : Nat} {w : World} (hf : ∀ t x y r, f t x y = some r → (Op.equalIn e t x y).run P w = .ok r w) {xs ys : Array Value} :
    ∀ {fs : List Field} {r : Bool}, eqFs P f xs ys fs = some r → (Op.eqFields e xs ys fs).run P w = .ok r w
  | [], r, h => by cases h; simp [Op.eqFields]
  | fd :: fs, r, h => by
    unfold eqFs at h
    cases hn : fd.name == "_" with
    | true => rw [hn] at h; cases h
    | false =>
      rw [hn] at h
      simp only [cond_false] at h
      have hn : fd.name ≠ "_" := by simpa using hn
      have key : ∀ x y : Value, (part fd.type xs fd.offset).run P w = .ok x w → (part fd.type ys fd.offset).run P w = .ok y w → (match f fd.type x y, eqFs P f xs ys fs with
          | some a, some b => some (a && b)
          | _, _ => none) = some r → (Op.eqFields e xs ys (fd :: fs)).run P w = .ok r w := by
        intro x y hx hy h
        cases h1 : f fd.type x y with
        | none => rw [h1] at h; cases h
        | some a =>
          cases h2 : eqFs P f xs ys fs with
          | none => rw [h1, h2] at h; cases h
          | some b =>
            rw [h1, h2] at h
            cases h
            unfold Op.eqFields
            rw [if_pos hn]
            simp only [Sem.run_bind, hx, hy, Result.andThen_ok, hf _ _ _ _ h1]
            cases a
            · simp
            · simp only [Bool.not_true, Bool.false_eq_true, if_false, Bool.true_and]
              exact eqFs_run hf h2
      split at h
      · rename_i n ha hs
        exact key _ _ (by simp only [part, Sem.run_bind, run_isAgg ha, Result.andThen_ok, if_true, run_sizeOf hs, Sem.run_pure]) (by simp only [part, Sem.run_bind, run_isAgg ha, Result.andThen_ok, if_true, run_sizeOf hs, Sem.run_pure]) h
      · rename_i n ha hs
        cases hx : xs[fd.offset]? with
        | none => rw [hx] at h; cases h
        | some x =>
          cases hy : ys[fd.offset]? with
          | none => rw [hx, hy] at h; cases h
          | some y =>
            rw [hx, hy] at h
            exact key x y (by simp only [part, Sem.run_bind, run_isAgg ha, Result.andThen_ok, Bool.false_eq_true, if_false, hx, Sem.run_pure]) (by simp only [part, Sem.run_bind, run_isAgg ha, Result.andThen_ok, Bool.false_eq_true, if_false, hy, Sem.run_pure]) h
      · cases h

theorem eqT_run : ∀ (d : Nat) (t : TypeId) (x y : Value) (r : Bool), eqT P d t x y = some r → ∀ (e : Nat) (w : World), d ≤ e → (Op.equalIn e t x y).run P w = .ok r w := by
  intro d
  induction d with
  | zero => intro t x y r h; cases h
  | succ d ih =>
    intro t x y r h e w he
    obtain ⟨e, rfl⟩ : ∃ k, e = k + 1 := ⟨e - 1, by omega⟩
    unfold eqT at h
    split at h
    · rename_i a b hu
      cases h
      simp only [Op.equalIn, Sem.run_bind, run_underlying' hu, Result.andThen_ok, Sem.run_pure]
    · rename_i k a k' b hu
      split at h
      · rename_i hk
        cases h
        simp only [Op.equalIn, Sem.run_bind, run_underlying' hu, Result.andThen_ok, hk, if_true, Sem.run_pure]
      · cases h
    · rename_i a b hu
      cases h
      simp only [Op.equalIn, Sem.run_bind, run_underlying' hu, Result.andThen_ok, Sem.run_pure]
    · rename_i fs xs ys hu
      cases hp : P.stoodInHeld t with
      | true => rw [hp] at h; cases h
      | false =>
        rw [hp] at h
        simp only [cond_false] at h
        have hfs : P.fieldsOf t = fs := by simp [Program.fieldsOf, hu]
        rw [run_equalIn_agg w e t xs ys (by rw [hfs]; exact hu) hp, hfs]
        exact eqFs_run (fun t x y r h => ih t x y r h e w (by omega)) h
    · cases h

/-- What an operator of two operands gives. -/
def binR (P : Program) (op : BinOp) (t : TypeId) (x y : Operand) (u v : Value) : Option Value := idle P (eqGuard op t x y u v >>= fun _ => binOp op t u v)
def isEq : BinOp → Bool
  | .eql => true
  | _ => false
def isNeq : BinOp → Bool
  | .neq => true
  | _ => false
/-- Whether something that is there is held against nothing. -/
def thereV : V → Bool
  | .ptr .. => true
  | .rd _ => true
  | .map _ => true
  | .fn .. => true
  | _ => false
def nilB (P : Program) (t : TypeId) : Value → Bool
  | .pointer none => match P.underlying t with
    | some (.pointer _) => true
    | _ => false
  | .map none => match P.underlying t with
    | some (.map _ _) => true
    | _ => false
  | .nilFunc => match P.underlying t with
    | some (.func _ _ _) => true
    | _ => false
  | _ => false
def fitsNil : V → Value → Bool
  | .ptr .., .pointer none => true
  | .rd _, .pointer none => true
  | .map _, .map none => true
  | .fn .., .nilFunc => true
  | _, _ => false
theorem fits_shape {I : Nat → Nat → Option Value} {φ : List Nat} {p : V} {u v : Value} (h : Rel I φ p u) (hf : fitsNil p v = true) :
    (∃ a, u = .pointer (some a) ∧ v = .pointer none) ∨ (∃ r, u = .map (some r) ∧ v = .map none) ∨ (∃ f l k, u = .func f l k ∧ v = .nilFunc) := by
  cases h with
  | rd h1 h2 h3 =>
    cases v with
    | pointer z =>
      cases z with
      | none => exact .inl ⟨_, rfl, rfl⟩
      | some z => simp [fitsNil] at hf
    | _ => simp [fitsNil] at hf
  | ptr h =>
    cases v with
    | pointer z =>
      cases z with
      | none => exact .inl ⟨_, rfl, rfl⟩
      | some z => simp [fitsNil] at hf
    | _ => simp [fitsNil] at hf
  | map h =>
    cases v with
    | map z =>
      cases z with
      | none => exact .inr (.inl ⟨_, rfl, rfl⟩)
      | some z => simp [fitsNil] at hf
    | _ => simp [fitsNil] at hf
  | fn h1 h2 =>
    cases v with
    | nilFunc => exact .inr (.inr ⟨_, _, _, rfl, rfl⟩)
    | _ => simp [fitsNil] at hf
  | _ => simp [fitsNil] at hf
theorem equalIn_nil {t : TypeId} {u v : Value} (e : Nat) (w : World) (hn : nilB P t v = true) (h : (∃ a, u = .pointer (some a) ∧ v = .pointer none) ∨ (∃ r, u = .map (some r) ∧ v = .map none) ∨ (∃ f l k, u = .func f l k ∧ v = .nilFunc)) :
    (Op.equalIn (e + 1) t u v).run P w = .ok false w := by
  rcases h with ⟨a, rfl, rfl⟩ | ⟨r, rfl, rfl⟩ | ⟨f, l, k, rfl, rfl⟩
  · simp only [nilB] at hn
    split at hn
    · rename_i hu
      simp only [Op.equalIn, Sem.run_bind, run_underlying' hu, Result.andThen_ok, Sem.run_pure]
    · cases hn
  · simp only [nilB] at hn
    split at hn
    · rename_i hu
      simp only [Op.equalIn, Sem.run_bind, run_underlying' hu, Result.andThen_ok, Sem.run_pure, Option.isNone]
    · cases hn
  · simp only [nilB] at hn
    split at hn
    · rename_i hu
      simp only [Op.equalIn, Sem.run_bind, run_underlying' hu, Result.andThen_ok, Sem.run_pure]
    · cases hn
theorem bin_nil {t : TypeId} {x y : Operand} {u v : Value} (w : World) (hn : nilB P t v = true) (h : (∃ a, u = .pointer (some a) ∧ v = .pointer none) ∨ (∃ r, u = .map (some r) ∧ v = .map none) ∨ (∃ f l k, u = .func f l k ∧ v = .nilFunc)) :
    (∀ op, (eqGuard op t x y u v).run P w = .ok () w) ∧ (binOp .eql t u v).run P w = .ok (.bool false) w ∧ (binOp .neq t u v).run P w = .ok (.bool true) w := by
  have hr := equalIn_nil (P := P) 9999 w hn h
  have hr' : (Op.equal t u v).run P w = .ok false w := hr
  rcases h with ⟨a, rfl, rfl⟩ | ⟨r, rfl, rfl⟩ | ⟨f, l, k, rfl, rfl⟩
  all_goals
    refine ⟨fun op => by cases op <;> rfl, ?_, ?_⟩
    · unfold binOp
      simp only [Sem.run_bind, hr', Result.andThen_ok, Sem.run_pure]
    · unfold binOp
      simp only [Sem.run_bind, hr', Result.andThen_ok, Sem.run_pure, Bool.not_false]
def sliceB (P : Program) (t : TypeId) : Bool := match P.underlying t with
  | some (.slice _) => true
  | _ => false
theorem bin_slice {t : TypeId} {x y : Operand} {A : Option Addr} {n c : Nat} (w : World) (hn : sliceB P t = true) :
    (∀ op, (eqGuard op t x y (.slice A n c) (.slice none 0 0)).run P w = .ok () w) ∧ (binOp .eql t (.slice A n c) (.slice none 0 0)).run P w = .ok (.bool A.isNone) w ∧ (binOp .neq t (.slice A n c) (.slice none 0 0)).run P w = .ok (.bool (!A.isNone)) w := by
  unfold sliceB at hn
  split at hn
  · rename_i e hu
    have hr0 : ∀ e, (Op.equalIn (e + 1) t (.slice A n c) (.slice none 0 0)).run P w = .ok A.isNone w := fun e => by
      cases A <;> simp only [Op.equalIn, Sem.run_bind, run_underlying' hu, Result.andThen_ok, Sem.run_pure, Option.isNone]
    have hr : (Op.equal t (.slice A n c) (.slice none 0 0)).run P w = .ok A.isNone w := hr0 9999
    refine ⟨fun op => by cases op <;> rfl, ?_, ?_⟩
    · unfold binOp
      simp only [Sem.run_bind, hr, Result.andThen_ok, Sem.run_pure]
    · unfold binOp
      simp only [Sem.run_bind, hr, Result.andThen_ok, Sem.run_pure]
  · cases hn
theorem sl_shape {I : Nat → Nat → Option Value} {φ : List Nat} {n sz : Nat} {cs : List V} {u : Value} (h : Rel I φ (.sl n sz cs) u) : ∃ A c, u = .slice A n c ∧ (A.isNone = true → n = 0) := by
  cases h with
  | sl => exact ⟨_, _, rfl, fun h => by cases h⟩
  | sl0 => exact ⟨_, _, rfl, fun _ => rfl⟩
def aBin (P : Program) (N : Nat) (dst : Option Tmp) (op : BinOp) (t : TypeId) (x y : Operand) (s : St) (K : St → Prop) : Prop := match evalV s x, evalV s y with
  | some p, some q => match p.exact, q.exact with
    | some (.agg us), some (.agg vs) => P.eqGuardType P.depth t = false ∧ (match eqT P 10 t (.agg us) (.agg vs) with
      | some r => bif isEq op then putK N dst (.v (.sc (.bool r))) s K else bif isNeq op then putK N dst (.v (.sc (.bool (!r)))) s K else False
      | none => False)
    | some u, some v => match binR P op t x y u v with
      | some r => putK N dst (.v (.ofValue r)) s K
      | none => False
    | none, some v => match p, v with
      | .sl n _ _, .slice none 0 0 => sliceB P t = true ∧ ∀ b : Bool, (b = true → n = 0) → (bif isEq op then putK N dst (.v (.sc (.bool b))) s K else bif isNeq op then putK N dst (.v (.sc (.bool (!b)))) s K else False)
      | _, _ => (fitsNil p v && nilB P t v) = true ∧ (bif isEq op then putK N dst (.v (.sc (.bool false))) s K else bif isNeq op then putK N dst (.v (.sc (.bool true))) s K else False)
    | _, _ => False
  | _, _ => False
theorem aBin_reads {o : Oper} {op : BinOp} {t t' : TypeId} {x y : Operand} (ho : o.op = .binOp op t x y t') (h : Sim c N s a w) (hk : aBin P N o.dst op t x y s K) : Reads P o a w (Post c w N K) := by
  unfold aBin at hk
  split at hk
  · rename_i p q hx hy
    have hp := evalV_rel h hx
    have hq := evalV_rel h hy
    split at hk
    · rename_i us vs hu hv
      have e1 := Rel.exact hp hu
      have e2 := Rel.exact hq hv
      obtain ⟨hg, hk⟩ := hk
      cases he : eqT P 10 t (.agg us) (.agg vs) with
      | none => rw [he] at hk; exact hk.elim
      | some r =>
        rw [he] at hk
        simp only at hk
        have hrun := fun w' => eqT_run 10 t _ _ r he 10000 w' (by omega)
        cases op <;> simp only [isEq, isNeq, cond_true, cond_false] at hk <;> first
          | exact hk.elim
          | (refine ⟨_, fun w' _ => ?_, putK_post h hk fun _ _ => Rel.sc _⟩
             unfold execOp
             simp only [ho, e1, e2, Sem.run_bind, run_eqGuard_agg w' _ t x y us vs hg, Result.andThen_ok, run_eql_struct, run_neq_struct, hrun, Sem.run_pure])
    · rename_i u v _ hu hv
      have e1 := Rel.exact hp hu
      have e2 := Rel.exact hq hv
      cases hb : binR P op t x y u v with
      | some r =>
        rw [hb] at hk
        refine ⟨r, fun w' _ => ?_, putK_post h hk fun _ _ => ofValue_rel r⟩
        unfold execOp
        have := idle_run hb w'
        simp only [ho, e1, e2]
        rw [Sem.run_bind, this, Result.andThen_ok, Sem.run_pure]
      | none =>
        rw [hb] at hk
        exact hk.elim
    · rename_i v hu hv
      have e2 := Rel.exact hq hv
      generalize hxv : a.eval x = xv at hp
      split at hk
      · rename_i n _ _ _ _
        obtain ⟨f2, hk⟩ := hk
        obtain ⟨A, c', rfl, hA⟩ := sl_shape hp
        have hk := hk A.isNone hA
        cases op <;> simp only [isEq, isNeq, cond_true, cond_false] at hk <;> first
          | exact hk.elim
          | (refine ⟨_, fun w' _ => ?_, putK_post h hk fun _ _ => Rel.sc _⟩
             have b1 := fun n op => (bin_slice (P := P) (x := x) (y := y) (A := A) (n := n) (c := c') w' f2).1 op
             have b2 := fun n => (bin_slice (P := P) (x := x) (y := y) (A := A) (n := n) (c := c') w' f2).2.1
             have b3 := fun n => (bin_slice (P := P) (x := x) (y := y) (A := A) (n := n) (c := c') w' f2).2.2
             unfold execOp
             simp only [ho, hxv, e2, Sem.run_bind, b1, Result.andThen_ok, b2, b3, Sem.run_pure])
      obtain ⟨hf, hk⟩ := hk
      simp only [Bool.and_eq_true] at hf
      obtain ⟨f1, f2⟩ := hf
      have hs := fits_shape hp f1
      cases op <;> simp only [isEq, isNeq, cond_true, cond_false] at hk <;> first
        | exact hk.elim
        | (refine ⟨_, fun w' _ => ?_, putK_post h hk fun _ _ => Rel.sc _⟩
           obtain ⟨b1, b2, b3⟩ := bin_nil (P := P) (x := x) (y := y) w' f2 hs
           unfold execOp
           simp only [ho, hxv, e2, Sem.run_bind, b1, Result.andThen_ok, b2, b3, Sem.run_pure])
    · exact hk.elim
  · exact hk.elim

/-! ## One operand; conversions; least and greatest -/
def unR (P : Program) (op : UnOp) (v : Value) : Option Value := idle P (Op.unary op v)
def aUn (P : Program) (N : Nat) (dst : Option Tmp) (op : UnOp) (x : Operand) (s : St) (K : St → Prop) : Prop := match valOf s x with
  | some v => match unR P op v with
    | some r => putK N dst (.v (.ofValue r)) s K
    | none => False
  | none => False
theorem aUn_reads {o : Oper} {op : UnOp} {t : TypeId} {x : Operand} (ho : o.op = .unOp op t x) (h : Sim c N s a w) (hk : aUn P N o.dst op x s K) : Reads P o a w (Post c w N K) := by
  unfold aUn at hk
  cases hx : valOf s x with
  | none => rw [hx] at hk; exact hk.elim
  | some v =>
    rw [hx] at hk
    simp only at hk
    cases hr : unR P op v with
    | none => rw [hr] at hk; exact hk.elim
    | some r =>
      rw [hr] at hk
      refine ⟨r, fun w' _ => ?_, putK_post h hk fun _ _ => ofValue_rel r⟩
      unfold execOp
      have := idle_run hr w'
      simp only [ho, valOf_eq h hx, Sem.run_bind, this, Result.andThen_ok, Sem.run_pure]
def convR (P : Program) (src dst : TypeId) (v : Value) : Option Value := idle P (convert src dst v)
def aConv (P : Program) (N : Nat) (dst : Option Tmp) (t u : TypeId) (x : Operand) (s : St) (K : St → Prop) : Prop := match valOf s x with
  | some v => match convR P t u v with
    | some r => putK N dst (.v (.ofValue r)) s K
    | none => False
  | none => False
theorem aConv_reads {o : Oper} {t u : TypeId} {x : Operand} (ho : o.op = .convert t u x) (h : Sim c N s a w) (hk : aConv P N o.dst t u x s K) : Reads P o a w (Post c w N K) := by
  unfold aConv at hk
  cases hx : valOf s x with
  | none => rw [hx] at hk; exact hk.elim
  | some v =>
    rw [hx] at hk
    simp only at hk
    cases hr : convR P t u v with
    | none => rw [hr] at hk; exact hk.elim
    | some r =>
      rw [hr] at hk
      refine ⟨r, fun w' _ => ?_, putK_post h hk fun _ _ => ofValue_rel r⟩
      unfold execOp
      have := idle_run hr w'
      simp only [ho, valOf_eq h hx, Sem.run_bind, this, Result.andThen_ok, Sem.run_pure]
def mmR (P : Program) (b : Builtin) (u v : Value) : Option Value := match b with
  | .min => idle P (Builtin.min_ #[] 0 #[u, v])
  | .max => idle P (Builtin.max_ #[] 0 #[u, v])
  | _ => none
def aMM (P : Program) (N : Nat) (dst : Option Tmp) (b : Builtin) (x y : Operand) (s : St) (K : St → Prop) : Prop := match valOf s x, valOf s y with
  | some u, some v => match mmR P b u v with
    | some r => putK N dst (.v (.ofValue r)) s K
    | none => False
  | _, _ => False
theorem aMM_reads {o : Oper} {b : Builtin} {ts : Array TypeId} {x y : Operand} (ho : o.op = .call { callee := .builtin b, args := #[x, y], argTypes := ts }) (h : Sim c N s a w) (hk : aMM P N o.dst b x y s K) : Reads P o a w (Post c w N K) := by
  unfold aMM at hk
  split at hk
  · rename_i u v hx hy
    cases hr : mmR P b u v with
    | none => rw [hr] at hk; exact hk.elim
    | some r =>
      rw [hr] at hk
      refine ⟨r, fun w' _ => ?_, putK_post h hk fun _ _ => ofValue_rel r⟩
      unfold execOp
      unfold mmR at hr
      split at hr
      · have := idle_run hr w'
        have e : Builtin.min_ ts o.type #[u, v] = Builtin.min_ #[] 0 #[u, v] := rfl
        simp only [ho, resolve, Sem.run_bind, Sem.run_pure, Result.andThen_ok, invoke, builtin, List.map_toArray, List.map_cons, List.map_nil, valOf_eq h hx, valOf_eq h hy, e, this]
      · have := idle_run hr w'
        have e : Builtin.max_ ts o.type #[u, v] = Builtin.max_ #[] 0 #[u, v] := rfl
        simp only [ho, resolve, Sem.run_bind, Sem.run_pure, Result.andThen_ok, invoke, builtin, List.map_toArray, List.map_cons, List.map_nil, valOf_eq h hx, valOf_eq h hy, e, this]
      · cases hr
  · exact hk.elim

/-! ## Interface values -/
def aIface (P : Program) (N : Nat) (dst : Option Tmp) (t : TypeId) (x : Operand) (s : St) (K : St → Prop) : Prop := match evalV s x, P.underlying t with
  | some v, some d => (match d with
    | .interface _ => False
    | _ => putK N dst (.v (.iface t v)) s K)
  | _, _ => False
theorem aIface_reads {o : Oper} {t : TypeId} {x : Operand} (ho : o.op = .makeInterface t x) (h : Sim c N s a w) (hk : aIface P N o.dst t x s K) : Reads P o a w (Post c w N K) := by
  unfold aIface at hk
  split at hk
  · rename_i v d hx hu
    refine ⟨.iface t (a.eval x), fun w' _ => ?_, ?_⟩
    · unfold execOp
      simp only [ho, Instr.makeInterface, Sem.run_bind, run_underlying' hu, Result.andThen_ok]
      split at hk
      · exact hk.elim
      · rename_i hd
        cases d <;> first
          | exact absurd rfl (hd _)
          | simp only [Sem.run_pure, Result.andThen_ok]
    · split at hk
      · exact hk.elim
      · exact putK_post h hk fun _ _ => Rel.iface (evalV_rel h hx)
  · exact hk.elim
def aAssert (P : Program) (N : Nat) (dst : Option Tmp) (x : Operand) (t : TypeId) (ok : Bool) (s : St) (K : St → Prop) : Prop := match evalV s x, P.underlying t with
  | some (.iface t' v), some d => (t' == t) = true ∧ (match d with
    | .interface _ => False
    | _ => putK N dst (.v (bif ok then .tup [v, .sc (.bool true)] else v)) s K)
  | _, _ => False
theorem aAssert_reads {o : Oper} {t t' : TypeId} {ok : Bool} {x : Operand} (ho : o.op = .typeAssert x t' t ok) (h : Sim c N s a w) (hk : aAssert P N o.dst x t ok s K) : Reads P o a w (Post c w N K) := by
  unfold aAssert at hk
  split at hk
  · rename_i t2 v d hx hu
    obtain ⟨h1, hk⟩ := hk
    have h1 : t2 = t := by simpa using h1
    subst h1
    have hr := evalV_rel h hx
    generalize hv : a.eval x = xv at hr
    cases hr with
    | iface hr =>
      rename_i u
      refine ⟨if ok then .tuple #[u, .bool true] else u, fun w' _ => ?_, ?_⟩
      · unfold execOp
        simp only [ho, hv, Instr.typeAssert, Sem.run_bind, run_underlying' hu, Result.andThen_ok]
        split at hk
        · exact hk.elim
        · rename_i hd
          cases d <;> first
            | exact absurd rfl (hd _)
            | (simp only [if_true, Sem.run_pure, Result.andThen_ok])
      · split at hk
        · exact hk.elim
        · refine putK_post h hk fun _ _ => ?_
          cases ok
          · exact hr
          · exact Rel.tup (vs := #[u, .bool true]) (.cons hr (.cons (.sc _) .nil))
  · exact hk.elim
end
end AM
end Go.Proofs.Ytmjnffjacgjfmaa
