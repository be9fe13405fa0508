/- Slices that are laid or grown, over an abstract state. Plain lemmas, over any program. -/
import Derived.Test.YtoooldijnilpaaaAj
import Derived.Maps.AppendAt
namespace Go.Proofs.Ytoooldijnilpaaa
set_option linter.all false
open Go.RowKit
namespace AM
section
variable {P : Program} {c : Cx} {N : Nat} {s : St} {a : Act} {w : World} {K : St → Prop}

/-! ## Zero cells, again and again -/
def zerosV (n : Nat) (zc : List V) : List V := (List.replicate n zc).flatten
theorem range_mod (z : Array Value) (hz : 0 < z.size) : ∀ n, ((Array.range (n * z.size)).map fun j => z[j % z.size]!).toList = (List.replicate n z.toList).flatten
  | 0 => by simp
  | n + 1 => by
    have ih := range_mod z hz n
    simp only [Array.toList_map, Array.toList_range] at ih ⊢
    rw [Nat.succ_mul, List.range_add, List.map_append, ih, List.replicate_succ', List.flatten_append, List.map_map]
    congr 1
    simp only [List.flatten_cons, List.flatten_nil, List.append_nil]
    apply List.ext_getElem
    · simp
    · intro i h1 h2
      simp only [List.getElem_map, List.getElem_range, Function.comp]
      have hi : i < z.size := by simpa using h2
      rw [Nat.mul_comm n z.size, Nat.mul_add_mod, Nat.mod_eq_of_lt hi]
      simp [hi]
theorem relL_zeros {I : Nat → Nat → Option Value} {φ : List Nat} {zc : List V} {zs : List Value} (h : RelL I φ zc zs) : ∀ n, RelL I φ (zerosV n zc) (List.replicate n zs).flatten
  | 0 => by unfold zerosV; exact .nil
  | n + 1 => by
    unfold zerosV
    simp only [List.replicate_succ, List.flatten_cons]
    exact h.append (relL_zeros h n)

/-! ## A literal of a slice -/
def aBuildSlice (P : Program) (N : Nat) (dst : Option Tmp) (t : TypeId) (n : Nat) (parts : List (Nat × Operand)) (s : St) (K : St → Prop) : Prop := match P.underlying t, dst with
  | some (.slice e), some d => match zeroCs P e, partsV s parts, sizeT P e with
    | some zc, some ps, some sz => (Nat.ble 1 sz = true ∧ zc.length = sz ∧ Nat.ble (n * sz) 16777216 = true) ∧ (match fillV (fun i => some (i * sz, sz)) (zerosV n zc) ps with
      | some cs => d < N ∧ K ⟨putF d (.own true e n sz cs) s.F, s.H⟩
      | none => False)
    | _, _, _ => False
  | _, _ => False
theorem aBuildSlice_acts {o : Oper} {t : TypeId} {n : Nat} {parts : Array (Nat × Operand)} (ho : o.op = .buildSlice t n parts) (h : Sim c N s a w) (hk : aBuildSlice P N o.dst t n parts.toList s K) : Acts P o a w (Post c w N K) := by
  unfold aBuildSlice at hk
  split at hk
  · rename_i e d hu hd
    split at hk
    · rename_i zc ps sz hz hp hs
      obtain ⟨⟨q1, q2, q3⟩, hk⟩ := hk
      have q1 := Nat.le_of_ble_eq_true q1
      have q3 := Nat.le_of_ble_eq_true q3
      cases hf : fillV (fun i => some (i * sz, sz)) (zerosV n zc) ps with
      | none => rw [hf] at hk; exact hk.elim
      | some cs =>
        rw [hf] at hk
        obtain ⟨hk0, hk⟩ := hk
        unfold zeroCs at hz
        cases hzt : zeroT P e with
        | none => rw [hzt] at hz; cases hz
        | some z =>
          rw [hzt] at hz
          simp only at hz
          cases h1 : z.cells.toList.all (·.oneCell') with
          | false => rw [h1] at hz; cases hz
          | true =>
            rw [h1] at hz
            cases hz
            have hzs : z.cells.size = sz := by simpa using q2
            have hrow : ∀ k, ((Array.range (k * sz)).map fun j => z.cells[j % z.cells.size]!).toList = (List.replicate k z.cells.toList).flatten := fun k => by
              have := range_mod z.cells (by omega) k
              rwa [hzs] at this ⊢
            have hone : ∀ v ∈ ((Array.range (n * sz)).map fun j => z.cells[j % z.cells.size]!).toList, v.oneCell' = true := fun v hv => by
              rw [hrow] at hv
              obtain ⟨l, hl, hv⟩ := List.mem_flatten.1 hv
              rw [(List.mem_replicate.1 hl).2] at hv
              exact List.all_eq_true.1 h1 v hv
            obtain ⟨arr', k1, k2, k3, k4⟩ := fillV_run (I := c.I) (φ := c.φ) (arr := (Array.range (n * sz)).map fun j => z.cells[j % z.cells.size]!) (partsV_rel h hp) (by rw [hrow]; exact relL_zeros (relL_map ofCell_rel _) n) hone hf
            have hsz : arr'.size = n * sz := by rw [k3]; simp
            obtain ⟨m1, m2⟩ := Sim.layOwn (F := s.F) (H := s.H) (arr := arr') (cs := cs) (e := e) (n := n) (cap := n) (sz := sz) h hk0 q1 (by rw [List.take_of_length_le (by simp [hsz])]; exact k2) (Nat.le_refl _) (by
                have : n ≤ n * sz := Nat.le_mul_of_pos_right _ q1
                unfold maxLen; omega) hsz k4
            refine acts_value (v := .slice (some ⟨w.heap.size, 0, none⟩) n n) (w' := w.alloc (.cells arr' e)) ?_ ⟨_, _, by rw [hd]; exact m1, m2, hk⟩
            have e1 : (parts.map fun (x : Nat × Operand) => match x with | (i, x) => (i, a.eval x)).toList = parts.toList.map fun (i, x) => (i, a.eval x) := by simp
            unfold execOp
            simp only [ho, Instr.buildSlice, Sem.run_bind, run_underlying' hu, Result.andThen_ok, run_sizeOf hs]
            rw [if_neg (by omega)]
            by_cases hn : n * sz = 0
            · have hn0 : n = 0 := by
                rcases Nat.mul_eq_zero.1 hn with h | h
                · exact h
                · omega
              subst hn0
              rw [if_pos (by simp)]
              simp only [Sem.run_bind, Sem.run_pure, Result.andThen_ok]
              have e3 : ((Array.range (0 * sz)).map fun j => (#[] : Array Value)[j % (#[] : Array Value).size]!) = ((Array.range (0 * sz)).map fun j => z.cells[j % z.cells.size]!) := by simp
              rw [e1, e3]
              simp only [k1, Sem.run_bind, run_newRow, Result.andThen_ok, Sem.run_pure]
            · rw [if_neg hn]
              simp only [Sem.run_bind, run_zeroValue hzt, Result.andThen_ok, Sem.run_pure]
              rw [e1]
              simp only [k1, Sem.run_bind, run_newRow, Result.andThen_ok, Sem.run_pure]
    · exact hk.elim
  · exact hk.elim

theorem del_del (d : Nat) : ∀ F : Fr, del d (del d F) = del d F
  | [] => rfl
  | (k, y) :: F => by
    cases hc : (k == d || y.refers (.slot d)) with
    | true =>
      have e : del d ((k, y) :: F) = del d F := by simp only [del, hc, cond_true]
      rw [e, del_del d F]
    | false =>
      have e : ∀ F, del d ((k, y) :: F) = (k, y) :: del d F := fun F => by simp only [del, hc, cond_false]
      rw [e, e, del_del d F]

/-! ## append -/
theorem run_append_none {t ty e : TypeId} {sz : Nat} {q A : Option Addr} {n cap : Nat} (ht : P.underlying t = some (.slice e)) (hs : sizeT P e = some sz) (hn : n ≤ cap) :
    (Builtin.append_ #[t, t] ty #[.slice q n cap, .slice A 0 0]).run P w = .ok (.slice q n cap) w := by
  unfold Builtin.append_
  simp only [List.getElem?_toArray, List.getElem?_cons_zero, List.getElem?_cons_succ, Sem.run_bind, run_underlying' ht, Result.andThen_ok, run_sizeOf hs]
  cases q <;> cases A <;> simp [run_underlying' ht, Builtin.lenOf, Builtin.firstCells, hn, storeCells, loadCells, loadCellsFrom]

theorem append_any {t ty e : TypeId} {i : TypeInfo} {z : Value} {sz bytes : Nat} (ht : P.underlying t = some (.slice e)) (hi : P.info? e = some i) (hz : i.zero = some z) (hsize : i.size = sz) (hby : i.bytes = bytes) (hzs : z.cells.size = sz) (hsz : 0 < sz)
    {v x : Value} {n m : Nat} {xs news : List Value} (hown : w.ownsRow 0 e sz v n xs)
    (hx : ((∃ A, x = .slice A 0 0) ∧ m = 0 ∧ news = []) ∨ ∃ b o cp, x = .slice (some ⟨b, o, none⟩) m cp ∧ news.length = m * sz ∧ ∀ j u, news[j]? = some u → w.cell? ⟨b, o + j, none⟩ = some u)
    (h1 : ∀ u ∈ news, u.oneCell' = true) (h63 : n + m ≤ maxLen) (hbytes : (n + m) * bytes ≤ 140737488355328) :
    ∃ v' w', (Builtin.append_ #[t, t] ty #[v, x]).run P w = .ok v' w' ∧ w'.ownsRow 0 e sz v' (n + m) (xs ++ news) ∧ w.grownBy w' v.ownBlock ∧ (v'.ownBlock = v.ownBlock ∨ v'.ownBlock = some w.heap.size) ∧
      ∀ g, v.ownBlock = some g → ∀ o u, xs[o]? = some u → w'.cell? ⟨g, o, none⟩ = some u := by
  rcases hx with ⟨⟨A, rfl⟩, rfl, rfl⟩ | ⟨b, o, cp, rfl, hl, hc⟩
  · have hv : ∃ q cap, v = .slice q n cap ∧ n ≤ cap := by
      rcases hown.2 with ⟨rfl, rfl⟩ | ⟨g, cap, cur, rfl, _, _, h2, _⟩
      · exact ⟨_, _, rfl, Nat.le_refl _⟩
      · exact ⟨_, _, rfl, h2⟩
    obtain ⟨q, cap, rfl, hn⟩ := hv
    refine ⟨_, w, run_append_none (sz := sz) ht (by simp [sizeT, hi, hsize]) hn, by simpa using hown, ⟨rfl, rfl, rfl, Nat.le_refl _, fun _ _ _ => rfl⟩, .inl rfl, fun g hg o u hu => own_cell hown hg hu⟩
  · have hc' : ∀ j u, news[j]? = some u → w.cell? ((⟨b, o, none⟩ : Addr).add j) = some u := fun j u hu => by rw [add_eq]; exact hc j u hu
    obtain ⟨v', w', hr, k1, k2, k3, k4⟩ := run_append_own_at (P := P) w 0 t ty e i z sz bytes ht hi hz hsize hby hzs hsz v n xs hown ⟨b, o, none⟩ m cp news hl hc' h1 h63 hbytes (Nat.zero_le _)
    refine ⟨v', w', hr, k1, k2, k4, fun g hg o' u hu => ?_⟩
    rcases hown.2 with ⟨rfl, _⟩ | ⟨g', cap, cur, rfl, _, g1, g2, g3, g4, g5⟩
    · cases hg
    · cases hg
      by_cases hroom : n + m ≤ cap
      · have hfit : n * i.size + news.length ≤ cur.size := by rw [hl, g4, hsize, ← Nat.add_mul]; exact Nat.mul_le_mul_right _ hroom
        have hr2 := run_append_room (P := P) w t ty e i ht hi g' n cap cur g1 ⟨b, o, none⟩ m cp news (by rw [hsize]; exact hl) hc' h1 hroom hfit
        rw [hr] at hr2
        cases hr2
        have h6 : (xs ++ news)[o']? = some u := by rw [List.getElem?_append_left (List.getElem?_eq_some_iff.1 hu).1]; exact hu
        exact own_cell k1 rfl h6
      · have holds : ∀ j u, xs[j]? = some u → w.cell? ((⟨g', 0, none⟩ : Addr).add j) = some u := hown.cells (g := g') rfl
        have hsmall : n + m ≤ 9223372036854775807 := by simp only [maxLen] at h63; omega
        have hr2 := run_append_grow (P := P) w t ty e i z ht hi hz ⟨g', 0, none⟩ n cap xs (by rw [hsize]; exact hown.1) holds ⟨b, o, none⟩ m cp news (by rw [hsize]; exact hl) hc' (by omega) (by omega) (growslice_fits (by omega) (by rw [hby]; exact hbytes))
        rw [hr] at hr2
        cases hr2
        exact cell_alloc' (w := w.drew) (own_cell hown rfl hu)

def elT (P : Program) (t : TypeId) : Option (TypeId × Nat × Nat) := match P.underlying t with
  | some (.slice e) => match P.info? e with
    | some i => match i.zero with
      | some z => bif z.cells.size == i.size && Nat.ble 1 i.size then some (e, i.size, i.bytes) else none
      | none => none
    | none => none
  | _ => none
theorem elT_spec {t e : TypeId} {sz bytes : Nat} (h : elT P t = some (e, sz, bytes)) : P.underlying t = some (.slice e) ∧ 0 < sz ∧ ∃ i z, P.info? e = some i ∧ i.zero = some z ∧ i.size = sz ∧ i.bytes = bytes ∧ z.cells.size = sz := by
  unfold elT at h
  split at h
  · rename_i e' hu
    cases hi : P.info? e' with
    | none => rw [hi] at h; cases h
    | some i =>
      rw [hi] at h
      simp only at h
      cases hz : i.zero with
      | none => rw [hz] at h; cases h
      | some z =>
        rw [hz] at h
        simp only at h
        cases hb : (z.cells.size == i.size && Nat.ble 1 i.size) with
        | false => rw [hb] at h; cases h
        | true =>
          rw [hb] at h
          cases h
          simp only [Bool.and_eq_true, beq_iff_eq] at hb
          exact ⟨hu, Nat.le_of_ble_eq_true hb.2, i, z, hi, hz, rfl, rfl, hb.1⟩
  · cases h

/-- What is appended: how many elements, and their cells. -/
def newsV (s : St) (sz : Nat) (x : Operand) : Option (Nat × List V) := match eval s x with
  | some (.v (.sl m z ds)) => bif z == sz then some (m, ds) else none
  | some (.v .nil) => some (0, [])
  | some (.own _ _ m z ds) => bif z == sz then some (m, ds) else none
  | _ => none
theorem newsV_rel {sz m : Nat} {ds : List V} {x : Operand} (h : Sim c N s a w) (hx : newsV s sz x = some (m, ds)) :
    ∃ ns, RelL c.I c.φ ds ns ∧ (∀ u ∈ ns, u.oneCell' = true) ∧ (((∃ A, a.eval x = .slice A 0 0) ∧ m = 0 ∧ ns = []) ∨ ∃ b o cp, a.eval x = .slice (some ⟨b, o, none⟩) m cp ∧ ns.length = m * sz ∧ ∀ j u, ns[j]? = some u → w.cell? ⟨b, o + j, none⟩ = some u) := by
  unfold newsV at hx
  cases he : eval s x with
  | none => rw [he] at hx; cases hx
  | some y =>
    rw [he] at hx
    cases y with
    | v q =>
      have hr := eval_any h he (fun _ _ _ _ _ e => by cases e) (.slot 0)
      cases q with
      | sl m' z ds' =>
        simp only at hx
        cases hz : z == sz with
        | false => rw [hz] at hx; cases hx
        | true =>
          rw [hz] at hx
          cases hx
          have hz : z = sz := by simpa using hz
          subst hz
          generalize a.eval x = v at hr
          cases hr with
          | sl r1 r2 r3 r4 r5 r6 => exact ⟨_, r1, r6, .inr ⟨_, _, _, rfl, by rw [← r1.len, r3], fun j u hu => h.inv.imm _ _ _ (r2 j u hu)⟩⟩
          | sl0 => exact ⟨[], .nil, fun u hu => (by cases hu), .inl ⟨⟨_, rfl⟩, rfl, rfl⟩⟩
      | nil =>
        cases hx
        generalize a.eval x = v at hr
        cases hr
        exact ⟨[], .nil, fun u hu => (by cases hu), .inl ⟨⟨_, rfl⟩, rfl, rfl⟩⟩
      | _ => cases hx
    | own pr e m' z ds' =>
      simp only at hx
      cases hz : z == sz with
      | false => rw [hz] at hx; cases hx
      | true =>
        rw [hz] at hx
        cases hx
        have hz : z = sz := by simpa using hz
        subst hz
        rcases eval_rel h he (.slot 0) with ⟨t, _, _, _, hr⟩ | ⟨z, e', hr⟩
        · obtain ⟨h0, vs, h1, h2, h3, h4⟩ := hr
          rcases h2.2 with ⟨e1, e2⟩ | ⟨g, cap, cur, e1, _, g1, g2, g3, g4, g5⟩
          · subst e2
            rw [e1] at h2
            obtain ⟨rfl, rfl⟩ := nil_of h1 h2
            exact ⟨[], .nil, h3, .inl ⟨⟨_, e1⟩, rfl, rfl⟩⟩
          · refine ⟨vs, h1, h3, .inr ⟨g, 0, cap, e1, h2.1, fun j u hu => ?_⟩⟩
            rw [Nat.zero_add]
            exact own_cell h2 (by rw [e1]; rfl) hu
        · cases e'
    | _ => cases hx

def aAppend (P : Program) (N : Nat) (dst : Option Tmp) (t : TypeId) (x y : Operand) (s : St) (K : St → Prop) : Prop := match elT P t, dst with
  | some (e, sz, bytes), some d => match newsV s sz y with
    | some (m, ds) => match eval s x with
      | some (.v .nil) => d < N ∧ m * bytes ≤ 140737488355328 ∧ m ≤ 9223372036854775807 ∧ K ⟨putF d (.own true e m sz ds) s.F, s.H⟩
      | some (.own pr e' n sz' cs) => match x with
        | .tmp u => (e' == e && sz' == sz) = true ∧ d < N ∧ ((n + m) * bytes ≤ 140737488355328 ∧ n + m ≤ 9223372036854775807) ∧ K ⟨putF d (.own pr e (n + m) sz (cs ++ ds)) (del u s.F), s.H⟩
        | _ => False
      | _ => False
    | none => False
  | _, _ => False
theorem aAppend_acts {o : Oper} {t : TypeId} {x y : Operand} (ho : o.op = .call { callee := .builtin .append, args := #[x, y], argTypes := #[t, t] }) (h : Sim c N s a w) (hk : aAppend P N o.dst t x y s K) : Acts P o a w (Post c w N K) := by
  unfold aAppend at hk
  split at hk
  · rename_i e sz bytes d hel hd
    obtain ⟨ht, hsz, i, z, hi, hz, hs, hb, hzs⟩ := elT_spec hel
    cases hy : newsV s sz y with
    | none => rw [hy] at hk; exact hk.elim
    | some q =>
      obtain ⟨m, ds⟩ := q
      rw [hy] at hk
      simp only at hk
      obtain ⟨ns, r1, r2, r3⟩ := newsV_rel h hy
      have run : ∀ v' w', (Builtin.append_ #[t, t] o.type #[a.eval x, a.eval y]).run P w = .ok v' w' → (execOp a.eval o).run P w = .ok (.value v') w' := fun v' w' hr => by
        unfold execOp
        simp only [ho, resolve, Sem.run_bind, Sem.run_pure, Result.andThen_ok, invoke, builtin, List.map_toArray, List.map_cons, List.map_nil, hr]
      cases hx : eval s x with
      | none => rw [hx] at hk; exact hk.elim
      | some p =>
        rw [hx] at hk
        cases p with
        | v q =>
          cases q with
          | nil =>
            obtain ⟨h1, h2, h3, hk⟩ := hk
            have hv : a.eval x = .slice none 0 0 := by
              have := eval_any h hx (fun _ _ _ _ _ e => by cases e) (.slot 0)
              generalize a.eval x = v at this
              cases this
              rfl
            have hown : w.ownsRow 0 e sz (.slice none 0 0) 0 [] := ⟨by simp, .inl ⟨rfl, rfl⟩⟩
            obtain ⟨v', w', hr, k1, k2, k3, k4⟩ := append_any (P := P) (ty := o.type) ht hi hz hs hb hzs hsz hown r3 r2 (by unfold maxLen; omega) (by rw [Nat.zero_add]; exact h2)
            simp only [Nat.zero_add, List.nil_append] at k1
            have hsim : Sim c N ⟨del d s.F, s.H⟩ a w := Sim.sub (F := s.F) h fun p hp => (mem_del (x := p.2) (k := p.1) hp).1
            obtain ⟨c', q1, q2⟩ := hsim.grow (t := d) (u := d) (pr := true) (n := 0) (m := m) (cs := []) (vs := []) (v := .slice none 0 0) h1 hsz (fun k x hx => ⟨(mem_del hx).2.1, (mem_del hx).2.2⟩) .nil hown (fun b hb => by cases hb) r1 (by simpa using r2) (by simpa using k1) k2 k3 (fun g hg => by cases hg)
            simp only [Nat.zero_add, List.nil_append] at q1
            unfold putF at q1
            rw [del_del] at q1
            refine acts_value (run _ _ (by rw [hv]; exact hr)) ?_
            rw [hd]
            exact ⟨c', ⟨putF d (.own true e m sz ds) s.F, s.H⟩, q1, q2, hk⟩
          | _ => exact hk.elim
        | own pr e' n sz' cs =>
          cases x with
          | tmp u =>
            obtain ⟨h0, h1, ⟨h2, h3⟩, hk⟩ := hk
            simp only [Bool.and_eq_true, beq_iff_eq] at h0
            obtain ⟨rfl, rfl⟩ := h0
            rcases eval_rel h hx (.slot 0) with ⟨t', ht', _, _, hr'⟩ | ⟨z', e'', _⟩
            · cases ht'
              obtain ⟨_, vs, l1, l2, l3, l4⟩ := hr'
              obtain ⟨v', w', hr, k1, k2, k3, k4⟩ := append_any (P := P) (ty := o.type) ht hi hz hs hb hzs hsz l2 r3 r2 (by unfold maxLen; omega) h2
              have hsim : Sim c N ⟨del u s.F, s.H⟩ a w := Sim.sub (F := s.F) h fun p hp => (mem_del (x := p.2) (k := p.1) hp).1
              obtain ⟨c', q1, q2⟩ := hsim.grow (t := d) (u := u) (pr := pr) (n := n) (m := m) (cs := cs) (vs := vs) h1 hsz (fun k x hx => ⟨(mem_del hx).2.1, (mem_del hx).2.2⟩) l1 l2 l4 r1 (fun x hx => (List.mem_append.1 hx).elim (l3 x) (r2 x)) k1 k2 k3 k4
              exact acts_value (run _ _ hr) ⟨c', _, by rw [hd]; exact q1, q2, hk⟩
            · cases e''
          | _ => exact hk.elim
        | _ => exact hk.elim
  · exact hk.elim

/-! ## makeFunc -/
def valsV (s : St) : List Operand → Option (List V)
  | [] => some []
  | x :: xs => match evalV s x, valsV s xs with
    | some v, some l => some (v :: l)
    | _, _ => none
theorem valsV_rel (h : Sim c N s a w) : ∀ {xs : List Operand} {l : List V}, valsV s xs = some l → RelL c.I c.φ l (xs.map a.eval)
  | [], l, hl => by cases hl; exact .nil
  | x :: xs, l, hl => by
    unfold valsV at hl
    cases hx : evalV s x with
    | none => rw [hx] at hl; cases hl
    | some v =>
      cases hp : valsV s xs with
      | none => rw [hx, hp] at hl; cases hl
      | some l' =>
        rw [hx, hp] at hl
        cases hl
        exact .cons (evalV_rel h hx) (valsV_rel h hp)
def aMakeFunc (N : Nat) (dst : Option Tmp) (f : Fn) (first cap : List Operand) (s : St) (K : St → Prop) : Prop := match valsV s first, valsV s cap with
  | some l, some k => putK N dst (.v (.fn f l k)) s K
  | _, _ => False
theorem aMakeFunc_reads {o : Oper} {f : Fn} {first cap : Array Operand} (ho : o.op = .makeFunc f first cap) (h : Sim c N s a w) (hk : aMakeFunc N o.dst f first.toList cap.toList s K) : Reads P o a w (Post c w N K) := by
  unfold aMakeFunc at hk
  split at hk
  · rename_i l k h1 h2
    refine ⟨.func f (first.map a.eval) (cap.map a.eval), fun w' _ => ?_, putK_post h hk fun _ _ => Rel.fn (by simpa using valsV_rel h h1) (by simpa using valsV_rel h h2)⟩
    unfold execOp
    simp only [ho, Instr.makeFunc, Sem.run_bind, Sem.run_pure, Result.andThen_ok]
  · exact hk.elim
end
end AM
end Go.Proofs.Ytoooldijnilpaaa
