/- Operations that read memory or reckon with addresses, over an abstract state. Plain lemmas, over any program. -/
import Derived.Test.YtoooldijnilpaaaAf
namespace Go.Proofs.Ytoooldijnilpaaa
set_option linter.all false
open Go.RowKit
namespace AM
section
variable {P : Program} {c : Cx} {N : Nat} {s : St} {a : Act} {w : World} {K : St → Prop}

def aggT (P : Program) (t : TypeId) : Option Bool := match P.underlying t with
  | some (.struct _) => some true
  | some (.array _ _) => some true
  | some _ => some false
  | none => none
def sizeT (P : Program) (t : TypeId) : Option Nat := (P.info? t).map (·.size)

theorem run_isAgg {t : TypeId} {b : Bool} (h : aggT P t = some b) (w : World) : (isAgg t).run P w = .ok b w := by
  unfold aggT at h
  unfold isAgg underlying program
  cases hu : P.underlying t with
  | none => rw [hu] at h; cases h
  | some d =>
    rw [hu] at h
    simp only [Sem.run_bind, Sem.run, Result.andThen_ok, hu]
    cases d <;> simp_all
theorem run_sizeOf {t : TypeId} {n : Nat} (h : sizeT P t = some n) (w : World) : (sizeOf t).run P w = .ok n w := by
  unfold sizeT at h
  unfold sizeOf typeInfo program
  cases hu : P.info? t with
  | none => rw [hu] at h; cases h
  | some d =>
    rw [hu] at h
    simp only [Option.map_some, Option.some.injEq] at h
    simp only [Sem.run_bind, Sem.run, Result.andThen_ok, hu, Sem.run_pure, h]

theorem run_loadCellsFrom {b off : Nat} : ∀ (n i : Nat) (acc : Array Value) (vs : List Value), vs.length = n → (∀ j u, vs[j]? = some u → w.cell? ⟨b, off + i + j, none⟩ = some u) → (loadCellsFrom ⟨b, off, none⟩ i n acc).run P w = .ok (acc ++ vs.toArray) w
  | 0, i, acc, vs, hl, h => by
    have : vs = [] := List.eq_nil_of_length_eq_zero hl
    subst this
    simp [loadCellsFrom]
  | n + 1, i, acc, v :: vs, hl, h => by
    have h0 := h 0 v rfl
    have ih := run_loadCellsFrom n (i + 1) (acc.push v) vs (by simpa using hl) (fun j u hu => by have := h (j + 1) u (by simpa using hu); rwa [show off + i + (j + 1) = off + (i + 1) + j by omega] at this)
    unfold loadCellsFrom
    have e : (load ((⟨b, off, none⟩ : Addr).add i)).run P w = .ok v w := by
      have ea : (⟨b, off, none⟩ : Addr).add i = ⟨b, off + i, none⟩ := by
        unfold Addr.add
        split
        · subst_vars; rfl
        · rfl
      rw [ea]
      simp only [Nat.add_zero] at h0
      simp [load, Sem.run, h0]
    rw [Sem.run_bind, e, Result.andThen_ok, ih]
    simp
  | n + 1, i, acc, [], hl, h => by simp at hl

def ldV (agg : Bool) (n : Nat) (cs : List V) : Option V := bif agg then (bif Nat.ble n cs.length then some (.agg (cs.take n)) else none) else cs.head?

theorem run_loadAt {t : TypeId} {agg : Bool} {n b off : Nat} {cs : List V} {vs : List Value} {y : V} (ha : aggT P t = some agg) (hn : sizeT P t = some n) (hr : RelL c.I c.φ cs vs) (hc : ∀ j u, vs[j]? = some u → w.cell? ⟨b, off + j, none⟩ = some u)
    (hy : ldV agg n cs = some y) : ∃ v, Rel c.I c.φ y v ∧ ∀ w', Agree w w' → (Instr.loadAt t (.pointer (some ⟨b, off, none⟩))).run P w' = .ok v w' := by
  unfold ldV at hy
  cases agg with
  | true =>
    simp only [cond_true] at hy
    cases hle : Nat.ble n cs.length with
    | false => rw [hle] at hy; cases hy
    | true =>
      rw [hle] at hy
      cases hy
      have hle : n ≤ cs.length := Nat.le_of_ble_eq_true hle
      refine ⟨.agg (vs.take n).toArray, .agg (by simpa using hr.take n), fun w' hw => ?_⟩
      have h1 := run_loadCellsFrom (P := P) (w := w') (b := b) (off := off) n 0 #[] (vs.take n) (by rw [List.length_take, ← hr.len]; omega) (fun j u hu => by
        rw [List.getElem?_take] at hu
        split at hu
        · exact hw.cell (hc j u hu)
        · cases hu)
      simp only [Instr.loadAt, Instr.sureAddr, Sem.run_bind, Sem.run_pure, Result.andThen_ok, loadVar, run_isAgg ha, if_true, run_sizeOf hn, loadCells, h1, Array.empty_append]
  | false =>
    simp only [cond_false] at hy
    cases cs with
    | nil => cases hy
    | cons x xs =>
      cases hy
      cases hr with
      | cons h1 h2 =>
        rename_i v vs
        refine ⟨v, h1, fun w' hw => ?_⟩
        have h3 := hw.cell (hc 0 v rfl)
        simp only [Nat.add_zero] at h3
        simp only [Instr.loadAt, Instr.sureAddr, Sem.run_bind, Sem.run_pure, Result.andThen_ok, loadVar, run_isAgg ha, Bool.false_eq_true, if_false]
        simp [load, Sem.run, h3]

/-! ## load -/
def aLoadOwn (N : Nat) (ops : List Oper) (dst : Option Tmp) (p : SV) (s : St) (K : St → Prop) : Prop := match p, dst with
  | .v (.ptr id off), some d => match s.H[id]? with
    | some (.cells ks) => match ks[off]? with
      | some (.own pr e n sz cs) => d < N ∧ (match useOf ops d with
        | .transfer => K ⟨putF d (.own pr e n sz cs) (delR (.cell id off) s.F), setBlk s.H id off .any⟩
        | .link => K ⟨putF d (.lnk (.cell id off) n) s.F, s.H⟩
        | .copy => K ⟨putF d (.v (.sl n sz cs)) s.F, setBlk s.H id off (.own false e n sz cs)⟩)
      | _ => False
    | _ => False
  | _, _ => False
def aLoad (P : Program) (N : Nat) (ops : List Oper) (dst : Option Tmp) (t : TypeId) (x : Operand) (s : St) (K : St → Prop) : Prop := match eval s x, aggT P t, sizeT P t with
  | some p, some agg, some n => match cellsAt s p with
    | some cs => match ldV agg n cs with
      | some y => putK N dst (.v y) s K
      | none => agg = false ∧ aLoadOwn N ops dst p s K
    | none => False
  | _, _, _ => False

theorem eval_ptr {x : Operand} {p : SV} {cs : List V} (h : Sim c N s a w) (hx : eval s x = some p) (hc : cellsAt s p = some cs) :
    ∃ b off vs, a.eval x = .pointer (some ⟨b, off, none⟩) ∧ RelL c.I c.φ cs vs ∧ (∀ j u, vs[j]? = some u → w.cell? ⟨b, off + j, none⟩ = some u) ∧ ∀ u ∈ vs, u.oneCell' = true := by
  rcases eval_rel h hx (.slot 0) with ⟨t, _, _, _, hr⟩ | ⟨z, rfl, hr⟩
  · exact read_cells h hr hc
  · exact read_cells (r := .slot 0) (p := .v z) h hr hc

theorem aLoad_reads {o : Oper} {t : TypeId} {x : Operand} {ops : List Oper} (ho : o.op = .load t x) (h : Sim c N s a w) (hk : aLoad P N ops o.dst t x s K) : Reads P o a w (Post c w N K) := by
  unfold aLoad at hk
  cases he : eval s x with
  | none => rw [he] at hk; exact hk.elim
  | some p =>
    cases ha : aggT P t with
    | none => rw [he, ha] at hk; exact hk.elim
    | some agg =>
      cases hn : sizeT P t with
      | none => rw [he, ha, hn] at hk; exact hk.elim
      | some n =>
        rw [he, ha, hn] at hk
        simp only at hk
        cases hc : cellsAt s p with
        | none => rw [hc] at hk; exact hk.elim
        | some cs =>
          rw [hc] at hk
          simp only at hk
          obtain ⟨b, off, vs, h1, h2, h3, _⟩ := eval_ptr h he hc
          cases hl : ldV agg n cs with
          | some y =>
            rw [hl] at hk
            obtain ⟨v, h4, h5⟩ := run_loadAt (P := P) ha hn h2 h3 hl
            refine ⟨v, fun w' hw => ?_, putK_post h hk fun _ _ => h4⟩
            have hw := hw (by rw [ho]; rfl)
            unfold execOp
            simp only [ho, h1, Sem.run_bind, h5 w' hw, Result.andThen_ok, Sem.run_pure]
          | none =>
            rw [hl] at hk
            obtain ⟨rfl, hk⟩ := hk
            unfold aLoadOwn at hk
            cases p with
            | v z =>
              cases z with
              | ptr id off =>
                cases hd : o.dst with
                | none => rw [hd] at hk; exact hk.elim
                | some d =>
                  rw [hd] at hk
                  simp only at hk
                  cases hk' : s.H[id]? with
                  | none => rw [hk'] at hk; exact hk.elim
                  | some blk =>
                    by_cases hck : ∃ cs, blk = .cells cs
                    rotate_left
                    · rw [hk'] at hk; cases blk <;> first | exact absurd ⟨_, rfl⟩ hck | cases hk | exact hk.elim
                    obtain ⟨ks, rfl⟩ := hck
                    rw [hk'] at hk
                    simp only at hk
                    cases hj : ks[off]? with
                    | none => rw [hj] at hk; exact hk.elim
                    | some y =>
                      cases y with
                      | own pr e n' sz cs' =>
                        rw [hj] at hk
                        obtain ⟨h6, h7⟩ := hk
                        have hp : Rel c.I c.φ (.ptr id off) (a.eval x) := by
                          rcases eval_rel h he (.slot 0) with ⟨t, _, _, _, hr⟩ | ⟨z, e', hr⟩
                          · exact hr
                          · cases e'; exact hr
                        rw [h1] at hp
                        cases hp with
                        | ptr hb =>
                          have run : ∀ u w', Agree w w' → w.cell? ⟨b, off, none⟩ = some u → (execOp a.eval o).run P w' = .ok (.value u) w' := by
                            intro u w' hw hu
                            have h8 := hw.cell hu
                            unfold execOp
                            simp only [ho, h1, Instr.loadAt, Instr.sureAddr, Sem.run_bind, Sem.run_pure, Result.andThen_ok, loadVar, run_isAgg ha, Bool.false_eq_true, if_false]
                            simp [load, Sem.run, h8]
                          unfold Reads
                          rw [hd]
                          cases hu : useOf ops d with
                          | transfer =>
                            simp only [hu] at h7
                            obtain ⟨c', u, k1, k2, k3⟩ := Sim.take (F := s.F) (H := s.H) h hb hk' hj h6
                            exact ⟨u, fun w' hw => run _ w' (hw (by rw [ho]; rfl)) k1, _, _, k2, k3, h7⟩
                          | link =>
                            simp only [hu] at h7
                            obtain ⟨_, _, arr, e', g1, g2, _, g3⟩ := h.inv.blk id b _ hb hk'
                            have hlt : off < arr.size := by rw [g2]; exact (List.getElem?_eq_some_iff.1 hj).1
                            have hcell : w.cell? ⟨b, off, none⟩ = some arr[off] := by simp [World.cell?, g1, hlt]
                            exact ⟨_, fun w' hw => run _ w' (hw (by rw [ho]; rfl)) hcell, _, _, Sim.put (F := s.F) (H := s.H) h h6 (x := .lnk (.cell id off) n') (fun e => by cases e) (own_lnk (g3 off _ _ hj (Array.getElem?_eq_getElem hlt)).2 _), Ext.free c w _, h7⟩
                          | copy =>
                            simp only [hu] at h7
                            obtain ⟨c', u, k1, k2, k3, k4⟩ := Sim.shareCell (F := s.F) (H := s.H) h hb hk' hj
                            exact ⟨u, fun w' hw => run _ w' (hw (by rw [ho]; rfl)) k1, _, _, k3.put h6 (x := .v (.sl n' sz cs')) trivial k2, k4.trans (Ext.free c' w _), h7⟩
                      | _ => rw [hj] at hk; exact hk.elim
              | _ => exact hk.elim
            | _ => exact hk.elim

/-! ## addresses -/
def shift (x : SV) (o : Nat) : Option SV := match x with
  | .v (.ptr id off) => some (.v (.ptr id (off + o)))
  | .v (.rd cs) => some (.v (.rd (cs.drop o)))
  | .pth r off => some (.pth r (off + o))
  | _ => none
theorem shift_rel {x y : SV} {o : Nat} {r : Root} {v : Value} (h : SRel c w r x v) (hs : shift x o = some y) : ∃ b off, v = .pointer (some ⟨b, off, none⟩) ∧ ∀ r', SRel c w r' y (.pointer (some ⟨b, off + o, none⟩)) := by
  unfold shift at hs
  split at hs
  · cases hs
    cases h with
    | ptr hb => exact ⟨_, _, rfl, fun _ => .ptr hb⟩
  · cases hs
    cases h with
    | rd h1 h2 h3 => exact ⟨_, _, rfl, fun _ => Rel.rd (h1.drop o) (fun j u hu => by rw [List.getElem?_drop] at hu; have := h2 _ u hu; rwa [← Nat.add_assoc] at this) (fun u hu => h3 u (List.mem_of_mem_drop hu))⟩
  · cases hs
    obtain ⟨b, rfl, hb⟩ := h
    exact ⟨b, _, rfl, fun _ => ⟨b, rfl, hb⟩⟩
  · cases hs
theorem shift_fit {x y : SV} {o d : Nat} (hs : shift x o = some y) : ∀ pr e n sz cs, y ≠ .own pr e n sz cs := by
  unfold shift at hs
  split at hs <;> cases hs <;> intro _ _ _ _ _ e <;> cases e

def fieldT (P : Program) (t : TypeId) (f : Nat) : Option Nat := match P.underlying t with
  | some (.struct fs) => match fs[f]? with
    | some fd => match sizeT P fd.type with
      | some (_ + 1) => some fd.offset
      | _ => none
    | none => none
  | _ => none
def aFieldAddr (P : Program) (N : Nat) (dst : Option Tmp) (t : TypeId) (x : Operand) (f : Nat) (s : St) (K : St → Prop) : Prop := match eval s x, fieldT P t f with
  | some p, some o => match shift p o with
    | some y => putK N dst y s K
    | none => False
  | _, _ => False

theorem add_eq (b off n : Nat) : (⟨b, off, none⟩ : Addr).add n = ⟨b, off + n, none⟩ := by
  unfold Addr.add
  split
  · subst_vars; rfl
  · rfl

theorem run_underlying' {t : TypeId} {d : TypeDesc} (h : P.underlying t = some d) (w : World) : (underlying t).run P w = .ok d w := by
  unfold underlying program
  simp only [Sem.run_bind, Sem.run, Result.andThen_ok, h, Sem.run_pure]

theorem eval_shift {x : Operand} {p y : SV} {o : Nat} (h : Sim c N s a w) (hx : eval s x = some p) (hs : shift p o = some y) : ∃ b off, a.eval x = .pointer (some ⟨b, off, none⟩) ∧ ∀ r', SRel c w r' y (.pointer (some ⟨b, off + o, none⟩)) := by
  rcases eval_rel h hx (.slot 0) with ⟨t, _, _, _, hr⟩ | ⟨z, rfl, hr⟩
  · exact shift_rel hr hs
  · exact shift_rel (r := .slot 0) (x := .v z) hr hs

theorem aFieldAddr_reads {o : Oper} {t : TypeId} {x : Operand} {f : Nat} (ho : o.op = .fieldAddr t x f) (h : Sim c N s a w) (hk : aFieldAddr P N o.dst t x f s K) : Reads P o a w (Post c w N K) := by
  unfold aFieldAddr at hk
  cases he : eval s x with
  | none => rw [he] at hk; exact hk.elim
  | some p =>
    cases hf : fieldT P t f with
    | none => rw [he, hf] at hk; exact hk.elim
    | some off =>
      rw [he, hf] at hk
      simp only at hk
      cases hs : shift p off with
      | none => rw [hs] at hk; exact hk.elim
      | some y =>
        rw [hs] at hk
        obtain ⟨b, o', h1, h2⟩ := eval_shift h he hs
        refine ⟨_, fun w' _ => ?_, putK_post h hk fun d _ => h2 _⟩
        unfold fieldT at hf
        cases hu : P.underlying t with
        | none => rw [hu] at hf; cases hf
        | some d =>
          cases d with
          | struct fs =>
            rw [hu] at hf
            simp only at hf
            cases hfd : fs[f]? with
            | none => rw [hfd] at hf; cases hf
            | some fd =>
              rw [hfd] at hf
              simp only at hf
              cases hsz : sizeT P fd.type with
              | none => rw [hsz] at hf; cases hf
              | some n =>
                rw [hsz] at hf
                cases n with
                | zero => cases hf
                | succ n =>
                  cases hf
                  unfold execOp
                  simp only [ho, h1, Instr.fieldAt, Sem.run_bind, run_underlying' hu, Result.andThen_ok, hfd, Instr.sureAddr, Sem.run_pure, fieldPlace, run_sizeOf hsz]
                  simp [add_eq]
          | _ => rw [hu] at hf; cases hf

def rowAt (sz : Nat) (cs : List V) (i : Int) : List V := (cs.drop (i.toNat * sz)).take sz
def aIndexAddr (P : Program) (N : Nat) (dst : Option Tmp) (t : TypeId) (x ix : Operand) (s : St) (K : St → Prop) : Prop := match eval s x, evalV s ix with
  | some p, some (.sc (.int _ i)) => match P.underlying t with
    | some (.slice e) => match p with
      | .v (.sl n sz cs) => sizeT P e = some sz ∧ (0 ≤ i ∧ i < n) ∧ putK N dst (.v (.rd (rowAt sz cs i))) s K
      | .lnk r n => match sizeT P e with
        | some sz => (0 ≤ i ∧ i < n) ∧ putK N dst (.pth r (i.toNat * sz)) s K
        | none => False
      | _ => False
    | some (.array n e) => match sizeT P e with
      | some sz => match shift p (i.toNat * sz) with
        | some y => (0 ≤ i ∧ i < n) ∧ putK N dst y s K
        | none => False
      | none => False
    | _ => False
  | _, _ => False

theorem run_indexAt {t e : TypeId} {b off n cap sz : Nat} {k : IntKind} {i : Int} (hu : P.underlying t = some (.slice e)) (hs : sizeT P e = some sz) (h0 : 0 ≤ i) (h1 : i < n) (w : World) :
    (Instr.indexAt t (.slice (some ⟨b, off, none⟩) n cap) (.int k i)).run P w = .ok (.pointer (some ⟨b, off + i.toNat * sz, none⟩)) w := by
  simp only [Instr.indexAt, asIntOf, Sem.run_bind, Sem.run_pure, Result.andThen_ok, run_underlying' hu, h0, h1, and_self, if_true, run_sizeOf hs, add_eq]
theorem run_indexAt_arr {t e : TypeId} {b off n sz : Nat} {k : IntKind} {i : Int} (hu : P.underlying t = some (.array n e)) (hs : sizeT P e = some sz) (h0 : 0 ≤ i) (h1 : i < n) (w : World) :
    (Instr.indexAt t (.pointer (some ⟨b, off, none⟩)) (.int k i)).run P w = .ok (.pointer (some ⟨b, off + i.toNat * sz, none⟩)) w := by
  simp only [Instr.indexAt, asIntOf, Sem.run_bind, Sem.run_pure, Result.andThen_ok, run_underlying' hu, Instr.sureAddr, h0, h1, and_self, if_true, run_sizeOf hs, add_eq]

theorem aIndexAddr_reads {o : Oper} {t : TypeId} {x ix : Operand} (ho : o.op = .indexAddr t x ix) (h : Sim c N s a w) (hk : aIndexAddr P N o.dst t x ix s K) : Reads P o a w (Post c w N K) := by
  unfold aIndexAddr at hk
  cases he : eval s x with
  | none => rw [he] at hk; exact hk.elim
  | some p =>
    cases hi : evalV s ix with
    | none => rw [he, hi] at hk; exact hk.elim
    | some z =>
      have hiv := evalV_rel h hi
      rw [he, hi] at hk
      cases z with
      | sc u =>
        cases u with
        | int kd i =>
          have hix : a.eval ix = .int kd i := Rel.exact hiv rfl
          simp only at hk
          cases hu : P.underlying t with
          | none => rw [hu] at hk; exact hk.elim
          | some d =>
            rw [hu] at hk
            cases d with
            | slice e =>
              simp only at hk
              cases p with
              | v q =>
                cases q with
                | sl n sz cs =>
                  obtain ⟨h1, ⟨h2, h3⟩, h4⟩ := hk
                  have hr : Rel c.I c.φ (.sl n sz cs) (a.eval x) := by
                    rcases eval_rel h he (.slot 0) with ⟨t, _, _, _, hr⟩ | ⟨z, e', hr⟩
                    · exact hr
                    · cases e'; exact hr
                  generalize hv : a.eval x = v at hr
                  cases hr with
                  | sl r1 r2 r3 r4 r5 r6 =>
                    rename_i vs b off cap
                    refine ⟨_, fun w' _ => ?_, putK_post h h4 (v := .pointer (some ⟨b, off + i.toNat * sz, none⟩)) fun d _ => ?_⟩
                    · unfold execOp
                      simp only [ho, hv, hix, Sem.run_bind, run_indexAt hu h1 h2 h3, Result.andThen_ok, Sem.run_pure]
                    · refine Rel.rd ((r1.drop _).take _) (fun j u hu => ?_) (fun u hu => r6 u (List.mem_of_mem_drop (List.mem_of_mem_take hu)))
                      rw [List.getElem?_take] at hu
                      split at hu
                      · rw [List.getElem?_drop] at hu
                        rw [Nat.add_assoc]
                        exact r2 _ u hu
                      · cases hu
                  | sl0 => omega
                | _ => exact hk.elim
              | lnk r n =>
                simp only at hk
                cases hs : sizeT P e with
                | none => rw [hs] at hk; exact hk.elim
                | some sz =>
                  rw [hs] at hk
                  obtain ⟨⟨h2, h3⟩, h4⟩ := hk
                  have hr := eval_any h he (fun _ _ _ _ _ e => by cases e) (.slot 0)
                  rcases hr with ⟨_, rfl⟩ | ⟨b, cap, hv, hb⟩
                  · omega
                  · refine ⟨_, fun w' _ => ?_, putK_post h h4 (v := .pointer (some ⟨b, 0 + i.toNat * sz, none⟩)) fun d _ => ⟨b, by rw [Nat.zero_add], hb⟩⟩
                    unfold execOp
                    simp only [ho, hv, hix, Sem.run_bind, run_indexAt hu hs h2 h3, Result.andThen_ok, Sem.run_pure]
              | _ => exact hk.elim
            | array n e =>
              simp only at hk
              cases hs : sizeT P e with
              | none => rw [hs] at hk; exact hk.elim
              | some sz =>
                rw [hs] at hk
                simp only at hk
                cases hsh : shift p (i.toNat * sz) with
                | none => rw [hsh] at hk; exact hk.elim
                | some y =>
                  rw [hsh] at hk
                  obtain ⟨⟨h2, h3⟩, h4⟩ := hk
                  obtain ⟨b, o', h1, h5⟩ := eval_shift h he hsh
                  refine ⟨_, fun w' _ => ?_, putK_post h h4 fun d _ => h5 _⟩
                  unfold execOp
                  simp only [ho, h1, hix, Sem.run_bind, run_indexAt_arr hu hs h2 h3, Result.andThen_ok, Sem.run_pure]
            | _ => exact hk.elim
        | _ => exact hk.elim
      | _ => exact hk.elim
end
end AM
end Go.Proofs.Ytoooldijnilpaaa
