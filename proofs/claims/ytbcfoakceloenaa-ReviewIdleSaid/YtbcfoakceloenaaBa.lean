/- A row of the call's own that is handed to a library function which turns it in place, and perhaps hands it back shorter. Plain lemmas, over any program. -/
import Derived.Test.YtbcfoakceloenaaAt1
import Derived.Test.YtbcfoakceloenaaAw1
namespace Go.Proofs.Ytbcfoakceloenaa
set_option linter.all false
open Go.RowKit
namespace AM
section
variable {P : Program} {c : Cx} {N : Nat} {a : Act} {w w' : World} {F : Fr} {H : List Bk}
/-- A row that nobody holds is turned. -/
theorem Sim.turned {u g : Nat} (h : Sim c N ⟨F, H⟩ a w) (hR : c.R g = .own (.slot u)) (hI : ∀ o, c.I g o = none) (hg : ∃ arr e f, w.heap[g]? = some (.cells arr e f)) (hF : ∀ k x, (k, x) ∈ F → k ≠ u ∧ x.refers (.slot u) = false)
    (hother : ∀ k, k ≠ g → k < w.heap.size → w'.heap[k]? = w.heap[k]?) (hsize : w.heap.size ≤ w'.heap.size) : Sim c N ⟨F, H⟩ a w' := by
  have hlt : ∀ b, c.R b ≠ .out → b < w.heap.size := h.inv.lt
  have keep : ∀ b q, c.R b = .own q → q ≠ .slot u → w'.heap[b]? = w.heap[b]? := fun b q hb hq => hother b (by rintro rfl; rw [hR] at hb; exact hq (by simpa using hb.symm)) (hlt b (by rw [hb]; simp))
  refine ⟨⟨fun b o v hv => ?_, h.inv.len, fun b hb => Nat.lt_of_lt_of_le (hlt b hb) hsize, h.inv.uniq, fun id b k hb hk => ?_⟩, h.size, h.defers, fun t x hx => ?_⟩
  · have hne : b ≠ g := by rintro rfl; rw [hI] at hv; cases hv
    have hc := h.inv.imm b o v hv
    rw [World.cell?_of_block (a := ⟨b, o, none⟩) (hother b hne (World.block_lt_of_cell? w ⟨b, o, none⟩ hc))]
    exact hc
  · obtain ⟨k1, k2, k3⟩ := h.inv.blk id b k hb hk
    have hne : b ≠ g := by rintro rfl; rw [hR] at k1; cases k1
    refine ⟨k1, k2, ?_⟩
    by_cases hck : ∃ cs, k = .cells cs
    rotate_left
    · refine BRel.stay (fun cs e => hck ⟨cs, e⟩) k3 (fun _ _ _ h => h) (fun _ _ h => h) (fun b' o ho hn => ?_)
      have hb' : b' < w.heap.size := obj_lt ho
      by_cases hbg : b' = g
      · subst hbg
        obtain ⟨arr, e, f, hc⟩ := hg
        exact absurd (Option.some.inj (ho.symm.trans hc)) (hn arr e f)
      · exact (hother b' hbg hb').trans ho
    obtain ⟨cs, rfl⟩ := hck
    obtain ⟨arr, e, g1, g2, g6, g3⟩ := k3
    refine ⟨arr, e, (hother b hne (hlt b (by rw [k1]; simp))).trans g1, g2, g6, fun j x v hx hv => ⟨(g3 j x v hx hv).1, ?_⟩⟩
    refine SRel.mono (c := c) (c' := c) (w := w) (w' := w') (fun _ _ _ h => h) (fun _ _ h => h) (fun b' q hq hb' => ⟨hb', keep b' q hb' ?_, fun _ => rfl⟩) (g3 j x v hx hv).2
    rcases hq with rfl | hq
    · simp
    · rw [flat_refers (g3 j x v hx hv).1] at hq; cases hq
  · obtain ⟨v', h1, h2⟩ := h.fr t x hx
    obtain ⟨f1, f2⟩ := hF t x hx
    refine ⟨v', h1, SRel.mono (c := c) (c' := c) (w := w) (w' := w') (fun _ _ _ h => h) (fun _ _ h => h) (fun b' q hq hb' => ⟨hb', keep b' q hb' ?_, fun _ => rfl⟩) h2⟩
    rcases hq with rfl | hq
    · simpa using f1
    · rintro rfl
      rw [f2] at hq
      cases hq
/-- Nothing of what is known turns. -/
theorem Sim.still (h : Sim c N ⟨F, H⟩ a w) (hb : Go.RowKit.Below w.heap.size w w') : Sim c N ⟨F, H⟩ a w' ∧ Ext c w c w' := by
  have hheap : ∀ k, k < w.heap.size → w'.heap[k]? = w.heap[k]? := fun k hk => hb.block k hk
  have := h.past (c3 := ⟨c.I, [], fun _ => .out⟩) (c0 := ⟨c.I, [], fun _ => .out⟩) (H' := []) (w' := w') rfl (fun _ => rfl)
    ⟨fun b o v hv => by
      have := h.inv.imm b o v hv
      rw [World.cell?_of_block (a := ⟨b, o, none⟩) (hheap b (World.block_lt_of_cell? w ⟨b, o, none⟩ this))]
      exact this, rfl, fun b hb => absurd rfl hb, fun b b' r hb => (by cases hb), fun id b k hb hk => (by simp at hb)⟩
    ⟨hb.os, hb.tape, hb.output, hb.size, fun k hk _ => ⟨hheap k hk, rfl, fun _ => rfl⟩, fun _ _ _ h => h, fun _ _ h => by simp at h⟩
  exact ⟨this.1, ⟨hb.os, hb.tape, hb.output, hb.size, fun k hk ho => ⟨hheap k hk, ho, fun _ => rfl⟩, fun _ _ _ h => h, fun _ _ h => h⟩⟩
end
/-- What a library function promises that is handed a row and turns it in place. -/
structure RowFn {α : Type} (P : Program) (f : FuncId) (extra : List Value) (e sz : Nat) (enc : α → List Value) (ret : Bool) (R : List α → List α → Prop) : Prop where
  row : ∀ (blk cap : Nat) (zs : List α) (w : World), zs.length < 4611686018427387904 → w.ownsRow 0 e sz (.slice (some ⟨blk, 0, none⟩) zs.length cap) zs.length (zs.flatMap enc) →
    Calls P f (.slice (some ⟨blk, 0, none⟩) zs.length cap :: extra).toArray w fun e' w' => ∃ ys, R zs ys ∧ e' = .returned (if ret then .slice (some ⟨blk, 0, none⟩) ys.length cap else .tuple #[]) ∧ (ret = false → ys.length = zs.length) ∧ RowTurned w w' blk e sz ys.length cap (ys.flatMap enc)
  none : ∀ (w : World), Calls P f (.slice none 0 0 :: extra).toArray w fun e' w' => R [] [] ∧ e' = .returned (if ret then .slice none 0 0 else .tuple #[]) ∧ Go.RowKit.Below w.heap.size w w'

section
variable {α : Type} {P : Program} {N : Nat} {id : Nat} {ops : Array Oper} {Q : Exit → St → Prop} {F : Fr} {H : List Bk} {f : FuncId} {extra : List Value} {e sz n : Nat} {enc : α → List Value} {R : List α → List α → Prop} {o1 o2 : Oper} {rest : List Oper} {t u d : Nat} {zs : List α} {xs : List Operand} {args : Array Operand} {ts : Array TypeId}
theorem AW.rowCall (hf : RowFn P f extra e sz enc false R) (hen : Enters P f) (h1c : ∀ x, ∀ v ∈ enc x, v.oneCell' = true)
    (hops : ops.toList = o1 :: o2 :: rest) (h1 : o1.op = .move (.tmp u)) (hd1 : o1.dst = some t) (hg1 : o1.guard = none) (h2 : o2.op = .call { callee := .value (.func f), args := args, argTypes := ts }) (hargs : args = #[.tmp t] ++ xs.toArray) (hxs : ∀ a : Act, xs.map a.eval = extra) (hd2 : o2.dst = some d) (hg2 : o2.guard = none)
    (htu : t ≠ u) (hdu : d ≠ u) (ht : t < N) (hd : d < N) (hF : getF u F = some (.own true e n sz (scs enc zs))) (hr : F.all (fun p => !p.2.refers (.slot u)) = true) (hn : n = zs.length) (hsz : zs.length < 4611686018427387904)
    (hQ : ∀ ys, R zs ys → ys.length = zs.length → aops P N ops.toList rest (Q .normal) ⟨putF d .any (setF u (.own true e n sz (scs enc ys)) (putF t .any F)), H⟩) : AW P N (.region id ops false) Q ⟨F, H⟩ := fun c a w hs => by
  subst hn hargs
  obtain ⟨v, hv, h0, vs, r1, r2, r3, r4⟩ := hs.fr u _ (mem_getF hF)
  obtain rfl := relL_scs r1
  have s1 := hs.put (t := t) (x := .any) (v := v) ht trivial trivial
  have e1 : a.eval (.tmp u) = v := by simp [Act.eval, hv]
  have hu1 : (a.put (some t) v).tmps[u]? = some v := by simp [Act.put, Array.getElem?_setIfInBounds, htu, hv]
  have hts : t < a.tmps.size := by rw [hs.size]; exact ht
  have e2 : (a.put (some t) v).eval (.tmp t) = v := by simp [Act.put, Act.eval, Array.getElem?_setIfInBounds, hts]
  have x1 : Ext c w (c.free (.slot t)) w := Ext.free c w _
  have hF1 : ∀ k x, (k, x) ∈ putF t .any F → x.refers (.slot u) = false := fun k x hx => by
    unfold putF at hx
    rcases List.mem_cons.1 hx with e | hx
    · cases e; rfl
    · have := List.all_eq_true.1 hr _ (mem_del hx).1
      simpa using this
  have hend : ∀ w' ys, R zs ys → ys.length = zs.length → ∀ c', Ext c w c' w' → Sim c' N ⟨setF u (.own true e zs.length sz (scs enc ys)) (putF t .any F), H⟩ (a.put (some t) v) w' → wpList P ops (PostE c w N Q) rest ((a.put (some t) v).put (some d) (.tuple #[])) w' := fun w' ys hR hl c' hx hsim =>
    aops_list (hsim.put (t := d) (x := .any) (v := .tuple #[]) hd trivial trivial) (hQ ys hR hl) fun a' w'' hp => Post.step (hx.trans (Ext.free _ _ _)) hp
  have acts1 : Acts P o1 a w fun a' w' => a' = a.put (some t) v ∧ w' = w := by
    refine Reads.acts ⟨v, fun w' _ => ?_, by rw [hd1]; exact ⟨rfl, rfl⟩⟩
    simp [execOp, h1, e1]
  have acts2 : Acts P o2 (a.put (some t) v) w (fun a' w' => wpList P ops (PostE c w N Q) rest a' w') := by
    obtain ⟨fn, q1, q2, q3⟩ := hen
    unfold Acts Oper.wp
    have hrun : (execOp (a.put (some t) v).eval o2).run P w = .ok (.enter f (v :: extra).toArray) w := by
      have hfv : (a.put (some t) v).eval (.func f) = .func (.func f) #[] #[] := rfl
      have e4 : fn.body.isNone = false := by cases hb : fn.body <;> simp_all
      have e5 := hxs (a.put (some t) v)
      unfold execOp
      simp only [h2, resolve, hfv, Deferred.ofValue, Sem.run_bind, Sem.run_pure, Result.andThen_ok, invoke, callFunc, run_program, q1, q3, Bool.false_eq_true, if_false, e4]
      simp [e2, ← e5]
    rw [hrun, Oper.upon_enter]
    rcases r2.2 with ⟨rfl, hnil⟩ | ⟨g, cap, cur, rfl, hbase, g1, g2, g3, g4, g5⟩
    · have hz : zs = [] := by
        cases zs with
        | nil => rfl
        | cons z zs => simp at hnil
      subst hz
      refine (hf.none w).mono fun e' w' he => ?_
      obtain ⟨hR0, rfl, hbl⟩ := he
      rw [hd2]
      obtain ⟨s2, x2⟩ := s1.still hbl
      refine hend w' [] hR0 rfl _ (x1.trans x2) ⟨s2.inv, s2.size, s2.defers, fun t' x hx => ?_⟩
      rcases mem_setF hx with ⟨rfl, rfl⟩ | ⟨_, hx⟩
      · exact ⟨_, hu1, own_nil h0⟩
      · exact s2.fr t' x hx
    · obtain ⟨p1, p2⟩ := r4 g rfl
      have hR : (c.free (.slot t)).R g = .own (.slot u) := free_own p1 (by simpa using htu.symm)
      refine (hf.row g cap zs w hsz r2).mono fun e' w' he => ?_
      obtain ⟨ys, hRy, rfl, hl, ht'⟩ := he
      have hl := hl rfl
      rw [hl] at ht'
      rw [hd2]
      refine hend _ ys hRy hl _ (x1.trans ⟨ht'.os, ht'.tape, ht'.output, ht'.size, fun b hb ho => ⟨ht'.other b (by rintro rfl; rw [hR] at ho; cases ho) hb, ho, fun _ => rfl⟩, fun _ _ _ h => h, fun _ _ h => h⟩) ?_
      refine s1.rewrite hR p2 ⟨_, _, _, g1⟩ hF1 ht'.other ht'.size hu1 ?_
      exact ⟨h0, _, scs_relL, ht'.row, fun x hx => by obtain ⟨z, _, hz⟩ := List.mem_flatMap.1 hx; exact h1c z x hz, fun b hb => by
        cases hb
        exact ⟨hR, p2⟩⟩
  refine wp_region_list ?_
  rw [hops]
  refine wpList_step fun K' hK' => ?_
  rw [if_pos (by simp [Region.wanted, hg1])]
  refine Mix.wp_of_eff (Mix.effS_mono (fun d v w' h2 => ?_) (Mix.eff_of_wp acts1))
  obtain ⟨ea, rfl⟩ := h2
  refine hK' _ _ ?_
  rw [ea]
  refine wpList_step fun K' hK' => ?_
  rw [if_pos (by simp [Region.wanted, hg2])]
  refine Mix.wp_of_eff (Mix.effS_mono (fun d v w' h2 => ?_) (Mix.eff_of_wp acts2))
  exact hK' _ _ h2

theorem AW.rowBack (hf : RowFn P f extra e sz enc true R) (hen : Enters P f) (h1c : ∀ x, ∀ v ∈ enc x, v.oneCell' = true)
    (hops : ops.toList = o1 :: o2 :: rest) (h1 : o1.op = .move (.tmp u)) (hd1 : o1.dst = some t) (hg1 : o1.guard = none) (h2 : o2.op = .call { callee := .value (.func f), args := args, argTypes := ts }) (hargs : args = #[.tmp t] ++ xs.toArray) (hxs : ∀ a : Act, xs.map a.eval = extra) (hd2 : o2.dst = some d) (hg2 : o2.guard = none)
    (htu : t ≠ u) (ht : t < N) (hd : d < N) (hF : getF u F = some (.own true e n sz (scs enc zs))) (hn : n = zs.length) (hsz : zs.length < 4611686018427387904)
    (hQ : ∀ ys, R zs ys → aops P N ops.toList rest (Q .normal) ⟨putF d (.own true e ys.length sz (scs enc ys)) (del u (putF t .any F)), H⟩) : AW P N (.region id ops false) Q ⟨F, H⟩ := fun c a w hs => by
  subst hn hargs
  obtain ⟨v, hv, h0, vs, r1, r2, r3, r4⟩ := hs.fr u _ (mem_getF hF)
  obtain rfl := relL_scs r1
  have s0 := hs.put (t := t) (x := .any) (v := v) ht trivial trivial
  have s1 := s0.sub (F' := del u (putF t .any F)) fun p hp => (mem_del (x := p.2) (k := p.1) hp).1
  have e1 : a.eval (.tmp u) = v := by simp [Act.eval, hv]
  have hts : t < a.tmps.size := by rw [hs.size]; exact ht
  have e2 : (a.put (some t) v).eval (.tmp t) = v := by simp [Act.put, Act.eval, Array.getElem?_setIfInBounds, hts]
  have x1 : Ext c w (c.free (.slot t)) w := Ext.free c w _
  have hF1 : ∀ k x, (k, x) ∈ del u (putF t .any F) → k ≠ u ∧ x.refers (.slot u) = false := fun k x hx => (mem_del hx).2
  have acts1 : Acts P o1 a w fun a' w' => a' = a.put (some t) v ∧ w' = w := by
    refine Reads.acts ⟨v, fun w' _ => ?_, by rw [hd1]; exact ⟨rfl, rfl⟩⟩
    simp [execOp, h1, e1]
  have acts2 : Acts P o2 (a.put (some t) v) w (fun a' w' => wpList P ops (PostE c w N Q) rest a' w') := by
    obtain ⟨fn, q1, q2, q3⟩ := hen
    unfold Acts Oper.wp
    have hrun : (execOp (a.put (some t) v).eval o2).run P w = .ok (.enter f (v :: extra).toArray) w := by
      have hfv : (a.put (some t) v).eval (.func f) = .func (.func f) #[] #[] := rfl
      have e4 : fn.body.isNone = false := by cases hb : fn.body <;> simp_all
      have e5 := hxs (a.put (some t) v)
      unfold execOp
      simp only [h2, resolve, hfv, Deferred.ofValue, Sem.run_bind, Sem.run_pure, Result.andThen_ok, invoke, callFunc, run_program, q1, q3, Bool.false_eq_true, if_false, e4]
      simp [e2, ← e5]
    rw [hrun, Oper.upon_enter]
    rcases r2.2 with ⟨rfl, hnil⟩ | ⟨g, cap, cur, rfl, hbase, g1, g2, g3, g4, g5⟩
    · have hz : zs = [] := by
        cases zs with
        | nil => rfl
        | cons z zs => simp at hnil
      subst hz
      refine (hf.none w).mono fun e' w' he => ?_
      obtain ⟨hR0, rfl, hbl⟩ := he
      rw [hd2]
      obtain ⟨s2, x2⟩ := s1.still hbl
      exact aops_list (s2.put' (t := d) (x := .own true e 0 sz []) (v := .slice none 0 0) hd (own_nil h0)) (hQ [] hR0) fun a' w'' hp => Post.step ((x1.trans x2).trans (Ext.free _ _ _)) hp
    · obtain ⟨p1, p2⟩ := r4 g rfl
      have hR : (c.free (.slot t)).R g = .own (.slot u) := free_own p1 (by simpa using htu.symm)
      refine (hf.row g cap zs w hsz r2).mono fun e' w' he => ?_
      obtain ⟨ys, hRy, rfl, _, ht'⟩ := he
      rw [hd2]
      have s2 := s1.turned hR p2 ⟨_, _, _, g1⟩ hF1 ht'.other ht'.size
      have hgl : g < w'.heap.size := Nat.lt_of_lt_of_le (obj_lt g1) ht'.size
      have s3 := s2.put_own (t := d) (b := g) (pr := true) (e := e) (n := ys.length) (sz := sz) (cs := scs enc ys) (v := .slice (some ⟨g, 0, none⟩) ys.length cap) hd hgl (fun id => by rw [hR]; simp) (fun id j => by rw [hR]; simp)
        (fun k x hx => by
          obtain ⟨f1, f2⟩ := hF1 k x (mem_del hx).1
          refine ⟨by rw [hR]; simpa using Ne.symm f1, fun q hq => ?_⟩
          rw [hR] at hq
          cases hq
          exact f2)
        ⟨h0, _, scs_relL, ht'.row, fun x hx => by obtain ⟨z, _, hz⟩ := List.mem_flatMap.1 hx; exact h1c z x hz, fun b hb => by
          cases hb
          exact ⟨give_self, p2⟩⟩
      have x2 : Ext (c.free (.slot t)) w ((c.free (.slot t)).give g (.slot d)) w' := ⟨ht'.os, ht'.tape, ht'.output, ht'.size, fun b hb ho => by
        have hbg : b ≠ g := by rintro rfl; rw [hR] at ho; cases ho
        exact ⟨ht'.other b hbg hb, by simp [Cx.give, hbg, ho], fun _ => rfl⟩, fun _ _ _ h => h, fun _ _ h => h⟩
      exact aops_list s3 (hQ ys hRy) fun a' w'' hp => Post.step (x1.trans x2) hp
  refine wp_region_list ?_
  rw [hops]
  refine wpList_step fun K' hK' => ?_
  rw [if_pos (by simp [Region.wanted, hg1])]
  refine Mix.wp_of_eff (Mix.effS_mono (fun d v w' h2 => ?_) (Mix.eff_of_wp acts1))
  obtain ⟨ea, rfl⟩ := h2
  refine hK' _ _ ?_
  rw [ea]
  refine wpList_step fun K' hK' => ?_
  rw [if_pos (by simp [Region.wanted, hg2])]
  refine Mix.wp_of_eff (Mix.effS_mono (fun d v w' h2 => ?_) (Mix.eff_of_wp acts2))
  exact hK' _ _ h2
end
end AM
end Go.Proofs.Ytbcfoakceloenaa
