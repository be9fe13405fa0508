/- Rows that library functions turn. Plain lemmas, over any program. -/
import Derived.Test.YtmjnffjacgjfmaaAr1
import Derived.Sort.OwnSorted
namespace Go.Proofs.Ytmjnffjacgjfmaa
set_option linter.all false
open Go.RowKit
namespace AM
section
variable {P : Program} {c : Cx} {N : Nat} {a : Act} {w w' : World} {F : Fr} {H : List Bk}

/-- The row of a cell is turned; nothing else is. -/
theorem Sim.rewriteCell {id j b g e n sz : Nat} {ks : List SV} {cs' : List V} {v : Value} (h : Sim c N ⟨F, H⟩ a w) (hb : c.φ[id]? = some b) (hk : H[id]? = some (.cells ks)) (hR : c.R g = .own (.cell id j)) (hI : ∀ o, c.I g o = none) (hg : ∃ arr e f, w.heap[g]? = some (.cells arr e f)) (hF : ∀ k x, (k, x) ∈ F → x.refers (.cell id j) = false)
    (hother : ∀ k, k ≠ g → k < w.heap.size → w'.heap[k]? = w.heap[k]?) (hsize : w.heap.size ≤ w'.heap.size) (hv : w.cell? ⟨b, j, none⟩ = some v) (hnew : SRel c w' (.cell id j) (.own true e n sz cs') v) : Sim c N ⟨F, setBlk H id j (.own true e n sz cs')⟩ a w' := by
  have hlt : ∀ b, c.R b ≠ .out → b < w.heap.size := h.inv.lt
  have keep : ∀ b q, c.R b = .own q → q ≠ .cell id j → w'.heap[b]? = w.heap[b]? := fun b q hb hq => hother b (by rintro rfl; rw [hR] at hb; exact hq (by simpa using hb.symm)) (hlt b (by rw [hb]; simp))
  have keepS : ∀ {r : Root} {x : SV} {v : Value}, (∀ q, (q = r ∨ x.refers q = true) → q ≠ .cell id j) → SRel c w r x v → SRel c w' r x v := fun hq hs =>
    SRel.mono (c := c) (c' := c) (w := w) (w' := w') (fun _ _ _ h => h) (fun _ _ h => h) (fun b' q hq' hb' => ⟨hb', keep b' q hb' (hq q hq'), fun _ => rfl⟩) hs
  refine ⟨⟨fun b o v hv => ?_, by rw [setBlk_len]; exact h.inv.len, fun b hb => Nat.lt_of_lt_of_le (hlt b hb) hsize, h.inv.uniq, fun id' b' k hb' hk' => ?_⟩, h.size, h.defers, fun t x hx => ?_⟩
  · have hne : b ≠ g := by rintro rfl; rw [hI] at hv; cases hv
    have hc := h.inv.imm b o v hv
    rw [World.cell?_of_block (a := ⟨b, o, none⟩) (hother b hne (World.block_lt_of_cell? w ⟨b, o, none⟩ hc))]
    exact hc
  · rw [setBlk_get hk] at hk'
    by_cases hid : id' = id
    · subst hid
      rw [if_pos rfl] at hk'
      cases hk'
      rw [hb] at hb'
      cases hb'
      obtain ⟨k1, k2, arr, ty, g1, g2, g6, g3⟩ := h.inv.blk id' b _ hb hk
      have hne : b ≠ g := by rintro rfl; rw [hR] at k1; cases k1
      refine ⟨k1, k2, arr, ty, (hother b hne (hlt b (by rw [k1]; simp))).trans g1, by simp [g2], g6, fun i x u hx hu => ?_⟩
      rw [List.getElem?_set] at hx
      by_cases hij : j = i
      · subst hij
        simp only [if_true] at hx
        split at hx
        · cases hx
          have : u = v := by
            have h5 : w.cell? ⟨b, j, none⟩ = some u := by simp [World.cell?, g1, hu]
            rw [hv] at h5
            cases h5
            rfl
          subst this
          exact ⟨rfl, hnew⟩
        · cases hx
      · rw [if_neg hij] at hx
        refine ⟨(g3 i x u hx hu).1, keepS (fun q hq => ?_) (g3 i x u hx hu).2⟩
        rcases hq with rfl | hq
        · simpa using Ne.symm hij
        · rw [flat_refers (g3 i x u hx hu).1] at hq; cases hq
    · rw [if_neg hid] at hk'
      obtain ⟨k1, k2, k3⟩ := h.inv.blk id' b' k hb' hk'
      have hne : b' ≠ g := by rintro rfl; rw [hR] at k1; cases k1
      refine ⟨k1, k2, ?_⟩
      by_cases hck : ∃ cs, k = .cells cs
      rotate_left
      · refine BRel.stay (fun cs e => hck ⟨cs, e⟩) k3 (fun _ _ _ h => h) (fun _ _ h => h) (fun b2 o ho hn => ?_)
        have hb2 : b2 < w.heap.size := obj_lt ho
        by_cases hbg : b2 = g
        · subst hbg
          obtain ⟨arr, e, f, hc⟩ := hg
          exact absurd (Option.some.inj (ho.symm.trans hc)) (hn arr e f)
        · exact (hother b2 hbg hb2).trans ho
      obtain ⟨cs, rfl⟩ := hck
      obtain ⟨arr, ty, g1, g2, g6, g3⟩ := k3
      refine ⟨arr, ty, (hother b' hne (hlt b' (by rw [k1]; simp))).trans g1, g2, g6, fun i x u hx hu => ⟨(g3 i x u hx hu).1, keepS (fun q hq => ?_) (g3 i x u hx hu).2⟩⟩
      rcases hq with rfl | hq
      · simpa using fun e => absurd e hid
      · rw [flat_refers (g3 i x u hx hu).1] at hq; cases hq
  · obtain ⟨v', h1, h2⟩ := h.fr t x hx
    refine ⟨v', h1, keepS (fun q hq => ?_) h2⟩
    rcases hq with rfl | hq
    · simp
    · rintro rfl
      rw [hF t x hx] at hq
      cases hq
end

/-- What is left as it was when one row is turned in place. -/
structure RowTurned (w w' : World) (g e sz n cap : Nat) (vs' : List Value) : Prop where
  os : w'.os = w.os
  tape : w'.tape = w.tape
  output : w'.output = w.output
  size : w.heap.size ≤ w'.heap.size
  other : ∀ b, b ≠ g → b < w.heap.size → w'.heap[b]? = w.heap[b]?
  row : w'.ownsRow 0 e sz (.slice (some ⟨g, 0, none⟩) n cap) n vs'

/-- What sort.Slice promises, with a closure that is bound to the cell where the slice stands. -/
structure SortsIn {α : Type} (P : Program) (f : FuncId) (t : TypeId) (g : FuncId) (e sz : Nat) (enc : α → List Value) (R : List α → List α → Prop) : Prop where
  row : ∀ (Bs blk cap : Nat) (zs : List α) (w : World), zs.length < 4611686018427387904 → w.cell? ⟨Bs, 0, none⟩ = some (.slice (some ⟨blk, 0, none⟩) zs.length cap) → Bs ≠ blk → w.ownsRow 0 e sz (.slice (some ⟨blk, 0, none⟩) zs.length cap) zs.length (zs.flatMap enc) →
    Calls P f #[.iface t (.slice (some ⟨blk, 0, none⟩) zs.length cap), .func (.func g) #[] #[.pointer (some ⟨Bs, 0, none⟩)]] w fun e' w' => e' = .returned (.tuple #[]) ∧ ∃ ys, R zs ys ∧ ys.length = zs.length ∧ RowTurned w w' blk e sz zs.length cap (ys.flatMap enc)
  none : ∀ (Bs : Nat) (w : World), Calls P f #[.iface t (.slice none 0 0), .func (.func g) #[] #[.pointer (some ⟨Bs, 0, none⟩)]] w fun e' w' => e' = .returned (.tuple #[]) ∧ R [] [] ∧ Go.RowKit.Below w.heap.size w w'
def scs {α : Type} (enc : α → List Value) (zs : List α) : List V := zs.flatMap fun x => (enc x).map V.sc
theorem exactL_sc : ∀ l : List Value, V.exactL (l.map V.sc) = some l
  | [] => rfl
  | v :: l => by simp [V.exactL, V.exact, exactL_sc l]
theorem scs_eq {α : Type} (enc : α → List Value) (zs : List α) : scs enc zs = (zs.flatMap enc).map V.sc := by
  unfold scs
  induction zs with
  | nil => rfl
  | cons x xs ih => simp [ih]
theorem relL_scs {α : Type} {enc : α → List Value} {zs : List α} {I : Nat → Nat → Option Value} {φ : List Nat} {vs : List Value} (h : RelL I φ (scs enc zs) vs) : vs = zs.flatMap enc := by
  rw [scs_eq] at h
  exact RelL.exact h (exactL_sc _)
theorem scs_relL {α : Type} {enc : α → List Value} {zs : List α} {I : Nat → Nat → Option Value} {φ : List Nat} : RelL I φ (scs enc zs) (zs.flatMap enc) := by
  rw [scs_eq]
  generalize zs.flatMap enc = l
  induction l with
  | nil => exact .nil
  | cons v l ih => exact .cons (.sc v) ih

theorem AW.sortCell {α : Type} {P : Program} {N : Nat} {id : Nat} {ops : Array Oper} {Q : Exit → St → Prop} {F : Fr} {H : List Bk} {f g : FuncId} {t e sz n : Nat} {enc : α → List Value} {R : List α → List α → Prop} {o1 o2 o3 o4 : Oper} {x p1 p2 p3 p4 : Nat} {i : Nat} {ks : List SV} {zs : List α}
    (hf : SortsIn P f t g e sz enc R) (hen : Enters P f) (h1c : ∀ x, ∀ v ∈ enc x, v.oneCell' = true)
    (hops : ops.toList = [o1, o2, o3, o4]) (h1 : o1.op = .load t (.tmp x)) (hd1 : o1.dst = some p1) (hg1 : o1.guard = none) (h2 : o2.op = .makeInterface t (.tmp p1)) (hd2 : o2.dst = some p2) (hg2 : o2.guard = none)
    (h3 : o3.op = .makeFunc (.func g) #[] #[.tmp x]) (hd3 : o3.dst = some p3) (hg3 : o3.guard = none) {ts : Array TypeId} (h4 : o4.op = .call { callee := .value (.func f), args := #[.tmp p2, .tmp p3], argTypes := ts }) (hd4 : o4.dst = some p4) (hg4 : o4.guard = none)
    (hx1 : x ≠ p1) (hx2 : x ≠ p2) (h12 : p1 ≠ p2) (h13 : p1 ≠ p3) (h23 : p2 ≠ p3) (hp1 : p1 < N) (hp2 : p2 < N) (hp3 : p3 < N) (hp4 : p4 < N) (haT : aggT P t = some false) (hsT : sizeT P t = some 1) (hu : ∃ el, P.underlying t = some (.slice el))
    (hF : getF x F = some (.v (.ptr i 0))) (hH : H[i]? = some (.cells ks)) (hks : ks[0]? = some (.own true e n sz (scs enc zs))) (hn : n = zs.length) (hsz : zs.length < 4611686018427387904)
    (hQ : ∀ ys, R zs ys → ys.length = zs.length → Q .normal ⟨delR (.cell i 0) (putF p4 .any (putF p3 .any (putF p2 .any (putF p1 .any F)))), setBlk H i 0 (.own true e n sz (scs enc ys))⟩) : AW P N (.region id ops false) Q ⟨F, H⟩ := fun c a w hs => by
  subst hn
  obtain ⟨vx, hvx, hrx⟩ := hs.fr x _ (mem_getF hF)
  cases hrx with
  | ptr hb =>
    rename_i b
    obtain ⟨k1, k2, arr, ty, g1, g2, g6, g3⟩ := hs.inv.blk i b _ hb hH
    have hj0 : 0 < arr.size := by rw [g2]; exact (List.getElem?_eq_some_iff.1 hks).1
    obtain ⟨_, h0, vs, r1, r2, r3, r4⟩ := g3 0 _ _ hks (Array.getElem?_eq_getElem hj0)
    have hcell : w.cell? ⟨b, 0, none⟩ = some arr[0] := by simp [World.cell?, g1, hj0]
    generalize arr[0] = v at r2 r4 hcell
    obtain rfl := relL_scs r1
    let a1 := a.put (some p1) v
    let a2 := a1.put (some p2) (.iface t v)
    let fv : Value := .func (.func g) #[] #[.pointer (some ⟨b, 0, none⟩)]
    let a3 := a2.put (some p3) fv
    have ex : a.eval (.tmp x) = .pointer (some ⟨b, 0, none⟩) := by simp [Act.eval, hvx]
    have hsz0 := hs.size
    have e1 : a1.eval (.tmp p1) = v := by simp [a1, Act.put, Act.eval, hsz0, hp1]
    have e2 : a2.eval (.tmp x) = .pointer (some ⟨b, 0, none⟩) := by simp [a2, a1, Act.put, Act.eval, Array.getElem?_setIfInBounds, Ne.symm hx1, Ne.symm hx2, hvx]
    have e3 : a3.eval (.tmp p2) = .iface t v := by simp [a3, a2, a1, Act.put, Act.eval, Array.getElem?_setIfInBounds, Ne.symm h23, hsz0, hp2]
    have e4 : a3.eval (.tmp p3) = fv := by simp [a3, a2, a1, Act.put, Act.eval, Array.getElem?_setIfInBounds, hsz0, hp3]
    have s1 := hs.put (t := p1) (x := .any) (v := v) hp1 trivial trivial
    have s2 := s1.put (t := p2) (x := .any) (v := .iface t v) hp2 trivial trivial
    have s3 := s2.put (t := p3) (x := .any) (v := fv) hp3 trivial trivial
    have xe : Ext c w (((c.free (.slot p1)).free (.slot p2)).free (.slot p3)) w := ((Ext.free c w _).trans (Ext.free _ w _)).trans (Ext.free _ w _)
    have fown : ∀ g', c.R g' = .own (.cell i 0) → (((c.free (.slot p1)).free (.slot p2)).free (.slot p3)).R g' = .own (.cell i 0) := fun g' hg' => free_own (free_own (free_own hg' (by simp)) (by simp)) (by simp)
    have acts1 : Acts P o1 a w fun a' w' => a' = a1 ∧ w' = w := by
      refine Reads.acts ⟨v, fun w' hw => ?_, by rw [hd1]; exact ⟨rfl, rfl⟩⟩
      have h8 := (hw (by rw [h1]; rfl)).cell hcell
      unfold execOp
      simp only [h1, ex, Instr.loadAt, Instr.sureAddr, Sem.run_bind, Sem.run_pure, Result.andThen_ok, loadVar, run_isAgg haT, Bool.false_eq_true, if_false]
      simp [load, Sem.run, h8]
    have acts2 : Acts P o2 a1 w fun a' w' => a' = a2 ∧ w' = w := by
      refine Reads.acts ⟨.iface t v, fun w' _ => ?_, by rw [hd2]; exact ⟨rfl, rfl⟩⟩
      obtain ⟨el, hel⟩ := hu
      unfold execOp
      simp only [h2, e1, Instr.makeInterface, Sem.run_bind, run_underlying' hel, Result.andThen_ok, Sem.run_pure]
    have acts3 : Acts P o3 a2 w fun a' w' => a' = a3 ∧ w' = w := by
      refine Reads.acts ⟨fv, fun w' _ => ?_, by rw [hd3]; exact ⟨rfl, rfl⟩⟩
      unfold execOp
      simp only [h3, Instr.makeFunc, Sem.run_bind, Sem.run_pure, Result.andThen_ok]
      simp [e2, fv]
    have acts4 : Acts P o4 a3 w (Post c w N (Q .normal)) := by
      obtain ⟨fn, q1, q2, q3⟩ := hen
      unfold Acts Oper.wp
      have hrun : (execOp a3.eval o4).run P w = .ok (.enter f #[.iface t v, fv]) w := by
        have hfv : a3.eval (.func f) = .func (.func f) #[] #[] := rfl
        have e5 : fn.body.isNone = false := by cases hb : fn.body <;> simp_all
        unfold execOp
        simp only [h4, resolve, hfv, Deferred.ofValue, Sem.run_bind, Sem.run_pure, Result.andThen_ok, invoke, callFunc, run_program, q1, q3, Bool.false_eq_true, if_false, e5]
        simp [e3, e4]
      rw [hrun, Oper.upon_enter]
      have hbel : ∀ k u, (k, u) ∈ delR (.cell i 0) (putF p3 .any (putF p2 .any (putF p1 .any F))) → u.refers (.cell i 0) = false := fun k u hku => (mem_delR hku).2
      have s3' := s3.sub (F' := delR (.cell i 0) (putF p3 .any (putF p2 .any (putF p1 .any F)))) fun p hp => (mem_delR (x := p.2) (k := p.1) hp).1
      have fin : ∀ w' ys, R zs ys → ys.length = zs.length → ∀ c', Ext c w c' w' → Sim c' N ⟨delR (.cell i 0) (putF p3 .any (putF p2 .any (putF p1 .any F))), setBlk H i 0 (.own true e zs.length sz (scs enc ys))⟩ a3 w' → Post c w N (Q .normal) (a3.put (some p4) (.tuple #[])) w' := by
        intro w' ys hR hl c' hx hsim
        refine ⟨_, _, hsim.put (t := p4) (x := .any) (v := .tuple #[]) hp4 trivial trivial, hx.trans (Ext.free _ _ _), ?_⟩
        have := hQ ys hR hl
        have ef : putF p4 .any (delR (.cell i 0) (putF p3 .any (putF p2 .any (putF p1 .any F)))) = delR (.cell i 0) (putF p4 .any (putF p3 .any (putF p2 .any (putF p1 .any F)))) := by
          generalize putF p3 .any (putF p2 .any (putF p1 .any F)) = G
          have hdd : ∀ G : Fr, del p4 (delR (.cell i 0) G) = delR (.cell i 0) (del p4 G) := by
            intro G
            induction G with
            | nil => rfl
            | cons q G ih =>
              obtain ⟨k, y⟩ := q
              cases hr : y.refers (.cell i 0) <;> cases hd : (k == p4 || y.refers (.slot p4)) <;> simp [delR, del, hr, hd, ih]
          unfold putF
          rw [hdd]
          simp [delR, SV.refers]
        rw [ef]
        exact this
      rcases r2.2 with ⟨rfl, hnil⟩ | ⟨g', cap, cur, rfl, hbase, c1, c2, c3, c4, c5⟩
      · have hz : zs = [] := by
          have := hnil
          cases zs with
          | nil => rfl
          | cons z zs => simp at this
        subst hz
        refine (hf.none b w).mono fun e' w' he => ?_
        obtain ⟨rfl, hR0, hbl⟩ := he
        rw [hd4]
        have hheap : ∀ k, k < w.heap.size → w'.heap[k]? = w.heap[k]? := fun k hk => hbl.block k hk
        refine fin w' [] hR0 rfl _ (xe.trans ⟨hbl.os, hbl.tape, hbl.output, hbl.size, fun k hk ho => ⟨hheap k hk, ho, fun _ => rfl⟩, fun _ _ _ h => h, fun _ _ h => h⟩) ?_
        have hs4 := (s3'.past (c3 := ⟨(((c.free (.slot p1)).free (.slot p2)).free (.slot p3)).I, [], fun _ => .out⟩) (c0 := ⟨(((c.free (.slot p1)).free (.slot p2)).free (.slot p3)).I, [], fun _ => .out⟩) (H' := []) (w' := w') rfl (fun _ => rfl)
          ⟨fun b o v hv => by
            have := hs.inv.imm b o v hv
            rw [World.cell?_of_block (a := ⟨b, o, none⟩) (hheap b (World.block_lt_of_cell? w ⟨b, o, none⟩ this))]
            exact this, rfl, fun b hb => absurd rfl hb, fun b b' r hb => (by cases hb), fun id b k hb hk => (by simp at hb)⟩
          ⟨hbl.os, hbl.tape, hbl.output, hbl.size, fun k hk _ => ⟨hheap k hk, rfl, fun _ => rfl⟩, fun _ _ _ h => h, fun _ _ h => by simp at h⟩).1
        have : setBlk H i 0 (.own true e ([] : List α).length sz (scs enc [])) = H := by
          have : ks.set 0 (.own true e 0 sz (scs enc ([] : List α))) = ks := by
            apply List.ext_getElem?
            intro m
            rw [List.getElem?_set]
            split
            · rename_i h
              subst h
              split
              · exact hks.symm
              · rename_i h
                have := (List.getElem?_eq_some_iff.1 hks).1
                omega
            · rfl
          rw [setBlk_eq' hH]
          simp only [List.length_nil]
          rw [this]
          apply List.ext_getElem?
          intro m
          rw [List.getElem?_set]
          split
          · rename_i h
            subst h
            split
            · exact hH.symm
            · rename_i h
              have := (List.getElem?_eq_some_iff.1 hH).1
              omega
          · rfl
        rw [this]
        exact hs4
      · obtain ⟨p1', p2'⟩ := r4 g' rfl
        have hbg : b ≠ g' := by rintro rfl; rw [k1] at p1'; cases p1'
        have hrow : w.ownsRow 0 e sz (.slice (some ⟨g', 0, none⟩) zs.length cap) zs.length (zs.flatMap enc) := r2
        refine (hf.row b g' cap zs w hsz hcell hbg hrow).mono fun e' w' he => ?_
        obtain ⟨rfl, ys, hR, hl, ht⟩ := he
        rw [hd4]
        refine fin w' ys hR hl _ (xe.trans ⟨ht.os, ht.tape, ht.output, ht.size, fun k hk ho => ⟨ht.other k (by rintro rfl; rw [fown _ p1'] at ho; cases ho) hk, ho, fun _ => rfl⟩, fun _ _ _ h => h, fun _ _ h => h⟩) ?_
        refine s3'.rewriteCell (b := b) (g := g') hb hH (fown g' p1') p2' ⟨_, _, _, c1⟩ hbel ht.other ht.size hcell ?_
        exact ⟨h0, _, scs_relL, ht.row, fun u hu => by obtain ⟨z, _, hz⟩ := List.mem_flatMap.1 hu; exact h1c z u hz, fun b' hb' => by
          cases hb'
          exact ⟨fown g' p1', p2'⟩⟩
    refine wp_region_list ?_
    rw [hops]
    refine wpList_step fun K' hK' => ?_
    rw [if_pos (by simp [Region.wanted, hg1])]
    refine Mix.wp_of_eff (Mix.effS_mono (fun d v w' h2 => ?_) (Mix.eff_of_wp acts1))
    obtain ⟨ea, rfl⟩ := h2
    refine hK' _ _ ?_
    rw [ea]
    refine wpList_step fun K' hK' => ?_
    rw [if_pos (by simp [Region.wanted, hg2])]
    refine Mix.wp_of_eff (Mix.effS_mono (fun d v w' h2 => ?_) (Mix.eff_of_wp acts2))
    obtain ⟨ea, rfl⟩ := h2
    refine hK' _ _ ?_
    rw [ea]
    refine wpList_step fun K' hK' => ?_
    rw [if_pos (by simp [Region.wanted, hg3])]
    refine Mix.wp_of_eff (Mix.effS_mono (fun d v w' h2 => ?_) (Mix.eff_of_wp acts3))
    obtain ⟨ea, rfl⟩ := h2
    refine hK' _ _ ?_
    rw [ea]
    refine wpList_step fun K' hK' => ?_
    rw [if_pos (by simp [Region.wanted, hg4])]
    refine Mix.wp_of_eff (Mix.effS_mono (fun d v w' h2 => ?_) (Mix.eff_of_wp acts4))
    exact hK' _ _ (wpList_nil h2)
end AM
end Go.Proofs.Ytmjnffjacgjfmaa
namespace Go.Proofs.Ytmjnffjacgjfmaa
set_option linter.all false
open Go.RowKit Go.Sort
namespace AM
section
variable {α : Type} [Inhabited α] {enc : α → Value}
theorem holds_of_row {w : World} {g : Nat} {cur : Array Value} {e : TypeId} {ss : List α} (hb : w.heap[g]? = some (.cells cur e (0, 0))) (ht : cur.toList.take ss.length = ss.map enc) : Holds enc w g 0 ss.toArray := by
  intro j hj
  have hj' : j < ss.length := by simpa using hj
  refine ⟨?_, by simp [World.frozen?, hb]⟩
  have h1 : (cur.toList.take ss.length)[j]? = (ss.map enc)[j]? := by rw [ht]
  rw [List.getElem?_take_of_lt hj'] at h1
  simp only [World.cell?, hb, Nat.zero_add]
  simp only [Option.isSome_none, Bool.false_eq_true, if_false]
  rw [← Array.getElem?_toList, h1]
  simp [hj']
theorem heap_put {w : World} {g n : Nat} {os : Array Obj} {cur : Array Value} {e : TypeId} {fr : Nat × Nat} (d : Array α) (hb : w.heap[g]? = some (.cells cur e fr)) :
    (grow (putRow enc (Sort.ahead w n) g 0 d) os).heap[g]? = some (.cells (putCells enc 0 d cur) e fr) := by
  have hg : g < w.heap.size := (Array.getElem?_eq_some_iff.1 hb).1
  rw [heap_grow_old _ _ (by simpa using hg)]
  simp [putRow, mapBlock, Sort.ahead, Array.getElem?_modify, hb, onCells]
theorem take_put (cur : Array Value) (ts : List α) (h : ts.length ≤ cur.size) : (putCells enc 0 ts.toArray cur).toList.take ts.length = ts.map enc := by
  apply List.ext_getElem?
  intro j
  by_cases hj : j < ts.length
  · rw [List.getElem?_take_of_lt hj, Array.getElem?_toList]
    simp [putCells, hj, show j < cur.size by omega]
  · rw [List.getElem?_take_eq_none (by omega), List.getElem?_eq_none (by simp; omega)]
theorem rowTurned {w : World} {g cap n : Nat} {e : TypeId} {os : Array Obj} {cur : Array Value} {zs ys : List α} (hl : ys.length = zs.length) (hb : w.heap[g]? = some (.cells cur e (0, 0)))
    (h1 : zs.length ≤ cap) (h2 : cap ≤ maxLen) (h3 : cur.size = cap * 1) : RowTurned w (grow (putRow enc (Sort.ahead w n) g 0 ys.toArray) os) g e 1 zs.length cap (ys.map enc) := by
  refine ⟨rfl, rfl, rfl, by simp, fun k hne hk => ?_, by simp [hl], .inr ⟨g, cap, _, rfl, Nat.zero_le _, heap_put _ hb, h1, h2, by simp [putCells, h3], by rw [Nat.mul_one, ← hl]; exact take_put cur ys (by omega)⟩⟩
  rw [heap_grow_old _ _ (by simpa using hk)]
  simp [putRow, mapBlock, Sort.ahead, Array.getElem?_modify, Ne.symm hne]
/-- One element or none: nothing turns. -/
theorem rowTurned_still {w : World} {g cap : Nat} {e : TypeId} {os : Array Obj} {cur : Array Value} {zs : List α} (hb : w.heap[g]? = some (.cells cur e (0, 0)))
    (h1 : zs.length ≤ cap) (h2 : cap ≤ maxLen) (h3 : cur.size = cap * 1) (h4 : cur.toList.take zs.length = zs.map enc) : RowTurned w (grow w os) g e 1 zs.length cap (zs.map enc) := by
  have hg : g < w.heap.size := (Array.getElem?_eq_some_iff.1 hb).1
  refine ⟨rfl, rfl, rfl, by simp, fun k hne hk => heap_grow_old _ _ hk, by simp, .inr ⟨g, cap, cur, rfl, Nat.zero_le _, (heap_grow_old _ _ hg).trans hb, h1, h2, h3, by rw [Nat.mul_one]; exact h4⟩⟩
theorem below_grow {w : World} {os : Array Obj} : Go.RowKit.Below w.heap.size w (grow w os) := ⟨rfl, rfl, rfl, by simp, fun k hk => heap_grow_old _ _ hk⟩
end
def sorted' (zs : List Int) : List Int := zs.mergeSort fun x y => decide (x ≤ y)
theorem sorted'_rises (a : List Int) : (sorted' a).Pairwise fun x y => x ≤ y := by
  have := List.pairwise_mergeSort (le := fun x y : Int => decide (x ≤ y)) (fun a b c h1 h2 => by simp at *; omega) (fun a b => by simp; omega) a
  simpa [sorted'] using this
theorem sorted'_unique {a b : List Int} (hp : b.Perm a) (hb : b.Pairwise fun x y => x ≤ y) : b = sorted' a := by
  have ha := List.mergeSort_perm a fun x y => decide (x ≤ y)
  exact List.Perm.eq_of_pairwise (le := fun x y : Int => x ≤ y) (fun x y _ _ h1 h2 => Int.le_antisymm h1 h2) hb (sorted'_rises a) (hp.trans ha.symm)
theorem sorted'_short {a : List Int} (h : a.length ≤ 1) : sorted' a = a := by
  refine (sorted'_unique (List.Perm.refl a) ?_).symm
  match a, h with
  | [], _ => exact List.Pairwise.nil
  | [x], _ => simp
theorem sorted_of_perm {d d' : Array Int} (hp : PermIn 0 d.size d d') (hs : SortedIn ltInt 0 d.size d') : d'.toList = sorted' d.toList := by
  obtain ⟨h1, _, h3⟩ := hp
  have e1 : d'.extract 0 d.size = d' := by rw [← h1]; simp
  have e2 : d.extract 0 d.size = d := by simp
  rw [e1, e2] at h3
  refine sorted'_unique h3 ?_
  rw [List.pairwise_iff_getElem]
  intro i j hi hj hij
  have hj' : j < d'.size := by simpa using hj
  have := hs i j (Nat.zero_le _) hij (by omega)
  have hi' : i < d'.size := by omega
  rw [getElem!_pos d' i hi', getElem!_pos d' j hj'] at this
  simp only [ltInt, decide_eq_false_iff_not, Int.not_lt] at this
  simpa using this
end AM
end Go.Proofs.Ytmjnffjacgjfmaa
