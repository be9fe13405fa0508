/- Own rows that are sorted in place, or looked at alone. Plain lemmas, over any program. -/
import Derived.Test.YtmjnffjacgjfmaaAr1
import Derived.Sort.OwnSortedInts
namespace Go.Proofs.Ytmjnffjacgjfmaa
set_option linter.all false
open Go.RowKit
namespace AM
@[simp] theorem slot_beq (a b : Nat) : (Root.slot a == Root.slot b) = (a == b) := by
  by_cases h : a = b
  · subst h; simp
  · have h1 : (Root.slot a == Root.slot b) = false := by simpa using h
    rw [h1]
    exact (by simpa using h : (a == b) = false).symm
@[simp] theorem slot_beq_cell (a i j : Nat) : (Root.slot a == Root.cell i j) = false := by simp
@[simp] theorem cell_beq_slot (a i j : Nat) : (Root.cell i j == Root.slot a) = false := by simp
section
variable {P : Program} {c : Cx} {N : Nat} {a : Act} {w w' : World} {F : Fr} {H : List Bk}

/-- The row of slot u is turned; nothing else is. -/
theorem Sim.rewrite {u g e n sz : Nat} {cs' : List V} {v : Value} (h : Sim c N ⟨F, H⟩ a w) (hR : c.R g = .own (.slot u)) (hI : ∀ o, c.I g o = none) (hg : ∃ arr e f, w.heap[g]? = some (.cells arr e f)) (hF : ∀ k x, (k, x) ∈ F → x.refers (.slot u) = false)
    (hother : ∀ k, k ≠ g → k < w.heap.size → w'.heap[k]? = w.heap[k]?) (hsize : w.heap.size ≤ w'.heap.size) (hv : a.tmps[u]? = some v) (hnew : SRel c w' (.slot u) (.own true e n sz cs') v) : Sim c N ⟨setF u (.own true e n sz cs') F, H⟩ a w' := by
  have hlt : ∀ b, c.R b ≠ .out → b < w.heap.size := h.inv.lt
  have keep : ∀ b q, c.R b = .own q → q ≠ .slot u → w'.heap[b]? = w.heap[b]? := fun b q hb hq => hother b (by rintro rfl; rw [hR] at hb; exact hq (by simpa using hb.symm)) (hlt b (by rw [hb]; simp))
  refine ⟨⟨fun b o v hv => ?_, h.inv.len, fun b hb => Nat.lt_of_lt_of_le (hlt b hb) hsize, h.inv.uniq, fun id b k hb hk => ?_⟩, h.size, h.defers, fun t x hx => ?_⟩
  · have hne : b ≠ g := by rintro rfl; rw [hI] at hv; cases hv
    have hc := h.inv.imm b o v hv
    rw [World.cell?_of_block (a := ⟨b, o, none⟩) (hother b hne (World.block_lt_of_cell? w ⟨b, o, none⟩ hc))]
    exact hc
  · obtain ⟨k1, k2, k3⟩ := h.inv.blk id b k hb hk
    have hne : b ≠ g := by rintro rfl; rw [hR] at k1; cases k1
    refine ⟨k1, k2, ?_⟩
    by_cases hck : ∃ cs, k = .cells cs
    rotate_left
    · refine BRel.stay (fun cs e => hck ⟨cs, e⟩) k3 (fun _ _ _ h => h) (fun _ _ h => h) (fun b' o ho hn => ?_)
      have hb' : b' < w.heap.size := obj_lt ho
      by_cases hbg : b' = g
      · subst hbg
        obtain ⟨arr, e, f, hc⟩ := hg
        exact absurd (Option.some.inj (ho.symm.trans hc)) (hn arr e f)
      · exact (hother b' hbg hb').trans ho
    obtain ⟨cs, rfl⟩ := hck
    obtain ⟨arr, e, g1, g2, g6, g3⟩ := k3
    refine ⟨arr, e, (hother b hne (hlt b (by rw [k1]; simp))).trans g1, g2, g6, fun j x v hx hv => ⟨(g3 j x v hx hv).1, ?_⟩⟩
    refine SRel.mono (c := c) (c' := c) (w := w) (w' := w') (fun _ _ _ h => h) (fun _ _ h => h) (fun b' q hq hb' => ⟨hb', keep b' q hb' ?_, fun _ => rfl⟩) (g3 j x v hx hv).2
    rcases hq with rfl | hq
    · simp
    · rw [flat_refers (g3 j x v hx hv).1] at hq; cases hq
  · rcases mem_setF hx with ⟨rfl, rfl⟩ | ⟨hne, hx⟩
    · exact ⟨v, hv, hnew⟩
    · obtain ⟨v', h1, h2⟩ := h.fr t x hx
      refine ⟨v', h1, SRel.mono (c := c) (c' := c) (w := w) (w' := w') (fun _ _ _ h => h) (fun _ _ h => h) (fun b' q hq hb' => ⟨hb', keep b' q hb' ?_, fun _ => rfl⟩) h2⟩
      rcases hq with rfl | hq
      · intro e; exact hne (by simpa using e)
      · rintro rfl
        rw [hF t x hx] at hq
        cases hq

end

/-- What slices.Sort at []int promises. -/
def SortsInts (P : Program) (f : FuncId) : Prop :=
  (∀ (blk off cap : Nat) (zs : List Int) (w : World), Go.Sort.Holds (Value.int .i64) w blk off zs.toArray → blk < w.heap.size → zs.length < 4611686018427387904 → Calls P f #[.slice (some ⟨blk, off, none⟩) zs.length cap] w fun e w' =>
      e = .returned (.tuple #[]) ∧ ∃ n os, w' = Go.Sort.grow (Go.Sort.putRow (Value.int .i64) (Go.Sort.ahead w n) blk off (zs.mergeSort fun x y => decide (x ≤ y)).toArray) os) ∧
  ∀ (p : Option Addr) (cap : Nat) (w : World), Calls P f #[.slice p 0 cap] w fun e w' => e = .returned (.tuple #[]) ∧ w' = w
def ints (zs : List Int) : List V := zs.map fun z => .sc (.int .i64 z)
def sorted (zs : List Int) : List Int := zs.mergeSort fun x y => decide (x ≤ y)
theorem relL_ints {I : Nat → Nat → Option Value} {φ : List Nat} : ∀ {zs : List Int} {vs : List Value}, RelL I φ (ints zs) vs → vs = zs.map (Value.int .i64)
  | [], _, .nil => rfl
  | z :: zs, _, .cons h h1 => by
    have := relL_ints (zs := zs) h1
    subst this
    have := Rel.exact h rfl
    subst this
    rfl
theorem ints_relL {I : Nat → Nat → Option Value} {φ : List Nat} : ∀ {zs : List Int}, RelL I φ (ints zs) (zs.map (Value.int .i64))
  | [] => .nil
  | z :: zs => .cons (.sc _) ints_relL
/-- slices.Sort on a row of the call's own: the row is sorted in place. -/
theorem AW.sortInts {P : Program} {N : Nat} {id : Nat} {ops : Array Oper} {Q : Exit → St → Prop} {F : Fr} {H : List Bk} {f : FuncId} {o1 o2 : Oper} {t u d e n : Nat} {zs : List Int} (hf : SortsInts P f) (hen : Enters P f)
    (hops : ops.toList = [o1] ++ [o2]) (h1 : o1.op = .move (.tmp u)) (hd1 : o1.dst = some t) (hg1 : o1.guard = none) {ts : Array TypeId} (h2 : o2.op = .call { callee := .value (.func f), args := #[.tmp t], argTypes := ts }) (hd2 : o2.dst = some d) (hg2 : o2.guard = none)
    (htu : t ≠ u) (hdu : d ≠ u) (ht : t < N) (hd : d < N) (hF : getF u F = some (.own true e n 1 (ints zs))) (hr : F.all (fun p => !p.2.refers (.slot u)) = true) (hsz : zs.length < 4611686018427387904)
    (hQ : Q .normal ⟨putF d .any (setF u (.own true e n 1 (ints (sorted zs))) (putF t .any F)), H⟩) : AW P N (.region id ops false) Q ⟨F, H⟩ := fun c a w hs => by
  obtain ⟨v, hv, h0, vs, r1, r2, r3, r4⟩ := hs.fr u _ (mem_getF hF)
  obtain rfl := relL_ints r1
  have s1 := hs.put (t := t) (x := .any) (v := v) ht trivial trivial
  have e1 : a.eval (.tmp u) = v := by simp [Act.eval, hv]
  have hu1 : (a.put (some t) v).tmps[u]? = some v := by simp [Act.put, Array.getElem?_setIfInBounds, htu, hv]
  have hts : t < a.tmps.size := by rw [hs.size]; exact ht
  have e2 : (a.put (some t) v).eval (.tmp t) = v := by simp [Act.put, Act.eval, Array.getElem?_setIfInBounds, hts]
  have x1 : Ext c w (c.free (.slot t)) w := Ext.free c w _
  have hF1 : ∀ k x, (k, x) ∈ putF t .any F → x.refers (.slot u) = false := fun k x hx => by
    unfold putF at hx
    rcases List.mem_cons.1 hx with e | hx
    · cases e; rfl
    · have := List.all_eq_true.1 hr _ (mem_del hx).1
      simpa using this
  have hend : ∀ w', Ext (c.free (.slot t)) w (c.free (.slot t)) w' → Sim (c.free (.slot t)) N ⟨setF u (.own true e n 1 (ints (sorted zs))) (putF t .any F), H⟩ (a.put (some t) v) w' → Post c w N (Q .normal) ((a.put (some t) v).put (some d) (.tuple #[])) w' := fun w' hx hsim =>
    ⟨_, _, hsim.put (t := d) (x := .any) (v := .tuple #[]) hd trivial trivial, (x1.trans hx).trans (Ext.free _ _ _), hQ⟩
  have acts1 : Acts P o1 a w fun a' w' => a' = a.put (some t) v ∧ w' = w := by
    refine Reads.acts ⟨v, fun w' _ => ?_, by rw [hd1]; exact ⟨rfl, rfl⟩⟩
    simp [execOp, h1, e1]
  have acts2 : Acts P o2 (a.put (some t) v) w (Post c w N (Q .normal)) := by
    obtain ⟨fn, q1, q2, q3⟩ := hen
    unfold Acts Oper.wp
    have hrun : (execOp (a.put (some t) v).eval o2).run P w = .ok (.enter f #[v]) w := by
      have hfv : (a.put (some t) v).eval (.func f) = .func (.func f) #[] #[] := rfl
      have e4 : fn.body.isNone = false := by cases hb : fn.body <;> simp_all
      unfold execOp
      simp only [h2, resolve, hfv, Deferred.ofValue, Sem.run_bind, Sem.run_pure, Result.andThen_ok, invoke, callFunc, run_program, q1, q3, Bool.false_eq_true, if_false, e4]
      simp [e2]
    rw [hrun, Oper.upon_enter]
    have hlen : zs.length = n := by have := r2.1; simpa using this
    by_cases hz : zs = []
    · subst hz
      have hn : n = 0 := by simpa using hlen.symm
      subst hn
      have hv0 : ∃ p cap, v = .slice p 0 cap := by
        rcases r2.2 with ⟨rfl, _⟩ | ⟨g, cap, cur, rfl, _⟩
        · exact ⟨_, _, rfl⟩
        · exact ⟨_, _, rfl⟩
      obtain ⟨p, cap, rfl⟩ := hv0
      refine (hf.2 p cap w).mono fun e' w' he => ?_
      obtain ⟨rfl, rfl⟩ := he
      rw [hd2]
      refine hend w' (Ext.refl _ _) ⟨s1.inv, s1.size, s1.defers, fun t' x hx => ?_⟩
      rcases mem_setF hx with ⟨rfl, rfl⟩ | ⟨_, hx⟩
      · have hs0 : sorted [] = [] := by simp [sorted]
        rw [hs0]
        exact ⟨_, hu1, h0, _, ints_relL, r2, r3, fun b hb => ⟨free_own (r4 b hb).1 (by simpa using htu.symm), (r4 b hb).2⟩⟩
      · exact s1.fr t' x hx
    · rcases r2.2 with ⟨rfl, hnil⟩ | ⟨g, cap, cur, rfl, hbase, g1, g2, g3, g4, g5⟩
      · exact absurd (by
          have : n = 0 := by simpa using hnil
          cases zs with
          | nil => rfl
          | cons => simp at hlen; omega) hz
      subst hlen
      have hH := holds_of_blockI (ss := zs) g1 (by simpa using g5)
      have hblk : g < w.heap.size := obj_lt g1
      obtain ⟨p1, p2⟩ := r4 g rfl
      have hR : (c.free (.slot t)).R g = .own (.slot u) := free_own p1 (by simpa using htu.symm)
      refine (hf.1 g 0 cap zs w hH hblk hsz).mono fun e' w' he => ?_
      obtain ⟨rfl, k, os, rfl⟩ := he
      rw [hd2]
      obtain ⟨y1, y2, y3, y4, y5⟩ := grownBy_sortedI (w := w) (g := g) (n := k) (os := os) (sorted zs).toArray
      have hown := ownsRow_sortedI (w := w) (base := 0) (n := k) (os := os) (ss := zs) (ts := sorted zs) (by simp [sorted]) (Nat.zero_le _) g1 g2 g3 g4
      have hother : ∀ b, b ≠ g → b < w.heap.size → (Go.Sort.grow (Go.Sort.putRow (Value.int .i64) (Go.Sort.ahead w k) g 0 (sorted zs).toArray) os).heap[b]? = w.heap[b]? := fun b hb hlt => y5 b hlt (by simpa using hb)
      refine hend _ ⟨y1, y2, y3, y4, fun b hb ho => ⟨hother b (by rintro rfl; rw [hR] at ho; cases ho) hb, ho, fun _ => rfl⟩, fun _ _ _ h => h, fun _ _ h => h⟩ ?_
      refine s1.rewrite hR p2 ⟨_, _, _, g1⟩ hF1 hother y4 hu1 ?_
      exact ⟨h0, _, ints_relL, hown, fun x hx => by obtain ⟨z, _, rfl⟩ := List.mem_map.1 hx; rfl, fun b hb => by
        cases hb
        exact ⟨hR, p2⟩⟩
  refine wp_region_list ?_
  rw [hops]
  refine wpList_step fun K' hK' => ?_
  rw [if_pos (by simp [Region.wanted, hg1])]
  refine Mix.wp_of_eff (Mix.effS_mono (fun d v w' h2 => ?_) (Mix.eff_of_wp acts1))
  obtain ⟨ea, rfl⟩ := h2
  refine hK' _ _ ?_
  rw [ea]
  refine wpList_step fun K' hK' => ?_
  rw [if_pos (by simp [Region.wanted, hg2])]
  refine Mix.wp_of_eff (Mix.effS_mono (fun d v w' h2 => ?_) (Mix.eff_of_wp acts2))
  exact hK' _ _ (wpList_nil h2)
end AM
end Go.Proofs.Ytmjnffjacgjfmaa
namespace Go.Proofs.Ytmjnffjacgjfmaa
set_option linter.all false
open Go.RowKit
namespace AM
theorem AW.asSl {P : Program} {N : Nat} {F : Fr} {H : List Bk} {x : Code} {Q : Exit → St → Prop} (t : Nat) {pr : Bool} {e n sz : Nat} {cs : List V} (ht : getF t F = some (.own pr e n sz cs)) (h : AW P N x Q ⟨setF t (.v (.sl n sz cs)) F, H⟩) : AW P N x Q ⟨F, H⟩ := fun c a w hs => by
  obtain ⟨c', h1, h2⟩ := hs.asSl ht
  refine wp_mono (h c' a w h1) fun e a' w' he => Post.step h2 he
end AM
end Go.Proofs.Ytmjnffjacgjfmaa
