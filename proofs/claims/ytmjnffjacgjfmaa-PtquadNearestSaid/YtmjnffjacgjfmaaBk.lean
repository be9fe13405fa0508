/- Rows that are boxed, taken out of cells, and handed to functions that hand them back. Plain lemmas, over any program. -/
import Derived.Test.YtmjnffjacgjfmaaBi
import Derived.Test.YtmjnffjacgjfmaaBj
namespace Go.Proofs.Ytmjnffjacgjfmaa
set_option linter.all false
open Go.RowKit
namespace AM
section
variable {P : Program} {c : Cx} {N : Nat} {a : Act} {w : World} {F : Fr} {H : List Bk} {Q : Exit → St → Prop} {id : Nat} {ops : Array Oper} {o1 o2 : Oper} {rest : List Oper}
theorem setCell_new {v : Value} {ty : TypeId} : (w.alloc (.cells #[v] ty)).setCell ⟨w.heap.size, 0, none⟩ v = w.alloc (.cells #[v] ty) := by
  have hh : ((w.alloc (.cells #[v] ty)).setCell ⟨w.heap.size, 0, none⟩ v).heap = (w.alloc (.cells #[v] ty)).heap := by
    unfold World.setCell
    apply Array.ext
    · simp
    · intro i h1 h2
      rw [Array.getElem_modify]
      split
      · rename_i e
        have e : w.heap.size = i := e
        subst e
        have : (w.alloc (.cells #[v] ty)).heap[w.heap.size] = .cells #[v] ty := by
          have := heap_alloc_new w (.cells #[v] ty)
          rw [Array.getElem?_eq_getElem h2] at this
          exact Option.some.inj this
        rw [this]
        simp
      · rfl
  have e1 : (w.alloc (.cells #[v] ty)).setCell ⟨w.heap.size, 0, none⟩ v = { w.alloc (.cells #[v] ty) with heap := ((w.alloc (.cells #[v] ty)).setCell ⟨w.heap.size, 0, none⟩ v).heap } := rfl
  rw [e1, hh]
theorem Sim.boxed {u : Nat} {pr : Bool} {e n sz : Nat} {cs : List V} {ty : TypeId} (h : Sim c N ⟨F, H⟩ a w) (hu : getF u F = some (.own pr e n sz cs)) :
    ∃ c' v, a.tmps[u]? = some v ∧ v.oneCell' = true ∧ Sim c' N ⟨delR (.cell H.length 0) (del u F), H ++ [.cells [.own pr e n sz cs]]⟩ a (w.alloc (.cells #[v] ty)) ∧ Ext c w c' (w.alloc (.cells #[v] ty)) ∧ c'.φ[H.length]? = some w.heap.size := by
  obtain ⟨v, hv, h0, vs, h1, h2, h6, h3⟩ := h.fr u _ (mem_getF hu)
  have hv1 : v.oneCell' = true := by rcases h2.2 with ⟨rfl, _⟩ | ⟨g, cap, cur, rfl, _⟩ <;> rfl
  have hl := Sim.lay (arr := #[v]) (cs := [.sc v]) (e := ty) h (.cons (.sc v) .nil) (by simpa using hv1)
  have hφ : (c.lay w.heap.size).φ[H.length]? = some w.heap.size := by rw [← h.inv.len]; simp [Cx.lay]
  obtain ⟨c', v', p1, p2, p3, p4⟩ := Sim.place (id := H.length) (off := 0) (ks := [.v (.sc v)]) hl hu hφ (by simp) (by simp)
  rw [hv] at p1
  cases p1
  rw [setCell_new] at p3 p4
  have hset : setBlk (H ++ [Bk.cells ([V.sc v].map SV.v)]) H.length 0 (.own pr e n sz cs) = H ++ [.cells [.own pr e n sz cs]] := by simp [setBlk]
  rw [hset] at p3
  exact ⟨c', v, hv, hv1, p3, (Ext.lay c w _).trans p4, p4.phi _ _ hφ⟩
/-- A row is boxed. -/
theorem AW.boxOwn {u d : Nat} {pr : Bool} {e n sz : Nat} {cs : List V} {ty : TypeId} (hops : ops.toList = o1 :: rest) (h1 : o1.op = .box ty (.tmp u)) (hd1 : o1.dst = some d) (hg1 : o1.guard = none) (hd : d < N) (hF : getF u F = some (.own pr e n sz cs))
    (hQ : aops P N ops.toList rest (Q .normal) ⟨putF d (.v (.ptr H.length 0)) (delR (.cell H.length 0) (del u F)), H ++ [.cells [.own pr e n sz cs]]⟩) : AW P N (.region id ops false) Q ⟨F, H⟩ := fun c a w hs => by
  refine wp_region_list ?_
  rw [hops]
  obtain ⟨c1, v, hv, hv1, s1, x1, hφ⟩ := Sim.boxed (ty := ty) (F := F) (H := H) hs hF
  have hev : a.eval (.tmp u) = v := by simp [Act.eval, hv]
  have hcells : v.cells = #[v] := by cases v <;> first | rfl | (simp [Value.oneCell'] at hv1)
  have acts1 : Acts P o1 a w fun a' w' => a' = a.put (some d) (.pointer (some ⟨w.heap.size, 0, none⟩)) ∧ w' = w.alloc (.cells #[v] ty) := by
    refine acts_value (v := .pointer (some ⟨w.heap.size, 0, none⟩)) (w' := w.alloc (.cells #[v] ty)) ?_ (by rw [hd1]; exact ⟨rfl, rfl⟩)
    unfold execOp
    simp only [h1, hev, hcells, Instr.box, Sem.run_bind, Result.andThen_ok, newVar, run_newRow, Sem.run_pure]
  refine wpList_step fun K' hK' => ?_
  rw [if_pos (by simp [Region.wanted, hg1])]
  refine Mix.wp_of_eff (Mix.effS_mono (fun dd vv w' h2 => ?_) (Mix.eff_of_wp acts1))
  obtain ⟨ea, rfl⟩ := h2
  refine hK' _ _ ?_
  rw [ea]
  have s2 := s1.put (t := d) (x := .v (.ptr H.length 0)) (v := .pointer (some ⟨w.heap.size, 0, none⟩)) hd trivial (Rel.ptr hφ)
  exact aops_list s2 hQ fun a' w'' hp => Post.step (x1.trans (Ext.free c1 _ _)) hp
/-- A row is taken out of a cell, whatever comes of it. -/
theorem Sim.taken {x d i off : Nat} {ks : List SV} {pr : Bool} {e n sz : Nat} {cs : List V} {t : TypeId} (hs : Sim c N ⟨F, H⟩ a w) (h1 : o1.op = .load t (.tmp x)) (hd1 : o1.dst = some d) (haT : aggT P t = some false) (hd : d < N) (hF : getF x F = some (.v (.ptr i off))) (hk : H[i]? = some (.cells ks)) (hj : ks[off]? = some (.own pr e n sz cs)) :
    ∃ c1 v, Sim c1 N ⟨putF d (.own pr e n sz cs) (delR (.cell i off) F), setBlk H i off .any⟩ (a.put (some d) v) w ∧ Ext c w c1 w ∧ Acts P o1 a w fun a' w' => a' = a.put (some d) v ∧ w' = w := by
  obtain ⟨vx, hvx, hrx⟩ := hs.fr x _ (mem_getF hF)
  cases hrx with
  | @ptr _ _ b hb =>
  obtain ⟨c1, v, k1, k2, k3⟩ := Sim.take (F := F) (H := H) hs hb hk hj hd
  refine ⟨c1, v, k2, k3, ?_⟩
  have ex : a.eval (.tmp x) = .pointer (some ⟨b, off, none⟩) := by simp [Act.eval, hvx]
  refine Reads.acts ⟨v, fun w' hw => ?_, by rw [hd1]; exact ⟨rfl, rfl⟩⟩
  have h8 := (hw (by rw [h1]; rfl)).cell k1
  unfold execOp
  simp only [h1, ex, Instr.loadAt, Instr.sureAddr, Sem.run_bind, Sem.run_pure, Result.andThen_ok, loadVar, run_isAgg haT, Bool.false_eq_true, if_false]
  simp [load, Sem.run, h8]
theorem AW.loadTake {x d i off : Nat} {ks : List SV} {pr : Bool} {e n sz : Nat} {cs : List V} {t : TypeId} (hops : ops.toList = o1 :: rest) (h1 : o1.op = .load t (.tmp x)) (hd1 : o1.dst = some d) (hg1 : o1.guard = none) (haT : aggT P t = some false) (hd : d < N) (hF : getF x F = some (.v (.ptr i off))) (hk : H[i]? = some (.cells ks)) (hj : ks[off]? = some (.own pr e n sz cs))
    (hQ : aops P N ops.toList rest (Q .normal) ⟨putF d (.own pr e n sz cs) (delR (.cell i off) F), setBlk H i off .any⟩) : AW P N (.region id ops false) Q ⟨F, H⟩ := fun c a w hs => by
  refine wp_region_list ?_
  rw [hops]
  obtain ⟨c1, v, s1, x1, acts1⟩ := Sim.taken hs h1 hd1 haT hd hF hk hj
  refine wpList_step fun K' hK' => ?_
  rw [if_pos (by simp [Region.wanted, hg1])]
  refine Mix.wp_of_eff (Mix.effS_mono (fun dd vv w' h2 => ?_) (Mix.eff_of_wp acts1))
  obtain ⟨ea, rfl⟩ := h2
  refine hK' _ _ ?_
  rw [ea]
  exact aops_list s1 hQ fun a' w'' hp => Post.step x1 hp
/-- A row is taken out of a cell and handed to a function that hands it back. -/
theorem AW.ownCallL {x t d i off : Nat} {ks : List SV} {e n sz : Nat} {cs : List V} {ty : TypeId} {f : FuncId} {ts : Array TypeId} (hops : ops.toList = o1 :: o2 :: rest) (h1 : o1.op = .load ty (.tmp x)) (hd1 : o1.dst = some t) (hg1 : o1.guard = none) (haT : aggT P ty = some false) (h3 : o2.op = .call { callee := .value (.func f), args := #[.tmp t], argTypes := ts }) (hd3 : o2.dst = some d) (hg3 : o2.guard = none)
    (ht : t < N) (hd : d < N) (hdt : d ≠ t) (hF : getF x F = some (.v (.ptr i off))) (hk : H[i]? = some (.cells ks)) (hj : ks[off]? = some (.own true e n sz cs)) {Q' : Nat → List V → List Bk → Prop} (hO : OFn P f e n sz cs [] (setBlk H i off .any) Q')
    (hQ : ∀ n' cs' H', Q' n' cs' H' → aops P N ops.toList rest (Q .normal) ⟨(d, .own true e n' sz cs') :: calm (del d (del t (putF t (.own true e n sz cs) (delR (.cell i off) F)))), H'⟩) : AW P N (.region id ops false) Q ⟨F, H⟩ := fun c a w hs => by
  refine wp_region_list ?_
  rw [hops]
  obtain ⟨c1, v, s1, x1, acts1⟩ := Sim.taken hs h1 hd1 haT ht hF hk hj
  refine wpList_step fun K' hK' => ?_
  rw [if_pos (by simp [Region.wanted, hg1])]
  refine Mix.wp_of_eff (Mix.effS_mono (fun dd vv w' h2 => ?_) (Mix.eff_of_wp acts1))
  obtain ⟨ea, rfl⟩ := h2
  refine hK' _ _ ?_
  rw [ea]
  obtain ⟨v2, hv2, hsr⟩ := s1.fr t (.own true e n sz cs) (by simp [putF])
  have s3 : Sim c1 N ⟨del d (del t (putF t (.own true e n sz cs) (delR (.cell i off) F))), setBlk H i off .any⟩ (a.put (some t) v) w' := s1.sub fun p hp => (mem_del (x := p.2) (k := p.1) (mem_del (x := p.2) (k := p.1) hp).1).1
  have s4 := s3.free (r := .slot d) trivial fun k x hx => ⟨by simpa using (mem_del hx).2.1, (mem_del hx).2.2⟩
  have hsr4 : SRel (c1.free (.slot d)) w' (.slot t) (.own true e n sz cs) v2 := hsr.reroot rfl rfl fun b hb => free_own hb (by simpa using Ne.symm hdt)
  obtain ⟨⟨fn, q1, q2, q3⟩, hcall⟩ := hO
  have hcl := hcall ((c1.free (.slot d)).pass t) w' v2 [] s4.inv.pass pass_onlyZ (hsr4.reroot rfl rfl fun b hb => pass_self hb) .nil
  have acts3 : Acts P o2 (a.put (some t) v) w' (fun a' w3 => wpList P ops (PostE c w' N Q) rest a' w3) := by
    unfold Acts Oper.wp
    have e2 : (a.put (some t) v).eval (.tmp t) = v2 := by simp [Act.eval, hv2]
    have hrun : (execOp (a.put (some t) v).eval o2).run P w' = .ok (.enter f [v2].toArray) w' := by
      have hfv : (a.put (some t) v).eval (.func f) = .func (.func f) #[] #[] := rfl
      have e4 : fn.body.isNone = false := by cases hb : fn.body <;> simp_all
      unfold execOp
      simp only [h3, resolve, hfv, Deferred.ofValue, Sem.run_bind, Sem.run_pure, Result.andThen_ok, invoke, callFunc, run_program, q1, q3, Bool.false_eq_true, if_false, e4]
      simp [e2]
    rw [hrun, Oper.upon_enter]
    refine hcl.mono fun e' w3 he => ?_
    obtain ⟨v', n', cs', H', c5, rfl, m1, m2, m3, m4, m5⟩ := he
    rw [hd3]
    obtain ⟨c6, r1, r2, r3, r4, r5⟩ := Sim.backO (d := d) s4 (fun k x hx => ⟨(mem_del (mem_del hx).1).2.1, (mem_del (mem_del hx).1).2.2⟩) (fun b hb => free_ne hb) m2 m3 m4
    have s7 : Sim c6 N ⟨(d, .own true e n' sz cs') :: calm (del d (del t (putF t (.own true e n sz cs) (delR (.cell i off) F)))), H'⟩ ((a.put (some t) v).put (some d) v') w3 := by
      refine ⟨r1.inv, by simpa [Act.put] using r1.size, r1.defers, fun k x hx => ?_⟩
      rcases List.mem_cons.1 hx with hx | hx
      · cases hx
        exact ⟨v', by
          have := r1.size
          simp [Act.put] at this
          simp [Act.put, Array.getElem?_setIfInBounds, this, hd], m1.reroot r3 r4 r5⟩
      · obtain ⟨z, hz, hr⟩ := r1.fr k x hx
        have hne := (mem_del (mem_calm hx).1).2.1
        refine ⟨z, ?_, hr⟩
        show (((a.put (some t) v).put (some d) v').tmps)[k]? = some z
        have : ((a.put (some t) v).put (some d) v').tmps = (a.put (some t) v).tmps.setIfInBounds d v' := rfl
        rw [this, Array.getElem?_setIfInBounds, if_neg (Ne.symm hne)]
        exact hz
    exact aops_list s7 (hQ n' cs' H' m5) fun a' w'' hp => Post.step ((x1.trans (Ext.free c1 w' _)).trans r2) hp
  refine wpList_step fun K' hK' => ?_
  rw [if_pos (by simp [Region.wanted, hg3])]
  refine Mix.wp_of_eff (Mix.effS_mono (fun dd vv w3 h2 => ?_) (Mix.eff_of_wp acts3))
  exact hK' _ _ h2
end
end AM
end Go.Proofs.Ytmjnffjacgjfmaa
