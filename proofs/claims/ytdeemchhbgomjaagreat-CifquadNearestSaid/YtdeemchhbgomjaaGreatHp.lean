/- Trees that are built, and what must come of fixed calls. -/
import Derived.Test.YtdeemchhbgomjaaGreatHo
namespace Go.Proofs.YtdeemchhbgomjaaGreat
set_option linter.all false
open Go.RowKit AM
set_option maxRecDepth 10000
attribute [local simp] aw_skip' aw_region' aw_seq' aw_cond' aw_block' aw_loop' aw_exit' aw_label' aw_ret' aops_nil' aops_cons' aop' aMove aAssign aPick aAlloc aBox aBuild slF aBuildSlice aLoad aLoadOwn aStore aStoreOwn isOwn delR aNilCheck aBin aMakeFunc aFieldAddr aField aIndexOp aIndex partV aIndexAddr aExtract aSliceOp aSlice aShrink aCallOp aCall' aInvoke' aLen aLenMap aDelete aMM aUn aConv aIface aAssert aMakeMap aLookup aMapUpdate aRange aNext aEntry entsOf keyB seekK aMakeSlice lookV aAppend putK layK eval evalV AM.valOf getF putF setF del SV.refers cellsAt rootSV plains shift ldV V.exact V.exactL V.ofValue V.ofPart V.ofCell V.cells V.one Value.oneCell' fitB qSeq qBlock getB afin aret resVs resV resTmps shareF evalS tupV valsS valsV pickV calm calmB lenV useOf feeds shrinks stows looks isT newsV partsV fillV putAt zerosV fitsNil nilB sliceB isEq isNeq awx_skip' awx_region' awx_seq' awx_cond' awx_block' awx_loop' awx_exit' awx_label' awx_ret' xops_nil' xops_cons' xop' xload xcall' addO delO inO putD memB Mix.effB Mix.laysB keysF badK subW weakV zeroRow yops_nil' yops_cons' yop' yload yindex yfield ylen oldO dropO takeO oldL exactB
attribute [local simp] awz_skip' awz_region' awz_seq' awz_cond' awz_block' awz_loop' awz_exit' awz_label' awz_ret' zops_nil' zops_cons' zop' zload zloadOwn zcall' zlenK z0 new0 remF old0 dltB

theorem TrS.self {H : List Bk} {r : Nat} {S : List Sh} {T : Nat → Prop} (h : TrS H r S T) : T r := by
  obtain ⟨b, m, I, es, _, hT⟩ := h
  exact (hT r).2 (.inl rfl)
/-! ## Rows by their numbers -/
def Inc (S : List Sh) : Prop := S.Pairwise fun p q => p.id < q.id
theorem Inc.nodup {S : List Sh} (h : Inc S) : (S.map Sh.id).Nodup := List.pairwise_map.2 (h.imp fun h => by omega)
theorem Inc.filter {S : List Sh} (h : Inc S) (p : Sh → Bool) : Inc (S.filter p) := List.Pairwise.sublist List.filter_sublist h
theorem Inc.sort {S : List Sh} (h : Inc S) : sortS S = S := (sortS_unique h.nodup (List.Perm.refl S) (h.imp fun h => by omega)).symm
theorem sortS_congr {S S' : List Sh} (hn : (S'.map Sh.id).Nodup) (hp : S.Perm S') : sortS S = sortS S' := sortS_unique hn ((sortS_perm S).trans hp) (sortS_rises S)
theorem Inc.less {S : List Sh} (h : Inc S) (k : Int) : Inc (less S k) := h.filter _
theorem inc_pre {zs : List Sh} (hz : Inc zs) {n : Nat} (hlt : n < zs.length) : ∀ t ∈ zs.take n, t.id < zs[n].id := fun t ht => by
  obtain ⟨i, hi, e⟩ := List.getElem_of_mem ht
  rw [List.length_take] at hi
  rw [List.getElem_take] at e
  rw [← e]
  exact List.pairwise_iff_getElem.1 hz i n (by omega) hlt (by omega)
theorem piD_spec {s : Sh} {zs : List Sh} (hz : Inc zs) (hn : ∀ t ∈ zs, t.id ≠ s.id) : ∀ n, n ≤ zs.length → ((piD s (zs.take n)).2 = true → (piD s (zs.take n)).1.Perm (s :: zs.take n) ∧ Inc (piD s (zs.take n)).1 ∧ ∃ t ∈ zs.take n, s.id < t.id) ∧ ((piD s (zs.take n)).2 = false → (piD s (zs.take n)).1 = zs.take n ∧ ∀ t ∈ zs.take n, t.id < s.id) := by
  intro n
  induction n with
  | zero => intro _; simp [piD]
  | succ n ih =>
    intro hle
    have hlt : n < zs.length := by omega
    have ih := ih (by omega)
    have hs := piD_snoc (s := s) hlt
    have hpre := inc_pre hz hlt
    have hinc : Inc (zs.take n) := List.Pairwise.sublist (List.take_sublist n zs) hz
    have hne : zs[n].id ≠ s.id := hn _ (List.getElem_mem hlt)
    rw [hs, take_snoc hlt]
    generalize hx : zs[n] = x at *
    generalize hp : zs.take n = pre at *
    generalize piD s pre = a at *
    obtain ⟨l, b⟩ := a
    unfold piS
    simp only at ih ⊢
    cases b with
    | true =>
      obtain ⟨h1, h2, t, h3, h4⟩ := ih.1 rfl
      simp only [Bool.not_true, Bool.false_and, Bool.false_eq_true, if_false]
      refine ⟨fun _ => ⟨h1.append_right [x], List.pairwise_append.2 ⟨h2, List.pairwise_singleton _ _, fun y hy z hz' => ?_⟩, t, by simp [h3], h4⟩, fun e => by cases e⟩
      rw [List.mem_singleton] at hz'
      subst hz'
      rcases List.mem_cons.1 (h1.mem_iff.1 hy) with rfl | hy
      · have := hpre t h3
        omega
      · exact hpre y hy
    | false =>
      obtain ⟨h1, h2⟩ := ih.2 rfl
      subst h1
      by_cases he : s.id < x.id
      · simp only [he, decide_true, Bool.not_false, Bool.and_self, if_true]
        refine ⟨fun _ => ⟨?_, ?_, x, by simp, he⟩, fun e => by cases e⟩
        · rw [List.append_assoc]
          exact List.perm_middle
        · refine List.pairwise_append.2 ⟨List.pairwise_append.2 ⟨hinc, List.pairwise_singleton _ _, fun y hy z hz' => ?_⟩, List.pairwise_singleton _ _, fun y hy z hz' => ?_⟩
          · rw [List.mem_singleton] at hz'
            subst hz'
            exact h2 y hy
          · rw [List.mem_singleton] at hz'
            subst hz'
            rcases List.mem_append.1 hy with hy | hy
            · exact hpre y hy
            · rw [List.mem_singleton] at hy
              subst hy
              exact he
      · simp only [he, decide_false, Bool.and_false, Bool.false_eq_true, if_false]
        refine ⟨fun e => (by cases e), fun _ => ⟨trivial, fun t ht => ?_⟩⟩
        rcases List.mem_append.1 ht with ht | ht
        · exact h2 t ht
        · rw [List.mem_singleton] at ht
          subst ht
          omega
theorem putD_spec {xs : List Sh} {s : Sh} (hx : Inc xs) : (putD xs s).Perm (s :: less xs s.id) ∧ Inc (putD xs s) := by
  have h := piD_spec (s := s) (hx.less s.id) (fun t ht => by simpa using (List.mem_filter.1 ht).2) _ (Nat.le_refl _)
  rw [List.take_length] at h
  unfold putD
  cases hb : (piD s (less xs s.id)).2 with
  | true =>
    obtain ⟨h1, h2, _⟩ := h.1 hb
    simp only [if_true]
    exact ⟨h1, h2⟩
  | false =>
    obtain ⟨h1, h2⟩ := h.2 hb
    simp only [Bool.false_eq_true, if_false, h1]
    refine ⟨List.perm_append_comm, List.pairwise_append.2 ⟨hx.less s.id, List.pairwise_singleton _ _, fun y hy z hz' => ?_⟩⟩
    rw [List.mem_singleton] at hz'
    subst hz'
    exact h2 y hy
def havS (a : List Sh) (s : Sh) : List Sh := if rightR s.box then putD a s else a
def hav (l : List Sh) : List Sh := l.foldl havS []
theorem hav_snoc {l : List Sh} {k : Nat} (h : k < l.length) : hav (l.take (k + 1)) = havS (hav (l.take k)) l[k] := by
  unfold hav
  rw [take_snoc h, List.foldl_append]
  rfl
theorem havS_inc {a : List Sh} {s : Sh} (h : Inc a) : Inc (havS a s) := by
  unfold havS
  split
  · exact (putD_spec h).2
  · exact h
theorem havS_perm {a : List Sh} {s : Sh} (h : Inc a) : (havS a s).Perm (putS a s) := by
  unfold havS putS
  split
  · exact (putD_spec h).1
  · exact List.Perm.refl _
theorem havS_len {a : List Sh} {s : Sh} (h : Inc a) : (havS a s).length ≤ a.length + 1 := by
  unfold havS
  split
  · rw [(putD_spec h).1.length_eq, List.length_cons]
    have : (less a s.id).length ≤ a.length := List.length_filter_le _ _
    omega
  · omega
theorem hav_spec (l : List Sh) : Inc (hav l) ∧ (hav l).length ≤ l.length := by
  have go : ∀ n, n ≤ l.length → Inc (hav (l.take n)) ∧ (hav (l.take n)).length ≤ n := by
    intro n
    induction n with
    | zero => intro _; simp [hav, Inc]
    | succ n ih =>
      intro hn
      obtain ⟨h1, h2⟩ := ih (by omega)
      rw [hav_snoc (by omega)]
      have := havS_len (s := l[n]) h1
      exact ⟨havS_inc h1, by omega⟩
  have := go l.length (Nat.le_refl _)
  rwa [List.take_length] at this

/-! ## What must come of fixed calls -/
theorem nilTrE {x y : Operand} : binR Tryz.prog .eql 25 x y (.pointer none) (.pointer none) = some (.bool true) := by kernel_rfl
theorem lshape (id a b c d : Int) : PFn Tryz.prog 25 [.sc (.int .i64 id), .sc (.int .i64 a), .sc (.int .i64 b), .sc (.int .i64 c), .sc (.int .i64 d)] (Sh.mk id ⟨a, b, c, d⟩ 0).v := by
  refine AFn.intro (fn := Tryz.f25) (by kernel_rfl) rfl (by kernel_rfl) (by simp) (AW.ofx [] mixed (by kernel_rfl) ?_)
  simp only [Tryz.f25, argsF]
  simp [setCells, setBlk, Sh.v, Sh.cs]
def s1 : Sh := ⟨1, ⟨0, 0, 1, 1⟩, 0⟩
def s2 : Sh := ⟨2, ⟨1, 1, 2, 2⟩, 0⟩
theorem known_facts : (ndCells 17 root0 [s2, s1]).length = 16 ∧ (ndCells 17 root0 [s2]).length = 15 ∧ foundL (fun b => meetsR b ⟨2, 2, 9, 9⟩) ⟨2, 2, 9, 9⟩ [s2, s1] = [s2] ∧ underN [s2, s1] ⟨15, 0, 0⟩ = 1 := by
  refine ⟨by decide +kernel, by decide +kernel, ?_, by decide +kernel⟩
  have e : hf (fun b => meetsR b ⟨2, 2, 9, 9⟩) [s2, s1] = [s2] := by decide +kernel
  rw [foundL, if_pos (by decide), e]
  exact Inc.sort (S := [s2]) (List.pairwise_singleton _ _)
theorem lknown (H : List Bk) : AFn Tryz.prog 7 [] H fun y H' => y = .sc (.bool true) ∧ Kp NoB H H' := by
  obtain ⟨n1, n2, n3, n4⟩ := known_facts
  have l1 := lshape 1 0 0 1 1
  have l2 := lshape 2 1 1 2 2
  have e1 : putS [] s1 = [s1] := by decide +kernel
  have e2 : putS [s1] s2 = [s2, s1] := by decide +kernel
  have e3 : less [s2, s1] 1 = [s2] := by decide +kernel
  have p1 : putE s1 = 0 := by decide +kernel
  have p2 : putE s2 = 0 := by decide +kernel
  have q1 : takeE [s2, s1] 1 = 0 := by decide +kernel
  refine AFn.intro (fn := Tryz.f7) (by kernel_rfl) rfl (by kernel_rfl) (by simp) ?_
  simp only [Tryz.f7, argsF]
  refine AW.seq (AW.ofx [] mixed (by kernel_rfl) ?_)
  simp
  refine AW.seq (AW.ofx [] mixed (by kernel_rfl) ?_)
  simp
  refine callK.of (tnew H) ?_
  rintro y H1 ⟨r, T, rfl, t1, k1, f1⟩
  simp
  refine AW.seq (AW.ofx [] mixed (by kernel_rfl) ?_)
  simp
  refine callK.pure l1 rfl rfl ?_
  simp [Sh.v, Sh.cs]
  refine callK.of (tput t1 s1 (by simp)) ?_
  rintro y H2 ⟨rfl, k2, T2, t2, f2⟩
  rw [p1]
  rw [e1] at t2
  simp
  refine callK.pure l2 rfl rfl ?_
  simp [Sh.v, Sh.cs]
  refine callK.of (tput t2 s2 (by simp)) ?_
  rintro y H3 ⟨rfl, k3, T3, t3, f3⟩
  rw [p2]
  rw [e2] at t3
  simp
  have hr1 : H.length ≤ H1.length := by
    have a := f1 r (t1.self)
    have b := t1.lt r t1.self
    omega
  have hr2 : H.length ≤ H2.length := by
    have b := t2.lt r t2.self
    have a := f1 r t1.self
    omega
  have g2 : ∀ x, T2 x → H.length ≤ x := fun x hx => (f2 x hx).elim (f1 x) fun h => by omega
  have g3 : ∀ x, T3 x → H.length ≤ x := fun x hx => (f3 x hx).elim (g2 x) fun h => by omega
  have hk3 : Kp NoB H H3 := Kp.new (Kp.trans (k1.weak fun _ h => h.elim) (Kp.trans (k2.weak fun x hx => .inr (f1 x hx)) (k3.weak fun x hx => .inr (g2 x hx))))
  refine AW.seq (AW.ofx [] mixed (by kernel_rfl) ?_)
  simp
  have hMt := tmeets t3 ⟨2, 2, 9, 9⟩
  rw [n3] at hMt
  refine callK.of hMt ?_
  rintro y H4 ⟨rfl, k4⟩
  have t4 := t3.keep0 k4
  simp
  refine AW.ofx [] mixed (by kernel_rfl) ?_
  have hN := tnodes t4
  rw [n1] at hN
  simp
  refine callK.of hN ?_
  rintro y H5 ⟨rfl, rfl⟩
  have hrow' : AM.rowAt 6 s2.cs 0 = [.sc (.int .i64 2), .sc (.int .i64 1), .sc (.int .i64 1), .sc (.int .i64 2), .sc (.int .i64 2), .sc (.int .i64 0)] := rfl
  simp [slS, hrow']
  have hU := tunder t4 ⟨15, 0, 0⟩
  rw [n4] at hU
  refine callK.of hU ?_
  rintro y H6 ⟨rfl, k6⟩
  have t6 := t4.keep0 k6
  simp
  refine callK.of (ttake t6 1) ?_
  rintro y H7 ⟨rfl, k7, T7, t7, f7⟩
  rw [q1]
  rw [e3] at t7
  simp
  have hN7 := tnodes t7
  rw [n2] at hN7
  refine callK.of hN7 ?_
  rintro y H8 ⟨rfl, rfl⟩
  simp
  exact Kp.new (((hk3.weak fun _ h => h.elim).trans ((k4.trans k6).weak fun _ h => h.elim)).trans (k7.weak fun x hx => .inr (g3 x hx)))
end Go.Proofs.YtdeemchhbgomjaaGreat
