/- Review: the law ReviewBack, walked. -/
import Derived.Test.YtbcfoakceloenaaDv
namespace Go.Proofs.Ytbcfoakceloenaa
set_option linter.all false
open Go.RowKit AM Can
set_option maxRecDepth 10000
attribute [local simp] aw_skip' aw_region' aw_seq' aw_cond' aw_block' aw_loop' aw_exit' aw_label' aw_ret' aops_nil' aops_cons' aop' aMove aAssign aPick aAlloc aBox aBuild slF aBuildSlice aLoad aLoadOwn aStore aStoreOwn isOwn delR aNilCheck aBin aMakeFunc aFieldAddr aField aIndexAddr aExtract aSliceOp aSlice aCallOp aCall' aLen aLenMap aDelete aMM aUn aConv aIface aAssert aMakeMap aLookup aMapUpdate aRange aNext aEntry entsOf keyB seekK aMakeSlice lookV aAppend putK layK eval evalV AM.valOf getF putF setF del SV.refers cellsAt rootSV plains shift ldV V.exact V.exactL V.ofValue V.ofPart V.ofCell V.cells V.one Value.oneCell' fitB qSeq qBlock getB afin aret resVs resV resTmps shareF evalS tupV valsS valsV pickV calm calmB lenV useOf feeds looks isT newsV partsV fillV putAt zerosV fitsNil nilB sliceB isEq isNeq awx_skip' awx_region' awx_seq' awx_cond' awx_block' awx_loop' awx_exit' awx_label' awx_ret' xops_nil' xops_cons' xop' xload xcall' addO delO inO putD memB Mix.effB Mix.laysB keysF badK subW weakV zeroRow yops_nil' yops_cons' yop' yload yindex yfield ylen oldO dropO takeO oldL exactB
attribute [local simp] awz_skip' awz_region' awz_seq' awz_cond' awz_block' awz_loop' awz_exit' awz_label' awz_ret' zops_nil' zops_cons' zop' zload zloadOwn zcall' z0 new0 remF old0 dltB

/-! ## Labels that are turned (plain) -/
section
variable {L M : Type} [DecidableEq L] [DecidableEq M] {g : L → M}
def mapR (g : L → M) (r : Run L) : Run M := ⟨r.a, r.b, g r.z⟩
def mapRc (g : L → M) (q : Rc L) : Rc M := ⟨q.x0, q.y0, q.x1, q.y1, g q.z⟩
variable (hg : ∀ a b, g a = g b → a = b)
include hg
theorem push_map (R : List (Run L)) (n m : Int) (z : L) : push (R.map (mapR g)) n m (g z) = (push R n m z).map (mapR g) := by
  rcases List.eq_nil_or_concat R with rfl | ⟨R', r, rfl⟩
  · rfl
  · rw [List.concat_eq_append, List.map_append]
    by_cases h : r.b + 1 = n ∧ r.z = z
    · rw [push_more h.1 h.2]
      have h2 : (mapR g r).z = g z := congrArg g h.2
      have := push_more (R := R'.map (mapR g)) (r := mapR g r) (n := n) (m := m) (z := g z) h.1 h2
      rw [List.map_append]
      exact this
    · rw [push_fresh (R := R' ++ [r]) fun A q e h1 h2 => by
        obtain ⟨_, rfl⟩ := app_last e
        exact h ⟨h1, h2⟩]
      have := push_fresh (R := R'.map (mapR g) ++ [mapR g r]) (n := n) (m := m) (z := g z) fun A q e h1 h2 => by
        obtain ⟨_, rfl⟩ := app_last e
        exact h ⟨h1, hg _ _ h2⟩
      rw [List.map_append, List.map_append]
      exact this
theorem runsK_map {f : Int → Option L} {f' : Int → Option M} (hf : ∀ x, f' x = (f x).map g) {xs : List Int} : ∀ n, runsK f' xs n = (runsK f xs n).map (mapR g)
  | 0 => rfl
  | n + 1 => by
    have ih := runsK_map hf n (xs := xs)
    by_cases hn : n + 1 < xs.length
    · rw [runsK_succ hn, runsK_succ hn, ih]
      unfold Can.step
      rw [hf]
      cases f xs[n] with
      | none => rfl
      | some z => exact push_map hg _ _ _ _
    · have e : xs[n + 1]? = none := List.getElem?_eq_none (by omega)
      rw [runsK, runsK, ih, e]
      cases xs[n]? <;> rfl
theorem out_map {R : Int → List (Run L)} {R' : Int → List (Run M)} (hR : ∀ y, R' y = (R y).map (mapR g)) (ys : List Int) (n : Nat) : emit (runsK (bandF R') ys n) = (emit (runsK (bandF R) ys n)).map (mapRc g) := by
  have hb : ∀ y, bandF R' y = (bandF R y).map (List.map (mapR g)) := fun y => by
    unfold bandF
    rw [hR]
    cases R y <;> simp
  have hi : ∀ a b : List (Run L), a.map (mapR g) = b.map (mapR g) → a = b := by
    intro a
    induction a with
    | nil => intro b h; cases b <;> simp_all
    | cons r a ih =>
      intro b h
      cases b with
      | nil => simp at h
      | cons s b =>
        simp only [List.map_cons, List.cons.injEq] at h
        rw [ih b h.2]
        obtain ⟨a1, b1, z1⟩ := r
        obtain ⟨a2, b2, z2⟩ := s
        have h1 := h.1
        simp only [mapR, Run.mk.injEq] at h1
        obtain ⟨rfl, rfl, hz⟩ := h1
        rw [hg _ _ hz]
  rw [runsK_map (g := List.map (mapR g)) hi hb]
  generalize runsK (bandF R) ys n = B
  induction B with
  | nil => rfl
  | cons b B ih =>
    have e1 : ∀ (M : Type) (b : Run (List (Run M))) (B : List (Run (List (Run M)))), emit (b :: B) = band b ++ emit B := fun M b B => by simp [emit]
    rw [List.map_cons, e1, e1, ih, List.map_append]
    congr 1
    simp [band, mapR, mapRc, rect]
end
theorem swap_inj : ∀ a b : Int × Int, Prod.swap a = Prod.swap b → a = b := fun a b h => by
  have := congrArg Prod.swap h
  simpa using this
theorem out_back (was is : List Ru) (w : Wo) (xs ys : List Int) (n : Nat) : outO neB is was w xs ys n = (outO neB was is w xs ys n).map (mapRc Prod.swap) := by
  refine out_map swap_inj (fun y => runsK_map swap_inj (fun x => ?_) _) ys n
  unfold labO neB
  by_cases h : zoomR was w.ro w.ti w.la ⟨x, y⟩ = zoomR is w.ro w.ti w.la ⟨x, y⟩
  · simp [h]
  · have h' : ¬ zoomR is w.ro w.ti w.la ⟨x, y⟩ = zoomR was w.ro w.ti w.la ⟨x, y⟩ := fun e => h e.symm
    simp [h, h']
theorem CutG.swap {a b : List Re} {d : Bool} {xs : List Int} (h : CutG (a ++ b) d xs) : CutG (b ++ a) d xs := ⟨h.lt, h.zero, h.top, h.within, fun c hc => h.ends c (by
  rcases List.mem_append.1 hc with hc | hc
  · exact List.mem_append.2 (.inr hc)
  · exact List.mem_append.2 (.inl hc))⟩
theorem ovP_back {was is : List Ru} (ha : was.all ruRight = true) (hb : is.all ruRight = true) (w : Wo) : ovP neB is was w = (ovP neB was is w).map (mapRc Prod.swap) := by
  have h1 := edgesR_cut (docB_right ha hb) false
  have h2 := edgesR_cut (docB_right ha hb) true
  rw [ch_doc ha hb, (ovP_form neB hb ha w).uniq (out_form hb ha (CutG.swap h1) (CutG.swap h2)), out_back]
  rfl
theorem ovP_self {was : List Ru} (ha : was.all ruRight = true) (w : Wo) : ovP neB was was w = [] := by
  rw [(ovP_form neB ha ha w).nil_iff]
  exact fun x y => FZ2_none.2 fun _ => by simp [neB]
theorem askL_swap (was is : List Ru) : askL [is, was] = askL [was, is] := by
  unfold askL
  have e1 : ([is, was].all fun l => decide (l.length ≤ 32)) = ([was, is].all fun l => decide (l.length ≤ 32)) := by
    simp only [List.all_cons, List.all_nil, Bool.and_true]
    exact Bool.and_comm _ _
  have e2 : ([is, was].all fun l => l.all ruRight) = ([was, is].all fun l => l.all ruRight) := by
    simp only [List.all_cons, List.all_nil, Bool.and_true]
    exact Bool.and_comm _ _
  rw [e1, e2]
theorem askL_self {was is : List Ru} (h : askL [was, is] = 0) : askL [was, was] = 0 := by
  obtain ⟨h1, h2⟩ := askL_zero h
  have h1 := h1 was (by simp)
  have h2 := h2 was (by simp)
  unfold askL
  rw [if_pos (by simp; omega), if_pos (by simp [h2])]
theorem chE_swap (was is : List Ru) (w : Wo) : chE is was w = chE was is w := by
  unfold chE
  rw [askL_swap]
theorem chP_self (was : List Ru) (w : Wo) : chP was was w = [] := by
  unfold chP
  split
  · rename_i h
    exact ovP_self ((askL_zero h.1).2 was (by simp)) w
  · rfl
theorem chP_back (was is : List Ru) (w : Wo) : chP is was w = (chP was is w).map (mapRc Prod.swap) := by
  unfold chP
  rw [askL_swap]
  split
  · rename_i h
    exact ovP_back ((askL_zero h.1).2 was (by simp)) ((askL_zero h.1).2 is (by simp)) w
  · rfl
theorem chP_len (was is : List Ru) (w : Wo) : (chP was is w).length ≤ 5000000000 := by
  unfold chP
  split
  · exact ovP_len _ _ _ _
  · simp
/-! ## The law -/
theorem eqReV (a b c d a' b' c' d' : Int) : eqT Try.prog 10 37 (.agg #[.int .i64 a, .int .i64 b, .int .i64 c, .int .i64 d]) (.agg #[.int .i64 a', .int .i64 b', .int .i64 c', .int .i64 d']) = some (a == a' && (b == b' && (c == c' && (d == d' && true)))) := by kernel_rfl
theorem gReV : Try.prog.eqGuardType Try.prog.depth 37 = false := by kernel_rfl
def BvI (qs rs : List (Rc (Int × Int))) (k : Nat) (F : Fr) (_ : List Bk) : Prop := F = [(7, .v (slC qs)), (9, .v (slC rs)), (13, .v (.sc (.int .i64 k)))]
set_option maxHeartbeats 16000000 in
theorem backLaw (was is : List Ru) (w : Wo) (h1 : was.length ≤ 9223372036854775807) (h2 : is.length ≤ 9223372036854775807) (b1 : ∀ r ∈ was, r.boxes.length ≤ 4398046511104) (b2 : ∀ r ∈ is, r.boxes.length ≤ 4398046511104) :
    AFn Try.prog 5 [slU was, slU is, w.v] [] fun y _ => y = .sc (.bool true) := by
  have hK := lknownV
  have hS1 := lsmallV was h1 b1
  have hS2 := lsmallV is h2 b2
  have c1 := slU_closed was
  have c2 := slU_closed is
  have b1' : ∀ r ∈ was, r.boxes.length ≤ 9223372036854775807 := fun r hr => by have := b1 r hr; omega
  have b2' : ∀ r ∈ is, r.boxes.length ≤ 9223372036854775807 := fun r hr => by have := b2 r hr; omega
  cases s1 : smallV was with
  | false =>
    rw [s1] at hS1
    unfold Wo.v Wo.cs
    refine AFn.intro (fn := Try.f5) (by kernel_rfl) rfl (by kernel_rfl) (by simp) (AW.ofx [] mixed (by kernel_rfl) ?_)
    simp only [Try.f5, argsF]
    simp
    refine callK.pure hS1 (by simp [V.closedL, V.closed, c1]) rfl ?_
    simp
    refine callK.pure hK rfl rfl ?_
    simp
  | true =>
    rw [s1] at hS1
    cases s2 : smallV is with
    | false =>
      rw [s2] at hS2
      unfold Wo.v Wo.cs
      refine AFn.intro (fn := Try.f5) (by kernel_rfl) rfl (by kernel_rfl) (by simp) (AW.ofx [] mixed (by kernel_rfl) ?_)
      simp only [Try.f5, argsF]
      simp
      refine callK.pure hS1 (by simp [V.closedL, V.closed, c1]) rfl ?_
      simp
      refine callK.pure hS2 (by simp [V.closedL, V.closed, c2]) rfl ?_
      simp
      refine callK.pure hK rfl rfl ?_
      simp
    | true =>
      rw [s2] at hS2
      have m1 := of_decide_eq_true s1
      have m2 := of_decide_eq_true s2
      have hC1 := rchanges was is w h1 h2 b1' b2' (fun _ => ⟨by omega, by omega⟩)
      have hC2 := rchanges is was w h2 h1 b2' b1' (fun _ => ⟨by omega, by omega⟩)
      have hC3 := rchanges was was w h1 h1 b1' b1' (fun _ => ⟨by omega, by omega⟩)
      rw [chE_swap, chP_back] at hC2
      rw [chP_self] at hC3
      have hlen := chP_len was is w
      have cC1 := slC_closed (chP was is w)
      have cC2 := slC_closed ((chP was is w).map (mapRc Prod.swap))
      obtain ⟨g, hg, hg0⟩ : ∃ g, chE was was w = g ∧ (chE was is w = 0 → g = 0) := ⟨_, rfl, fun he => by
        obtain ⟨ha, hn⟩ := chE_zero he
        unfold chE
        rw [if_pos (askL_self ha), hn]
        rfl⟩
      rw [hg] at hC3
      clear hg
      generalize chE was is w = e at *
      generalize chP was is w = qs at *
      obtain ⟨rs, hrs⟩ : ∃ rs, qs.map (mapRc Prod.swap) = rs := ⟨_, rfl⟩
      have hrl : rs.length = qs.length := by rw [← hrs, List.length_map]
      have hrk : ∀ k (h : k < qs.length) (h' : k < rs.length), rs[k] = mapRc Prod.swap qs[k] := fun k h h' => by
        subst hrs
        simp
      rw [hrs] at hC2 cC2
      have ht : e = 0 ∧ g = 0 ∨ e ≠ 0 ∧ (e == 0) = false := by
        by_cases he : e = 0
        · exact .inl ⟨he, hg0 he⟩
        · exact .inr ⟨he, by simpa using he⟩
      unfold Wo.v Wo.cs at *
      refine AFn.intro (fn := Try.f5) (by kernel_rfl) rfl (by kernel_rfl) (by simp) ?_
      simp only [Try.f5, argsF]
      refine AW.seq (AW.ofx [] mixed (by kernel_rfl) ?_)
      simp
      refine AW.seq (AW.ofx [] mixed (by kernel_rfl) ?_)
      simp
      refine callK.pure hS1 (by simp [V.closedL, V.closed, c1]) rfl ?_
      simp
      refine callK.pure hS2 (by simp [V.closedL, V.closed, c2]) rfl ?_
      simp
      refine AW.seq (AW.ofx [] mixed (by kernel_rfl) ?_)
      simp
      refine callK.pure hC1 (by simp [V.closedL, V.closed, c1, c2]) (by simp [V.closed, V.closedL, cC1]) ?_
      simp [slC]
      refine AW.seq (AW.ofx [] mixed (by kernel_rfl) ?_)
      simp
      refine callK.pure hC2 (by simp [V.closedL, V.closed, c1, c2]) (by simp [V.closed, V.closedL, cC2]) ?_
      simp [slC]
      refine AW.seq (AW.ofx [] mixed (by kernel_rfl) ?_)
      simp
      refine callK.pure hC3 (by simp [V.closedL, V.closed, c1]) rfl ?_
      simp [slC]
      refine AW.sub [(6, .v (.sc (.bool false))), (7, .v (slC qs)), (8, .v (.sc (.int .i64 e))), (9, .v (slC rs)), (10, .v (.sc (.int .i64 e))), (11, .v (slC [])), (12, .v (.sc (.int .i64 g)))] (by simp [subF, getF, slC]) ?_
      refine AW.seq (AW.ofx [] mixed (by kernel_rfl) ?_)
      have he1 : (e != e) = false := by simp
      have hl1 : ((qs.length : Int) != (rs.length : Int)) = false := by rw [hrl]; simp
      rcases ht with ⟨rfl, rfl⟩ | ⟨he, hb⟩
      case' inl => simp [slC, hl1]
      case' inr => simp [slC, hl1, he1, hb]
      all_goals
        refine AW.seq (AW.ofx [] mixed (by kernel_rfl) ?_)
        simp
        refine AW.count qs.length (BvI qs rs) ⟨_, ?_, rfl⟩ ?_
        · simp [subW, weakV, getF, slC]
        rintro k F H hk rfl
        refine AW.ofx [] mixed (by kernel_rfl) ?_
        by_cases hlt : k < qs.length
        · have hlt' : k < rs.length := by omega
          have w1 : IntKind.i64.wrap ((k : Int) + 1) = (k : Int) + 1 := by rw [wrap_i64] <;> omega
          have hrow := rowC' hlt
          have hrow2 := rowC' hlt'
          rw [hrk k hlt hlt'] at hrow2
          unfold mapRc at hrow2
          simp at hrow2
          simp [slC, hlt, hlt', hrow, hrow2, eqReV, gReV, w1]
          refine ⟨_, ?_, rfl⟩
          simp [subW, weakV, getF, slC]
        · have hk' : k = qs.length := by omega
          subst hk'
          simp [slC]
          refine AW.ofx [] mixed (by kernel_rfl) ?_
          simp
          refine callK.pure hK rfl rfl ?_
          simp
end Go.Proofs.Ytbcfoakceloenaa
