/- Review: edges of rules, and two sets of rules laid over one another, by the program. -/
import Derived.Test.YtbcfoakceloenaaDa1
import Derived.Test.YtbcfoakceloenaaIs1
import Derived.Test.YtbcfoakceloenaaKa
namespace Go.Proofs.Ytbcfoakceloenaa
set_option linter.all false
open Go.RowKit
namespace AM
section
variable {α : Type} {P : Program} {N : Nat} {id : Nat} {ops : Array Oper} {Q : Exit → St → Prop} {F : Fr} {H : List Bk} {f : FuncId} {extra : List Value} {e sz n : Nat} {enc : α → List Value} {R : List α → List α → Prop} {o1 o2 : Oper} {rest : List Oper} {t u d : Nat} {zs : List α} {xs : List Operand} {args : Array Operand} {ts : Array TypeId}
/-- A list of operations, from what is known on. -/
def LW (P : Program) (N : Nat) (ops : Array Oper) (l : List Oper) (Q : Exit → St → Prop) (F : Fr) (H : List Bk) : Prop := ∀ (c : Cx) (a : Act) (w : World) (QQ : Exit → Act → World → Prop), Sim c N ⟨F, H⟩ a w → (∀ a' w', Post c w N (Q .normal) a' w' → QQ .normal a' w') → wpList P ops QQ l a w
theorem LW.of (h : aops P N ops.toList rest (Q .normal) ⟨F, H⟩) : LW P N ops rest Q F H := fun c a w QQ hs hq => aops_list hs h hq
theorem AW.ofLW (hops : ops.toList = rest) (h : LW P N ops rest Q F H) : AW P N (.region id ops false) Q ⟨F, H⟩ := fun c a w hs => by
  refine wp_region_list ?_
  rw [hops]
  exact h c a w _ hs fun _ _ hp => hp
theorem LW.rowBack (hf : RowFn P f extra e sz enc true R) (hen : Enters P f) (h1c : ∀ x, ∀ v ∈ enc x, v.oneCell' = true)
    (h1 : o1.op = .move (.tmp u)) (hd1 : o1.dst = some t) (hg1 : o1.guard = none) (h2 : o2.op = .call { callee := .value (.func f), args := args, argTypes := ts }) (hargs : args = #[.tmp t] ++ xs.toArray) (hxs : ∀ a : Act, xs.map a.eval = extra) (hd2 : o2.dst = some d) (hg2 : o2.guard = none)
    (htu : t ≠ u) (ht : t < N) (hd : d < N) (hF : getF u F = some (.own true e n sz (scs enc zs))) (hn : n = zs.length) (hsz : zs.length < 4611686018427387904)
    (hQ : ∀ ys, R zs ys → LW P N ops rest Q (putF d (.own true e ys.length sz (scs enc ys)) (del u (putF t .any F))) H) : LW P N ops (o1 :: o2 :: rest) Q F H := fun c a w QQ hs hq => by
  subst hn hargs
  obtain ⟨v, hv, h0, vs, r1, r2, r3, r4⟩ := hs.fr u _ (mem_getF hF)
  obtain rfl := relL_scs r1
  have s0 := hs.put (t := t) (x := .any) (v := v) ht trivial trivial
  have s1 := s0.sub (F' := del u (putF t .any F)) fun p hp => (mem_del (x := p.2) (k := p.1) hp).1
  have e1 : a.eval (.tmp u) = v := by simp [Act.eval, hv]
  have hts : t < a.tmps.size := by rw [hs.size]; exact ht
  have e2 : (a.put (some t) v).eval (.tmp t) = v := by simp [Act.put, Act.eval, Array.getElem?_setIfInBounds, hts]
  have x1 : Ext c w (c.free (.slot t)) w := Ext.free c w _
  have hF1 : ∀ k x, (k, x) ∈ del u (putF t .any F) → k ≠ u ∧ x.refers (.slot u) = false := fun k x hx => (mem_del hx).2
  have lift : ∀ {c' : Cx} {w' : World}, Ext c w c' w' → ∀ a' w'', Post c' w' N (Q .normal) a' w'' → QQ .normal a' w'' := fun hx _ _ hp => hq _ _ (Post.step hx hp)
  have acts1 : Acts P o1 a w fun a' w' => a' = a.put (some t) v ∧ w' = w := by
    refine Reads.acts ⟨v, fun w' _ => ?_, by rw [hd1]; exact ⟨rfl, rfl⟩⟩
    simp [execOp, h1, e1]
  have acts2 : Acts P o2 (a.put (some t) v) w (fun a' w' => wpList P ops QQ rest a' w') := by
    obtain ⟨fn, q1, q2, q3⟩ := hen
    unfold Acts Oper.wp
    have hrun : (execOp (a.put (some t) v).eval o2).run P w = .ok (.enter f (v :: extra).toArray) w := by
      have hfv : (a.put (some t) v).eval (.func f) = .func (.func f) #[] #[] := rfl
      have e4 : fn.body.isNone = false := by cases hb : fn.body <;> simp_all
      have e5 := hxs (a.put (some t) v)
      unfold execOp
      simp only [h2, resolve, hfv, Deferred.ofValue, Sem.run_bind, Sem.run_pure, Result.andThen_ok, invoke, callFunc, run_program, q1, q3, Bool.false_eq_true, if_false, e4]
      simp [e2, ← e5]
    rw [hrun, Oper.upon_enter]
    rcases r2.2 with ⟨rfl, hnil⟩ | ⟨g, cap, cur, rfl, hbase, g1, g2, g3, g4, g5⟩
    · have hz : zs = [] := by
        cases zs with
        | nil => rfl
        | cons z zs => simp at hnil
      subst hz
      refine (hf.none w).mono fun e' w' he => ?_
      obtain ⟨hR0, rfl, hbl⟩ := he
      rw [hd2]
      obtain ⟨s2, x2⟩ := s1.still hbl
      exact hQ [] hR0 _ _ _ _ (s2.put' (t := d) (x := .own true e 0 sz []) (v := .slice none 0 0) hd (own_nil h0)) (lift ((x1.trans x2).trans (Ext.free _ _ _)))
    · obtain ⟨p1, p2⟩ := r4 g rfl
      have hR : (c.free (.slot t)).R g = .own (.slot u) := free_own p1 (by simpa using htu.symm)
      refine (hf.row g cap zs w hsz r2).mono fun e' w' he => ?_
      obtain ⟨ys, hRy, rfl, _, ht'⟩ := he
      rw [hd2]
      have s2 := s1.turned hR p2 ⟨_, _, _, g1⟩ hF1 ht'.other ht'.size
      have hgl : g < w'.heap.size := Nat.lt_of_lt_of_le (obj_lt g1) ht'.size
      have s3 := s2.put_own (t := d) (b := g) (pr := true) (e := e) (n := ys.length) (sz := sz) (cs := scs enc ys) (v := .slice (some ⟨g, 0, none⟩) ys.length cap) hd hgl (fun id => by rw [hR]; simp) (fun id j => by rw [hR]; simp)
        (fun k x hx => by
          obtain ⟨f1, f2⟩ := hF1 k x (mem_del hx).1
          refine ⟨by rw [hR]; simpa using Ne.symm f1, fun q hq => ?_⟩
          rw [hR] at hq
          cases hq
          exact f2)
        ⟨h0, _, scs_relL, ht'.row, fun x hx => by obtain ⟨z, _, hz⟩ := List.mem_flatMap.1 hx; exact h1c z x hz, fun b hb => by
          cases hb
          exact ⟨give_self, p2⟩⟩
      have x2 : Ext (c.free (.slot t)) w ((c.free (.slot t)).give g (.slot d)) w' := ⟨ht'.os, ht'.tape, ht'.output, ht'.size, fun b hb ho => by
        have hbg : b ≠ g := by rintro rfl; rw [hR] at ho; cases ho
        exact ⟨ht'.other b hbg hb, by simp [Cx.give, hbg, ho], fun _ => rfl⟩, fun _ _ _ h => h, fun _ _ h => h⟩
      exact hQ ys hRy _ _ _ _ s3 (lift (x1.trans x2))
  refine wpList_step fun K' hK' => ?_
  rw [if_pos (by simp [Region.wanted, hg1])]
  refine Mix.wp_of_eff (Mix.effS_mono (fun d v w' h2 => ?_) (Mix.eff_of_wp acts1))
  obtain ⟨ea, rfl⟩ := h2
  refine hK' _ _ ?_
  rw [ea]
  refine wpList_step fun K' hK' => ?_
  rw [if_pos (by simp [Region.wanted, hg2])]
  refine Mix.wp_of_eff (Mix.effS_mono (fun d v w' h2 => ?_) (Mix.eff_of_wp acts2))
  exact hK' _ _ h2
end
end AM
open AM Can
set_option maxRecDepth 10000
attribute [local simp] aw_skip' aw_region' aw_seq' aw_cond' aw_block' aw_loop' aw_exit' aw_label' aw_ret' aops_nil' aops_cons' aop' aMove aAssign aPick aAlloc aBox aBuild slF aBuildSlice aLoad aLoadOwn aStore aStoreOwn isOwn delR aNilCheck aBin aMakeFunc aFieldAddr aField aIndexAddr aExtract aSliceOp aSlice aCallOp aCall' aLen aLenMap aDelete aMM aUn aConv aIface aAssert aMakeMap aLookup aMapUpdate aRange aNext aEntry entsOf keyB seekK aMakeSlice lookV aAppend putK layK eval evalV AM.valOf getF putF setF del SV.refers cellsAt rootSV plains shift ldV V.exact V.exactL V.ofValue V.ofPart V.ofCell V.cells V.one Value.oneCell' fitB qSeq qBlock getB afin aret resVs resV resTmps shareF evalS tupV valsS valsV pickV calm calmB lenV useOf feeds looks isT newsV partsV fillV putAt zerosV fitsNil nilB sliceB isEq isNeq awx_skip' awx_region' awx_seq' awx_cond' awx_block' awx_loop' awx_exit' awx_label' awx_ret' xops_nil' xops_cons' xop' xload xcall' addO delO inO putD memB Mix.effB Mix.laysB keysF badK subW weakV zeroRow yops_nil' yops_cons' yop' yload yindex yfield ylen oldO dropO takeO oldL exactB
attribute [local simp] awz_skip' awz_region' awz_seq' awz_cond' awz_block' awz_loop' awz_exit' awz_label' awz_ret' zops_nil' zops_cons' zop' zload zloadOwn zcall' z0 new0 remF old0 dltB
def endE (d : Bool) (l : List Re) : List Int := [0, 65536] ++ endsD d l
/-- The numbers at which something may change. -/
def cutE (l : List Ru) (d : Bool) : List Int := numsC (endE d (boxesU l))
theorem endE_len (d : Bool) (l : List Re) : (endE d l).length = 2 + 2 * l.length := by simp [endE, endsD_len]; omega
def EdA (l : List Ru) (k : Nat) (F : Fr) (_ : List Bk) : Prop := F = [(2, ownI (endE false (boxesU (l.take k)))), (3, ownI (endE true (boxesU (l.take k)))), (10, .v (slU l)), (11, .v (.sc (.int .i64 l.length))), (12, .v (.sc (.int .i64 k)))]
def EdB (l : List Ru) (k : Nat) (c : List Re) (j : Nat) (F : Fr) (_ : List Bk) : Prop := F = [(2, ownI (endE false (boxesU (l.take k)) ++ endsD false (c.take j))), (3, ownI (endE true (boxesU (l.take k)) ++ endsD true (c.take j))), (10, .v (slU l)), (11, .v (.sc (.int .i64 l.length))), (12, .v (.sc (.int .i64 k))), (17, .v (slR c)), (18, .v (.sc (.int .i64 c.length))), (19, .v (.sc (.int .i64 j)))]
theorem enterSort : AM.Enters Try.prog 73 := ⟨_, Try.func73, rfl, by kernel_rfl⟩
theorem enterCompact : AM.Enters Try.prog 74 := ⟨_, Try.func74, rfl, by kernel_rfl⟩
set_option maxHeartbeats 8000000 in
theorem redges (l : List Ru) (hl : l.length ≤ 1000000) (hn : (boxesU l).length ≤ 1048576) (hr : ∀ b ∈ boxesU l, rightR b = true) :
    PFn Try.prog 55 [slU l] (.tup [slI (cutE l false), slI (cutE l true)]) := by
  refine AFn.intro (fn := Try.f55) (by kernel_rfl) rfl (by kernel_rfl) (by simp) ?_
  simp only [Try.f55, argsF]
  refine AW.seq (AW.ofx [] mixed (by kernel_rfl) ?_)
  simp
  refine AW.seq (AW.ofx [] mixed (by kernel_rfl) ?_)
  simp
  refine AW.seq (AW.ofx [] mixed (by kernel_rfl) ?_)
  simp [slU]
  refine AW.count l.length (EdA l) ⟨_, ?_, rfl⟩ ?_
  · simp [subW, weakV, getF, ownI, endE, endsD, boxesU, ints, slU]
  rintro k F H hk rfl
  refine AW.ofx [] mixed (by kernel_rfl) ?_
  have w1 : IntKind.i64.wrap ((k : Int) + 1) = (k : Int) + 1 := by rw [wrap_i64] <;> omega
  by_cases hlt : k < l.length
  · have hrow := rowU hlt
    have hcm : ∀ b ∈ l[k].boxes, rightR b = true := fun b hb => hr b (boxesU_mem (List.getElem_mem hlt) hb)
    have hst := boxesU_take hlt
    have hpre := boxesU_take_len l (k + 1)
    rw [hst, List.length_append] at hpre
    have hel0 := endE_len false (boxesU (l.take k))
    have hel1 := endE_len true (boxesU (l.take k))
    have hnx : ∀ d, endE d (boxesU (l.take (k + 1))) = endE d (boxesU (l.take k)) ++ endsD d l[k].boxes := fun d => by rw [hst]; simp [endE, endsD_append]
    have hnx0 := hnx false
    have hnx1 := hnx true
    generalize hc : l[k].boxes = c at *
    unfold slR at hrow
    simp [slU, ownI, hlt, hrow, setL]
    refine AW.count c.length (EdB l k c) ⟨_, ?_, rfl⟩ ?_
    · simp [subW, weakV, getF, ownI, endsD, slU, slR]
    rintro j F H2 hj rfl
    refine AW.ofx [] mixed (by kernel_rfl) ?_
    have hlj0 := endsD_len false (c.take j)
    have hlj1 := endsD_len true (c.take j)
    rw [List.length_take] at hlj0 hlj1
    by_cases hjl : j < c.length
    · have w2 : IntKind.i64.wrap ((j : Int) + 1) = (j : Int) + 1 := by rw [wrap_i64] <;> omega
      have hrj := rowR hjl
      have hbj := rightR_iff.1 (hcm _ (List.getElem_mem hjl))
      have w3 : IntKind.i64.wrap (c[j].x1 + 1) = c[j].x1 + 1 := by rw [wrap_i64] <;> omega
      have w4 : IntKind.i64.wrap (c[j].y1 + 1) = c[j].y1 + 1 := by rw [wrap_i64] <;> omega
      have hst0 : endsD false (c.take (j + 1)) = endsD false (c.take j) ++ [c[j].x0, c[j].x1 + 1] := flat_take_succ hjl
      have hst1 : endsD true (c.take (j + 1)) = endsD true (c.take j) ++ [c[j].y0, c[j].y1 + 1] := flat_take_succ hjl
      have hb2 := appL (H := H2) (b := reB1 c[j])
      unfold reB1 at hb2
      unfold EdB
      rw [hst0, hst1]
      generalize endsD false (c.take j) = u0 at *
      generalize endsD true (c.take j) = u1 at *
      generalize endE false (boxesU (l.take k)) = v0 at *
      generalize endE true (boxesU (l.take k)) = v1 at *
      simp [slU, hjl, hrj, slR, ownI, setL, w2, w3, w4, hb2]
      refine ⟨by omega, by omega, ?_⟩
      simp [ints]
      omega
    · have hjj : j = c.length := by omega
      subst hjj
      rw [List.take_length, ← hnx0, ← hnx1]
      simp [slU, slR, ownI, w1]
      refine ⟨_, ?_, rfl⟩
      simp [subW, weakV, getF, ownI, slU]
  · have hk2 : k = l.length := by omega
    subst hk2
    rw [List.take_length]
    have hz0 := endE_len false (boxesU l)
    have hz1 := endE_len true (boxesU l)
    unfold cutE
    simp [slU, ownI]
    generalize endE false (boxesU l) = z0 at *
    generalize endE true (boxesU l) = z1 at *
    refine AW.seq (AW.rowCall (u := 2) (e := 3) (sz := 1) (n := z0.length) (zs := z0) (xs := []) sortI enterSort (fun x v hv => by simp at hv; subst hv; rfl) rfl rfl rfl rfl rfl rfl (fun a => rfl) rfl rfl (by decide) (by decide) (by decide) (by decide) (by simp [getF, scs_int]) (by simp [SV.refers]) rfl (by omega) ?_)
    rintro ys rfl hy0
    rw [scs_int]
    simp
    refine AW.seq (AW.rowCall (u := 3) (e := 3) (sz := 1) (n := z1.length) (zs := z1) (xs := []) sortI enterSort (fun x v hv => by simp at hv; subst hv; rfl) rfl rfl rfl rfl rfl rfl (fun a => rfl) rfl rfl (by decide) (by decide) (by decide) (by decide) (by simp [getF, scs_int]) (by simp [SV.refers]) rfl (by omega) ?_)
    rintro ys rfl hy1
    rw [scs_int]
    have hN0 : numsC z0 = Go.Lib.compact (sorted' z0) := rfl
    have hN1 : numsC z1 = Go.Lib.compact (sorted' z1) := rfl
    rw [← hy0, ← hy1, hN0, hN1]
    generalize sorted' z0 = q0 at *
    generalize sorted' z1 = q1 at *
    simp
    refine AW.seq (AW.ofLW rfl ?_)
    refine LW.rowBack (u := 2) (e := 3) (sz := 1) (n := q0.length) (zs := q0) (xs := []) compactI enterCompact (fun x v hv => by simp at hv; subst hv; rfl) rfl rfl rfl rfl rfl (fun a => rfl) rfl rfl (by decide) (by decide) (by decide) (by simp [getF, scs_int]) rfl (by omega) ?_
    rintro ys rfl
    rw [scs_int]
    simp [putF, del, SV.refers]
    refine LW.rowBack (u := 3) (e := 3) (sz := 1) (n := q1.length) (zs := q1) (xs := []) compactI enterCompact (fun x v hv => by simp at hv; subst hv; rfl) rfl rfl rfl rfl rfl (fun a => rfl) rfl rfl (by decide) (by decide) (by decide) (by simp [getF, scs_int]) rfl (by omega) ?_
    rintro ys rfl
    rw [scs_int]
    simp [putF, del, SV.refers]
    refine LW.of ?_
    generalize Go.Lib.compact q0 = r0 at *
    generalize Go.Lib.compact q1 = r1 at *
    simp
    refine AW.ofx [] mixed (by kernel_rfl) ?_
    simp [slI]
end Go.Proofs.Ytbcfoakceloenaa
