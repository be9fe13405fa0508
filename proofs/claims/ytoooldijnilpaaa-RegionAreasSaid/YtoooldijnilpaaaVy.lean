/- Regions: the program's runs of a row, cuts, and joined runs. -/
import Derived.Test.YtoooldijnilpaaaVz
import Derived.Test.YtoooldijnilpaaaVs
import Derived.Test.YtoooldijnilpaaaBc
namespace Go.Proofs.Ytoooldijnilpaaa
set_option linter.all false
open Go.RowKit AM Can
set_option maxRecDepth 10000
attribute [local simp] aw_skip' aw_region' aw_seq' aw_cond' aw_block' aw_loop' aw_exit' aw_label' aw_ret' aops_nil' aops_cons' aop' aMove aAssign aPick aAlloc aBox aBuild aBuildSlice aLoad aLoadOwn aStore aStoreOwn isOwn delR aNilCheck aBin aMakeFunc aFieldAddr aField aIndexAddr aExtract aSliceOp aSlice aCallOp aCall' aLen aLenMap aDelete aMM aUn aConv aIface aAssert aMakeMap aLookup aMapUpdate aRange aNext aEntry entsOf keyB lookV aAppend putK layK eval evalV AM.valOf getF putF setF del SV.refers cellsAt rootSV plains shift ldV V.exact V.exactL V.ofValue V.ofPart V.ofCell V.cells V.one Value.oneCell' fitB qSeq qBlock getB afin aret resVs resV resTmps shareF evalS tupV valsS valsV pickV calm calmB lenV useOf feeds looks isT newsV partsV fillV putAt zerosV fitsNil nilB isEq isNeq awx_skip' awx_region' awx_seq' awx_cond' awx_block' awx_loop' awx_exit' awx_label' awx_ret' xops_nil' xops_cons' xop' xload xcall' addO delO inO putD memB Mix.effB Mix.laysB keysF badK subW weakV zeroRow yops_nil' yops_cons' yop' yload yindex yfield ylen oldO dropO takeO oldL exactB
attribute [local simp] awz_skip' awz_region' awz_seq' awz_cond' awz_block' awz_loop' awz_exit' awz_label' awz_ret' zops_nil' zops_cons' zop' zload zcall' z0 new0 remF old0 dltB

def rcs (r : Run Unit) : List V := [.sc (.int .i64 r.a), .sc (.int .i64 r.b)]
def slN (rs : List (Run Unit)) : V := .sl rs.length 2 (rs.flatMap rcs)
def ownN (rs : List (Run Unit)) : SV := .own true 124 rs.length 2 (rs.flatMap rcs)
theorem slN_closed (rs : List (Run Unit)) : V.closed (slN rs) = true := by simp [slN, V.closed, closed_flat (enc := rcs) (fun _ => rfl)]
theorem rowN {rs : List (Run Unit)} {k : Nat} (h : k < rs.length) : AM.rowAt 2 (rs.flatMap rcs) (k : Int) = [.sc (.int .i64 rs[k].a), .sc (.int .i64 rs[k].b)] := row_flat (enc := rcs) (sz := 2) (fun _ => rfl) h
theorem rnFirst (a b : Int) : PFn Try.prog 134 [.agg [.sc (.int .i64 a), .sc (.int .i64 b)]] (.sc (.int .i64 a)) := by
  refine AFn.intro (fn := Try.f134) (by kernel_rfl) rfl (by kernel_rfl) (by simp) (AW.ofx [] mixed (by kernel_rfl) ?_)
  simp only [Try.f134, argsF]
  simp
theorem rnNext (a b : Int) (h : IntKind.i64.wrap (b + 1) = b + 1) : PFn Try.prog 131 [.agg [.sc (.int .i64 a), .sc (.int .i64 b)]] (.sc (.int .i64 (b + 1))) := by
  refine AFn.intro (fn := Try.f131) (by kernel_rfl) rfl (by kernel_rfl) (by simp) (AW.ofx [] mixed (by kernel_rfl) ?_)
  simp only [Try.f131, argsF]
  simp [h]
def WnI (rs : List (Run Unit)) (x : Int) (k : Nat) (F : Fr) (H : List Bk) : Prop := (∀ r ∈ rs.take k, ¬ (r.a ≤ x ∧ x ≤ r.b)) ∧ F = [(1, .v (.sc (.int .i64 x))), (7, .v (slN rs)), (8, .v (.sc (.int .i64 rs.length))), (9, .v (.sc (.int .i64 k)))]
theorem rwithin (rs : List (Run Unit)) (x : Int) (hl : rs.length ≤ 1000000000) : PFn Try.prog 130 [slN rs, .sc (.int .i64 x)] (.sc (.bool (within rs x))) := by
  refine AFn.intro (fn := Try.f130) (by kernel_rfl) rfl (by kernel_rfl) (by simp) (AW.ofx [] mixed (by kernel_rfl) ?_)
  simp only [Try.f130, argsF]
  simp [slN]
  refine AW.count rs.length (WnI rs x) ⟨_, ?_, by simp, rfl⟩ ?_
  · simp [subW, weakV, getF, slN]
  rintro k F H hk ⟨ht, rfl⟩
  refine AW.ofx [] mixed (by kernel_rfl) ?_
  by_cases hlt : k < rs.length
  · have w1 : IntKind.i64.wrap ((k : Int) + 1) = (k : Int) + 1 := by rw [wrap_i64] <;> omega
    have hr := rowN hlt
    by_cases hc : rs[k].a ≤ x ∧ x ≤ rs[k].b
    · have : within rs x = true := within_iff.2 ⟨_, List.getElem_mem hlt, hc⟩
      simp [slN, hlt, hr, setL, hc.1, hc.2, this]
    · have hnx : ∀ r ∈ rs.take (k + 1), ¬ (r.a ≤ x ∧ x ≤ r.b) := by
        rw [List.take_succ_eq_append_getElem hlt]
        intro r hm
        rcases List.mem_append.1 hm with hm | hm
        · exact ht r hm
        · simp at hm; subst hm; exact hc
      by_cases h1 : rs[k].a ≤ x
      · have h2 : ¬ x ≤ rs[k].b := fun h => hc ⟨h1, h⟩
        simp [slN, hlt, hr, setL, h1, h2, w1]
        refine ⟨_, ?_, hnx, rfl⟩
        simp [subW, weakV, getF, slN]
      · simp [slN, hlt, hr, setL, h1, w1]
        refine ⟨_, ?_, hnx, rfl⟩
        simp [subW, weakV, getF, slN]
  · have hk' : k = rs.length := by omega
    subst hk'
    rw [List.take_length] at ht
    have : within rs x = false := by
      rw [Bool.eq_false_iff]
      intro h
      obtain ⟨r, hr, h1⟩ := within_iff.1 h
      exact ht r hr h1
    simp [slN, this]
/-! ## The runs of a row -/
def onRow (y : Int) (r : Re) : Bool := decide (r.y0 ≤ y ∧ y ≤ r.y1)
def runOf (r : Re) : Run Unit := ⟨r.x0, r.x1, ()⟩
def pickR (l : List Re) (y : Int) : List (Run Unit) := (l.filter (onRow y)).map runOf
theorem pickR_succ {l : List Re} {y : Int} {k : Nat} (h : k < l.length) : pickR (l.take (k + 1)) y = pickR (l.take k) y ++ if onRow y l[k] then [runOf l[k]] else [] := by
  unfold pickR
  rw [List.take_succ_eq_append_getElem h, List.filter_append, List.map_append]
  congr 1
  cases hc : onRow y l[k] <;> simp [hc]
theorem pickR_len (l : List Re) (y : Int) : (pickR l y).length ≤ l.length := by
  unfold pickR
  rw [List.length_map]
  exact List.length_filter_le _ _
theorem pickR_mem {l : List Re} {y : Int} {t : Run Unit} (h : t ∈ pickR l y) : ∃ r ∈ l, t = runOf r := by
  unfold pickR at h
  obtain ⟨r, hr, rfl⟩ := List.mem_map.1 h
  exact ⟨r, (List.mem_filter.1 hr).1, rfl⟩
theorem within_perm {a b : List (Run Unit)} (h : a.Perm b) (x : Int) : within a x = within b x := by
  rw [Bool.eq_iff_iff, within_iff, within_iff]
  constructor
  · rintro ⟨r, hr, k⟩; exact ⟨r, h.mem_iff.1 hr, k⟩
  · rintro ⟨r, hr, k⟩; exact ⟨r, h.mem_iff.2 hr, k⟩
theorem within_pick {l : List Re} (hr : ∀ r ∈ l, rightR r = true) (x y : Int) : within (pickR l y) x = hasL l x y := by
  rw [Bool.eq_iff_iff, within_iff]
  unfold pickR hasL
  rw [List.any_eq_true]
  constructor
  · rintro ⟨t, ht, h1, h2⟩
    obtain ⟨r, hm, rfl⟩ := List.mem_map.1 ht
    obtain ⟨q1, q2⟩ := List.mem_filter.1 hm
    unfold onRow at q2
    exact ⟨r, q1, hasR_iff.2 ⟨hr r q1, ⟨h1, h2⟩, by simpa using q2⟩⟩
  · rintro ⟨r, hm, h⟩
    obtain ⟨_, q2, q3⟩ := hasR_iff.1 h
    exact ⟨runOf r, List.mem_map.2 ⟨r, List.mem_filter.2 ⟨hm, by unfold onRow; simpa using q3⟩, rfl⟩, q2⟩
/-- A run that begins within the grid, and back. -/
def toS (r : Run Unit) : RnS := if h : 0 ≤ r.a ∧ r.a ≤ 65535 then ⟨(r.a, r.b), h⟩ else default
def ofS (x : RnS) : Run Unit := ⟨x.1.1, x.1.2, ()⟩
theorem of_toS {r : Run Unit} (h : 0 ≤ r.a ∧ r.a ≤ 65535) : ofS (toS r) = r := by
  unfold toS ofS
  rw [dif_pos h]
theorem scs_rn (zs : List RnS) : scs encRn zs = (zs.map ofS).flatMap rcs := by
  unfold scs
  rw [List.flatMap_map]
  rfl
theorem of_toSs {rs : List (Run Unit)} (h : ∀ r ∈ rs, 0 ≤ r.a ∧ r.a ≤ 65535) : (rs.map toS).map ofS = rs := by
  induction rs with
  | nil => rfl
  | cons r rs ih =>
    simp only [List.map_cons]
    rw [of_toS (h r (by simp)), ih fun q hq => h q (by simp [hq])]
def RoA (l : List Re) (y : Int) (k : Nat) (F : Fr) (H : List Bk) : Prop := F = [(1, .v (.sc (.int .i64 y))), (5, ownN (pickR (l.take k) y)), (12, .v (slR l)), (13, .v (.sc (.int .i64 l.length))), (14, .v (.sc (.int .i64 k)))]
def RoB (ys : List (Run Unit)) (k : Nat) (F : Fr) (H : List Bk) : Prop := F = [(8, ownN ((ys.take k).foldl mergeS [])), (39, .v (slN ys)), (40, .v (.sc (.int .i64 ys.length))), (41, .v (.sc (.int .i64 k)))]
theorem foldl_take_succ {α β : Type} {f : β → α → β} {b : β} {xs : List α} {k : Nat} (h : k < xs.length) : (xs.take (k + 1)).foldl f b = f ((xs.take k).foldl f b) xs[k] := by
  rw [List.take_succ_eq_append_getElem h, List.foldl_append]
  rfl
theorem merged_len (ys : List (Run Unit)) : (ys.foldl mergeS []).length ≤ ys.length := by
  have go : ∀ (ys out : List (Run Unit)), (ys.foldl mergeS out).length ≤ out.length + ys.length := by
    intro ys
    induction ys with
    | nil => intro out; simp
    | cons y ys ih =>
      intro out
      have h1 := ih (mergeS out y)
      have h2 := mergeS_len out y
      rw [List.foldl_cons]
      simp only [List.length_cons]
      omega
  simpa using go ys []
theorem merged_b {M : Int} : ∀ (ys out : List (Run Unit)), (∀ r ∈ ys, 0 ≤ r.b ∧ r.b ≤ M) → (∀ r ∈ out, 0 ≤ r.b ∧ r.b ≤ M) → ∀ r ∈ ys.foldl mergeS out, 0 ≤ r.b ∧ r.b ≤ M
  | [], out, _, h => h
  | y :: ys, out, h1, h2 => by
    rw [List.foldl_cons]
    refine merged_b ys (mergeS out y) (fun r hr => h1 r (by simp [hr])) ?_
    have hy := h1 y (by simp)
    rcases List.eq_nil_or_concat out with rfl | ⟨R, t, rfl⟩
    · simpa [mergeS] using hy
    · simp only [List.concat_eq_append] at h2 ⊢
      have ht := h2 t (by simp)
      intro r hr
      unfold mergeS at hr
      simp only [List.getLast?_append, List.getLast?_singleton, Option.some_or] at hr
      split at hr
      · rw [show (R ++ [t]).length - 1 = R.length by simp, modN_last] at hr
        rcases List.mem_append.1 hr with hr | hr
        · exact h2 r (by simp [hr])
        · simp at hr
          subst hr
          simp only [setB]
          omega
      · rcases List.mem_append.1 hr with hr | hr
        · exact h2 r hr
        · simp at hr
          subst hr
          exact hy
theorem setB_cs (v : Int) (r : Run Unit) : (rcs r).set 1 (.sc (.int .i64 v)) = rcs (setB v r) := rfl
set_option maxHeartbeats 4000000 in
theorem rowRuns (l : List Re) (y : Int) (hl : l.length ≤ 1000) (hr : ∀ r ∈ l, rightR r = true) : AFn Try.prog 98 [slR l, .sc (.int .i64 y)] [] fun v H' => ∃ out, v = slN out ∧ Can.Can (unitF fun x => hasL l x y) out ∧ out.length ≤ l.length := by
  refine AFn.intro (fn := Try.f98) (by kernel_rfl) rfl (by kernel_rfl) (by simp) ?_
  simp only [Try.f98, argsF]
  refine AW.seq (AW.ofx [(14, 10, [11, 10, 8])] mixed (by kernel_rfl) ?_)
  simp
  refine AW.seq (AW.ofx [(14, 10, [11, 10, 8])] mixed (by kernel_rfl) ?_)
  simp
  refine AW.seq (AW.ofx [(14, 10, [11, 10, 8])] mixed (by kernel_rfl) ?_)
  simp [slR]
  refine AW.count l.length (RoA l y) ⟨_, ?_, rfl⟩ ?_
  · simp [subW, weakV, getF, slR, ownN, pickR, zeroRow]
  rintro k F H hk rfl
  refine AW.ofx [(14, 10, [11, 10, 8])] mixed (by kernel_rfl) ?_
  have hpl := pickR_len (l.take k) y
  rw [List.length_take] at hpl
  by_cases hlt : k < l.length
  · have w1 : IntKind.i64.wrap ((k : Int) + 1) = (k : Int) + 1 := by rw [wrap_i64] <;> omega
    have hrow := rowR hlt
    have hs := pickR_succ (y := y) hlt
    by_cases h1 : l[k].y0 ≤ y
    · by_cases h2 : y ≤ l[k].y1
      · have hon : onRow y l[k] = true := by simp [onRow, h1, h2]
        rw [if_pos hon] at hs
        generalize pickR (l.take k) y = o at *
        simp [slR, hlt, hrow, setL, h1, h2, ownN, w1]
        refine ⟨by omega, _, ?_, rfl⟩
        rw [hs]
        simp [subW, weakV, getF, slR, ownN, runOf, rcs]
      · have hon : onRow y l[k] = false := by simp [onRow, h1, h2]
        rw [hon] at hs
        simp at hs
        generalize pickR (l.take k) y = o at *
        simp [slR, hlt, hrow, setL, h1, h2, ownN, w1]
        refine ⟨_, ?_, rfl⟩
        rw [hs]
        simp [subW, weakV, getF, slR, ownN]
    · have hon : onRow y l[k] = false := by simp [onRow, h1]
      rw [hon] at hs
      simp at hs
      generalize pickR (l.take k) y = o at *
      simp [slR, hlt, hrow, setL, h1, ownN, w1]
      refine ⟨_, ?_, rfl⟩
      rw [hs]
      simp [subW, weakV, getF, slR, ownN]
  have hk' : k = l.length := by omega
  subst hk'
  rw [List.take_length] at hpl ⊢
  have hb : ∀ t ∈ pickR l y, 0 ≤ t.a ∧ t.a ≤ 65535 ∧ t.a ≤ t.b ∧ t.b ≤ 65535 := fun t ht => by
    obtain ⟨r, hm, rfl⟩ := pickR_mem ht
    have := rightR_iff.1 (hr r hm)
    unfold runOf
    simp only
    omega
  have hz := of_toSs (rs := pickR l y) fun t ht => by have := hb t ht; omega
  have hw := fun x => within_pick hr x y
  simp [slR, ownN]
  generalize pickR l y = all at *
  refine AW.seq (AW.rowCall (u := 5) (e := 124) (sz := 2) (n := all.length) (zs := all.map toS) (xs := [.func 133]) sortRn ⟨_, Try.func132, rfl, by kernel_rfl⟩ (fun x v hv => by simp [encRn] at hv; rcases hv with rfl | rfl <;> rfl) rfl rfl rfl rfl rfl rfl (fun a => rfl) rfl rfl (by decide) (by decide) (by decide) (by decide) (by simp [getF, scs_rn, hz]) rfl (by simp) (by simp; omega) ?_)
  rintro zs ⟨hp, hso⟩ hzl
  rw [List.length_map] at hzl
  have hp2 : (zs.map ofS).Perm all := by
    have := hp.map ofS
    rwa [hz] at this
  have hso2 : (zs.map ofS).Pairwise fun p q => p.a ≤ q.a := by
    rw [List.pairwise_map]
    exact hso
  rw [scs_rn]
  have hbz : ∀ t ∈ zs.map ofS, 0 ≤ t.a ∧ t.a ≤ 65535 ∧ t.a ≤ t.b ∧ t.b ≤ 65535 := fun t ht => hb t (hp2.mem_iff.1 ht)
  have hlz : (zs.map ofS).length = all.length := hp2.length_eq
  have hcan := merged_can (rs := zs.map ofS) (fun t ht => (hbz t ht).2.2.1) hso2
  have hfin : Can.Can (unitF fun x => hasL l x y) ((zs.map ofS).foldl mergeS []) := by
    have e : unitF (within (zs.map ofS)) = unitF fun x => hasL l x y := by
      congr 1
      funext x
      rw [within_perm hp2, hw]
    rwa [e] at hcan
  have hml := merged_len (zs.map ofS)
  simp only [List.map_cons, List.map_nil] at *
  rw [← hlz]
  generalize zs.map ofS = ys at *
  simp
  refine AW.asSl 5 rfl ?_
  simp only [setF, Nat.reduceBEq, cond_true, cond_false]
  refine AW.seq (AW.ofx [(14, 10, [11, 10, 8])] mixed (by kernel_rfl) ?_)
  simp
  refine AW.seq (AW.ofx [(14, 10, [11, 10, 8])] mixed (by kernel_rfl) ?_)
  simp
  refine AW.count ys.length (RoB ys) ⟨_, ?_, rfl⟩ ?_
  · simp [subW, weakV, getF, slN, ownN, zeroRow]
  rintro k F H2 hk rfl
  have hmk := merged_len (ys.take k)
  have hmb := merged_b (M := 65535) (ys.take k) [] (fun r hr => by have := hbz r (List.mem_of_mem_take hr); omega) (by simp)
  rw [List.length_take] at hmk
  by_cases hlt : k < ys.length
  · have w1 : IntKind.i64.wrap ((k : Int) + 1) = (k : Int) + 1 := by rw [wrap_i64] <;> omega
    have hrow := rowN hlt
    have hst := foldl_take_succ (f := mergeS) (b := []) hlt
    have hbk := hbz _ (List.getElem_mem hlt)
    generalize (ys.take k).foldl mergeS [] = o at *
    rcases List.eq_nil_or_concat o with rfl | ⟨o', t, rfl⟩
    · refine AW.ofz [(14, 10, [11, 10, 8])] mixed (by kernel_rfl) ?_
      have wn : IntKind.i64.wrap (-1) = -1 := by rw [wrap_i64] <;> omega
      simp [slN, hlt, hrow, setL, ownN, w1, wn]
      refine ⟨_, ?_, rfl⟩
      rw [hst]
      simp [subW, weakV, getF, slN, ownN, mergeS, rcs]
    · simp only [List.concat_eq_append] at *
      have wl : IntKind.i64.wrap (o'.length : Int) = (o'.length : Int) := by
        rw [List.length_append, List.length_singleton] at hmk
        rw [wrap_i64] <;> omega
      have hfl := flat_len' (enc := rcs) (sz := 2) (fun _ => rfl) o'
      have hre : List.drop (o'.length * 2) (o'.flatMap rcs ++ rcs t) = [.sc (.int .i64 t.a), .sc (.int .i64 t.b)] := by
        rw [← hfl, List.drop_left]
        rfl
      have hl1 : (o'.length : Int) < (o'.length : Int) + 1 := by omega
      have htb := hmb t (by simp)
      have hnx := rnNext t.a t.b (by rw [wrap_i64] <;> omega)
      refine AW.ofz [(14, 10, [11, 10, 8])] mixed (by kernel_rfl) ?_
      simp [slN, hlt, hrow, setL, ownN, w1, wl, hre, hl1]
      refine xcallK.of hnx rfl rfl ?_
      by_cases hc : ys[k].a ≤ t.b + 1
      · have em : mergeS (o' ++ [t]) ys[k] = o' ++ [setB (max t.b ys[k].b) t] := by
          unfold mergeS
          simp only [List.getLast?_append, List.getLast?_singleton, Option.some_or]
          rw [if_pos hc, show (o' ++ [t]).length - 1 = o'.length by simp, modN_last]
        rw [em] at hst
        have hg : (o'.flatMap rcs ++ rcs t)[o'.length * 2 + 1]? = some (.sc (.int .i64 t.b)) := by
          rw [List.getElem?_append_right (by rw [hfl]; omega), hfl, show o'.length * 2 + 1 - o'.length * 2 = 1 by omega]
          rfl
        have hmx : (if t.b < ys[k].b then ys[k].b else t.b) = max t.b ys[k].b := by split <;> omega
        have hmt : max t.b ys[k].b = max t.b ys[k].b := rfl
        have hset : List.take (o'.length * 2 + 1) (o'.flatMap rcs ++ rcs t) ++ (V.sc (.int .i64 (max t.b ys[k].b)) :: List.drop (o'.length * 2 + 1 + 1) (o'.flatMap rcs ++ rcs t)) = o'.flatMap rcs ++ rcs (setB (max t.b ys[k].b) t) := by
          have h1 := List.set_eq_take_append_cons_drop (l := o'.flatMap rcs ++ rcs t) (i := o'.length * 2 + 1) (a := V.sc (.int .i64 (max t.b ys[k].b)))
          rw [if_pos (by rw [List.length_append, hfl]; show _ < _ + 2; omega)] at h1
          rw [← h1, List.set_append_right _ _ (by rw [hfl]; omega), hfl, show o'.length * 2 + 1 - o'.length * 2 = 1 by omega, setB_cs]
        simp [wl, hl1, hc, hg, hmx, w1, hset]
        refine ⟨?_, _, ?_, rfl⟩
        · have := hfl
          simp at this
          show _ ≤ _ + 2
          omega
        · rw [hst]
          simp [subW, weakV, getF, slN, ownN]
      · have em : mergeS (o' ++ [t]) ys[k] = o' ++ [t] ++ [ys[k]] := by
          unfold mergeS
          simp only [List.getLast?_append, List.getLast?_singleton, Option.some_or]
          rw [if_neg hc]
        rw [em] at hst
        simp [wl, hl1, hc, w1]
        rw [List.length_append, List.length_singleton] at hmk
        refine ⟨by omega, _, ?_, rfl⟩
        rw [hst]
        simp [subW, weakV, getF, slN, ownN, rcs]
  · have hk' : k = ys.length := by omega
    subst hk'
    rw [List.take_length] at *
    have hlt' : ¬ (ys.length : Int) < ys.length := by omega
    refine AW.ofz [(14, 10, [11, 10, 8])] mixed (by kernel_rfl) ?_
    simp [slN, hlt', ownN]
    refine AW.ofz [(14, 10, [11, 10, 8])] mixed (by kernel_rfl) ?_
    simp
    exact ⟨_, ⟨rfl, rfl⟩, hfin, by omega⟩
end Go.Proofs.Ytoooldijnilpaaa
namespace Go.Proofs.Ytoooldijnilpaaa
set_option linter.all false
open Go.RowKit AM Can
set_option maxRecDepth 10000
attribute [local simp] aw_skip' aw_region' aw_seq' aw_cond' aw_block' aw_loop' aw_exit' aw_label' aw_ret' aops_nil' aops_cons' aop' aMove aAssign aPick aAlloc aBox aBuild aBuildSlice aLoad aLoadOwn aStore aStoreOwn isOwn delR aNilCheck aBin aMakeFunc aFieldAddr aField aIndexAddr aExtract aSliceOp aSlice aCallOp aCall' aLen aLenMap aDelete aMM aUn aConv aIface aAssert aMakeMap aLookup aMapUpdate aRange aNext aEntry entsOf keyB lookV aAppend putK layK eval evalV AM.valOf getF putF setF del SV.refers cellsAt rootSV plains shift ldV V.exact V.exactL V.ofValue V.ofPart V.ofCell V.cells V.one Value.oneCell' fitB qSeq qBlock getB afin aret resVs resV resTmps shareF evalS tupV valsS valsV pickV calm calmB lenV useOf feeds looks isT newsV partsV fillV putAt zerosV fitsNil nilB isEq isNeq awx_skip' awx_region' awx_seq' awx_cond' awx_block' awx_loop' awx_exit' awx_label' awx_ret' xops_nil' xops_cons' xop' xload xcall' addO delO inO putD memB Mix.effB Mix.laysB keysF badK subW weakV zeroRow yops_nil' yops_cons' yop' yload yindex yfield ylen oldO dropO takeO oldL exactB
attribute [local simp] awz_skip' awz_region' awz_seq' awz_cond' awz_block' awz_loop' awz_exit' awz_label' awz_ret' zops_nil' zops_cons' zop' zload zcall' z0 new0 remF old0 dltB

def endsN (rs : List (Run Unit)) : List Int := rs.flatMap fun r => [r.a, r.b + 1]
def endsY (l : List Re) : List Int := l.flatMap fun r => [r.y0, r.y1 + 1]
theorem flat_take_succ {α β : Type} {f : α → List β} {xs : List α} {k : Nat} (h : k < xs.length) : (xs.take (k + 1)).flatMap f = (xs.take k).flatMap f ++ f xs[k] := by
  rw [List.take_succ_eq_append_getElem h, List.flatMap_append]
  simp
theorem ends_len2 {α : Type} {f g : α → Int} : ∀ xs : List α, (xs.flatMap fun r => [f r, g r]).length = 2 * xs.length
  | [] => rfl
  | x :: xs => by
    rw [List.flatMap_cons, List.length_append, ends_len2 xs]
    simp
    omega
theorem scs_int (zs : List Int) : scs (fun z : Int => [Value.int .i64 z]) zs = ints zs := by
  unfold scs ints
  induction zs with
  | nil => rfl
  | cons z zs ih =>
    rw [List.flatMap_cons, ih]
    rfl
/-- Two rows of runs, handed over as one row. -/
def duo (v u : V) : V := .sl 2 1 [v, u]
theorem rowTwo (v u : V) (k : Nat) (hk : k < 2) : AM.rowAt 1 [v, u] (k : Int) = [if k = 0 then v else u] := by
  unfold AM.rowAt
  match k, hk with
  | 0, _ => rfl
  | 1, _ => rfl
def pick2 {α : Type} (a b : α) (k : Nat) : α := if k = 0 then a else b
def CuA (a b : List (Run Unit)) (k : Nat) (F : Fr) (H : List Bk) : Prop := F = [(3, ownI (endsN ([a, b].take k).flatten)), (8, .v (duo (slN a) (slN b))), (9, .v (.sc (.int .i64 2))), (10, .v (.sc (.int .i64 k)))]
def CuB (a b c : List (Run Unit)) (k : Nat) (j : Nat) (F : Fr) (H : List Bk) : Prop := F = [(3, ownI (endsN ([a, b].take k).flatten ++ endsN (c.take j))), (8, .v (duo (slN a) (slN b))), (9, .v (.sc (.int .i64 2))), (10, .v (.sc (.int .i64 k))), (14, .v (slN c)), (15, .v (.sc (.int .i64 c.length))), (16, .v (.sc (.int .i64 j)))]
set_option maxHeartbeats 4000000 in
theorem rcuts (a b : List (Run Unit)) (ha : a.length ≤ 100000) (hb : b.length ≤ 100000) (hba : ∀ r ∈ a ++ b, 0 ≤ r.b ∧ r.b ≤ 65535) : PFn Try.prog 129 [duo (slN a) (slN b)] (slI (numsC (endsN (a ++ b)))) := by
  have hlen : ∀ c : List (Run Unit), (endsN c).length = 2 * c.length := fun c => ends_len2 c
  refine AFn.intro (fn := Try.f129) (by kernel_rfl) rfl (by kernel_rfl) (by simp) ?_
  simp only [Try.f129, argsF]
  refine AW.seq (AW.ofz [(8, 6, [3, 7])] mixed (by kernel_rfl) ?_)
  simp
  refine AW.seq (AW.ofz [(8, 6, [3, 7])] mixed (by kernel_rfl) ?_)
  simp
  refine AW.seq (AW.ofz [(8, 6, [3, 7])] mixed (by kernel_rfl) ?_)
  simp [duo]
  refine AW.count 2 (CuA a b) ⟨_, ?_, rfl⟩ ?_
  · simp [subW, weakV, getF, ownI, zeroRow, endsN, duo, ints]
  rintro k F H hk rfl
  refine AW.ofz [(8, 6, [3, 7])] mixed (by kernel_rfl) ?_
  by_cases hlt : k < 2
  · have w1 : IntKind.i64.wrap ((k : Int) + 1) = (k : Int) + 1 := by rw [wrap_i64] <;> omega
    have hlt' : (k : Int) < 2 := by omega
    have hc2 : (if k = 0 then slN a else slN b) = slN (pick2 a b k) := by unfold pick2; split <;> rfl
    have hrow := rowTwo (slN a) (slN b) k hlt
    rw [hc2] at hrow
    have hcm : ∀ r ∈ pick2 a b k, r ∈ a ++ b := fun r hr => by unfold pick2 at hr; split at hr <;> simp [hr]
    have hcl : (pick2 a b k).length ≤ 100000 := by unfold pick2; split <;> assumption
    have hnx2 : endsN ([a, b].take (k + 1)).flatten = endsN ([a, b].take k).flatten ++ endsN (pick2 a b k) := by
      match k, hlt with
      | 0, _ => simp [endsN, pick2]
      | 1, _ => simp [endsN, pick2]
    have hpre : (endsN ([a, b].take k).flatten).length ≤ 200000 := by
      match k, hlt with
      | 0, _ => simp [endsN]
      | 1, _ => have := hlen a; simp; omega
    generalize pick2 a b k = c at *
    unfold slN at hrow
    simp [duo, hlt', hrow, slN, ownI]
    refine AW.count c.length (CuB a b c k) ⟨_, ?_, rfl⟩ ?_
    · simp [subW, weakV, getF, ownI, endsN, duo, slN]
    rintro j F H2 hj rfl
    refine AW.ofz [(8, 6, [3, 7])] mixed (by kernel_rfl) ?_
    have hlj := hlen (c.take j)
    rw [List.length_take] at hlj
    by_cases hjl : j < c.length
    · have w2 : IntKind.i64.wrap ((j : Int) + 1) = (j : Int) + 1 := by rw [wrap_i64] <;> omega
      have hrj := rowN hjl
      have hbj := hba _ (hcm _ (List.getElem_mem hjl))
      have hn := rnNext c[j].a c[j].b (by rw [wrap_i64] <;> omega)
      have hf := rnFirst c[j].a c[j].b
      have hst : endsN (c.take (j + 1)) = endsN (c.take j) ++ [c[j].a, c[j].b + 1] := flat_take_succ hjl
      simp [duo, hjl, hrj, slN, ownI, setL, w2]
      refine xcallK.of hf rfl rfl ?_
      simp
      refine xcallK.of hn rfl rfl ?_
      simp [w2]
      refine ⟨by omega, _, ?_, rfl⟩
      rw [hst]
      simp [subW, weakV, getF, ownI, duo, slN, ints]
      omega
    · have hjj : j = c.length := by omega
      subst hjj
      rw [List.take_length, ← hnx2]
      simp [duo, slN, ownI, w1]
      refine ⟨by omega, _, ?_, rfl⟩
      simp [subW, weakV, getF, ownI, duo, slN]
  · have hk2 : k = 2 := by omega
    subst hk2
    have e0 : endsN ([a, b].take 2).flatten = endsN (a ++ b) := by simp
    rw [e0]
    have hz := hlen (a ++ b)
    rw [List.length_append] at hz
    simp [duo, ownI]
    generalize endsN (a ++ b) = zs at *
    refine AW.seq (AW.rowCall (u := 3) (e := 3) (sz := 1) (n := zs.length) (zs := zs) (xs := []) sortI ⟨_, Try.func127, rfl, by kernel_rfl⟩ (fun x v hv => by simp at hv; subst hv; rfl) rfl rfl rfl rfl rfl rfl (fun a => rfl) rfl rfl (by decide) (by decide) (by decide) (by decide) (by simp [getF, scs_int]) rfl rfl (by omega) ?_)
    rintro ys rfl hyl
    rw [scs_int]
    have hN : numsC zs = Go.Lib.compact (sorted' zs) := rfl
    rw [← hyl]
    rw [hN]
    generalize sorted' zs = qs at *
    simp
    refine AW.seq (AW.rowBack (u := 3) (e := 3) (sz := 1) (n := qs.length) (zs := qs) (xs := []) compactI ⟨_, Try.func128, rfl, by kernel_rfl⟩ (fun x v hv => by simp at hv; subst hv; rfl) rfl rfl rfl rfl rfl rfl (fun a => rfl) rfl rfl (by decide) (by decide) (by decide) (by simp [getF, scs_int]) rfl (by omega) ?_)
    rintro ys rfl
    rw [scs_int]
    generalize Go.Lib.compact qs = rs at *
    simp
    refine AW.ofz [(8, 6, [3, 7])] mixed (by kernel_rfl) ?_
    simp [slI]
def RwA (a b : List Re) (k : Nat) (F : Fr) (H : List Bk) : Prop := F = [(3, ownI (endsY ([a, b].take k).flatten)), (8, .v (duo (slR a) (slR b))), (9, .v (.sc (.int .i64 2))), (10, .v (.sc (.int .i64 k)))]
def RwB (a b c : List Re) (k : Nat) (j : Nat) (F : Fr) (H : List Bk) : Prop := F = [(3, ownI (endsY ([a, b].take k).flatten ++ endsY (c.take j))), (8, .v (duo (slR a) (slR b))), (9, .v (.sc (.int .i64 2))), (10, .v (.sc (.int .i64 k))), (14, .v (slR c)), (15, .v (.sc (.int .i64 c.length))), (16, .v (.sc (.int .i64 j)))]
set_option maxHeartbeats 4000000 in
theorem rrows (a b : List Re) (ha : a.length ≤ 100000) (hb : b.length ≤ 100000) (hba : ∀ r ∈ a ++ b, rightR r = true) : PFn Try.prog 96 [duo (slR a) (slR b)] (slI (numsC (endsY (a ++ b)))) := by
  have hlen : ∀ c : List Re, (endsY c).length = 2 * c.length := fun c => ends_len2 c
  refine AFn.intro (fn := Try.f96) (by kernel_rfl) rfl (by kernel_rfl) (by simp) ?_
  simp only [Try.f96, argsF]
  refine AW.seq (AW.ofz [] mixed (by kernel_rfl) ?_)
  simp
  refine AW.seq (AW.ofz [] mixed (by kernel_rfl) ?_)
  simp
  refine AW.seq (AW.ofz [] mixed (by kernel_rfl) ?_)
  simp [duo]
  refine AW.count 2 (RwA a b) ⟨_, ?_, rfl⟩ ?_
  · simp [subW, weakV, getF, ownI, zeroRow, endsY, duo, ints]
  rintro k F H hk rfl
  refine AW.ofz [] mixed (by kernel_rfl) ?_
  by_cases hlt : k < 2
  · have w1 : IntKind.i64.wrap ((k : Int) + 1) = (k : Int) + 1 := by rw [wrap_i64] <;> omega
    have hlt' : (k : Int) < 2 := by omega
    have hc2 : (if k = 0 then slR a else slR b) = slR (pick2 a b k) := by unfold pick2; split <;> rfl
    have hrow := rowTwo (slR a) (slR b) k hlt
    rw [hc2] at hrow
    have hcm : ∀ r ∈ pick2 a b k, r ∈ a ++ b := fun r hr => by unfold pick2 at hr; split at hr <;> simp [hr]
    have hcl : (pick2 a b k).length ≤ 100000 := by unfold pick2; split <;> assumption
    have hnx2 : endsY ([a, b].take (k + 1)).flatten = endsY ([a, b].take k).flatten ++ endsY (pick2 a b k) := by
      match k, hlt with
      | 0, _ => simp [endsY, pick2]
      | 1, _ => simp [endsY, pick2]
    have hpre : (endsY ([a, b].take k).flatten).length ≤ 200000 := by
      match k, hlt with
      | 0, _ => simp [endsY]
      | 1, _ => have := hlen a; simp; omega
    generalize pick2 a b k = c at *
    unfold slR at hrow
    simp [duo, hlt', hrow, slR, ownI]
    refine AW.count c.length (RwB a b c k) ⟨_, ?_, rfl⟩ ?_
    · simp [subW, weakV, getF, ownI, endsY, duo, slR]
    rintro j F H2 hj rfl
    refine AW.ofz [] mixed (by kernel_rfl) ?_
    have hlj := hlen (c.take j)
    rw [List.length_take] at hlj
    by_cases hjl : j < c.length
    · have w2 : IntKind.i64.wrap ((j : Int) + 1) = (j : Int) + 1 := by rw [wrap_i64] <;> omega
      have hrj := rowR hjl
      have hbj := hba _ (hcm _ (List.getElem_mem hjl))
      have hbj := rightR_iff.1 hbj
      have wn : IntKind.i64.wrap (c[j].y1 + 1) = c[j].y1 + 1 := by rw [wrap_i64] <;> omega
      have hst : endsY (c.take (j + 1)) = endsY (c.take j) ++ [c[j].y0, c[j].y1 + 1] := flat_take_succ hjl
      simp [duo, hjl, hrj, slR, ownI, setL, w2, wn]
      refine ⟨by omega, _, ?_, rfl⟩
      rw [hst]
      simp [subW, weakV, getF, ownI, duo, slR, ints]
      omega
    · have hjj : j = c.length := by omega
      subst hjj
      rw [List.take_length, ← hnx2]
      simp [duo, slR, ownI, w1]
      refine ⟨by omega, _, ?_, rfl⟩
      simp [subW, weakV, getF, ownI, duo, slR]
  · have hk2 : k = 2 := by omega
    subst hk2
    have e0 : endsY ([a, b].take 2).flatten = endsY (a ++ b) := by simp
    rw [e0]
    have hz := hlen (a ++ b)
    rw [List.length_append] at hz
    simp [duo, ownI]
    generalize endsY (a ++ b) = zs at *
    refine AW.seq (AW.rowCall (u := 3) (e := 3) (sz := 1) (n := zs.length) (zs := zs) (xs := []) sortI ⟨_, Try.func127, rfl, by kernel_rfl⟩ (fun x v hv => by simp at hv; subst hv; rfl) rfl rfl rfl rfl rfl rfl (fun a => rfl) rfl rfl (by decide) (by decide) (by decide) (by decide) (by simp [getF, scs_int]) rfl rfl (by omega) ?_)
    rintro ys rfl hyl
    rw [scs_int]
    have hN : numsC zs = Go.Lib.compact (sorted' zs) := rfl
    rw [← hyl]
    rw [hN]
    generalize sorted' zs = qs at *
    simp
    refine AW.seq (AW.rowBack (u := 3) (e := 3) (sz := 1) (n := qs.length) (zs := qs) (xs := []) compactI ⟨_, Try.func128, rfl, by kernel_rfl⟩ (fun x v hv => by simp at hv; subst hv; rfl) rfl rfl rfl rfl rfl rfl (fun a => rfl) rfl rfl (by decide) (by decide) (by decide) (by simp [getF, scs_int]) rfl (by omega) ?_)
    rintro ys rfl
    rw [scs_int]
    generalize Go.Lib.compact qs = rs at *
    simp
    refine AW.ofz [] mixed (by kernel_rfl) ?_
    simp [slI]
end Go.Proofs.Ytoooldijnilpaaa
namespace Go.Proofs.Ytoooldijnilpaaa
set_option linter.all false
open Go.RowKit AM Can
set_option maxRecDepth 10000
attribute [local simp] aw_skip' aw_region' aw_seq' aw_cond' aw_block' aw_loop' aw_exit' aw_label' aw_ret' aops_nil' aops_cons' aop' aMove aAssign aPick aAlloc aBox aBuild aBuildSlice aLoad aLoadOwn aStore aStoreOwn isOwn delR aNilCheck aBin aMakeFunc aFieldAddr aField aIndexAddr aExtract aSliceOp aSlice aCallOp aCall' aLen aLenMap aDelete aMM aUn aConv aIface aAssert aMakeMap aLookup aMapUpdate aRange aNext aEntry entsOf keyB lookV aAppend putK layK eval evalV AM.valOf getF putF setF del SV.refers cellsAt rootSV plains shift ldV V.exact V.exactL V.ofValue V.ofPart V.ofCell V.cells V.one Value.oneCell' fitB qSeq qBlock getB afin aret resVs resV resTmps shareF evalS tupV valsS valsV pickV calm calmB lenV useOf feeds looks isT newsV partsV fillV putAt zerosV fitsNil nilB isEq isNeq awx_skip' awx_region' awx_seq' awx_cond' awx_block' awx_loop' awx_exit' awx_label' awx_ret' xops_nil' xops_cons' xop' xload xcall' addO delO inO putD memB Mix.effB Mix.laysB keysF badK subW weakV zeroRow yops_nil' yops_cons' yop' yload yindex yfield ylen oldO dropO takeO oldL exactB
attribute [local simp] awz_skip' awz_region' awz_seq' awz_cond' awz_block' awz_loop' awz_exit' awz_label' awz_ret' zops_nil' zops_cons' zop' zload zcall' z0 new0 remF old0 dltB

/-- A function value that tells which points count. -/
structure Cnt (k : FuncId) (cf : Bool → Bool → Bool) : Prop where
  call : ∀ p q : Bool, PFn Try.prog k [.sc (.bool p), .sc (.bool q)] (.sc (.bool (cf p q)))
  no : cf false false = false
theorem cntEither : Cnt 71 (fun p q => p || q) := by
  refine ⟨fun p q => ?_, rfl⟩
  refine AFn.intro (fn := Try.f71) (by kernel_rfl) rfl (by kernel_rfl) (by simp) (AW.ofz [] mixed (by kernel_rfl) ?_)
  simp only [Try.f71, argsF]
  cases p <;> cases q <;> simp
theorem cntLess : Cnt 82 (fun p q => p && !q) := by
  refine ⟨fun p q => ?_, rfl⟩
  refine AFn.intro (fn := Try.f82) (by kernel_rfl) rfl (by kernel_rfl) (by simp) (AW.ofz [] mixed (by kernel_rfl) ?_)
  simp only [Try.f82, argsF]
  cases p <;> cases q <;> simp
theorem cntCommon : Cnt 76 (fun p q => p && q) := by
  refine ⟨fun p q => ?_, rfl⟩
  refine AFn.intro (fn := Try.f76) (by kernel_rfl) rfl (by kernel_rfl) (by simp) (AW.ofz [] mixed (by kernel_rfl) ?_)
  simp only [Try.f76, argsF]
  cases p <;> cases q <;> simp
theorem runsK_b {L : Type} [DecidableEq L] {f : Int → Option L} {xs : List Int} : ∀ k, ∀ r ∈ runsK f xs k, ∃ m ∈ xs, r.b = m - 1
  | 0, r, hr => by simp [runsK] at hr
  | k + 1, r, hr => by
    have h1 := runsK_b (f := f) (xs := xs) k
    rw [runsK] at hr
    split at hr
    · rename_i n m _ hm
      have hmm : m ∈ xs := List.mem_of_getElem? hm
      unfold Can.step at hr
      split at hr
      · rename_i z hz
        rcases List.eq_nil_or_concat (runsK f xs k) with e | ⟨R', r', e⟩
        · rw [e] at hr
          simp [push] at hr
          subst hr
          exact ⟨_, hmm, rfl⟩
        · simp only [List.concat_eq_append] at e
          rw [e] at hr h1
          unfold push at hr
          simp only [List.getLast?_append, List.getLast?_singleton, Option.some_or, List.dropLast_concat] at hr
          split at hr
          · rcases List.mem_append.1 hr with hr | hr
            · exact h1 r (by simp [hr])
            · simp at hr
              subst hr
              exact ⟨_, hmm, rfl⟩
          · rcases List.mem_append.1 hr with hr | hr
            · exact h1 r hr
            · simp at hr
              subst hr
              exact ⟨_, hmm, rfl⟩
      · exact h1 r hr
    · exact h1 r hr
def jF (cf : Bool → Bool → Bool) (a b : List (Run Unit)) (x : Int) : Bool := cf (within a x) (within b x)
def JoI (a b : List (Run Unit)) (f : FuncId) (cf : Bool → Bool → Bool) (xs : List Int) (k : Nat) (F : Fr) (H : List Bk) : Prop :=
  F = [(0, .v (slN a)), (1, .v (slN b)), (2, .v (.fn (.func f) [] [])), (7, ownN (runsK (unitF (jF cf a b)) xs k)), (8, .v (slI xs)), (9, .v (.sc (.int .i64 k)))]
set_option maxHeartbeats 4000000 in
theorem rjoined (a b : List (Run Unit)) {f : FuncId} {cf : Bool → Bool → Bool} (hf : Cnt f cf) (ha : a.length ≤ 100000) (hb : b.length ≤ 100000) (hba : ∀ r ∈ a ++ b, 0 ≤ r.a ∧ 0 ≤ r.b ∧ r.b ≤ 65535 ∧ r.a ≤ 65535) :
    PFn Try.prog 97 [slN a, slN b, .fn (.func f) [] []] (slN (runsK (unitF (jF cf a b)) (numsC (endsN (a ++ b))) ((numsC (endsN (a ++ b))).length - 1))) := by
  have hC := rcuts a b ha hb fun r hr => ⟨(hba r hr).2.1, (hba r hr).2.2.1⟩
  have c1 := slN_closed a
  have c2 := slN_closed b
  have c3 := slI_closed (numsC (endsN (a ++ b)))
  have hwa := fun x => rwithin a x (by omega)
  have hwb := fun x => rwithin b x (by omega)
  have hin : ∀ x ∈ numsC (endsN (a ++ b)), 0 ≤ x ∧ x ≤ 65536 := fun x hx => by
    rw [(numsC_spec _).2] at hx
    unfold endsN at hx
    obtain ⟨r, hr, hx⟩ := List.mem_flatMap.1 hx
    have := hba r hr
    simp at hx
    omega
  have hlen := numsC_len (endsN (a ++ b))
  have hs := (numsC_spec (endsN (a ++ b))).1
  have hl2 : (endsN (a ++ b)).length = 2 * (a ++ b).length := ends_len2 _
  rw [List.length_append] at hl2
  refine AFn.intro (fn := Try.f97) (by kernel_rfl) rfl (by kernel_rfl) (by simp) (AW.ofz [(6, 13, [2, 0, 8, 9, 1]), (8, 12, [10, 7, 8, 9])] mixed (by kernel_rfl) ?_)
  simp only [Try.f97, argsF]
  have cc : V.closedL [.sl 2 1 [.sl a.length 2 (a.flatMap rcs), .sl b.length 2 (b.flatMap rcs)]] = true := by simp [V.closedL, V.closed, closed_flat (enc := rcs) (fun _ => rfl)]
  unfold duo slN at hC
  simp [slN]
  refine callK.pure hC cc c3 ?_
  generalize numsC (endsN (a ++ b)) = xs at *
  simp
  refine AW.count (xs.length - 1) (JoI a b f cf xs) ⟨_, ?_, rfl⟩ ?_
  · simp [subW, weakV, getF, ownN, zeroRow, runsK, slN]
  rintro k F H hk rfl
  refine AW.ofz [(6, 13, [2, 0, 8, 9, 1]), (8, 12, [10, 7, 8, 9])] mixed (by kernel_rfl) ?_
  have w1 : IntKind.i64.wrap ((k : Int) + 1) = ((k + 1 : Nat) : Int) := by rw [wrap_i64] <;> omega
  have hrl := runsK_len (f := unitF (jF cf a b)) (xs := xs) k
  by_cases hlt : k + 1 < xs.length
  · have hk0 : k < xs.length := by omega
    have hlt' : (k : Int) + 1 < xs.length := by omega
    have hr1 := rowI hk0
    have hr2 : AM.rowAt 1 (ints xs) ((k : Int) + 1) = [.sc (.int .i64 xs[k + 1])] := by simpa using rowI hlt
    have hb1 := hin _ (List.getElem_mem hk0)
    have hb2 := hin _ (List.getElem_mem hlt)
    have wm : IntKind.i64.wrap (xs[k + 1] - 1) = xs[k + 1] - 1 := by rw [wrap_i64] <;> omega
    have hn := runsK_succ (f := unitF (jF cf a b)) hlt
    have hend := fun R' r => runsK_end hs (f := unitF (jF cf a b)) hk0 (R' := R') (r := r)
    have hle := runsK_b (f := unitF (jF cf a b)) (xs := xs) k
    have hcc := hf.call (within a xs[k]) (within b xs[k])
    have hjf : jF cf a b xs[k] = cf (within a xs[k]) (within b xs[k]) := rfl
    generalize runsK (unitF (jF cf a b)) xs k = o at *
    simp [slI, w1, hlt, hlt', hk0, hr1, hr2, ownN]
    refine xcallK.of (hwa _) (by simp [V.closedL, V.closed, c1]) rfl ?_
    simp [slI, w1, hlt, hlt', hk0, hr1, hr2]
    refine xcallK.of (hwb _) (by simp [V.closedL, V.closed, c2]) rfl ?_
    simp
    refine callK.pure hcc rfl rfl ?_
    have hfin : ∀ o', runsK (unitF (jF cf a b)) xs (k + 1) = o' → ∀ H, JoI a b f cf xs (k + 1) [(0, .v (slN a)), (1, .v (slN b)), (2, .v (.fn (.func f) [] [])), (7, ownN o'), (8, .v (slI xs)), (9, .v (.sc (.int .i64 (k + 1 : Nat))))] H := fun o' e H => by
      rw [JoI, e]
    cases hcf : cf (within a xs[k]) (within b xs[k]) with
    | false =>
      have e : Can.step (unitF (jF cf a b)) o xs[k] xs[k + 1] = o := by
        unfold Can.step
        rw [unitF_none.2 (by rw [hjf, hcf])]
      rw [e] at hn
      simp [w1]
      refine ⟨by omega, _, ?_, hfin _ hn _⟩
      simp [subW, weakV, getF, ownN, slI]
    | true =>
      have e : Can.step (unitF (jF cf a b)) o xs[k] xs[k + 1] = push o xs[k] xs[k + 1] () := by
        unfold Can.step
        rw [unitF_some (u := ()) |>.2 (by rw [hjf, hcf])]
      rw [e] at hn
      rcases List.eq_nil_or_concat o with rfl | ⟨o', t, rfl⟩
      · have wn : IntKind.i64.wrap (-1) = -1 := by rw [wrap_i64] <;> omega
        simp [w1, wn, slI, ownN, hlt, hlt', hk0, hr1, hr2, wm]
        refine ⟨by omega, by omega, _, ?_, hfin _ hn _⟩
        simp [subW, weakV, getF, ownN, slI, push, rcs]
      · simp only [List.concat_eq_append] at *
        rw [List.length_append, List.length_singleton] at hrl
        have wl : IntKind.i64.wrap (o'.length : Int) = (o'.length : Int) := by rw [wrap_i64] <;> omega
        have hfl := flat_len' (enc := rcs) (sz := 2) (fun _ => rfl) o'
        have hre : List.drop (o'.length * 2) (o'.flatMap rcs ++ rcs t) = [.sc (.int .i64 t.a), .sc (.int .i64 t.b)] := by
          rw [← hfl, List.drop_left]
          rfl
        have hl1 : (o'.length : Int) < (o'.length : Int) + 1 := by omega
        obtain ⟨m, hm, htb⟩ := hle t (by simp)
        have hmb := hin m hm
        have hnx := rnNext t.a t.b (by rw [wrap_i64] <;> omega)
        simp [w1, wl, hl1, hre, slI, ownN, hlt, hlt', hk0, hr1, hr2, wm]
        refine xcallK.of hnx rfl rfl ?_
        by_cases hc : t.b + 1 = xs[k]
        · have em : push (o' ++ [t]) xs[k] xs[k + 1] () = o' ++ [⟨t.a, xs[k + 1] - 1, ()⟩] := push_more hc rfl
          rw [em] at hn
          have hg : (o'.flatMap rcs ++ rcs t)[o'.length * 2 + 1]? = some (.sc (.int .i64 t.b)) := by
            rw [List.getElem?_append_right (by rw [hfl]; omega), hfl, show o'.length * 2 + 1 - o'.length * 2 = 1 by omega]
            rfl
          have hset : List.take (o'.length * 2 + 1) (o'.flatMap rcs ++ rcs t) ++ (V.sc (.int .i64 (xs[k + 1] - 1)) :: List.drop (o'.length * 2 + 1 + 1) (o'.flatMap rcs ++ rcs t)) = o'.flatMap rcs ++ rcs ⟨t.a, xs[k + 1] - 1, ()⟩ := by
            have h1 := List.set_eq_take_append_cons_drop (l := o'.flatMap rcs ++ rcs t) (i := o'.length * 2 + 1) (a := V.sc (.int .i64 (xs[k + 1] - 1)))
            rw [if_pos (by rw [List.length_append, hfl]; show _ < _ + 2; omega)] at h1
            rw [← h1, List.set_append_right _ _ (by rw [hfl]; omega), hfl, show o'.length * 2 + 1 - o'.length * 2 = 1 by omega, setB_cs]
            rfl
          simp [slI, wl, hl1, hc, hg, w1, wm, hlt, hlt', hk0, hr1, hr2, hset]
          refine ⟨by omega, ?_, by omega, _, ?_, hfin _ hn _⟩
          · have := hfl
            simp at this
            show _ ≤ _ + 2
            omega
          · simp [subW, weakV, getF, slI, ownN]
        · have em : push (o' ++ [t]) xs[k] xs[k + 1] () = o' ++ [t] ++ [⟨xs[k], xs[k + 1] - 1, ()⟩] := push_fresh fun R' r e hb => by
            have := List.append_inj_right' e rfl
            simp at this
            subst this
            exact absurd hb hc
          rw [em] at hn
          have hcb : (t.b + 1 == xs[k]) = false := by simp [hc]
          simp [slI, wl, hl1, hcb, w1, wm, hlt, hlt', hk0, hr1, hr2]
          refine ⟨by omega, by omega, by omega, _, ?_, hfin _ hn _⟩
          simp [subW, weakV, getF, slI, ownN, rcs]
  · have hkk : k = xs.length - 1 := by omega
    have hlt' : ¬ (k : Int) + 1 < xs.length := by omega
    simp [slI, w1, hlt, hlt', ownN, slN]
    rw [← hkk]
    exact ⟨rfl, rfl⟩
end Go.Proofs.Ytoooldijnilpaaa
