/- A quadtree of points: its methods. -/
import Derived.Test.YtmjnffjacgjfmaaJi1
import Derived.Test.YtmjnffjacgjfmaaJj
import Derived.Test.YtmjnffjacgjfmaaBk
import Derived.Test.YtmjnffjacgjfmaaHz
import Derived.Test.YtmjnffjacgjfmaaBe1
namespace Go.Proofs.Ytmjnffjacgjfmaa
set_option linter.all false
open Go.RowKit AM
set_option maxRecDepth 10000
attribute [local simp] aw_skip' aw_region' aw_seq' aw_cond' aw_block' aw_loop' aw_exit' aw_label' aw_ret' aops_nil' aops_cons' aop' aMove aAssign aPick aAlloc aBox aBuild slF aBuildSlice aLoad aLoadOwn aLoadS sharesAt shares sharedV aStore aStoreOwn isOwn delR aNilCheck aBin aMakeFunc aFieldAddr aField aIndexOp aIndex partV aIndexAddr aExtract aSliceOp aSlice slV aShrink aCallOp aCall' aInvoke' aLen aLenMap aDelete aMM aUn aConv aIface aAssert aMakeMap aLookup aMapUpdate aRange aNext aEntry entsOf keyB seekK aMakeSlice lookV aApp aAppendB aAppendF aAppend putK layK eval evalV AM.valOf getF putF setF del SV.refers cellsAt rootSV plains shift ldV V.exact V.exactL V.ofValue V.ofPart V.ofCell V.cells V.one Value.oneCell' fitB qSeq qBlock getB afin aret resVs resV resTmps shareF evalS tupV valsS valsV pickV calm calmB lenV useOf feeds shrinks stows looks isT newsV partsV fillV putAt zerosV fitsNil nilB sliceB isEq isNeq awx_skip' awx_region' awx_seq' awx_cond' awx_block' awx_loop' awx_exit' awx_label' awx_ret' xops_nil' xops_cons' xop' xload xcall' addO delO inO putD memB Mix.effB Mix.laysB keysF badK subW weakV zeroRow yops_nil' yops_cons' yop' yload yindex yfield ylen oldO dropO takeO oldL exactB V.fixed V.fixedL
attribute [local simp] awz_skip' awz_region' awz_seq' awz_cond' awz_block' awz_loop' awz_exit' awz_label' awz_ret' zops_nil' zops_cons' zop' zload zloadOwn zcall' zlenK z0 new0 remF old0 dltB
theorem scs_recs (zs : List Pr) : scs encP zs = zs.flatMap Pr.cs := rfl
theorem wsorted (H : List Bk) (L : List Pr) (hL : L.length ≤ 1000000000000) : OFn Try.prog 53 32 L.length 4 (L.flatMap Pr.cs) [] H fun n' cs' H' => ∃ ys, SortedP L ys ∧ n' = ys.length ∧ cs' = ys.flatMap Pr.cs ∧ KpA (fun _ => False) H H' ∧ H.length ≤ H'.length := by
  refine OFn.intro (fn := Try.f53) (t := 2) (by kernel_rfl) rfl (by kernel_rfl) (by decide) (by kernel_rfl) ?_
  simp only [Try.f53, argsF]
  refine AW.seq (AW.boxOwn (o1 := _) (rest := _) (pr := true) (e := 32) (n := L.length) (sz := 4) (cs := L.flatMap Pr.cs) rfl rfl rfl rfl (by decide) rfl ?_)
  simp
  refine AW.seq (AW.sortCell (i := H.length) (ks := [.own true 32 L.length 4 (L.flatMap Pr.cs)]) (zs := L) (n := L.length) sortsRecs ⟨_, Try.func73, rfl, by kernel_rfl⟩ (fun x v hv => by simp [encP] at hv; rcases hv with rfl | rfl | rfl | rfl <;> rfl) rfl rfl rfl rfl rfl rfl rfl rfl rfl rfl rfl rfl rfl (by decide) (by decide) (by decide) (by decide) (by decide) (by decide) (by decide) (by decide) (by decide) (by simp) (by simp) ⟨_, Try.underlying22⟩ (by rfl) (by simp) rfl rfl (by omega) ?_)
  rintro ys hs hl
  rw [scs_recs]
  have hset : setBlk (H ++ [Bk.cells [SV.own true 32 L.length 4 (List.flatMap Pr.cs L)]]) H.length 0 (SV.own true 32 L.length 4 (List.flatMap Pr.cs ys)) = H ++ [.cells [.own true 32 L.length 4 (ys.flatMap Pr.cs)]] := by simp [setBlk]
  rw [hset]
  simp [qSeq]
  refine AW.seq (AW.loadTake (o1 := _) (rest := _) (x := 1) (d := 7) (i := H.length) (off := 0) (ks := [.own true 32 L.length 4 (ys.flatMap Pr.cs)]) (pr := true) (e := 32) (n := L.length) (sz := 4) (cs := ys.flatMap Pr.cs) rfl rfl rfl rfl (by kernel_rfl) (by decide) (by simp [putF, delR, getF, del]) (by simp) rfl ?_)
  simp
  have hset2 : setBlk (H ++ [Bk.cells [SV.own true 32 L.length 4 (List.flatMap Pr.cs ys)]]) H.length 0 .any = H ++ [.cells [.any]] := by simp [setBlk]
  rw [hset2]
  refine AW.ofx [] mixed (by kernel_rfl) ?_
  simp [oEnd, ofin]
  exact ⟨ys, hs, hl.symm, rfl, KpA.refl.app⟩
theorem KpA.mono {I J : Nat → Prop} {H H1 : List Bk} (h : KpA I H H1) (hIJ : ∀ x, I x → J x) : KpA J H H1 := fun i b hi hb => h i b (fun e => hi (hIJ i e)) hb
theorem KpA.new {H H1 : List Bk} (h : KpA (fun i => H.length ≤ i) H H1) : KpA (fun _ => False) H H1 := fun i b _ hb => h i b (by
  have := (List.getElem?_eq_some_iff.1 hb).1
  omega) hb
theorem wwin1 (told : List Pr) (H : List Bk) (o : Nat) (rc : Pr) (ho : H[o]? = some (.cells [ownP told])) (hl : told.length ≤ 1000000000000) : AFn Try.prog 52 [rc.v, .ptr o 0] H fun y H' => H' = (H ++ [prB rc]).set o (.cells [ownP (told ++ [rc])]) := by
  unfold ownP at ho ⊢
  rw [flat_snoc, snoc_len]
  unfold Pr.v Pr.cs prB
  have hol := (List.getElem?_eq_some_iff.1 ho).1
  have ho' := fun L => hget (L := L) ho
  refine AFn.intro (fn := Try.f52) (by kernel_rfl) rfl (by kernel_rfl) (by simp) ?_
  simp only [Try.f52, argsF]
  refine AW.seq (AW.ofx [] mixed (by kernel_rfl) ?_)
  simp
  have hrc : (H ++ [Bk.cells [.v (.sc (.int .i64 rc.id)), .v (.sc (.int .i64 rc.at_.x)), .v (.sc (.int .i64 rc.at_.y)), .v (.sc (.int .i64 rc.lab))]])[H.length]? = some (.cells [.v (.sc (.int .i64 rc.id)), .v (.sc (.int .i64 rc.at_.x)), .v (.sc (.int .i64 rc.at_.y)), .v (.sc (.int .i64 rc.lab))]) := by simp
  have ho2 := ho' [Bk.cells [.v (.sc (.int .i64 rc.id)), .v (.sc (.int .i64 rc.at_.x)), .v (.sc (.int .i64 rc.at_.y)), .v (.sc (.int .i64 rc.lab))]]
  generalize H ++ [_] = H2 at *
  have hol2 := (List.getElem?_eq_some_iff.1 ho2).1
  have f1 : ∀ x, setBlk H2 o 0 x = H2.set o (.cells [x]) := fun x => by rw [setBlk_eq' ho2]; rfl
  have f2 : ∀ x z, setBlk (H2.set o (.cells [x])) o 0 z = H2.set o (.cells [z]) := fun x z => by rw [setBlk_eq' (List.getElem?_set_self hol2), List.set_set]; rfl
  have f3 : ∀ K, (H2.set o K)[o]? = some K := fun K => List.getElem?_set_self hol2
  have f4 : ∀ K, (H2.set o K)[H.length]? = some (.cells [.v (.sc (.int .i64 rc.id)), .v (.sc (.int .i64 rc.at_.x)), .v (.sc (.int .i64 rc.at_.y)), .v (.sc (.int .i64 rc.lab))]) := fun K => by rw [List.getElem?_set_ne (by omega)]; exact hrc
  refine AW.ofx [] mixed (by kernel_rfl) ?_
  simp [ho2, hrc, f1, f2, f3, f4]
  exact ⟨⟨by omega, by omega⟩, rfl⟩
def cntB (n : Nat) : Bk := .cells [.v (.sc (.int .i64 n))]
theorem wcount1 (o : Nat) : Tells 54 [] [.ptr o 0] o fun told bk => bk = cntB told.length := ⟨by
  rintro told bk H rc ho rfl hl
  have hol := (List.getElem?_eq_some_iff.1 ho).1
  unfold cntB at ho ⊢
  have ho' := fun L => hget (L := L) ho
  have w1 : IntKind.i64.wrap ((told.length : Int) + 1) = (told.length : Int) + 1 := by rw [wrap_i64] <;> omega
  unfold Pr.v Pr.cs
  simp only [List.nil_append, List.cons_append]
  refine AFn.intro (fn := Try.f54) (by kernel_rfl) rfl (by kernel_rfl) (by simp) ?_
  simp only [Try.f54, argsF]
  refine AW.seq (AW.ofx [] mixed (by kernel_rfl) ?_)
  simp
  refine AW.ofx [] mixed (by kernel_rfl) ?_
  simp [ho', w1, setCells_one]
  rw [setBlk_eq' (ho' _)]
  refine ⟨KpA.refl.app.set rfl, by simp, ?_⟩
  rw [List.getElem?_set_self (by simp; omega)]
  rfl⟩
set_option maxHeartbeats 2000000 in
theorem wWindow {H : List Bk} {r b nb mb cap : Nat} {s : Ar} {es : List Pr} (hT : TrA H r b nb mb cap s es) (h0 : 0 < s.A.length) (rc : Re) (hw : rightR rc = true → ∃ L, windF s.A rc 18 0 = some L ∧ L.length ≤ 1000000000000) :
    AFn Try.prog 23 [.ptr r 0, rc.v] H fun y H' => ∃ ys, y = lV ys ∧ (rightR rc = false → ys = []) ∧ (rightR rc = true → ∃ L, windF s.A rc 18 0 = some L ∧ SortedP L ys) ∧ KpA (fun _ => False) H H' := by
  refine AFn.conv (Q := fun y H' => (∃ ys, y = lV ys ∧ rightR rc = true ∧ (∃ L, windF s.A rc 18 0 = some L ∧ SortedP L ys) ∧ KpA (fun _ => False) H H') ∨ (y = .nil ∧ rightR rc = false ∧ KpA (fun _ => False) H H')) ?_ fun y H' hy => ?_
  rotate_left
  · rcases hy with ⟨ys, rfl, h1, h2, h3⟩ | ⟨rfl, h1, h2⟩
    · exact ⟨_, ⟨ys, rfl, fun e => by simp [h1] at e, fun _ => h2, h3⟩, fun _ _ _ h => h⟩
    · exact ⟨lV [], ⟨[], rfl, fun _ => rfl, fun e => by simp [h1] at e, h2⟩, fun _ _ _ h => rel_nil_row h⟩
  have hMade := fun L => wmade (hT.app (L := L))
  have hR := gRight rc
  have hcr := hT.cr
  have hcn := hT.cn
  have hcm := hT.cm
  have hrl := hT.rl
  have hml := (List.getElem?_eq_some_iff.1 hT.cm).1
  have hnl : nb < H.length := (List.getElem?_eq_some_iff.1 (hcn (by have := hT.le; omega))).1
  unfold Re.v Re.cs at hR ⊢
  refine AFn.intro (fn := Try.f23) (by kernel_rfl) rfl (by kernel_rfl) (by simp) ?_
  simp only [Try.f23, argsF]
  refine AW.seq (AW.ofx [] mixed (by kernel_rfl) ?_)
  simp
  refine AW.seq (AW.ofx [] mixed (by kernel_rfl) ?_)
  simp
  refine callK.of (hMade _) ?_
  rintro y H1 ⟨rfl, rfl⟩
  simp [h0]
  refine callK.pure hR rfl rfl ?_
  cases hrr : rightR rc with
  | false =>
    simp
    exact KpA.refl.app
  | true =>
    simp
    obtain ⟨L, hL, hLl⟩ := hw hrr
    refine AW.seq (AW.ofx [] mixed (by kernel_rfl) ?_)
    simp
    refine AW.wk (Wk.cell (id := H.length + 1) (off := 0) (x := .v .nil) (y := ownP []) (by simp; rfl) rfl (cellWk.nil rfl ⟨rfl, rfl, by decide⟩)) ?_
    have hset : ∀ x : Bk, (H ++ [x, Bk.cells [SV.v V.nil]]).set (H.length + 1) (.cells ([SV.v V.nil].set 0 (ownP []))) = H ++ [x, .cells [ownP []]] := fun x => by simp
    rw [hset]
    have hT1 := hT.app (L := [reC rc, .cells [ownP []]])
    have hW := wwindow (wtold 52 (fun told H o rc ho hl => wwin1 told H o rc ho hl) (H.length + 1)) (by omega) (by omega) (by omega) rc 18 0 (H ++ [reC rc, .cells [ownP []]]) [] L _ hT1 (by simp) rfl hL (by simp; omega)
    have h5 : (H ++ [reC rc, .cells [ownP []]])[H.length]? = some (reC rc) := by simp
    have hK1 : KpA (fun i => H.length ≤ i) H (H ++ [reC rc, .cells [ownP []]]) := KpA.refl.app
    have hl1 : (H ++ [reC rc, .cells [ownP []]]).length = H.length + 2 := by simp
    unfold reC Re.v Re.cs at *
    generalize H ++ [_, _] = H1 at *
    refine AW.seq (AW.ofx [] mixed (by kernel_rfl) ?_)
    simp [h5]
    refine callK.of hW ?_
    rintro y H2 ⟨k1, k2, bk, k3, rfl⟩
    simp only [List.nil_append] at k3
    simp
    have hol := (List.getElem?_eq_some_iff.1 k3).1
    have hS := wsorted (setBlk H2 (H.length + 1) 0 .any) L hLl
    unfold ownP at k3
    have hset3 : setBlk H2 (H.length + 1) 0 .any = H2.set (H.length + 1) (.cells [.any]) := by rw [setBlk_eq' k3]; rfl
    rw [hset3] at hS
    refine AW.seq (AW.ownCallL (o1 := _) (o2 := _) (rest := _) (x := 5) (t := 18) (d := 19) (i := H.length + 1) (off := 0) (ks := [.own true 32 L.length 4 (L.flatMap Pr.cs)]) (e := 32) (n := L.length) (sz := 4) (cs := L.flatMap Pr.cs) rfl rfl rfl rfl (by kernel_rfl) rfl rfl rfl (by decide) (by decide) (by decide) (by simp [getF]) k3 rfl (by rw [hset3]; exact hS) ?_)
    rintro n' cs' H3 ⟨ys, y1, rfl, rfl, y2, y3⟩
    have hlt : ys.length ≤ 1000000000000 := by rw [y1.1.length_eq]; exact hLl
    simp [qSeq, calm, del]
    refine AW.ofx [] mixed (by kernel_rfl) ?_
    simp
    refine ⟨ys, rfl, ⟨L, hL, y1⟩, KpA.new ?_⟩
    exact ((hK1.trans (k1.mono fun x (hx : x = H.length + 1) => by omega)).set (by omega)).trans (y2.mono fun _ h => h.elim)
theorem wAll {H : List Bk} {r b nb mb cap : Nat} {s : Ar} {es : List Pr} (hT : TrA H r b nb mb cap s es) (h0 : 0 < s.A.length) (hw : ∃ L, windF s.A gridR 18 0 = some L ∧ L.length ≤ 1000000000000) :
    AFn Try.prog 21 [.ptr r 0] H fun y H' => ∃ ys, y = lV ys ∧ (∃ L, windF s.A gridR 18 0 = some L ∧ SortedP L ys) ∧ KpA (fun _ => False) H H' := by
  have hF := wWindow hT h0 gridR (fun _ => hw)
  have hG := gGrid
  unfold gridR Re.v Re.cs at hF hG
  refine AFn.intro (fn := Try.f21) (by kernel_rfl) rfl (by kernel_rfl) (by simp) (AW.ofx [] mixed (by kernel_rfl) ?_)
  simp only [Try.f21, argsF]
  simp
  refine callK.pure hG rfl rfl ?_
  simp
  refine callK.of hF ?_
  rintro y H1 ⟨ys, rfl, _, h1, h2⟩
  simp [lV]
  exact ⟨ys, ⟨rfl, rfl⟩, h1 rfl, h2⟩
theorem wNodes {H : List Bk} {r b nb mb cap : Nat} {s : Ar} {es : List Pr} (hT : TrA H r b nb mb cap s es) (h0 : 0 < s.A.length) (hl : s.A.length ≤ 1000000000000) (hf : s.fr.length ≤ 1000000000000) :
    AFn Try.prog 19 [.ptr r 0] H fun y H' => y = .sc (.int .i64 ((s.A.length : Int) - s.fr.length)) ∧ H' = H := by
  have hMade := wmade hT
  have hr := hT.cr
  unfold trC at hr
  have w1 : IntKind.i64.wrap ((s.A.length : Int) - s.fr.length) = (s.A.length : Int) - s.fr.length := by rw [wrap_i64] <;> omega
  refine AFn.intro (fn := Try.f19) (by kernel_rfl) rfl (by kernel_rfl) (by simp) ?_
  simp only [Try.f19, argsF]
  refine AW.seq (AW.ofx [] mixed (by kernel_rfl) ?_)
  simp
  refine AW.seq (AW.ofx [] mixed (by kernel_rfl) ?_)
  simp
  refine callK.of hMade ?_
  rintro y H1 ⟨rfl, rfl⟩
  simp [h0]
  refine AW.seq (AW.ofz [] mixed (by kernel_rfl) ?_)
  simp [hr, w1]
  refine AW.ofx [] mixed (by kernel_rfl) ?_
  simp
theorem wLen {H : List Bk} {r b nb mb cap : Nat} {s : Ar} {es : List Pr} (hT : TrA H r b nb mb cap s es) (h0 : 0 < s.A.length) :
    AFn Try.prog 27 [.ptr r 0] H fun y H' => y = .sc (.int .i64 es.length) ∧ H' = H := by
  have hMade := wmade hT
  have hr := hT.cr
  have hm := hT.cm
  unfold trC at hr
  refine AFn.intro (fn := Try.f27) (by kernel_rfl) rfl (by kernel_rfl) (by simp) (AW.ofx [] mixed (by kernel_rfl) ?_)
  simp only [Try.f27, argsF]
  simp
  refine callK.of hMade ?_
  rintro y H1 ⟨rfl, rfl⟩
  simp [h0, hr, hm]
/-- The kids' levels, one by one. -/
def DeepK (H : List Bk) (r a : Nat) (A : List Qn) (n : Nat) (q : Qn) (i : Nat) (F : Fr) (H1 : List Bk) : Prop :=
  ∃ d, runs (kidDo q fun d a' => (deepF A n a').map (max d ·)) q.c.l i = some d ∧ KpA (fun _ => False) H H1 ∧ H.length ≤ H1.length ∧
    F = [(0, .v (.ptr r 0)), (6, .v (.sc (.int .i64 d))), (22, .v (.agg [.sc (.int .i64 q.k0), .sc (.int .i64 q.k1), .sc (.int .i64 q.k2), .sc (.int .i64 q.k3)])), (23, .v (.sc (.int .i64 i)))]
theorem max_if (a b : Int) : (if a < b then b else a) = max a b := by
  split <;> omega
set_option maxHeartbeats 4000000 in
theorem wdepth {b nb mb cap r : Nat} {s : Ar} {es : List Pr} :
    ∀ (n a : Nat) (H : List Bk) (d : Int), TrA H r b nb mb cap s es → deepF s.A n a = some d →
    AFn Try.prog 47 [.ptr r 0, .sc (.int .i64 a)] H fun y H' => y = .sc (.int .i64 d) ∧ KpA (fun _ => False) H H' ∧ H.length ≤ H'.length := by
  intro n
  induction n with
  | zero => intro a H d _ h; cases h
  | succ n ih =>
  intro a H d hT hd
  obtain ⟨n', q, hn', hq, hcase⟩ := deepF_some hd
  cases hn'
  have hc0 := hT.cap0 hq
  have hr := hT.cr
  have hn := hT.cn hc0
  have hal := (List.getElem?_eq_some_iff.1 hq).1
  unfold trC at hr
  obtain ⟨t0, d0⟩ := drop_cell hq ((cap - s.A.length) * 10)
  refine AFn.intro (fn := Try.f47) (by kernel_rfl) rfl (by kernel_rfl) (by simp) ?_
  simp only [Try.f47, argsF]
  refine AW.seq (AW.ofx [] mixed (by kernel_rfl) ?_)
  simp
  refine AW.mid (fun F H1 => F = [(0, .v (.ptr r 0)), (1, .v (.sc (.int .i64 a))), (4, .v (.sc (.int .i64 0))), (5, .v (.ptr H.length 0))] ∧ Wk H1 (H ++ [ndB q])) (AW.ofx [] mixed (by kernel_rfl) ?_) ?_
  · by_cases hql : q.full = true
    · simp only [hql, lC_fs] at d0
      simp [hr, hn, hal, d0]
      rw [setCells_last rfl]
      refine ⟨_, ?_, rfl, ndB_wk⟩
      simp [subW, weakV, getF]
    · have hql : q.full = false := by simpa using hql
      simp only [hql, lC_own] at d0
      simp [hr, hn, hal, d0]
      rw [setCells_last rfl]
      refine ⟨_, ?_, rfl, Wk.refl _⟩
      simp [subW, weakV, getF]
  · rintro F H1 ⟨rfl, hwk⟩
    refine AW.wk hwk ?_
    have hnd : (H ++ [ndB q])[H.length]? = some (ndB q) := by simp
    have hk1 : KpA (fun _ => False) H (H ++ [ndB q]) := KpA.refl.app
    have hl1 : H.length ≤ (H ++ [ndB q]).length := by simp
    clear hwk
    generalize H ++ [ndB q] = H1 at *
    unfold ndB lV at hnd
    refine AW.seq (AW.ofx [] mixed (by kernel_rfl) ?_)
    simp [hnd]
    rcases hcase with ⟨hs, rfl⟩ | ⟨hs, hrun⟩
    · refine AW.seq (AW.ofx [] mixed (by kernel_rfl) ?_)
      simp [hnd, hs]
      refine AW.ofx [] mixed (by kernel_rfl) ?_
      simp
      exact ⟨hk1, hl1⟩
    · refine AW.seq (AW.ofx [] mixed (by kernel_rfl) ?_)
      simp [hnd, hs]
      refine AW.count 4 (DeepK H r a s.A n q) ⟨[(0, .v (.ptr r 0)), (6, .v (.sc (.int .i64 q.c.l))), (22, .v (.agg [.sc (.int .i64 q.k0), .sc (.int .i64 q.k1), .sc (.int .i64 q.k2), .sc (.int .i64 q.k3)])), (23, .v (.sc (.int .i64 0)))], ?_, q.c.l, rfl, hk1, hl1, rfl⟩ ?_
      · simp [subW, weakV, getF]
      rintro k F H3 hk ⟨d3, j1, j2, j3, rfl⟩
      by_cases hk4 : k = 4
      · subst hk4
        rw [hrun] at j1
        cases j1
        refine AW.seq (AW.ofx [] mixed (by kernel_rfl) ?_)
        simp
        refine AW.seq (AW.ofx [] mixed (by kernel_rfl) ?_)
        simp
        refine AW.seq (AW.ofx [] mixed (by kernel_rfl) ?_)
        simp
        refine AW.ofx [] mixed (by kernel_rfl) ?_
        simp
        exact ⟨j2, j3⟩
      · have hlt : k < 4 := by omega
        have hltI : (k : Int) < 4 := by omega
        obtain ⟨a', u', j4, j5, j6⟩ := kidRun_step hrun hlt j1
        obtain ⟨v, j7, rfl⟩ := map_step j5
        have hT3 := hT.keep j2 id (fun _ => id) id
        have hR := ih a' H3 v hT3 j7
        have hkg := kid_get' (q := q) hlt
        rw [j4] at hkg
        refine AW.seq (AW.ofx [] mixed (by kernel_rfl) ?_)
        simp [hltI]
        refine AW.seq (AW.ofx [] mixed (by kernel_rfl) ?_)
        simp
        refine AW.seq (AW.block (AW.seq (AW.ofx [] mixed (by kernel_rfl) ?_)))
        simp [hltI, hlt, hkg]
        refine AW.ofx [] mixed (by kernel_rfl) ?_
        simp
        refine callK.of hR ?_
        rintro y H4 ⟨rfl, j8, j9⟩
        simp
        refine AW.ofx [] mixed (by kernel_rfl) ?_
        have w1 : IntKind.i64.wrap ((k : Int) + 1) = (k + 1 : Nat) := by rw [wrap_i64] <;> omega
        simp [w1, max_if]
        refine ⟨_, ?_, max d3 v, j6, j2.trans j8, by omega, rfl⟩
        simp [subW, weakV, getF]
set_option maxHeartbeats 2000000 in
theorem wDepth {H : List Bk} {r b nb mb cap : Nat} {s : Ar} {es : List Pr} (hT : TrA H r b nb mb cap s es) (h0 : 0 < s.A.length) {d : Int} (hd : deepF s.A 18 0 = some d) :
    AFn Try.prog 20 [.ptr r 0] H fun y H' => y = .sc (.int .i64 d) ∧ KpA (fun _ => False) H H' := by
  have hMade := wmade hT
  have hD := wdepth 18 0 H d hT hd
  refine AFn.intro (fn := Try.f20) (by kernel_rfl) rfl (by kernel_rfl) (by simp) (AW.ofx [] mixed (by kernel_rfl) ?_)
  simp only [Try.f20, argsF]
  simp
  refine callK.of hMade ?_
  rintro y H1 ⟨rfl, rfl⟩
  simp [h0]
  refine callK.of hD ?_
  rintro y H1 ⟨rfl, h1, _⟩
  simp
  exact h1
set_option maxHeartbeats 2000000 in
theorem wCount {H : List Bk} {r b nb mb cap : Nat} {s : Ar} {es : List Pr} (hT : TrA H r b nb mb cap s es) (h0 : 0 < s.A.length) (rc : Re) (hw : rightR rc = true → ∃ L, windF s.A rc 18 0 = some L ∧ L.length ≤ 1000000000000) :
    AFn Try.prog 25 [.ptr r 0, rc.v] H fun y H' => ∃ n : Nat, y = .sc (.int .i64 n) ∧ (rightR rc = false → n = 0) ∧ (rightR rc = true → ∃ L, windF s.A rc 18 0 = some L ∧ n = L.length) ∧ KpA (fun _ => False) H H' := by
  have hMade := fun L => wmade (hT.app (L := L))
  have hR := gRight rc
  have hcr := hT.cr
  have hcn := hT.cn
  have hcm := hT.cm
  have hrl := hT.rl
  have hml := (List.getElem?_eq_some_iff.1 hT.cm).1
  have hnl : nb < H.length := (List.getElem?_eq_some_iff.1 (hcn (by have := hT.le; omega))).1
  unfold Re.v Re.cs at hR ⊢
  refine AFn.intro (fn := Try.f25) (by kernel_rfl) rfl (by kernel_rfl) (by simp) ?_
  simp only [Try.f25, argsF]
  refine AW.seq (AW.ofx [] mixed (by kernel_rfl) ?_)
  simp
  refine AW.seq (AW.ofx [] mixed (by kernel_rfl) ?_)
  simp
  refine callK.of (hMade _) ?_
  rintro y H1 ⟨rfl, rfl⟩
  simp [h0]
  refine callK.pure hR rfl rfl ?_
  cases hrr : rightR rc with
  | false =>
    simp
    exact ⟨0, rfl, rfl, KpA.refl.app⟩
  | true =>
    simp
    obtain ⟨L, hL, hLl⟩ := hw hrr
    refine AW.seq (AW.ofx [] mixed (by kernel_rfl) ?_)
    simp
    rw [setCells_last1 rfl]
    have hT1 := hT.app (L := [reC rc, cntB 0])
    have hW := wwindow (wcount1 (H.length + 1)) (by omega) (by omega) (by omega) rc 18 0 (H ++ [reC rc, cntB 0]) [] L _ hT1 (by simp) rfl hL (by simp; omega)
    have h5 : (H ++ [reC rc, cntB 0])[H.length]? = some (reC rc) := by simp
    have hK1 : KpA (fun i => H.length ≤ i) H (H ++ [reC rc, cntB 0]) := KpA.refl.app
    unfold reC Re.v Re.cs at *
    have hcb : H ++ [Bk.cells [.v (.sc (.int .i64 rc.x0)), .v (.sc (.int .i64 rc.y0)), .v (.sc (.int .i64 rc.x1)), .v (.sc (.int .i64 rc.y1))], Bk.cells (List.map SV.v [V.sc (Value.int IntKind.i64 0)])] = H ++ [Bk.cells [.v (.sc (.int .i64 rc.x0)), .v (.sc (.int .i64 rc.y0)), .v (.sc (.int .i64 rc.x1)), .v (.sc (.int .i64 rc.y1))], cntB 0] := rfl
    rw [hcb]
    generalize H ++ [_, _] = H1 at *
    refine AW.seq (AW.ofx [] mixed (by kernel_rfl) ?_)
    simp [h5]
    refine callK.of hW ?_
    rintro y H2 ⟨k1, k2, bk, k3, rfl⟩
    simp only [List.nil_append] at k3
    unfold cntB at k3
    simp
    refine AW.ofx [] mixed (by kernel_rfl) ?_
    simp [k3]
    exact ⟨L.length, rfl, ⟨L, hL, rfl⟩, KpA.new (hK1.trans (k1.mono fun x (hx : x = H.length + 1) => by omega))⟩
end Go.Proofs.Ytmjnffjacgjfmaa
namespace Go.Proofs.Ytmjnffjacgjfmaa
set_option linter.all false
open Go.RowKit AM
set_option maxRecDepth 10000
attribute [local simp] aw_skip' aw_region' aw_seq' aw_cond' aw_block' aw_loop' aw_exit' aw_label' aw_ret' aops_nil' aops_cons' aop' aMove aAssign aPick aAlloc aBox aBuild slF aBuildSlice aLoad aLoadOwn aLoadS sharesAt shares sharedV aStore aStoreOwn isOwn delR aNilCheck aBin aMakeFunc aFieldAddr aField aIndexOp aIndex partV aIndexAddr aExtract aSliceOp aSlice slV aShrink aCallOp aCall' aInvoke' aLen aLenMap aDelete aMM aUn aConv aIface aAssert aMakeMap aLookup aMapUpdate aRange aNext aEntry entsOf keyB seekK aMakeSlice lookV aApp aAppendB aAppendF aAppend putK layK eval evalV AM.valOf getF putF setF del SV.refers cellsAt rootSV plains shift ldV V.exact V.exactL V.ofValue V.ofPart V.ofCell V.cells V.one Value.oneCell' fitB qSeq qBlock getB afin aret resVs resV resTmps shareF evalS tupV valsS valsV pickV calm calmB lenV useOf feeds shrinks stows looks isT newsV partsV fillV putAt zerosV fitsNil nilB sliceB isEq isNeq awx_skip' awx_region' awx_seq' awx_cond' awx_block' awx_loop' awx_exit' awx_label' awx_ret' xops_nil' xops_cons' xop' xload xcall' addO delO inO putD memB Mix.effB Mix.laysB keysF badK subW weakV zeroRow yops_nil' yops_cons' yop' yload yindex yfield ylen oldO dropO takeO oldL exactB V.fixed V.fixedL
attribute [local simp] awz_skip' awz_region' awz_seq' awz_cond' awz_block' awz_loop' awz_exit' awz_label' awz_ret' zops_nil' zops_cons' zop' zload zloadOwn zcall' zlenK z0 new0 remF old0 dltB
/-! ## Maps of records by their numbers -/
def pfind (k : Int) : List Pr → Nat → Option (Nat × Pr)
  | [], _ => none
  | e :: es, i => if k = e.id then some (i, e) else pfind k es (i + 1)
theorem mfind_p {k : Int} : ∀ {es : List Pr} {i : Nat}, mfind (.int .i64) (.int .i64 k) (es.map entP) i = some ((pfind k es i).map fun p => (p.1, p.2.v))
  | [], i => rfl
  | e :: es, i => by
    have : Instr.sameNow (.int .i64) (.int .i64 k) (.int .i64 e.id) = some (k == e.id) := rfl
    simp only [List.map_cons, entP, mfind, pfind, this]
    by_cases h : k = e.id
    · simp [h]
    · have : (k == e.id) = false := by simpa using h
      rw [this, if_neg h]
      exact mfind_p
theorem pfind_none {k : Int} : ∀ {es : List Pr} {i : Nat}, (∀ e ∈ es, e.id ≠ k) → pfind k es i = none
  | [], _, _ => rfl
  | e :: es, i, h => by
    unfold pfind
    rw [if_neg (fun e' => h e (by simp) e'.symm)]
    exact pfind_none fun x hx => h x (by simp [hx])
theorem pfind_some {s : Pr} : ∀ {es : List Pr} {i : Nat}, s ∈ es → (es.map Pr.id).Nodup → ∃ j, pfind s.id es i = some (i + j, s) ∧ es.eraseIdx j = es.filter fun t => !decide (t.id = s.id)
  | e :: es, i, h, hn => by
    rw [List.map_cons, List.nodup_cons] at hn
    unfold pfind
    by_cases he : s.id = e.id
    · have hs : s = e := by
        rcases List.mem_cons.1 h with h | h
        · exact h
        · exact absurd (List.mem_map.2 ⟨s, h, he⟩) hn.1
      subst hs
      refine ⟨0, by simp, ?_⟩
      rw [List.eraseIdx_cons_zero, List.filter_cons]
      simp only [decide_true, Bool.not_true, Bool.false_eq_true, if_false]
      refine (List.filter_eq_self.2 fun x hx => ?_).symm
      have : x.id ≠ s.id := fun e => hn.1 (List.mem_map.2 ⟨x, hx, e⟩)
      simpa using this
    · rw [if_neg he]
      have hm : s ∈ es := by
        rcases List.mem_cons.1 h with rfl | h
        · exact absurd rfl he
        · exact h
      obtain ⟨j, h1, h2⟩ := pfind_some (i := i + 1) hm hn.2
      refine ⟨j + 1, by rw [h1]; congr 2; omega, ?_⟩
      rw [List.eraseIdx_cons_succ, h2, List.filter_cons, if_pos]
      simpa using fun e => he e.symm
theorem pfind_mem {k : Int} {s : Pr} : ∀ {es : List Pr} {i j : Nat}, pfind k es i = some (j, s) → s ∈ es ∧ s.id = k
  | e :: es, i, j, h => by
    unfold pfind at h
    by_cases he : k = e.id
    · rw [if_pos he] at h
      cases h
      exact ⟨by simp, he.symm⟩
    · rw [if_neg he] at h
      obtain ⟨h1, h2⟩ := pfind_mem h
      exact ⟨by simp [h1], h2⟩
theorem pfind_nil {k : Int} : ∀ {es : List Pr} {i : Nat}, pfind k es i = none → ∀ e ∈ es, e.id ≠ k
  | [], _, _, _, h => by cases h
  | e :: es, i, h, x, hx => by
    unfold pfind at h
    by_cases he : k = e.id
    · rw [if_pos he] at h; cases h
    · rw [if_neg he] at h
      rcases List.mem_cons.1 hx with rfl | hx
      · exact fun e' => he e'.symm
      · exact pfind_nil h x hx


def pfnd (S : List Pr) (k : Int) : Option Pr := S.find? fun s => decide (s.id = k)
def zeroP : Pr := ⟨0, ⟨0, 0⟩, 0⟩
def pfndV (S : List Pr) (k : Int) : V := match pfnd S k with
  | some s => .tup [s.v, .sc (.bool true)]
  | none => .tup [zeroP.v, .sc (.bool false)]
theorem zvPr : zeroV Try.prog 32 = some (.agg [.sc (.int .i64 0), .sc (.int .i64 0), .sc (.int .i64 0), .sc (.int .i64 0)]) := by kernel_rfl
theorem pid_inj {S : List Pr} (hn : (S.map Pr.id).Nodup) {x y : Pr} (hx : x ∈ S) (hy : y ∈ S) (h : x.id = y.id) : x = y := by
  induction S with
  | nil => cases hx
  | cons a l ih =>
    rw [List.map_cons, List.nodup_cons] at hn
    rcases List.mem_cons.1 hx with hx | hx
    · rcases List.mem_cons.1 hy with hy | hy
      · rw [hx, hy]
      · exact absurd (List.mem_map.2 ⟨y, hy, by rw [← h, hx]⟩) hn.1
    · rcases List.mem_cons.1 hy with hy | hy
      · exact absurd (List.mem_map.2 ⟨x, hx, by rw [h, hy]⟩) hn.1
      · exact ih hn.2 hx hy
theorem pfnd_pfind {es : List Pr} (k : Int) : ∀ i, (pfind k es i).map (·.2) = pfnd es k := by
  induction es with
  | nil => intro i; rfl
  | cons e es ih =>
    intro i
    unfold pfind pfnd
    rw [List.find?_cons]
    by_cases h : k = e.id
    · simp [h]
    · have : e.id ≠ k := fun e' => h e'.symm
      simp only [if_neg h, this, decide_false]
      exact ih (i + 1)
theorem wFind {H : List Bk} {r b nb mb cap : Nat} {s : Ar} {es : List Pr} (hT : TrA H r b nb mb cap s es) (h0 : 0 < s.A.length) (k : Int) : AFn Try.prog 33 [.ptr r 0, .sc (.int .i64 k)] H fun y H' => y = pfndV es k ∧ KpA (fun _ => False) H H' := by
  have hM := fun L => wmade (hT.app (L := L))
  have hr0 := hT.cr
  unfold trC at hr0
  have hr := fun L => hget (L := L) hr0
  have hm := fun L => hget (L := L) hT.cm
  have hfs := pfnd_pfind (es := es) k 0
  unfold pfndV
  rw [← hfs]
  refine AFn.intro (fn := Try.f33) (by kernel_rfl) rfl (by kernel_rfl) (by simp) ?_
  simp only [Try.f33, argsF]
  refine AW.seq (AW.ofx [] mixed (by kernel_rfl) ?_)
  simp
  refine AW.seq (AW.ofx [] mixed (by kernel_rfl) ?_)
  simp
  refine callK.of (hM _) ?_
  rintro y H1 ⟨rfl, rfl⟩
  simp [h0]
  refine AW.seq (AW.ofx [] mixed (by kernel_rfl) ?_)
  cases hs : pfind k es 0 with
  | none =>
    simp [hr, hm, mfind_p, hs, zvPr, setCells, setBlk]
    refine AW.ofx [] mixed (by kernel_rfl) ?_
    simp [setCells, setBlk, Pr.v, Pr.cs, zeroP]
    exact KpA.refl.app
  | some p =>
    unfold Pr.v Pr.cs
    simp [hr, hm, mfind_p, hs, zvPr, setCells, setBlk, Pr.v, Pr.cs]
    refine AW.ofx [] mixed (by kernel_rfl) ?_
    simp [setCells, setBlk, Pr.v, Pr.cs, zeroP]
    exact KpA.refl.app
/-- What is done to a tree stays with its three blocks. -/
structure Stp3 (r nb mb : Nat) (H H' : List Bk) (nb' : Nat) : Prop where
  kp : Kp (fun x => x = r ∨ x = nb ∨ x = mb) H H'
  len : H.length ≤ H'.length
  nb : nb' = nb ∨ H.length ≤ nb'
def insE (es : List Pr) (rc : Pr) : Int := if fits rc.at_ then (if (pfnd es rc.id).isSome then 20 else 0) else 1
theorem TrA.kp3 {H H' : List Bk} {r b nb mb cap : Nat} {s : Ar} {es : List Pr} {I : Nat → Prop} (h : TrA H r b nb mb cap s es) (hk : Kp I H H') (h1 : ¬ I r) (h2 : cap ≠ 0 → ¬ I nb) (h3 : ¬ I mb) : TrA H' r b nb mb cap s es :=
  ⟨hk _ _ h1 h.cr (fun _ _ _ e => by cases e), fun hc => hk _ _ (h2 hc) (h.cn hc) (fun _ _ _ e => by cases e), hk _ _ h3 h.cm (fun _ _ _ e => by cases e), h.le, h.rn, h.b0, (List.getElem?_eq_some_iff.1 (hk _ _ h1 h.cr (fun _ _ _ e => by cases e))).1⟩
/-- The map turns. -/
theorem TrA.mapTo {H : List Bk} {r b nb mb cap : Nat} {s : Ar} {es es' : List Pr} (h : TrA H r b nb mb cap s es) : TrA ((killIt mb H).set mb (.map (es'.map entP))) r b nb mb cap s es' := by
  have hml := (List.getElem?_eq_some_iff.1 h.cm).1
  refine ⟨?_, fun hc => ?_, ?_, h.le, h.rn, h.b0, by simp [hkill_len]; exact h.rl⟩
  · rw [List.getElem?_set_ne (Ne.symm h.rm)]
    exact hkill h.cr fun _ _ _ e => by cases e
  · rw [List.getElem?_set_ne (Ne.symm (h.nm hc))]
    exact hkill (h.cn hc) fun _ _ _ e => by cases e
  · rw [List.getElem?_set_self (by rw [hkill_len]; exact hml)]
theorem Stp3.of {r nb mb nb' : Nat} {H H' : List Bk} (h : Stp r nb H H' nb') : Stp3 r nb mb H H' nb' := ⟨h.kp.toKp.weak fun x hx => hx.imp id .inl, h.len, h.nb⟩
set_option maxHeartbeats 2000000 in
theorem wInsert {H : List Bk} {r b nb mb cap : Nat} {s : Ar} {es : List Pr} (hT : TrA H r b nb mb cap s es) (h0 : 0 < s.A.length) (rc : Pr) (hp : insE es rc = 0 → ∃ s', putT b 18 s 0 rc = some s') :
    AFn Try.prog 17 [.ptr r 0, rc.v] H fun y H' => y = .sc (.int .i64 (insE es rc)) ∧ ∃ nb' cap' s' es', TrA H' r b nb' mb cap' s' es' ∧ Stp3 r nb mb H H' nb' ∧ (insE es rc = 0 → putT b 18 s 0 rc = some s' ∧ es' = es ++ [rc]) ∧ (insE es rc ≠ 0 → s' = s ∧ es' = es) := by
  have hM := fun L => wmade (hT.app (L := L))
  have hr0 := hT.cr
  unfold trC at hr0
  have hr := fun L => hget (L := L) hr0
  have hm := fun L => hget (L := L) hT.cm
  have hfs := pfnd_pfind (es := es) rc.id 0
  have hp2 : fits rc.at_ = true → pfind rc.id es 0 = none → ∃ s', putT b 18 s 0 rc = some s' := fun e1 e2 => hp (by unfold insE; rw [if_pos e1, ← hfs, e2]; rfl)
  clear hp
  have hF := gFits rc.at_
  unfold insE at *
  rw [← hfs] at *
  unfold Pt.v Pt.cs at hF
  unfold Pr.v Pr.cs
  refine AFn.intro (fn := Try.f17) (by kernel_rfl) rfl (by kernel_rfl) (by simp) ?_
  simp only [Try.f17, argsF]
  refine AW.seq (AW.ofx [] mixed (by kernel_rfl) ?_)
  simp
  refine AW.seq (AW.ofx [] mixed (by kernel_rfl) ?_)
  simp
  refine callK.of (hM _) ?_
  rintro y H1 ⟨rfl, rfl⟩
  simp [h0]
  refine AW.seq (AW.ofx [] mixed (by kernel_rfl) ?_)
  simp
  refine callK.pure hF rfl rfl ?_
  cases hft : fits rc.at_ with
  | false =>
    simp
    exact ⟨nb, cap, s, es, hT.app, ⟨Kp.refl.app, by simp, .inl rfl⟩, rfl, rfl⟩
  | true =>
    simp
    refine AW.seq ?_
    refine AW.seq (AW.ofx [] mixed (by kernel_rfl) ?_)
    cases hs : pfind rc.id es 0 with
    | some p =>
      simp [hr, hm, mfind_p, hs, zvPr, Pr.v, Pr.cs]
      rw [setCells_last1 rfl]
      refine AW.seq (AW.ofx [] mixed (by kernel_rfl) ?_)
      simp
      refine AW.cond true (by simp) (fun _ => ?_) (fun e => by cases e)
      refine AW.seq (AW.ofx [] mixed (by kernel_rfl) ?_)
      simp
      refine AW.ofx [] mixed (by kernel_rfl) ?_
      simp
      exact ⟨nb, cap, s, es, hT.app, ⟨Kp.refl.app, by simp, .inl rfl⟩, rfl, rfl⟩
    | none =>
      obtain ⟨s', hs'⟩ := hp2 hft hs
      simp [hr, hm, mfind_p, hs, zvPr, Pr.v, Pr.cs]
      rw [setCells_last1 rfl]
      refine AW.seq (AW.ofx [] mixed (by kernel_rfl) ?_)
      simp
      refine AW.cond false (by simp) (fun e => by cases e) (fun _ => ?_)
      refine AW.ofx [] mixed (by kernel_rfl) ?_
      simp
      have hml := (List.getElem?_eq_some_iff.1 hT.cm).1
      obtain ⟨H3, eH, q1, q2, q3, q4⟩ : ∃ H3, H3 = (killIt mb (H ++ [prB rc, .cells [.v (.sc (.int .i64 0)), .v (.sc (.int .i64 0)), .v (.sc (.int .i64 0)), .v (.sc (.int .i64 0))]])).set mb (.map (es.map entP ++ [(.int .i64 rc.id, .agg [.sc (.int .i64 rc.id), .sc (.int .i64 rc.at_.x), .sc (.int .i64 rc.at_.y), .sc (.int .i64 rc.lab)])])) ∧ TrA H3 r b nb mb cap s (es ++ [rc]) ∧ H3[H.length]? = some (prB rc) ∧ Kp (fun x => x = r ∨ x = nb ∨ x = mb) H H3 ∧ H3.length = H.length + 2 := by
        refine ⟨_, rfl, ?_, ?_, (Kp.refl.app).killed (.inr (.inr rfl)), by simp [hkill_len]⟩
        · have := (hT.app (L := [prB rc, .cells [.v (.sc (.int .i64 0)), .v (.sc (.int .i64 0)), .v (.sc (.int .i64 0)), .v (.sc (.int .i64 0))]])).mapTo (es' := es ++ [rc])
          rw [List.map_append, List.map_cons, List.map_nil] at this
          exact this
        · rw [List.getElem?_set_ne (by omega)]
          exact hkill (by simp) (by intro _ _ _ e; cases e)
      unfold prB at eH q2
      have hP := wputT 18 H3 r nb mb cap s s' _ 0 rc q1 hs'
      unfold Pr.v Pr.cs at hP
      refine AW.seq (AW.ofx [] mixed (by kernel_rfl) ?_)
      simp [hr, hm, mfind_p, hs]
      rw [← eH]
      refine AW.seq (AW.ofx [] mixed (by kernel_rfl) ?_)
      simp [q2]
      refine callK.of hP ?_
      rintro y H4 ⟨nb', cap', h1, h2⟩
      simp
      refine AW.seq (AW.ofx [] mixed (by kernel_rfl) ?_)
      simp
      refine AW.ofx [] mixed (by kernel_rfl) ?_
      simp
      have h3 := Stp3.of (mb := mb) h2
      exact ⟨nb', cap', s', _, h1, ⟨q3.trans h3.kp, by have := h3.len; omega, by rcases h3.nb with h | h <;> omega⟩, hs', rfl⟩
def delE (es : List Pr) (k : Int) : Int := if (pfnd es k).isSome then 0 else 21
def lessP (es : List Pr) (k : Int) : List Pr := es.filter fun t => !decide (t.id = k)
set_option maxHeartbeats 2000000 in
theorem wDelete {H : List Bk} {r b nb mb cap : Nat} {s : Ar} {es : List Pr} (hT : TrA H r b nb mb cap s es) (h0 : 0 < s.A.length) (hn : (es.map Pr.id).Nodup) (k : Int) (hp : ∀ rc, pfnd es k = some rc → ∃ s', dropF b 18 s 0 rc = some s') :
    AFn Try.prog 18 [.ptr r 0, .sc (.int .i64 k)] H fun y H' => y = .sc (.int .i64 (delE es k)) ∧ ∃ s' es', TrA H' r b nb mb cap s' es' ∧ Stp3 r nb mb H H' nb ∧ (∀ rc, pfnd es k = some rc → dropF b 18 s 0 rc = some s' ∧ es' = lessP es k) ∧ (pfnd es k = none → s' = s ∧ es' = es) := by
  have hM := wmade hT
  have hr0 := hT.cr
  unfold trC at hr0
  have hr := fun L => hget (L := L) hr0
  have hm := fun L => hget (L := L) hT.cm
  have hm0 := hT.cm
  have hfs := pfnd_pfind (es := es) k 0
  unfold delE
  rw [← hfs] at *
  refine AFn.intro (fn := Try.f18) (by kernel_rfl) rfl (by kernel_rfl) (by simp) ?_
  simp only [Try.f18, argsF]
  refine AW.seq (AW.ofx [] mixed (by kernel_rfl) ?_)
  simp
  refine AW.seq (AW.ofx [] mixed (by kernel_rfl) ?_)
  simp
  refine callK.of hM ?_
  rintro y H1 ⟨rfl, rfl⟩
  simp [h0]
  refine AW.seq (AW.ofx [] mixed (by kernel_rfl) ?_)
  cases hs : pfind k es 0 with
  | none =>
    simp [hr0, hm0, mfind_p, hs, zvPr, Pr.v, Pr.cs]
    rw [setCells_last rfl]
    refine AW.seq ?_
    refine AW.seq (AW.ofx [] mixed (by kernel_rfl) ?_)
    simp
    refine AW.cond true (by simp) (fun _ => ?_) (fun e => by cases e)
    refine AW.seq (AW.ofx [] mixed (by kernel_rfl) ?_)
    simp
    refine AW.ofx [] mixed (by kernel_rfl) ?_
    simp
    exact ⟨s, es, hT.app, ⟨Kp.refl.app, by simp, .inl rfl⟩, rfl, rfl⟩
  | some p =>
    obtain ⟨j, rc⟩ := p
    obtain ⟨hmem, rfl⟩ := pfind_mem hs
    obtain ⟨j', hj1, hj2⟩ := pfind_some (i := 0) hmem hn
    have hjj : j' = j := by
      rw [hs] at hj1
      simp at hj1
      exact hj1.symm
    subst hjj
    obtain ⟨s', hs'⟩ := hp rc (by rw [← pfnd_pfind rc.id 0, hs]; rfl)
    simp [hr0, hm0, mfind_p, hs, zvPr, Pr.v, Pr.cs]
    rw [setCells_last rfl]
    refine AW.seq ?_
    refine AW.seq (AW.ofx [] mixed (by kernel_rfl) ?_)
    simp
    refine AW.cond false (by simp) (fun e => by cases e) (fun _ => ?_)
    refine AW.ofx [] mixed (by kernel_rfl) ?_
    simp
    have hml := (List.getElem?_eq_some_iff.1 hT.cm).1
    have em : ∀ (l : List Pr) (j : Nat), (l.map entP).eraseIdx j = (l.eraseIdx j).map entP := by
      intro l
      induction l with
      | nil => simp
      | cons a l ih => intro j; cases j <;> simp [ih]
    obtain ⟨H3, eH, q1, q2, q3, q4⟩ : ∃ H3, H3 = (killIt mb (H1 ++ [prB rc])).set mb (.map ((es.map entP).eraseIdx j')) ∧ TrA H3 r b nb mb cap s (lessP es rc.id) ∧ H3[H1.length]? = some (prB rc) ∧ Kp (fun x => x = r ∨ x = nb ∨ x = mb) H1 H3 ∧ H3.length = H1.length + 1 := by
      refine ⟨_, rfl, ?_, ?_, (Kp.refl.app).killed (.inr (.inr rfl)), by simp [hkill_len]⟩
      · have := (hT.app (L := [prB rc])).mapTo (es' := lessP es rc.id)
        rw [em, hj2]
        exact this
      · rw [List.getElem?_set_ne (by omega)]
        exact hkill (by simp) (by intro _ _ _ e; cases e)
    unfold prB at eH q2
    have hP := wdrop q1 hs'
    unfold Pr.v Pr.cs at hP
    refine AW.seq (AW.ofx [] mixed (by kernel_rfl) ?_)
    simp [hr, hm, mfind_p, hs]
    rw [← eH]
    refine AW.seq (AW.ofx [] mixed (by kernel_rfl) ?_)
    simp [q2]
    refine callK.of hP ?_
    rintro y H4 ⟨h1, h2⟩
    simp
    refine AW.seq (AW.ofx [] mixed (by kernel_rfl) ?_)
    simp
    refine AW.ofx [] mixed (by kernel_rfl) ?_
    simp
    have h3 := Stp3.of (mb := mb) h2
    exact ⟨s', _, h1, ⟨q3.trans h3.kp, by have := h3.len; omega, .inl rfl⟩, hs', rfl⟩
def chgE (es : List Pr) (rc : Pr) : Int := if fits rc.at_ then (if (pfnd es rc.id).isSome then 0 else 21) else 1
theorem pfnd_less {es : List Pr} {k : Int} : pfnd (lessP es k) k = none := List.find?_eq_none.2 fun t ht => by simpa using (List.mem_filter.1 ht).2
set_option maxHeartbeats 2000000 in
theorem wChange {H : List Bk} {r b nb mb cap : Nat} {s : Ar} {es : List Pr} (hT : TrA H r b nb mb cap s es) (h0 : 0 < s.A.length) (hn : (es.map Pr.id).Nodup) (rc : Pr) (hp : ∀ old, pfnd es rc.id = some old → fits rc.at_ = true → ∃ s1 s', dropF b 18 s 0 old = some s1 ∧ 0 < s1.A.length ∧ putT b 18 s1 0 rc = some s') :
    AFn Try.prog 28 [.ptr r 0, rc.v] H fun y H' => y = .sc (.int .i64 (chgE es rc)) ∧ ∃ nb' cap' s' es', TrA H' r b nb' mb cap' s' es' ∧ Stp3 r nb mb H H' nb' ∧ (∀ old, pfnd es rc.id = some old → fits rc.at_ = true → ∃ s1, dropF b 18 s 0 old = some s1 ∧ putT b 18 s1 0 rc = some s' ∧ es' = lessP es rc.id ++ [rc]) ∧ (chgE es rc ≠ 0 → s' = s ∧ es' = es) := by
  have hM := fun L => wmade (hT.app (L := L))
  have hF := gFits rc.at_
  have hrl := hT.rl
  have hml := (List.getElem?_eq_some_iff.1 hT.cm).1
  have hnl : nb < H.length := (List.getElem?_eq_some_iff.1 (hT.cn (by have := hT.le; omega))).1
  unfold chgE
  unfold Pt.v Pt.cs at hF
  unfold Pr.v Pr.cs
  refine AFn.intro (fn := Try.f28) (by kernel_rfl) rfl (by kernel_rfl) (by simp) ?_
  simp only [Try.f28, argsF]
  refine AW.seq (AW.ofx [] mixed (by kernel_rfl) ?_)
  simp
  refine AW.seq (AW.ofx [] mixed (by kernel_rfl) ?_)
  simp
  refine callK.of (hM _) ?_
  rintro y H1 ⟨rfl, rfl⟩
  simp [h0]
  refine AW.seq (AW.ofx [] mixed (by kernel_rfl) ?_)
  simp
  refine callK.pure hF rfl rfl ?_
  cases hft : fits rc.at_ with
  | false =>
    simp
    exact ⟨nb, cap, s, es, hT.app, ⟨Kp.refl.app, by simp, .inl rfl⟩, rfl, rfl⟩
  | true =>
    have hD := wDelete (hT.app (L := [prB rc])) h0 hn rc.id (fun old ho => by
      obtain ⟨s1, s', h1, _⟩ := hp old ho hft
      exact ⟨s1, h1⟩)
    have hrc : (H ++ [prB rc])[H.length]? = some (prB rc) := by simp
    simp
    unfold prB at hD hrc
    refine AW.seq (AW.ofx [] mixed (by kernel_rfl) ?_)
    simp
    refine callK.of hD ?_
    rintro y H2 ⟨rfl, s1, es1, hT1, hS1, hg1, hg2⟩
    unfold delE
    cases hpf : pfnd es rc.id with
    | none =>
      obtain ⟨rfl, rfl⟩ := hg2 hpf
      simp
      exact ⟨nb, cap, s1, es1, hT1, ⟨(Kp.refl.app).trans hS1.kp, by have := hS1.len; simp at this; omega, .inl rfl⟩, rfl, rfl⟩
    | some old =>
      obtain ⟨d1, rfl⟩ := hg1 old hpf
      obtain ⟨s1', s', d2, d3, d4⟩ := hp old hpf hft
      rw [d1] at d2
      cases d2
      have hie : insE (lessP es rc.id) rc = 0 := by simp [insE, hft, pfnd_less]
      have hI := wInsert hT1 d3 rc (fun _ => ⟨s', d4⟩)
      rw [hie] at hI
      have hrc2 := hS1.kp _ _ (by omega) hrc (by intro _ _ _ e; cases e)
      unfold Pr.v Pr.cs at hI
      simp
      refine AW.seq (AW.ofx [] mixed (by kernel_rfl) ?_)
      simp [hrc2]
      refine callK.of hI ?_
      rintro y H3 ⟨rfl, nb', cap', s2, es2, hT2, hS2, hg3, _⟩
      obtain ⟨k1, rfl⟩ := hg3 rfl
      simp
      refine AW.ofx [] mixed (by kernel_rfl) ?_
      simp
      have hl1 := hS1.len
      simp at hl1
      have hl2 := hS2.len
      exact ⟨nb', cap', s2, _, hT2, ⟨((Kp.refl.app).trans hS1.kp).trans hS2.kp, by omega, by rcases hS2.nb with h | h <;> omega⟩, s1, d1, k1, rfl⟩
def newE (v : Int) : Bool := decide (1 ≤ v ∧ v ≤ 64)
set_option maxHeartbeats 2000000 in
theorem wNew (v : Int) (H : List Bk) : AFn Try.prog 15 [.sc (.int .i64 v)] H fun y H' => (newE v = false → y = .tup [.sc (.pointer none), .sc (.int .i64 1)] ∧ H' = H) ∧ (newE v = true → ∃ r nb mb cap b s, y = .tup [.ptr r 0, .sc (.int .i64 0)] ∧ v = (b : Nat) ∧ leafF ⟨[], []⟩ root0 = some (s, 0) ∧ TrA H' r b nb mb cap s [] ∧ H.length ≤ r ∧ H.length ≤ nb ∧ H.length ≤ mb ∧ KpA (fun _ => False) H H') := by
  refine AFn.intro (fn := Try.f15) (by kernel_rfl) rfl (by kernel_rfl) (by simp) ?_
  simp only [Try.f15, argsF]
  refine AW.seq (AW.ofx [] mixed (by kernel_rfl) ?_)
  simp
  cases hv : newE v with
  | false =>
    have hv2 : v < 1 ∨ (¬ v < 1 ∧ 64 < v) := by
      have : ¬ (1 ≤ v ∧ v ≤ 64) := by simpa [newE] using hv
      omega
    rcases hv2 with h1 | ⟨h1, h2⟩
    · refine AW.seq (AW.ofx [] mixed (by kernel_rfl) ?_)
      simp [h1]
    · refine AW.seq (AW.ofx [] mixed (by kernel_rfl) ?_)
      simp [h1, h2]
  | true =>
    have hv2 : 1 ≤ v ∧ v ≤ 64 := by simpa [newE] using hv
    have h1 : ¬ v < 1 := by omega
    have h2 : ¬ v > 64 := by omega
    refine AW.seq (AW.ofx [] mixed (by kernel_rfl) ?_)
    simp [h1, h2]
    refine AW.seq (AW.ofx [] mixed (by kernel_rfl) ?_)
    simp
    obtain ⟨b, rfl⟩ : ∃ b : Nat, v = (b : Int) := ⟨v.toNat, by omega⟩
    have w1 := Wk.cell (H := H ++ [Bk.map [], .cells [.v (.sc (.int .i64 (b : Int))), .v .nil, .v .nil, .v (.map H.length)]]) (id := H.length + 1) (off := 1) (ks := [.v (.sc (.int .i64 (b : Int))), .v .nil, .v .nil, .v (.map H.length)]) (x := .v .nil) (y := .v (.slb (H.length + 1) 0 0 0)) (by simp) rfl cellWk.nilB
    have w2 := Wk.cell (H := H ++ [Bk.map [], .cells [.v (.sc (.int .i64 (b : Int))), .v (.slb (H.length + 1) 0 0 0), .v .nil, .v (.map H.length)]]) (id := H.length + 1) (off := 2) (ks := [.v (.sc (.int .i64 (b : Int))), .v (.slb (H.length + 1) 0 0 0), .v .nil, .v (.map H.length)]) (x := .v .nil) (y := .own true 3 0 1 []) (by simp) rfl (cellWk.nil rfl ⟨rfl, rfl, by decide⟩)
    have hs1 : ∀ x y : Bk, ∀ z : Bk, (H ++ [x, y]).set (H.length + 1) z = H ++ [x, z] := fun x y z => by simp
    rw [hs1] at w1 w2
    refine AW.wk (w1.trans w2) ?_
    simp only [List.set_cons_succ, List.set_cons_zero]
    have hT : TrA (H ++ [Bk.map [], .cells [.v (.sc (.int .i64 (b : Int))), .v (.slb (H.length + 1) 0 0 0), .own true 3 0 1 [], .v (.map H.length)]]) (H.length + 1) b (H.length + 1) H.length 0 ⟨[], []⟩ [] := ⟨by simp [trC, frS], fun h => absurd rfl h, by simp, Nat.le_refl _, fun h => absurd rfl h, by omega, by simp⟩
    have hlf : leafF ⟨[], []⟩ root0 = some (⟨[leafN root0], []⟩, 0) := by simp [leafF, big]
    have hL := wleaf hT hlf
    have hK : KpA (fun _ => False) H (H ++ [Bk.map [], .cells [.v (.sc (.int .i64 (b : Int))), .v (.slb (H.length + 1) 0 0 0), .own true 3 0 1 [], .v (.map H.length)]]) := KpA.refl.app
    have hHl : (H ++ [Bk.map [], .cells [.v (.sc (.int .i64 (b : Int))), .v (.slb (H.length + 1) 0 0 0), .own true 3 0 1 [], .v (.map H.length)]]).length = H.length + 2 := by simp
    unfold Ce.v Ce.cs root0 at hL
    generalize H ++ [_, _] = H1 at *
    refine AW.sub [(4, .v (.ptr (H.length + 1) 0)), (2, .v (.sc (.pointer none))), (3, .v (.sc (.int .i64 0)))] (by simp [subF, getF]) ?_
    refine AW.seq (AW.ofx [] mixed (by kernel_rfl) ?_)
    simp
    refine callK.of hL ?_
    rintro y H2 ⟨rfl, nb', cap', k1, k2⟩
    simp
    refine AW.seq (AW.ofx [] mixed (by kernel_rfl) ?_)
    simp
    refine AW.ofx [] mixed (by kernel_rfl) ?_
    simp
    have hc : cap' ≠ 0 := by
      have := k1.le
      simp at this
      omega
    have hrn := k1.rn hc
    have hnb : H.length + 2 ≤ nb' := by
      rcases k2.nb with h | h <;> omega
    refine ⟨nb', H.length, cap', b, rfl, ⟨[leafN root0], []⟩, hlf, k1, by omega, by omega, ?_⟩
    exact KpA.new ((hK.mono fun _ h => h.elim).trans (k2.kp.mono fun x hx => by omega))
end Go.Proofs.Ytmjnffjacgjfmaa
