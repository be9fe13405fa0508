/- A quadtree of points: a record goes; what a rectangle has is told. -/
import Derived.Test.YtmjnffjacgjfmaaJe1
import Derived.Test.YtmjnffjacgjfmaaHz
namespace Go.Proofs.Ytmjnffjacgjfmaa
set_option linter.all false
open Go.RowKit AM
set_option maxRecDepth 10000
attribute [local simp] aw_skip' aw_region' aw_seq' aw_cond' aw_block' aw_loop' aw_exit' aw_label' aw_ret' aops_nil' aops_cons' aop' aMove aAssign aPick aAlloc aBox aBuild slF aBuildSlice aLoad aLoadOwn aLoadS sharesAt shares sharedV aStore aStoreOwn isOwn delR aNilCheck aBin aMakeFunc aFieldAddr aField aIndexOp aIndex partV aIndexAddr aExtract aSliceOp aSlice slV aShrink aCallOp aCall' aInvoke' aLen aLenMap aDelete aMM aUn aConv aIface aAssert aMakeMap aLookup aMapUpdate aRange aNext aEntry entsOf keyB seekK aMakeSlice lookV aApp aAppendB aAppendF aAppend putK layK eval evalV AM.valOf getF putF setF del SV.refers cellsAt rootSV plains shift ldV V.exact V.exactL V.ofValue V.ofPart V.ofCell V.cells V.one Value.oneCell' fitB qSeq qBlock getB afin aret resVs resV resTmps shareF evalS tupV valsS valsV pickV calm calmB lenV useOf feeds shrinks stows looks isT newsV partsV fillV putAt zerosV fitsNil nilB sliceB isEq isNeq awx_skip' awx_region' awx_seq' awx_cond' awx_block' awx_loop' awx_exit' awx_label' awx_ret' xops_nil' xops_cons' xop' xload xcall' addO delO inO putD memB Mix.effB Mix.laysB keysF badK subW weakV zeroRow yops_nil' yops_cons' yop' yload yindex yfield ylen oldO dropO takeO oldL exactB V.fixed V.fixedL
attribute [local simp] awz_skip' awz_region' awz_seq' awz_cond' awz_block' awz_loop' awz_exit' awz_label' awz_ret' zops_nil' zops_cons' zop' zload zloadOwn zcall' zlenK z0 new0 remF old0 dltB
def DropI (H : List Bk) (r b nb mb cap o : Nat) (rc : Pr) (s' : Ar) (es : List Pr) (n : Nat) (F : Fr) (H1 : List Bk) : Prop :=
  ∃ (s1 : Ar) (a1 : Nat), TrA H1 r b nb mb cap s1 es ∧ dropF b n s1 a1 rc = some s' ∧ H1[o]? = some (prB rc) ∧ Stp r nb H H1 nb ∧ F = [(0, .v (.ptr r 0)), (1, .v (.sc (.int .i64 a1))), (5, .v (.ptr o 0))]
/-- The leaf is found. -/
def GoM (H : List Bk) (r b nb mb cap o : Nat) (rc : Pr) (s' : Ar) (es : List Pr) (F : Fr) (H1 : List Bk) : Prop :=
  ∃ (s1 : Ar) (a1 : Nat), TrA H1 r b nb mb cap s1 es ∧ goF s1 a1 rc = some s' ∧ H1[o]? = some (prB rc) ∧ Stp r nb H H1 nb ∧ F = [(0, .v (.ptr r 0)), (1, .v (.sc (.int .i64 a1))), (5, .v (.ptr o 0))]
/-- What has been looked at is another record. -/
def GoI (H3 : List Bk) (r a1 o nb : Nat) (rc : Pr) (l : List Pr) (k : Nat) (F : Fr) (H4 : List Bk) : Prop :=
  (∀ (j : Nat) (hj : j < l.length), j < k → l[j].id ≠ rc.id) ∧ (∃ L, H4 = H3 ++ L) ∧ F = [(0, .v (.ptr r 0)), (1, .v (.sc (.int .i64 a1))), (5, .v (.ptr o 0)), (6, .v (.ptr nb (a1 * 10))), (85, .v (.sl l.length 4 (l.flatMap Pr.cs))), (86, .v (.sc (.int .i64 l.length))), (87, .v (.sc (.int .i64 k)))]
set_option maxHeartbeats 4000000 in
theorem wdrop {b nb mb cap r : Nat} {es : List Pr} {a : Nat} {H : List Bk} {s s' : Ar} {rc : Pr} (hT : TrA H r b nb mb cap s es) (hd : dropF b 18 s a rc = some s') :
    AFn Try.prog 46 [.ptr r 0, .sc (.int .i64 a), rc.v] H fun y H' => TrA H' r b nb mb cap s' es ∧ Stp r nb H H' nb := by
  have hc0 : cap ≠ 0 := by
    obtain ⟨_, q, _, hq, _⟩ := dropF_some hd
    exact hT.cap0 hq
  have hnl := (List.getElem?_eq_some_iff.1 (hT.cn hc0)).1
  have hrl := hT.rl
  refine AFn.post (Q := fun y H' => ∃ H2, Wk H' H2 ∧ TrA H2 r b nb mb cap s' es ∧ Stp r nb H H2 nb) ?_ fun _ _ h => h
  unfold Pr.v Pr.cs
  refine AFn.intro (fn := Try.f46) (by kernel_rfl) rfl (by kernel_rfl) (by simp) ?_
  simp only [Try.f46, argsF]
  refine AW.seq (AW.ofx [] mixed (by kernel_rfl) ?_)
  simp
  refine AW.mid (GoM H r b nb mb cap H.length rc s' es) ?_ ?_
  · refine AW.block (AW.loopW (DropI H r b nb mb cap H.length rc s' es) ⟨18, [(0, .v (.ptr r 0)), (1, .v (.sc (.int .i64 a))), (5, .v (.ptr H.length 0))], ?_, s, a, hT.app (L := [prB rc]), hd, by simp [prB], Stp.refl.app, rfl⟩ ?_)
    · simp [subW, weakV, getF]
    rintro n F H1 ⟨s1, a1, h1, h2, h3, h4, rfl⟩
    obtain ⟨n, q, rfl, hq, hok, h2⟩ := dropF_some h2
    obtain ⟨hc, hm1, hm2, hl⟩ := hok
    have hr := h1.cr
    have hn := h1.cn hc0
    have hrn := h1.rn hc0
    have hal := (List.getElem?_eq_some_iff.1 hq).1
    unfold trC at hr
    have hlen := arC_len s1.A ((cap - s1.A.length) * 10)
    obtain ⟨t8, d8⟩ := drop_split hq ((cap - s1.A.length) * 10)
    obtain ⟨t7, d7⟩ := drop_many hq ((cap - s1.A.length) * 10)
    refine AW.seq (AW.ofx [] mixed (by kernel_rfl) ?_)
    simp [hr, hn, hal, d8]
    by_cases hs : q.split = true
    rotate_left
    · have hs : q.split = false := by simpa using hs
      have hgo : goF s1 a1 rc = some s' := by
        rcases h2 with ⟨_, h⟩ | ⟨h, _⟩ | ⟨h, _⟩
        · exact h
        · rw [hs] at h; cases h
        · rw [hs] at h; cases h
      simp only [hs, gd_ft, qSeq, qBlock]
      refine ⟨_, ?_, s1, a1, h1, hgo, h3, h4, rfl⟩
      simp [subW, weakV, getF]
    · simp only [hs, gd_tt]
      have w1 : IntKind.i64.wrap (q.many - 1) = q.many - 1 := by rw [wrap_i64] <;> omega
      have st : ∀ z, setBlk H1 nb (a1 * 10 + 7) (.v (.sc (.int .i64 z))) = H1.set nb (.cells (arC (s1.A.set a1 { q with many := z }) ((cap - s1.A.length) * 10))) := fun z => by rw [setBlk_eq' hn, set_many hq]
      refine AW.block (AW.seq (AW.ofx [] mixed (by kernel_rfl) ?_))
      simp [hr, hn, hal, d7, w1, setCells, st]
      refine ⟨by omega, ?_⟩
      refine AW.sub [(0, .v (.ptr r 0)), (1, .v (.sc (.int .i64 a1))), (5, .v (.ptr H.length 0))] (by simp [subF, getF]) ?_
      have h1' := h1.node { q with many := q.many - 1 } hq
      have h3' : (H1.set nb (.cells (arC (s1.A.set a1 { q with many := q.many - 1 }) ((cap - s1.A.length) * 10))))[H.length]? = some (prB rc) := by rw [List.getElem?_set_ne (by omega)]; exact h3
      have h4' := h4.set (k := .cells (arC (s1.A.set a1 { q with many := q.many - 1 }) ((cap - s1.A.length) * 10))) (.inr (.inl rfl))
      have hq' : (s1.A.set a1 { q with many := q.many - 1 })[a1]? = some { q with many := q.many - 1 } := List.getElem?_set_self hal
      have hal' : a1 < (s1.A.set a1 { q with many := q.many - 1 }).length := by simpa using hal
      have hMg := fun s2 h => wmerge (s' := s2) (a := a1) h1' h
      generalize H1.set nb _ = H2 at *
      have hr2 := h1'.cr
      have hn2 := h1'.cn hc0
      obtain ⟨t7', d7'⟩ := drop_many hq' ((cap - (s1.A.set a1 { q with many := q.many - 1 }).length) * 10)
      have hpr := h3'
      unfold trC at hr2
      unfold prB at hpr
      refine AW.seq (AW.ofx [] mixed (by kernel_rfl) ?_)
      simp only [List.length_set] at hr2 hn2 d7' hal'
      simp [hr2, hn2, hal', d7']
      refine gd.intro (fun hb => ?_) (fun hb => ?_)
      · have hb : q.many - 1 ≤ (b : Int) := by simpa using hb
        obtain ⟨s2, q2, m1, m2, m3, m4⟩ : ∃ s2 q2, mergeF 18 ⟨s1.A.set a1 { q with many := q.many - 1 }, s1.fr⟩ a1 = some s2 ∧ s2.A[a1]? = some q2 ∧ okN q2 ∧ goF ⟨s2.A.set a1 { q2 with many := q2.many + 1 }, s2.fr⟩ a1 rc = some s' := by
          rcases h2 with ⟨h, _⟩ | ⟨_, _, h⟩ | ⟨_, h, _⟩
          · rw [hs] at h; cases h
          · exact h
          · exact absurd hb h
        refine callK.of (hMg s2 m1) ?_
        rintro y H3 ⟨hT3, hS3⟩
        have hr3 := hT3.cr
        have hn3 := hT3.cn hc0
        have hal3 := (List.getElem?_eq_some_iff.1 m2).1
        have hlen3 := arC_len s2.A ((cap - s2.A.length) * 10)
        obtain ⟨t7'', d7''⟩ := drop_many m2 ((cap - s2.A.length) * 10)
        obtain ⟨_, n1, n2, _⟩ := m3
        have w2 : IntKind.i64.wrap (q2.many + 1) = q2.many + 1 := by rw [wrap_i64] <;> omega
        have st2 : ∀ z, setBlk H3 nb (a1 * 10 + 7) (.v (.sc (.int .i64 z))) = H3.set nb (.cells (arC (s2.A.set a1 { q2 with many := z }) ((cap - s2.A.length) * 10))) := fun z => by rw [setBlk_eq' hn3, set_many m2]
        have hT4 := hT3.node { q2 with many := q2.many + 1 } m2
        have hS4 := (h4'.trans hS3).set (i := nb) (k := .cells (arC (s2.A.set a1 { q2 with many := q2.many + 1 }) ((cap - s2.A.length) * 10))) (.inr (.inl rfl))
        have hp3 : H3[H.length]? = some (prB rc) := hS3.kp _ _ (by omega) h3'
        unfold trC at hr3
        simp [hr3, hn3, hal3, d7'', w2, setCells, st2]
        refine ⟨by omega, _, ?_, _, a1, hT4, m4, ?_, hS4, rfl⟩
        · simp [subW, weakV, getF]
        · rw [List.getElem?_set_ne (by omega)]
          exact hp3
      · have hb : ¬ q.many - 1 ≤ (b : Int) := by simpa using hb
        obtain ⟨a2, hk, hd2⟩ : ∃ a2 : Nat, q.kid (kidF rc.at_ q.c.l) = (a2 : Int) ∧ dropF b n ⟨s1.A.set a1 { q with many := q.many - 1 }, s1.fr⟩ a2 rc = some s' := by
          rcases h2 with ⟨h, _⟩ | ⟨_, h, _⟩ | ⟨_, _, h⟩
          · rw [hs] at h; cases h
          · exact absurd h hb
          · exact h
        have hk' : ({ q with many := q.many - 1 } : Qn).kid (kidF rc.at_ q.c.l) = (a2 : Int) := by rw [← hk]; rcases (show kidF rc.at_ q.c.l = 0 ∨ kidF rc.at_ q.c.l = 1 ∨ kidF rc.at_ q.c.l = 2 ∨ kidF rc.at_ q.c.l = 3 by have := kidF_lt rc.at_ q.c.l; omega) with e | e | e | e <;> rw [e] <;> rfl
        have hK := wkid (p := rc.at_) h1' hq' hc
        have hV := kid_view (p := rc.at_) h1' hq'
        obtain ⟨tk, dk⟩ := drop_kid hq' ((cap - s1.A.length) * 10) (kidF rc.at_ q.c.l) (kidF_lt _ _)
        rw [hk'] at dk
        have hkl := kidF_lt rc.at_ q.c.l
        unfold Pt.v Pt.cs at hV
        simp only [List.length_set] at hK hV
        generalize kidF rc.at_ q.c.l = ki at *
        generalize hA2 : s1.A.set a1 _ = A2 at *
        have hlA : A2.length = s1.A.length := by rw [← hA2, List.length_set]
        refine AW.sub [(0, .v (.ptr r 0)), (1, .v (.sc (.int .i64 a1))), (5, .v (.ptr H.length 0))] (by simp [subF, getF]) ?_
        refine AW.ofz [(6, 12, [])] mixed (by kernel_rfl) ?_
        simp [hr2, hn2, hal', hpr, hkl, dk]
        refine zcallK.see hK hV rfl ?_
        simp [hr2, hn2, hal', hpr, hkl, dk]
        refine ⟨by omega, n, by omega, [(0, .v (.ptr r 0)), (1, .v (.sc (.int .i64 a2))), (5, .v (.ptr H.length 0))], ?_, ⟨A2, s1.fr⟩, a2, h1', hd2, h3', h4', rfl⟩
        simp [subW, weakV, getF]
  · rintro F H1 ⟨s1, a1, h1, h2, h3, h4, rfl⟩
    obtain ⟨q, hq, hok, ⟨x0, hx0, hx1⟩, rfl⟩ := goF_some h2
    obtain ⟨hc, hm1, hm2, hl⟩ := hok
    have hr := h1.cr
    have hn := h1.cn hc0
    have hrn := h1.rn hc0
    have hal := (List.getElem?_eq_some_iff.1 hq).1
    unfold trC at hr
    have hlen := arC_len s1.A ((cap - s1.A.length) * 10)
    obtain ⟨t7, d7⟩ := drop_many hq ((cap - s1.A.length) * 10)
    have w1 : IntKind.i64.wrap (q.many - 1) = q.many - 1 := by rw [wrap_i64] <;> omega
    have st : ∀ z, setBlk H1 nb (a1 * 10 + 7) (.v (.sc (.int .i64 z))) = H1.set nb (.cells (arC (s1.A.set a1 { q with many := z }) ((cap - s1.A.length) * 10))) := fun z => by rw [setBlk_eq' hn, set_many hq]
    refine AW.seq (AW.ofx [] mixed (by kernel_rfl) ?_)
    simp [hr, hn, hal]
    refine AW.seq (AW.ofx [] mixed (by kernel_rfl) ?_)
    simp [hn, d7, w1, setCells, st]
    refine ⟨by omega, ?_⟩
    refine AW.sub [(0, .v (.ptr r 0)), (1, .v (.sc (.int .i64 a1))), (5, .v (.ptr H.length 0)), (6, .v (.ptr nb (a1 * 10)))] (by simp [subF, getF]) ?_
    have h1' := h1.node { q with many := q.many - 1 } hq
    have h3' : (H1.set nb (.cells (arC (s1.A.set a1 { q with many := q.many - 1 }) ((cap - s1.A.length) * 10))))[H.length]? = some (prB rc) := by rw [List.getElem?_set_ne (by omega)]; exact h3
    have h4' := h4.set (k := .cells (arC (s1.A.set a1 { q with many := q.many - 1 }) ((cap - s1.A.length) * 10))) (.inr (.inl rfl))
    have hq' : (s1.A.set a1 { q with many := q.many - 1 })[a1]? = some { q with many := q.many - 1 } := List.getElem?_set_self hal
    have hnode := fun f l => h1'.node { q with many := q.many - 1, l := l, full := f } hq'
    have hge := get_rows hq' ((cap - s1.A.length) * 10)
    have hse := fun f l => set_rows hq' ((cap - s1.A.length) * 10) f l
    have hn2 := h1'.cn hc0
    have hlen2 := arC_len (s1.A.set a1 { q with many := q.many - 1 }) ((cap - s1.A.length) * 10)
    generalize H1.set nb _ = H2 at *
    simp only [List.set_set, List.length_set] at hnode hse hn2 hlen2
    have hnl2 := (List.getElem?_eq_some_iff.1 hn2).1
    generalize arC (s1.A.set a1 { q with many := q.many - 1 }) ((cap - s1.A.length) * 10) = ac at hn2 hge hse hlen2
    have hol : a1 * 10 + 9 < ac.length := (List.getElem?_eq_some_iff.1 hge).1
    -- the row is seen as a slice from here on
    refine AW.wk (Wk.cell (y := .v (lV q.l)) hn2 hge ⟨rfl, fun c w r' v hv => ?_⟩) ?_
    · cases hf : q.full with
      | true =>
        have hv : SRel c w r' (lC q.full q.l) v := hv
        rw [hf] at hv
        exact lV_weak _ _ _ _ hv
      | false =>
        have hv : SRel c w r' (lC q.full q.l) v := hv
        rw [hf] at hv
        exact own_sl hv
    obtain ⟨H3, hH3⟩ : ∃ H3, H3 = H2.set nb (.cells (ac.set (a1 * 10 + 9) (.v (lV q.l)))) := ⟨_, rfl⟩
    have g1 : H3[nb]? = some (.cells (ac.set (a1 * 10 + 9) (.v (lV q.l)))) := by rw [hH3]; exact List.getElem?_set_self hnl2
    have g2 : H3[H.length]? = some (prB rc) := by rw [hH3, List.getElem?_set_ne (by omega)]; exact h3'
    have g3 : ∀ K, H3.set nb K = H2.set nb K := fun K => by rw [hH3, List.set_set]
    rw [← hH3]
    have hdr : ∃ tl, (ac.set (a1 * 10 + 9) (.v (lV q.l))).drop (a1 * 10 + 9) = .v (.sl q.l.length 4 (q.l.flatMap Pr.cs)) :: tl := by
      rw [List.drop_eq_getElem_cons (by simpa using hol)]
      exact ⟨_, by simp [lV]; rfl⟩
    obtain ⟨t9, d9⟩ := hdr
    have hlen3 : (ac.set (a1 * 10 + 9) (.v (lV q.l))).length = ac.length := by simp
    refine AW.seq (AW.ofx [] mixed (by kernel_rfl) ?_)
    simp [g1, d9]
    refine AW.block (AW.count q.l.length (GoI H3 r a1 H.length nb rc q.l) ⟨[(0, .v (.ptr r 0)), (1, .v (.sc (.int .i64 a1))), (5, .v (.ptr H.length 0)), (6, .v (.ptr nb (a1 * 10))), (85, .v (.sl q.l.length 4 (q.l.flatMap Pr.cs))), (86, .v (.sc (.int .i64 q.l.length))), (87, .v (.sc (.int .i64 0)))], ?_, fun j hj h => by omega, ⟨[], by simp⟩, rfl⟩ ?_)
    · simp [subW, weakV, getF]
    rintro k F H4 hk ⟨b1, ⟨L, rfl⟩, rfl⟩
    by_cases hkl : k = q.l.length
    · exfalso
      subst hkl
      obtain ⟨j, hj, hjx⟩ := List.getElem_of_mem hx0
      exact b1 j hj hj (by rw [hjx]; exact hx1)
    · have hlt : k < q.l.length := by omega
      have hltI : (k : Int) < (q.l.length : Int) := by omega
      have hrow := rowP hlt
      have hnl3 := (List.getElem?_eq_some_iff.1 g1).1
      have g1' := fun M => hget (L := M) g1
      have g2' := fun M => hget (L := M) g2
      obtain ⟨x, hx⟩ : ∃ x, x = q.l[k] := ⟨_, rfl⟩
      rw [← hx] at hrow
      rw [Pr.cs_eq] at hrow
      unfold prB at g2'
      refine AW.seq (AW.ofx [] mixed (by kernel_rfl) ?_)
      simp [hltI]
      refine AW.seq (AW.ofx [] mixed (by kernel_rfl) ?_)
      simp
      refine AW.seq (AW.block (AW.seq (AW.ofx [] mixed (by kernel_rfl) ?_)))
      simp [hltI, hlt, hrow]
      have hlast : ∀ (xs : List V), xs.length = 4 → setCells (H3 ++ (L ++ [Bk.cells [.v (.sc (.int .i64 0)), .v (.sc (.int .i64 0)), .v (.sc (.int .i64 0)), .v (.sc (.int .i64 0))]])) (H3.length + L.length) 0 xs = H3 ++ (L ++ [.cells (xs.map .v)]) := fun xs hxs => by
        have := setCells_last (L := H3 ++ L) (ks := [.v (.sc (.int .i64 0)), .v (.sc (.int .i64 0)), .v (.sc (.int .i64 0)), .v (.sc (.int .i64 0))]) (xs := xs) hxs
        simpa using this
      rw [hlast _ rfl]
      refine AW.sub [(0, .v (.ptr r 0)), (1, .v (.sc (.int .i64 a1))), (5, .v (.ptr H.length 0)), (6, .v (.ptr nb (a1 * 10))), (85, .v (.sl q.l.length 4 (q.l.flatMap Pr.cs))), (86, .v (.sc (.int .i64 q.l.length))), (87, .v (.sc (.int .i64 k))), (7, .v (.sc (.int .i64 k))), (8, .v (.ptr (H3.length + L.length) 0))] (by simp [subF, getF]) ?_
      have hxb : (H3 ++ (L ++ [Bk.cells ([V.sc (.int .i64 x.id), .sc (.int .i64 x.at_.x), .sc (.int .i64 x.at_.y), .sc (.int .i64 x.lab)].map SV.v)]))[H3.length + L.length]? = some (prB x) := by
        rw [← List.append_assoc, List.getElem?_append_right (by simp)]
        simp [prB]
      have hn5 := g1' (L ++ [Bk.cells ([V.sc (.int .i64 x.id), .sc (.int .i64 x.at_.x), .sc (.int .i64 x.at_.y), .sc (.int .i64 x.lab)].map SV.v)])
      have ho5 := g2' (L ++ [Bk.cells ([V.sc (.int .i64 x.id), .sc (.int .i64 x.at_.x), .sc (.int .i64 x.at_.y), .sc (.int .i64 x.lab)].map SV.v)])
      obtain ⟨L5, hL5⟩ : ∃ L5, L5 = L ++ [Bk.cells ([V.sc (.int .i64 x.id), .sc (.int .i64 x.at_.x), .sc (.int .i64 x.at_.y), .sc (.int .i64 x.lab)].map SV.v)] := ⟨_, rfl⟩
      rw [← hL5] at hxb hn5 ho5 ⊢
      have hset : ∀ K, (H3 ++ L5).set nb K = H2.set nb K ++ L5 := fun K => by rw [List.set_append_left _ _ hnl3, g3]
      have hnl5 : nb < (H3 ++ L5).length := (List.getElem?_eq_some_iff.1 hn5).1
      unfold prB at hxb
      generalize hH5 : H3 ++ L5 = H5 at *
      by_cases hid : x.id = rc.id
      · have hidb : (x.id == rc.id) = true := by simpa using hid
        have hkl1 : k + 1 ≤ q.l.length := hlt
        have hp1 := piece_head (l := q.l) (k := k) (by omega)
        have hp2 := piece_tail (l := q.l) (k := k + 1) hlt
        have w3 : IntKind.i64.wrap ((k : Int) + 1) = (k : Int) + 1 := by rw [wrap_i64] <;> omega
        have n2 : ((q.l.length : Int) - ((k : Int) + 1)).toNat = q.l.length - (k + 1) := by omega
        rw [show (((k + 1 : Nat) : Int)) = (k : Int) + 1 by omega] at hp2
        have stz : ∀ z, setBlk H5 nb (a1 * 10 + 9) z = H2.set nb (.cells (ac.set (a1 * 10 + 9) z)) ++ L5 := fun z => by rw [setBlk_eq' hn5, List.set_set, hset]
        obtain ⟨hdl, hfl⟩ := dropL_at (i := rc.id) (f := q.full) hlt b1 (by rw [← hx]; exact hid)
        have c1 : (k : Int) ≤ (q.l.length : Int) := by omega
        have c2 : (k : Int) + 1 ≤ (q.l.length : Int) := by omega
        have c3 : (0 : Int) ≤ (k : Int) + 1 := by omega
        refine AW.ofx [] mixed (by kernel_rfl) ?_
        simp [hxb, ho5, hidb, hn5, d9, boundOf, hp1, hp2, w3, n2, stz, c1, c2, c3]
        have hres : ∀ f l, dropL rc.id q.l = l → fullL rc.id q.l q.full = f → TrA (H2.set nb (.cells (ac.set (a1 * 10 + 9) (lC f l))) ++ L5) r b nb mb cap ⟨s1.A.set a1 { q with many := q.many - 1, l := dropL rc.id q.l, full := fullL rc.id q.l q.full }, s1.fr⟩ es ∧ Stp r nb H (H2.set nb (.cells (ac.set (a1 * 10 + 9) (lC f l))) ++ L5) nb := by
          rintro f l rfl rfl
          rw [hse]
          exact ⟨(hnode _ _).app, (h4'.set (.inr (.inl rfl))).app⟩
        refine ⟨⟨by omega, by omega⟩, fun hm => ⟨by omega, ?_⟩, fun hm => ⟨by omega, ?_⟩⟩
        · have hkk : k + 1 = q.l.length := by omega
          have hd0 : q.l.drop (k + 1) = [] := List.drop_of_length_le (by omega)
          rw [hd0, List.append_nil] at hdl
          rw [hd0] at hfl
          refine ⟨_, ?_, hres true _ hdl hfl⟩
          rw [setCells_one, stz, lC_fs, List.length_take, show min k q.l.length = k by omega]
          exact Wk.refl _
        · have hdn : (q.l.drop (k + 1)).isEmpty = false := by
            cases hd : q.l.drop (k + 1) with
            | nil =>
              have := congrArg List.length hd
              simp at this
              omega
            | cons y ys => rfl
          rw [hdn] at hfl
          refine ⟨_, ?_, hres false _ hdl hfl⟩
          have hb6 : ∀ K, (H2.set nb K ++ L5)[nb]? = some K := fun K => by
            rw [List.getElem?_append_left (by simpa using hnl2), List.getElem?_set_self hnl2]
          have hsh := Wk.share (H := H2.set nb (.cells (ac.set (a1 * 10 + 9) (.own true 32 (k + (q.l.length - (k + 1))) 4 ((q.l.take k).flatMap Pr.cs ++ (q.l.drop (k + 1)).flatMap Pr.cs)))) ++ L5) (id := nb) (off := a1 * 10 + 9) (hb6 _) (List.getElem?_set_self hol)
          rw [List.set_append_left _ _ (by simpa using hnl2), List.set_set, List.set_set] at hsh
          rw [lC_own, List.flatMap_append]
          have hlen9 : (q.l.take k ++ q.l.drop (k + 1)).length = k + (q.l.length - (k + 1)) := by simp; omega
          rw [hlen9]
          exact hsh
      · have hidb : (x.id == rc.id) = false := by simpa using hid
        refine AW.ofx [] mixed (by kernel_rfl) ?_
        simp [hxb, ho5, hidb]
        refine AW.ofx [] mixed (by kernel_rfl) ?_
        have w2 : IntKind.i64.wrap ((k : Int) + 1) = (k + 1 : Nat) := by rw [wrap_i64] <;> omega
        simp [w2]
        refine ⟨_, ?_, fun j hj hjk => ?_, ⟨L5, hH5.symm⟩, rfl⟩
        · simp [subW, weakV, getF]
        · by_cases e : j = k
          · subst e
            rw [← hx]
            exact hid
          · exact b1 j hj (by omega)
end Go.Proofs.Ytmjnffjacgjfmaa
namespace Go.Proofs.Ytmjnffjacgjfmaa
set_option linter.all false
open Go.RowKit AM
set_option maxRecDepth 10000
attribute [local simp] aw_skip' aw_region' aw_seq' aw_cond' aw_block' aw_loop' aw_exit' aw_label' aw_ret' aops_nil' aops_cons' aop' aMove aAssign aPick aAlloc aBox aBuild slF aBuildSlice aLoad aLoadOwn aLoadS sharesAt shares sharedV aStore aStoreOwn isOwn delR aNilCheck aBin aMakeFunc aFieldAddr aField aIndexOp aIndex partV aIndexAddr aExtract aSliceOp aSlice slV aShrink aCallOp aCall' aInvoke' aLen aLenMap aDelete aMM aUn aConv aIface aAssert aMakeMap aLookup aMapUpdate aRange aNext aEntry entsOf keyB seekK aMakeSlice lookV aApp aAppendB aAppendF aAppend putK layK eval evalV AM.valOf getF putF setF del SV.refers cellsAt rootSV plains shift ldV V.exact V.exactL V.ofValue V.ofPart V.ofCell V.cells V.one Value.oneCell' fitB qSeq qBlock getB afin aret resVs resV resTmps shareF evalS tupV valsS valsV pickV calm calmB lenV useOf feeds shrinks stows looks isT newsV partsV fillV putAt zerosV fitsNil nilB sliceB isEq isNeq awx_skip' awx_region' awx_seq' awx_cond' awx_block' awx_loop' awx_exit' awx_label' awx_ret' xops_nil' xops_cons' xop' xload xcall' addO delO inO putD memB Mix.effB Mix.laysB keysF badK subW weakV zeroRow yops_nil' yops_cons' yop' yload yindex yfield ylen oldO dropO takeO oldL exactB V.fixed V.fixedL
attribute [local simp] awz_skip' awz_region' awz_seq' awz_cond' awz_block' awz_loop' awz_exit' awz_label' awz_ret' zops_nil' zops_cons' zop' zload zloadOwn zcall' zlenK z0 new0 remF old0 dltB
def reC (r : Re) : Bk := .cells [.v (.sc (.int .i64 r.x0)), .v (.sc (.int .i64 r.y0)), .v (.sc (.int .i64 r.x1)), .v (.sc (.int .i64 r.y1))]
def WinI (H : List Bk) (r a o : Nat) (q : Qn) (rc : Re) (fv : V) (Tl : List Pr → Bk → Prop) (told : List Pr) (i : Nat) (F : Fr) (H1 : List Bk) : Prop :=
  Told H o Tl (told ++ (q.l.take i).filter fun x => hasR rc x.at_) H1 ∧ H1[H.length]? = some (reC rc) ∧ H1[H.length + 1]? = some (ndB q) ∧
    F = [(0, .v (.ptr r 0)), (1, .v (.sc (.int .i64 a))), (3, .v fv), (6, .v (.ptr H.length 0)), (8, .v (.ptr (H.length + 1) 0)), (47, .v (lV q.l)), (48, .v (.sc (.int .i64 q.l.length))), (49, .v (.sc (.int .i64 i)))]
def WinK (H : List Bk) (r a o : Nat) (A : List Qn) (n : Nat) (q : Qn) (rc : Re) (fv : V) (Tl : List Pr → Bk → Prop) (told : List Pr) (i : Nat) (F : Fr) (H1 : List Bk) : Prop :=
  ∃ Lk, runs (kidDo q fun u a' => (windF A rc n a').map (u ++ ·)) (q.l.filter fun r => hasR rc r.at_) i = some Lk ∧ Told H o Tl (told ++ Lk) H1 ∧ H1[H.length]? = some (reC rc) ∧
    F = [(0, .v (.ptr r 0)), (1, .v (.sc (.int .i64 a))), (3, .v fv), (6, .v (.ptr H.length 0)), (64, .v (.agg [.sc (.int .i64 q.k0), .sc (.int .i64 q.k1), .sc (.int .i64 q.k2), .sc (.int .i64 q.k3)])), (65, .v (.sc (.int .i64 i)))]
def WinP (A : List Qn) (n : Nat) (q : Qn) (rc : Re) (L : List Pr) : Prop := (q.split = false ∧ L = q.l.filter fun r => hasR rc r.at_) ∨ (q.split = true ∧ runs (kidDo q fun u a' => (windF A rc n a').map (u ++ ·)) (q.l.filter fun r => hasR rc r.at_) 4 = some L)
set_option maxHeartbeats 8000000 in
theorem wwindow {g : FuncId} {first cap' : List V} {o : Nat} {Tl : List Pr → Bk → Prop} (hg : Tells g first cap' o Tl) {b nb mb cap r : Nat} {s : Ar} {es : List Pr} (hor : o ≠ r) (hon : o ≠ nb) (hom : o ≠ mb) (rc : Re) :
    ∀ (n a : Nat) (H : List Bk) (told L : List Pr) (bk : Bk), TrA H r b nb mb cap s es → H[o]? = some bk → Tl told bk → windF s.A rc n a = some L → told.length + L.length ≤ 1000000000000 →
    AFn Try.prog 51 [.ptr r 0, .sc (.int .i64 a), rc.v, .fn (.func g) first cap'] H fun y H' => Told H o Tl (told ++ L) H' := by
  intro n
  induction n with
  | zero => intro a H told L bk _ _ _ h; cases h
  | succ n ih =>
  intro a H told L bk hT ho htl hL hlen
  obtain ⟨n', q, hn', hq, hok, hcase⟩ := windF_some hL
  cases hn'
  obtain ⟨hc, hm1, hm2, hl⟩ := hok
  have hc0 := hT.cap0 hq
  have hr := hT.cr
  have hn := hT.cn hc0
  have hal := (List.getElem?_eq_some_iff.1 hq).1
  unfold trC at hr
  have hr' := fun L => hget (L := L) hr
  have hn' := fun L => hget (L := L) hn
  obtain ⟨t0, d0⟩ := drop_cell hq ((cap - s.A.length) * 10)
  unfold Re.v Re.cs
  refine AFn.intro (fn := Try.f51) (by kernel_rfl) rfl (by kernel_rfl) (by simp) ?_
  simp only [Try.f51, argsF]
  refine AW.seq (AW.ofx [] mixed (by kernel_rfl) ?_)
  simp
  refine AW.mid (fun F H1 => F = [(0, .v (.ptr r 0)), (1, .v (.sc (.int .i64 a))), (3, .v (.fn (.func g) first cap')), (6, .v (.ptr H.length 0)), (8, .v (.ptr (H.length + 1) 0))] ∧ Wk H1 (H ++ [reC rc] ++ [ndB q])) (AW.ofx [] mixed (by kernel_rfl) ?_) ?_
  · have hsl : ∀ xs : List V, xs.length = 10 → setCells (H ++ [reC rc, Bk.cells [.v (.sc (.int .i64 0)), .v (.sc (.int .i64 0)), .v (.sc (.int .i64 0)), .v (.sc (.int .i64 0)), .v (.sc (.int .i64 0)), .v (.sc (.int .i64 0)), .v (.sc (.int .i64 0)), .v (.sc (.int .i64 0)), .v (.sc (.bool false)), .v .nil]]) (H.length + 1) 0 xs = H ++ [reC rc] ++ [.cells (xs.map .v)] := fun xs hx => by rw [setCells_last1 hx]; simp
    unfold reC at hsl
    by_cases hql : q.full = true
    · simp only [hql, lC_fs] at d0
      simp [hr', hn', hal, d0]
      rw [hsl _ rfl]
      refine ⟨_, ?_, rfl, by have := ndB_wk (L := H ++ [reC rc]) (q := q); simpa [reC] using this⟩
      simp [subW, weakV, getF]
    · have hql : q.full = false := by simpa using hql
      simp only [hql, lC_own] at d0
      simp [hr', hn', hal, d0]
      rw [hsl _ rfl]
      refine ⟨_, ?_, rfl, by have := Wk.refl (H ++ [reC rc] ++ [ndB q]); simpa [reC, ndB, lV] using this⟩
      simp [subW, weakV, getF]
  · rintro F H1 ⟨rfl, hwk⟩
    refine AW.wk hwk ?_
    clear hwk
    have hol := (List.getElem?_eq_some_iff.1 ho).1
    have hk1 : KpA (fun x => x = o) H (H ++ [reC rc] ++ [ndB q]) := KpA.refl.app.app
    have hl1 : H.length ≤ (H ++ [reC rc] ++ [ndB q]).length := by simp
    have ho1 := hget (L := [ndB q]) (hget (L := [reC rc]) ho)
    have hrc1 : (H ++ [reC rc] ++ [ndB q])[H.length]? = some (reC rc) := by simp
    have hnd1 : (H ++ [reC rc] ++ [ndB q])[H.length + 1]? = some (ndB q) := by simp
    have hT1 := (hT.app (L := [reC rc])).app (L := [ndB q])
    have hlH1 : (H ++ [reC rc] ++ [ndB q]).length = H.length + 2 := by simp
    generalize H ++ [reC rc] ++ [ndB q] = H1 at *
    have hnd1' := hnd1
    have hrc1' := hrc1
    unfold ndB lV at hnd1'
    unfold reC at hrc1'
    have hB := cBox q.c
    have hM := gMeets (boxR q.c).1 rc
    have hI := gIn (boxR q.c).1 rc
    generalize boxR q.c = bx at *
    obtain ⟨bx, bok⟩ := bx
    simp only at hB hM hI hcase
    unfold Ce.v Ce.cs Re.v Re.cs at hB
    unfold Re.v Re.cs at hM hI
    refine AW.seq (AW.ofx [] mixed (by kernel_rfl) ?_)
    simp [hnd1']
    refine callK.pure hB rfl rfl ?_
    simp
    rw [setCells_last rfl]
    refine AW.sub [(0, .v (.ptr r 0)), (1, .v (.sc (.int .i64 a))), (3, .v (.fn (.func g) first cap')), (6, .v (.ptr H.length 0)), (8, .v (.ptr (H.length + 1) 0)), (9, .v (.ptr H1.length 0))] (by simp [subF, getF]) ?_
    have hT2 := hT1.app (L := [reC bx])
    have hk2 : KpA (fun x => x = o) H (H1 ++ [reC bx]) := hk1.app
    have hl2 : H.length ≤ (H1 ++ [reC bx]).length := by simp; omega
    have ho2 := hget (L := [reC bx]) ho1
    have hrc2 := hget (L := [reC bx]) hrc1
    have hnd2 := hget (L := [reC bx]) hnd1
    have hbx2 : (H1 ++ [reC bx])[H1.length]? = some (reC bx) := by simp
    change AW _ _ _ _ ⟨_, H1 ++ [reC bx]⟩
    generalize H1 ++ [reC bx] = H2 at *
    have hrc2' := hrc2
    have hnd2' := hnd2
    unfold reC at hrc2' hbx2
    unfold ndB lV at hnd2'
    have hToldH2 : Told H o Tl told H2 := ⟨hk2, hl2, bk, ho2, htl⟩
    refine AW.mid (fun F H3 => F = [(0, .v (.ptr r 0)), (1, .v (.sc (.int .i64 a))), (3, .v (.fn (.func g) first cap')), (6, .v (.ptr H.length 0)), (8, .v (.ptr (H.length + 1) 0))] ∧ H3 = H2 ∧ WinP s.A n q rc L) (AW.block (AW.seq (AW.ofx [] mixed (by kernel_rfl) ?_))) ?_
    · by_cases hm0 : q.many = 0
      · have hm0' : (q.many == 0) = true := by simpa using hm0
        rcases hcase with ⟨_, rfl⟩ | ⟨h, _⟩ | ⟨h, _⟩
        rotate_left
        · exact absurd (.inl hm0) h
        · exact absurd (.inl hm0) h
        simp [hnd2', hm0']
        refine AW.ofx [] mixed (by kernel_rfl) ?_
        simp
        exact hToldH2
      · have hm0' : (q.many == 0) = false := by simpa using hm0
        simp [hnd2', hm0', hbx2, hrc2']
        refine callK.pure hM rfl rfl ?_
        rcases hcase with ⟨h, rfl⟩ | ⟨h, hin, hE⟩ | ⟨h, hin, hrest⟩
        · have hme : meetsR bx rc = false := h.resolve_left hm0
          simp [hme]
          refine AW.ofx [] mixed (by kernel_rfl) ?_
          simp
          exact hToldH2
        · have hme : meetsR bx rc = true := by
            cases hb : meetsR bx rc with
            | true => rfl
            | false => exact absurd (.inr hb) h
          have hEa := weach hg hor hon hom 18 a H2 told L bk hT2 ho2 htl hE hlen
          simp [hme]
          refine AW.ofx [] mixed (by kernel_rfl) ?_
          simp [hbx2, hrc2']
          refine callK.pure hI rfl rfl ?_
          simp [hin]
          refine callK.of hEa ?_
          rintro y H3 hT3
          simp
          exact Told.trans hk2 hl2 hT3
        · have hme : meetsR bx rc = true := by
            cases hb : meetsR bx rc with
            | true => rfl
            | false => exact absurd (.inr hb) h
          simp [hme]
          refine AW.ofx [] mixed (by kernel_rfl) ?_
          simp [hbx2, hrc2']
          refine callK.pure hI rfl rfl ?_
          simp [hin]
          refine ⟨_, ?_, rfl, hrest⟩
          simp [subW, weakV, getF]
    · rintro F H3 ⟨rfl, rfl, hwin⟩
      clear hcase
      have hlenR : (q.l.filter fun r => hasR rc r.at_).length ≤ L.length := by
        rcases hwin with ⟨_, rfl⟩ | ⟨_, hrun⟩
        · exact Nat.le_refl _
        · exact runs_len hrun (Nat.zero_le _) rfl
      refine AW.mid (WinI H r a o q rc (.fn (.func g) first cap') Tl told q.l.length) ?_ ?_
      · refine AW.seq (AW.ofx [] mixed (by kernel_rfl) ?_)
        simp [hnd2']
        refine AW.block (AW.count q.l.length (WinI H r a o q rc (.fn (.func g) first cap') Tl told) ⟨[(0, .v (.ptr r 0)), (1, .v (.sc (.int .i64 a))), (3, .v (.fn (.func g) first cap')), (6, .v (.ptr H.length 0)), (8, .v (.ptr (H.length + 1) 0)), (47, .v (lV q.l)), (48, .v (.sc (.int .i64 q.l.length))), (49, .v (.sc (.int .i64 0)))], ?_, ⟨hk2, hl2, bk, ho2, by simpa using htl⟩, hrc2, hnd2, rfl⟩ ?_)
        · simp [subW, weakV, getF, lV]
        rintro k F H4 hk ⟨g1, g2, g3, rfl⟩
        unfold lV
        by_cases hkl : k = q.l.length
        · subst hkl
          refine AW.seq (AW.ofx [] mixed (by kernel_rfl) ?_)
          simp
          refine AW.seq (AW.ofx [] mixed (by kernel_rfl) ?_)
          simp
          refine ⟨_, ?_, g1, g2, g3, rfl⟩
          simp [subW, weakV, getF, lV]
        · have hlt : k < q.l.length := by omega
          have hltI : (k : Int) < (q.l.length : Int) := by omega
          have hrow := rowP hlt
          have hfil : (q.l.take (k + 1)).filter (fun x => hasR rc x.at_) = (q.l.take k).filter (fun x => hasR rc x.at_) ++ (if hasR rc q.l[k].at_ then [q.l[k]] else []) := by
            rw [List.take_succ_eq_append_getElem hlt, List.filter_append]
            cases hh : hasR rc q.l[k].at_ <;> simp [hh]
          obtain ⟨e1, e2, bk1, e3, e4⟩ := g1
          have hlen1 : (told ++ (q.l.take k).filter fun x => hasR rc x.at_).length ≤ 1000000000000 := by
            have : ((q.l.take k).filter fun x => hasR rc x.at_).length ≤ (q.l.filter fun x => hasR rc x.at_).length := by
              conv => rhs; rw [← List.take_append_drop k q.l, List.filter_append]
              simp
            simp only [List.length_append]
            omega
          have hTell := hg.tell _ bk1 (H4 ++ [prB q.l[k]]) q.l[k] (hget e3) e4 hlen1
          have hHas := gHas rc q.l[k].at_
          have hxb : (H4 ++ [prB q.l[k]])[H4.length]? = some (prB q.l[k]) := by simp
          have hrc5 := hget (L := [prB q.l[k]]) g2
          have hnd5 := hget (L := [prB q.l[k]]) g3
          generalize q.l[k] = x at *
          unfold Pr.v at hTell
          rw [Pr.cs_eq] at hTell hrow
          unfold Re.v Re.cs Pt.v Pt.cs at hHas
          simp only [List.append_assoc, List.cons_append, List.nil_append] at hTell
          refine AW.seq (AW.ofx [] mixed (by kernel_rfl) ?_)
          simp [hltI]
          refine AW.seq (AW.ofx [] mixed (by kernel_rfl) ?_)
          simp
          refine AW.seq (AW.block (AW.seq (AW.ofx [] mixed (by kernel_rfl) ?_)))
          simp [hltI, hlt, hrow]
          rw [setCells_last rfl]
          change AW _ _ _ _ ⟨_, H4 ++ [prB x]⟩
          have e5 : KpA (fun x => x = o) H (H4 ++ [prB x]) := e1.app
          have e6 : H.length ≤ (H4 ++ [prB x]).length := by simp; omega
          have e7 := hget (L := [prB x]) e3
          refine AW.sub [(0, .v (.ptr r 0)), (1, .v (.sc (.int .i64 a))), (3, .v (.fn (.func g) first cap')), (6, .v (.ptr H.length 0)), (8, .v (.ptr (H.length + 1) 0)), (47, .v (lV q.l)), (48, .v (.sc (.int .i64 q.l.length))), (49, .v (.sc (.int .i64 k))), (12, .v (.ptr H4.length 0))] (by simp [subF, getF, lV]) ?_
          generalize H4 ++ [prB x] = H5 at *
          unfold prB at hxb
          have hrc5' := hrc5
          unfold reC at hrc5'
          have w1 : IntKind.i64.wrap ((k : Int) + 1) = (k + 1 : Nat) := by rw [wrap_i64] <;> omega
          refine AW.ofx [] mixed (by kernel_rfl) ?_
          simp [hxb, hrc5']
          refine callK.pure hHas rfl rfl ?_
          cases hh : hasR rc x.at_ with
          | false =>
            rw [hh] at hfil
            simp
            refine AW.ofx [] mixed (by kernel_rfl) ?_
            simp [w1]
            refine ⟨_, ?_, ⟨e5, e6, bk1, e7, by rw [hfil]; simpa using e4⟩, hrc5, hnd5, rfl⟩
            simp [subW, weakV, getF]
          | true =>
            rw [hh] at hfil
            simp [hxb]
            refine callK.of hTell ?_
            rintro y H6 ⟨k1, k2, k3⟩
            simp
            refine AW.ofx [] mixed (by kernel_rfl) ?_
            simp [w1]
            refine ⟨_, ?_, ⟨e5.trans k1, by omega, by rw [hfil]; simpa using k3⟩, k1 _ _ (by omega) hrc5, k1 _ _ (by omega) hnd5, rfl⟩
            simp [subW, weakV, getF]
      · rintro F H3 ⟨g1, g2, g3, rfl⟩
        rw [List.take_length] at g1
        unfold ndB lV at g3
        refine AW.seq (AW.ofx [] mixed (by kernel_rfl) ?_)
        simp [g3]
        rcases hwin with ⟨hs, rfl⟩ | ⟨hs, hrun⟩
        · refine AW.cond false (by simp [hs]) (fun e => by cases e) (fun _ => ?_)
          refine AW.ofx [] mixed (by kernel_rfl) ?_
          simp
          exact g1
        · refine AW.cond true (by simp [hs]) (fun _ => ?_) (fun e => by cases e)
          refine AW.seq (AW.ofx [] mixed (by kernel_rfl) ?_)
          simp [g3]
          refine AW.block (AW.count 4 (WinK H r a o s.A n q rc (.fn (.func g) first cap') Tl told) ⟨[(0, .v (.ptr r 0)), (1, .v (.sc (.int .i64 a))), (3, .v (.fn (.func g) first cap')), (6, .v (.ptr H.length 0)), (64, .v (.agg [.sc (.int .i64 q.k0), .sc (.int .i64 q.k1), .sc (.int .i64 q.k2), .sc (.int .i64 q.k3)])), (65, .v (.sc (.int .i64 0)))], ?_, _, rfl, g1, g2, rfl⟩ ?_)
          · simp [subW, weakV, getF]
          rintro k F H4 hk ⟨Lk, j1, j2, j7, rfl⟩
          by_cases hk4 : k = 4
          · subst hk4
            rw [hrun] at j1
            cases j1
            refine AW.seq (AW.ofx [] mixed (by kernel_rfl) ?_)
            simp
            refine AW.seq (AW.ofx [] mixed (by kernel_rfl) ?_)
            simp
            exact j2
          · have hlt : k < 4 := by omega
            have hltI : (k : Int) < 4 := by omega
            obtain ⟨a', u', j3, j4, j5⟩ := kidRun_step hrun hlt j1
            obtain ⟨v, j6, rfl⟩ := map_step j4
            have hlenK := runs_len hrun (i := k + 1) (by omega) j5
            simp at hlenK
            obtain ⟨e1, e2, bk1, e3, e4⟩ := j2
            have hT3 := hT.keep e1 (Ne.symm hor) (fun _ => Ne.symm hon) (Ne.symm hom)
            have hR := ih a' H4 (told ++ Lk) v bk1 hT3 e3 e4 j6 (by simp; omega)
            have hkg := kid_get' (q := q) hlt
            rw [j3] at hkg
            have j8 := j7
            unfold reC at j8
            unfold Re.v Re.cs at hR
            refine AW.seq (AW.ofx [] mixed (by kernel_rfl) ?_)
            simp [hltI]
            refine AW.seq (AW.ofx [] mixed (by kernel_rfl) ?_)
            simp
            refine AW.seq (AW.block (AW.seq (AW.ofx [] mixed (by kernel_rfl) ?_)))
            simp [hltI, hlt, hkg]
            refine AW.sub [(0, .v (.ptr r 0)), (1, .v (.sc (.int .i64 a))), (3, .v (.fn (.func g) first cap')), (6, .v (.ptr H.length 0)), (64, .v (.agg [.sc (.int .i64 q.k0), .sc (.int .i64 q.k1), .sc (.int .i64 q.k2), .sc (.int .i64 q.k3)])), (65, .v (.sc (.int .i64 k))), (14, .v (.sc (.int .i64 a')))] (by simp [subF, getF]) ?_
            refine AW.ofx [] mixed (by kernel_rfl) ?_
            simp [j8]
            refine callK.of hR ?_
            rintro y H5 hT4
            simp
            refine AW.ofx [] mixed (by kernel_rfl) ?_
            have w1 : IntKind.i64.wrap ((k : Int) + 1) = (k + 1 : Nat) := by rw [wrap_i64] <;> omega
            simp [w1]
            refine ⟨_, ?_, Lk ++ v, j5, by have := Told.trans e1 e2 hT4; simpa [List.append_assoc] using this, hT4.1 _ _ (by omega) j7, rfl⟩
            simp [subW, weakV, getF]
end Go.Proofs.Ytmjnffjacgjfmaa
