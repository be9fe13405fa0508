/- The law PtquadTurned, over the abstract memory. -/
import Derived.Test.YtmjnffjacgjfmaaJt
namespace Go.Proofs.Ytmjnffjacgjfmaa
set_option linter.all false
open Go.RowKit AM
set_option maxRecDepth 10000
attribute [local simp] aw_skip' aw_region' aw_seq' aw_cond' aw_block' aw_loop' aw_exit' aw_label' aw_ret' aops_nil' aops_cons' aop' aMove aAssign aPick aAlloc aBox aBuild slF aBuildSlice aLoad aLoadOwn aLoadS sharesAt shares sharedV aStore aStoreOwn isOwn delR aNilCheck aBin aMakeFunc aFieldAddr aField aIndexOp aIndex partV aIndexAddr aExtract aSliceOp aSlice slV aShrink aCallOp aCall' aInvoke' aLen aLenMap aDelete aMM aUn aConv aIface aAssert aMakeMap aLookup aMapUpdate aRange aNext aEntry entsOf keyB seekK aMakeSlice lookV aApp aAppendB aAppendF aAppend putK layK eval evalV AM.valOf getF putF setF del SV.refers cellsAt rootSV plains shift ldV V.exact V.exactL V.ofValue V.ofPart V.ofCell V.cells V.one Value.oneCell' fitB qSeq qBlock getB afin aret resVs resV resTmps shareF evalS tupV valsS valsV pickV calm calmB lenV useOf feeds shrinks stows looks isT newsV partsV fillV putAt zerosV fitsNil nilB sliceB isEq isNeq awx_skip' awx_region' awx_seq' awx_cond' awx_block' awx_loop' awx_exit' awx_label' awx_ret' xops_nil' xops_cons' xop' xload xcall' addO delO inO putD memB Mix.effB Mix.laysB keysF badK subW weakV zeroRow yops_nil' yops_cons' yop' yload yindex yfield ylen oldO dropO takeO oldL exactB
attribute [local simp] awz_skip' awz_region' awz_seq' awz_cond' awz_block' awz_loop' awz_exit' awz_label' awz_ret' zops_nil' zops_cons' zop' zload zloadOwn zcall' zlenK z0 new0 remF old0 dltB

/-- Two trees: one that stays, one of which the records are told. -/
def TpJ (S : List Pr) (r b : Nat) (T : Nat → Prop) (u : Nat) (U : List Pr) (H : List Bk) : Prop := TrP H r b S T ∧ ∃ Tu, TrP H u b U Tu ∧ ∀ x, Tu x → ¬ T x
section
variable {S U : List Pr} {r b u : Nat} {T : Nat → Prop} {H : List Bk}
theorem TpJ.app {L : List Bk} (h : TpJ S r b T u U H) : TpJ S r b T u U (H ++ L) := by
  obtain ⟨h1, Tu, h2, h3⟩ := h
  exact ⟨h1.app, Tu, h2.app, h3⟩
theorem TpJ.ins (h : TpJ S r b T u U H) (s : Pr) (hl : U.length < 100000) : AFn Try.prog 17 [.ptr u 0, s.v] H fun y H' => y = .sc (.int .i64 (insE U s)) ∧ TpJ S r b T u (insS U s) H' := by
  obtain ⟨h1, Tu, h2, h3⟩ := h
  refine (pInsert h2 s hl).mono' fun y H' hy => ?_
  obtain ⟨hy, k, T', t', f'⟩ := hy
  have hlt := h1.lt
  refine ⟨hy, h1.keep k fun x hx hu => h3 x hu hx, T', t', fun x hx hT => ?_⟩
  rcases f' x hx with h | h
  · exact h3 x h hT
  · have := hlt x hT
    omega
theorem TpJ.del (h : TpJ S r b T u U H) (k : Int) : AFn Try.prog 18 [.ptr u 0, .sc (.int .i64 k)] H fun y H' => y = .sc (.int .i64 (delE U k)) ∧ TpJ S r b T u (lessP U k) H' := by
  obtain ⟨h1, Tu, h2, h3⟩ := h
  refine (pDelete h2 k).mono' fun y H' hy => ?_
  obtain ⟨hy, kk, T', t', f'⟩ := hy
  have hlt := h1.lt
  refine ⟨hy, h1.keep kk fun x hx hu => h3 x hu hx, T', t', fun x hx hT => ?_⟩
  rcases f' x hx with h | h
  · exact h3 x h hT
  · have := hlt x hT
    omega
theorem TpJ.ids (h : TpJ S r b T u U H) : (U.map Pr.id).Nodup := by
  obtain ⟨h1, Tu, h2, h3⟩ := h
  exact h2.ids
end
/-- Numbers. -/
def isV (l : List Int) : List V := l.flatMap fun i => [.sc (.int .i64 i)]
theorem isV_snoc (l : List Int) (i : Int) : isV (l ++ [i]) = isV l ++ [.sc (.int .i64 i)] := by simp [isV]
theorem isV_len (l : List Int) : (isV l).length = l.length := by induction l <;> simp_all [isV]
theorem rowI {l : List Int} {k : Nat} (h : k < l.length) : AM.rowAt 1 (isV l) (k : Int) = [.sc (.int .i64 l[k])] := by
  exact row_flat (enc := fun i : Int => [V.sc (.int .i64 i)]) (sz := 1) (fun _ => rfl) h
def wentI (U : List Pr) : List Int := (U.map Pr.id).reverse
theorem wentI_ins {U : List Pr} {s : Pr} (h : insE U s = 0) : wentI (insS U s) = wentI U ++ [s.id] := by
  unfold wentI insS
  rw [if_pos h]
  simp
theorem wentI_len (U : List Pr) : (wentI U).length = U.length := by simp [wentI]
/-- What goes last came first. -/
theorem less_last {S U : List Pr} {n : Nat} (hn : n < U.length) (hd : ((S ++ U).map Pr.id).Nodup) : lessP (S ++ U.take (n + 1)) U[n].id = S ++ U.take n := by
  unfold lessP
  rw [List.filter_append]
  have h1 : (S ++ U.take (n + 1)).Sublist (S ++ U) := List.Sublist.append_left (List.take_sublist _ _) _
  have hm := (hd.sublist (List.Sublist.map _ h1))
  rw [take_snocP hn, ← List.append_assoc, List.map_append, List.nodup_append] at hm
  obtain ⟨_, _, h3⟩ := hm
  have h3 : ∀ t ∈ S ++ U.take n, t.id ≠ U[n].id := fun t ht => h3 _ (List.mem_map_of_mem ht) _ (by simp)
  rw [take_snocP hn, List.filter_append, List.filter_eq_self.2, List.filter_eq_self.2]
  · simp
  · intro t ht
    simpa using h3 t (by simp [ht])
  · intro t ht
    simpa using h3 t (by simp [ht])
theorem has_last {S U : List Pr} {n : Nat} (hn : n < U.length) : delE (S ++ U.take (n + 1)) U[n].id = 0 := by
  have h : hasQ (S ++ U.take (n + 1)) U[n].id = true := by
    cases hh : hasQ (S ++ U.take (n + 1)) U[n].id with
    | true => rfl
    | false =>
      have : ∀ t ∈ S ++ U.take (n + 1), t.id ≠ U[n].id := pfnd_none (by simpa [hasQ] using hh)
      exact absurd rfl (this U[n] (List.mem_append_right _ (by rw [take_snocP hn]; exact List.mem_append_right _ (List.mem_singleton.2 rfl))))
  show (if hasQ (S ++ U.take (n + 1)) U[n].id then (0 : Int) else 21) = 0
  rw [h]
  rfl
def TqA (S l m : List Pr) (v : Int) (r b u : Nat) (T : Nat → Prop) (k : Nat) (F : Fr) (H : List Bk) : Prop :=
  ∃ U, TpJ S r b T u U H ∧ U.length ≤ k ∧ (∀ t ∈ U, ∀ s ∈ S, s.id ≠ t.id) ∧ F = [(2, .v (lV m)), (7, .v (.ptr r 0)), (8, .v (lV S)), (9, .v (.ptr u 0)), (11, .own true 3 (wentI U).length 1 (isV (wentI U))), (12, .v (.sc (.int .i64 k)))]
def TqB (S : List Pr) (W : List Int) (r b u : Nat) (T : Nat → Prop) (U : List Pr) (k : Nat) (F : Fr) (H : List Bk) : Prop :=
  TpJ S r b T u (S.drop (S.length - k) ++ U) H ∧ F = [(7, .v (.ptr r 0)), (8, .v (lV S)), (9, .v (.ptr u 0)), (11, .v (.sl W.length 1 (isV W))), (15, .v (.sc (.int .i64 ((S.length : Int) - 1 - k))))]
def TqC (S : List Pr) (W : List Int) (r b u : Nat) (T : Nat → Prop) (U : List Pr) (k : Nat) (F : Fr) (H : List Bk) : Prop :=
  TpJ S r b T u (S ++ U.take (U.length - k)) H ∧ F = [(7, .v (.ptr r 0)), (9, .v (.ptr u 0)), (11, .v (.sl W.length 1 (isV W))), (16, .v (.sc (.int .i64 k)))]
set_option maxHeartbeats 4000000 in
theorem lawTurnedP (v : Int) (l m : List Pr) (H : List Bk) : AFn Try.prog 4 [.sc (.int .i64 v), lV l, lV m] H fun y _ => y = .sc (.bool true) := by
  have hB := lbuiltP v l H
  unfold lV at hB ⊢
  refine AFn.intro (fn := Try.f4) (by kernel_rfl) rfl (by kernel_rfl) (by simp) ?_
  simp only [Try.f4, argsF]
  refine AW.seq (AW.ofx [] mixed (by kernel_rfl) ?_)
  simp
  refine AW.seq (AW.ofx [] mixed (by kernel_rfl) ?_)
  simp
  refine callK.of hB ?_
  rintro y H1 (⟨hl, rfl, k1⟩ | ⟨hv, hl, r, b, T, hb, rfl, t1, k1, f1⟩)
  · simp
    refine AW.seq (AW.ofx [] mixed (by kernel_rfl) ?_)
    simp [nilPtE]
    refine callK.of (lknownP _) ?_
    rintro y H2 ⟨rfl, k2⟩
    simp
  · simp
    refine AW.seq (AW.ofx [] mixed (by kernel_rfl) ?_)
    by_cases hm : 60 < m.length
    · have hm' : (60 : Int) < m.length := by omega
      simp [hm', lV]
      refine callK.of (lknownP _) ?_
      rintro y H3 ⟨rfl, k3⟩
      simp
    · have hm' : ¬ (60 : Int) < m.length := by omega
      have hsp := havP_spec l
      have hun : ∀ t ∈ havP l, Un root0 t.at_ := by
        obtain ⟨nb, mb, cap, s, es, I, h, hT⟩ := t1
        exact h.ok.u
      generalize havP l = S at *
      simp [hm', lV]
      refine AW.seq (AW.ofx [] mixed (by kernel_rfl) ?_)
      simp
      refine callK.of (pNew v _) ?_
      rintro y H2 ⟨_, n2⟩
      obtain ⟨u, b', Tu, rfl, hb', tu, ku, fu⟩ := n2 hv
      have hbe : b' = b := by omega
      subst hbe
      have j2 : TpJ S r b' T u [] H2 := ⟨t1.keep0 ku, Tu, tu, fun x hx hT => by
        have := t1.lt x hT
        have := fu x hx
        omega⟩
      clear tu ku fu t1 k1 f1
      simp
      refine AW.seq (AW.ofx [] mixed (by kernel_rfl) ?_)
      simp
      refine AW.seq (AW.ofx [] mixed (by kernel_rfl) ?_)
      simp
      refine AW.seq (AW.seq (AW.ofx [] mixed (by kernel_rfl) ?_))
      simp
      refine AW.block (AW.count m.length (TqA S l m v r b' u T) ⟨_, ?_, [], j2, by simp, by simp, rfl⟩ ?_)
      · simp [subW, weakV, getF, lV, zeroRow, isV, wentI]
      rintro k F H3 hk ⟨U, j3, hUk, hUS, rfl⟩
      unfold lV
      refine AW.seq (AW.ofx [] mixed (by kernel_rfl) ?_)
      by_cases hlt : k < m.length
      · have w1 : IntKind.i64.wrap ((k : Int) + 1) = (k : Int) + 1 := by rw [wrap_i64] <;> omega
        have hFd := refFindP S m[k].id (by omega)
        rw [pfndV_eq] at hFd
        have hIn := fun L => (j3.app (L := L)).ins m[k] (by omega)
        have hno : hasQ S m[k].id = false → ∀ s ∈ S, s.id ≠ m[k].id := fun h => pfnd_none (by simpa [hasQ] using h)
        generalize fndQ S m[k].id = x at *
        generalize hasQ S m[k].id = hx at *
        simp only [prv_eq] at hIn
        unfold lV at hFd
        have hr := rowPr hlt
        simp [hlt]
        refine AW.seq (AW.block (AW.seq (AW.ofx [] mixed (by kernel_rfl) ?_)))
        simp [hlt, hr]
        refine callK.pure hFd (lV_closedI _ _) rfl ?_
        simp
        rw [setCells_last rfl]
        cases hx with
        | true =>
          refine AW.ofx [] mixed (by kernel_rfl) ?_
          simp
          refine AW.ofx [] mixed (by kernel_rfl) ?_
          simp [w1]
          refine ⟨_, ?_, U, j3.app, by omega, hUS, rfl⟩
          simp [subW, weakV, getF, lV]
        | false =>
          have hIn := hIn [Bk.cells ([V.sc (.int .i64 x.id), V.sc (.int .i64 x.at_.x), V.sc (.int .i64 x.at_.y), V.sc (.int .i64 x.lab)].map SV.v)]
          refine AW.seq (AW.ofx [] mixed (by kernel_rfl) ?_)
          simp [hlt, hr]
          simp at hIn
          refine callK.of hIn ?_
          rintro y H4 ⟨rfl, j4⟩
          by_cases he : insE U m[k] = 0
          · have hwl := wentI_len U
            have hws := wentI_ins he
            have hil : (insS U m[k]).length ≤ k + 1 := by
              have := insS_len (a := U) (s := m[k])
              omega
            have hiS : ∀ t ∈ insS U m[k], ∀ s ∈ S, s.id ≠ t.id := fun t ht => by
              unfold insS at ht
              rw [if_pos he] at ht
              rcases List.mem_cons.1 ht with rfl | ht
              · exact hno rfl
              · exact hUS t ht
            have hwl' : (wentI U).length ≤ 60 := by omega
            simp [he]
            refine AW.ofx [] mixed (by kernel_rfl) ?_
            simp [hlt, hr]
            refine ⟨by omega, ?_⟩
            refine AW.ofx [] mixed (by kernel_rfl) ?_
            simp [w1]
            refine ⟨_, ?_, _, j4, hil, hiS, rfl⟩
            rw [hws, isV_snoc]
            simp [subW, weakV, getF, lV]
          · have he' : (insE U m[k] == 0) = false := by simpa using he
            have hUe : insS U m[k] = U := by unfold insS; rw [if_neg he]
            rw [hUe] at j4
            simp [he, he']
            refine AW.ofx [] mixed (by kernel_rfl) ?_
            simp
            refine AW.ofx [] mixed (by kernel_rfl) ?_
            simp [w1]
            refine ⟨_, ?_, U, j4, by omega, hUS, rfl⟩
            simp [subW, weakV, getF, lV]
      · have hkm : k = m.length := by omega
        have hU60 : U.length ≤ 60 := by omega
        simp [hlt]
        have w0 : IntKind.i64.wrap ((S.length : Int) - 1) = (S.length : Int) - 1 := by rw [wrap_i64] <;> omega
        have hWl := wentI_len U
        generalize hW : wentI U = W at *
        refine AW.asSl 11 rfl ?_
        refine AW.seq (AW.seq (AW.ofx [] mixed (by kernel_rfl) ?_))
        simp [w0]
        refine AW.block (AW.count S.length (TqB S W r b' u T U) ⟨_, ?_, by simpa using j3, rfl⟩ ?_)
        · simp [subW, weakV, getF, lV]
        rintro k2 F H4 hk2 ⟨j4, rfl⟩
        unfold lV
        refine AW.seq (AW.ofx [] mixed (by kernel_rfl) ?_)
        by_cases hlt2 : k2 < S.length
        · have hge : (0 : Int) ≤ (S.length : Int) - 1 - k2 := by omega
          obtain ⟨j, hj, hjl⟩ : ∃ j : Nat, (S.length : Int) - 1 - k2 = j ∧ j < S.length := ⟨S.length - 1 - k2, by omega, by omega⟩
          have hjk : S.length - k2 = j + 1 := by omega
          have hjk2 : S.length - (k2 + 1) = j := by omega
          have hd : S.drop j = S[j] :: S.drop (j + 1) := List.drop_eq_getElem_cons hjl
          rw [hjk] at j4
          have w1 : IntKind.i64.wrap ((j : Int) - 1) = (j : Int) - 1 := by rw [wrap_i64] <;> omega
          have hnn : hasQ (S.drop (j + 1) ++ U) S[j].id = false := by
            cases hh : hasQ (S.drop (j + 1) ++ U) S[j].id with
            | false => rfl
            | true =>
              obtain ⟨t, ht⟩ := Option.isSome_iff_exists.1 hh
              obtain ⟨h1, h2⟩ := pfnd_some ht
              rcases List.mem_append.1 h1 with h1 | h1
              · have := List.pairwise_cons.1 (hd ▸ (List.Pairwise.sublist (List.drop_sublist j S) hsp.1 : IncP (S.drop j)))
                have := this.1 t h1
                omega
              · exact absurd h2.symm (hUS t h1 _ (List.getElem_mem hjl))
          have hie : insE (S.drop (j + 1) ++ U) S[j] = 0 := by
            rw [insE_eq, hnn, if_pos (hun _ (List.getElem_mem hjl)).1]
            rfl
          have hp := j4.ins S[j] (by rw [List.length_append, List.length_drop]; omega)
          have his : insS (S.drop (j + 1) ++ U) S[j] = S.drop j ++ U := by
            unfold insS
            rw [if_pos hie, hd]
            rfl
          rw [hie, his, prv_eq] at hp
          have hr := rowPr hjl
          rw [hj]
          simp
          refine AW.seq (AW.block (AW.ofx [] mixed (by kernel_rfl) ?_))
          simp [hjl, hr]
          refine callK.of hp ?_
          rintro y H5 ⟨rfl, j5⟩
          simp
          refine AW.ofx [] mixed (by kernel_rfl) ?_
          simp [w1]
          refine ⟨hlt2, _, ?_, by rw [hjk2]; exact j5, rfl⟩
          have : (S.length : Int) - 1 - ((k2 + 1 : Nat) : Int) = j - 1 := by omega
          rw [this]
          simp [subW, weakV, getF, lV]
        · have hk' : k2 = S.length := by omega
          subst hk'
          have hge : ¬ (S.length : Int) ≤ (S.length : Int) - 1 := by omega
          simp [hge]
          have j5 : TpJ S r b' T u (S ++ U) H4 := by simpa using j4
          refine AW.seq (AW.seq (AW.ofx [] mixed (by kernel_rfl) ?_))
          simp
          refine AW.block (AW.count U.length (TqC S W r b' u T U) ⟨_, ?_, by simpa using j5, rfl⟩ ?_)
          · simp [subW, weakV, getF, lV]
          have hnd := j5.ids
          clear j5 j4
          rintro k3 F H5 hk3 ⟨j6, rfl⟩
          refine AW.seq (AW.ofx [] mixed (by kernel_rfl) ?_)
          by_cases hlt3 : k3 < U.length
          · have w1 : IntKind.i64.wrap ((k3 : Int) + 1) = (k3 : Int) + 1 := by rw [wrap_i64] <;> omega
            obtain ⟨n, hn, hnl⟩ : ∃ n : Nat, U.length - k3 = n + 1 ∧ n < U.length := ⟨U.length - 1 - k3, by omega, by omega⟩
            have hn2 : U.length - (k3 + 1) = n := by omega
            have hk3W : k3 < W.length := by omega
            have hWk : W[k3] = U[n].id := by
              subst hW
              simp only [wentI, List.getElem_reverse, List.getElem_map, List.length_map]
              congr 2
              omega
            have hr := rowI hk3W
            rw [hn] at j6
            have hp := j6.del U[n].id
            rw [has_last hnl, less_last hnl hnd] at hp
            rw [hWk] at hr
            simp [hk3W]
            refine AW.seq (AW.block (AW.ofx [] mixed (by kernel_rfl) ?_))
            simp [hk3W, hr]
            refine callK.of hp ?_
            rintro y H6 ⟨rfl, j7⟩
            simp
            refine AW.ofx [] mixed (by kernel_rfl) ?_
            simp [w1]
            refine ⟨hlt3, _, ?_, by rw [hn2]; exact j7, rfl⟩
            simp [subW, weakV, getF, lV]
          · have hk3W : ¬ k3 < W.length := by omega
            have e0 : U.length - k3 = 0 := by omega
            rw [e0, List.take_zero, List.append_nil] at j6
            obtain ⟨ts, Tu', tu', d'⟩ := j6
            have hSm := refSameP (sortP S) (sortP S) (by rw [(sortP_perm S).length_eq]; omega)
            simp at hSm
            simp [hk3W]
            refine AW.ofx [] mixed (by kernel_rfl) ?_
            simp
            refine callK.of (pNodes tu') ?_
            rintro y H6 ⟨rfl, rfl⟩
            simp
            refine callK.of (pNodes ts) ?_
            rintro y H6 ⟨rfl, rfl⟩
            simp
            refine callK.of (pDepth tu') ?_
            rintro y H7 ⟨rfl, k7⟩
            have ts := ts.keep0 k7
            have tu' := tu'.keep0 k7
            simp
            refine callK.of (pDepth ts) ?_
            rintro y H8 ⟨rfl, k8⟩
            have ts := ts.keep0 k8
            have tu' := tu'.keep0 k8
            simp
            refine callK.of (pAll tu') ?_
            rintro y H9 ⟨rfl, k9⟩
            have ts := ts.keep0 k9
            simp
            refine callK.of (pAll ts) ?_
            rintro y H10 ⟨rfl, k10⟩
            unfold lV at hSm ⊢
            simp
            refine callK.pure hSm (lV_closed2 _ _) rfl ?_
            simp
            refine callK.of (lknownP _) ?_
            rintro y H11 ⟨rfl, k11⟩
            simp
theorem lawTurnedP0 (v : Int) (l m : List Pr) : PFn Try.prog 4 [.sc (.int .i64 v), lV l, lV m] (.sc (.bool true)) := lawTurnedP v l m []
end Go.Proofs.Ytmjnffjacgjfmaa
