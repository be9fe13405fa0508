/- The law CifquadTurned, over the abstract memory. -/
import Derived.Test.YtdeemchhbgomjaaHt
namespace Go.Proofs.Ytdeemchhbgomjaa
set_option linter.all false
open Go.RowKit AM
set_option maxRecDepth 10000
attribute [local simp] aw_skip' aw_region' aw_seq' aw_cond' aw_block' aw_loop' aw_exit' aw_label' aw_ret' aops_nil' aops_cons' aop' aMove aAssign aPick aAlloc aBox aBuild slF aBuildSlice aLoad aLoadOwn aStore aStoreOwn isOwn delR aNilCheck aBin aMakeFunc aFieldAddr aField aIndexOp aIndex partV aIndexAddr aExtract aSliceOp aSlice aShrink aCallOp aCall' aInvoke' aLen aLenMap aDelete aMM aUn aConv aIface aAssert aMakeMap aLookup aMapUpdate aRange aNext aEntry entsOf keyB seekK aMakeSlice lookV aAppend putK layK eval evalV AM.valOf getF putF setF del SV.refers cellsAt rootSV plains shift ldV V.exact V.exactL V.ofValue V.ofPart V.ofCell V.cells V.one Value.oneCell' fitB qSeq qBlock getB afin aret resVs resV resTmps shareF evalS tupV valsS valsV pickV calm calmB lenV useOf feeds shrinks stows looks isT newsV partsV fillV putAt zerosV fitsNil nilB sliceB isEq isNeq awx_skip' awx_region' awx_seq' awx_cond' awx_block' awx_loop' awx_exit' awx_label' awx_ret' xops_nil' xops_cons' xop' xload xcall' addO delO inO putD memB Mix.effB Mix.laysB keysF badK subW weakV zeroRow yops_nil' yops_cons' yop' yload yindex yfield ylen oldO dropO takeO oldL exactB
attribute [local simp] awz_skip' awz_region' awz_seq' awz_cond' awz_block' awz_loop' awz_exit' awz_label' awz_ret' zops_nil' zops_cons' zop' zload zloadOwn zcall' z0 new0 remF old0 dltB

/-- Two trees: one that stays, one of which something is known. -/
def TnJ (S : List Sh) (r u : Nat) (T : Nat → Prop) (P : List Sh → Prop) (H : List Bk) : Prop := TrS H r S T ∧ ∃ U Tu, TrS H u U Tu ∧ (∀ x, Tu x → ¬ T x) ∧ U.length < 50000 ∧ P U
section
variable {S : List Sh} {r u : Nat} {T : Nat → Prop} {P Q : List Sh → Prop} {H H' : List Bk}
theorem TnJ.imp (h : TnJ S r u T P H) (k : ∀ U, (U.map Sh.id).Nodup → P U → Q U) : TnJ S r u T Q H := by
  obtain ⟨h1, U, Tu, h2, h3, h4, h5⟩ := h
  obtain ⟨b, m, I, es, hb, hT⟩ := id h2
  exact ⟨h1, U, Tu, h2, h3, h4, k U hb.ids h5⟩
theorem TnJ.app {L : List Bk} (h : TnJ S r u T P H) : TnJ S r u T P (H ++ L) := by
  obtain ⟨h1, U, Tu, h2, h3, h4, h5⟩ := h
  exact ⟨h1.app, U, Tu, h2.app, h3, h4, h5⟩
theorem putS_len (U : List Sh) (s : Sh) : (putS U s).length ≤ U.length + 1 := by
  unfold putS
  split
  · rw [List.length_cons]
    have : (less U s.id).length ≤ U.length := List.length_filter_le _ _
    omega
  · omega
theorem TnJ.put (h : TnJ S r u T (fun U => P U ∧ U.length < 40000) H) (s : Sh) : AFn Try.prog 12 [.ptr u 0, s.v] H fun y H' => y = .sc (.int .i64 (putE s)) ∧ TnJ S r u T (fun U' => ∃ U, P U ∧ U.length < 40000 ∧ U' = putS U s) H' := by
  obtain ⟨h1, U, Tu, h2, h3, h4, h5, h6⟩ := h
  refine (tput h2 s (by omega)).mono' fun y H' hy => ?_
  obtain ⟨hy, k, T', t', f'⟩ := hy
  have hlt := h1.lt
  refine ⟨hy, h1.keep k fun x hx hu => h3 x hu hx, putS U s, T', t', fun x hx hT => ?_, ?_, U, h5, h6, rfl⟩
  · rcases f' x hx with h | h
    · exact h3 x h hT
    · have := hlt x hT
      omega
  · have := putS_len U s
    omega
theorem TnJ.take (h : TnJ S r u T P H) (k : Int) : AFn Try.prog 14 [.ptr u 0, .sc (.int .i64 k)] H fun y H' => TnJ S r u T (fun U' => ∃ U, P U ∧ U' = less U k) H' := by
  obtain ⟨h1, U, Tu, h2, h3, h4, h5⟩ := h
  refine (ttake h2 k).mono' fun y H' hy => ?_
  obtain ⟨hy, kk, T', t', f'⟩ := hy
  refine ⟨h1.keep kk fun x hx hu => h3 x hu hx, less U k, T', t', fun x hx => h3 x (f' x hx), ?_, U, h5, rfl⟩
  have : (less U k).length ≤ U.length := List.length_filter_le _ _
  omega
end
/-- What is known while the others come in. -/
def P1 (m : List Sh) (k : Nat) (U : List Sh) : Prop := U.length ≤ k ∧ ∀ s ∈ U, ∃ t ∈ m, t.id = s.id
/-- What is known while the shapes come in, the last ones first. -/
def P2 (m S : List Sh) (j : Nat) (U : List Sh) : Prop := U.length ≤ 60 + (S.length - j) ∧ (∀ s ∈ S.drop j, s ∈ U) ∧ ∀ s ∈ U, s ∈ S.drop j ∨ ((∀ t ∈ S.drop j, t.id ≠ s.id) ∧ ∃ t ∈ m, t.id = s.id)
/-- What is known while the others go. -/
def P3 (m S : List Sh) (k : Nat) (U : List Sh) : Prop := (∀ s ∈ S, s ∈ U) ∧ ∀ s ∈ U, s ∈ S ∨ ((∀ t ∈ S, t.id ≠ s.id) ∧ ∃ t ∈ m.drop k, t.id = s.id)
theorem mem_putS {U : List Sh} {s t : Sh} (h : t ∈ putS U s) : (rightR s.box = true ∧ t = s) ∨ (t ∈ U ∧ (rightR s.box = true → t.id ≠ s.id)) := by
  unfold putS at h
  split at h
  · rename_i hr
    rcases List.mem_cons.1 h with h | h
    · exact .inl ⟨hr, h⟩
    · obtain ⟨h1, h2⟩ := List.mem_filter.1 h
      exact .inr ⟨h1, fun _ => by simpa using h2⟩
  · rename_i hr
    exact .inr ⟨h, fun e => absurd e hr⟩
theorem P1.step {m U : List Sh} {k : Nat} {s : Sh} (h : P1 m k U) (hs : s ∈ m) : P1 m (k + 1) (putS U s) := by
  refine ⟨Nat.le_trans (putS_len U s) (by have := h.1; omega), fun t ht => ?_⟩
  rcases mem_putS ht with ⟨_, rfl⟩ | ⟨h1, _⟩
  · exact ⟨_, hs, rfl⟩
  · exact h.2 t h1
theorem P2.start {m S U : List Sh} {k : Nat} (h : P1 m k U) (hk : k ≤ 60) : P2 m S S.length U := by
  refine ⟨by have := h.1; omega, by simp, fun s hs => .inr ⟨by simp, h.2 s hs⟩⟩
theorem P2.step {m S U : List Sh} {j : Nat} (h : P2 m S (j + 1) U) (hj : j < S.length) (hi : Inc S) (hr : rightR S[j].box = true) : P2 m S j (putS U S[j]) := by
  obtain ⟨h1, h2, h3⟩ := h
  have hd : S.drop j = S[j] :: S.drop (j + 1) := List.drop_eq_getElem_cons hj
  have hlt : ∀ t ∈ S.drop (j + 1), S[j].id < t.id := fun t ht => by
    obtain ⟨i, hi', e⟩ := List.getElem_of_mem ht
    rw [List.getElem_drop] at e
    rw [List.length_drop] at hi'
    rw [← e]
    exact List.pairwise_iff_getElem.1 hi j (j + 1 + i) hj (by omega) (by omega)
  have hp : putS U S[j] = S[j] :: less U S[j].id := by
    unfold putS
    rw [if_pos hr]
  refine ⟨Nat.le_trans (putS_len U _) (by omega), fun s hs => ?_, fun s hs => ?_⟩
  · rw [hd] at hs
    rw [hp]
    rcases List.mem_cons.1 hs with rfl | hs
    · simp
    · refine List.mem_cons_of_mem _ (List.mem_filter.2 ⟨h2 s hs, ?_⟩)
      have := hlt s hs
      simp
      omega
  · rw [hd]
    rcases mem_putS hs with ⟨_, rfl⟩ | ⟨h4, h5⟩
    · exact .inl List.mem_cons_self
    · have h5 := h5 hr
      rcases h3 s h4 with h6 | ⟨h6, h7⟩
      · exact .inl (List.mem_cons_of_mem _ h6)
      · refine .inr ⟨fun t ht => ?_, h7⟩
        rcases List.mem_cons.1 ht with rfl | ht
        · exact Ne.symm h5
        · exact h6 t ht
theorem P3.start {m S U : List Sh} (h : P2 m S 0 U) : P3 m S 0 U := by
  obtain ⟨h1, h2, h3⟩ := h
  rw [List.drop_zero] at h2 h3
  exact ⟨h2, by simpa using h3⟩
theorem P3.skip {m S U : List Sh} {k : Nat} (h : P3 m S k U) (hk : k < m.length) {t : Sh} (ht : t ∈ S) (e : t.id = m[k].id) : P3 m S (k + 1) U := by
  obtain ⟨h1, h2⟩ := h
  refine ⟨h1, fun s hs => ?_⟩
  rcases h2 s hs with h | ⟨h3, w, h4, h5⟩
  · exact .inl h
  · rw [List.drop_eq_getElem_cons hk] at h4
    rcases List.mem_cons.1 h4 with rfl | h4
    · exact absurd (e.trans h5) (h3 t ht)
    · exact .inr ⟨h3, w, h4, h5⟩
theorem P3.step {m S U : List Sh} {k : Nat} (h : P3 m S k U) (hk : k < m.length) (hn : ∀ t ∈ S, t.id ≠ m[k].id) : P3 m S (k + 1) (less U m[k].id) := by
  obtain ⟨h1, h2⟩ := h
  refine ⟨fun s hs => List.mem_filter.2 ⟨h1 s hs, by simpa using hn s hs⟩, fun s hs => ?_⟩
  obtain ⟨hs, he⟩ := List.mem_filter.1 hs
  have he : s.id ≠ m[k].id := by simpa using he
  rcases h2 s hs with h | ⟨h3, w, h4, h5⟩
  · exact .inl h
  · rw [List.drop_eq_getElem_cons hk] at h4
    rcases List.mem_cons.1 h4 with rfl | h4
    · exact absurd h5.symm he
    · exact .inr ⟨h3, w, h4, h5⟩
theorem nodup_of_ids {S : List Sh} (h : (S.map Sh.id).Nodup) : S.Nodup := (List.pairwise_map.1 h).imp fun h e => h (by rw [e])
theorem P3.done {m S U : List Sh} (h : P3 m S m.length U) (hS : (S.map Sh.id).Nodup) (hU : (U.map Sh.id).Nodup) : U.Perm S := by
  rw [List.perm_ext_iff_of_nodup (nodup_of_ids hU) (nodup_of_ids hS)]
  obtain ⟨h1, h2⟩ := h
  refine fun s => ⟨fun hs => ?_, h1 s⟩
  rcases h2 s hs with h | ⟨_, w, h4, _⟩
  · exact h
  · simp at h4
def TuI (S : List Sh) (l : List Sh) (m : List Sh) (r u a : Nat) (T : Nat → Prop) (P : List Sh → Prop) (H : List Bk) (z : Int) (F : Fr) (H1 : List Bk) : Prop :=
  TnJ S r u T P H1 ∧ F = [(0, .v (slS l)), (1, .v (slS m)), (5, .v (.ptr r 0)), (6, .v (slS S)), (7, .v (.ptr u 0)), (a, .v (.sc (.int .i64 z)))]
set_option maxHeartbeats 2000000 in
theorem lawTurned (l m : List Sh) (H : List Bk) : AFn Try.prog 4 [slS l, slS m] H fun y _ => y = .sc (.bool true) := by
  have hB := lbuilt l H
  unfold slS at hB ⊢
  refine AFn.intro (fn := Try.f4) (by kernel_rfl) rfl (by kernel_rfl) (by simp) ?_
  simp only [Try.f4, argsF]
  refine AW.seq (AW.ofx [] mixed (by kernel_rfl) ?_)
  simp
  refine AW.seq (AW.ofx [] mixed (by kernel_rfl) ?_)
  simp
  refine callK.of hB ?_
  rintro y H1 (⟨hl, rfl, k1⟩ | ⟨hl, r, T, rfl, t1, k1, f1⟩)
  · have hl' : (80 : Int) < l.length := by omega
    simp
    refine AW.seq (AW.ofx [] mixed (by kernel_rfl) ?_)
    simp
    refine callK.of (tnew _) ?_
    rintro y H2 ⟨u, Tu, rfl, tu, ku, fu⟩
    simp
    refine AW.seq (AW.ofx [] mixed (by kernel_rfl) ?_)
    simp [nilTrE, hl']
    refine callK.of (lknown _) ?_
    rintro y H3 ⟨rfl, k3⟩
    simp
  · have hsp := hav_spec l
    have hR := hav_right l
    generalize hav l = S at *
    simp
    refine AW.seq (AW.ofx [] mixed (by kernel_rfl) ?_)
    simp
    refine callK.of (tnew _) ?_
    rintro y H2 ⟨u, Tu, rfl, tu, ku, fu⟩
    have t2 := t1.keep0 ku
    have j2 : TnJ S r u T (P1 m 0) H2 := ⟨t2, [], Tu, tu, fun x hx hT => by
      have := t1.lt x hT
      have := fu x hx
      omega, by simp, by simp, by simp⟩
    simp
    refine AW.seq (AW.ofx [] mixed (by kernel_rfl) ?_)
    by_cases hm : 60 < m.length
    · have hm' : (60 : Int) < m.length := by omega
      have hl' : ¬ (80 : Int) < l.length := by omega
      simp [hm', hl']
      refine callK.of (lknown _) ?_
      rintro y H3 ⟨rfl, k3⟩
      simp
    · have hm' : ¬ (60 : Int) < m.length := by omega
      simp [hm']
      refine AW.seq (AW.seq (AW.ofx [] mixed (by kernel_rfl) ?_))
      simp
      refine AW.block (AW.count m.length (fun k F H => TuI S l m r u 8 T (P1 m k) H2 k F H) ⟨_, ?_, j2, rfl⟩ ?_)
      · simp [subW, weakV, getF, slS]
      rintro k F H3 hk ⟨j3, rfl⟩
      unfold slS
      refine AW.seq (AW.ofx [] mixed (by kernel_rfl) ?_)
      by_cases hlt : k < m.length
      · have w1 : IntKind.i64.wrap ((k : Int) + 1) = (k : Int) + 1 := by rw [wrap_i64] <;> omega
        have hp := (j3.imp (Q := fun U => P1 m k U ∧ U.length < 40000) fun U _ h => ⟨h, by have := h.1; omega⟩).put m[k]
        rw [shv_eq] at hp
        simp [hlt]
        refine AW.seq (AW.block (AW.ofx [] mixed (by kernel_rfl) ?_))
        simp [hlt, rowSh]
        refine callK.of hp ?_
        rintro y H4 ⟨rfl, j4⟩
        simp
        refine AW.ofx [] mixed (by kernel_rfl) ?_
        simp [w1]
        refine ⟨_, ?_, j4.imp fun U _ h => ?_, rfl⟩
        · simp [subW, weakV, getF, slS]
        · obtain ⟨U0, h1, _, rfl⟩ := h
          exact h1.step (List.getElem_mem hlt)
      · simp [hlt]
        have hk' : k = m.length := by omega
        have j4 : TnJ S r u T (P2 m S S.length) H3 := j3.imp fun U _ h => P2.start (k := k) h (by omega)
        have w0 : IntKind.i64.wrap ((S.length : Int) - 1) = (S.length : Int) - 1 := by rw [wrap_i64] <;> omega
        clear j3
        refine AW.seq (AW.seq (AW.ofx [] mixed (by kernel_rfl) ?_))
        simp [w0]
        refine AW.block (AW.count S.length (fun k F H => TuI S l m r u 9 T (P2 m S (S.length - k)) H2 ((S.length : Int) - 1 - k) F H) ⟨_, ?_, by simpa using j4, rfl⟩ ?_)
        · simp [subW, weakV, getF, slS]
        rintro k F H4 hk ⟨j4, rfl⟩
        unfold slS
        refine AW.seq (AW.ofx [] mixed (by kernel_rfl) ?_)
        by_cases hlt : k < S.length
        · have hge : (0 : Int) ≤ (S.length : Int) - 1 - k := by omega
          obtain ⟨j, hj, hjl⟩ : ∃ j : Nat, (S.length : Int) - 1 - k = j ∧ j < S.length := ⟨S.length - 1 - k, by omega, by omega⟩
          have hjk : S.length - k = j + 1 := by omega
          have hjk2 : S.length - (k + 1) = j := by omega
          rw [hjk] at j4
          have w1 : IntKind.i64.wrap ((j : Int) - 1) = (j : Int) - 1 := by rw [wrap_i64] <;> omega
          have hrj := hR _ (List.getElem_mem hjl)
          have hp := (j4.imp (Q := fun U => P2 m S (j + 1) U ∧ U.length < 40000) fun U _ h => ⟨h, by have := h.1; omega⟩).put S[j]
          rw [shv_eq] at hp
          have hpe : putE S[j] = 0 := by simp [putE, hrj]
          rw [hpe] at hp
          rw [hj]
          simp
          refine AW.seq (AW.block (AW.ofx [] mixed (by kernel_rfl) ?_))
          simp [hjl, rowSh]
          refine callK.of hp ?_
          rintro y H5 ⟨rfl, j5⟩
          simp
          refine AW.ofx [] mixed (by kernel_rfl) ?_
          simp [w1]
          refine ⟨hlt, _, ?_, ?_, rfl⟩
          rotate_left
          · rw [hjk2]
            refine j5.imp fun U _ h => ?_
            obtain ⟨U0, h1, _, rfl⟩ := h
            exact h1.step hjl hsp.1 hrj
          · have : (S.length : Int) - 1 - ((k : Int) + 1) = j - 1 := by omega
            rw [this]
            simp [subW, weakV, getF, slS]
        · have hk' : k = S.length := by omega
          subst hk'
          have hge : ¬ (S.length : Int) ≤ (S.length : Int) - 1 := by omega
          simp [hge]
          have j5 : TnJ S r u T (P3 m S 0) H4 := j4.imp fun U _ h => P3.start (by simpa using h)
          clear j4
          refine AW.seq (AW.seq (AW.ofx [] mixed (by kernel_rfl) ?_))
          simp
          refine AW.block (AW.count m.length (fun k F H => TuI S l m r u 10 T (P3 m S k) H2 k F H) ⟨_, ?_, j5, rfl⟩ ?_)
          · simp [subW, weakV, getF, slS]
          rintro k F H5 hk ⟨j6, rfl⟩
          unfold slS
          refine AW.seq (AW.ofx [] mixed (by kernel_rfl) ?_)
          by_cases hlt : k < m.length
          · have w1 : IntKind.i64.wrap ((k : Int) + 1) = (k : Int) + 1 := by rw [wrap_i64] <;> omega
            have hFd := refFind S m[k].id (by omega)
            unfold fndV at hFd
            simp [hlt]
            refine AW.seq (AW.block (AW.seq (AW.ofx [] mixed (by kernel_rfl) ?_)))
            simp [hlt, rowSh]
            cases hf : fnd S m[k].id with
            | some s =>
              obtain ⟨hs1, hs2⟩ := fnd_some hf
              rw [hf] at hFd
              simp only [shv_eq] at hFd
              unfold slS at hFd
              refine callK.pure hFd (slS_closedI _ _) rfl ?_
              simp [setCells, setBlk]
              refine AW.ofx [] mixed (by kernel_rfl) ?_
              simp
              refine AW.ofx [] mixed (by kernel_rfl) ?_
              simp [w1]
              refine ⟨_, ?_, TnJ.app (j6.imp fun U _ h => h.skip hlt hs1 hs2), rfl⟩
              simp [subW, weakV, getF, slS]
            | none =>
              rw [hf] at hFd
              simp only [shv_eq, Sh.zero] at hFd
              unfold slS at hFd
              refine callK.pure hFd (slS_closedI _ _) rfl ?_
              simp [setCells, setBlk]
              refine AW.ofx [] mixed (by kernel_rfl) ?_
              simp [hlt, rowSh]
              refine callK.of (TnJ.take (TnJ.app j6) m[k].id) ?_
              intro y H6 j7
              simp
              refine AW.ofx [] mixed (by kernel_rfl) ?_
              simp [w1]
              refine ⟨_, ?_, j7.imp fun U _ h => ?_, rfl⟩
              · simp [subW, weakV, getF, slS]
              · obtain ⟨U0, h1, rfl⟩ := h
                exact h1.step hlt (fnd_none hf)
          · simp [hlt]
            have hkm : k = m.length := by omega
            rw [hkm] at j6
            obtain ⟨ts, U, Tu', tu', d', _, hP⟩ := id j6
            obtain ⟨b, m', I, es, hb, hT⟩ := id tu'
            have hperm := hP.done hsp.1.nodup hb.ids
            have tuS := tu'.perm hperm
            refine AW.ofx [] mixed (by kernel_rfl) ?_
            simp
            refine callK.of (tnodes tuS) ?_
            rintro y H6 ⟨rfl, rfl⟩
            simp
            refine callK.of (tnodes ts) ?_
            rintro y H6 ⟨rfl, rfl⟩
            simp
            refine callK.of (tall tuS) ?_
            rintro y H7 ⟨rfl, k7⟩
            simp
            refine callK.of (tall (ts.keep0 k7)) ?_
            rintro y H8 ⟨rfl, k8⟩
            have hSm := refSame (sortS S) (sortS S) (by rw [(sortS_perm S).length_eq]; omega)
            simp at hSm
            simp
            refine callK.pure hSm (by simp [V.closedL, slS_closed]) rfl ?_
            simp
            refine callK.of (lknown _) ?_
            rintro y H9 ⟨rfl, k9⟩
            simp
theorem lawTurned0 (l m : List Sh) : PFn Try.prog 4 [slS l, slS m] (.sc (.bool true)) := lawTurned l m []
end Go.Proofs.Ytdeemchhbgomjaa
