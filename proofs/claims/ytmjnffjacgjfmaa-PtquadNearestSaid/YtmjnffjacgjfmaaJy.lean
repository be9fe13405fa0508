/- The law PtquadPlays, over the abstract memory. -/
import Derived.Test.YtmjnffjacgjfmaaJt
import Derived.Test.YtmjnffjacgjfmaaJs
namespace Go.Proofs.Ytmjnffjacgjfmaa
set_option linter.all false
open Go.RowKit AM
set_option maxRecDepth 10000
attribute [local simp] aw_skip' aw_region' aw_seq' aw_cond' aw_block' aw_loop' aw_exit' aw_label' aw_ret' aops_nil' aops_cons' aop' aMove aAssign aPick aAlloc aBox aBuild slF aBuildSlice aLoad aLoadOwn aLoadS sharesAt shares sharedV aStore aStoreOwn isOwn delR aNilCheck aBin aMakeFunc aFieldAddr aField aIndexOp aIndex partV aIndexAddr aExtract aSliceOp aSlice slV aShrink aCallOp aCall' aInvoke' aLen aLenMap aDelete aMM aUn aConv aIface aAssert aMakeMap aLookup aMapUpdate aRange aNext aEntry entsOf keyB seekK aMakeSlice lookV aApp aAppendB aAppendF aAppend putK layK eval evalV AM.valOf getF putF setF del SV.refers cellsAt rootSV plains shift ldV V.exact V.exactL V.ofValue V.ofPart V.ofCell V.cells V.one Value.oneCell' fitB qSeq qBlock getB afin aret resVs resV resTmps shareF evalS tupV valsS valsV pickV calm calmB lenV useOf feeds shrinks stows looks isT newsV partsV fillV putAt zerosV fitsNil nilB sliceB isEq isNeq awx_skip' awx_region' awx_seq' awx_cond' awx_block' awx_loop' awx_exit' awx_label' awx_ret' xops_nil' xops_cons' xop' xload xcall' addO delO inO putD memB Mix.effB Mix.laysB keysF badK subW weakV zeroRow yops_nil' yops_cons' yop' yload yindex yfield ylen oldO dropO takeO oldL exactB V.fixed V.fixedL
attribute [local simp] awz_skip' awz_region' awz_seq' awz_cond' awz_block' awz_loop' awz_exit' awz_label' awz_ret' zops_nil' zops_cons' zop' zload zloadOwn zcall' zlenK z0 new0 remF old0 dltB

/-- Something that is done: 0 insert, 1 delete, else change. -/
structure Dp where
  kind : Int
  r : Pr
  deriving DecidableEq, Inhabited
def Dp.cs (d : Dp) : List V := .sc (.int .i64 d.kind) :: d.r.cs
def slDp (l : List Dp) : V := .sl l.length 5 (l.flatMap Dp.cs)
theorem rowDp {xs : List Dp} {k : Nat} (h : k < xs.length) : AM.rowAt 5 (xs.flatMap Dp.cs) (k : Int) = [.sc (.int .i64 xs[k].kind), .sc (.int .i64 xs[k].r.id), .sc (.int .i64 xs[k].r.at_.x), .sc (.int .i64 xs[k].r.at_.y), .sc (.int .i64 xs[k].r.lab)] := row_flat (enc := Dp.cs) (sz := 5) (fun _ => rfl) h
def wantE (a : List Pr) (d : Dp) : Int := if ¬ d.kind = 1 ∧ fits d.r.at_ = false then 1 else if d.kind = 0 ∧ hasQ a d.r.id = true then 20 else if ¬ d.kind = 0 ∧ hasQ a d.r.id = false then 21 else 0
def wantL (a : List Pr) (d : Dp) : List Pr := if wantE a d = 0 then (if d.kind = 1 then lessP a d.r.id else putDP (lessP a d.r.id) d.r) else a
def havW (l : List Dp) : List Pr := l.foldl wantL []
theorem havW_snoc {l : List Dp} {k : Nat} (h : k < l.length) : havW (l.take (k + 1)) = wantL (havW (l.take k)) l[k] := by
  unfold havW
  rw [take_snocP h, List.foldl_append]
  rfl
theorem lessP_ne {S : List Pr} {k : Int} : ∀ t ∈ lessP S k, t.id ≠ k := fun t ht => by simpa using (List.mem_filter.1 ht).2
theorem wantL_spec {a : List Pr} {d : Dp} (h : IncP a) : IncP (wantL a d) ∧ (wantL a d).length ≤ a.length + 1 := by
  have hl : (lessP a d.r.id).length ≤ a.length := List.length_filter_le _ _
  unfold wantL
  split
  · split
    · exact ⟨h.lessP _, by omega⟩
    · obtain ⟨h1, h2⟩ := putDP_spec (h.lessP d.r.id) lessP_ne
      refine ⟨h2, ?_⟩
      rw [h1.length_eq, List.length_cons]
      omega
  · exact ⟨h, by omega⟩
theorem havW_spec (l : List Dp) : ∀ n, n ≤ l.length → IncP (havW (l.take n)) ∧ (havW (l.take n)).length ≤ n := by
  intro n
  induction n with
  | zero => intro _; simp [havW, IncP]
  | succ n ih =>
    intro hn
    obtain ⟨h1, h2⟩ := ih (by omega)
    rw [havW_snoc (by omega)]
    have := wantL_spec (d := l[n]) h1
    exact ⟨this.1, by omega⟩
theorem hasQ_no {a : List Pr} {k : Int} (h : hasQ a k = false) : ∀ t ∈ a, t.id ≠ k := pfnd_none (by simpa [hasQ] using h)
theorem want_ins {a : List Pr} {d : Dp} (h : IncP a) (h0 : d.kind = 0) : insE a d.r = wantE a d ∧ (insS a d.r).Perm (wantL a d) := by
  have e : insE a d.r = wantE a d := by
    rw [insE_eq]
    unfold wantE
    cases fits d.r.at_ <;> cases hasQ a d.r.id <;> simp [h0]
  refine ⟨e, ?_⟩
  unfold insS wantL
  rw [e]
  split
  · rename_i h1
    have hn := (insE_zero (e.trans h1)).2
    have hk : ¬ d.kind = 1 := by omega
    simp only [hk, if_false]
    rw [lessP_no hn]
    exact (putDP_spec h hn).1.symm
  · exact .refl _
theorem want_del {a : List Pr} {d : Dp} (h1 : d.kind = 1) : delE a d.r.id = wantE a d ∧ lessP a d.r.id = wantL a d := by
  have hd : delE a d.r.id = if hasQ a d.r.id then 0 else 21 := rfl
  unfold wantL
  rw [hd]
  cases hh : hasQ a d.r.id with
  | true =>
    have e : wantE a d = 0 := by unfold wantE; simp [h1, hh]
    rw [e]
    simp [h1]
  | false =>
    have e : wantE a d = 21 := by unfold wantE; simp [h1, hh]
    rw [e, lessP_no (hasQ_no hh)]
    simp
theorem want_chg {a : List Pr} {d : Dp} (h : IncP a) (h0 : ¬ d.kind = 0) (h1 : ¬ d.kind = 1) : chgE a d.r = wantE a d ∧ (chgS a d.r).Perm (wantL a d) := by
  have hd : chgE a d.r = if fits d.r.at_ then (if hasQ a d.r.id then 0 else 21) else 1 := rfl
  have e : chgE a d.r = wantE a d := by
    rw [hd]
    unfold wantE
    cases fits d.r.at_ <;> cases hasQ a d.r.id <;> simp [h0, h1]
  refine ⟨e, ?_⟩
  unfold chgS wantL
  rw [e]
  split
  · exact (putDP_spec (h.lessP d.r.id) lessP_ne).1.symm
  · exact .refl _
set_option maxHeartbeats 2000000 in
theorem lwants (a : List Pr) (d : Dp) (ha : a.length ≤ 1000) : PFn Try.prog 31 [lV a, .agg d.cs] (.tup [lV (wantL a d), .sc (.int .i64 (wantE a d))]) := by
  obtain ⟨kd, s⟩ := d
  have hFd := refFindP a s.id (by omega)
  rw [pfndV_eq] at hFd
  have hF := refFits s.at_
  have hW := refWithoutP a s.id (by omega)
  have hll : (lessP a s.id).length ≤ a.length := List.length_filter_le _ _
  have hP := refPutP (lessP a s.id) s (by omega)
  unfold wantL wantE
  generalize fndQ a s.id = pq at *
  generalize hasQ a s.id = hq at *
  rw [prv_eq] at hP
  unfold lV at hFd hW hP ⊢
  unfold Pt.v Pt.cs at hF
  simp only [Dp.cs, Pr.cs]
  refine AFn.intro (fn := Try.f31) (by kernel_rfl) rfl (by kernel_rfl) (by simp) ?_
  simp only [Try.f31, argsF]
  refine AW.seq (AW.ofx [] mixed (by kernel_rfl) ?_)
  simp
  refine AW.seq (AW.ofx [] mixed (by kernel_rfl) ?_)
  simp
  refine callK.pure hFd (lV_closedI _ _) rfl ?_
  simp [setCells, setBlk]
  have hk : (kd = 0 ∨ kd = 1) ∨ (¬ kd = 0 ∧ ¬ kd = 1 ∧ (kd == 0) = false ∧ (kd != 0) = true ∧ (kd == 1) = false ∧ (kd != 1) = true) := by
    by_cases h0 : kd = 0
    · exact .inl (.inl h0)
    · by_cases h1 : kd = 1
      · exact .inl (.inr h1)
      · exact .inr ⟨h0, h1, by simpa using h0, by simpa using h0, by simpa using h1, by simpa using h1⟩
  have hcl := lV_closedI a s.id
  have hcl1 := lV_closed1 (lessP a s.id)
  have hcl2 := lV_closedP (lessP a s.id) s
  have hcl3 := lV_closed1 (putDP (lessP a s.id) s)
  rcases hk with (rfl | rfl) | ⟨h0, h1, h2, h3, h4, h5⟩
  · refine AW.seq (AW.ofx [] mixed (by kernel_rfl) ?_)
    simp
    refine callK.pure hF rfl rfl ?_
    cases hf : fits s.at_ with
    | false =>
      simp
    | true =>
      simp
      refine AW.seq (AW.ofx [] mixed (by kernel_rfl) ?_)
      cases hq with
      | true => simp
      | false =>
        simp
        refine AW.seq (AW.ofx [] mixed (by kernel_rfl) ?_)
        simp
        refine AW.seq (AW.ofx [] mixed (by kernel_rfl) ?_)
        simp
        refine callK.pure hW hcl hcl1 ?_
        simp
        refine AW.seq (AW.ofx [] mixed (by kernel_rfl) ?_)
        simp
        refine callK.pure hP hcl2 hcl3 ?_
        simp
        refine AW.ofx [] mixed (by kernel_rfl) ?_
        simp
  · refine AW.seq (AW.ofx [] mixed (by kernel_rfl) ?_)
    simp
    refine AW.seq (AW.ofx [] mixed (by kernel_rfl) ?_)
    simp
    cases hq with
    | false =>
      refine AW.seq (AW.ofx [] mixed (by kernel_rfl) ?_)
      simp
    | true =>
      refine AW.seq (AW.ofx [] mixed (by kernel_rfl) ?_)
      simp
      refine AW.seq (AW.ofx [] mixed (by kernel_rfl) ?_)
      simp
      refine callK.pure hW hcl hcl1 ?_
      simp
      refine AW.seq (AW.ofx [] mixed (by kernel_rfl) ?_)
      simp
      refine AW.ofx [] mixed (by kernel_rfl) ?_
      simp
  · refine AW.seq (AW.ofx [] mixed (by kernel_rfl) ?_)
    simp [h0, h1, h2, h3, h4, h5]
    refine callK.pure hF rfl rfl ?_
    cases hf : fits s.at_ with
    | false =>
      simp
    | true =>
      simp
      refine AW.seq (AW.ofx [] mixed (by kernel_rfl) ?_)
      simp [h0, h1, h2, h3, h4, h5]
      refine AW.seq (AW.ofx [] mixed (by kernel_rfl) ?_)
      cases hq with
      | false => simp [h0, h1, h2, h3, h4, h5]
      | true =>
        simp [h0, h1, h2, h3, h4, h5]
        refine AW.seq (AW.ofx [] mixed (by kernel_rfl) ?_)
        simp
        refine callK.pure hW hcl hcl1 ?_
        simp
        refine AW.seq (AW.ofx [] mixed (by kernel_rfl) ?_)
        simp [h0, h1, h2, h3, h4, h5]
        refine callK.pure hP hcl2 hcl3 ?_
        simp
        refine AW.ofx [] mixed (by kernel_rfl) ?_
        simp
/-- A tree of a row, of which nothing was there at first. -/
def TpN (H0 : List Bk) (r b : Nat) (a : List Pr) (H : List Bk) : Prop := ∃ T, TrP H r b a T ∧ Kp NoB H0 H ∧ ∀ x, T x → H0.length ≤ x
theorem TpN.app {H0 H L : List Bk} {r b : Nat} {a : List Pr} (h : TpN H0 r b a H) : TpN H0 r b a (H ++ L) := by
  obtain ⟨T, h1, h2, h3⟩ := h
  exact ⟨T, h1.app, h2.app, h3⟩
theorem TpN.keep {H0 H H1 : List Bk} {r b : Nat} {a : List Pr} (h : TpN H0 r b a H) (k : Kp NoB H H1) : TpN H0 r b a H1 := by
  obtain ⟨T, h1, h2, h3⟩ := h
  exact ⟨T, h1.keep0 k, h2.trans k, h3⟩
theorem TpN.turn {H0 H H1 : List Bk} {r b : Nat} {T T' : Nat → Prop} {a a' c : List Pr} (h1 : TrP H r b a T) (h2 : Kp NoB H0 H) (h3 : ∀ x, T x → H0.length ≤ x) (k : Kp T H H1) (h4 : TrP H1 r b a' T') (h5 : ∀ x, T' x → T x ∨ H.length ≤ x) (hp : a'.Perm c) : TpN H0 r b c H1 := by
  have hle : H0.length ≤ H.length := by
    have a := h3 r h1.self
    have b := h1.lt r h1.self
    omega
  exact ⟨T', h4.perm hp, Kp.new ((h2.weak fun _ h => h.elim).trans (k.weak fun x hx => .inr (h3 x hx))), fun x hx => (h5 x hx).elim (h3 x) fun h => by omega⟩
theorem TrP.ok {H : List Bk} {r b : Nat} {S : List Pr} {T : Nat → Prop} (h : TrP H r b S T) : Ok 16 root0 S := by
  obtain ⟨nb, mb, cap, s, es, I, h, hT⟩ := h
  exact h.ok
def PpI (H0 : List Bk) (r b : Nat) (l : List Dp) (fd : List V) (k : Nat) (F : Fr) (H : List Bk) : Prop :=
  TpN H0 r b (havW (l.take k)) H ∧ F = [(0, .v (.sc (.int .i64 b))), (1, .v (.sl l.length 5 fd)), (5, .v (.ptr r 0)), (7, .v (lV (havW (l.take k)))), (8, .v (.sc (.int .i64 k)))]
def PpM (H0 : List Bk) (r b : Nat) (l : List Dp) (fd : List V) (k : Nat) (c : List Pr) (e : Int) (F : Fr) (H : List Bk) : Prop :=
  TpN H0 r b c H ∧ F = [(0, .v (.sc (.int .i64 b))), (1, .v (.sl l.length 5 fd)), (5, .v (.ptr r 0)), (8, .v (.sc (.int .i64 k))), (9, .v (lV c)), (10, .v (.sc (.int .i64 e))), (11, .v (.sc (.int .i64 e)))]
theorem boolNeqQ {x y : Operand} {u : Bool} : binR Try.prog .neq 4 x y (.bool u) (.bool u) = some (.bool false) := by cases u <;> kernel_rfl
set_option maxHeartbeats 4000000 in
theorem lawPlaysP (v : Int) (l : List Dp) (H : List Bk) : AFn Try.prog 8 [.sc (.int .i64 v), slDp l] H fun y _ => y = .sc (.bool true) := by
  unfold slDp
  have hrow := fun k (h : k < l.length) => rowDp h
  generalize hfd : l.flatMap Dp.cs = fd at *
  have hN := pNew v H
  refine AFn.intro (fn := Try.f8) (by kernel_rfl) rfl (by kernel_rfl) (by simp) ?_
  simp only [Try.f8, argsF]
  refine AW.seq (AW.ofx [] mixed (by kernel_rfl) ?_)
  simp
  refine AW.seq (AW.ofx [] mixed (by kernel_rfl) ?_)
  simp
  refine callK.of hN ?_
  rintro y H1 ⟨n1, n2⟩
  cases hv : newE v with
  | false =>
    obtain ⟨rfl, rfl⟩ := n1 hv
    have hv' : v < 1 ∨ (¬ v < 1 ∧ 64 < v) := by
      have : ¬ (1 ≤ v ∧ v ≤ 64) := by simpa [newE] using hv
      omega
    simp
    rcases hv' with h1 | ⟨h1, h2⟩
    · refine AW.seq (AW.ofx [] mixed (by kernel_rfl) ?_)
      simp [h1, nilPtE]
      refine callK.of (lknownP _) ?_
      rintro y H2 ⟨rfl, k2⟩
      simp
    · refine AW.seq (AW.ofx [] mixed (by kernel_rfl) ?_)
      simp [h1, h2, nilPtE]
      refine callK.of (lknownP _) ?_
      rintro y H2 ⟨rfl, k2⟩
      simp
  | true =>
    obtain ⟨r, b, T, rfl, hb, t1, k1, f1⟩ := n2 hv
    have hv' : 1 ≤ v ∧ v ≤ 64 := by simpa [newE] using hv
    have g1 : ¬ v < 1 := by omega
    have g2 : ¬ 64 < v := by omega
    subst hb
    simp
    refine AW.seq (AW.ofx [] mixed (by kernel_rfl) ?_)
    simp [g1, g2]
    refine AW.seq (AW.ofx [] mixed (by kernel_rfl) ?_)
    simp
    refine AW.seq (AW.ofx [] mixed (by kernel_rfl) ?_)
    simp
    refine AW.seq (AW.seq (AW.ofx [] mixed (by kernel_rfl) ?_))
    simp
    refine AW.block (AW.count (min l.length 60) (PpI H r b l fd) ⟨_, ?_, ⟨T, t1, k1, f1⟩, rfl⟩ ?_)
    · simp [subW, weakV, getF, lV, zeroRow, havW]
    rintro k F H2 hk ⟨t2, rfl⟩
    have hsp := havW_spec l k (by omega)
    unfold lV
    refine AW.seq (AW.ofx [] mixed (by kernel_rfl) ?_)
    by_cases hlt : k < min l.length 60
    · have hkl : k < l.length := by omega
      have hk60 : (k : Int) < 60 := by omega
      have w1 : IntKind.i64.wrap ((k : Int) + 1) = (k : Int) + 1 := by rw [wrap_i64] <;> omega
      have hr := hrow k hkl
      have hsn := havW_snoc hkl
      have hst := wantL_spec (d := l[k]) hsp.1
      have hWa := lwants (havW (l.take k)) l[k] (by omega)
      have hwi := want_ins (d := l[k]) hsp.1
      have hwd := want_del (a := havW (l.take k)) (d := l[k])
      have hwc := want_chg (d := l[k]) hsp.1
      generalize l[k] = d at *
      generalize havW (l.take k) = a at *
      generalize wantL a d = c at *
      generalize wantE a d = e at *
      obtain ⟨kd, s⟩ := d
      simp only at hr hwi hwd hwc
      simp only [Dp.cs, Pr.cs] at hWa
      unfold lV at hWa
      obtain ⟨hai, hal⟩ := hsp
      obtain ⟨hci, hcl⟩ := hst
      simp [hkl, hk60]
      refine AW.seq (AW.block (AW.seq (AW.ofx [] mixed (by kernel_rfl) ?_)))
      simp [hkl, hr]
      refine callK.pure hWa (by simp [V.closedL, V.closed, closed_flat (enc := Pr.cs) (fun _ => rfl)]) (by simp [V.closedL, V.closed, closed_flat (enc := Pr.cs) (fun _ => rfl)]) ?_
      simp
      refine AW.seq (AW.ofx [] mixed (by kernel_rfl) ?_)
      simp
      obtain ⟨T4, tt2, kk2, ff4⟩ := t2
      have hkd : (kd = 0 ∨ kd = 1) ∨ (¬ kd = 0 ∧ ¬ kd = 1 ∧ (kd == 0) = false ∧ (kd == 1) = false) := by
        by_cases h0 : kd = 0
        · exact .inl (.inl h0)
        · by_cases h1 : kd = 1
          · exact .inl (.inr h1)
          · exact .inr ⟨h0, h1, by simpa using h0, by simpa using h1⟩
      refine AW.mid (PpM H r b l fd k c e) (AW.seq (AW.ofx [] mixed (by kernel_rfl) ?_)) ?_
      · simp [hkl, hr]
        rcases hkd with (rfl | rfl) | ⟨h0, h1, h2, h3⟩
        · obtain ⟨hie, hip⟩ := hwi rfl
          have hI := pInsert tt2 s (by omega)
          rw [hie, prv_eq] at hI
          refine AW.block (AW.seq (AW.ofx [] mixed (by kernel_rfl) ?_))
          simp
          refine AW.ofx [] mixed (by kernel_rfl) ?_
          simp [hkl, hr]
          refine callK.of hI ?_
          rintro y H5 ⟨rfl, k5, T5, tt5, ff5⟩
          have hn5 : TpN H r b c H5 := TpN.turn tt2 kk2 ff4 k5 tt5 ff5 hip
          simp
          refine ⟨_, ?_, hn5, rfl⟩
          simp [subW, weakV, getF, lV]
        · obtain ⟨hie, hip⟩ := hwd rfl
          have hI := pDelete tt2 s.id
          rw [hie, hip] at hI
          refine AW.block (AW.seq (AW.ofx [] mixed (by kernel_rfl) ?_))
          simp
          refine AW.ofx [] mixed (by kernel_rfl) ?_
          simp [hkl, hr]
          refine callK.of hI ?_
          rintro y H5 ⟨rfl, k5, T5, tt5, ff5⟩
          have hn5 : TpN H r b c H5 := TpN.turn tt2 kk2 ff4 k5 tt5 ff5 (.refl _)
          simp
          refine ⟨_, ?_, hn5, rfl⟩
          simp [subW, weakV, getF, lV]
        · obtain ⟨hie, hip⟩ := hwc h0 h1
          have hI := pChange tt2 s (by omega)
          rw [hie, prv_eq] at hI
          refine AW.block (AW.seq (AW.ofx [] mixed (by kernel_rfl) ?_))
          simp [h0, h2]
          refine AW.ofx [] mixed (by kernel_rfl) ?_
          simp [hkl, hr, h1, h3]
          refine callK.of hI ?_
          rintro y H5 ⟨rfl, k5, T5, tt5, ff5⟩
          have hn5 : TpN H r b c H5 := TpN.turn tt2 kk2 ff4 k5 tt5 ff5 hip
          simp
          refine ⟨_, ?_, hn5, rfl⟩
          simp [subW, weakV, getF, lV]
      · clear hwi hwd hwc hWa tt2 kk2 ff4 hai hkd
        rintro F H5 ⟨t5, rfl⟩
        obtain ⟨T5, tt5, kk5, ff5⟩ := id t5
        have hSh := refShape (b := b) 16 root0 c (Nat.le_refl _) tt5.ok
        have hNd := fun {Hx} (t : TrP Hx r b c T5) => pNodes t
        have hDp := fun {Hx} (t : TrP Hx r b c T5) => pDepth t
        have hLn := fun {Hx} (t : TrP Hx r b c T5) => pLen t
        have hFt := fun {Hx} (t : TrP Hx r b c T5) => pFind t s.id
        have hFd := refFindP c s.id (by omega)
        simp only [pfndV_eq] at hFt
        rw [pfndV_eq] at hFd
        generalize fndQ c s.id = x at *
        generalize hasQ c s.id = hx at *
        generalize shapeP b 16 root0 c = sh at *
        obtain ⟨sn, sd⟩ := sh
        simp only at hSh hNd hDp
        unfold lV at hSh hFd ⊢
        unfold root0 Ce.v Ce.cs at hSh
        refine AW.seq (AW.ofx [] mixed (by kernel_rfl) ?_)
        simp
        refine AW.seq (AW.ofx [] mixed (by kernel_rfl) ?_)
        simp
        refine callK.pure hSh (by simp [V.closedL, V.closed, closed_flat (enc := Pr.cs) (fun _ => rfl)]) rfl ?_
        simp
        refine AW.seq (AW.ofx [] mixed (by kernel_rfl) ?_)
        simp [hkl, hr]
        refine callK.of (hFt tt5) ?_
        rintro y H6 ⟨rfl, k6⟩
        have t6 := tt5.keep0 k6
        have kk6 := kk5.trans k6
        clear t5 tt5 kk5 k6
        simp
        rw [setCells_last rfl]
        have hx7 : (H6 ++ [prB x])[H6.length]? = some (prB x) := by simp
        have t7 := t6.app (L := [prB x])
        have kk7 := kk6.app (L := [prB x])
        have hpx : Bk.cells ([.sc (.int .i64 x.id), .sc (.int .i64 x.at_.x), .sc (.int .i64 x.at_.y), .sc (.int .i64 x.lab)].map SV.v) = prB x := rfl
        rw [hpx]
        generalize H6 ++ [prB x] = H7 at *
        generalize H6.length = u at *
        clear t6 kk6
        refine AW.seq (AW.ofx [] mixed (by kernel_rfl) ?_)
        simp [hkl, hr]
        refine callK.pure hFd (lV_closedI _ _) rfl ?_
        simp
        rw [setCells_last rfl, hpx]
        have hx8 := hget (L := [prB x]) hx7
        have hy8 : (H7 ++ [prB x])[H7.length]? = some (prB x) := by simp
        have t8 := t7.app (L := [prB x])
        have kk8 := kk7.app (L := [prB x])
        generalize H7 ++ [prB x] = H8 at *
        generalize H7.length = z at *
        clear t7 kk7 hx7
        unfold prB at hx8 hy8
        refine AW.seq (AW.ofx [] mixed (by kernel_rfl) ?_)
        simp
        refine callK.of (hLn t8) ?_
        rintro y H9 ⟨rfl, rfl⟩
        simp [hx8, hy8, hEqPr, hGPr, boolNeqQ]
        refine callK.of (hNd t8) ?_
        rintro y H9 ⟨rfl, rfl⟩
        simp
        refine callK.of (hDp t8) ?_
        rintro y H10 ⟨rfl, k10⟩
        have t10 := t8.keep0 k10
        simp
        refine AW.ofx [] mixed (by kernel_rfl) ?_
        simp
        refine AW.ofx [] mixed (by kernel_rfl) ?_
        simp [w1]
        refine ⟨by omega, _, ?_, ⟨T5, by rw [hsn]; exact t10, kk8.trans k10, ff5⟩, rfl⟩
        rw [hsn]
        simp [subW, weakV, getF, lV]
    · have hnk : k = min l.length 60 := by omega
      obtain ⟨T2, tt2, kk2, ff2⟩ := id t2
      have hso := hsp.1.sort
      have hal := hsp.2
      generalize havW (l.take k) = a at *
      have hSm := refSameP a a (by omega)
      simp at hSm
      unfold lV at hSm
      have hAl := pAll tt2
      rw [hso] at hAl
      unfold lV at hAl
      by_cases hkl : (k : Int) < l.length
      · have hk60 : ¬ (k : Int) < 60 := by omega
        simp [hkl, hk60]
        refine AW.ofx [] mixed (by kernel_rfl) ?_
        simp
        refine callK.of hAl ?_
        rintro y H6 ⟨rfl, k6⟩
        simp
        refine callK.pure hSm (lV_closed2 _ _) rfl ?_
        simp
        refine callK.of (lknownP _) ?_
        rintro y H7 ⟨rfl, k7⟩
        simp
      · simp [hkl]
        refine AW.ofx [] mixed (by kernel_rfl) ?_
        simp
        refine callK.of hAl ?_
        rintro y H6 ⟨rfl, k6⟩
        simp
        refine callK.pure hSm (lV_closed2 _ _) rfl ?_
        simp
        refine callK.of (lknownP _) ?_
        rintro y H7 ⟨rfl, k7⟩
        simp
theorem lawPlaysP0 (v : Int) (l : List Dp) : PFn Try.prog 8 [.sc (.int .i64 v), slDp l] (.sc (.bool true)) := lawPlaysP v l []
end Go.Proofs.Ytmjnffjacgjfmaa
