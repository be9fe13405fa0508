/- The law CifquadPlays, over the abstract memory. -/
import Derived.Test.YtdeemchhbgomjaaId
import Derived.Test.YtdeemchhbgomjaaHu
namespace Go.Proofs.Ytdeemchhbgomjaa
set_option linter.all false
open Go.RowKit AM
set_option maxRecDepth 10000
attribute [local simp] aw_skip' aw_region' aw_seq' aw_cond' aw_block' aw_loop' aw_exit' aw_label' aw_ret' aops_nil' aops_cons' aop' aMove aAssign aPick aAlloc aBox aBuild slF aBuildSlice aLoad aLoadOwn aStore aStoreOwn isOwn delR aNilCheck aBin aMakeFunc aFieldAddr aField aIndexOp aIndex partV aIndexAddr aExtract aSliceOp aSlice aShrink aCallOp aCall' aInvoke' aLen aLenMap aDelete aMM aUn aConv aIface aAssert aMakeMap aLookup aMapUpdate aRange aNext aEntry entsOf keyB seekK aMakeSlice lookV aAppend putK layK eval evalV AM.valOf getF putF setF del SV.refers cellsAt rootSV plains shift ldV V.exact V.exactL V.ofValue V.ofPart V.ofCell V.cells V.one Value.oneCell' fitB qSeq qBlock getB afin aret resVs resV resTmps shareF evalS tupV valsS valsV pickV calm calmB lenV useOf feeds shrinks stows looks isT newsV partsV fillV putAt zerosV fitsNil nilB sliceB isEq isNeq awx_skip' awx_region' awx_seq' awx_cond' awx_block' awx_loop' awx_exit' awx_label' awx_ret' xops_nil' xops_cons' xop' xload xcall' addO delO inO putD memB Mix.effB Mix.laysB keysF badK subW weakV zeroRow yops_nil' yops_cons' yop' yload yindex yfield ylen oldO dropO takeO oldL exactB
attribute [local simp] awz_skip' awz_region' awz_seq' awz_cond' awz_block' awz_loop' awz_exit' awz_label' awz_ret' zops_nil' zops_cons' zop' zload zloadOwn zcall' z0 new0 remF old0 dltB

/-- Something that is done: 0 put, else take. -/
structure Dq where
  kind : Int
  s : Sh
  deriving DecidableEq, Inhabited
def Dq.cs (d : Dq) : List V := .sc (.int .i64 d.kind) :: d.s.cs
def slD (l : List Dq) : V := .sl l.length 7 (l.flatMap Dq.cs)
theorem rowDq {xs : List Dq} {k : Nat} (h : k < xs.length) : AM.rowAt 7 (xs.flatMap Dq.cs) (k : Int) = [.sc (.int .i64 xs[k].kind), .sc (.int .i64 xs[k].s.id), .sc (.int .i64 xs[k].s.box.x0), .sc (.int .i64 xs[k].s.box.y0), .sc (.int .i64 xs[k].s.box.x1), .sc (.int .i64 xs[k].s.box.y1), .sc (.int .i64 xs[k].s.lab)] := row_flat (enc := Dq.cs) (sz := 7) (fun _ => rfl) h
def stepP (a : List Sh) (d : Dq) : List Sh := if d.kind = 0 then havS a d.s else less a d.s.id
def havP (l : List Dq) : List Sh := l.foldl stepP []
theorem havP_snoc {l : List Dq} {k : Nat} (h : k < l.length) : havP (l.take (k + 1)) = stepP (havP (l.take k)) l[k] := by
  unfold havP
  rw [take_snoc h, List.foldl_append]
  rfl
theorem stepP_spec {a : List Sh} {d : Dq} (h : Inc a) : Inc (stepP a d) ∧ (stepP a d).length ≤ a.length + 1 := by
  unfold stepP
  split
  · exact ⟨havS_inc h, havS_len h⟩
  · have : (less a d.s.id).length ≤ a.length := List.length_filter_le _ _
    exact ⟨h.less _, by omega⟩
theorem havP_spec (l : List Dq) : ∀ n, n ≤ l.length → Inc (havP (l.take n)) ∧ (havP (l.take n)).length ≤ n := by
  intro n
  induction n with
  | zero => intro _; simp [havP, Inc]
  | succ n ih =>
    intro hn
    obtain ⟨h1, h2⟩ := ih (by omega)
    rw [havP_snoc (by omega)]
    have := stepP_spec (d := l[n]) h1
    exact ⟨this.1, by omega⟩
/-- A tree of a row, of which nothing was there at first. -/
def TrN (H0 : List Bk) (r : Nat) (a : List Sh) (H : List Bk) : Prop := ∃ T, TrS H r a T ∧ Kp NoB H0 H ∧ ∀ x, T x → H0.length ≤ x
theorem TrN.app {H0 H L : List Bk} {r : Nat} {a : List Sh} (h : TrN H0 r a H) : TrN H0 r a (H ++ L) := by
  obtain ⟨T, h1, h2, h3⟩ := h
  exact ⟨T, h1.app, h2.app, h3⟩
theorem TrN.keep {H0 H H1 : List Bk} {r : Nat} {a : List Sh} (h : TrN H0 r a H) (k : Kp NoB H H1) : TrN H0 r a H1 := by
  obtain ⟨T, h1, h2, h3⟩ := h
  exact ⟨T, h1.keep0 k, h2.trans k, h3⟩
theorem TrN.le {H0 H : List Bk} {r : Nat} {a : List Sh} (h : TrN H0 r a H) : H0.length ≤ H.length := by
  obtain ⟨T, h1, h2, h3⟩ := h
  have a := h3 r h1.self
  have b := h1.lt r h1.self
  omega
/-- The tree turns; a block that is none of its own stays. -/
theorem TrN.turn {H0 H H1 : List Bk} {r : Nat} {T T' : Nat → Prop} {a a' b : List Sh} (h1 : TrS H r a T) (h2 : Kp NoB H0 H) (h3 : ∀ x, T x → H0.length ≤ x) (k : Kp T H H1) (h4 : TrS H1 r a' T') (h5 : ∀ x, T' x → T x ∨ H.length ≤ x) (hp : a'.Perm b) : TrN H0 r b H1 := by
  have hle := TrN.le ⟨T, h1, h2, h3⟩
  exact ⟨T', h4.perm hp, Kp.new ((h2.weak fun _ h => h.elim).trans (k.weak fun x hx => .inr (h3 x hx))), fun x hx => (h5 x hx).elim (h3 x) fun h => by omega⟩
def PlI (H0 : List Bk) (r : Nat) (l : List Dq) (fd : List V) (k : Nat) (F : Fr) (H : List Bk) : Prop :=
  TrN H0 r (havP (l.take k)) H ∧ F = [(0, .v (.sl l.length 7 fd)), (3, .v (.ptr r 0)), (4, .v (slS (havP (l.take k)))), (5, .v (.sc (.int .i64 k)))]
def PlM (H0 : List Bk) (r : Nat) (l : List Dq) (fd : List V) (k : Nat) (s : Sh) (q : Nat) (a : List Sh) (F : Fr) (H : List Bk) : Prop :=
  ∃ e : Int, TrN H0 r a H ∧ H[q]? = some (shB s) ∧ F = [(0, .v (.sl l.length 7 fd)), (3, .v (.ptr r 0)), (4, .v (slS a)), (5, .v (.sc (.int .i64 k))), (6, .v (.ptr q 0)), (9, .v (.sc (.int .i64 e))), (10, .v (.sc (.int .i64 e)))]
theorem fndV_eq (a : List Sh) (k : Int) : ∃ p : Sh, fndV a k = .tup [p.v, .sc (.bool (fnd a k).isSome)] := by
  unfold fndV
  cases fnd a k with
  | some p => exact ⟨p, rfl⟩
  | none => exact ⟨.zero, rfl⟩
theorem takeE_eq (a : List Sh) (k : Int) : takeE a k = if (fnd a k).isSome then 0 else 21 := by
  unfold takeE
  cases fnd a k <;> rfl
theorem boolNeqP {x y : Operand} {u : Bool} : binR Try.prog .neq 4 x y (.bool u) (.bool u) = some (.bool false) := by cases u <;> kernel_rfl
set_option maxHeartbeats 4000000 in
theorem lawPlays (l : List Dq) (H : List Bk) : AFn Try.prog 6 [slD l] H fun y _ => y = .sc (.bool true) := by
  unfold slD
  have hrow := fun k (h : k < l.length) => rowDq h
  generalize hfd : l.flatMap Dq.cs = fd at *
  refine AFn.intro (fn := Try.f6) (by kernel_rfl) rfl (by kernel_rfl) (by simp) ?_
  simp only [Try.f6, argsF]
  refine AW.seq (AW.ofx [] mixed (by kernel_rfl) ?_)
  simp
  refine AW.seq (AW.ofx [] mixed (by kernel_rfl) ?_)
  simp
  refine callK.of (tnew H) ?_
  rintro y H1 ⟨r, T, rfl, t1, k1, f1⟩
  simp
  refine AW.seq (AW.ofx [] mixed (by kernel_rfl) ?_)
  simp
  refine AW.seq (AW.ofx [] mixed (by kernel_rfl) ?_)
  simp
  refine AW.seq (AW.seq (AW.ofx [] mixed (by kernel_rfl) ?_))
  simp
  refine AW.block (AW.count (min l.length 60) (PlI H r l fd) ⟨_, ?_, ⟨T, t1, k1, f1⟩, rfl⟩ ?_)
  · simp [subW, weakV, getF, slS, zeroRow, havP]
  rintro k F H2 hk ⟨t2, rfl⟩
  have hsp := havP_spec l k (by omega)
  unfold slS
  refine AW.seq (AW.ofx [] mixed (by kernel_rfl) ?_)
  by_cases hlt : k < min l.length 60
  · have hkl : k < l.length := by omega
    have hk60 : (k : Int) < 60 := by omega
    have w1 : IntKind.i64.wrap ((k : Int) + 1) = (k : Int) + 1 := by rw [wrap_i64] <;> omega
    have hr := hrow k hkl
    have hsn := havP_snoc hkl
    have hst := stepP_spec (d := l[k]) hsp.1
    have hsd : stepP (havP (l.take k)) l[k] = if l[k].kind = 0 then havS (havP (l.take k)) l[k].s else less (havP (l.take k)) l[k].s.id := rfl
    generalize l[k] = d at *
    generalize havP (l.take k) = a at *
    obtain ⟨kd, s⟩ := d
    simp only at hsd hr
    obtain ⟨hai, hal⟩ := hsp
    simp [hkl, hk60]
    refine AW.seq (AW.block (AW.seq (AW.ofx [] mixed (by kernel_rfl) ?_)))
    simp [hkl, hr, setCells, setBlk]
    obtain ⟨T4, tt2, kk2, ff4⟩ := t2
    have hqT : ¬ T4 H2.length := fun h => by
      have := tt2.lt _ h
      omega
    have tt3 := tt2.app (L := [shB s])
    have kk3 := kk2.app (L := [shB s])
    have hq3 : (H2 ++ [shB s])[H2.length]? = some (shB s) := by simp
    unfold shB at hq3 tt3 kk3
    generalize H2 ++ [Bk.cells [.v (.sc (.int .i64 s.id)), .v (.sc (.int .i64 s.box.x0)), .v (.sc (.int .i64 s.box.y0)), .v (.sc (.int .i64 s.box.x1)), .v (.sc (.int .i64 s.box.y1)), .v (.sc (.int .i64 s.lab))]] = H3 at *
    generalize H2.length = q at *
    refine AW.seq (AW.ofx [] mixed (by kernel_rfl) ?_)
    simp [hq3]
    have hFd := refFind a s.id (by omega)
    obtain ⟨p, hp⟩ := fndV_eq a s.id
    have hte := takeE_eq a s.id
    rw [hp, shv_eq] at hFd
    generalize (fnd a s.id).isSome = b at *
    unfold slS at hFd
    have hcla : ∀ a : List Sh, V.closedL (a.flatMap Sh.cs) = true := fun a => closed_flat (enc := Sh.cs) (fun _ => rfl) a
    refine callK.pure hFd (by simp [V.closedL, V.closed, hcla]) rfl ?_
    simp [setCells, setBlk]
    refine AW.seq (AW.ofx [] mixed (by kernel_rfl) ?_)
    simp
    have tt4 := tt3.app (L := [shB p])
    have kk4 := kk3.app (L := [shB p])
    have hq4 := hget (L := [shB p]) hq3
    unfold shB at hq4 tt4 kk4
    generalize H3 ++ [Bk.cells [.v (.sc (.int .i64 p.id)), .v (.sc (.int .i64 p.box.x0)), .v (.sc (.int .i64 p.box.y0)), .v (.sc (.int .i64 p.box.x1)), .v (.sc (.int .i64 p.box.y1)), .v (.sc (.int .i64 p.lab))]] = H4 at *
    clear tt3 kk3 hq3 tt2 kk2
    have hinv : ∀ H5 a1 e, TrN H r a1 H5 → a1 = stepP a ⟨kd, s⟩ → Kp T4 H4 H5 → PlM H r l fd k s q (stepP a ⟨kd, s⟩) [(0, .v (.sl l.length 7 fd)), (3, .v (.ptr r 0)), (4, .v (slS a1)), (5, .v (.sc (.int .i64 k))), (6, .v (.ptr q 0)), (9, .v (.sc (.int .i64 e))), (10, .v (.sc (.int .i64 e)))] H5 := by
      rintro H5 a1 e h1 rfl h2
      exact ⟨e, h1, h2.cells hqT hq4, rfl⟩
    refine AW.mid (PlM H r l fd k s q (stepP a ⟨kd, s⟩)) (AW.seq (AW.ofx [] mixed (by kernel_rfl) ?_)) ?_
    · simp [hkl, hr]
      by_cases hkd : kd = 0
      · refine AW.cond true (by simp [getB, getF, eval, hkd]) (fun _ => ?_) (fun h => by cases h)
        rw [if_pos hkd] at hsd
        have hpt := tput tt4 s (by omega)
        have hR := refRightR s.box
        have hpe : putE s = if rightR s.box then 0 else 1 := rfl
        have hhp := havS_perm (s := s) hai
        have hP := refPut a s (by omega)
        have hPp : havS a s = if rightR s.box then putD a s else a := rfl
        rw [shv_eq] at hP hpt
        unfold slS at hP
        unfold Re.v Re.cs at hR
        refine AW.seq (AW.ofx [] mixed (by kernel_rfl) ?_)
        simp [hq4]
        refine callK.of hpt ?_
        rintro y H5 ⟨rfl, k5, T5, tt5, ff5⟩
        have hn5 : TrN H r (havS a s) H5 := TrN.turn tt4 kk4 ff4 k5 tt5 ff5 hhp.symm
        have hq5 := k5.cells hqT hq4
        simp
        refine AW.seq (AW.ofx [] mixed (by kernel_rfl) ?_)
        simp [hq5]
        refine callK.pure hR rfl rfl ?_
        rw [hpe]
        cases hb : rightR s.box with
        | false =>
          rw [hb] at hPp
          simp only [Bool.false_eq_true, if_false] at hPp
          simp
          refine AW.ofx [] mixed (by kernel_rfl) ?_
          simp
          refine ⟨_, ?_, hinv H5 a 1 (by rw [← hPp]; exact hn5) (by rw [hsd, hPp]) k5⟩
          simp [subW, weakV, getF, slS]
        | true =>
          rw [hb] at hPp
          simp only [if_true] at hPp
          simp
          refine AW.ofx [] mixed (by kernel_rfl) ?_
          simp [hq5]
          refine callK.pure hP (by simp [V.closedL, V.closed, hcla]) (by simp [V.closed, hcla]) ?_
          simp
          refine ⟨_, ?_, hinv H5 (putD a s) 0 (by rw [← hPp]; exact hn5) (by rw [hsd, hPp]) k5⟩
          simp [subW, weakV, getF, slS]
      · refine AW.cond false (by simp [getB, getF, eval, hkd]) (fun h => by cases h) (fun _ => ?_)
        rw [if_neg hkd] at hsd
        have hP := refWithout a s.id (by omega)
        unfold slS at hP
        refine AW.seq (AW.ofx [] mixed (by kernel_rfl) ?_)
        simp [hq4]
        refine callK.of (ttake tt4 s.id) ?_
        rintro y H5 ⟨rfl, k5, T5, tt5, ff5⟩
        have hn5 : TrN H r (less a s.id) H5 := TrN.turn tt4 kk4 ff4 k5 tt5 (fun x hx => .inl (ff5 x hx)) (List.Perm.refl _)
        have hq5 := k5.cells hqT hq4
        simp
        refine AW.seq (AW.ofx [] mixed (by kernel_rfl) ?_)
        simp [hq5]
        refine callK.pure hP (by simp [V.closedL, V.closed, hcla]) (by simp [V.closed, hcla]) ?_
        rw [hte]
        cases b with
        | true =>
          simp
          refine AW.ofx [] mixed (by kernel_rfl) ?_
          simp
          refine ⟨_, ?_, hinv H5 _ 0 hn5 hsd.symm k5⟩
          simp [subW, weakV, getF, slS]
        | false =>
          simp
          refine AW.ofx [] mixed (by kernel_rfl) ?_
          simp
          refine ⟨_, ?_, hinv H5 _ 21 hn5 hsd.symm k5⟩
          simp [subW, weakV, getF, slS]
    · rintro F H5 ⟨e, t5, hq5, rfl⟩
      generalize hs' : stepP a ⟨kd, s⟩ = c at *
      obtain ⟨hci, hcl⟩ := hst
      clear hsd hr hinv hq4 tt4 kk4 ff4 hp hFd
      obtain ⟨T5, tt5, kk5, ff5⟩ := id t5
      obtain ⟨x, hx⟩ := fndV_eq c s.id
      have hFd := refFind c s.id (by omega)
      rw [hx, shv_eq] at hFd
      unfold slS at hFd
      unfold shB at hq5
      unfold slS
      refine AW.seq (AW.ofx [] mixed (by kernel_rfl) ?_)
      simp [hq5]
      refine callK.of (tfind tt5 s.id) ?_
      rintro y H6 ⟨rfl, k6⟩
      rw [hx, shv_eq]
      have hq6 := k6.cells (fun h => h) hq5
      have t6 := t5.keep k6
      clear t5 tt5 kk5 ff5 k6 hq5 hx
      simp [setCells, setBlk]
      have hq7 := hget (L := [shB x]) hq6
      have t7 := t6.app (L := [shB x])
      have hx7 : (H6 ++ [shB x])[H6.length]? = some (shB x) := by simp
      unfold shB at hq7 t7 hx7
      generalize H6 ++ [Bk.cells [.v (.sc (.int .i64 x.id)), .v (.sc (.int .i64 x.box.x0)), .v (.sc (.int .i64 x.box.y0)), .v (.sc (.int .i64 x.box.x1)), .v (.sc (.int .i64 x.box.y1)), .v (.sc (.int .i64 x.lab))]] = H7 at *
      generalize H6.length = u at *
      clear t6 hq6
      refine AW.seq (AW.ofx [] mixed (by kernel_rfl) ?_)
      simp [hq7]
      refine callK.pure hFd (by simp [V.closedL, V.closed, hcla]) rfl ?_
      simp [setCells, setBlk]
      have hx8 := hget (L := [shB x]) hx7
      have t8 := t7.app (L := [shB x])
      have hy8 : (H7 ++ [shB x])[H7.length]? = some (shB x) := by simp
      unfold shB at hx8 t8 hy8
      generalize H7 ++ [Bk.cells [.v (.sc (.int .i64 x.id)), .v (.sc (.int .i64 x.box.x0)), .v (.sc (.int .i64 x.box.y0)), .v (.sc (.int .i64 x.box.x1)), .v (.sc (.int .i64 x.box.y1)), .v (.sc (.int .i64 x.lab))]] = H8 at *
      generalize H7.length = z at *
      clear t7 hq7 hx7
      generalize (fnd c s.id).isSome = b1 at *
      obtain ⟨T8, tt8, kk8, ff8⟩ := id t8
      obtain ⟨_, _, _, _, hb8, _⟩ := id tt8
      have hNo := refNodes c (by omega)
      rw [refC_nd (S := c) hb8.right (fun _ => Iff.rfl)] at hNo
      unfold slS at hNo
      have hNd := tnodes tt8
      generalize (ndCells 17 root0 c).length = nn at *
      refine AW.seq (AW.ofx [] mixed (by kernel_rfl) ?_)
      simp
      refine callK.of (tlen tt8) ?_
      rintro y H9 ⟨rfl, rfl⟩
      simp [hx8, hy8, hEqSh, hGSh, boolNeqP]
      refine callK.of hNd ?_
      rintro y H9 ⟨rfl, rfl⟩
      simp
      refine callK.pure hNo (by simp [V.closedL, V.closed, hcla]) rfl ?_
      simp
      refine AW.ofx [] mixed (by kernel_rfl) ?_
      simp
      refine AW.ofx [] mixed (by kernel_rfl) ?_
      simp [w1]
      refine ⟨by omega, _, ?_, by rw [hsn]; exact t8, rfl⟩
      rw [hsn]
      simp [subW, weakV, getF, slS]
  · have hnk : k = min l.length 60 := by omega
    have hno : ¬ ((k : Int) < l.length ∧ (k : Int) < 60) := by omega
    obtain ⟨T2, tt2, kk2, ff2⟩ := id t2
    have hso := hsp.1.sort
    have hal := hsp.2
    generalize havP (l.take k) = a at *
    have hcla : ∀ a : List Sh, V.closedL (a.flatMap Sh.cs) = true := fun a => closed_flat (enc := Sh.cs) (fun _ => rfl) a
    have hSm := refSame a a (by omega)
    simp at hSm
    unfold slS at hSm
    have hAl := tall tt2
    rw [hso] at hAl
    unfold slS at hAl
    by_cases hkl : (k : Int) < l.length
    · have hk60 : ¬ (k : Int) < 60 := by omega
      simp [hkl, hk60]
      refine AW.ofx [] mixed (by kernel_rfl) ?_
      simp
      refine callK.of hAl ?_
      rintro y H6 ⟨rfl, k6⟩
      simp
      refine callK.pure hSm (by simp [V.closedL, V.closed, hcla]) rfl ?_
      simp
      refine callK.of (lknown _) ?_
      rintro y H7 ⟨rfl, k7⟩
      simp
    · simp [hkl]
      refine AW.ofx [] mixed (by kernel_rfl) ?_
      simp
      refine callK.of hAl ?_
      rintro y H6 ⟨rfl, k6⟩
      simp
      refine callK.pure hSm (by simp [V.closedL, V.closed, hcla]) rfl ?_
      simp
      refine callK.of (lknown _) ?_
      rintro y H7 ⟨rfl, k7⟩
      simp
theorem lawPlays0 (l : List Dq) : PFn Try.prog 6 [slD l] (.sc (.bool true)) := lawPlays l []
end Go.Proofs.Ytdeemchhbgomjaa
