/- The law PyramidPlays: its walk. -/
import Derived.Test.YtoooldijnilpaaaPl
import Derived.Test.YtoooldijnilpaaaPm
namespace Go.Proofs.Ytoooldijnilpaaa
set_option linter.all false
open Go.RowKit AM
set_option maxRecDepth 10000
attribute [local simp] aw_skip' aw_region' aw_seq' aw_cond' aw_block' aw_loop' aw_exit' aw_label' aw_ret' aops_nil' aops_cons' aop' aMove aAssign aPick aAlloc aBox aBuild aBuildSlice aLoad aLoadOwn aStore aStoreOwn isOwn delR aNilCheck aBin aMakeFunc aFieldAddr aField aIndexAddr aExtract aSliceOp aSlice aCallOp aCall' aLen aLenMap aDelete aMM aUn aConv aIface aAssert aMakeMap aLookup aMapUpdate aRange aNext aEntry entsOf keyB lookV aAppend putK layK eval evalV AM.valOf getF putF setF del SV.refers cellsAt rootSV plains shift ldV V.exact V.exactL V.ofValue V.ofPart V.ofCell V.cells V.one Value.oneCell' fitB qSeq qBlock getB afin aret resVs resV resTmps shareF evalS tupV valsS valsV pickV calm calmB lenV useOf feeds looks isT newsV partsV fillV putAt zerosV fitsNil nilB isEq isNeq awx_skip' awx_region' awx_seq' awx_cond' awx_block' awx_loop' awx_exit' awx_label' awx_ret' xops_nil' xops_cons' xop' xload xcall' addO delO inO putD memB Mix.effB Mix.laysB keysF badK subW weakV zeroRow yops_nil' yops_cons' yop' yload yindex yfield ylen oldO dropO takeO oldL exactB

structure Po where
  k : Int
  p : Pt
  q : Pt
  deriving DecidableEq, Inhabited
namespace Po
def cs (o : Po) : List V := [.sc (.int .i64 o.k), .sc (.int .i64 o.p.x), .sc (.int .i64 o.p.y), .sc (.int .i64 o.q.x), .sc (.int .i64 o.q.y)]
end Po
def slO (xs : List Po) : V := .sl xs.length 5 (xs.flatMap Po.cs)
theorem rowO {xs : List Po} {k : Nat} (h : k < xs.length) : AM.rowAt 5 (xs.flatMap Po.cs) (k : Int) = [.sc (.int .i64 xs[k].k), .sc (.int .i64 xs[k].p.x), .sc (.int .i64 xs[k].p.y), .sc (.int .i64 xs[k].q.x), .sc (.int .i64 xs[k].q.y)] := row_flat (enc := Po.cs) (sz := 5) (fun _ => rfl) h
theorem wiF_eq (p : Pt) : ∀ (xs a : List Pt), xs.foldl (wiS p) (a, true) = (a ++ xs, true)
  | [], a => by simp
  | x :: xs, a => by
    rw [List.foldl_cons]
    have : wiS p (a, true) x = (a ++ [x], true) := by simp [wiS]
    rw [this, wiF_eq p xs]
    simp
theorem wiF_eq' (p : Pt) : ∀ (xs a : List Pt), xs.foldl (wiS p) (a, false) = (a ++ xs.erase p, decide (p ∈ xs))
  | [], a => by simp
  | x :: xs, a => by
    rw [List.foldl_cons]
    by_cases h : x = p
    · have : wiS p (a, false) x = (a, true) := by simp [wiS, h]
      rw [this, wiF_eq p xs]
      simp [h]
    · have : wiS p (a, false) x = (a ++ [x], false) := by simp [wiS, h]
      have h' : (x == p) = false := by simpa using h
      rw [this, wiF_eq' p xs]
      simp [List.erase_cons, h', Ne.symm h]
theorem wiL_eq (xs : List Pt) (p : Pt) : wiL xs p = (xs.erase p, decide (p ∈ xs)) := by
  unfold wiL
  rw [wiF_eq']
  simp
def opG (h : List Pt) (o : Po) : List Pt := if o.k = 0 then (if fits o.p then putL h o.p else h) else if o.k = 1 then h.erase o.p else if fits o.q && decide (o.p ∈ h) then putL (h.erase o.p) o.q else h
def opsL (xs : List Po) : List Pt := xs.foldl opG []
theorem opsL_succ {xs : List Po} {k : Nat} (h : k < xs.length) : opsL (xs.take (k + 1)) = opG (opsL (xs.take k)) xs[k] := by
  unfold opsL
  rw [List.take_succ_eq_append_getElem h, List.foldl_append]
  rfl
def Rises (h : List Pt) : Prop := h.Pairwise fun p q => pcode p ≤ pcode q
theorem rises_putF {p : Pt} : ∀ (xs a : List Pt), Rises (a ++ xs) → (∀ x ∈ a, pcode x ≤ pcode p) → Rises ((xs.foldl (putS p) (a, false)).1 ++ if (xs.foldl (putS p) (a, false)).2 then [] else [p]) := by
  have done : ∀ (xs b : List Pt), xs.foldl (putS p) (b, true) = (b ++ xs, true) := by
    intro xs
    induction xs with
    | nil => simp
    | cons x xs ih =>
      intro b
      have : putS p (b, true) x = (b ++ [x], true) := by simp [putS]
      rw [List.foldl_cons, this, ih]
      simp
  intro xs
  induction xs with
  | nil =>
    intro a h1 h2
    simp only [List.foldl_nil, Bool.false_eq_true, if_false]
    unfold Rises at h1 ⊢
    rw [List.append_nil] at h1
    rw [List.pairwise_append]
    exact ⟨h1, by simp, fun x hx q hq => by simp at hq; subst hq; exact h2 x hx⟩
  | cons x xs ih =>
    intro a h1 h2
    rw [List.foldl_cons]
    by_cases h : pcode p < pcode x
    · have : putS p (a, false) x = (a ++ [p, x], true) := by simp [putS, h]
      rw [this, done]
      simp only [if_true, List.append_nil, List.append_assoc]
      unfold Rises at h1 ⊢
      rw [List.pairwise_append] at h1 ⊢
      obtain ⟨q1, q2, q3⟩ := h1
      refine ⟨q1, ?_, fun y hy z hz => ?_⟩
      · simp only [List.cons_append, List.nil_append]
        rw [List.pairwise_cons]
        refine ⟨fun z hz => ?_, q2⟩
        rcases List.mem_cons.1 hz with rfl | hz
        · omega
        · have := (List.pairwise_cons.1 q2).1 z hz
          omega
      · simp only [List.cons_append, List.nil_append] at hz
        rcases List.mem_cons.1 hz with rfl | hz
        · exact h2 y hy
        · exact q3 y hy z hz
    · have : putS p (a, false) x = (a ++ [x], false) := by simp [putS, h]
      rw [this]
      refine ih (a ++ [x]) (by simpa using h1) fun y hy => ?_
      rcases List.mem_append.1 hy with hy | hy
      · exact h2 y hy
      · simp at hy
        subst hy
        omega
theorem rises_put {h : List Pt} (hr : Rises h) (p : Pt) : Rises (putL h p) := by
  have := rises_putF (p := p) h [] (by simpa using hr) (by simp)
  unfold putL putG
  cases hb : (h.foldl (putS p) ([], false)).2 with
  | true => rw [hb] at this; simpa using this
  | false => rw [hb] at this; simpa using this
theorem rises_erase {h : List Pt} (hr : Rises h) (p : Pt) : Rises (h.erase p) := List.Pairwise.sublist List.erase_sublist hr
theorem rises_op {h : List Pt} (hr : Rises h) (o : Po) : Rises (opG h o) := by
  unfold opG
  split
  · split
    · exact rises_put hr _
    · exact hr
  · split
    · exact rises_erase hr _
    · split
      · exact rises_put (rises_erase hr _) _
      · exact hr
theorem rises_ops (xs : List Po) : Rises (opsL xs) := by
  have go : ∀ (xs : List Po) (h : List Pt), Rises h → Rises (xs.foldl opG h) := by
    intro xs
    induction xs with
    | nil => exact fun h hr => hr
    | cons x xs ih => exact fun h hr => ih _ (rises_op hr x)
  exact go xs [] (by simp [Rises])
theorem rises_uniq {a b : List Pt} (ha : Rises a) (hb : Rises b) (hp : a.Perm b) (hf : ∀ p ∈ a, fits p = true) : a = b :=
  List.Perm.eq_of_pairwise (le := fun p q => pcode p ≤ pcode q) (fun x y hx hy h1 h2 => pcode_inj (hf x hx) (hf y (hp.mem_iff.2 hy)) (by omega)) ha hb hp
theorem sortP_rises' {a : List Pt} (ha : Rises a) (hf : ∀ p ∈ a, fits p = true) : sortP a = a :=
  rises_uniq (sortP_rises a) ha (sortP_perm a) fun p hp => hf p ((sortP_perm a).mem_iff.1 hp)
theorem opG_len (h : List Pt) (o : Po) : (opG h o).length ≤ h.length + 1 := by
  unfold opG
  split
  · split
    · rw [(putL_perm h o.p).length_eq]; simp
    · omega
  · split
    · have := List.length_erase_le (a := o.p) (l := h); omega
    · split
      · rw [(putL_perm _ o.q).length_eq]
        have := List.length_erase_le (a := o.p) (l := h)
        simp
        omega
      · omega
theorem opsL_len (xs : List Po) : (opsL xs).length ≤ xs.length := by
  have go : ∀ (xs : List Po) (h : List Pt), (xs.foldl opG h).length ≤ h.length + xs.length := by
    intro xs
    induction xs with
    | nil => intro h; simp
    | cons x xs ih =>
      intro h
      have h1 := ih (opG h x)
      have h2 := opG_len h x
      rw [List.foldl_cons]
      simp only [List.length_cons]
      omega
  simpa [opsL] using go xs []
theorem PyrS.lenNot {H : List Bk} {r : Nat} {ms : List Nat} {ps : List Pt} (h : PyrS H r ms ps) : H.length ∉ ms := fun hm => by
  obtain ⟨⟨M, hp, _⟩, _⟩ := h
  obtain ⟨l, hl', e⟩ := List.getElem_of_mem hm
  have := hp.m l _ (by rw [List.getElem?_eq_getElem hl', e])
  have := (List.getElem?_eq_some_iff.1 this).1
  omega
def PlI (xs : List Po) (c : Ce) (r : Nat) (ms : List Nat) (k : Nat) (F : Fr) (H : List Bk) : Prop := PyrS H r ms (opsL (xs.take k)) ∧ H[0]? = some (.cells [.v (.sc (.int .i64 c.l)), .v (.sc (.int .i64 c.x)), .v (.sc (.int .i64 c.y))]) ∧ (∀ m ∈ ms, 0 < m) ∧
  F = [(0, .v (slO xs)), (3, .v (.ptr 0 0)), (5, .v (.ptr r 0)), (6, .v (slP (opsL (xs.take k)))), (7, .v (.sc (.int .i64 k)))]
set_option maxHeartbeats 2000000 in
theorem playsLaw (xs : List Po) (c : Ce) : AFn Try.prog 7 [slO xs, c.v] [] fun y _ => y = .sc (.bool true) := by
  have hC := fun (H : List Bk) (r : Nat) (ms : List Nat) (ps : List Pt) (h : PyrS H r ms ps) => h.count c
  unfold Ce.v Ce.cs at hC ⊢
  refine AFn.intro (fn := Try.f7) (by kernel_rfl) rfl (by kernel_rfl) (by simp) (AW.ofx [(24, 16, [9, 10, 5, 6, 3])] mixed (by kernel_rfl) ?_)
  simp only [Try.f7, argsF]
  simp
  refine callK.of (pnew _) ?_
  rintro y H1 ⟨r, ms, rfl, h1, k1, _, hm1⟩
  have q1 := k1 0 _ (by simp) rfl (fun _ _ _ => by simp)
  simp
  refine AW.count (min xs.length 80) (PlI xs c r ms) ⟨_, ?_, by simpa [opsL] using h1, q1, fun m hm => by have := hm1 m hm; simp at this; omega, rfl⟩ ?_
  · simp [subW, weakV, getF, opsL, slP, zeroRow]
  rintro k F H2 hk ⟨h2, q2, hm2, rfl⟩
  refine AW.ofx [(24, 16, [9, 10, 5, 6, 3])] mixed (by kernel_rfl) ?_
  have hol := opsL_len (xs.take k)
  rw [List.length_take] at hol
  by_cases hlt : k < min xs.length 80
  · have hlt1 : k < xs.length := by omega
    have hlt2 : (k : Int) < 80 := by omega
    have hn := opsL_succ hlt1
    have w1 : IntKind.i64.wrap ((k : Int) + 1) = (k : Int) + 1 := by rw [wrap_i64] <;> omega
    have hrow := rowO hlt1
    have hadd := fun L => (h2.app (L := L)).add xs[k].p (by omega)
    have hrem := fun L => (h2.app (L := L)).remove xs[k].p
    have hmov := fun L => (h2.app (L := L)).move xs[k].p xs[k].q (by omega)
    have hput := refPut (opsL (xs.take k)) xs[k].p (by omega)
    have hput2 := refPut ((opsL (xs.take k)).erase xs[k].p) xs[k].q (by
      have := List.length_erase_le (a := xs[k].p) (l := opsL (xs.take k))
      omega)
    have hwi := refWithout (opsL (xs.take k)) xs[k].p (by omega)
    rw [wiL_eq] at hwi
    have hf1 := refFits xs[k].p
    have hf2 := refFits xs[k].q
    have hnb : H2.length ∉ ms := h2.lenNot
    have h0b : 0 ∉ ms := fun hm => Nat.lt_irrefl _ (hm2 0 hm)
    have hgl := opG_len (opsL (xs.take k)) xs[k]
    have hcl := slP_closed (opsL (xs.take k))
    have hcl2 := slP_closed ((opsL (xs.take k)).erase xs[k].p)
    have hcl3 := slP_closed (putL (opsL (xs.take k)) xs[k].p)
    have hcl4 := slP_closed (putL ((opsL (xs.take k)).erase xs[k].p) xs[k].q)
    have hcell := fun ps => cellN_cntR (ps := ps)
    unfold Pt.v Pt.cs at hadd hrem hmov hput hput2 hwi hf1 hf2
    have hR := fun ps hx => refCount ps c hx
    unfold Ce.v Ce.cs at hR
    have e0 : exactB [.v (.sc (.int .i64 c.l)), .v (.sc (.int .i64 c.x)), .v (.sc (.int .i64 c.y))] = true := rfl
    have fin : ∀ (H4 : List Bk) (ps : List Pt), opG (opsL (xs.take k)) xs[k] = ps → PyrS H4 r ms ps → H4[0]? = some (.cells [.v (.sc (.int .i64 c.l)), .v (.sc (.int .i64 c.x)), .v (.sc (.int .i64 c.y))]) → PlI xs c r ms (k + 1) [(0, .v (slO xs)), (3, .v (.ptr 0 0)), (5, .v (.ptr r 0)), (6, .v (slP ps)), (7, .v (.sc (.int .i64 (k + 1 : Nat))))] H4 := fun H4 ps e h4 q4 => by
      refine ⟨by rw [hn, e]; exact h4, q4, hm2, by rw [hn, e]⟩
    generalize xs[k] = o at *
    simp [hlt1, hlt2, slO, hrow, setLast]
    by_cases o0 : o.k = 0
    · simp [o0]
      refine callK.of (hadd _) ?_
      rintro y H3 ⟨rfl, k3, h3⟩
      have q3 := k3 0 _ h0b (get_app q2) (fun _ _ _ => by simp)
      have p3 := k3 _ _ hnb app_len (fun _ _ _ => by simp)
      simp [p3]
      refine callK.pure hf1 rfl rfl ?_
      cases hf : fits o.p with
      | true =>
        rw [hf] at h3
        have hp3 : PyrS H3 r ms (putL (opsL (xs.take k)) o.p) := h3.perm (putL_perm _ _).symm
        have eo : opG (opsL (xs.take k)) o = putL (opsL (xs.take k)) o.p := by simp [opG, o0, hf]
        rw [eo] at hgl
        replace fin := fun H4 => fin H4 _ eo
        simp [p3]
        refine callK.pure hput (by simp [V.closedL, V.closed, hcl]) hcl3 ?_
        generalize putL (opsL (xs.take k)) o.p = ps at *
        simp [boolNe, q3, e0, slO]
        refine callK.of hp3.total ?_
        rintro y H4 ⟨rfl, h4, k4⟩
        have q4 := k4 0 _ (by simp) q3 (fun _ _ _ => by simp)
        simp [slP, q3, q4, e0, keepS_kept (ms := []) k4]
        refine callK.of (hC _ _ _ _ h4) ?_
        rintro y H5 ⟨rfl, h5, k5⟩
        have q5 := k5 0 _ (by simp) q4 (fun _ _ _ => by simp)
        simp [slP, q3, q4, q5, e0, keepS_kept (ms := []) k4, keepS_kept (ms := []) k5, keepS_kept (ms := []) (k4.trans k5)]
        refine callK.pure (hR ps (by omega)) (by simp [V.closedL, V.closed, slP, flatP_closed]) rfl ?_
        rw [cellN_cntR h5.fits c]
        simp [slP, w1]
        exact ⟨hlt, _, (by simp [subW, weakV, getF, slP, slO]), fin _ h5 q5⟩
      | false =>
        rw [hf] at h3
        have hp3 : PyrS H3 r ms (opsL (xs.take k)) := h3
        have eo : opG (opsL (xs.take k)) o = opsL (xs.take k) := by simp [opG, o0, hf]
        replace fin := fun H4 => fin H4 _ eo
        generalize opsL (xs.take k) = ps at *
        simp [boolNe, q3, e0, slO]
        refine callK.of hp3.total ?_
        rintro y H4 ⟨rfl, h4, k4⟩
        have q4 := k4 0 _ (by simp) q3 (fun _ _ _ => by simp)
        simp [slP, q3, q4, e0, keepS_kept (ms := []) k4]
        refine callK.of (hC _ _ _ _ h4) ?_
        rintro y H5 ⟨rfl, h5, k5⟩
        have q5 := k5 0 _ (by simp) q4 (fun _ _ _ => by simp)
        simp [slP, q3, q4, q5, e0, keepS_kept (ms := []) k4, keepS_kept (ms := []) k5, keepS_kept (ms := []) (k4.trans k5)]
        refine callK.pure (hR ps (by omega)) (by simp [V.closedL, V.closed, slP, flatP_closed]) rfl ?_
        rw [cellN_cntR h5.fits c]
        simp [slP, w1]
        exact ⟨hlt, _, (by simp [subW, weakV, getF, slP, slO]), fin _ h5 q5⟩
    have o0' : (o.k == 0) = false := by simpa using o0
    by_cases o1 : o.k = 1
    · simp [o1]
      refine callK.of (hrem _) ?_
      rintro y H3 ⟨rfl, k3, h3⟩
      have q3 := k3 0 _ h0b (get_app q2) (fun _ _ _ => by simp)
      have p3 := k3 _ _ hnb app_len (fun _ _ _ => by simp)
      have eo : opG (opsL (xs.take k)) o = (opsL (xs.take k)).erase o.p := by simp [opG, o1]
      rw [eo] at hgl
      replace fin := fun H4 => fin H4 _ eo
      simp [p3]
      refine callK.pure hwi (by simp [V.closedL, V.closed, hcl]) (by simp [V.closedL, V.closed, hcl2]) ?_
      have hp3 := h3
      generalize (opsL (xs.take k)).erase o.p = ps at *
      simp [boolNe, q3, e0, slO]
      refine callK.of hp3.total ?_
      rintro y H4 ⟨rfl, h4, k4⟩
      have q4 := k4 0 _ (by simp) q3 (fun _ _ _ => by simp)
      simp [slP, q3, q4, e0, keepS_kept (ms := []) k4]
      refine callK.of (hC _ _ _ _ h4) ?_
      rintro y H5 ⟨rfl, h5, k5⟩
      have q5 := k5 0 _ (by simp) q4 (fun _ _ _ => by simp)
      simp [slP, q3, q4, q5, e0, keepS_kept (ms := []) k4, keepS_kept (ms := []) k5, keepS_kept (ms := []) (k4.trans k5)]
      refine callK.pure (hR ps (by omega)) (by simp [V.closedL, V.closed, slP, flatP_closed]) rfl ?_
      rw [cellN_cntR h5.fits c]
      simp [slP, w1]
      exact ⟨hlt, _, (by simp [subW, weakV, getF, slP, slO]), fin _ h5 q5⟩
    have o1' : (o.k == 1) = false := by simpa using o1
    simp [o0', o1']
    refine callK.of (hmov _) ?_
    rintro y H3 ⟨rfl, k3, h3⟩
    have q3 := k3 0 _ h0b (get_app q2) (fun _ _ _ => by simp)
    have p3 := k3 _ _ hnb app_len (fun _ _ _ => by simp)
    simp [p3]
    refine callK.pure hwi (by simp [V.closedL, V.closed, hcl]) (by simp [V.closedL, V.closed, hcl2]) ?_
    by_cases hm : o.p ∈ opsL (xs.take k)
    rotate_left
    · have hp3 : PyrS H3 r ms (opsL (xs.take k)) := by simpa [moveB, hm] using h3
      have eo : opG (opsL (xs.take k)) o = opsL (xs.take k) := by simp [opG, o0, o1, hm]
      replace fin := fun H4 => fin H4 _ eo
      simp [boolNe, q3, e0, slO, hm, moveB]
      generalize opsL (xs.take k) = ps at *
      refine callK.of hp3.total ?_
      rintro y H4 ⟨rfl, h4, k4⟩
      have q4 := k4 0 _ (by simp) q3 (fun _ _ _ => by simp)
      simp [slP, q3, q4, e0, keepS_kept (ms := []) k4]
      refine callK.of (hC _ _ _ _ h4) ?_
      rintro y H5 ⟨rfl, h5, k5⟩
      have q5 := k5 0 _ (by simp) q4 (fun _ _ _ => by simp)
      simp [slP, q3, q4, q5, e0, keepS_kept (ms := []) k4, keepS_kept (ms := []) k5, keepS_kept (ms := []) (k4.trans k5)]
      refine callK.pure (hR ps (by omega)) (by simp [V.closedL, V.closed, slP, flatP_closed]) rfl ?_
      rw [cellN_cntR h5.fits c]
      simp [slP, w1]
      exact ⟨hlt, _, (by simp [subW, weakV, getF, slP, slO]), fin _ h5 q5⟩
    simp [p3, hm]
    refine callK.pure hf2 rfl rfl ?_
    cases hf : fits o.q with
    | false =>
      have hp3 : PyrS H3 r ms (opsL (xs.take k)) := by simpa [moveB, hm, hf] using h3
      have eo : opG (opsL (xs.take k)) o = opsL (xs.take k) := by simp [opG, o0, o1, hm, hf]
      replace fin := fun H4 => fin H4 _ eo
      simp [boolNe, q3, e0, slO, hm, moveB, hf]
      generalize opsL (xs.take k) = ps at *
      refine callK.of hp3.total ?_
      rintro y H4 ⟨rfl, h4, k4⟩
      have q4 := k4 0 _ (by simp) q3 (fun _ _ _ => by simp)
      simp [slP, q3, q4, e0, keepS_kept (ms := []) k4]
      refine callK.of (hC _ _ _ _ h4) ?_
      rintro y H5 ⟨rfl, h5, k5⟩
      have q5 := k5 0 _ (by simp) q4 (fun _ _ _ => by simp)
      simp [slP, q3, q4, q5, e0, keepS_kept (ms := []) k4, keepS_kept (ms := []) k5, keepS_kept (ms := []) (k4.trans k5)]
      refine callK.pure (hR ps (by omega)) (by simp [V.closedL, V.closed, slP, flatP_closed]) rfl ?_
      rw [cellN_cntR h5.fits c]
      simp [slP, w1]
      exact ⟨hlt, _, (by simp [subW, weakV, getF, slP, slO]), fin _ h5 q5⟩
    | true =>
      have hp3 : PyrS H3 r ms (putL ((opsL (xs.take k)).erase o.p) o.q) := by
        have h3' : PyrS H3 r ms (o.q :: (opsL (xs.take k)).erase o.p) := by simpa [moveB, hm, hf] using h3
        exact h3'.perm (putL_perm _ _).symm
      have eo : opG (opsL (xs.take k)) o = putL ((opsL (xs.take k)).erase o.p) o.q := by simp [opG, o0, o1, hm, hf]
      rw [eo] at hgl
      replace fin := fun H4 => fin H4 _ eo
      simp [p3, hm, hf]
      refine callK.pure hput2 (by simp [V.closedL, V.closed, hcl2]) hcl4 ?_
      generalize putL ((opsL (xs.take k)).erase o.p) o.q = ps at *
      simp [boolNe, q3, e0, slO, hm, moveB, hf]
      refine callK.of hp3.total ?_
      rintro y H4 ⟨rfl, h4, k4⟩
      have q4 := k4 0 _ (by simp) q3 (fun _ _ _ => by simp)
      simp [slP, q3, q4, e0, keepS_kept (ms := []) k4]
      refine callK.of (hC _ _ _ _ h4) ?_
      rintro y H5 ⟨rfl, h5, k5⟩
      have q5 := k5 0 _ (by simp) q4 (fun _ _ _ => by simp)
      simp [slP, q3, q4, q5, e0, keepS_kept (ms := []) k4, keepS_kept (ms := []) k5, keepS_kept (ms := []) (k4.trans k5)]
      refine callK.pure (hR ps (by omega)) (by simp [V.closedL, V.closed, slP, flatP_closed]) rfl ?_
      rw [cellN_cntR h5.fits c]
      simp [slP, w1]
      exact ⟨hlt, _, (by simp [subW, weakV, getF, slP, slO]), fin _ h5 q5⟩
  · have hk' : k = min xs.length 80 := by omega
    have hst : PyrS H2 r ms (opsL (xs.take k)) := h2
    have e1 := sortP_rises' (rises_ops (xs.take k)) h2.fits
    have hSame := refSame (opsL (xs.take k)) (opsL (xs.take k)) (by omega)
    have hpts := h2.points
    rw [e1] at hpts
    have hcl := slP_closed (opsL (xs.take k))
    have hno : ¬ ((k : Int) < xs.length ∧ (k : Int) < 80) := by omega
    by_cases h80 : (k : Int) < xs.length
    · have h81 : ¬ (k : Int) < 80 := by omega
      simp [h80, h81, slO]
      refine callK.of hpts ?_
      rintro y H3 ⟨rfl, k3⟩
      simp
      refine callK.pure hSame (by simp [V.closedL, V.closed, hcl]) rfl ?_
      simp
      refine callK.pure knownP rfl rfl ?_
      simp
    · simp [h80, slO]
      refine callK.of hpts ?_
      rintro y H3 ⟨rfl, k3⟩
      simp
      refine callK.pure hSame (by simp [V.closedL, V.closed, hcl]) rfl ?_
      simp
      refine callK.pure knownP rfl rfl ?_
      simp
end Go.Proofs.Ytoooldijnilpaaa
