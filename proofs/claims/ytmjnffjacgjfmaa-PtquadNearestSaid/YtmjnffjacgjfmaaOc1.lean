/- Records that are near: how far nodes and records are; the seeker; the nearest records, of a tree and by the document; the law PtquadNearest, over the abstract memory. -/
import Derived.Test.YtmjnffjacgjfmaaJt
import Derived.Test.YtmjnffjacgjfmaaIn1
import Derived.Test.YtmjnffjacgjfmaaBl
namespace Go.Proofs.Ytmjnffjacgjfmaa
set_option linter.all false
open Go.RowKit AM

/-- A cell as far as a level tells. -/
def raiseC (c : Ce) (l : Int) : Ce := if l < c.l then (aboveR c l).1 else c
def farC (c : Ce) (p : Pt) (l : Int) : Int := distR (boxR (raiseC c l)).1 p
def farP (t : Pr) (p : Pt) (l : Int) : Int := distR (boxR (ofR t.at_ l).1).1 p
theorem cell_in {p : Pt} {k l : Int} (hf : fits p = true) (h0 : 0 ≤ k) (hk : k ≤ l) (hl : l ≤ 16) : (boxOf (cellOf p k)).x0 ≤ (boxOf (cellOf p l)).x0 ∧ (boxOf (cellOf p k)).y0 ≤ (boxOf (cellOf p l)).y0 ∧ (boxOf (cellOf p l)).x1 ≤ (boxOf (cellOf p k)).x1 ∧ (boxOf (cellOf p l)).y1 ≤ (boxOf (cellOf p k)).y1 := by
  have ck := cell_right hf h0 (show k ≤ 16 by omega)
  have cl := cell_right hf (show 0 ≤ l by omega) hl
  have rl := rightR_iff.1 (box_right cl)
  have key : ∀ q : Pt, hasR (boxOf (cellOf p l)) q = true → hasR (boxOf (cellOf p k)) q = true := fun q hq => by
    have hu := (Un.box cl).1 hq
    refine (Un.box ck).2 ⟨hu.1, underC_iff.2 ⟨by simp [cellOf]; omega, ?_⟩⟩
    have h1 := (underC_iff.1 hu.2).2
    have e1 : (cellOf p l).l = l := rfl
    have e2 : (cellOf p k).l = k := rfl
    rw [e1, cell_above hl (Int.le_refl _)] at h1
    rw [e2, cell_above (by omega) (Int.le_refl _), ← cell_above hk hl, h1, cell_above hk hl]
  have a := hasR_iff.1 (key ⟨(boxOf (cellOf p l)).x0, (boxOf (cellOf p l)).y0⟩ (hasR_iff.2 ⟨box_right cl, by simp only; omega⟩))
  have b := hasR_iff.1 (key ⟨(boxOf (cellOf p l)).x1, (boxOf (cellOf p l)).y1⟩ (hasR_iff.2 ⟨box_right cl, by simp only; omega⟩))
  simp only at a b
  omega
theorem node_leP {c : Ce} {t : Pr} {l : Int} (p : Pt) (hl : rightL l = true) (hc : rightC c = true) (hu : Un c t.at_) : farC c p l ≤ farP t p l := by
  have hl' := rightL_iff.1 hl
  have hc' := rightC_iff.1 hc
  have hof : ofR t.at_ l = (cellOf t.at_ l, true) := by simp [ofR, hl, hu.1]
  have hcl := cell_right hu.1 hl'.1 hl'.2
  have hbl : boxR (cellOf t.at_ l) = (boxOf (cellOf t.at_ l), true) := by simp [boxR, hcl]
  have hcc : cellOf t.at_ c.l = c := by
    have := (underC_iff.1 hu.2).2
    rwa [cell_above hc'.1.2 (Int.le_refl _)] at this
  unfold farC farP raiseC
  rw [hof]
  simp only
  rw [hbl]
  by_cases hlc : l < c.l
  · have ha : aboveR c l = (aboveOf c l, true) := by
      have : (decide (0 ≤ l) && decide (l ≤ c.l)) = true := by simp; omega
      simp [aboveR, hc, this]
    have e : aboveOf c l = cellOf t.at_ l := by rw [← hcc]; exact cell_above (by omega) hc'.1.2
    rw [if_pos hlc, ha]
    simp only
    rw [e, hbl]
    exact Int.le_refl _
  · have hbc : boxR c = (boxOf c, true) := by simp [boxR, hc]
    rw [if_neg hlc, hbc]
    have := cell_in hu.1 hc'.1.1 (show c.l ≤ l by omega) hl'.2
    rw [hcc] at this
    exact dist_mono p (box_right hcl) (box_right hc) this
/-! ## What waits -/
def recE (p : Pt) (l : Int) (t : Pr) : Ent := ⟨farP t p l, 1, t.id⟩
def nodE (c : Ce) (p : Pt) (l : Int) (a : Nat) : Ent := ⟨farC c p l, 0, a⟩
inductive Itp where
  | rc (t : Pr)
  | nd (a : Nat) (d : Nat) (c : Ce) (S : List Pr)
def Itp.ent (p : Pt) (l : Int) : Itp → Ent
  | .rc t => recE p l t
  | .nd a _ c _ => nodE c p l a
def Itp.rcs (kp : Pr → Bool) : Itp → List Pr
  | .rc t => [t]
  | .nd _ _ _ S => S.filter kp
def Itp.wt : Itp → Nat
  | .rc _ => 1
  | .nd _ d _ S => S.length * (d + 2)
def Itp.ok (b : Nat) (A : List Qn) : Itp → Prop
  | .rc _ => True
  | .nd a d c S => S ≠ [] ∧ Ok d c S ∧ ∃ I, Rep b A d a c S I
def wtp (its : List Itp) : Nat := (its.map Itp.wt).sum
theorem Itp.wt_pos {b : Nat} {A : List Qn} : ∀ {it : Itp}, it.ok b A → 1 ≤ it.wt
  | .rc _, _ => Nat.le_refl _
  | .nd a d c S, ⟨h1, _⟩ => by
    have : 0 < S.length := List.length_pos_iff.2 h1
    exact Nat.mul_pos this (by omega)
theorem wtp_len {b : Nat} {A : List Qn} : ∀ {its : List Itp}, (∀ it ∈ its, it.ok b A) → its.length ≤ wtp its
  | [], _ => Nat.le_refl _
  | it :: its, h => by
    have h1 := Itp.wt_pos (h it (List.mem_cons_self ..))
    have h2 := wtp_len (its := its) fun x hx => h x (List.mem_cons_of_mem _ hx)
    simp only [wtp, List.map_cons, List.sum_cons, List.length_cons] at h2 ⊢
    omega
theorem wtp_append (a b : List Itp) : wtp (a ++ b) = wtp a + wtp b := by simp [wtp]
theorem wtp_perm {a b : List Itp} (h : a.Perm b) : wtp a = wtp b := (h.map Itp.wt).sum_nat
theorem wtp_rc (S : List Pr) : wtp (S.map Itp.rc) = S.length := by
  induction S with
  | nil => rfl
  | cons s S ih =>
    simp only [wtp, List.map_cons, List.sum_cons, List.length_cons] at ih ⊢
    rw [ih]
    simp only [Itp.wt]
    omega
theorem rcs_rc (kp : Pr → Bool) (S : List Pr) : (S.map Itp.rc).flatMap (Itp.rcs kp) = S := by
  induction S with
  | nil => rfl
  | cons s S ih =>
    rw [List.map_cons, List.flatMap_cons, ih]
    rfl
/-- All that is below what waits comes behind the first, if that is a record. -/
theorem all_behindP {b : Nat} {A : List Qn} {p : Pt} {l : Int} {kp : Pr → Bool} {t : Pr} {its : List Itp} (hl : rightL l = true) (hok : ∀ it ∈ its, it.ok b A) (hmin : ∀ it ∈ its, (it.ent p l).lt (recE p l t) = false) :
    ∀ y ∈ (its.flatMap (Itp.rcs kp)).map (recE p l), y.lt (recE p l t) = false := by
  intro y hy
  obtain ⟨u, hu, rfl⟩ := List.mem_map.1 hy
  obtain ⟨it, hit, hti⟩ := List.mem_flatMap.1 hu
  have hm := hmin it hit
  cases it with
  | rc t' =>
    simp only [Itp.rcs, List.mem_singleton] at hti
    subst hti
    exact hm
  | nd a d c S =>
    obtain ⟨h1, h2, _⟩ := hok _ hit
    simp only [Itp.rcs] at hti
    have htS := (List.mem_filter.1 hti).1
    have hle := node_leP p hl h2.r (h2.u u htS)
    rw [Ent.nlt_iff] at hm ⊢
    simp only [Itp.ent, nodE, recE] at hm ⊢
    omega
end Go.Proofs.Ytmjnffjacgjfmaa
namespace Go.Proofs.Ytmjnffjacgjfmaa
set_option linter.all false
open Go.RowKit AM
set_option maxRecDepth 10000
attribute [local simp] aw_skip' aw_region' aw_seq' aw_cond' aw_block' aw_loop' aw_exit' aw_label' aw_ret' aops_nil' aops_cons' aop' aMove aAssign aPick aAlloc aBox aBuild slF aBuildSlice aLoad aLoadOwn aLoadS sharesAt shares sharedV aStore aStoreOwn isOwn delR aNilCheck aBin aMakeFunc aFieldAddr aField aIndexOp aIndex partV aIndexAddr aExtract aSliceOp aSlice slV aShrink aCallOp aCall' aInvoke' aLen aLenMap aDelete aMM aUn aConv aIface aAssert aMakeMap aLookup aMapUpdate aRange aNext aEntry entsOf keyB seekK aMakeSlice lookV aApp aAppendB aAppendF aAppend putK layK eval evalV AM.valOf getF putF setF del SV.refers cellsAt rootSV plains shift ldV V.exact V.exactL V.ofValue V.ofPart V.ofCell V.cells V.one Value.oneCell' fitB qSeq qBlock getB afin aret resVs resV resTmps shareF evalS tupV valsS valsV pickV calm calmB lenV useOf feeds shrinks stows looks isT newsV partsV fillV putAt zerosV fitsNil nilB sliceB isEq isNeq awx_skip' awx_region' awx_seq' awx_cond' awx_block' awx_loop' awx_exit' awx_label' awx_ret' xops_nil' xops_cons' xop' xload xcall' addO delO inO putD memB Mix.effB Mix.laysB keysF badK subW weakV zeroRow yops_nil' yops_cons' yop' yload yindex yfield ylen oldO dropO takeO oldL exactB V.fixed V.fixedL
attribute [local simp] awz_skip' awz_region' awz_seq' awz_cond' awz_block' awz_loop' awz_exit' awz_label' awz_ret' zops_nil' zops_cons' zop' zload zloadOwn zcall' zlenK z0 new0 remF old0 dltB

/-- What the seeker looks at. -/
def skMP (p : Pt) (l : Int) : List (Option V) := [none, some (.sc (.int .i64 p.x)), some (.sc (.int .i64 p.y)), some (.sc (.int .i64 l))]
theorem skfarP (c : Ce) (p : Pt) (l : Int) : LookFn Try.prog 59 (skMP p l) [c.v] (.sc (.int .u64 (farC c p l))) := by
  intro us hus
  obtain ⟨u1, u2, u3, u4, rfl⟩ : ∃ u1 u2 u3 u4, us = [u1, u2, u3, u4] := by
    match us, hus with
    | [a, b, c, d], _ => exact ⟨a, b, c, d, rfl⟩
  unfold farC raiseC
  have hA := cAbove c l
  have hB := fun c => cBox c
  have hD := fun r => pdist r p
  unfold Pt.v Pt.cs at hD
  unfold Ce.v Ce.cs at hA hB ⊢
  unfold Re.v Re.cs at hB hD
  simp only [skMP, fillM]
  refine AFn.intro (fn := Try.f59) (by kernel_rfl) rfl (by kernel_rfl) (by simp) ?_
  simp only [Try.f59, argsF]
  refine AW.seq (AW.ofx [] mixed (by kernel_rfl) ?_)
  simp
  by_cases hl : l < c.l
  · rw [if_pos hl]
    generalize aboveR c l = ab at *
    obtain ⟨a, ok⟩ := ab
    simp only at hA ⊢
    have hB := hB a
    have hD := hD (boxR a).1
    generalize boxR a = bx at *
    obtain ⟨bx, bok⟩ := bx
    simp only at hB hD ⊢
    generalize distR bx p = dd at *
    refine AW.seq (AW.seq (AW.ofx [] mixed (by kernel_rfl) ?_))
    simp [hl]
    refine AW.ofx [] mixed (by kernel_rfl) ?_
    simp
    refine callK.pure hA rfl rfl ?_
    simp [setCells, setBlk]
    refine AW.seq (AW.ofx [] mixed (by kernel_rfl) ?_)
    simp
    refine callK.pure hB rfl rfl ?_
    simp [setCells, setBlk]
    refine AW.ofx [] mixed (by kernel_rfl) ?_
    simp
    refine callK.pure hD rfl rfl ?_
    simp
  · rw [if_neg hl]
    have hB := hB c
    have hD := hD (boxR c).1
    generalize boxR c = bx at *
    obtain ⟨bx, bok⟩ := bx
    simp only at hB hD ⊢
    generalize distR bx p = dd at *
    refine AW.seq (AW.seq (AW.ofx [] mixed (by kernel_rfl) ?_))
    simp [hl]
    refine AW.ofx [] mixed (by kernel_rfl) ?_
    simp
    refine AW.seq (AW.ofx [] mixed (by kernel_rfl) ?_)
    simp
    refine callK.pure hB rfl rfl ?_
    simp [setCells, setBlk]
    refine AW.ofx [] mixed (by kernel_rfl) ?_
    simp
    refine callK.pure hD rfl rfl ?_
    simp
/-- The seeker's block. -/
def skBP (r : Nat) (p : Pt) (l : Int) (kv : V) (q : Nat) : Bk := .cells [.v (.ptr r 0), .v (.sc (.int .i64 p.x)), .v (.sc (.int .i64 p.y)), .v (.sc (.int .i64 l)), .v kv, .v (.ptr q 0)]
theorem skMaskP {H : List Bk} {k r : Nat} {p : Pt} {l : Int} {kv : V} {q : Nat} (h : H[k]? = some (skBP r p l kv q)) : maskOK H k (skMP p l) := by
  refine ⟨_, h, by simp [skMP], fun j z hz => ?_⟩
  match j, hz with
  | 0, hz => cases hz
  | 1, hz => cases hz; exact ⟨rfl, rfl⟩
  | 2, hz => cases hz; exact ⟨rfl, rfl⟩
  | 3, hz => cases hz; exact ⟨rfl, rfl⟩
  | j + 4, hz => simp [skMP] at hz
theorem sknodeP {H : List Bk} {k r q b nb mb cap : Nat} {p : Pt} {l : Int} {kv : V} {hs : List Ent} {s : Ar} {es : List Pr} {a : Nat} {n : Qn} (hk : H[k]? = some (skBP r p l kv q)) (hq : QQ H q hs) (hT : TrA H r b nb mb cap s es) (hn : s.A[a]? = some n) (hh : hs.length ≤ 1000000) (hm : 0 ≤ n.many) :
    AFn Try.prog 38 [.ptr k 0, .sc (.int .i64 a)] H fun y H' => y = .tup [] ∧ KpA (fun x => x = q) H H' ∧ QQ H' q (if n.many = 0 then hs else put hs (nodE n.c p l a)) := by
  have hc0 := hT.cap0 hn
  have hr := hT.cr
  have hnb := hT.cn hc0
  have hal := (List.getElem?_eq_some_iff.1 hn).1
  unfold trC at hr
  have hk' := hk
  unfold skBP at hk'
  obtain ⟨t0, d0⟩ := drop_cell hn ((cap - s.A.length) * 10)
  refine AFn.intro (fn := Try.f38) (by kernel_rfl) rfl (by kernel_rfl) (by simp) ?_
  simp only [Try.f38, argsF]
  refine AW.mid (fun F H1 => F = [(0, .v (.ptr k 0)), (1, .v (.sc (.int .i64 a))), (4, .v (.ptr H.length 0))] ∧ Wk H1 (H ++ [ndB n])) (AW.ofx [] mixed (by kernel_rfl) ?_) ?_
  · by_cases hql : n.full = true
    · simp only [hql, lC_fs] at d0
      simp [hk', hr, hnb, hal, d0]
      rw [setCells_last rfl]
      refine ⟨_, ?_, rfl, ndB_wk⟩
      simp [subW, weakV, getF]
    · have hql : n.full = false := by simpa using hql
      simp only [hql, lC_own] at d0
      simp [hk', hr, hnb, hal, d0]
      rw [setCells_last rfl]
      refine ⟨_, ?_, rfl, Wk.refl _⟩
      simp [subW, weakV, getF]
  · rintro F H1 ⟨rfl, hwk⟩
    refine AW.wk hwk ?_
    have hnd : (H ++ [ndB n])[H.length]? = some (ndB n) := by simp
    have hk1 : KpA (fun x => x = q) H (H ++ [ndB n]) := KpA.refl.app
    have hq1 : QQ (H ++ [ndB n]) q hs := hq.keep (Kp.refl.app (I := NoB)) (fun h => h)
    have hk2 := hget (L := [ndB n]) hk
    clear hwk
    generalize H ++ [ndB n] = H1 at *
    have hk2' := hk2
    unfold skBP at hk2'
    unfold ndB lV at hnd
    refine AW.seq (AW.ofx [(2, 10, [0, 4, 1])] mixed (by kernel_rfl) ?_)
    simp [hnd]
    by_cases h0 : n.many = 0
    · rw [if_pos h0]
      simp [h0]
      refine AW.ofx [(2, 10, [0, 4, 1])] mixed (by kernel_rfl) ?_
      simp
      exact ⟨hk1, hq1⟩
    · rw [if_neg h0]
      have hM := skMaskP hk2
      have hF := skfarP n.c p l
      have hP := zpush hq1 hh (nodE n.c p l a)
      unfold Ce.v Ce.cs at hF
      rw [entV_eq] at hP
      simp only [nodE] at hP
      have hpos : 0 < n.many := by omega
      simp [hpos]
      refine AW.ofz [(2, 10, [0, 4, 1])] mixed (by kernel_rfl) ?_
      simp [hk2', hnd]
      refine zcallK.look hF rfl rfl hM ?_
      simp [hk2', hnd]
      refine callK.of hP ?_
      rintro y H3 ⟨rfl, k3, hq3⟩
      simp
      exact ⟨hk1.trans k3, hq3⟩
/-- Which records are kept. -/
def KeepP (kv : V) (ib : Nat) (fb : Option Bk) (kp : Pr → Bool) : Prop := (kv = .sc .nilFunc ∧ ∀ s, kp s = true) ∨
  ∃ g cap, kv = .fn (.func g) [] cap ∧ V.exactL cap = none ∧ V.fixedL cap = true ∧ ∀ (H : List Bk) (s : Pr), (∀ q, fb = some q → H[ib]? = some q) → AFn Try.prog g (s.v :: cap) H fun y H' => y = .sc (.bool (kp s)) ∧ ∃ L, H' = H ++ L
theorem hNilFnP {x y : Operand} : binR Try.prog .eql 36 x y .nilFunc .nilFunc = some (.bool true) := by kernel_rfl
theorem farC_of (t : Pr) (p : Pt) {l : Int} (hl : rightL l = true) : farC (ofR t.at_ l).1 p l = farP t p l := by
  have hl' := rightL_iff.1 hl
  unfold farC farP raiseC
  rw [if_neg]
  unfold ofR
  split
  · simp [cellOf]
  · simp [Ce.zero]; omega
def SkrP (H : List Bk) (k r q z : Nat) (p : Pt) (l : Int) (kv : V) (hs : List Ent) (t : Pr) (b0 : Bool) (F : Fr) (H1 : List Bk) : Prop :=
  H1[k]? = some (skBP r p l kv q) ∧ QQ H1 q hs ∧ KpA (fun x => x = q) H H1 ∧ H1[z]? = some (prB t) ∧ F = [(0, .v (.ptr k 0)), (3, .v (.ptr z 0)), (18, .v (.sc (.bool b0)))]
set_option maxHeartbeats 8000000 in
theorem skrecP {H : List Bk} {k r q ib : Nat} {p : Pt} {l : Int} {kv : V} {hs : List Ent} {kp : Pr → Bool} {fb : Option Bk} (hk : H[k]? = some (skBP r p l kv q)) (hq : QQ H q hs) (hkp : KeepP kv ib fb kp) (hfb : ∀ x, fb = some x → H[ib]? = some x) (hl : rightL l = true) (hh : hs.length ≤ 1000000) (t : Pr) :
    AFn Try.prog 61 [.ptr k 0, t.v] H fun y H' => y = .tup [] ∧ KpA (fun x => x = q) H H' ∧ QQ H' q (if kp t = true then put hs (recE p l t) else hs) := by
  have hkv : kv.fixed = true := by
    rcases hkp with ⟨rfl, _⟩ | ⟨g, cap, rfl, _, hkx, _⟩
    · rfl
    · simp [V.fixed, V.fixedL, hkx]
  have hk1 := hget (L := [prB t]) hk
  have hq1 : QQ (H ++ [prB t]) q hs := hq.keep (Kp.refl.app (I := NoB)) (fun h => h)
  have kp1 : KpA (fun x => x = q) H (H ++ [prB t]) := KpA.refl.app
  have hz1 : (H ++ [prB t])[H.length]? = some (prB t) := by simp
  have hfb1 := fun x hx => hget (L := [prB t]) (hfb x hx)
  unfold Pr.v Pr.cs
  refine AFn.intro (fn := Try.f61) (by kernel_rfl) rfl (by kernel_rfl) (by simp) ?_
  simp only [Try.f61, argsF]
  refine AW.seq (AW.ofx [(3, 10, [0, 4, 3])] mixed (by kernel_rfl) ?_)
  simp
  have hpx : Bk.cells [.v (.sc (.int .i64 t.id)), .v (.sc (.int .i64 t.at_.x)), .v (.sc (.int .i64 t.at_.y)), .v (.sc (.int .i64 t.lab))] = prB t := rfl
  rw [hpx]
  generalize H ++ [prB t] = H1 at *
  generalize H.length = z at *
  have hk1' := hk1
  have hz1' := hz1
  unfold skBP at hk1'
  unfold prB at hz1'
  refine AW.mid (SkrP H k r q z p l kv hs t (kp t)) (AW.ofx [] mixed (by kernel_rfl) ?_) ?_
  · rcases hkp with ⟨rfl, hkt⟩ | ⟨g, cap, rfl, hkx, _, hkf⟩
    · simp [hk1', hNilFnP]
      refine ⟨_, ?_, hk1, hq1, kp1, hz1, rfl⟩
      simp [subW, weakV, getF, hkt]
    · have hA := hkf H1 t hfb1
      rw [Pr.v_eq] at hA
      simp [hk1', hz1', hkx]
      refine callK.of hA ?_
      rintro y H4 ⟨rfl, L4, rfl⟩
      simp
      refine ⟨_, ?_, hget hk1, hq1.keep (Kp.refl.app (I := NoB)) (fun h => h), kp1.app, hget hz1, rfl⟩
      simp [subW, weakV, getF]
  · clear hk1 hq1 kp1 hz1 hk1' hz1' hfb1
    rintro F H5 ⟨hk5, hq5, kp5, hz5, rfl⟩
    have hk5' := hk5
    have hz5' := hz5
    unfold skBP at hk5'
    unfold prB at hz5'
    cases hb : kp t with
    | false =>
      refine AW.cond false (by simp) (fun e => by cases e) (fun _ => ?_)
      refine AW.ofx [] mixed (by kernel_rfl) ?_
      simp
      exact ⟨kp5, hq5⟩
    | true =>
      have hO := cOf t.at_ l
      have hfc := farC_of t p hl
      generalize ofR t.at_ l = oc at *
      obtain ⟨oc, ok⟩ := oc
      simp only at hO hfc
      unfold Pt.v Pt.cs Ce.v Ce.cs at hO
      have k1 := fun x : Bk => keepS_app (H := H5) (L := [x])
      refine AW.cond true (by simp) (fun _ => ?_) (fun e => by cases e)
      refine AW.midE [(0, .v (.ptr k 0)), (3, .v (.ptr z 0)), (4, .v (.ptr H5.length 0))] (H5 ++ [ceB oc]) (AW.off [(3, 10, [0, 4, 3])] [(2, 10, 12, [3, 0])] mixed (by kernel_rfl) ?_) ?_
      · have hs4 : ∀ z0 z1 z2 a b d, setCells (H5 ++ [Bk.cells [z0, z1, z2]]) H5.length 0 [a, b, d] = H5 ++ [.cells [.v a, .v b, .v d]] := fun z0 z1 z2 a b d => by simp [setCells, setBlk]
        simp [awf_skip', awf_region', awf_seq', awf_cond', awf_block', awf_loop', awf_exit', awf_label', awf_ret', flK, floatY', yopsB_nil', yopsB_cons', ystep', hk5', hz5', hkv]
        refine ⟨callK.pure hO rfl rfl ?_, callK.pure hO rfl rfl ?_⟩
        · simp [awf_skip', awf_region', awf_seq', awf_cond', awf_block', awf_loop', awf_exit', awf_label', awf_ret', flK, floatY', yopsB_nil', yopsB_cons', ystep', hk5', hz5', hkv, hs4, ceB]
        · simp [awf_skip', awf_region', awf_seq', awf_cond', awf_block', awf_loop', awf_exit', awf_label', awf_ret', flK, floatY', yopsB_nil', yopsB_cons', ystep', hk5', hz5', hkv, hs4, ceB]
      · skip
        have hk6 := hget (L := [ceB oc]) hk5
        have hz6 := hget (L := [ceB oc]) hz5
        have hc6 : (H5 ++ [ceB oc])[H5.length]? = some (ceB oc) := by simp
        have kp6 := kp5.app (L := [ceB oc])
        have hq6 : QQ (H5 ++ [ceB oc]) q hs := hq5.keep (Kp.refl.app (I := NoB)) (fun h => h)
        generalize H5 ++ [ceB oc] = H6 at *
        have hM := skMaskP hk6
        have hF := skfarP oc p l
        rw [hfc] at hF
        have hP := zpush hq6 hh (recE p l t)
        unfold skBP at hk6
        unfold prB at hz6
        unfold ceB at hc6
        unfold Ce.v Ce.cs at hF
        rw [entV_eq] at hP
        simp only [recE] at hP
        refine AW.ofz [(3, 10, [0, 4, 3])] mixed (by kernel_rfl) ?_
        simp [hk6, hz6, hc6]
        refine zcallK.look hF rfl rfl hM ?_
        simp [hk6, hz6, hc6]
        refine callK.of hP ?_
        rintro y H7 ⟨rfl, k7, hq7⟩
        simp
        exact ⟨kp6.trans k7, hq7⟩
end Go.Proofs.Ytmjnffjacgjfmaa
namespace Go.Proofs.Ytmjnffjacgjfmaa
set_option linter.all false
open Go.RowKit AM
set_option maxRecDepth 10000
attribute [local simp] aw_skip' aw_region' aw_seq' aw_cond' aw_block' aw_loop' aw_exit' aw_label' aw_ret' aops_nil' aops_cons' aop' aMove aAssign aPick aAlloc aBox aBuild slF aBuildSlice aLoad aLoadOwn aLoadS sharesAt shares sharedV aStore aStoreOwn isOwn delR aNilCheck aBin aMakeFunc aFieldAddr aField aIndexOp aIndex partV aIndexAddr aExtract aSliceOp aSlice slV aShrink aCallOp aCall' aInvoke' aLen aLenMap aDelete aMM aUn aConv aIface aAssert aMakeMap aLookup aMapUpdate aRange aNext aEntry entsOf keyB seekK aMakeSlice lookV aApp aAppendB aAppendF aAppend putK layK eval evalV AM.valOf getF putF setF del SV.refers cellsAt rootSV plains shift ldV V.exact V.exactL V.ofValue V.ofPart V.ofCell V.cells V.one Value.oneCell' fitB qSeq qBlock getB afin aret resVs resV resTmps shareF evalS tupV valsS valsV pickV calm calmB lenV useOf feeds shrinks stows looks isT newsV partsV fillV putAt zerosV fitsNil nilB sliceB isEq isNeq awx_skip' awx_region' awx_seq' awx_cond' awx_block' awx_loop' awx_exit' awx_label' awx_ret' xops_nil' xops_cons' xop' xload xcall' addO delO inO putD memB Mix.effB Mix.laysB keysF badK subW weakV zeroRow yops_nil' yops_cons' yop' yload yindex yfield ylen oldO dropO takeO oldL exactB V.fixed V.fixedL
attribute [local simp] awz_skip' awz_region' awz_seq' awz_cond' awz_block' awz_loop' awz_exit' awz_label' awz_ret' zops_nil' zops_cons' zop' zload zloadOwn zcall' zlenK z0 new0 remF old0 dltB
def SoP (H0 : List Bk) (k q z : Nat) (p : Pt) (l : Int) (kp : Pr → Bool) (hs : List Ent) (n : Qn) (j : Nat) (F : Fr) (H1 : List Bk) : Prop :=
  ∃ hs1, QQ H1 q hs1 ∧ KpA (fun x => x = q) H0 H1 ∧ H1[z]? = some (ndB n) ∧ hs1.Perm (((n.l.take j).filter kp).map (recE p l) ++ hs) ∧ F = [(0, .v (.ptr k 0)), (4, .v (.ptr z 0)), (20, .v (lV n.l)), (21, .v (.sc (.int .i64 n.l.length))), (22, .v (.sc (.int .i64 j)))]
def KoP (H0 : List Bk) (k q b : Nat) (A : List Qn) (p : Pt) (l : Int) (kp : Pr → Bool) (hs : List Ent) (n : Qn) (d : Nat) (c : Ce) (S : List Pr) (j : Nat) (F : Fr) (H1 : List Bk) : Prop :=
  ∃ new hs1, QQ H1 q hs1 ∧ KpA (fun x => x = q) H0 H1 ∧ hs1.Perm (new.map (Itp.ent p l) ++ hs) ∧ (∀ it ∈ new, it.ok b A) ∧ (new.flatMap (Itp.rcs kp)).Perm ((kidsU c S j).filter kp) ∧ wtp new ≤ (kidsU c S j).length * (d + 2) ∧
    F = [(0, .v (.ptr k 0)), (33, .v (.agg [.sc (.int .i64 n.k0), .sc (.int .i64 n.k1), .sc (.int .i64 n.k2), .sc (.int .i64 n.k3)])), (34, .v (.sc (.int .i64 j)))]
theorem kidsU_le {c : Ce} {S : List Pr} {j : Nat} (hj : j ≤ 4) : (kidsU c S j).length ≤ S.length := by
  have h4 := (kidsU_perm (c := c) (S := S)).length_eq
  have : ∀ {i k : Nat}, i ≤ k → (kidsU c S i).length ≤ (kidsU c S k).length := by
    intro i k hik
    induction hik with
    | refl => exact Nat.le_refl _
    | step _ ih =>
      simp only [kidsU, List.length_append]
      omega
  have := this hj
  omega
set_option maxHeartbeats 4000000 in
theorem skopenP {H : List Bk} {k r q b nb mb cap ib a d : Nat} {p : Pt} {l : Int} {kv : V} {hs : List Ent} {s : Ar} {es : List Pr} {c : Ce} {S : List Pr} {I : List Nat} {kp : Pr → Bool} {fb : Option Bk}
    (hk : H[k]? = some (skBP r p l kv q)) (hq : QQ H q hs) (hT : TrA H r b nb mb cap s es) (hqr : q ≠ r) (hqn : q ≠ nb) (hqm : q ≠ mb) (hqk : q ≠ k) (hR : Rep b s.A d a c S I) (hO : Ok d c S) (hl : rightL l = true) (hkp : KeepP kv ib fb kp) (hfb : ∀ x, fb = some x → H[ib]? = some x ∧ ib ≠ q) (hd16 : d ≤ 16) (hh : hs.length + S.length * 18 ≤ 1000000) :
    AFn Try.prog 40 [.ptr k 0, .sc (.int .i64 a)] H fun y H' => KpA (fun x => x = q) H H' ∧ ∃ new hs', QQ H' q hs' ∧ hs'.Perm (new.map (Itp.ent p l) ++ hs) ∧ (∀ it ∈ new, it.ok b s.A) ∧ (new.flatMap (Itp.rcs kp)).Perm (S.filter kp) ∧ wtp new ≤ S.length * (d + 1) := by
  obtain ⟨n, hn, hnc, hnm, hcase⟩ : ∃ n, s.A[a]? = some n ∧ n.c = c ∧ n.many = S.length ∧ ((n.split = false ∧ n.l.Perm S) ∨ (n.split = true ∧ n.l = [] ∧ ∃ d', d = d' + 1 ∧ ∃ (J : Nat → List Nat) (kk : Nat → Nat), (∀ i, i < 4 → n.kid i = (kk i : Int)) ∧ ∀ i, i < 4 → Rep b s.A d' (kk i) (childOf c i) (kidsS c S i) (J i))) := by
    cases d with
    | zero =>
      obtain ⟨n, h1, h2, h3, h4, h5, _⟩ := hR
      exact ⟨n, h1, h2, h5, .inl ⟨h3, h4⟩⟩
    | succ d =>
      rcases hR with ⟨_, n, h1, h2, h3, h4, h5, _⟩ | ⟨_, n, J, kk, h1, h2, h3, h4, h5, h6, h7, _⟩
      · exact ⟨n, h1, h2, h5, .inl ⟨h3, h4⟩⟩
      · exact ⟨n, h1, h2, h5, .inr ⟨h3, h4, d, rfl, J, kk, h6, h7⟩⟩
  have hc0 := hT.cap0 hn
  have hr := hT.cr
  have hnb := hT.cn hc0
  have hal := (List.getElem?_eq_some_iff.1 hn).1
  have hnl : n.l.length ≤ S.length := by
    rcases hcase with ⟨_, h⟩ | ⟨_, h, _⟩
    · rw [h.length_eq]; exact Nat.le_refl _
    · rw [h]; simp
  unfold trC at hr
  have hk' := hk
  unfold skBP at hk'
  have hql : q < H.length := by
    obtain ⟨es0, hq0, _⟩ := hq
    exact (List.getElem?_eq_some_iff.1 hq0).1
  obtain ⟨t0, d0⟩ := drop_cell hn ((cap - s.A.length) * 10)
  refine AFn.intro (fn := Try.f40) (by kernel_rfl) rfl (by kernel_rfl) (by simp) ?_
  simp only [Try.f40, argsF]
  refine AW.mid (fun F H1 => F = [(0, .v (.ptr k 0)), (4, .v (.ptr H.length 0))] ∧ Wk H1 (H ++ [ndB n])) (AW.ofx [] mixed (by kernel_rfl) ?_) ?_
  · by_cases hql : n.full = true
    · simp only [hql, lC_fs] at d0
      simp [hk', hr, hnb, hal, d0]
      rw [setCells_last rfl]
      refine ⟨_, ?_, rfl, ndB_wk⟩
      simp [subW, weakV, getF]
    · have hql : n.full = false := by simpa using hql
      simp only [hql, lC_own] at d0
      simp [hk', hr, hnb, hal, d0]
      rw [setCells_last rfl]
      refine ⟨_, ?_, rfl, Wk.refl _⟩
      simp [subW, weakV, getF]
  · rintro F H1 ⟨rfl, hwk⟩
    refine AW.wk hwk ?_
    have hnd : (H ++ [ndB n])[H.length]? = some (ndB n) := by simp
    have hk1 : KpA (fun x => x = q) H (H ++ [ndB n]) := KpA.refl.app
    have hq1 : QQ (H ++ [ndB n]) q hs := hq.keep (Kp.refl.app (I := NoB)) (fun h => h)
    have hzq : ¬ H.length = q := by omega
    clear hwk
    generalize H ++ [ndB n] = H1 at *
    generalize H.length = z at *
    have hnd' := hnd
    unfold ndB lV at hnd'
    refine AW.seq (AW.ofx [] mixed (by kernel_rfl) ?_)
    simp [hnd']
    refine AW.count n.l.length (SoP H k q z p l kp hs n) ⟨_, ?_, hs, hq1, hk1, hnd, by simp, rfl⟩ ?_
    · simp [subW, weakV, getF, lV]
    clear hnd hnd' hk1 hq1
    rintro j F H2 hj ⟨hs1, hq2, hk2, hnd2, hp2, rfl⟩
    unfold lV
    refine AW.seq (AW.ofx [] mixed (by kernel_rfl) ?_)
    by_cases hlt : j < n.l.length
    · have w1 : IntKind.i64.wrap ((j : Int) + 1) = (j : Int) + 1 := by rw [wrap_i64] <;> omega
      have hr1 := rowPr hlt
      have hrec := fun {Hx} (h1 : Hx[k]? = some (skBP r p l kv q)) (h2 : QQ Hx q hs1) (h3 : ∀ x, fb = some x → Hx[ib]? = some x) => skrecP h1 h2 hkp h3 hl (by
        have e := hp2.length_eq
        rw [List.length_append, List.length_map] at e
        have e2 : ((n.l.take j).filter kp).length ≤ (n.l.take j).length := List.length_filter_le _ _
        have e3 := List.length_take_le' j n.l
        omega) n.l[j]
      have hk2k := hk2 _ _ (fun e => hqk e.symm) hk
      have hfb2 : ∀ x, fb = some x → H2[ib]? = some x := fun x hx => hk2 _ _ (hfb x hx).2 (hfb x hx).1
      simp [hlt]
      refine AW.seq (AW.ofx [] mixed (by kernel_rfl) ?_)
      simp
      refine AW.seq (AW.block (AW.seq (AW.ofx [] mixed (by kernel_rfl) ?_)))
      simp [hlt, hr1]
      rw [setCells_last rfl]
      have hpx : ∀ x : Pr, Bk.cells ([.sc (.int .i64 x.id), .sc (.int .i64 x.at_.x), .sc (.int .i64 x.at_.y), .sc (.int .i64 x.lab)].map SV.v) = prB x := fun _ => rfl
      rw [hpx]
      have hrec := hrec (hget (L := [prB n.l[j]]) hk2k) (hq2.keep (Kp.refl.app (I := NoB)) (fun h => h)) (fun x hx => hget (L := [prB n.l[j]]) (hfb2 x hx))
      have hx3 : (H2 ++ [prB n.l[j]])[H2.length]? = some (prB n.l[j]) := by simp
      have hk3 : KpA (fun x => x = q) H (H2 ++ [prB n.l[j]]) := hk2.app
      have hnd3 := hget (L := [prB n.l[j]]) hnd2
      rw [Pr.v_eq] at hrec
      generalize H2 ++ [prB n.l[j]] = H3 at *
      unfold prB at hx3
      refine AW.ofx [] mixed (by kernel_rfl) ?_
      simp [hx3]
      refine callK.of hrec ?_
      rintro y H4 ⟨rfl, hk4, hq4⟩
      have hnd4 := hk4 _ _ hzq hnd3
      simp
      refine AW.ofx [] mixed (by kernel_rfl) ?_
      simp [w1]
      refine ⟨_, ?_, _, hq4, hk3.trans hk4, hnd4, ?_, rfl⟩
      · simp [subW, weakV, getF, lV]
      · rw [take_snocP hlt, List.filter_append, List.map_append]
        cases hb : kp n.l[j] with
        | false => simpa [hb] using hp2
        | true =>
          simp only [if_true]
          refine (put_perm _ _).trans ((hp2.cons _).trans ?_)
          simp only [hb, List.filter_cons, List.filter_nil, if_true, List.map_cons, List.map_nil, List.append_assoc]
          exact List.perm_middle.symm
    · have hje : j = n.l.length := by omega
      subst hje
      rw [List.take_length] at hp2
      have hpl : hs1.length ≤ hs.length + S.length := by
        have e := hp2.length_eq
        rw [List.length_append, List.length_map] at e
        have e2 : (n.l.filter kp).length ≤ n.l.length := List.length_filter_le _ _
        omega
      simp
      refine AW.ofx [] mixed (by kernel_rfl) ?_
      simp
      have hnd2' := hnd2
      unfold ndB lV at hnd2'
      refine AW.seq (AW.ofx [] mixed (by kernel_rfl) ?_)
      simp [hnd2']
      rcases hcase with ⟨hs0, hlp⟩ | ⟨hs0, hl0, d', rfl, J, kk, hkid, hkR⟩
      · refine AW.cond false (by simp [hs0]) (fun e => by cases e) (fun _ => ?_)
        refine AW.ofx [] mixed (by kernel_rfl) ?_
        simp
        refine ⟨hk2, (n.l.filter kp).map Itp.rc, hs1, hq2, ?_, ?_, ?_, ?_⟩
        · rw [List.map_map]
          exact hp2
        · intro it hit
          obtain ⟨t, _, rfl⟩ := List.mem_map.1 hit
          trivial
        · rw [rcs_rc]
          exact hlp.filter kp
        · rw [wtp_rc]
          have e2 : (n.l.filter kp).length ≤ n.l.length := List.length_filter_le _ _
          have : S.length * 1 ≤ S.length * (d + 1) := Nat.mul_le_mul_left _ (by omega)
          omega
      · refine AW.cond true (by simp [hs0]) (fun _ => ?_) (fun e => by cases e)
        refine AW.seq (AW.ofx [] mixed (by kernel_rfl) ?_)
        simp [hnd2']
        rw [hl0] at hp2
        simp only [List.filter_nil, List.map_nil, List.nil_append] at hp2
        refine AW.block (AW.count 4 (KoP H k q b s.A p l kp hs n d' c S) ⟨_, ?_, [], hs1, hq2, hk2, by simpa using hp2, by simp, by simp [kidsU], by simp [wtp], rfl⟩ ?_)
        · simp [subW, weakV, getF]
        clear hq2 hk2 hp2 hnd2 hnd2' hpl
        rintro j F H3 hj ⟨new, hs2, hq3, hk3, hp3, hok3, hrc3, hwt3, rfl⟩
        refine AW.seq (AW.ofx [] mixed (by kernel_rfl) ?_)
        by_cases hlt : j < 4
        · have hlt' : (j : Int) < 4 := by omega
          have w1 : IntKind.i64.wrap ((j : Int) + 1) = (j : Int) + 1 := by rw [wrap_i64] <;> omega
          have hget' : [V.sc (.int .i64 n.k0), V.sc (.int .i64 n.k1), V.sc (.int .i64 n.k2), V.sc (.int .i64 n.k3)][j]? = some (.sc (.int .i64 (kk j))) := by
            rw [← hkid j hlt]
            rcases (show j = 0 ∨ j = 1 ∨ j = 2 ∨ j = 3 by omega) with rfl | rfl | rfl | rfl <;> rfl
          obtain ⟨nj, J0, hnj1, hnj2, hnj3, _⟩ := (hkR j hlt).head
          have hTj := hT.keep hk3 (by omega) (fun _ => by omega) (by omega)
          have hk3k := hk3 _ _ (fun e => hqk e.symm) hk
          have hul := kidsU_le (c := c) (S := S) (j := j) (by omega)
          have hnl := wtp_len hok3
          have hhl := hp3.length_eq
          rw [List.length_append, List.length_map] at hhl
          have hmul : (kidsU c S j).length * (d' + 2) ≤ S.length * 18 := Nat.mul_le_mul hul (by omega)
          have hNo := sknodeP hk3k hq3 hTj hnj1 (by omega) (by rw [hnj3]; omega)
          rw [hnj2, hnj3] at hNo
          simp [hlt']
          refine AW.seq (AW.ofx [] mixed (by kernel_rfl) ?_)
          simp
          refine AW.seq (AW.block (AW.seq (AW.ofx [] mixed (by kernel_rfl) ?_)))
          simp [hlt', hget']
          refine AW.ofx [] mixed (by kernel_rfl) ?_
          simp
          refine callK.of hNo ?_
          rintro y H4 ⟨rfl, hk4, hq4⟩
          simp
          refine AW.ofx [] mixed (by kernel_rfl) ?_
          simp [w1]
          by_cases hz : kidsS c S j = []
          · rw [if_pos (by simp [hz])] at hq4
            refine ⟨hlt, _, ?_, new, hs2, hq4, hk3.trans hk4, hp3, hok3, ?_, ?_, rfl⟩
            · simp [subW, weakV, getF]
            · simpa [kidsU, hz] using hrc3
            · simpa [kidsU, hz] using hwt3
          · have hz' : ¬ ((kidsS c S j).length : Int) = 0 := fun e => hz (List.length_eq_zero_iff.1 (by omega))
            rw [if_neg hz'] at hq4
            refine ⟨hlt, _, ?_, .nd (kk j) d' (childOf c j) (kidsS c S j) :: new, _, hq4, hk3.trans hk4, ?_, ?_, ?_, ?_, rfl⟩
            · simp [subW, weakV, getF]
            · exact (put_perm _ _).trans (hp3.cons _)
            · intro it hit
              rcases List.mem_cons.1 hit with rfl | hit
              · exact ⟨hz, hO.kid hlt, J j, hkR j hlt⟩
              · exact hok3 it hit
            · rw [kidsU, List.filter_append, List.flatMap_cons]
              exact (List.Perm.append_left _ hrc3).trans List.perm_append_comm
            · rw [kidsU, List.length_append, Nat.add_mul]
              simp only [wtp, List.map_cons, List.sum_cons, Itp.wt] at hwt3 ⊢
              omega
        · have hj4 : j = 4 := by omega
          subst hj4
          simp
          refine AW.ofx [] mixed (by kernel_rfl) ?_
          simp
          have hpm := kidsU_perm (c := c) (S := S)
          refine ⟨hk3, new, hs2, hq3, hp3, hok3, hrc3.trans (hpm.filter kp), ?_⟩
          rw [hpm.length_eq] at hwt3
          exact hwt3
end Go.Proofs.Ytmjnffjacgjfmaa
namespace Go.Proofs.Ytmjnffjacgjfmaa
set_option linter.all false
open Go.RowKit AM
set_option maxRecDepth 10000
attribute [local simp] aw_skip' aw_region' aw_seq' aw_cond' aw_block' aw_loop' aw_exit' aw_label' aw_ret' aops_nil' aops_cons' aop' aMove aAssign aPick aAlloc aBox aBuild slF aBuildSlice aLoad aLoadOwn aLoadS sharesAt shares sharedV aStore aStoreOwn isOwn delR aNilCheck aBin aMakeFunc aFieldAddr aField aIndexOp aIndex partV aIndexAddr aExtract aSliceOp aSlice slV aShrink aCallOp aCall' aInvoke' aLen aLenMap aDelete aMM aUn aConv aIface aAssert aMakeMap aLookup aMapUpdate aRange aNext aEntry entsOf keyB seekK aMakeSlice lookV aApp aAppendB aAppendF aAppend putK layK eval evalV AM.valOf getF putF setF del SV.refers cellsAt rootSV plains shift ldV V.exact V.exactL V.ofValue V.ofPart V.ofCell V.cells V.one Value.oneCell' fitB qSeq qBlock getB afin aret resVs resV resTmps shareF evalS tupV valsS valsV pickV calm calmB lenV useOf feeds shrinks stows looks isT newsV partsV fillV putAt zerosV fitsNil nilB sliceB isEq isNeq awx_skip' awx_region' awx_seq' awx_cond' awx_block' awx_loop' awx_exit' awx_label' awx_ret' xops_nil' xops_cons' xop' xload xcall' addO delO inO putD memB Mix.effB Mix.laysB keysF badK subW weakV zeroRow yops_nil' yops_cons' yop' yload yindex yfield ylen oldO dropO takeO oldL exactB V.fixed V.fixedL
attribute [local simp] awz_skip' awz_region' awz_seq' awz_cond' awz_block' awz_loop' awz_exit' awz_label' awz_ret' zops_nil' zops_cons' zop' zload zloadOwn zcall' zlenK z0 new0 remF old0 dltB
/-- The first n of records that are kept, by how far they are. -/
def NearP (S : List Pr) (kp : Pr → Bool) (p : Pt) (l n : Int) (R : List Pr) : Prop := R.map (recE p l) = (sort ((S.filter kp).map (recE p l))).take n.toNat ∧ ∀ s ∈ R, s ∈ S.filter kp
theorem near0P {H : List Bk} {r b : Nat} {S : List Pr} {T : Nat → Prop} (ht : TrP H r b S T) (p : Pt) (n l : Int) (kv : V) (hbad : (fits p && rightL l) = false) :
    AFn Try.prog 12 [.ptr r 0, p.v, .sc (.int .i64 n), .sc (.int .i64 l), kv] H fun y H' => y = .nil ∧ Kp NoB H H' := by
  obtain ⟨nb, mb, cap, s, es, I, h, hT⟩ := ht
  have hM := fun L => wmade (h.tr.app (L := L))
  have h0s := h.pos
  have hF := gFits p
  unfold Pt.v Pt.cs at hF ⊢
  refine AFn.intro (fn := Try.f12) (by kernel_rfl) rfl (by kernel_rfl) (by simp) ?_
  simp only [Try.f12, argsF]
  refine AW.seq (AW.ofx [] mixed (by kernel_rfl) ?_)
  simp
  refine AW.scope ?_
  refine AW.seq ?_
  refine AW.seq (AW.ofx [] mixed (by kernel_rfl) ?_)
  simp [qScope_n, qScope_r, qScope_e]
  refine callK.of (hM _) ?_
  rintro y H1 ⟨rfl, rfl⟩
  simp [h0s, qScope_n, qScope_r, qScope_e]
  refine callK.pure hF rfl rfl ?_
  cases hf : fits p with
  | false =>
    simp [qScope_n, qScope_r, qScope_e]
    refine AW.cond true (by simp) (fun _ => ?_) (fun e => by cases e)
    refine AW.ofx [] mixed (by kernel_rfl) ?_
    simp [qScope_n, qScope_r, qScope_e]
    exact Kp.refl.app
  | true =>
    rw [hf, Bool.true_and] at hbad
    by_cases h0 : l < 0
    · simp [h0, qScope_n, qScope_r, qScope_e]
      refine AW.cond true (by simp) (fun _ => ?_) (fun e => by cases e)
      refine AW.ofx [] mixed (by kernel_rfl) ?_
      simp [qScope_n, qScope_r, qScope_e]
      exact Kp.refl.app
    · have h16 : 16 < l := by
        simp only [rightL, decide_eq_false_iff_not] at hbad
        omega
      simp [h0, h16, qScope_n, qScope_r, qScope_e]
      refine AW.cond true (by simp) (fun _ => ?_) (fun e => by cases e)
      refine AW.ofx [] mixed (by kernel_rfl) ?_
      simp [qScope_n, qScope_r, qScope_e]
      exact Kp.refl.app
def NrMP (H0 : List Bk) (k r q : Nat) (p : Pt) (l : Int) (kv : V) (n : Int) (F : Fr) (H1 : List Bk) : Prop :=
  H1[k]? = some (skBP r p l kv q) ∧ H1[q]? = some (qB []) ∧ KpA (fun _ => False) H0 H1 ∧ F = [(0, .v (.ptr r 0)), (2, .v (.sc (.int .i64 n))), (11, .v (.ptr k 0))]
def NrIP (H0 : List Bk) (k r q b : Nat) (A : List Qn) (p : Pt) (l : Int) (kv : V) (n : Int) (S : List Pr) (kp : Pr → Bool) (z : Nat) (F : Fr) (H1 : List Bk) : Prop :=
  ∃ (out : List Pr) (its : List Itp) (hs : List Ent), z = wtp its ∧ H1[k]? = some (skBP r p l kv q) ∧ QQ H1 q hs ∧ KpA (fun _ => False) H0 H1 ∧ hs.Perm (its.map (Itp.ent p l)) ∧ (∀ it ∈ its, it.ok b A) ∧
    (out ++ its.flatMap (Itp.rcs kp)).Perm (S.filter kp) ∧ out.map (recE p l) ++ sort ((its.flatMap (Itp.rcs kp)).map (recE p l)) = sort ((S.filter kp).map (recE p l)) ∧ wtp its ≤ S.length * 18 + 1 ∧ (out.length : Int) ≤ max n 0 ∧
    F = [(0, .v (.ptr r 0)), (2, .v (.sc (.int .i64 n))), (11, .v (.ptr k 0)), (12, ownP out)]
set_option maxHeartbeats 4000000 in
theorem near1P {H : List Bk} {r b : Nat} {S : List Pr} {T : Nat → Prop} (ht : TrP H r b S T) (hS : S.length ≤ 1000) (p : Pt) (n l : Int) (kv : V) (kp : Pr → Bool) {ib : Nat} {fb : Option Bk} (hkp : KeepP kv ib fb kp) (hfb : ∀ x, fb = some x → H[ib]? = some x) (hf : fits p = true) (hl : rightL l = true) :
    AFn Try.prog 12 [.ptr r 0, p.v, .sc (.int .i64 n), .sc (.int .i64 l), kv] H fun y H' => ∃ R, y = lV R ∧ NearP S kp p l n R ∧ Kp NoB H H' := by
  obtain ⟨nb, mb, cap, s, es, I, h, hT⟩ := ht
  have hM := fun L => wmade (h.tr.app (L := L))
  have h0s := h.pos
  have hF := gFits p
  rw [hf] at hF
  have hl' := rightL_iff.1 hl
  have h0 : ¬ l < 0 := by omega
  have h16 : ¬ 16 < l := by omega
  have hkv : kv.fixed = true := by
    rcases hkp with ⟨rfl, _⟩ | ⟨g, cap, rfl, _, hkx, _⟩
    · rfl
    · simp [V.fixed, V.fixedL, hkx]
  unfold Pt.v Pt.cs at hF ⊢
  refine AFn.intro (fn := Try.f12) (by kernel_rfl) rfl (by kernel_rfl) (by simp) ?_
  simp only [Try.f12, argsF]
  refine AW.seq (AW.ofx [] mixed (by kernel_rfl) ?_)
  simp
  refine AW.scope ?_
  refine AW.seq ?_
  refine AW.seq (AW.ofx [] mixed (by kernel_rfl) ?_)
  simp [qScope_n, qScope_r, qScope_e]
  refine callK.of (hM _) ?_
  rintro y H1 ⟨rfl, rfl⟩
  simp [h0s, qScope_n, qScope_r, qScope_e]
  refine callK.pure hF rfl rfl ?_
  simp [h0, h16, qScope_n, qScope_r, qScope_e]
  refine AW.cond false (by simp) (fun e => by cases e) (fun _ => ?_)
  refine AW.ofx [] mixed (by kernel_rfl) ?_
  simp [qScope_n, qScope_r, qScope_e]
  have hT1 := h.tr.app (L := [.cells [.v (.sc (.int .i64 p.x)), .v (.sc (.int .i64 p.y))]])
  have kp1 : KpA (fun _ => False) H (H ++ [.cells [.v (.sc (.int .i64 p.x)), .v (.sc (.int .i64 p.y))]]) := KpA.refl.app
  have hp1 : (H ++ [Bk.cells [.v (.sc (.int .i64 p.x)), .v (.sc (.int .i64 p.y))]])[H.length]? = some (.cells [.v (.sc (.int .i64 p.x)), .v (.sc (.int .i64 p.y))]) := by simp
  have hll : (H ++ [Bk.cells [.v (.sc (.int .i64 p.x)), .v (.sc (.int .i64 p.y))]]).length = H.length + 1 := by simp
  generalize H ++ [Bk.cells [.v (.sc (.int .i64 p.x)), .v (.sc (.int .i64 p.y))]] = H1 at *
  refine AW.mid (NrMP H (H1.length + 1) r H1.length p l kv n) (AW.ofx [(3, 5, [0, 6, 3, 4])] mixed (by kernel_rfl) ?_) ?_
  · have hkS := fun (x : Bk) => keepS_app (H := H1) (L := [x])
    have hkS2 := fun (x y : Bk) => keepS_app (H := H1) (L := [x, y])
    simp [hp1]
    refine callK.of (znew H1) ?_
    rintro y H2 ⟨rfl, rfl⟩
    rcases hkp with ⟨rfl, _⟩ | ⟨g, cap, rfl, _⟩
    · simp [hkS, hkS2]
      refine ⟨_, ?_, by simp [skBP], by simp, kp1.app, rfl⟩
      simp [subW, weakV, getF]
    · simp [hkS, hkS2]
      refine ⟨_, ?_, by simp [skBP], by simp, kp1.app, rfl⟩
      simp [subW, weakV, getF]
  rintro F H2 ⟨hk2, hq2, kp2, rfl⟩
  have hkH : H.length < H1.length + 1 := by omega
  have hqH : H.length ≤ H1.length := by omega
  have hkq : ¬ H1.length = H1.length + 1 := by omega
  generalize H1.length + 1 = k at *
  generalize H1.length = q at *
  clear hp1 hT1 kp1 hM hll
  have hq3 : QQ H2 q [] := ⟨[], hq2, Held.nil⟩
  have hcn : nb < H.length := (List.getElem?_eq_some_iff.1 (h.tr.cn (by have := h.tr.le; have := h.pos; omega))).1
  have hrl := h.tr.rl
  have hml := (List.getElem?_eq_some_iff.1 h.tr.cm).1
  have hTk : ∀ {Hx}, KpA (fun _ => False) H Hx → TrA Hx r b nb mb cap s es := fun hx => h.tr.keep hx (fun e => e) (fun _ e => e) (fun e => e)
  obtain ⟨n0, J0, hn1, hn2, hn3, _⟩ := h.rep.head
  have hNo := sknodeP hk2 hq3 (hTk kp2) hn1 (by simp) (by rw [hn3]; omega)
  rw [hn2, hn3] at hNo
  refine AW.seq (AW.ofx [(3, 5, [0, 6, 3, 4])] mixed (by kernel_rfl) ?_)
  simp [qScope_n, qScope_r, qScope_e]
  refine callK.of hNo ?_
  rintro y H4 ⟨rfl, hk4, hq4⟩
  simp [qScope_n, qScope_r, qScope_e]
  have hkn : ∀ {Hx Hy : List Bk}, KpA (fun _ => False) H Hx → KpA (fun x => x = q) Hx Hy → KpA (fun _ => False) H Hy := fun h1 h2 => KpA.new ((h1.mono fun _ h => h.elim).trans (h2.mono fun x (hx : x = q) => by omega))
  have hst : ∃ (its : List Itp) (hs : List Ent), H4[k]? = some (skBP r p l kv q) ∧ QQ H4 q hs ∧ KpA (fun _ => False) H H4 ∧ hs.Perm (its.map (Itp.ent p l)) ∧ (∀ it ∈ its, it.ok b s.A) ∧ (its.flatMap (Itp.rcs kp)) = S.filter kp ∧ wtp its ≤ S.length * 18 + 1 := by
    have k4 := hkn kp2 hk4
    have hk4k := hk4 _ _ (fun e => hkq e.symm) hk2
    by_cases hz : S = []
    · rw [if_pos (by simp [hz])] at hq4
      exact ⟨[], [], hk4k, hq4, k4, .nil, fun _ h => (by cases h), by simp [hz], by simp [wtp]⟩
    · have hz' : ¬ ((S.length : Nat) : Int) = 0 := fun e => hz (List.length_eq_zero_iff.1 (by omega))
      rw [if_neg hz'] at hq4
      refine ⟨[.nd 0 16 root0 S], _, hk4k, hq4, k4, .refl _, fun it hit => ?_, by simp [Itp.rcs], by simp [wtp, Itp.wt]⟩
      rw [List.mem_singleton] at hit
      subst hit
      exact ⟨hz, h.ok, I, h.rep⟩
  obtain ⟨its, hs, s1, s2, s3, s4, s5, s6, s7⟩ := hst
  clear hk2 hq2 hq3 kp2 hNo hk4 hq4
  refine AW.seq (AW.ofx [(3, 5, [0, 6, 3, 4])] mixed (by kernel_rfl) ?_)
  simp [qScope_n, qScope_r, qScope_e]
  refine AW.seq (AW.ofx [(3, 5, [0, 6, 3, 4])] mixed (by kernel_rfl) ?_)
  simp [qScope_n, qScope_r, qScope_e]
  refine AW.seq (AW.block (AW.loopW (NrIP H k r q b s.A p l kv n S kp) ⟨wtp its, _, ?_, [], its, hs, rfl, s1, s2, s3, s4, s5, by rw [s6]; exact .refl _, by rw [s6]; rfl, s7, by simp; omega, rfl⟩ ?_))
  · simp [subW, weakV, getF, zeroRow, ownP]
  clear s1 s2 s3 s4 s5 s6 s7 its hs
  rintro zz F H5 ⟨out, its, hs, rfl, s1, s2, s3, s4, s5, s6, s7, s8, s9, rfl⟩
  have hnl := wtp_len s5
  have hhl2 := s4.length_eq
  rw [List.length_map] at hhl2
  unfold ownP
  have hout : ∀ s ∈ out, s ∈ S.filter kp := fun s hs => s6.mem_iff.1 (List.mem_append_left _ hs)
  have holen : out.length ≤ S.length := by
    have e1 := s6.length_eq
    rw [List.length_append] at e1
    have e2 : (S.filter kp).length ≤ S.length := List.length_filter_le _ _
    omega
  refine AW.seq (AW.seq (AW.ofx [(3, 5, [0, 6, 3, 4])] mixed (by kernel_rfl) ?_))
  by_cases hlt : (out.length : Int) < n
  · simp [hlt, qScope_n, qScope_r, qScope_e]
    refine AW.ofx [(3, 5, [0, 6, 3, 4])] mixed (by kernel_rfl) ?_
    simp [qScope_n, qScope_r, qScope_e]
    have hP := zpop s2 (by omega)
    have hsk := s1
    unfold skBP at hsk
    have hfin : its = [] → NearP S kp p l n out := fun e => by
      subst e
      refine ⟨?_, hout⟩
      rw [List.flatMap_nil, List.map_nil] at s7
      have e1 : sort ([] : List Ent) = [] := rfl
      rw [e1, List.append_nil] at s7
      rw [← s7, List.take_of_length_le]
      rw [List.length_map]
      omega
    refine AW.block (AW.seq (AW.ofx [(3, 5, [0, 6, 3, 4])] mixed (by kernel_rfl) ?_))
    simp [hsk, qScope_n, qScope_r, qScope_e]
    refine callK.of hP ?_
    rintro y H6 ⟨rfl, k6, hq6⟩
    cases hs with
    | nil =>
      have hits : its = [] := by
        have := s4.length_eq
        simp at this
        exact List.length_eq_zero_iff.1 this.symm
      simp [popV, setCells, setBlk, qScope_n, qScope_r, qScope_e]
      have kfin : KpA (fun _ => False) H (H6 ++ [Bk.cells [.v (.sc (.int .u64 0)), .v (.sc (.int .u64 0)), .v (.sc (.int .i64 0))]]) := (hkn s3 k6).app
      refine AW.block (AW.seq (AW.ofx [(3, 5, [0, 6, 3, 4])] mixed (by kernel_rfl) ?_))
      simp [qScope_n, qScope_r, qScope_e]
      refine AW.cond true (by simp) (fun _ => ?_) (fun e => by cases e)
      refine AW.ofx [] mixed (by kernel_rfl) ?_
      simp [qScope_n, qScope_r, qScope_e]
      refine AW.ofx [(3, 5, [0, 6, 3, 4])] mixed (by kernel_rfl) ?_
      simp [qScope_n, qScope_r, qScope_e, lV]
      exact ⟨out, ⟨rfl, rfl⟩, hfin hits, toNo kfin⟩
    | cons x tl =>
      obtain ⟨it, its', hx, hpi, htl⟩ := perm_pick s4
      have hsr : Srt (x :: tl) := by
        obtain ⟨_, _, hh⟩ := s2
        exact hh.2.2
      have hlx : ∀ y ∈ tl, y.lt x = false := (List.pairwise_cons.1 hsr).1
      have g1 := hget (L := [.cells [.v (.sc (.int .u64 x.k)), .v (.sc (.int .u64 x.t)), .v (.sc (.int .i64 x.i))]]) (k6 _ _ (fun e => hkq e.symm) s1)
      have g2 := hq6.keep (Kp.refl.app (L := [.cells [.v (.sc (.int .u64 x.k)), .v (.sc (.int .u64 x.t)), .v (.sc (.int .i64 x.i))]]) (I := NoB)) (fun h => h)
      have g3 : KpA (fun _ => False) H (H6 ++ [.cells [.v (.sc (.int .u64 x.k)), .v (.sc (.int .u64 x.t)), .v (.sc (.int .i64 x.i))]]) := (hkn s3 k6).app
      have g7 : (H6 ++ [Bk.cells [.v (.sc (.int .u64 x.k)), .v (.sc (.int .u64 x.t)), .v (.sc (.int .i64 x.i))]])[H6.length]? = some (.cells [.v (.sc (.int .u64 x.k)), .v (.sc (.int .u64 x.t)), .v (.sc (.int .i64 x.i))]) := by simp
      simp [popV, entV_eq, setCells, setBlk, qScope_n, qScope_r, qScope_e]
      simp only [List.tail_cons] at g2 hq6
      generalize H6 ++ [Bk.cells [.v (.sc (.int .u64 x.k)), .v (.sc (.int .u64 x.t)), .v (.sc (.int .i64 x.i))]] = H7 at *
      generalize H6.length = z at *
      clear s1 s2 s3 k6 hq6 hP hsk
      have g4 := hTk g3
      have hwt : wtp its = it.wt + wtp its' := by rw [wtp_perm hpi]; simp [wtp]
      have hfm : (its.flatMap (Itp.rcs kp)).Perm (it.rcs kp ++ its'.flatMap (Itp.rcs kp)) := by
        have := hpi.flatMap_right (Itp.rcs kp)
        simpa using this
      have hok' : ∀ it ∈ its', it.ok b s.A := fun it hit => s5 it (hpi.mem_iff.2 (List.mem_cons_of_mem _ hit))
      refine AW.block (AW.seq (AW.ofx [(3, 5, [0, 6, 3, 4])] mixed (by kernel_rfl) ?_))
      simp [qScope_n, qScope_r, qScope_e]
      refine AW.cond false (by simp) (fun e => by cases e) (fun _ => ?_)
      cases it with
      | rc t =>
        obtain rfl : recE p l t = x := hx
        have e_t : (recE p l t).t = 1 := rfl
        have e_i : (recE p l t).i = t.id := rfl
        rw [e_t, e_i] at g7
        have htk : t ∈ S.filter kp := s6.mem_iff.1 (List.mem_append_right _ (hfm.mem_iff.2 (List.mem_append_left _ (List.mem_singleton.2 rfl))))
        have htS := (List.mem_filter.1 htk).1
        have hr7 := g4.cr
        have hm7 := g4.cm
        unfold trC at hr7
        obtain ⟨j, hsf, _⟩ := pfind_some (i := 0) (h.es.mem_iff.2 htS) ((h.es.map Pr.id).nodup_iff.2 h.ids)
        refine AW.seq (AW.ofx [(3, 5, [0, 6, 3, 4])] mixed (by kernel_rfl) ?_)
        simp [g7, qScope_n, qScope_r, qScope_e]
        refine AW.cond false (by simp) (fun e => by cases e) (fun _ => ?_)
        refine AW.ofx [(3, 5, [0, 6, 3, 4])] mixed (by kernel_rfl) ?_
        simp [g7, hr7, hm7, mfind_p, hsf, zvPr, Pr.v_eq, qScope_n, qScope_r, qScope_e]
        have hmn : ∀ it ∈ its', (it.ent p l).lt (recE p l t) = false := fun it hit => hlx _ (htl.mem_iff.2 (List.mem_map_of_mem hit))
        have hw1 : (Itp.rc t).wt = 1 := rfl
        refine ⟨by omega, wtp its', by omega, _, ?_, out ++ [t], its', tl, rfl, g1, g2, g3, htl, hok', ?_, ?_, by omega, ?_, rfl⟩
        · simp [subW, weakV, getF, ownP, Pr.cs]
        · rw [List.append_assoc]
          exact (List.Perm.append_left out hfm.symm).trans s6
        · have e1 : sort ((its.flatMap (Itp.rcs kp)).map (recE p l)) = recE p l t :: sort ((its'.flatMap (Itp.rcs kp)).map (recE p l)) := by
            rw [sort_of_perm (hfm.map _)]
            exact sort_min (all_behindP hl hok' hmn)
          rw [e1] at s7
          rw [← s7, List.map_append, List.append_assoc]
          rfl
        · rw [List.length_append, List.length_singleton]
          omega
      | nd a d c Sn =>
        obtain rfl : nodE c p l a = x := hx
        have e_t : (nodE c p l a).t = 0 := rfl
        have e_i : (nodE c p l a).i = a := rfl
        rw [e_t, e_i] at g7
        obtain ⟨o1, o2, In, o3⟩ := s5 _ (hpi.mem_iff.2 (List.mem_cons_self ..))
        have hd16 : d ≤ 16 := by
          have e1 := o2.l
          have e2 := (rightC_iff.1 o2.r).1
          omega
        have hSn : 0 < Sn.length := List.length_pos_iff.2 o1
        have hw1 : (Itp.nd a d c Sn).wt = Sn.length * (d + 2) := rfl
        have hw2 : Sn.length * (d + 2) = Sn.length * (d + 1) + Sn.length := Nat.mul_succ _ _
        have hSnS : Sn.length ≤ Sn.length * (d + 2) := Nat.le_mul_of_pos_right _ (by omega)
        have htll : tl.length ≤ its.length := by
          have := s4.length_eq
          simp at this
          omega
        have hOp := skopenP g1 g2 g4 (by omega) (by omega) (by omega) (by omega) o3 o2 hl hkp (fun x hx => ⟨g3 ib x (fun h => h) (hfb x hx), by
          have := (List.getElem?_eq_some_iff.1 (hfb x hx)).1
          omega⟩) hd16 (by omega)
        refine AW.seq (AW.ofx [(3, 5, [0, 6, 3, 4])] mixed (by kernel_rfl) ?_)
        simp [g7, qScope_n, qScope_r, qScope_e]
        refine AW.cond true (by simp) (fun _ => ?_) (fun e => by cases e)
        refine AW.ofx [(3, 5, [0, 6, 3, 4])] mixed (by kernel_rfl) ?_
        simp [g7, qScope_n, qScope_r, qScope_e]
        refine callK.of hOp ?_
        rintro y H8 ⟨kp8, new, hs', w1, w3, w4, w5, w7⟩
        have kp8' := hkn g3 kp8
        have g18 := kp8 _ _ (fun e => hkq e.symm) g1
        simp [qScope_n, qScope_r, qScope_e]
        have hwa := wtp_append new its'
        refine ⟨wtp (new ++ its'), by omega, _, ?_, out, new ++ its', hs', rfl, g18, w1, kp8', ?_, ?_, ?_, ?_, ?_, s9, rfl⟩
        · simp [subW, weakV, getF, ownP]
        · rw [List.map_append]
          exact w3.trans (List.Perm.append_left _ htl)
        · intro it hit
          rcases List.mem_append.1 hit with hit | hit
          · exact w4 it hit
          · exact hok' it hit
        · rw [List.flatMap_append]
          exact (List.Perm.append_left out ((w5.append_right _).trans hfm.symm)).trans s6
        · rw [← s7]
          congr 1
          refine sort_of_perm (List.Perm.map _ ?_)
          rw [List.flatMap_append]
          exact (w5.append_right _).trans hfm.symm
        · omega
  · simp [hlt, qScope_n, qScope_r, qScope_e]
    refine AW.ofx [(3, 5, [0, 6, 3, 4])] mixed (by kernel_rfl) ?_
    simp [qScope_n, qScope_r, qScope_e]
    refine AW.ofx [(3, 5, [0, 6, 3, 4])] mixed (by kernel_rfl) ?_
    simp [qScope_n, qScope_r, qScope_e, lV]
    refine ⟨out, ⟨rfl, rfl⟩, ⟨?_, hout⟩, toNo s3⟩
    have hol : n.toNat = (out.map (recE p l)).length := by
      rw [List.length_map]
      omega
    rw [← s7, hol, List.take_left]
end Go.Proofs.Ytmjnffjacgjfmaa
namespace Go.Proofs.Ytmjnffjacgjfmaa
set_option linter.all false
open Go.RowKit AM
set_option maxRecDepth 10000
attribute [local simp] aw_skip' aw_region' aw_seq' aw_cond' aw_block' aw_loop' aw_exit' aw_label' aw_ret' aops_nil' aops_cons' aop' aMove aAssign aPick aAlloc aBox aBuild slF aBuildSlice aLoad aLoadOwn aLoadS sharesAt shares sharedV aStore aStoreOwn isOwn delR aNilCheck aBin aMakeFunc aFieldAddr aField aIndexOp aIndex partV aIndexAddr aExtract aSliceOp aSlice slV aShrink aCallOp aCall' aInvoke' aLen aLenMap aDelete aMM aUn aConv aIface aAssert aMakeMap aLookup aMapUpdate aRange aNext aEntry entsOf keyB seekK aMakeSlice lookV aApp aAppendB aAppendF aAppend putK layK eval evalV AM.valOf getF putF setF del SV.refers cellsAt rootSV plains shift ldV V.exact V.exactL V.ofValue V.ofPart V.ofCell V.cells V.one Value.oneCell' fitB qSeq qBlock getB afin aret resVs resV resTmps shareF evalS tupV valsS valsV pickV calm calmB lenV useOf feeds shrinks stows looks isT newsV partsV fillV putAt zerosV fitsNil nilB sliceB isEq isNeq awx_skip' awx_region' awx_seq' awx_cond' awx_block' awx_loop' awx_exit' awx_label' awx_ret' xops_nil' xops_cons' xop' xload xcall' addO delO inO putD memB Mix.effB Mix.laysB keysF badK subW weakV zeroRow yops_nil' yops_cons' yop' yload yindex yfield ylen oldO dropO takeO oldL exactB V.fixed V.fixedL
attribute [local simp] awz_skip' awz_region' awz_seq' awz_cond' awz_block' awz_loop' awz_exit' awz_label' awz_ret' zops_nil' zops_cons' zop' zload zloadOwn zcall' zlenK z0 new0 remF old0 dltB
theorem refFarP (t : Pr) (p : Pt) (l : Int) : PFn Try.prog 42 [t.v, p.v, .sc (.int .i64 l)] (.sc (.int .u64 (farP t p l))) := by
  have hO := refOf t.at_ l
  have hB := fun c => refBox c
  have hD := fun r => refDist r p
  unfold farP
  generalize ofR t.at_ l = oc at *
  obtain ⟨oc, ok⟩ := oc
  simp only at hO ⊢
  have hB := hB oc
  have hD := hD (boxR oc).1
  generalize boxR oc = bx at *
  obtain ⟨bx, bok⟩ := bx
  simp only at hB hD ⊢
  generalize distR bx p = dd at *
  unfold Pt.v Pt.cs at hO hD ⊢
  unfold Ce.v Ce.cs at hO hB
  unfold Re.v Re.cs at hB hD
  unfold Pr.v Pr.cs
  refine AFn.intro (fn := Try.f42) (by kernel_rfl) rfl (by kernel_rfl) (by simp) ?_
  simp only [Try.f42, argsF]
  refine AW.seq (AW.ofx [] mixed (by kernel_rfl) ?_)
  simp
  refine AW.seq (AW.ofx [] mixed (by kernel_rfl) ?_)
  simp
  refine callK.pure hO rfl rfl ?_
  simp [setCells, setBlk]
  refine AW.seq (AW.ofx [] mixed (by kernel_rfl) ?_)
  simp
  refine callK.pure hB rfl rfl ?_
  simp [setCells, setBlk]
  refine AW.ofx [] mixed (by kernel_rfl) ?_
  simp
  refine callK.pure hD rfl rfl ?_
  simp
def ptBP (p : Pt) : Bk := .cells [.v (.sc (.int .i64 p.x)), .v (.sc (.int .i64 p.y))]
def RnOP (q : Nat) (p : Pt) (l n : Int) (K : List Pr) (H0 : List Bk) (z : Nat) (F : Fr) (H : List Bk) : Prop :=
  ∃ (out left : List Pr) (x0 : V), z = left.length ∧ H = H0 ∧ (out ++ left).Perm K ∧ out.map (recE p l) ++ sort (left.map (recE p l)) = sort (K.map (recE p l)) ∧ (out.length : Int) ≤ max n 0 ∧
    F = [(2, .v (.sc (.int .i64 n))), (3, .v (.sc (.int .i64 l))), (5, .v (.ptr q 0)), (9, ownP out), (10, .v (lV left))]
def RnNP (q : Nat) (p : Pt) (l n : Int) (out left : List Pr) (H0 : List Bk) (i : Nat) (F : Fr) (H : List Bk) : Prop :=
  ∃ (at' : Nat) (h : at' < left.length), H = H0 ∧ (∀ j (hj : j < left.length), j < i + 1 → (recE p l left[j]).lt (recE p l left[at']) = false) ∧
    F = [(2, .v (.sc (.int .i64 n))), (3, .v (.sc (.int .i64 l))), (5, .v (.ptr q 0)), (9, ownP out), (10, .v (lV left)), (11, .v (.sc (.int .i64 at'))), (12, .v (.sc (.int .i64 (i + 1 : Nat))))]
theorem less_permP {S : List Pr} (hn : (S.map Pr.id).Nodup) {x : Pr} (hx : x ∈ S) : S.Perm (x :: lessP S x.id) := by
  induction S with
  | nil => cases hx
  | cons y S ih =>
    rw [List.map_cons, List.nodup_cons] at hn
    unfold lessP
    by_cases hxy : y.id = x.id
    · have hyx : x = y := by
        rcases List.mem_cons.1 hx with h | h
        · exact h
        · exact absurd (List.mem_map_of_mem (f := Pr.id) h) (by rw [← hxy]; exact hn.1)
      subst hyx
      have : (S.filter fun t => !decide (t.id = x.id)) = S := List.filter_eq_self.2 fun t ht => by
        have : t.id ≠ x.id := fun e => hn.1 (by rw [← e]; exact List.mem_map_of_mem ht)
        simpa using this
      rw [List.filter_cons_of_neg (by simp), this]
    · have hxS : x ∈ S := (List.mem_cons.1 hx).resolve_left fun e => hxy (by rw [e])
      rw [List.filter_cons_of_pos (by simpa using hxy)]
      exact ((ih hn.2 hxS).cons y).trans (List.Perm.swap x y _)
theorem refNear0P (K : List Pr) (p : Pt) (n l : Int) (H : List Bk) (hbad : (fits p && rightL l) = false) : AFn Try.prog 13 [lV K, p.v, .sc (.int .i64 n), .sc (.int .i64 l)] H fun y H' => y = .nil ∧ H' = H ++ [ptBP p] := by
  have hF := refFits p
  unfold Pt.v Pt.cs at hF ⊢
  unfold lV
  refine AFn.intro (fn := Try.f13) (by kernel_rfl) rfl (by kernel_rfl) (by simp) ?_
  simp only [Try.f13, argsF]
  refine AW.seq (AW.ofx [] mixed (by kernel_rfl) ?_)
  simp
  refine AW.seq (AW.ofx [] mixed (by kernel_rfl) ?_)
  simp
  refine AW.seq (AW.seq (AW.ofx [] mixed (by kernel_rfl) ?_))
  simp
  refine callK.pure hF rfl rfl ?_
  cases hf : fits p with
  | false =>
    simp
    refine AW.ofx [] mixed (by kernel_rfl) ?_
    simp [ptBP]
  | true =>
    rw [hf, Bool.true_and] at hbad
    simp
    refine callK.pure (refLevel l) rfl rfl ?_
    rw [hbad]
    simp
    refine AW.ofx [] mixed (by kernel_rfl) ?_
    simp [ptBP]
theorem refNear1P (K : List Pr) (hK : K.length ≤ 1000) (hid : (K.map Pr.id).Nodup) (p : Pt) (n l : Int) (H : List Bk) (hf : fits p = true) (hl : rightL l = true) : AFn Try.prog 13 [lV K, p.v, .sc (.int .i64 n), .sc (.int .i64 l)] H fun y H' => ∃ R, y = lV R ∧ (R.map (recE p l) = (sort (K.map (recE p l))).take n.toNat ∧ ∀ s ∈ R, s ∈ K) ∧ H' = H ++ [ptBP p] := by
  have hF := refFits p
  rw [hf] at hF
  have hL := refLevel l
  rw [hl] at hL
  unfold Pt.v Pt.cs at hF ⊢
  unfold lV
  refine AFn.intro (fn := Try.f13) (by kernel_rfl) rfl (by kernel_rfl) (by simp) ?_
  simp only [Try.f13, argsF]
  refine AW.seq (AW.ofx [] mixed (by kernel_rfl) ?_)
  simp
  refine AW.seq (AW.ofx [] mixed (by kernel_rfl) ?_)
  simp
  refine AW.seq (AW.seq (AW.ofx [] mixed (by kernel_rfl) ?_))
  simp
  refine callK.pure hF rfl rfl ?_
  simp
  refine callK.pure hL rfl rfl ?_
  simp
  refine AW.ofx [] mixed (by kernel_rfl) ?_
  simp
  refine AW.seq (AW.ofx [] mixed (by kernel_rfl) ?_)
  simp
  have hq : (H ++ [ptBP p])[H.length]? = some (ptBP p) := by simp
  unfold ptBP at hq ⊢
  generalize H ++ [Bk.cells [.v (.sc (.int .i64 p.x)), .v (.sc (.int .i64 p.y))]] = H0 at *
  generalize H.length = q at *
  refine AW.seq (AW.block (AW.loopW (RnOP q p l n K H0) ⟨K.length, _, ?_, [], K, .nil, rfl, rfl, .refl _, rfl, by simp; omega, rfl⟩ ?_))
  · simp [subW, weakV, getF, zeroRow, ownP, lV]
  rintro z F H1 ⟨out, left, _, rfl, rfl, s1, s2, s3, rfl⟩
  have hlen := s1.length_eq
  rw [List.length_append] at hlen
  have hout : ∀ s ∈ out, s ∈ K := fun s hs => s1.mem_iff.1 (List.mem_append_left _ hs)
  unfold ownP lV
  by_cases h0 : left.length = 0
  · have hl0 : left = [] := List.length_eq_zero_iff.1 h0
    subst hl0
    refine AW.seq (AW.seq (AW.ofx [] mixed (by kernel_rfl) ?_))
    simp
    refine AW.ofx [] mixed (by kernel_rfl) ?_
    simp
    refine AW.ofx [] mixed (by kernel_rfl) ?_
    simp
    refine ⟨out, ⟨rfl, rfl⟩, ⟨?_, hout⟩⟩
    have e1 : sort ([] : List Ent) = [] := rfl
    rw [List.map_nil, e1, List.append_nil] at s2
    rw [← s2, List.take_of_length_le]
    rw [List.length_map]
    omega
  · have hpos : 0 < left.length := by omega
    by_cases hlt : (out.length : Int) < n
    · refine AW.seq (AW.seq (AW.ofx [] mixed (by kernel_rfl) ?_))
      simp [hpos, hlt]
      refine AW.ofx [] mixed (by kernel_rfl) ?_
      simp
      refine AW.block (AW.seq (AW.ofx [] mixed (by kernel_rfl) ?_))
      simp
      refine AW.mid (RnNP q p l n out left H1 (left.length - 1)) (AW.seq (AW.ofx [] mixed (by kernel_rfl) ?_)) ?_
      · simp
        refine AW.block (AW.count (left.length - 1) (RnNP q p l n out left H1) ⟨_, ?_, 0, hpos, rfl, fun j hj h => ?_, rfl⟩ ?_)
        · simp [subW, weakV, getF, ownP, lV]
        · obtain rfl : j = 0 := by omega
          exact Ent.lt_irrefl _
        rintro i F H2 hi ⟨a, ha, rfl, hmin, rfl⟩
        unfold ownP lV
        by_cases hil : i < left.length - 1
        · have hi1 : i + 1 < left.length := by omega
          have w1 : IntKind.i64.wrap (((i + 1 : Nat) : Int) + 1) = ((i + 1 + 1 : Nat) : Int) := by rw [wrap_i64] <;> omega
          have r1 := rowPr hi1
          have r2 := rowPr ha
          have fa := refFarP left[i + 1] p l
          have fb := refFarP left[a] p l
          rw [Pr.v_eq] at fa fb
          unfold Pt.v Pt.cs at fa fb
          generalize hz : i + 1 = i1 at *
          refine AW.seq (AW.seq (AW.ofx [] mixed (by kernel_rfl) ?_))
          simp [hi1]
          have hnew : ∀ a', (h' : a' < left.length) → (∀ j (hj : j < left.length), j < i1 → (recE p l left[j]).lt (recE p l left[a']) = false) → (recE p l left[i1]).lt (recE p l left[a']) = false → ∀ j (hj : j < left.length), j < i1 + 1 → (recE p l left[j]).lt (recE p l left[a']) = false := by
            intro a' h' k1 k2 j hj hlt
            by_cases e : j = i1
            · subst e
              exact k2
            · exact k1 j hj (by omega)
          have hqq := hq
          refine AW.ofx [] mixed (by kernel_rfl) ?_
          simp
          refine AW.seq (AW.block (AW.seq (AW.ofx [] mixed (by kernel_rfl) ?_)))
          simp [hi1, r1, hq]
          refine callK.pure fa rfl rfl ?_
          simp
          refine AW.seq (AW.ofx [] mixed (by kernel_rfl) ?_)
          simp [ha, r2, hq]
          refine callK.pure fb rfl rfl ?_
          simp
          by_cases c1 : farP left[i1] p l < farP left[a] p l
          · have hlt : (recE p l left[i1]).lt (recE p l left[a]) = true := by
              rw [Ent.lt_iff]
              exact .inl c1
            refine AW.seq (AW.ofx [] mixed (by kernel_rfl) ?_)
            simp [c1]
            refine AW.ofx [] mixed (by kernel_rfl) ?_
            simp
            refine AW.ofx [] mixed (by kernel_rfl) ?_
            simp [w1]
            refine ⟨hil, _, ?_, i1, hi1, rfl, hnew i1 hi1 (fun j hj hji => ?_) (Ent.lt_irrefl _), rfl⟩
            · simp [subW, weakV, getF, ownP, lV]
            · exact Ent.le_trans (Ent.lt_asymm hlt) (hmin j hj hji)
          · by_cases c2 : farP left[i1] p l = farP left[a] p l
            · by_cases c3 : left[i1].id < left[a].id
              · have hlt : (recE p l left[i1]).lt (recE p l left[a]) = true := by
                  rw [Ent.lt_iff]
                  exact .inr ⟨c2, .inr ⟨rfl, c3⟩⟩
                refine AW.seq (AW.ofx [] mixed (by kernel_rfl) ?_)
                simp [c2, c3, hi1, ha, r1, r2]
                refine AW.ofx [] mixed (by kernel_rfl) ?_
                simp
                refine AW.ofx [] mixed (by kernel_rfl) ?_
                simp [w1]
                refine ⟨hil, _, ?_, i1, hi1, rfl, hnew i1 hi1 (fun j hj hji => ?_) (Ent.lt_irrefl _), rfl⟩
                · simp [subW, weakV, getF, ownP, lV]
                · exact Ent.le_trans (Ent.lt_asymm hlt) (hmin j hj hji)
              · have hlt : (recE p l left[i1]).lt (recE p l left[a]) = false := by
                  rw [Ent.nlt_iff]
                  simp only [recE]
                  omega
                refine AW.seq (AW.ofx [] mixed (by kernel_rfl) ?_)
                simp [c2, c3, hi1, ha, r1, r2]
                refine AW.ofx [] mixed (by kernel_rfl) ?_
                simp
                refine AW.ofx [] mixed (by kernel_rfl) ?_
                simp [w1]
                refine ⟨hil, _, ?_, a, ha, rfl, hnew a ha hmin hlt, rfl⟩
                simp [subW, weakV, getF, ownP, lV]
            · have hlt : (recE p l left[i1]).lt (recE p l left[a]) = false := by
                rw [Ent.nlt_iff]
                simp only [recE]
                omega
              have c2' : (farP left[i1] p l == farP left[a] p l) = false := by simpa using c2
              refine AW.seq (AW.ofx [] mixed (by kernel_rfl) ?_)
              simp [c1, c2, c2']
              refine AW.ofx [] mixed (by kernel_rfl) ?_
              simp
              refine AW.ofx [] mixed (by kernel_rfl) ?_
              simp [w1]
              refine ⟨hil, _, ?_, a, ha, rfl, hnew a ha hmin hlt, rfl⟩
              simp [subW, weakV, getF, ownP, lV]
        · have hie : i = left.length - 1 := by omega
          subst hie
          have hi1 : ¬ ((left.length - 1 : Nat) : Int) + 1 < left.length := by omega
          refine AW.seq (AW.seq (AW.ofx [] mixed (by kernel_rfl) ?_))
          simp [hi1]
          refine AW.ofx [] mixed (by kernel_rfl) ?_
          simp
          refine ⟨_, ?_, a, ha, rfl, hmin, rfl⟩
          simp [subW, weakV, getF, ownP, lV]
      · rintro F H2 ⟨a, ha, rfl, hmin, rfl⟩
        have r2 := rowPr ha
        have hW := refWithoutP left left[a].id (by omega)
        have hnl : (left.map Pr.id).Nodup := by
          have := ((s1.map Pr.id).nodup_iff).2 hid
          rw [List.map_append] at this
          exact (List.nodup_append.1 this).2.1
        have hlp := less_permP hnl (List.getElem_mem ha)
        have hll := hlp.length_eq
        rw [List.length_cons] at hll
        have hap : out.flatMap Pr.cs ++ [.sc (.int .i64 left[a].id), .sc (.int .i64 left[a].at_.x), .sc (.int .i64 left[a].at_.y), .sc (.int .i64 left[a].lab)] = (out ++ [left[a]]).flatMap Pr.cs := by simp [Pr.cs]
        have hall : ∀ y ∈ (lessP left left[a].id).map (recE p l), y.lt (recE p l left[a]) = false := by
          intro y hy
          obtain ⟨t, ht, rfl⟩ := List.mem_map.1 hy
          have htl : t ∈ left := (List.mem_filter.1 ht).1
          obtain ⟨j, hj, rfl⟩ := List.getElem_of_mem htl
          exact hmin j hj (by omega)
        unfold lV at hW
        unfold ownP lV
        refine AW.seq (AW.ofx [] mixed (by kernel_rfl) ?_)
        simp [ha, r2]
        refine ⟨by omega, ?_⟩
        refine AW.ofx [] mixed (by kernel_rfl) ?_
        simp [ha, r2]
        refine callK.pure hW (by simp [V.closedL, V.closed, closed_flat (enc := Pr.cs) (fun _ => rfl)]) (by simp [V.closed, closed_flat (enc := Pr.cs) (fun _ => rfl)]) ?_
        simp
        refine ⟨(lessP left left[a].id).length, by omega, _, ?_, out ++ [left[a]], lessP left left[a].id, .nil, rfl, rfl, ?_, ?_, ?_, rfl⟩
        · simp [subW, weakV, getF, ownP, lV, Pr.cs]
        · rw [List.append_assoc]
          exact (List.Perm.append_left out hlp.symm).trans s1
        · have e1 : sort (left.map (recE p l)) = recE p l left[a] :: sort ((lessP left left[a].id).map (recE p l)) := by
            rw [sort_of_perm (hlp.map _)]
            exact sort_min hall
          rw [e1] at s2
          rw [← s2, List.map_append, List.append_assoc]
          rfl
        · rw [List.length_append, List.length_singleton]
          omega
    · refine AW.seq (AW.seq (AW.ofx [] mixed (by kernel_rfl) ?_))
      simp [hpos, hlt]
      refine AW.ofx [] mixed (by kernel_rfl) ?_
      simp
      refine AW.ofx [] mixed (by kernel_rfl) ?_
      simp
      refine ⟨out, ⟨rfl, rfl⟩, ⟨?_, hout⟩⟩
      have hol : n.toNat = (out.map (recE p l)).length := by
        rw [List.length_map]
        omega
      rw [← s2, hol, List.take_left]
end Go.Proofs.Ytmjnffjacgjfmaa
namespace Go.Proofs.Ytmjnffjacgjfmaa
set_option linter.all false
open Go.RowKit AM
set_option maxRecDepth 10000
attribute [local simp] aw_skip' aw_region' aw_seq' aw_cond' aw_block' aw_loop' aw_exit' aw_label' aw_ret' aops_nil' aops_cons' aop' aMove aAssign aPick aAlloc aBox aBuild slF aBuildSlice aLoad aLoadOwn aLoadS sharesAt shares sharedV aStore aStoreOwn isOwn delR aNilCheck aBin aMakeFunc aFieldAddr aField aIndexOp aIndex partV aIndexAddr aExtract aSliceOp aSlice slV aShrink aCallOp aCall' aInvoke' aLen aLenMap aDelete aMM aUn aConv aIface aAssert aMakeMap aLookup aMapUpdate aRange aNext aEntry entsOf keyB seekK aMakeSlice lookV aApp aAppendB aAppendF aAppend putK layK eval evalV AM.valOf getF putF setF del SV.refers cellsAt rootSV plains shift ldV V.exact V.exactL V.ofValue V.ofPart V.ofCell V.cells V.one Value.oneCell' fitB qSeq qBlock getB afin aret resVs resV resTmps shareF evalS tupV valsS valsV pickV calm calmB lenV useOf feeds shrinks stows looks isT newsV partsV fillV putAt zerosV fitsNil nilB sliceB isEq isNeq awx_skip' awx_region' awx_seq' awx_cond' awx_block' awx_loop' awx_exit' awx_label' awx_ret' xops_nil' xops_cons' xop' xload xcall' addO delO inO putD memB Mix.effB Mix.laysB keysF badK subW weakV zeroRow yops_nil' yops_cons' yop' yload yindex yfield ylen oldO dropO takeO oldL exactB V.fixed V.fixedL
attribute [local simp] awz_skip' awz_region' awz_seq' awz_cond' awz_block' awz_loop' awz_exit' awz_label' awz_ret' zops_nil' zops_cons' zop' zload zloadOwn zcall' zlenK z0 new0 remF old0 dltB
def nearQ (S : List Pr) (kp : Pr → Bool) (p : Pt) (l n : Int) (R : List Pr) : Prop := if (fits p && rightL l) = true then NearP S kp p l n R else R = []
theorem ent_injP {K R R' : List Pr} {p : Pt} {l : Int} (hid : (K.map Pr.id).Nodup) (h : R.map (recE p l) = R'.map (recE p l)) (hR : ∀ s ∈ R, s ∈ K) (hR' : ∀ s ∈ R', s ∈ K) : R = R' := by
  induction R generalizing R' with
  | nil =>
    cases R' with
    | nil => rfl
    | cons _ _ => simp at h
  | cons s R ih =>
    cases R' with
    | nil => simp at h
    | cons t R' =>
      rw [List.map_cons, List.map_cons] at h
      injection h with h1 h2
      have e : s.id = t.id := congrArg Ent.i h1
      rw [pid_inj hid (hR s (List.mem_cons_self ..)) (hR' t (List.mem_cons_self ..)) e, ih h2 (fun x hx => hR x (List.mem_cons_of_mem _ hx)) (fun x hx => hR' x (List.mem_cons_of_mem _ hx))]
theorem tnearP {H : List Bk} {r b : Nat} {S : List Pr} {T : Nat → Prop} (ht : TrP H r b S T) (hS : S.length ≤ 1000) (p : Pt) (n l : Int) (kv : V) (kp : Pr → Bool) {ib : Nat} {fb : Option Bk} (hkp : KeepP kv ib fb kp) (hfb : ∀ x, fb = some x → H[ib]? = some x) :
    AFn Try.prog 12 [.ptr r 0, p.v, .sc (.int .i64 n), .sc (.int .i64 l), kv] H fun y H' => ∃ R, y = lV R ∧ nearQ S kp p l n R ∧ Kp NoB H H' := by
  by_cases h : (fits p && rightL l) = true
  · have h' := h
    simp only [Bool.and_eq_true] at h'
    refine (near1P ht hS p n l kv kp hkp hfb h'.1 h'.2).mono' fun y H' hy => ?_
    obtain ⟨R, h1, h2, h3⟩ := hy
    exact ⟨R, h1, by unfold nearQ; rw [if_pos h]; exact h2, h3⟩
  · have h' : (fits p && rightL l) = false := by simpa using h
    refine (near0P ht p n l kv h').conv fun y H' hy => ⟨lV [], ⟨[], rfl, by unfold nearQ; rw [if_neg h], hy.2⟩, fun I φ v hv => ?_⟩
    rw [hy.1] at hv
    exact rel_nil_row hv
theorem dnearP (K : List Pr) (hK : K.length ≤ 1000) (hid : (K.map Pr.id).Nodup) (p : Pt) (n l : Int) (H : List Bk) : AFn Try.prog 13 [lV K, p.v, .sc (.int .i64 n), .sc (.int .i64 l)] H fun y H' => ∃ R, y = lV R ∧ nearQ K (fun _ => true) p l n R ∧ H' = H ++ [ptBP p] := by
  by_cases h : (fits p && rightL l) = true
  · have h' := h
    simp only [Bool.and_eq_true] at h'
    refine (refNear1P K hK hid p n l H h'.1 h'.2).mono' fun y H' hy => ?_
    obtain ⟨R, h1, h2, h3⟩ := hy
    refine ⟨R, h1, ?_, h3⟩
    unfold nearQ
    rw [if_pos h]
    have e : K.filter (fun _ => true) = K := List.filter_eq_self.2 fun _ _ => rfl
    unfold NearP
    rw [e]
    exact h2
  · have h' : (fits p && rightL l) = false := by simpa using h
    refine (refNear0P K p n l H h').conv fun y H' hy => ⟨lV [], ⟨[], rfl, by unfold nearQ; rw [if_neg h], hy.2⟩, fun I φ v hv => ?_⟩
    rw [hy.1] at hv
    exact rel_nil_row hv
theorem near_sameP {S K : List Pr} {kp : Pr → Bool} (hK : K = S.filter kp) (hid : (K.map Pr.id).Nodup) {p : Pt} {l n : Int} {R R' : List Pr} (h : nearQ S kp p l n R) (h' : nearQ K (fun _ => true) p l n R') : R = R' := by
  unfold nearQ at h h'
  split at h
  · rename_i hc
    rw [if_pos hc] at h'
    have e : K.filter (fun _ => true) = K := List.filter_eq_self.2 fun _ _ => rfl
    unfold NearP at h h'
    rw [e] at h'
    rw [← hK] at h
    exact ent_injP hid (h.1.trans h'.1.symm) h.2 h'.2
  · rename_i hc
    rw [if_neg hc] at h'
    rw [h, h']
theorem near_lenP {S : List Pr} {kp : Pr → Bool} {p : Pt} {l n : Int} {R : List Pr} (h : nearQ S kp p l n R) : R.length ≤ S.length := by
  unfold nearQ at h
  split at h
  · have e1 := congrArg List.length h.1
    rw [List.length_map, List.length_take, (sort_perm _).length_eq, List.length_map] at e1
    have e2 : (S.filter kp).length ≤ S.length := List.length_filter_le _ _
    omega
  · rw [h]
    exact Nat.zero_le _
theorem noKeepP : KeepP (.sc .nilFunc) 0 none (fun _ => true) := .inl ⟨rfl, fun _ => rfl⟩
/-- A label is asked. -/
theorem lkeepP (lab : Int) (lb : Nat) : KeepP (.fn (.func 14) [] [.ptr lb 0]) lb (some (.cells [.v (.sc (.int .i64 lab))])) (fun s => decide (s.lab = lab)) := by
  refine .inr ⟨_, _, rfl, rfl, rfl, fun H s h => ?_⟩
  have hq := fun L => hget (L := L) (h _ rfl)
  rw [Pr.v_eq]
  refine AFn.intro (fn := Try.f14) (by kernel_rfl) rfl (by kernel_rfl) (by simp) ?_
  simp only [Try.f14, argsF]
  refine AW.seq (AW.ofx [] mixed (by kernel_rfl) ?_)
  simp
  refine AW.ofx [] mixed (by kernel_rfl) ?_
  simp [hq]
  exact Bool.eq_iff_iff.2 (by simp)
def kpP (lab : Int) (s : Pr) : Bool := decide (lab < 0) || decide (s.lab = lab)
def NlP (r z u : Nat) (n lv lab : Int) (S : List Pr) (H0 : List Bk) (k : Nat) (F : Fr) (H : List Bk) : Prop :=
  H = H0 ∧ F = [(7, .v (.ptr u 0)), (9, .v (.ptr r 0)), (10, .v (lV S)), (11, .v (.ptr z 0)), (12, .v (.sc (.int .i64 n))), (13, .v (.sc (.int .i64 lv))), (14, ownP ((S.take k).filter (kpP lab))), (15, .v (.sc (.int .i64 k)))]
set_option maxHeartbeats 4000000 in
theorem lawNearestP (v : Int) (l : List Pr) (p : Pt) (n lv lab : Int) (H : List Bk) : AFn Try.prog 3 [.sc (.int .i64 v), lV l, .agg [.sc (.int .i64 p.x), .sc (.int .i64 p.y), .sc (.int .i64 n), .sc (.int .i64 lv)], .sc (.int .i64 lab)] H fun y _ => y = .sc (.bool true) := by
  have hB := fun L => lbuiltP v l (H ++ L)
  unfold lV at hB ⊢
  refine AFn.intro (fn := Try.f3) (by kernel_rfl) rfl (by kernel_rfl) (by simp) ?_
  simp only [Try.f3, argsF]
  refine AW.seq (AW.ofx [(2, 9, [6]), (12, 9, [9, 11, 12, 13, 14])] mixed (by kernel_rfl) ?_)
  simp
  refine AW.seq (AW.ofx [(2, 9, [6]), (12, 9, [9, 11, 12, 13, 14])] mixed (by kernel_rfl) ?_)
  simp
  refine callK.of (hB _) ?_
  rintro y H1 (⟨hl, rfl, k1⟩ | ⟨hv, hl, r, b, T, hb, rfl, t1, k1, f1⟩)
  · have hsb := k1.cells (i := H.length) (fun h => h) (by simp; rfl)
    have hs4 : ∀ z0 z1 a b, setCells (H1 ++ [Bk.cells [z0, z1]]) H1.length 0 [a, b] = H1 ++ [.cells [.v a, .v b]] := fun z0 z1 a b => by simp [setCells, setBlk]
    simp
    refine AW.seq (AW.ofx [(2, 9, [6]), (12, 9, [9, 11, 12, 13, 14])] mixed (by kernel_rfl) ?_)
    simp [hsb, hs4]
    refine AW.seq (AW.seq (AW.ofx [(2, 9, [6]), (12, 9, [9, 11, 12, 13, 14])] mixed (by kernel_rfl) ?_))
    simp [nilPtE]
    refine AW.ofx [(2, 9, [6]), (12, 9, [9, 11, 12, 13, 14])] mixed (by kernel_rfl) ?_
    simp
    refine callK.of (lknownP _) ?_
    rintro y H2 ⟨rfl, k2⟩
    simp
  · have hsb := k1.cells (i := H.length) (fun h => h) (by simp; rfl)
    have hlb := k1.cells (i := H.length + 1) (fun h => h) (by simp; rfl)
    have hs4 : ∀ z0 z1 a b, setCells (H1 ++ [Bk.cells [z0, z1]]) H1.length 0 [a, b] = H1 ++ [.cells [.v a, .v b]] := fun z0 z1 a b => by simp [setCells, setBlk]
    have hsp := havP_spec l
    generalize havP l = S at *
    simp [lV]
    refine AW.seq (AW.ofx [(2, 9, [6]), (12, 9, [9, 11, 12, 13, 14])] mixed (by kernel_rfl) ?_)
    simp [hsb, hs4]
    have t2 := t1.app (L := [ptBP p])
    have hlb2 := hget (L := [ptBP p]) hlb
    have hpb : (H1 ++ [ptBP p])[H1.length]? = some (ptBP p) := by simp
    have hpp : Bk.cells [.v (.sc (.int .i64 p.x)), .v (.sc (.int .i64 p.y))] = ptBP p := rfl
    rw [hpp]
    have hul : H.length + 1 < H1.length := (List.getElem?_eq_some_iff.1 hlb).1
    clear t1 hlb hsb f1 k1
    generalize H1 ++ [ptBP p] = H2 at *
    generalize H1.length = z at *
    generalize H.length + 1 = u at *
    unfold ptBP at hpb
    refine AW.seq (AW.seq (AW.ofx [(2, 9, [6]), (12, 9, [9, 11, 12, 13, 14])] mixed (by kernel_rfl) ?_))
    simp
    refine AW.ofx [(2, 9, [6]), (12, 9, [9, 11, 12, 13, 14])] mixed (by kernel_rfl) ?_
    simp
    refine AW.seq (AW.ofx [(2, 9, [6]), (12, 9, [9, 11, 12, 13, 14])] mixed (by kernel_rfl) ?_)
    simp
    refine AW.seq (AW.seq (AW.ofx [(2, 9, [6]), (12, 9, [9, 11, 12, 13, 14])] mixed (by kernel_rfl) ?_))
    simp
    refine AW.block (AW.count S.length (NlP r z u n lv lab S H2) ⟨_, ?_, rfl, rfl⟩ ?_)
    · simp [subW, weakV, getF, lV, zeroRow, ownP]
    rintro k F H3 hk ⟨rfl, rfl⟩
    have hle : ((S.take k).filter (kpP lab)).length ≤ k := by
      have e1 : ((S.take k).filter (kpP lab)).length ≤ (S.take k).length := List.length_filter_le _ _
      rw [List.length_take] at e1
      omega
    by_cases hlt : k < S.length
    · have w1 : IntKind.i64.wrap ((k : Int) + 1) = (k : Int) + 1 := by rw [wrap_i64] <;> omega
      have r1 := rowPr hlt
      have hsn : (S.take (k + 1)).filter (kpP lab) = (S.take k).filter (kpP lab) ++ (if kpP lab S[k] then [S[k]] else []) := by
        rw [take_snocP hlt, List.filter_append]
        congr 1
        simp [List.filter_cons]
      generalize hfl : (S.take k).filter (kpP lab) = fl at *
      unfold ownP lV
      refine AW.seq (AW.seq (AW.ofx [(2, 9, [6]), (12, 9, [9, 11, 12, 13, 14])] mixed (by kernel_rfl) ?_))
      simp [hlt]
      refine AW.ofx [(2, 9, [6]), (12, 9, [9, 11, 12, 13, 14])] mixed (by kernel_rfl) ?_
      simp
      refine AW.seq (AW.block (AW.seq (AW.ofx [(2, 9, [6]), (12, 9, [9, 11, 12, 13, 14])] mixed (by kernel_rfl) ?_)))
      by_cases c1 : lab < 0
      · have hkp : kpP lab S[k] = true := by simp [kpP, c1]
        rw [if_pos hkp] at hsn
        simp [hlb2, c1]
        refine AW.ofx [(2, 9, [6]), (12, 9, [9, 11, 12, 13, 14])] mixed (by kernel_rfl) ?_
        simp [hlt, r1]
        refine ⟨by omega, ?_⟩
        refine AW.ofx [(2, 9, [6]), (12, 9, [9, 11, 12, 13, 14])] mixed (by kernel_rfl) ?_
        simp [w1]
        refine ⟨_, ?_, rfl, rfl⟩
        rw [hsn]
        simp [subW, weakV, getF, ownP, lV, Pr.cs]
      · by_cases c2 : S[k].lab = lab
        · have hkp : kpP lab S[k] = true := by simp [kpP, c2]
          rw [if_pos hkp] at hsn
          simp [hlb2, c1, c2, hlt, r1]
          refine AW.ofx [(2, 9, [6]), (12, 9, [9, 11, 12, 13, 14])] mixed (by kernel_rfl) ?_
          simp [hlt, r1]
          refine ⟨by omega, ?_⟩
          refine AW.ofx [(2, 9, [6]), (12, 9, [9, 11, 12, 13, 14])] mixed (by kernel_rfl) ?_
          simp [w1]
          refine ⟨_, ?_, rfl, rfl⟩
          rw [hsn]
          simp [subW, weakV, getF, ownP, lV, Pr.cs]
        · have hkp : kpP lab S[k] = false := by simp [kpP, c1, c2]
          rw [hkp] at hsn
          simp only [Bool.false_eq_true, if_false, List.append_nil] at hsn
          have c2' : (S[k].lab == lab) = false := by simpa using c2
          simp [hlb2, c1, c2, c2', hlt, r1]
          refine AW.ofx [(2, 9, [6]), (12, 9, [9, 11, 12, 13, 14])] mixed (by kernel_rfl) ?_
          simp
          refine AW.ofx [(2, 9, [6]), (12, 9, [9, 11, 12, 13, 14])] mixed (by kernel_rfl) ?_
          simp [w1]
          refine ⟨_, ?_, rfl, rfl⟩
          rw [hsn]
          simp [subW, weakV, getF, ownP, lV]
    · have hk' : k = S.length := by omega
      subst hk'
      rw [List.take_length]
      have hKi : ((S.filter (kpP lab)).map Pr.id).Nodup := (hsp.1.filter _).nodup
      have hKl : (S.filter (kpP lab)).length ≤ S.length := List.length_filter_le _ _
      generalize hK : S.filter (kpP lab) = K at *
      have hD := fun H => dnearP K (by omega) hKi p n lv H
      unfold Pt.v Pt.cs lV at hD
      unfold ownP lV
      refine AW.seq (AW.seq (AW.ofx [(2, 9, [6]), (12, 9, [9, 11, 12, 13, 14])] mixed (by kernel_rfl) ?_))
      simp
      refine AW.ofx [(2, 9, [6]), (12, 9, [9, 11, 12, 13, 14])] mixed (by kernel_rfl) ?_
      simp
      refine AW.seq (AW.seq (AW.ofx [(2, 9, [6]), (12, 9, [9, 11, 12, 13, 14])] mixed (by kernel_rfl) ?_))
      simp [hlb2]
      refine AW.asSl 14 rfl ?_
      by_cases c1 : lab < 0
      · have hTn := tnearP t2 (by omega) p n lv (.sc .nilFunc) (fun _ => true) noKeepP (fun _ h => by cases h)
        unfold Pt.v Pt.cs at hTn
        have hKS : K = S.filter (fun _ => true) := by
          rw [← hK]
          exact List.filter_congr fun s _ => by simp [kpP, c1]
        refine AW.cond true (by simp [getB, getF, setF, eval, c1]) (fun _ => AW.seq (AW.ofx [(2, 9, [6]), (12, 9, [9, 11, 12, 13, 14])] mixed (by kernel_rfl) ?_)) (fun h => by cases h)
        simp [hpb]
        refine callK.of hTn ?_
        rintro y H3 ⟨R, rfl, hR, k3⟩
        have hk3 := k3.keepP fun _ h => h
        simp [hpb, hk3, lV]
        refine callK.of (hD _) ?_
        rintro y H4 ⟨R', rfl, hR', rfl⟩
        obtain rfl := near_sameP hKS hKi hR hR'
        have hSm := refSameP R R (by have := near_lenP hR; omega)
        simp at hSm
        unfold lV at hSm
        have kp4 := k3.app (L := [ptBP p])
        have hk4 := kp4.keepP fun _ h => h
        simp [hk4, lV]
        refine callK.pure hSm (lV_closed2 _ _) rfl ?_
        simp [hk4]
        refine callK.of (lknownP _) ?_
        rintro y H5 ⟨rfl, k5⟩
        have hk5 := (kp4.trans k5).keepP fun _ h => h
        simp [hk5]
        refine AW.ofx [(2, 9, [6]), (12, 9, [9, 11, 12, 13, 14])] mixed (by kernel_rfl) ?_
        simp
      · have hTn := tnearP t2 (by omega) p n lv _ _ (lkeepP lab u) (fun x hx => by
          cases hx
          exact hlb2)
        unfold Pt.v Pt.cs at hTn
        have hKS : K = S.filter (fun s => decide (s.lab = lab)) := by
          rw [← hK]
          exact List.filter_congr fun s _ => by simp [kpP, c1]
        refine AW.cond false (by simp [getB, getF, setF, eval, c1]) (fun h => by cases h) (fun _ => ?_)
        refine AW.ofx [(2, 9, [6]), (12, 9, [9, 11, 12, 13, 14])] mixed (by kernel_rfl) ?_
        simp
        refine AW.seq (AW.ofx [(2, 9, [6]), (12, 9, [9, 11, 12, 13, 14])] mixed (by kernel_rfl) ?_)
        simp [hpb]
        refine callK.of hTn ?_
        rintro y H3 ⟨R, rfl, hR, k3⟩
        have hpb3 := k3.cells (fun h => h) hpb
        simp [lV]
        refine AW.ofx [(2, 9, [6]), (12, 9, [9, 11, 12, 13, 14])] mixed (by kernel_rfl) ?_
        simp [hpb3]
        refine callK.of (hD _) ?_
        rintro y H4 ⟨R', rfl, hR', rfl⟩
        obtain rfl := near_sameP hKS hKi hR hR'
        have hSm := refSameP R R (by have := near_lenP hR; omega)
        simp at hSm
        unfold lV at hSm
        simp [lV]
        refine callK.pure hSm (lV_closed2 _ _) rfl ?_
        simp
        refine callK.of (lknownP _) ?_
        rintro y H5 ⟨rfl, k5⟩
        simp
theorem lawNearestP0 (v : Int) (l : List Pr) (x : Pr) (lab : Int) : PFn Try.prog 3 [.sc (.int .i64 v), lV l, x.v, .sc (.int .i64 lab)] (.sc (.bool true)) := lawNearestP v l ⟨x.id, x.at_.x⟩ x.at_.y x.lab lab []
end Go.Proofs.Ytmjnffjacgjfmaa
