/- The seeker: how far, what waits, a node that is opened. -/
import Derived.Test.YtdeemchhbgomjaaGreatIj1
import Derived.Test.YtdeemchhbgomjaaGreatIg1
import Derived.Test.YtdeemchhbgomjaaGreatHq
namespace Go.Proofs.YtdeemchhbgomjaaGreat
set_option linter.all false
open Go.RowKit AM
set_option maxRecDepth 10000
attribute [local simp] aw_skip' aw_region' aw_seq' aw_cond' aw_block' aw_loop' aw_exit' aw_label' aw_ret' aops_nil' aops_cons' aop' aMove aAssign aPick aAlloc aBox aBuild slF aBuildSlice aLoad aLoadOwn aStore aStoreOwn isOwn delR aNilCheck aBin aMakeFunc aFieldAddr aField aIndexOp aIndex partV aIndexAddr aExtract aSliceOp aSlice aShrink aCallOp aCall' aInvoke' aLen aLenMap aDelete aMM aUn aConv aIface aAssert aMakeMap aLookup aMapUpdate aRange aNext aEntry entsOf keyB seekK aMakeSlice lookV aAppend putK layK eval evalV AM.valOf getF putF setF del SV.refers cellsAt rootSV plains shift ldV V.exact V.exactL V.ofValue V.ofPart V.ofCell V.cells V.one Value.oneCell' fitB qSeq qBlock getB afin aret resVs resV resTmps shareF evalS tupV valsS valsV pickV calm calmB lenV useOf feeds shrinks stows looks isT newsV partsV fillV putAt zerosV fitsNil nilB sliceB isEq isNeq awx_skip' awx_region' awx_seq' awx_cond' awx_block' awx_loop' awx_exit' awx_label' awx_ret' xops_nil' xops_cons' xop' xload xcall' addO delO inO putD memB Mix.effB Mix.laysB keysF badK subW weakV zeroRow yops_nil' yops_cons' yop' yload yindex yfield ylen oldO dropO takeO oldL exactB
attribute [local simp] awz_skip' awz_region' awz_seq' awz_cond' awz_block' awz_loop' awz_exit' awz_label' awz_ret' zops_nil' zops_cons' zop' zload zloadOwn zcall' zlenK z0 new0 remF old0 dltB

/-- What the seeker looks at. -/
def skM (p : Pt) (l : Int) : List (Option V) := [none, some (.sc (.int .i64 p.x)), some (.sc (.int .i64 p.y)), some (.sc (.int .i64 l))]
def farN (b : Re) (p : Pt) (l : Int) : Int := distR (snapR b l).1 p
theorem skfar (b : Re) (p : Pt) (l : Int) : LookFn Tryz.prog 52 (skM p l) [b.v] (.sc (.int .u64 (farN b p l))) := by
  intro us hus
  obtain ⟨u1, u2, u3, u4, rfl⟩ : ∃ u1 u2 u3 u4, us = [u1, u2, u3, u4] := by
    match us, hus with
    | [a, b, c, d], _ => exact ⟨a, b, c, d, rfl⟩
  have hS := psnap b l
  have hD := pdist (snapR b l).1 p
  unfold farN
  generalize snapR b l = sn at *
  obtain ⟨bb, ok⟩ := sn
  simp only at hS hD ⊢
  generalize distR bb p = dd at *
  unfold Re.v Re.cs at hS hD
  unfold Pt.v Pt.cs at hD
  unfold Re.v Re.cs
  simp only [skM, fillM]
  refine AFn.intro (fn := Tryz.f52) (by kernel_rfl) rfl (by kernel_rfl) (by simp) ?_
  simp only [Tryz.f52, argsF]
  refine AW.seq (AW.off [] [(1, 9, 11, [3, 0])] mixed (by kernel_rfl) ?_)
  simp [awf_skip', awf_region', awf_seq', awf_cond', awf_block', awf_loop', awf_exit', awf_label', awf_ret', flK, floatY', yopsB_nil', yopsB_cons', ystep']
  have k1 := fun x y : Bk => keepS_app (H := [x]) (L := [y])
  simp only [List.cons_append, List.nil_append] at k1
  refine AW.seq (AW.off [] [(1, 9, 11, [3, 0])] mixed (by kernel_rfl) ?_)
  simp [awf_skip', awf_region', awf_seq', awf_cond', awf_block', awf_loop', awf_exit', awf_label', awf_ret', flK, floatY', yopsB_nil', yopsB_cons', ystep', k1]
  refine ⟨callK.pure hS rfl rfl ?_, callK.pure hS rfl rfl ?_⟩
  · simp [awf_skip', awf_region', awf_seq', awf_cond', awf_block', awf_loop', awf_exit', awf_label', awf_ret', flK, floatY', yopsB_nil', yopsB_cons', ystep', k1, setCells, setBlk]
    refine AW.ofx [] mixed (by kernel_rfl) ?_
    simp
    refine callK.pure hD rfl rfl ?_
    simp
  · simp [awf_skip', awf_region', awf_seq', awf_cond', awf_block', awf_loop', awf_exit', awf_label', awf_ret', flK, floatY', yopsB_nil', yopsB_cons', ystep', k1, setCells, setBlk]
    refine AW.ofx [] mixed (by kernel_rfl) ?_
    simp
    refine callK.pure hD rfl rfl ?_
    simp
/-- The seeker's block; W: the nodes that wait. -/
def skB (r : Nat) (p : Pt) (l : Int) (kv : V) (ws : List Nat) (q : Nat) : Bk := .cells [.v (.ptr r 0), .v (.sc (.int .i64 p.x)), .v (.sc (.int .i64 p.y)), .v (.sc (.int .i64 l)), .v kv, .own true 63 ws.length 1 (ws.map fun b => .ptr b 0), .v (.ptr q 0)]
theorem skMask {H : List Bk} {k r : Nat} {p : Pt} {l : Int} {kv : V} {ws : List Nat} {q : Nat} (h : H[k]? = some (skB r p l kv ws q)) : maskOK H k (skM p l) := by
  refine ⟨_, h, by simp [skM], fun j z hz => ?_⟩
  match j, hz with
  | 0, hz => cases hz
  | 1, hz => cases hz; exact ⟨rfl, rfl⟩
  | 2, hz => cases hz; exact ⟨rfl, rfl⟩
  | 3, hz => cases hz; exact ⟨rfl, rfl⟩
  | j + 4, hz => simp [skM] at hz
def nodeE (c : Ce) (p : Pt) (l : Int) (i : Nat) : Ent := ⟨farN (boxOf c) p l, 0, i⟩
theorem sknodeNil {H : List Bk} (k : Nat) : AFn Tryz.prog 29 [.ptr k 0, .sc (.pointer none)] H fun y H' => y = .tup [] ∧ H' = H := by
  refine AFn.intro (fn := Tryz.f29) (by kernel_rfl) rfl (by kernel_rfl) (by simp) (AW.ofx [(3, 14, [0, 4])] mixed (by kernel_rfl) ?_)
  simp only [Tryz.f29, argsF]
  simp [hNilN]
def NodeQ (H : List Bk) (k r : Nat) (p : Pt) (l : Int) (kv : V) (q : Nat) (ws : List Nat) (hs : List Ent) (H' : List Bk) : Prop :=
  Kp (fun x => x = k ∨ x = q) H H' ∧ H'[k]? = some (skB r p l kv ws q) ∧ QQ H' q hs
theorem sknode {H : List Bk} {k r q b : Nat} {p : Pt} {l : Int} {kv : V} {ws : List Nat} {hs : List Ent} {c : Ce} {ks : Nat → Option Nat} {n m : Nat} (hk : H[k]? = some (skB r p l kv ws q)) (hq : QQ H q hs) (hb : H[b]? = some (.cells (nodeCs c ks n m))) (hc : rightC c = true)
    (hw : ws.length ≤ 100000) (hh : hs.length ≤ 1000000) :
    AFn Tryz.prog 29 [.ptr k 0, .ptr b 0] H fun y H' => y = .tup [] ∧ (if n = 0 then NodeQ H k r p l kv q ws hs H' else NodeQ H k r p l kv q (ws ++ [b]) (put hs (nodeE c p l ws.length)) H') := by
  have hkq : k ≠ q := by
    rintro rfl
    obtain ⟨es, h1, _⟩ := hq
    rw [hk] at h1
    cases h1
  by_cases hn : n = 0
  · subst hn
    unfold nodeCs at hb
    refine AFn.intro (fn := Tryz.f29) (by kernel_rfl) rfl (by kernel_rfl) (by simp) (AW.ofx [(3, 14, [0, 4])] mixed (by kernel_rfl) ?_)
    simp only [Tryz.f29, argsF]
    simp [hb]
    exact ⟨Kp.refl, hk, hq⟩
  · simp only [if_neg hn]
    have hB := cBox c
    have hbx : boxR c = (boxOf c, true) := by simp [boxR, hc]
    rw [hbx] at hB
    simp only at hB
    unfold nodeCs at hb
    have hn' : ((n : Int) == 0) = false := by rw [beq_eq_false_iff_ne]; omega
    unfold nodeE
    generalize boxOf c = bx at *
    unfold Ce.v Ce.cs Re.v Re.cs at hB
    refine AFn.intro (fn := Tryz.f29) (by kernel_rfl) rfl (by kernel_rfl) (by simp) ?_
    simp only [Tryz.f29, argsF]
    refine AW.seq (AW.seq (AW.ofx [(3, 14, [0, 4])] mixed (by kernel_rfl) ?_))
    simp [hb, hn']
    refine AW.ofx [(3, 14, [0, 4])] mixed (by kernel_rfl) ?_
    simp
    refine AW.seq (AW.ofx [(3, 14, [0, 4])] mixed (by kernel_rfl) ?_)
    simp [hb]
    refine callK.pure hB rfl rfl ?_
    simp [setCells, setBlk]
    have hk1 := hget (L := [reB bx]) hk
    have hq1 : QQ (H ++ [reB bx]) q hs := hq.keep (Kp.refl.app (I := NoB)) (fun h => h)
    have kp1 : Kp (fun x => x = k ∨ x = q) H (H ++ [reB bx]) := Kp.refl.app
    have hr1 : (H ++ [reB bx])[H.length]? = some (reB bx) := by simp
    have hkl : k < H.length := (List.getElem?_eq_some_iff.1 hk).1
    unfold reB at hk1 hq1 kp1 hr1
    generalize H ++ [Bk.cells [.v (.sc (.int .i64 bx.x0)), .v (.sc (.int .i64 bx.y0)), .v (.sc (.int .i64 bx.x1)), .v (.sc (.int .i64 bx.y1))]] = H1 at *
    generalize hz : H.length = z at *
    unfold skB at hk1
    have hkl1 := (List.getElem?_eq_some_iff.1 hk1).1
    have f3 : ∀ K, (H1.set k K)[k]? = some K := fun K => List.getElem?_set_self hkl1
    have f1 : ∀ x, setBlk H1 k 5 x = H1.set k (.cells [.v (.ptr r 0), .v (.sc (.int .i64 p.x)), .v (.sc (.int .i64 p.y)), .v (.sc (.int .i64 l)), .v kv, x, .v (.ptr q 0)]) := fun x => setBlk_eq' hk1
    have f2 : ∀ x y, setBlk (H1.set k (.cells [.v (.ptr r 0), .v (.sc (.int .i64 p.x)), .v (.sc (.int .i64 p.y)), .v (.sc (.int .i64 l)), .v kv, x, .v (.ptr q 0)])) k 5 y = H1.set k (.cells [.v (.ptr r 0), .v (.sc (.int .i64 p.x)), .v (.sc (.int .i64 p.y)), .v (.sc (.int .i64 l)), .v kv, y, .v (.ptr q 0)]) := fun x y => by
      rw [setBlk_eq' (f3 _), List.set_set]
      rfl
    refine AW.seq (AW.ofx [(3, 14, [0, 4])] mixed (by kernel_rfl) ?_)
    simp [hk1, f1, f2, f3]
    refine ⟨by omega, ?_⟩
    have hq2 := fun X => hq1.keep (Kp.set (k := X) (m := k) (I := fun x => x = k) (H := H1) Kp.refl rfl) (fun e => hkq e.symm)
    have kp2 : ∀ X, Kp (fun x => x = k ∨ x = q) H (H1.set k X) := fun X => kp1.set (.inl rfl)
    have hr2 : ∀ X, (H1.set k X)[z]? = some (reB bx) := fun X => by
      rw [List.getElem?_set_ne (by omega)]
      exact hr1
    have hk2 : (H1.set k (.cells [.v (.ptr r 0), .v (.sc (.int .i64 p.x)), .v (.sc (.int .i64 p.y)), .v (.sc (.int .i64 l)), .v kv, .own true 63 (ws.length + 1) 1 (List.map (fun b => V.ptr b 0) ws ++ [.ptr b 0]), .v (.ptr q 0)]))[k]? = some (skB r p l kv (ws ++ [b]) q) := by
      rw [f3]
      simp [skB]
    have hq2 := hq2 (.cells [.v (.ptr r 0), .v (.sc (.int .i64 p.x)), .v (.sc (.int .i64 p.y)), .v (.sc (.int .i64 l)), .v kv, .own true 63 (ws.length + 1) 1 (List.map (fun b => V.ptr b 0) ws ++ [.ptr b 0]), .v (.ptr q 0)])
    have kp2 := kp2 (.cells [.v (.ptr r 0), .v (.sc (.int .i64 p.x)), .v (.sc (.int .i64 p.y)), .v (.sc (.int .i64 l)), .v kv, .own true 63 (ws.length + 1) 1 (List.map (fun b => V.ptr b 0) ws ++ [.ptr b 0]), .v (.ptr q 0)])
    have hr2 := hr2 (.cells [.v (.ptr r 0), .v (.sc (.int .i64 p.x)), .v (.sc (.int .i64 p.y)), .v (.sc (.int .i64 l)), .v kv, .own true 63 (ws.length + 1) 1 (List.map (fun b => V.ptr b 0) ws ++ [.ptr b 0]), .v (.ptr q 0)])
    generalize H1.set k (.cells [.v (.ptr r 0), .v (.sc (.int .i64 p.x)), .v (.sc (.int .i64 p.y)), .v (.sc (.int .i64 l)), .v kv, .own true 63 (ws.length + 1) 1 (List.map (fun b => V.ptr b 0) ws ++ [.ptr b 0]), .v (.ptr q 0)]) = H2 at *
    clear f1 f2 f3 hk1 hq1 kp1 hr1
    have hM := skMask hk2
    have hk3 := hk2
    unfold reB at hr2
    unfold skB at hk3
    simp only [List.length_append, List.length_cons, List.length_nil, Nat.zero_add] at hk3
    have wl : IntKind.i64.wrap (ws.length : Int) = ws.length := by rw [wrap_i64] <;> omega
    have hP := zpush hq2 hh ⟨farN bx p l, 0, ws.length⟩
    have hF := skfar bx p l
    unfold Re.v Re.cs at hF
    rw [entV_eq] at hP
    refine AW.ofz [(3, 14, [0, 4])] mixed (by kernel_rfl) ?_
    simp [hk3, hr2]
    refine zcallK.look hF rfl rfl hM ?_
    simp [hk3, hr2, wl]
    refine callK.of hP ?_
    rintro y H3 ⟨rfl, k3, hq3⟩
    simp
    exact ⟨kp2.trans (k3.toKp.weak fun x hx => .inr hx), k3.cells hkq hk2, hq3⟩
end Go.Proofs.YtdeemchhbgomjaaGreat
namespace Go.Proofs.YtdeemchhbgomjaaGreat
set_option linter.all false
open Go.RowKit AM

def shEn (p : Pt) (l : Int) (s : Sh) : Ent := ⟨farR s p l, 1, s.id⟩
inductive It where
  | sh (s : Sh)
  | nd (i : Nat) (d : Nat) (c : Ce) (S : List Sh)
def It.ent (p : Pt) (l : Int) : It → Ent
  | .sh s => shEn p l s
  | .nd i _ c _ => nodeE c p l i
def It.shs (kp : Sh → Bool) : It → List Sh
  | .sh s => [s]
  | .nd _ _ _ S => S.filter kp
def It.wt : It → Nat
  | .sh _ => 1
  | .nd _ d _ S => S.length * (d + 1)
def It.ok (H : List Bk) (T : Nat → Prop) (ws : List Nat) : It → Prop
  | .sh _ => True
  | .nd i d c S => S ≠ [] ∧ rightC c = true ∧ (d : Int) + c.l = 17 ∧ (∀ s ∈ S, underC c (hm s) = true ∧ rightR s.box = true) ∧ ∃ b I, ws[i]? = some b ∧ Nd H d c S b I ∧ ∀ x, I x → T x
def wts (its : List It) : Nat := (its.map It.wt).sum
theorem It.ok_keep {H H' : List Bk} {T U : Nat → Prop} {ws L : List Nat} (hk : Kp U H H') (hU : ∀ x, T x → ¬ U x) : ∀ {it : It}, it.ok H T ws → it.ok H' T (ws ++ L)
  | .sh _, _ => trivial
  | .nd i d c S, ⟨h1, h2, h3, h4, b, I, h5, h6, h7⟩ => ⟨h1, h2, h3, h4, b, I, by
      rw [List.getElem?_append_left (List.getElem?_eq_some_iff.1 h5).1]
      exact h5, Nd.keep hk h6 fun x hx => hU x (h7 x hx), h7⟩
theorem It.wt_pos {H : List Bk} {T : Nat → Prop} {ws : List Nat} : ∀ {it : It}, it.ok H T ws → 1 ≤ it.wt
  | .sh _, _ => Nat.le_refl _
  | .nd i d c S, ⟨h1, _⟩ => by
    have : 0 < S.length := List.length_pos_iff.2 h1
    exact Nat.mul_pos this (Nat.succ_pos d)
theorem wts_len {H : List Bk} {T : Nat → Prop} {ws : List Nat} : ∀ {its : List It}, (∀ it ∈ its, it.ok H T ws) → its.length ≤ wts its
  | [], _ => Nat.le_refl _
  | it :: its, h => by
    have h1 := It.wt_pos (h it (List.mem_cons_self ..))
    have h2 := wts_len (its := its) fun x hx => h x (List.mem_cons_of_mem _ hx)
    simp only [wts, List.map_cons, List.sum_cons, List.length_cons] at h2 ⊢
    omega
theorem wts_append (a b : List It) : wts (a ++ b) = wts a + wts b := by simp [wts]
theorem wts_perm {a b : List It} (h : a.Perm b) : wts a = wts b := (h.map It.wt).sum_nat
theorem wts_sh (S : List Sh) : wts (S.map It.sh) = S.length := by
  induction S with
  | nil => rfl
  | cons s S ih =>
    simp only [wts, List.map_cons, List.sum_cons, List.length_cons] at ih ⊢
    rw [ih]
    simp only [It.wt]
    omega
theorem shs_sh (kp : Sh → Bool) (S : List Sh) : (S.map It.sh).flatMap (It.shs kp) = S := by
  induction S with
  | nil => rfl
  | cons s S ih =>
    rw [List.map_cons, List.flatMap_cons, ih]
    rfl
/-- Children that were told. -/
def subs (c : Ce) (S : List Sh) (j : Nat) : List Sh := (List.range j).flatMap fun i : Nat => sub' (childOf c (i : Nat)) S
theorem subs_succ {c : Ce} {S : List Sh} {j : Nat} : subs c S (j + 1) = subs c S j ++ sub' (childOf c (j : Nat)) S := by
  unfold subs
  rw [List.range_succ, List.flatMap_append]
  simp
theorem subs_le {c : Ce} {S : List Sh} (h : ∀ s ∈ S, underC c (hm s) = true) : ∀ {j : Nat}, j ≤ 4 → (at' c S).length + (subs c S j).length ≤ S.length := by
  have h4 := part_len h
  have : ∀ {j k : Nat}, j ≤ k → (subs c S j).length ≤ (subs c S k).length := by
    intro j k hjk
    induction hjk with
    | refl => exact Nat.le_refl _
    | step _ ih =>
      rw [subs_succ, List.length_append]
      omega
  intro j hj
  have := this hj
  unfold subs at this ⊢
  omega
end Go.Proofs.YtdeemchhbgomjaaGreat
namespace Go.Proofs.YtdeemchhbgomjaaGreat
set_option linter.all false
open Go.RowKit AM
set_option maxRecDepth 10000
attribute [local simp] aw_skip' aw_region' aw_seq' aw_cond' aw_block' aw_loop' aw_exit' aw_label' aw_ret' aops_nil' aops_cons' aop' aMove aAssign aPick aAlloc aBox aBuild slF aBuildSlice aLoad aLoadOwn aStore aStoreOwn isOwn delR aNilCheck aBin aMakeFunc aFieldAddr aField aIndexOp aIndex partV aIndexAddr aExtract aSliceOp aSlice aShrink aCallOp aCall' aInvoke' aLen aLenMap aDelete aMM aUn aConv aIface aAssert aMakeMap aLookup aMapUpdate aRange aNext aEntry entsOf keyB seekK aMakeSlice lookV aAppend putK layK eval evalV AM.valOf getF putF setF del SV.refers cellsAt rootSV plains shift ldV V.exact V.exactL V.ofValue V.ofPart V.ofCell V.cells V.one Value.oneCell' fitB qSeq qBlock getB afin aret resVs resV resTmps shareF evalS tupV valsS valsV pickV calm calmB lenV useOf feeds shrinks stows looks isT newsV partsV fillV putAt zerosV fitsNil nilB sliceB isEq isNeq awx_skip' awx_region' awx_seq' awx_cond' awx_block' awx_loop' awx_exit' awx_label' awx_ret' xops_nil' xops_cons' xop' xload xcall' addO delO inO putD memB Mix.effB Mix.laysB keysF badK subW weakV zeroRow yops_nil' yops_cons' yop' yload yindex yfield ylen oldO dropO takeO oldL exactB
attribute [local simp] awz_skip' awz_region' awz_seq' awz_cond' awz_block' awz_loop' awz_exit' awz_label' awz_ret' zops_nil' zops_cons' zop' zload zloadOwn zcall' zlenK z0 new0 remF old0 dltB

/-- Which shapes are kept. -/
def KeepOK (kv : V) (ib : Nat) (fb : Option Bk) (kp : Sh → Bool) : Prop := (kv = .sc .nilFunc ∧ ∀ s, kp s = true) ∨
  ∃ g cap, kv = .fn (.func g) [] cap ∧ V.exactL cap = none ∧ ∀ (H : List Bk) (s : Sh), (∀ q, fb = some q → H[ib]? = some q) → AFn Tryz.prog g (s.v :: cap) H fun y H' => y = .sc (.bool (kp s)) ∧ ∃ L, H' = H ++ L
theorem hNilFn {x y : Operand} : binR Tryz.prog .eql 36 x y .nilFunc .nilFunc = some (.bool true) := by kernel_rfl
def SoM (H0 : List Bk) (k r q b m it : Nat) (p : Pt) (l : Int) (kv : V) (kp : Sh → Bool) (ws : List Nat) (hs : List Ent) (es : List Sh) (n : Nat) (F : Fr) (H1 : List Bk) : Prop :=
  ∃ (left done : List Sh) (cu : Option (Value × V)) (hs1 : List Ent), n = left.length ∧ H1[it]? = some (.iter m (left.map entS) cu) ∧ H1[k]? = some (skB r p l kv ws q) ∧ QQ H1 q hs1 ∧ Kp (fun x => x = k ∨ x = q) H0 H1 ∧ H0.length ≤ it ∧
    hs1.Perm (done.map (shEn p l) ++ hs) ∧ (done ++ left.filter kp).Perm (es.filter kp) ∧ done.length + left.length ≤ es.length ∧ F = [(0, .v (.ptr k 0)), (1, .v (.ptr b 0)), (12, .v (.ptr it 0))]
def SoK (H : List Bk) (k r q b m z : Nat) (p : Pt) (l : Int) (kv : V) (kp : Sh → Bool) (ws : List Nat) (hs1 : List Ent) (lf : List Sh) (s : Sh) (F : Fr) (H5 : List Bk) : Prop :=
  ∃ b0 : Bool, b0 = kp s ∧ H5[H.length]? = some (.iter m (lf.map entS) (some (.int .i64 s.id, s.v))) ∧ H5[k]? = some (skB r p l kv ws q) ∧ QQ H5 q hs1 ∧ Kp (fun x => x = k ∨ x = q) H H5 ∧ H5[z]? = some (shB s) ∧
    F = [(0, .v (.ptr k 0)), (1, .v (.ptr b 0)), (12, .v (.ptr H.length 0)), (5, .v (.ptr z 0)), (29, .v (.sc (.bool b0)))]
def KoM (H0 : List Bk) (k r q : Nat) (p : Pt) (l : Int) (kv : V) (kp : Sh → Bool) (ws : List Nat) (hs : List Ent) (c : Ce) (S : List Sh) (d : Nat) (T : Nat → Prop) (ks : Nat → Option Nat) (j : Nat) (F : Fr) (H1 : List Bk) : Prop :=
  ∃ (new : List It) (L : List Nat) (hs1 : List Ent), H1[k]? = some (skB r p l kv (ws ++ L) q) ∧ QQ H1 q hs1 ∧ Kp (fun x => x = k ∨ x = q) H0 H1 ∧ hs1.Perm (new.map (It.ent p l) ++ hs) ∧ (∀ it ∈ new, it.ok H1 T (ws ++ L)) ∧
    (new.flatMap (It.shs kp)).Perm ((at' c S ++ subs c S j).filter kp) ∧ L.length ≤ (subs c S j).length ∧ wts new ≤ (at' c S).length + (subs c S j).length * (d + 1) ∧
    F = [(0, .v (.ptr k 0)), (45, .v (.agg [kidV (ks 0), kidV (ks 1), kidV (ks 2), kidV (ks 3)])), (46, .v (.sc (.int .i64 j)))]
theorem skopen {H : List Bk} {k r q b ib d : Nat} {p : Pt} {l : Int} {kv : V} {ws : List Nat} {hs : List Ent} {c : Ce} {S : List Sh} {I T : Nat → Prop} {kp : Sh → Bool} {fb : Option Bk}
    (hk : H[k]? = some (skB r p l kv ws q)) (hq : QQ H q hs) (hN : Nd H d c S b I) (hc : rightC c = true) (hd : (d : Int) + c.l = 17) (hS : ∀ s ∈ S, underC c (hm s) = true ∧ rightR s.box = true)
    (hT : ∀ x, I x → T x) (hTk : ¬ T k) (hTq : ¬ T q) (hkp : KeepOK kv ib fb kp) (hfb : ∀ x, fb = some x → H[ib]? = some x) (hib : ∀ x, fb = some x → ib ≠ k ∧ ib ≠ q ∧ ∀ n l cu, x ≠ .iter n l cu) (hw : ws.length + S.length ≤ 100000) (hh : hs.length + S.length * 20 ≤ 1000000) :
    AFn Tryz.prog 31 [.ptr k 0, .ptr b 0] H fun y H' => Kp (fun x => x = k ∨ x = q) H H' ∧ ∃ (new : List It) (L : List Nat) (hs' : List Ent), H'[k]? = some (skB r p l kv (ws ++ L) q) ∧ QQ H' q hs' ∧ hs'.Perm (new.map (It.ent p l) ++ hs) ∧
      (∀ it ∈ new, it.ok H' T (ws ++ L)) ∧ (new.flatMap (It.shs kp)).Perm (S.filter kp) ∧ L.length ≤ S.length ∧ wts new ≤ S.length * d := by
  cases d with
  | zero => exact hN.elim
  | succ d =>
  obtain ⟨m, es, ks, J, h1, h2, h3, h4, h5, h6⟩ := id hN
  have hkq : k ≠ q := by
    rintro rfl
    obtain ⟨es, h1, _⟩ := hq
    rw [hk] at h1
    cases h1
  have hbT := hT b ((h4 b).2 (.inl rfl))
  have hmT := hT m ((h4 m).2 (.inr (.inl rfl)))
  have hbk : b ≠ k := fun e => hTk (e ▸ hbT)
  have hbq : b ≠ q := fun e => hTq (e ▸ hbT)
  unfold nodeCs at h1
  refine AFn.intro (fn := Tryz.f31) (by kernel_rfl) rfl (by kernel_rfl) (by simp) ?_
  simp only [Tryz.f31, argsF]
  refine AW.seq (AW.seq (AW.ofx [(4, 11, [0, 5])] mixed (by kernel_rfl) ?_))
  simp [h1, h2]
  refine AW.block (AW.loopW (SoM H k r q b m H.length p l kv kp ws hs es) ⟨es.length, _, ?_, es, [], none, hs, rfl, by simp, hget hk, hq.keep (Kp.refl.app (I := NoB)) (fun h => h), Kp.refl.app, Nat.le_refl _, by simp, by simp, by simp, rfl⟩ ?_)
  · simp [subW, weakV, getF]
  rintro n F H1 ⟨left, done, cu, hs1, rfl, q1, q2, q3, q4, q5, q6, q7, q8, rfl⟩
  refine AW.seq (AW.ofx [(4, 11, [0, 5])] mixed (by kernel_rfl) ?_)
  simp [q1]
  refine ⟨fun e => ?_, fun i kk v s e1 e2 => ?_⟩
  rotate_left
  · obtain ⟨rfl, rfl⟩ : Value.int .i64 s.id = kk ∧ s.v = v := by simpa [entS] using e2
    have hil : i < left.length := (List.getElem?_eq_some_iff.1 e1).1
    have hitl : H.length < H1.length := (List.getElem?_eq_some_iff.1 q1).1
    have hkl : k < H.length := (List.getElem?_eq_some_iff.1 hk).1
    have hql : q < H.length := by
      obtain ⟨es0, hq0, _⟩ := hq
      exact (List.getElem?_eq_some_iff.1 hq0).1
    obtain ⟨H2, eH, p1, p2, p3, p4⟩ : ∃ H2, H2 = H1.set H.length (Bk.iter m ((List.map entS left).eraseIdx i) (some (Value.int IntKind.i64 s.id, s.v))) ∧ H2[H.length]? = some (.iter m ((left.eraseIdx i).map entS) (some (.int .i64 s.id, s.v))) ∧ H2[k]? = some (skB r p l kv ws q) ∧ QQ H2 q hs1 ∧ Kp (fun x => x = k ∨ x = q) H H2 := by
      refine ⟨_, rfl, ?_, ?_, ?_, ?_⟩
      · rw [List.getElem?_set_self hitl]
        have em : ∀ (l : List Sh) (j : Nat), (l.eraseIdx j).map entS = (l.map entS).eraseIdx j := by
          intro l
          induction l with
          | nil => simp
          | cons a l ih => intro j; cases j <;> simp [ih]
        rw [em]
      · rw [List.getElem?_set_ne (by omega)]
        exact q2
      · obtain ⟨es0, hq0, hq1⟩ := q3
        exact ⟨es0, by rw [List.getElem?_set_ne (by omega)]; exact hq0, hq1⟩
      · exact Kp.new ((q4.weak fun x hx => .inl hx).set (.inr (Nat.le_refl _)))
    rw [← eH]
    clear eH q1 q2 q3 q4
    rw [shv_eq] at p1 ⊢
    refine AW.seq (AW.ofx [(4, 11, [0, 5])] mixed (by kernel_rfl) ?_)
    simp
    refine AW.block (AW.seq (AW.ofx [(4, 11, [0, 5])] mixed (by kernel_rfl) ?_))
    simp [p1, setCells, setBlk]
    have p1' := hget (L := [shB s]) p1
    have p2' := hget (L := [shB s]) p2
    have p3' := p3.keep (Kp.refl.app (L := [shB s]) (I := NoB)) (fun h => h)
    have p4' := p4.app (L := [shB s])
    have p5' : (H2 ++ [shB s])[H2.length]? = some (shB s) := by simp
    have hl2 : H.length < H2.length := (List.getElem?_eq_some_iff.1 p1).1
    unfold shB at p1' p2' p3' p4' p5'
    generalize H2 ++ [Bk.cells [.v (.sc (.int .i64 s.id)), .v (.sc (.int .i64 s.box.x0)), .v (.sc (.int .i64 s.box.y0)), .v (.sc (.int .i64 s.box.x1)), .v (.sc (.int .i64 s.box.y1)), .v (.sc (.int .i64 s.lab))]] = H3 at *
    generalize hz : H2.length = z at *
    clear p1 p2 p3 p4
    have hep := herase e1
    have hll : (left.eraseIdx i).length = left.length - 1 := List.length_eraseIdx_of_lt hil
    have hsk := p2'
    unfold skB at hsk
    refine AW.mid (SoK H k r q b m z p l kv kp ws hs1 (left.eraseIdx i) s) (AW.ofx [(4, 11, [0, 5])] mixed (by kernel_rfl) ?_) ?_
    · rcases hkp with ⟨rfl, hkt⟩ | ⟨g, cap, rfl, hkx, hkf⟩
      · simp [hsk, hNilFn]
        refine ⟨_, ?_, true, (hkt s).symm, p1', p2', p3', p4', p5', rfl⟩
        simp [subW, weakV, getF]
      · have hA := hkf H3 s fun x hx => p4' _ _ (by have := hib x hx; omega) (hfb x hx) (hib x hx).2.2
        rw [shv_eq] at hA
        simp [hsk, p5', hkx]
        refine callK.of hA ?_
        rintro y H4 ⟨rfl, L4, rfl⟩
        simp
        refine ⟨_, ?_, kp s, rfl, hget p1', hget p2', p3'.keep (Kp.refl.app (I := NoB)) (fun h => h), p4'.app, hget p5', rfl⟩
        simp [subW, weakV, getF]
    · clear p1' p2' p3' p4' p5' hsk
      rintro F H5 ⟨b0, hb0, p1, p2, p3, p4, p5, rfl⟩
      have hsk := p2
      unfold skB at hsk
      cases b0 with
      | false =>
        refine AW.ofx [(4, 11, [0, 5])] mixed (by kernel_rfl) ?_
        simp
        refine ⟨(left.eraseIdx i).length, by omega, _, ?_, left.eraseIdx i, done, _, hs1, rfl, p1, p2, p3, p4, Nat.le_refl _, q6, ?_, by omega, rfl⟩
        · simp [subW, weakV, getF]
        · have := hep.filter kp
          rw [List.filter_cons, ← hb0] at this
          exact (List.Perm.append_left done this).trans q7
      | true =>
        have hM := skMask p2
        have hlen1 := q6.length_eq
        rw [List.length_append, List.length_map] at hlen1
        have hesS : es.length ≤ S.length := by
          have e1 := h3.length_eq
          have e2 : (at' c S).length ≤ S.length := List.length_filter_le _ _
          omega
        have hF := skfar s.box p l
        unfold Re.v Re.cs at hF
        have hP := zpush p3 (by omega) ⟨farN s.box p l, 1, s.id⟩
        rw [entV_eq] at hP
        have hsh : (⟨farN s.box p l, 1, s.id⟩ : Ent) = shEn p l s := rfl
        unfold shB at p5
        refine AW.ofz [(4, 11, [0, 5])] mixed (by kernel_rfl) ?_
        simp [hsk, p5]
        refine zcallK.look hF rfl rfl hM ?_
        simp [hsk, p5]
        refine callK.of hP ?_
        rintro y H6 ⟨rfl, k6, hq6⟩
        simp
        have hzq : z ≠ q := by
          rintro rfl
          obtain ⟨es0, hq0, _⟩ := p3
          rw [p5] at hq0
          cases hq0
        refine ⟨(left.eraseIdx i).length, by omega, _, ?_, left.eraseIdx i, done ++ [s], _, _, rfl, k6 _ _ (by omega) p1, k6.cells hkq p2, hq6, p4.trans (k6.toKp.weak fun x hx => .inr hx), Nat.le_refl _, ?_, ?_, ?_, rfl⟩
        · simp [subW, weakV, getF]
        · rw [hsh, List.map_append, List.append_assoc]
          refine (put_perm _ _).trans ((q6.cons _).trans ?_)
          exact List.perm_middle.symm
        · have := hep.filter kp
          rw [List.filter_cons, ← hb0, if_pos rfl] at this
          rw [List.append_assoc]
          exact (List.Perm.append_left done this).trans q7
        · rw [List.length_append, List.length_singleton]
          omega
  · subst e
    refine AW.ofx [(4, 11, [0, 5])] mixed (by kernel_rfl) ?_
    simp
    have hU : ∀ x, T x → ¬ (x = k ∨ x = q) := fun x hx e => e.elim (fun e => hTk (e ▸ hx)) (fun e => hTq (e ▸ hx))
    have hb1 := q4.cells (hU b hbT) h1
    have hSl := fun (j : Nat) (hj : j ≤ 4) => subs_le (c := c) (S := S) (j := j) (fun s hs => (hS s hs).1) hj
    have hatl : (at' c S).length ≤ S.length := List.length_filter_le _ _
    have hel := h3.length_eq
    rw [List.filter_nil, List.append_nil] at q7
    have hdn : done.length ≤ (at' c S).length := by
      have := q7.length_eq
      have e2 : (es.filter kp).length ≤ es.length := List.length_filter_le _ _
      omega
    refine AW.seq (AW.ofx [(4, 11, [0, 5])] mixed (by kernel_rfl) ?_)
    simp [hb1]
    refine AW.block (AW.count 4 (KoM H k r q p l kv kp ws hs c S d T ks) ⟨_, ?_, done.map It.sh, [], hs1, by rw [List.append_nil]; exact q2, q3, q4, ?_, ?_, ?_, Nat.zero_le _, ?_, rfl⟩ ?_)
    · simp [subW, weakV, getF]
    · rw [List.map_map]
      exact q6
    · intro it hit
      obtain ⟨s, _, rfl⟩ := List.mem_map.1 hit
      trivial
    · rw [shs_sh]
      have := q7.trans (h3.filter kp)
      simpa [subs] using this
    · rw [wts_sh]
      omega
    clear q1 q2 q3 q4 q5 q6 q7 q8 hb1
    rintro j F H3 hj ⟨new, L, hs2, r1, r2, r3, r4, r5, r6, r7, r8, rfl⟩
    refine AW.seq (AW.ofx [(4, 11, [0, 5])] mixed (by kernel_rfl) ?_)
    by_cases hlt : j < 4
    · have hlt' : (j : Int) < 4 := by omega
      have w1 : IntKind.i64.wrap ((j : Int) + 1) = (j : Int) + 1 := by rw [wrap_i64] <;> omega
      have hget' : [kidV (ks 0), kidV (ks 1), kidV (ks 2), kidV (ks 3)][j]? = some (kidV (ks j)) := by
        rcases (show j = 0 ∨ j = 1 ∨ j = 2 ∨ j = 3 by omega) with rfl | rfl | rfl | rfl <;> rfl
      have hsj := hSl j (by omega)
      have hsj1 := hSl (j + 1) (by omega)
      have hnl := wts_len r5
      have hhl := r4.length_eq
      rw [List.length_append, List.length_map] at hhl
      have hd17 : d + 1 ≤ 17 := by
        have := (rightC_iff.1 hc).1
        omega
      have hmul : (subs c S j).length * (d + 1) ≤ S.length * 17 := Nat.mul_le_mul (by omega) hd17
      have hK : AFn Tryz.prog 29 [.ptr k 0, kidV (ks j)] H3 fun y H' => y = .tup [] ∧ ∃ (new' : List It) (L' : List Nat) (hs3 : List Ent), H'[k]? = some (skB r p l kv (ws ++ L') q) ∧ QQ H' q hs3 ∧ Kp (fun x => x = k ∨ x = q) H H' ∧ hs3.Perm (new'.map (It.ent p l) ++ hs) ∧ (∀ it ∈ new', it.ok H' T (ws ++ L')) ∧
          (new'.flatMap (It.shs kp)).Perm ((at' c S ++ subs c S (j + 1)).filter kp) ∧ L'.length ≤ (subs c S (j + 1)).length ∧ wts new' ≤ (at' c S).length + (subs c S (j + 1)).length * (d + 1) := by
        rcases h6 j hlt with ⟨e, hkj, _⟩ | ⟨hne, b', hkj, hN'⟩
        · rw [hkj]
          refine (sknodeNil k).mono' fun y H' hy => ⟨hy.1, new, L, hs2, ?_⟩
          rw [hy.2, subs_succ, e, List.append_nil]
          exact ⟨r1, r2, r3, r4, r5, r6, r7, r8⟩
        · rw [hkj]
          have hJT : ∀ x, J j x → T x := fun x hx => hT x ((h4 x).2 (.inr (.inr ⟨j, hlt, hx⟩)))
          have hN3 := Nd.keep r3 hN' fun x hx => hU x (hJT x hx)
          have hd0 : 0 < d := by
            cases d with
            | zero => exact hN'.elim
            | succ d => omega
          have hcr : rightC (childOf c (j : Nat)) = true := child_right hc (by omega) (by omega)
          obtain ⟨m', ks', hb'⟩ : ∃ m' ks', H3[b']? = some (.cells (nodeCs (childOf c (j : Nat)) ks' (sub' (childOf c (j : Nat)) S).length m')) := by
            cases d with
            | zero => omega
            | succ d =>
              obtain ⟨m', _, ks', _, g1, _⟩ := hN3
              exact ⟨m', ks', g1⟩
          have hNo := sknode r1 r2 hb' hcr (by rw [List.length_append]; omega) (by omega)
          have hn0 : (sub' (childOf c (j : Nat)) S).length ≠ 0 := fun e => hne (List.length_eq_zero_iff.1 e)
          simp only [if_neg hn0] at hNo
          refine hNo.mono' fun y H' hy => ⟨hy.1, .nd (ws ++ L).length d (childOf c (j : Nat)) (sub' (childOf c (j : Nat)) S) :: new, L ++ [b'], put hs2 (nodeE (childOf c (j : Nat)) p l (ws ++ L).length), ?_⟩
          obtain ⟨k5, g1, g2⟩ := hy.2
          refine ⟨by rw [← List.append_assoc]; exact g1, g2, r3.trans k5, ?_, ?_, ?_, ?_, ?_⟩
          · exact (put_perm _ _).trans (r4.cons _)
          · intro it hit
            rcases List.mem_cons.1 hit with rfl | hit
            · refine ⟨hne, hcr, ?_, fun s hs => ⟨(List.mem_filter.1 hs).2, (hS s (List.mem_filter.1 hs).1).2⟩, b', J j, by rw [← List.append_assoc, List.getElem?_append_right (Nat.le_refl _)]; simp, ?_, hJT⟩
              · show (d : Int) + (c.l + 1) = 17
                omega
              · exact Nd.keep k5 hN3 fun x hx => hU x (hJT x hx)
            · rw [← List.append_assoc]
              exact It.ok_keep k5 hU (r5 it hit)
          · rw [subs_succ, List.flatMap_cons, ← List.append_assoc, List.filter_append]
            exact (List.Perm.append_left _ r6).trans List.perm_append_comm
          · rw [subs_succ, List.length_append, List.length_append, List.length_singleton]
            omega
          · have e1 : (subs c S (j + 1)).length = (subs c S j).length + (sub' (childOf c (j : Nat)) S).length := by rw [subs_succ, List.length_append]
            have e2 : wts (It.nd (ws ++ L).length d (childOf c (j : Nat)) (sub' (childOf c (j : Nat)) S) :: new) = (sub' (childOf c (j : Nat)) S).length * (d + 1) + wts new := by
              simp only [wts, List.map_cons, List.sum_cons, It.wt]
            rw [e1, e2, Nat.add_mul]
            omega
      simp [hlt']
      refine AW.seq (AW.ofx [(4, 11, [0, 5])] mixed (by kernel_rfl) ?_)
      simp
      refine AW.seq (AW.block (AW.ofx [(4, 11, [0, 5])] mixed (by kernel_rfl) ?_))
      simp [hlt', hget']
      refine callK.of hK ?_
      rintro y H4 ⟨rfl, new', L', hs3, g1, g2, g3, g4, g5, g6, g7, g8⟩
      simp
      refine AW.ofx [(4, 11, [0, 5])] mixed (by kernel_rfl) ?_
      simp [w1]
      refine ⟨hlt, _, ?_, new', L', hs3, g1, g2, g3, g4, g5, g6, g7, g8, rfl⟩
      simp [subW, weakV, getF]
    · have hlt' : ¬ (j : Int) < 4 := by omega
      have hj4 : j = 4 := by omega
      subst hj4
      simp [hlt']
      refine AW.ofx [(4, 11, [0, 5])] mixed (by kernel_rfl) ?_
      simp
      have hpp := part_perm fun s hs => (hS s hs).1
      have h44 := hSl 4 (Nat.le_refl _)
      refine ⟨r3, new, L, r1, hs2, r2, r4, r5, r6.trans (hpp.filter kp), by omega, ?_⟩
      have e1 : (at' c S).length ≤ (at' c S).length * (d + 1) := Nat.le_mul_of_pos_right _ (Nat.succ_pos d)
      have e2 : (at' c S).length * (d + 1) + (subs c S 4).length * (d + 1) ≤ S.length * (d + 1) := by
        rw [← Nat.add_mul]
        exact Nat.mul_le_mul_right _ h44
      omega
end Go.Proofs.YtdeemchhbgomjaaGreat
