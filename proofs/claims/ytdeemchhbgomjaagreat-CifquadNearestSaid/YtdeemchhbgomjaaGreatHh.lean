/- The nodes of a quadtree of shapes: searched. -/
import Derived.Test.YtdeemchhbgomjaaGreatHg
import Derived.Test.YtdeemchhbgomjaaGreatBe1
namespace Go.Proofs.YtdeemchhbgomjaaGreat
set_option linter.all false
open Go.RowKit AM
set_option maxRecDepth 10000
attribute [local simp] aw_skip' aw_region' aw_seq' aw_cond' aw_block' aw_loop' aw_exit' aw_label' aw_ret' aops_nil' aops_cons' aop' aMove aAssign aPick aAlloc aBox aBuild slF aBuildSlice aLoad aLoadOwn aStore aStoreOwn isOwn delR aNilCheck aBin aMakeFunc aFieldAddr aField aIndexOp aIndex partV aIndexAddr aExtract aSliceOp aSlice aShrink aCallOp aCall' aInvoke' aLen aLenMap aDelete aMM aUn aConv aIface aAssert aMakeMap aLookup aMapUpdate aRange aNext aEntry entsOf keyB seekK aMakeSlice lookV aAppend putK layK eval evalV AM.valOf getF putF setF del SV.refers cellsAt rootSV plains shift ldV V.exact V.exactL V.ofValue V.ofPart V.ofCell V.cells V.one Value.oneCell' fitB qSeq qBlock getB afin aret resVs resV resTmps shareF evalS tupV valsS valsV pickV calm calmB lenV useOf feeds shrinks stows looks isT newsV partsV fillV putAt zerosV fitsNil nilB sliceB isEq isNeq awx_skip' awx_region' awx_seq' awx_cond' awx_block' awx_loop' awx_exit' awx_label' awx_ret' xops_nil' xops_cons' xop' xload xcall' addO delO inO putD memB Mix.effB Mix.laysB keysF badK subW weakV zeroRow yops_nil' yops_cons' yop' yload yindex yfield ylen oldO dropO takeO oldL exactB

def ownS (zs : List Sh) : SV := .own true 32 zs.length 6 (zs.flatMap Sh.cs)
def slS (zs : List Sh) : V := .sl zs.length 6 (zs.flatMap Sh.cs)
theorem slS_closed (zs : List Sh) : V.closed (slS zs) = true := by simp [slS, V.closed, closed_flat (enc := Sh.cs) (fun _ => rfl)]
theorem ownS_snoc (zs : List Sh) (s : Sh) : ownS (zs ++ [s]) = .own true 32 (zs.length + 1) 6 (zs.flatMap Sh.cs ++ s.cs) := by simp [ownS]
def shB (s : Sh) : Bk := .cells [.v (.sc (.int .i64 s.id)), .v (.sc (.int .i64 s.box.x0)), .v (.sc (.int .i64 s.box.y0)), .v (.sc (.int .i64 s.box.x1)), .v (.sc (.int .i64 s.box.y1)), .v (.sc (.int .i64 s.lab))]
/-- A shape is told: it comes behind those that were told. -/
theorem ntell (s : Sh) (zs : List Sh) (o : Nat) (H : List Bk) (hH : H[o]? = some (.cells [ownS zs])) (hl : zs.length < 1000000) :
    AFn Tryz.prog 61 [s.v, .ptr o 0] H fun y H' => H' = (H ++ [shB s]).set o (.cells [ownS (zs ++ [s])]) := by
  unfold Sh.v Sh.cs
  have ho : o < H.length := (List.getElem?_eq_some_iff.1 hH).1
  refine AFn.intro (fn := Tryz.f61) (by kernel_rfl) rfl (by kernel_rfl) (by simp) ?_
  simp only [Tryz.f61, argsF]
  refine AW.seq (AW.ofx [] mixed (by kernel_rfl) ?_)
  simp
  have h1 := hget (L := [shB s]) hH
  have h2 : (H ++ [shB s])[H.length]? = some (shB s) := by simp
  unfold shB at h1 h2 ⊢
  generalize H ++ [Bk.cells [.v (.sc (.int .i64 s.id)), .v (.sc (.int .i64 s.box.x0)), .v (.sc (.int .i64 s.box.y0)), .v (.sc (.int .i64 s.box.x1)), .v (.sc (.int .i64 s.box.y1)), .v (.sc (.int .i64 s.lab))]] = H0 at *
  generalize H.length = n at *
  have ho2 : o < H0.length := (List.getElem?_eq_some_iff.1 h1).1
  have g2 : ∀ k : Bk, (H0.set o k)[n]? = H0[n]? := fun k => List.getElem?_set_ne (by omega)
  have g1 : ∀ k : Bk, (H0.set o k)[o]? = some k := fun k => List.getElem?_set_self ho2
  unfold ownS at h1
  have hS := fun (x : SV) => setBlk_eq' (j := 0) (x := x) h1
  have hS2 := fun (x y : SV) => setBlk_eq' (j := 0) (x := y) (g1 (.cells [x]))
  refine AW.ofx [] mixed (by kernel_rfl) ?_
  simp [h1, h2, hS, g1, g2, hS2, List.set_set]
  refine ⟨by omega, ?_⟩
  rw [ownS_snoc]
  rfl
/-- What is below a node is what has its home there, and what is below its children. -/
theorem part_perm {c : Ce} : ∀ {S : List Sh}, (∀ s ∈ S, underC c (hm s) = true) → (at' c S ++ (List.range 4).flatMap fun i : Nat => sub' (childOf c (i : Nat)) S).Perm S
  | [], _ => .nil
  | s :: S, h => by
    have ih := part_perm (S := S) fun t ht => h t (by simp [ht])
    have hu := h s (by simp)
    rw [List.perm_iff_count] at ih ⊢
    intro x
    have ih := ih x
    simp only [show List.range 4 = [0, 1, 2, 3] from rfl, List.flatMap_cons, List.flatMap_nil, List.append_nil, List.count_append] at ih ⊢
    by_cases hs : hm s = c
    · simp only [at_cons, if_pos hs, sub_cons, not_under_child (i := 0) (by decide) hs, not_under_child (i := 1) (by decide) hs, not_under_child (i := 2) (by decide) hs, not_under_child (i := 3) (by decide) hs, Bool.false_eq_true, if_false, List.count_cons]
      omega
    · obtain ⟨i, hi, hw⟩ := way_nat c (hm s)
      have hc : ∀ j : Nat, j < 4 → (underC (childOf c (j : Nat)) (hm s) = true ↔ i = j) := fun j hj => by
        rw [under_child_iff hj hu (Ne.symm hs), hw]
        omega
      have e : ∀ j : Nat, j < 4 → List.count x (sub' (childOf c (j : Nat)) (s :: S)) = List.count x (sub' (childOf c (j : Nat)) S) + if i = j then (if s == x then 1 else 0) else 0 := fun j hj => by
        rw [sub_cons]
        by_cases hij : i = j
        · rw [if_pos ((hc j hj).2 hij), if_pos hij, List.count_cons]
        · rw [if_neg (fun h => hij ((hc j hj).1 h)), if_neg hij, Nat.add_zero]
      rw [at_cons, if_neg hs, e 0 (by decide), e 1 (by decide), e 2 (by decide), e 3 (by decide), List.count_cons]
      generalize List.count x (sub' (childOf c ((0 : Nat) : Int)) S) = c0 at ih ⊢
      generalize List.count x (sub' (childOf c ((1 : Nat) : Int)) S) = c1 at ih ⊢
      generalize List.count x (sub' (childOf c ((2 : Nat) : Int)) S) = c2 at ih ⊢
      generalize List.count x (sub' (childOf c ((3 : Nat) : Int)) S) = c3 at ih ⊢
      generalize (if s == x then 1 else 0) = q at ih ⊢
      clear hc e
      rcases (show i = 0 ∨ i = 1 ∨ i = 2 ∨ i = 3 by omega) with rfl | rfl | rfl | rfl <;> simp <;> omega
theorem part_len {c : Ce} {S : List Sh} (h : ∀ s ∈ S, underC c (hm s) = true) : (at' c S).length + ((List.range 4).flatMap fun i : Nat => sub' (childOf c (i : Nat)) S).length = S.length := by
  rw [← (part_perm h).length_eq, List.length_append]
/-- What a function says of a box, whatever else lies about. -/
def HoldsOK (g : FuncId) (first cap : List V) (ir : Nat) (fb : Option Bk) (h : Re → Bool) : Prop := ∀ (H : List Bk) (b : Re), (∀ q, fb = some q → H[ir]? = some q) → AFn Tryz.prog g (first ++ b.v :: cap) H fun y H' => y = .sc (.bool (h b)) ∧ ∃ L, H' = H ++ L
def tellV (o : Nat) : V := .fn (.func 61) [] [.ptr o 0]
theorem nsearchNil (r : Re) (fv tv : V) (H : List Bk) : AFn Tryz.prog 60 [.sc (.pointer none), r.v, fv, tv] H fun y H' => H' = H ++ [reB r] := by
  unfold Re.v Re.cs
  refine AFn.intro (fn := Tryz.f60) (by kernel_rfl) rfl (by kernel_rfl) (by simp) ?_
  simp only [Tryz.f60, argsF]
  refine AW.seq (AW.ofx [] mixed (by kernel_rfl) ?_)
  simp
  refine AW.seq (AW.ofx [] mixed (by kernel_rfl) ?_)
  simp [hNilN, reB]
def hf (h : Re → Bool) (S : List Sh) : List Sh := S.filter fun s => h s.box
def SeM (H0 : List Bk) (b m o it rb : Nat) (r : Re) (es : List Sh) (h : Re → Bool) (zs : List Sh) (fv : V) (n : Nat) (F : Fr) (H1 : List Bk) : Prop :=
  ∃ (left L : List Sh) (cu : Option (Value × V)), n = left.length ∧ H1[it]? = some (.iter m (left.map entS) cu) ∧ H1[o]? = some (.cells [ownS (zs ++ L)]) ∧ Kp (fun x => x = o) H0 H1 ∧ H0.length ≤ it ∧ H1[rb]? = some (reB r) ∧ H0.length ≤ rb ∧
    (L ++ hf h left).Perm (hf h es) ∧ L.length + left.length ≤ es.length ∧ F = [(0, .v (.ptr b 0)), (2, .v fv), (3, .v (tellV o)), (5, .v (.ptr rb 0)), (39, .v (.ptr it 0))]
theorem hf_cons {h : Re → Bool} {s : Sh} {S : List Sh} : hf h (s :: S) = if h s.box = true then s :: hf h S else hf h S := by
  unfold hf
  rw [List.filter_cons]
theorem herase {l : List Sh} : ∀ {i : Nat} {s : Sh}, l[i]? = some s → (s :: l.eraseIdx i).Perm l := by
  induction l with
  | nil => intro i s h; simp at h
  | cons a l ih =>
    intro i s h
    cases i with
    | zero =>
      simp at h
      subst h
      simp
    | succ i =>
      rw [List.getElem?_cons_succ] at h
      rw [List.eraseIdx_cons_succ]
      exact (List.Perm.swap a s _).trans ((ih h).cons a)
theorem hf_perm {h : Re → Bool} {S S' : List Sh} (hp : S.Perm S') : (hf h S).Perm (hf h S') := hp.filter _
/-- The rounds over the children. -/
def KiM (H0 : List Bk) (c : Ce) (S : List Sh) (k : Nat → Option Nat) (o rb : Nat) (r : Re) (h : Re → Bool) (zs : List Sh) (fv : V) (j : Nat) (F : Fr) (H1 : List Bk) : Prop :=
  ∃ L : List Sh, H1[o]? = some (.cells [ownS (zs ++ L)]) ∧ Kp (fun x => x = o) H0 H1 ∧ H1[rb]? = some (reB r) ∧
    L.Perm (hf h (at' c S ++ (List.range j).flatMap fun i : Nat => sub' (childOf c (i : Nat)) S)) ∧ F = [(2, .v fv), (3, .v (tellV o)), (5, .v (.ptr rb 0)), (54, .v (.agg [kidV (k 0), kidV (k 1), kidV (k 2), kidV (k 3)])), (55, .v (.sc (.int .i64 j)))]
theorem nsearch {g : FuncId} {first cap : List V} {ir : Nat} {fb : Option Bk} {h : Re → Bool} (hH : HoldsOK g first cap ir fb h) (o : Nat) (r : Re) (hr : rightR r = true) (hio : ∀ q, fb = some q → ir ≠ o ∧ ∀ n l cu, q ≠ .iter n l cu) (hmt : ∀ b, rightR b = true → h b = true → meetsR b r = true) :
    ∀ (d : Nat) (c : Ce) (H : List Bk) (S : List Sh) (b : Nat) (I : Nat → Prop) (zs : List Sh), Nd H d c S b I → rightC c = true → (d : Int) + c.l = 17 → (∀ s ∈ S, underC c (hm s) = true ∧ rightR s.box = true) → ¬ I o → H[o]? = some (.cells [ownS zs]) → (∀ q, fb = some q → H[ir]? = some q) → zs.length + S.length < 1000000 →
    AFn Tryz.prog 60 [.ptr b 0, r.v, .fn (.func g) first cap, tellV o] H fun y H' => ∃ L, L.Perm (hf h S) ∧ H'[o]? = some (.cells [ownS (zs ++ L)]) ∧ Kp (fun x => x = o) H H' := by
  intro d
  induction d with
  | zero => intro c H S b I zs hN; exact hN.elim
  | succ d ih =>
    intro c H S b I zs hN hc hd hS hIo hHo hir hlen
    obtain ⟨m, es, k, J, h1, h2, h3, h4, h5, h6⟩ := id hN
    unfold nodeCs at h1
    have hbl := (List.getElem?_eq_some_iff.1 h1).1
    have hml := (List.getElem?_eq_some_iff.1 h2).1
    have hol := (List.getElem?_eq_some_iff.1 hHo).1
    have hbm : b ≠ m := by rintro rfl; rw [h1] at h2; cases h2
    have h1' := fun L => hget (L := L) h1
    have h2' := fun L => hget (L := L) h2
    have hob : o ≠ b := fun e => hIo (e ▸ (h4 b).2 (.inl rfl))
    have hom : o ≠ m := fun e => hIo (e ▸ (h4 m).2 (.inr (.inl rfl)))
    have hB := cBox c
    have hbx : boxR c = (boxOf c, true) := by simp [boxR, hc]
    rw [hbx] at hB
    have hM := gMeets (boxOf c) r
    have hcr := rightC_iff.1 hc
    unfold Re.v Re.cs at hM hB ⊢
    unfold Ce.v Ce.cs at hB
    refine AFn.intro (fn := Tryz.f60) (by kernel_rfl) rfl (by kernel_rfl) (by simp) ?_
    simp only [Tryz.f60, argsF]
    refine AW.seq (AW.ofx [] mixed (by kernel_rfl) ?_)
    simp
    refine AW.seq (AW.ofx [] mixed (by kernel_rfl) ?_)
    by_cases hz : S = []
    · subst hz
      simp [h1']
      exact ⟨[], by simp [hf], by simpa using hget hHo, Kp.refl.app⟩
    · have hz2 : ((S.length : Int) == 0) = false := by simpa using hz
      simp [h1', hz2]
      refine AW.seq (AW.seq (AW.ofx [] mixed (by kernel_rfl) ?_))
      simp [h1']
      refine callK.pure hB rfl rfl ?_
      simp [h1', setCells, setBlk]
      refine AW.ofx [] mixed (by kernel_rfl) ?_
      simp
      refine callK.pure hM rfl rfl ?_
      cases hme : meetsR (boxOf c) r with
      | false =>
        simp
        refine ⟨[], ?_, by simpa using hget hHo, Kp.refl.app⟩
        have : hf h S = [] := List.filter_eq_nil_iff.2 fun s hs e => by
          have h7 := rightR_iff.1 (hS s hs).2
          have h8 := hmt s.box (hS s hs).2 e
          have h9 := home_in (hS s hs).2 hcr.1.1 (hS s hs).1
          have h10 := box_right hc
          simp only [meetsR, hr, h10, (hS s hs).2, Bool.true_and, decide_eq_true_iff, decide_eq_false_iff_not] at h8 hme
          omega
        rw [this]
      | true =>
        simp
        refine AW.seq (AW.seq (AW.ofx [] mixed (by kernel_rfl) ?_))
        simp [h1', h2']
        refine AW.block (AW.loopW (SeM H b m o (H.length + 2) H.length r es h zs (.fn (.func g) first cap)) ⟨es.length, _, ?_, es, [], none, rfl, by simp, by simpa using hget hHo, Kp.refl.app, by omega, by simp [reB], Nat.le_refl _, by simp, by simp, rfl⟩ ?_)
        · simp [subW, weakV, getF]
        rintro n F H1 ⟨left, L, cu, rfl, q1, q2, q3, q4, q5, q6, q7, q8, rfl⟩
        refine AW.seq (AW.ofx [] mixed (by kernel_rfl) ?_)
        simp [q1]
        refine ⟨fun e => ?_, fun i kk v s e1 e2 => ?_⟩
        rotate_left
        · obtain ⟨rfl, rfl⟩ : Value.int .i64 s.id = kk ∧ s.v = v := by simpa [entS] using e2
          have hil : i < left.length := (List.getElem?_eq_some_iff.1 e1).1
          have hitl : H.length + 2 < H1.length := (List.getElem?_eq_some_iff.1 q1).1
          obtain ⟨H2, eH, p1, p2, p3, p4, p5⟩ : ∃ H2, H2 = H1.set (H.length + 2) (Bk.iter m ((List.map entS left).eraseIdx i) (some (Value.int IntKind.i64 s.id, s.v))) ∧ H2[H.length + 2]? = some (.iter m ((left.eraseIdx i).map entS) (some (.int .i64 s.id, s.v))) ∧ H2[o]? = some (.cells [ownS (zs ++ L)]) ∧ H2[H.length]? = some (reB r) ∧ Kp (fun x => x = o) H H2 ∧ H2.length = H1.length := by
            refine ⟨_, rfl, ?_, ?_, ?_, ?_, by simp⟩
            · rw [List.getElem?_set_self hitl]
              have em : ∀ (l : List Sh) (j : Nat), (l.eraseIdx j).map entS = (l.map entS).eraseIdx j := by
                intro l
                induction l with
                | nil => simp
                | cons a l ih => intro j; cases j <;> simp [ih]
              rw [em]
            · rw [List.getElem?_set_ne (by omega)]
              exact q2
            · rw [List.getElem?_set_ne (by omega)]
              exact q5
            · exact Kp.new ((q3.weak fun x hx => .inl hx).set (.inr (by omega)))
          rw [← eH]
          clear eH q1 q2 q3 q5
          unfold Sh.v Sh.cs at p1 ⊢
          refine AW.seq (AW.ofx [] mixed (by kernel_rfl) ?_)
          simp
          refine AW.block (AW.seq (AW.ofx [] mixed (by kernel_rfl) ?_))
          simp [p1, setCells, setBlk]
          have hA := hH (H2 ++ [shB s]) s.box fun q hq => by
            have := hio q hq
            exact hget (p4 _ _ this.1 (hir q hq) this.2)
          unfold Re.v Re.cs shB at hA
          refine AW.seq (AW.ofx [] mixed (by kernel_rfl) ?_)
          simp
          refine callK.of hA ?_
          rintro y H3 ⟨rfl, L3, rfl⟩
          have hep := herase e1
          have hll : (left.eraseIdx i).length = left.length - 1 := List.length_eraseIdx_of_lt hil
          cases hb : h s.box with
          | false =>
            simp
            refine AW.ofx [] mixed (by kernel_rfl) ?_
            simp
            refine ⟨(left.eraseIdx i).length, by omega, _, ?_, left.eraseIdx i, L, _, rfl, hget p1, hget p2, p4.app, by omega, hget p3, Nat.le_refl _, ?_, by omega, rfl⟩
            · simp [subW, weakV, getF]
            · have := hf_perm (h := h) hep
              rw [hf_cons, hb] at this
              exact (List.Perm.append_left L this).trans q7
          | true =>
            simp
            have hT := ntell s (zs ++ L) o (H2 ++ shB s :: L3) (hget p2) (by
              have := h3.length_eq
              have h9 := part_len fun s hs => (hS s hs).1
              rw [List.length_append]
              omega)
            unfold shB Sh.v Sh.cs at hT
            refine AW.ofx [] mixed (by kernel_rfl) ?_
            simp [tellV]
            refine callK.of hT ?_
            rintro y H4 rfl
            simp
            have hb2 : H.length + 2 < (H2 ++ shB s :: L3 ++ [shB s]).length := by simp; omega
            refine ⟨(left.eraseIdx i).length, by omega, _, ?_, left.eraseIdx i, L ++ [s], some (.int .i64 s.id, s.v), rfl, ?_, ?_, ?_, by omega, ?_, Nat.le_refl _, ?_, ?_, rfl⟩
            rotate_left
            · rw [List.getElem?_set_ne (by omega)]
              exact hget p1
            · rw [List.getElem?_set_self (by simp; omega)]
            · exact (p4.app).set rfl
            · rw [List.getElem?_set_ne (by omega)]
              exact hget p3
            · have := hf_perm (h := h) hep
              rw [hf_cons, hb, if_pos rfl] at this
              rw [List.append_assoc]
              exact (List.Perm.append_left L this).trans q7
            · rw [List.length_append, List.length_singleton]; omega
            · simp [subW, weakV, getF, tellV]
        · subst e
          refine AW.ofx [] mixed (by kernel_rfl) ?_
          simp
          have hb1 := q3.cells (Ne.symm hob) h1
          refine AW.seq (AW.ofx [] mixed (by kernel_rfl) ?_)
          simp [hb1]
          have hp9 := part_perm fun s hs => (hS s hs).1
          have hl9 := part_len fun s hs => (hS s hs).1
          refine AW.block (AW.count 4 (KiM H c S k o H.length r h zs (.fn (.func g) first cap)) ⟨_, ?_, L, q2, q3, q5, ?_, rfl⟩ ?_)
          · simp [subW, weakV, getF]
          · rw [hf, List.filter_nil, List.append_nil] at q7
            simp only [List.range_zero, List.flatMap_nil, List.append_nil]
            exact q7.trans (hf_perm h3)
          clear hb1 q1 q2 q3 q5 q7 q8
          rintro j F H3 hj ⟨L2, r1, r2, r3, r4, rfl⟩
          refine AW.seq (AW.ofx [] mixed (by kernel_rfl) ?_)
          by_cases hlt : j < 4
          · have hlt' : (j : Int) < 4 := by omega
            have w1 : IntKind.i64.wrap ((j : Int) + 1) = (j : Int) + 1 := by rw [wrap_i64] <;> omega
            have hget' : [kidV (k 0), kidV (k 1), kidV (k 2), kidV (k 3)][j]? = some (kidV (k j)) := by
              rcases (show j = 0 ∨ j = 1 ∨ j = 2 ∨ j = 3 by omega) with rfl | rfl | rfl | rfl <;> rfl
            have hK : AFn Tryz.prog 60 [kidV (k j), r.v, .fn (.func g) first cap, tellV o] H3 fun y H' => ∃ L', L'.Perm (hf h (sub' (childOf c (j : Nat)) S)) ∧ H'[o]? = some (.cells [ownS (zs ++ L2 ++ L')]) ∧ Kp (fun x => x = o) H3 H' := by
              rcases h6 j hlt with ⟨e, hkj, _⟩ | ⟨_, b', hkj, hN'⟩
              · rw [hkj, e]
                exact (nsearchNil r _ _ H3).mono' fun y H' hy => ⟨[], .nil, by rw [hy, List.append_nil]; exact hget r1, by rw [hy]; exact Kp.refl.app⟩
              · rw [hkj]
                have hJo : ∀ x, J j x → ¬ x = o := fun x hx e => hIo (e ▸ (h4 x).2 (.inr (.inr ⟨j, hlt, hx⟩)))
                refine ih (childOf c (j : Nat)) H3 _ b' (J j) (zs ++ L2) (Nd.keep r2 hN' hJo) (child_right hc ?_ (by omega)) ?_ (fun s hs => ⟨(List.mem_filter.1 hs).2, (hS s (List.mem_filter.1 hs).1).2⟩) (fun e => hJo o e rfl) r1 (fun q hq => r2 _ _ (hio q hq).1 (hir q hq) (hio q hq).2) ?_
                · have hd1 : 0 < d := by
                    cases d with
                    | zero => exact hN'.elim
                    | succ d => omega
                  omega
                · show (d : Int) + (c.l + 1) = 17
                  omega
                · have e1 := r4.length_eq
                  have e2 : (hf h (at' c S ++ (List.range j).flatMap fun i : Nat => sub' (childOf c (i : Nat)) S)).length ≤ _ := List.length_filter_le _ _
                  have e3 := hp9.length_eq
                  rw [List.length_append] at e2 e3 ⊢
                  have e4 : ((List.range j).flatMap fun i : Nat => sub' (childOf c (i : Nat)) S).length + (sub' (childOf c (j : Nat)) S).length ≤ ((List.range 4).flatMap fun i : Nat => sub' (childOf c (i : Nat)) S).length := by
                    rcases (show j = 0 ∨ j = 1 ∨ j = 2 ∨ j = 3 by omega) with rfl | rfl | rfl | rfl <;> simp [show List.range 4 = [0, 1, 2, 3] from rfl, show List.range 3 = [0, 1, 2] from rfl, show List.range 2 = [0, 1] from rfl, show List.range 1 = [0] from rfl] <;> omega
                  omega
            simp [hlt']
            unfold reB at r3
            unfold Re.v Re.cs tellV at hK
            refine AW.seq (AW.ofx [] mixed (by kernel_rfl) ?_)
            simp
            refine AW.seq (AW.block (AW.ofx [] mixed (by kernel_rfl) ?_))
            simp [hlt', hget', r3, tellV]
            refine callK.of hK ?_
            rintro y H4 ⟨L3, s1, s2, s3⟩
            simp
            refine AW.ofx [] mixed (by kernel_rfl) ?_
            simp [w1]
            refine ⟨hlt, _, ?_, L2 ++ L3, by rw [← List.append_assoc]; exact s2, r2.trans s3, s3.cells (by omega) r3, ?_, rfl⟩
            · simp [subW, weakV, getF, tellV]
            · rw [List.range_succ, List.flatMap_append, ← List.append_assoc]
              unfold hf at r4 s1 ⊢
              rw [List.filter_append]
              simpa using r4.append s1
          · have hlt' : ¬ (j : Int) < 4 := by omega
            have hj4 : j = 4 := by omega
            simp [hlt']
            refine AW.ofx [] mixed (by kernel_rfl) ?_
            simp
            rw [hj4] at r4
            exact ⟨L2, r4.trans (hf_perm hp9), r1, r2⟩
end Go.Proofs.YtdeemchhbgomjaaGreat
