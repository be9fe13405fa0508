/- The nodes of a quadtree of shapes: made, put into, taken from. -/
import Derived.Test.YtdeemchhbgomjaaGreatHd
namespace Go.Proofs.YtdeemchhbgomjaaGreat
set_option linter.all false
open Go.RowKit AM
set_option maxRecDepth 10000
attribute [local simp] aw_skip' aw_region' aw_seq' aw_cond' aw_block' aw_loop' aw_exit' aw_label' aw_ret' aops_nil' aops_cons' aop' aMove aAssign aPick aAlloc aBox aBuild slF aBuildSlice aLoad aLoadOwn aStore aStoreOwn isOwn delR aNilCheck aBin aMakeFunc aFieldAddr aField aIndexOp aIndex partV aIndexAddr aExtract aSliceOp aSlice aShrink aCallOp aCall' aInvoke' aLen aLenMap aDelete aMM aUn aConv aIface aAssert aMakeMap aLookup aMapUpdate aRange aNext aEntry entsOf keyB seekK aMakeSlice lookV aAppend putK layK eval evalV AM.valOf getF putF setF del SV.refers cellsAt rootSV plains shift ldV V.exact V.exactL V.ofValue V.ofPart V.ofCell V.cells V.one Value.oneCell' fitB qSeq qBlock getB afin aret resVs resV resTmps shareF evalS tupV valsS valsV pickV calm calmB lenV useOf feeds shrinks stows looks isT newsV partsV fillV putAt zerosV fitsNil nilB sliceB isEq isNeq awx_skip' awx_region' awx_seq' awx_cond' awx_block' awx_loop' awx_exit' awx_label' awx_ret' xops_nil' xops_cons' xop' xload xcall' addO delO inO putD memB Mix.effB Mix.laysB keysF badK subW weakV zeroRow yops_nil' yops_cons' yop' yload yindex yfield ylen oldO dropO takeO oldL exactB

theorem hNilN {x y : Operand} : binR Tryz.prog .eql 63 x y (.pointer none) (.pointer none) = some (.bool true) := by kernel_rfl
theorem hNilN' {x y : Operand} : binR Tryz.prog .neq 63 x y (.pointer none) (.pointer none) = some (.bool false) := by kernel_rfl
theorem nfresh (c : Ce) (H : List Bk) : AFn Tryz.prog 49 [c.v] H fun y H' => y = .ptr (H.length + 2) 0 ∧ H' = H ++ [ceB c, .map [], .cells (nodeCs c (fun _ => none) 0 (H.length + 1))] := by
  unfold Ce.v Ce.cs
  refine AFn.intro (fn := Tryz.f49) (by kernel_rfl) rfl (by kernel_rfl) (by simp) (AW.ofx [] mixed (by kernel_rfl) ?_)
  simp only [Tryz.f49, argsF]
  simp [setCells, setBlk, nodeCs, kidV, ceB]
/-- What stands ahead of the call for a child. -/
def PutM (H : List Bk) (d : Nat) (c h : Ce) (S : List Sh) (s : Sh) (b m i : Nat) (es : List Sh) (k : Nat → Option Nat) (J : Nat → Nat → Prop) (F : Fr) (H3 : List Bk) : Prop :=
  ∃ b' J', H3[b]? = some (.cells (nodeCs c (updN k i (some b')) (S.length + 1) m)) ∧ H3[m]? = some (.map (es.map entS)) ∧ H3[H.length]? = some (ceB h) ∧ H3[H.length + 1]? = some (.cells (s.cs.map .v)) ∧
    Nd H3 d (childOf c (i : Nat)) (sub' (childOf c (i : Nat)) S) b' J' ∧ (∀ x, J' x → J i x ∨ H.length ≤ x) ∧ Kp (fun x => x = b) H H3 ∧ H.length ≤ H3.length ∧
    F = [(0, .v (.ptr b 0)), (4, .v (.ptr H.length 0)), (5, .v (.ptr (H.length + 1) 0)), (6, .v (.sc (.int .i64 i)))]
theorem nput : ∀ (d : Nat) (c : Ce) (H : List Bk) (S : List Sh) (b : Nat) (I : Nat → Prop) (s : Sh), Nd H d c S b I → rightC c = true → (d : Int) + c.l = 17 → underC c (hm s) = true → rightC (hm s) = true → (∀ t ∈ S, t.id ≠ s.id) → S.length < 1000000 →
    AFn Tryz.prog 37 [.ptr b 0, (hm s).v, s.v] H fun y H' => Kp I H H' ∧ ∃ I', Nd H' d c (s :: S) b I' ∧ ∀ x, I' x → I x ∨ H.length ≤ x := by
  intro d
  induction d with
  | zero => intro c H S b I s h; exact h.elim
  | succ d ih =>
    intro c H S b I s hN hc hd hu hr hid hlen
    obtain ⟨m, es, k, J, h1, h2, h3, h4, h5, h6⟩ := id hN
    generalize hh : hm s = h at *
    unfold Ce.v Ce.cs Sh.v Sh.cs
    unfold nodeCs at h1
    have w1 : IntKind.i64.wrap ((S.length : Int) + 1) = (S.length : Int) + 1 := by rw [wrap_i64] <;> omega
    have h1' := fun L => hget (L := L) h1
    refine AFn.intro (fn := Tryz.f37) (by kernel_rfl) rfl (by kernel_rfl) (by simp) ?_
    simp only [Tryz.f37, argsF]
    refine AW.seq (AW.ofx [(7, 6, [0, 6, 7])] mixed (by kernel_rfl) ?_)
    simp
    refine AW.seq (AW.ofx [(7, 6, [0, 6, 7])] mixed (by kernel_rfl) ?_)
    simp [h1', w1]
    have hbl := (List.getElem?_eq_some_iff.1 h1).1
    have hml := (List.getElem?_eq_some_iff.1 h2).1
    have hbm : b ≠ m := by rintro rfl; rw [h1] at h2; cases h2
    obtain ⟨H1, e1, g1, g2, g3, g4, g5, g6⟩ : ∃ H1, H1 = setCells (H ++ [Bk.cells [.v (.sc (.int .i64 h.l)), .v (.sc (.int .i64 h.x)), .v (.sc (.int .i64 h.y))], Bk.cells [.v (.sc (.int .i64 s.id)), .v (.sc (.int .i64 s.box.x0)), .v (.sc (.int .i64 s.box.y0)), .v (.sc (.int .i64 s.box.x1)), .v (.sc (.int .i64 s.box.y1)), .v (.sc (.int .i64 s.lab))]]) b 7 [.sc (.int .i64 (S.length + 1))] ∧
        H1[b]? = some (.cells [.v (.sc (.int .i64 c.l)), .v (.sc (.int .i64 c.x)), .v (.sc (.int .i64 c.y)), .v (kidV (k 0)), .v (kidV (k 1)), .v (kidV (k 2)), .v (kidV (k 3)), .v (.sc (.int .i64 (S.length + 1))), .v (.map m)]) ∧ H1[m]? = some (.map (es.map entS)) ∧
        H1[H.length]? = some (.cells [.v (.sc (.int .i64 h.l)), .v (.sc (.int .i64 h.x)), .v (.sc (.int .i64 h.y))]) ∧ H1[H.length + 1]? = some (.cells [.v (.sc (.int .i64 s.id)), .v (.sc (.int .i64 s.box.x0)), .v (.sc (.int .i64 s.box.y0)), .v (.sc (.int .i64 s.box.x1)), .v (.sc (.int .i64 s.box.y1)), .v (.sc (.int .i64 s.lab))]) ∧
        H1.length = H.length + 2 ∧ Kp (fun x => x = b) H H1 := by
      refine ⟨_, rfl, ?_⟩
      simp only [setCells, setBlk_eq' (h1' _)]
      refine ⟨?_, ?_, ?_, ?_, by simp, (Kp.refl.app).set rfl⟩
      · rw [List.getElem?_set_self (by simp; omega)]
        simp
      · rw [List.getElem?_set_ne hbm]
        exact hget h2
      · rw [List.getElem?_set_ne (by omega)]
        simp
      · rw [List.getElem?_set_ne (by omega)]
        simp
    rw [← e1]
    clear e1
    refine AW.seq (AW.ofx [(7, 6, [0, 6, 7])] mixed (by kernel_rfl) ?_)
    by_cases hch : c = h
    · have hf : sfind s.id es 0 = none := sfind_none fun e he => hid e (List.mem_filter.1 (h3.mem_iff.1 he)).1
      simp [g1, g2, g3, g4, hEq2, hGCe, hch, mfind_s, hf]
      have hk2 : Kp (fun x => x = b ∨ x = m) H ((killIt m H1).set m (.map (es.map entS ++ [entS s]))) := (g6.weak fun x hx => .inl hx).killed (.inr rfl)
      refine ⟨hk2.weak fun x hx => (h4 x).2 (hx.imp id .inl), I, ?_, fun x hx => .inl hx⟩
      rw [← hch]
      refine Nd.here ?_ ?_ h3 h4 h5 h6 hk2 (hh.trans hch.symm)
      · rw [List.getElem?_set_ne (Ne.symm hbm)]
        refine hkill g1 fun _ _ _ e => by cases e
      · rw [List.getElem?_set_self (by rw [hkill_len, g5]; omega)]
        simp [entS, Sh.v, Sh.cs]
    · have hlt := under_lt hu hch
      have hcr := rightC_iff.1 hc
      have hhr := rightC_iff.1 hr
      obtain ⟨i, hi, hw⟩ := way_nat c h
      have hW := cWay c h hr hcr.1.1 hlt
      rw [hw] at hW
      unfold Ce.v Ce.cs at hW
      have hC := cChild c (i : Nat)
      rw [child_box hc (by omega), if_pos (by omega)] at hC
      have hccr := child_right (c := c) (i := (i : Nat)) hc (by omega) (by omega)
      have hccl : (childOf c (i : Nat)).l = c.l + 1 := rfl
      have hucc : underC (childOf c (i : Nat)) h = true := (under_child_iff hi hu hch).2 hw
      simp [g1, g3, hEq2, hGCe, hch]
      refine AW.seq (AW.ofx [(7, 6, [0, 6, 7])] mixed (by kernel_rfl) ?_)
      simp [g1, g3]
      refine callK.pure hW rfl rfl ?_
      simp [g1, g3]
      refine AW.mid (PutM H d c h S s b m i es k J) (AW.ofx [(7, 6, [0, 6, 7])] mixed (by kernel_rfl) ?_) ?_
      · cases hki : k i with
        | none =>
          generalize hcc : childOf c (i : Nat) = cc at *
          have hF := nfresh cc (H1 ++ [ceB cc])
          have hb1 : b < H1.length := (List.getElem?_eq_some_iff.1 g1).1
          have hm1 : m < H1.length := (List.getElem?_eq_some_iff.1 g2).1
          have hSi : sub' cc S = [] := by
            rcases h6 i hi with ⟨e, _, _⟩ | ⟨_, b2, e, _⟩
            · rw [hcc] at e; exact e
            · rw [hki] at e; cases e
          have hPut : PutM H d c h S s b m i es k J [(0, .v (.ptr b 0)), (4, .v (.ptr H.length 0)), (5, .v (.ptr (H.length + 1) 0)), (6, .v (.sc (.int .i64 i)))]
              ((H1 ++ [ceB cc, ceB cc, .map [], .cells (nodeCs cc (fun _ => none) 0 (H1.length + 1 + 1))]).set b (.cells (nodeCs c (updN k i (some (H1.length + 1 + 2))) (S.length + 1) m))) := by
            refine ⟨H1.length + 1 + 2, fun x => x = H1.length + 1 + 2 ∨ x = H1.length + 1 + 1, ?_, ?_, ?_, ?_, ?_, fun x hx => .inr ?_, (g6.app).set rfl, by simp; omega, rfl⟩
            · rw [List.getElem?_set_self (by simp; omega)]
            · rw [List.getElem?_set_ne hbm]
              exact hget g2
            · rw [List.getElem?_set_ne (by omega)]
              exact hget g3
            · rw [List.getElem?_set_ne (by omega)]
              exact hget (by simpa [Sh.cs] using g4)
            · rw [hcc, hSi]
              refine Nd.fresh (by omega) ?_ ?_ (by omega)
              · rw [List.getElem?_set_ne (by omega)]
                rw [List.getElem?_append_right (by omega), show H1.length + 1 + 2 - H1.length = 3 by omega]
                rfl
              · rw [List.getElem?_set_ne (by omega)]
                rw [List.getElem?_append_right (by omega), show H1.length + 1 + 1 - H1.length = 2 by omega]
                rfl
            · omega
          unfold ceB Ce.v Ce.cs at hF
          unfold Ce.v Ce.cs at hC
          have kS := fun (x : Bk) (L : List Bk) => keepS_app (H := H1 ++ [x]) (L := L)
          simp only [List.append_assoc, List.cons_append, List.nil_append] at kS
          rcases (show i = 0 ∨ i = 1 ∨ i = 2 ∨ i = 3 by omega) with rfl | rfl | rfl | rfl
          all_goals
            simp [g1, hki, kidV, hNilN]
            refine callK.pure hC rfl rfl ?_
            simp [setCells, setBlk]
            refine callK.of hF ?_
            rintro y H2 ⟨rfl, rfl⟩
            simp [hget g1, kS]
            simp only [setCells, setBlk_eq' (hget g1)]
            refine ⟨_, ?_, hPut⟩
            simp [subW, weakV, getF]
        | some b' =>
          obtain ⟨q1, q2, q3⟩ : ∃ J', Nd H d (childOf c (i : Nat)) (sub' (childOf c (i : Nat)) S) b' J' ∧ J' = J i := by
            rcases h6 i hi with ⟨_, e, _⟩ | ⟨_, b2, e, hN2⟩
            · rw [hki] at e; cases e
            · rw [hki] at e
              cases e
              exact ⟨_, hN2, rfl⟩
          have hup : updN k i (some b') = k := by
            funext j
            unfold updN
            split
            · rename_i e
              rw [e, hki]
            · rfl
          have hPut : PutM H d c h S s b m i es k J [(0, .v (.ptr b 0)), (4, .v (.ptr H.length 0)), (5, .v (.ptr (H.length + 1) 0)), (6, .v (.sc (.int .i64 i)))] H1 := ⟨b', J i, by rw [hup]; simpa [nodeCs] using g1, g2, g3, by simpa [Sh.cs] using g4, Nd.keep g6 (q3 ▸ q2) fun x hx e => (h5 i hi).1 (e ▸ hx), fun x hx => .inl hx, g6, by omega, rfl⟩
          rcases (show i = 0 ∨ i = 1 ∨ i = 2 ∨ i = 3 by omega) with rfl | rfl | rfl | rfl
          all_goals
            simp [g1, hki, kidV]
            refine ⟨_, ?_, hPut⟩
            simp [subW, weakV, getF]
      · rintro F H3 ⟨b', J', m1, m2, m3, m4, m5, m6, m7, m8, rfl⟩
        refine AW.ofx [(7, 6, [0, 6, 7])] mixed (by kernel_rfl) ?_
        have hidS : ∀ t ∈ sub' (childOf c (i : Nat)) S, t.id ≠ s.id := fun t ht => hid t (List.mem_filter.1 ht).1
        have hlS : (sub' (childOf c (i : Nat)) S).length < 1000000 := Nat.lt_of_le_of_lt (List.length_filter_le _ _) hlen
        have hR := ih (childOf c (i : Nat)) H3 _ b' J' s m5 hccr (by omega) (by rw [hh]; exact hucc) (by rw [hh]; exact hr) hidS hlS
        rw [hh] at hR
        unfold Ce.v Ce.cs Sh.v Sh.cs at hR
        unfold ceB at m3
        unfold Sh.cs at m4
        have hb' : updN k i (some b') i = some b' := updN_self
        have fin : ∀ H4, Kp J' H3 H4 → ∀ I4, Nd H4 d (childOf c (i : Nat)) (s :: sub' (childOf c (i : Nat)) S) b' I4 → (∀ x, I4 x → J' x ∨ H3.length ≤ x) → Kp I H H4 ∧ ∃ I', Nd H4 (d + 1) c (s :: S) b I' ∧ ∀ x, I' x → I x ∨ H.length ≤ x := by
          intro H4 k4 I4 n4 l4
          have nb : ¬ J' b := fun e => (m6 b e).elim (h5 i hi).1 (by omega)
          have nm : ¬ J' m := fun e => (m6 m e).elim (h5 i hi).2.1 (by omega)
          have kall : Kp (fun x => x = b ∨ J i x) H H4 := by
            refine Kp.new (Kp.trans (m7.weak fun x hx => .inl (.inl hx)) (k4.weak fun x hx => ?_))
            rcases m6 x hx with h | h
            · exact .inl (.inr h)
            · exact .inr h
          refine ⟨kall.weak fun x hx => (h4 x).2 ?_, Nd.below (k4.cells nb m1) (k4.map nm m2) h3 h4 h5 h6 hbl hml kall hi (by rw [hh]; exact hu) (by rw [hh]; exact hch) (by rw [hh]; exact hw) n4 fun x hx => ?_⟩
          · rcases hx with rfl | hx
            · exact .inl rfl
            · exact .inr (.inr ⟨i, hi, hx⟩)
          · rcases l4 x hx with h | h
            · exact m6 x h
            · exact .inr (by omega)
        clear h6 h5 h4
        unfold nodeCs at m1
        rcases (show i = 0 ∨ i = 1 ∨ i = 2 ∨ i = 3 by omega) with rfl | rfl | rfl | rfl
        all_goals
          simp [m1, m3, m4, kidV, hb']
          refine callK.of hR ?_
          rintro y H4 ⟨k4, I4, n4, l4⟩
          simp
          exact fin H4 k4 I4 n4 l4
end Go.Proofs.YtdeemchhbgomjaaGreat
