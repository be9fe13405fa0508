/- A quadtree of shapes: new, put into, taken from. -/
import Derived.Test.YtdeemchhbgomjaaGreatHj
namespace Go.Proofs.YtdeemchhbgomjaaGreat
set_option linter.all false
open Go.RowKit AM
set_option maxRecDepth 10000
attribute [local simp] aw_skip' aw_region' aw_seq' aw_cond' aw_block' aw_loop' aw_exit' aw_label' aw_ret' aops_nil' aops_cons' aop' aMove aAssign aPick aAlloc aBox aBuild slF aBuildSlice aLoad aLoadOwn aStore aStoreOwn isOwn delR aNilCheck aBin aMakeFunc aFieldAddr aField aIndexOp aIndex partV aIndexAddr aExtract aSliceOp aSlice aShrink aCallOp aCall' aInvoke' aLen aLenMap aDelete aMM aUn aConv aIface aAssert aMakeMap aLookup aMapUpdate aRange aNext aEntry entsOf keyB seekK aMakeSlice lookV aAppend putK layK eval evalV AM.valOf getF putF setF del SV.refers cellsAt rootSV plains shift ldV V.exact V.exactL V.ofValue V.ofPart V.ofCell V.cells V.one Value.oneCell' fitB qSeq qBlock getB afin aret resVs resV resTmps shareF evalS tupV valsS valsV pickV calm calmB lenV useOf feeds shrinks stows looks isT newsV partsV fillV putAt zerosV fitsNil nilB sliceB isEq isNeq awx_skip' awx_region' awx_seq' awx_cond' awx_block' awx_loop' awx_exit' awx_label' awx_ret' xops_nil' xops_cons' xop' xload xcall' addO delO inO putD memB Mix.effB Mix.laysB keysF badK subW weakV zeroRow yops_nil' yops_cons' yop' yload yindex yfield ylen oldO dropO takeO oldL exactB

theorem tnew (H : List Bk) : AFn Tryz.prog 22 [] H fun y H' => ∃ r T, y = .ptr r 0 ∧ TrS H' r [] T ∧ Kp NoB H H' ∧ ∀ x, T x → H.length ≤ x := by
  have hF := nfresh root0 H
  unfold Ce.v Ce.cs root0 at hF
  refine AFn.intro (fn := Tryz.f22) (by kernel_rfl) rfl (by kernel_rfl) (by simp) (AW.ofx [] mixed (by kernel_rfl) ?_)
  simp only [Tryz.f22, argsF]
  simp
  refine callK.of hF ?_
  rintro y H1 ⟨rfl, rfl⟩
  simp
  refine ⟨fun x => H.length ≤ x ∧ x ≤ H.length + 4 ∧ x ≠ H.length, ⟨H.length + 2, H.length + 3, fun x => x = H.length + 2 ∨ x = H.length + 1, [], ⟨by simp, by simp, .nil, Nd.fresh (by decide) (by simp; rfl) (by simp) (by omega), by omega, by omega, by omega, by simp, by simp, by simp⟩, fun x => by omega⟩, Kp.refl.app, fun x hx => hx.1⟩
section
variable {H : List Bk} {r : Nat} {S : List Sh} {T : Nat → Prop}
theorem fnd_some {k : Int} {s : Sh} (h : fnd S k = some s) : s ∈ S ∧ s.id = k := ⟨List.mem_of_find?_eq_some h, by simpa using List.find?_some h⟩
theorem fnd_none {k : Int} (h : fnd S k = none) : ∀ t ∈ S, t.id ≠ k := fun t ht => by simpa using List.find?_eq_none.1 h t ht
def takeE (S : List Sh) (k : Int) : Int := match fnd S k with
  | some _ => 0
  | none => 21
theorem ttake (ht : TrS H r S T) (k : Int) : AFn Tryz.prog 15 [.ptr r 0, .sc (.int .i64 k)] H fun y H' => y = .sc (.int .i64 (takeE S k)) ∧ Kp T H H' ∧ ∃ T', TrS H' r (less S k) T' ∧ ∀ x, T' x → T x := by
  have hM := tmade ht
  obtain ⟨b, m, I, es, hb, hT⟩ := id ht
  have hr := fun L => hget (L := L) hb.cr
  have hmm := fun L => hget (L := L) hb.cm
  have hr0 := hb.cr
  have hm0 := hb.cm
  have hfs := fnd_sfind hb.ids hb.es k
  unfold takeE
  refine AFn.intro (fn := Tryz.f15) (by kernel_rfl) rfl (by kernel_rfl) (by simp) ?_
  simp only [Tryz.f15, argsF]
  refine AW.seq (AW.ofx [] mixed (by kernel_rfl) ?_)
  simp
  refine AW.seq (AW.ofx [] mixed (by kernel_rfl) ?_)
  simp
  refine callK.of hM ?_
  rintro y H1 ⟨rfl, rfl⟩
  simp
  refine AW.seq (AW.ofx [] mixed (by kernel_rfl) ?_)
  cases hs : sfind k es 0 with
  | none =>
    rw [hs] at hfs
    have hfn : fnd S k = none := hfs.symm
    rw [hfn, less_none (fnd_none hfn)]
    simp [hr0, hm0, mfind_s, hs, zvSh, setCells, setBlk]
    refine AW.seq (AW.ofx [] mixed (by kernel_rfl) ?_)
    simp
    exact ⟨Kp.refl.app, T, ht.app, fun x hx => hx⟩
  | some p =>
    obtain ⟨j, s⟩ := p
    rw [hs] at hfs
    have hfn : fnd S k = some s := hfs.symm
    obtain ⟨hsS, rfl⟩ := fnd_some hfn
    rw [hfn]
    have hse : s ∈ es := hb.es.mem_iff.2 hsS
    have hen : (es.map Sh.id).Nodup := ((hb.es.map Sh.id).nodup_iff).2 hb.ids
    obtain ⟨j', hj1, hj2⟩ := sfind_some (i := 0) hse hen
    have hjj : j' = j := by
      rw [hs] at hj1
      simp at hj1
      exact hj1.symm
    subst hjj
    have hrs := hb.right s hsS
    have hHo := cHome s.box
    have hho : homeR s.box = (hm s, true) := by simp [homeR, hrs, hm]
    rw [hho] at hHo
    unfold Re.v Re.cs Ce.v Ce.cs at hHo
    simp [hr0, hm0, mfind_s, hs, zvSh, setCells, setBlk, Sh.v, Sh.cs]
    refine AW.seq (AW.ofx [] mixed (by kernel_rfl) ?_)
    simp
    refine AW.seq (AW.ofx [] mixed (by kernel_rfl) ?_)
    simp
    refine callK.pure hHo rfl rfl ?_
    simp [setCells, setBlk]
    refine AW.seq (AW.ofx [] mixed (by kernel_rfl) ?_)
    simp [hr, hmm, mfind_s, hs]
    have hrl := (List.getElem?_eq_some_iff.1 hr0).1
    have hml := (List.getElem?_eq_some_iff.1 hm0).1
    have em : ∀ (l : List Sh) (j : Nat), (l.map entS).eraseIdx j = (l.eraseIdx j).map entS := by
      intro l
      induction l with
      | nil => simp
      | cons a l ih => intro j; cases j <;> simp [ih]
    obtain ⟨H2, eH, p1, p2, p3, p4, p5⟩ : ∃ H2, H2 = (killIt m (H1 ++ [Bk.cells [.v (.sc (.int .i64 s.id)), .v (.sc (.int .i64 s.box.x0)), .v (.sc (.int .i64 s.box.y0)), .v (.sc (.int .i64 s.box.x1)), .v (.sc (.int .i64 s.box.y1)), .v (.sc (.int .i64 s.lab))], Bk.cells [.v (.sc (.int .i64 (hm s).l)), .v (.sc (.int .i64 (hm s).x)), .v (.sc (.int .i64 (hm s).y))]])).set m (Bk.map ((List.map entS es).eraseIdx j')) ∧
        H2[r]? = some (.cells [.v (.ptr b 0), .v (.map m)]) ∧ H2[m]? = some (.map ((es.eraseIdx j').map entS)) ∧ H2[H1.length + 1]? = some (Bk.cells [.v (.sc (.int .i64 (hm s).l)), .v (.sc (.int .i64 (hm s).x)), .v (.sc (.int .i64 (hm s).y))]) ∧ Kp (fun x => x = m) H1 H2 ∧ H1.length ≤ H2.length := by
      refine ⟨_, rfl, ?_, ?_, ?_, (Kp.refl.app).killed rfl, by simp [killIt]⟩
      · rw [List.getElem?_set_ne (Ne.symm hb.rm)]
        exact hkill (hr _) fun _ _ _ e => by cases e
      · rw [List.getElem?_set_self (by rw [hkill_len]; simp; omega), em]
      · rw [List.getElem?_set_ne (by omega)]
        exact hkill (by simp) fun _ _ _ e => by cases e
    rw [← eH]
    have hN := ntake 17 root0 H2 S b I s (Nd.keep p4 hb.nd fun x hx e => hb.im (e ▸ hx)) root_right (by decide) (root_under hrs) (home_right hrs) hsS hb.ids (by have := hb.len; omega)
    unfold Ce.v Ce.cs at hN
    refine AW.seq (AW.ofx [] mixed (by kernel_rfl) ?_)
    simp [p1, p3]
    refine callK.of hN ?_
    rintro y H3 ⟨k3, I', n3, l3⟩
    simp
    refine AW.ofx [] mixed (by kernel_rfl) ?_
    simp
    refine ⟨?_, fun x => x = r ∨ x = m ∨ I' x, ⟨b, m, I', es.eraseIdx j', ⟨k3.cells hb.ir p1, k3.map hb.im p2, ?_, n3, hb.rm, fun e => hb.ir (l3 _ e), fun e => hb.im (l3 _ e), nodup_sub hb.ids, fun t ht => hb.right t (List.mem_filter.1 ht).1, Nat.le_trans (List.length_filter_le _ _) hb.len⟩, fun x => Iff.rfl⟩, ?_⟩
    · refine (p4.weak fun x hx => (hT x).2 (.inr (.inl hx))).trans (k3.weak fun x hx => (hT x).2 (.inr (.inr hx)))
    · rw [hj2]
      exact hb.es.filter _
    · intro x hx
      exact (hT x).2 (hx.imp id (Or.imp id (l3 x)))
def putE (s : Sh) : Int := if rightR s.box then 0 else 1
def putS (S : List Sh) (s : Sh) : List Sh := if rightR s.box then s :: less S s.id else S
theorem tput (ht : TrS H r S T) (s : Sh) (hlen : S.length < 100000) : AFn Tryz.prog 14 [.ptr r 0, s.v] H fun y H' => y = .sc (.int .i64 (putE s)) ∧ Kp T H H' ∧ ∃ T', TrS H' r (putS S s) T' ∧ ∀ x, T' x → T x ∨ H.length ≤ x := by
  have hM := fun L => tmade (ht.app (L := L))
  have hHo := cHome s.box
  unfold putE putS
  unfold Re.v Re.cs Ce.v Ce.cs at hHo
  unfold Sh.v Sh.cs
  refine AFn.intro (fn := Tryz.f14) (by kernel_rfl) rfl (by kernel_rfl) (by simp) ?_
  simp only [Tryz.f14, argsF]
  refine AW.seq (AW.ofx [] mixed (by kernel_rfl) ?_)
  simp
  refine AW.seq (AW.ofx [] mixed (by kernel_rfl) ?_)
  simp
  refine callK.of (hM _) ?_
  rintro y H1 ⟨rfl, rfl⟩
  simp
  refine AW.seq (AW.ofx [] mixed (by kernel_rfl) ?_)
  simp
  refine callK.pure hHo rfl rfl ?_
  simp [setCells, setBlk]
  refine AW.seq (AW.ofx [] mixed (by kernel_rfl) ?_)
  cases hrs : rightR s.box with
  | false =>
    have hho : homeR s.box = (.zero, false) := by simp [homeR, hrs]
    simp [hho]
    exact ⟨Kp.refl.app, T, ht.app, fun x hx => .inl hx⟩
  | true =>
    have hho : homeR s.box = (hm s, true) := by simp [homeR, hrs, hm]
    have hTk := ttake (ht.app (L := [shB s, ceB (hm s)])) s.id
    unfold shB ceB at hTk
    simp [hho]
    refine AW.seq (AW.ofx [] mixed (by kernel_rfl) ?_)
    simp
    refine callK.of hTk ?_
    rintro y H2 ⟨rfl, k2, T', t2, l2⟩
    have hlt := ht.lt
    have b1 : ¬ T H.length := fun e => by have := hlt _ e; omega
    have b2 : ¬ T (H.length + 1) := fun e => by have := hlt _ e; omega
    have p1 := k2.cells b1 (by simp; rfl)
    have p2 := k2.cells b2 (by simp; rfl)
    obtain ⟨b, m, I, es, hb, hT⟩ := id t2
    have hr0 := hb.cr
    have hm0 := hb.cm
    have hidn : ∀ t ∈ less S s.id, t.id ≠ s.id := fun t ht => by simpa using (List.mem_filter.1 ht).2
    have hsn : sfind s.id es 0 = none := sfind_none fun e he => hidn e (hb.es.mem_iff.1 he)
    simp
    refine AW.seq (AW.ofx [] mixed (by kernel_rfl) ?_)
    simp [hr0, hm0, p1, p2, mfind_s, hsn]
    have hml := (List.getElem?_eq_some_iff.1 hm0).1
    have hrl := (List.getElem?_eq_some_iff.1 hr0).1
    obtain ⟨H3, eH, q1, q2, q3, q4, q5⟩ : ∃ H3, H3 = (killIt m H2).set m (Bk.map (List.map entS es ++ [(Value.int IntKind.i64 s.id, V.agg [.sc (.int .i64 s.id), .sc (.int .i64 s.box.x0), .sc (.int .i64 s.box.y0), .sc (.int .i64 s.box.x1), .sc (.int .i64 s.box.y1), .sc (.int .i64 s.lab)])])) ∧
        H3[r]? = some (.cells [.v (.ptr b 0), .v (.map m)]) ∧ H3[m]? = some (.map ((es ++ [s]).map entS)) ∧ H3[H.length]? = some (Bk.cells [.v (.sc (.int .i64 s.id)), .v (.sc (.int .i64 s.box.x0)), .v (.sc (.int .i64 s.box.y0)), .v (.sc (.int .i64 s.box.x1)), .v (.sc (.int .i64 s.box.y1)), .v (.sc (.int .i64 s.lab))]) ∧
        H3[H.length + 1]? = some (Bk.cells [.v (.sc (.int .i64 (hm s).l)), .v (.sc (.int .i64 (hm s).x)), .v (.sc (.int .i64 (hm s).y))]) ∧ Kp (fun x => x = m) H2 H3 := by
      have hmT : T m := l2 m ((hT m).2 (.inr (.inl rfl)))
      have hml' := hlt m hmT
      refine ⟨_, rfl, ?_, ?_, ?_, ?_, Kp.refl.killed rfl⟩
      · rw [List.getElem?_set_ne (Ne.symm hb.rm)]
        exact hkill hr0 fun _ _ _ e => by cases e
      · rw [List.getElem?_set_self (by rw [hkill_len]; exact hml)]
        simp [entS, Sh.v, Sh.cs]
      · rw [List.getElem?_set_ne (by omega)]
        exact hkill p1 fun _ _ _ e => by cases e
      · rw [List.getElem?_set_ne (by omega)]
        exact hkill p2 fun _ _ _ e => by cases e
    rw [← eH]
    have hll : (less S s.id).length ≤ S.length := List.length_filter_le _ _
    have hN := nput 17 root0 H3 (less S s.id) b I s (Nd.keep q5 hb.nd fun x hx e => hb.im (e ▸ hx)) root_right (by decide) (root_under hrs) (home_right hrs) hidn (by omega)
    unfold Ce.v Ce.cs Sh.v Sh.cs at hN
    refine AW.seq (AW.ofx [] mixed (by kernel_rfl) ?_)
    simp [q1, q3, q4]
    refine callK.of hN ?_
    rintro y H4 ⟨k4, I', n4, l4⟩
    simp
    refine AW.ofx [] mixed (by kernel_rfl) ?_
    simp
    have hTI : ∀ x, I x → T x := fun x hx => l2 x ((hT x).2 (.inr (.inr hx)))
    have hTm : T m := l2 m ((hT m).2 (.inr (.inl rfl)))
    have hTr : T r := l2 r ((hT r).2 (.inl rfl))
    have h23 : H.length ≤ H3.length := by
      have := (List.getElem?_eq_some_iff.1 q3).1
      omega
    refine ⟨?_, fun x => x = r ∨ x = m ∨ I' x, ⟨b, m, I', es ++ [s], ⟨k4.cells hb.ir q1, k4.map hb.im q2, ?_, n4, hb.rm, fun e => ?_, fun e => ?_, ?_, ?_, ?_⟩, fun x => Iff.rfl⟩, ?_⟩
    · refine Kp.trans (Kp.app (L := []) Kp.refl) ?_
      rw [List.append_nil]
      refine Kp.trans ?_ (k4.weak hTI)
      refine Kp.trans ?_ (q5.weak fun x (hx : x = m) => hx ▸ hTm)
      exact Kp.trans (Kp.refl.app) k2
    · exact List.perm_append_comm.trans (hb.es.cons s)
    · rcases l4 _ e with h | h
      · exact hb.ir h
      · have := hlt r hTr
        omega
    · rcases l4 _ e with h | h
      · exact hb.im h
      · have := hlt m hTm
        omega
    · rw [List.map_cons, List.nodup_cons]
      exact ⟨fun e => by
        obtain ⟨t, ht1, ht2⟩ := List.mem_map.1 e
        exact hidn t ht1 ht2, hb.ids⟩
    · intro t ht
      rcases List.mem_cons.1 ht with rfl | ht
      · exact hrs
      · exact hb.right t ht
    · rw [List.length_cons]
      omega
    · rintro x (rfl | rfl | hx)
      · exact .inl hTr
      · exact .inl hTm
      · rcases l4 x hx with h | h
        · exact .inl (hTI x h)
        · exact .inr (by omega)
end
end Go.Proofs.YtdeemchhbgomjaaGreat
