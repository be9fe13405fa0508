/- The laws CifquadLevel and CifquadNearest, over the abstract memory. -/
import Derived.Test.YtdeemchhbgomjaaGreatIo1
import Derived.Test.YtdeemchhbgomjaaGreatHr
import Derived.Test.YtdeemchhbgomjaaGreatIa
namespace Go.Proofs.YtdeemchhbgomjaaGreat
set_option linter.all false
open Go.RowKit AM
set_option maxRecDepth 10000
attribute [local simp] aw_skip' aw_region' aw_seq' aw_cond' aw_block' aw_loop' aw_exit' aw_label' aw_ret' aops_nil' aops_cons' aop' aMove aAssign aPick aAlloc aBox aBuild slF aBuildSlice aLoad aLoadOwn aStore aStoreOwn isOwn delR aNilCheck aBin aMakeFunc aFieldAddr aField aIndexOp aIndex partV aIndexAddr aExtract aSliceOp aSlice aShrink aCallOp aCall' aInvoke' aLen aLenMap aDelete aMM aUn aConv aIface aAssert aMakeMap aLookup aMapUpdate aRange aNext aEntry entsOf keyB seekK aMakeSlice lookV aAppend putK layK eval evalV AM.valOf getF putF setF del SV.refers cellsAt rootSV plains shift ldV V.exact V.exactL V.ofValue V.ofPart V.ofCell V.cells V.one Value.oneCell' fitB qSeq qBlock getB afin aret resVs resV resTmps shareF evalS tupV valsS valsV pickV calm calmB lenV useOf feeds shrinks stows looks isT newsV partsV fillV putAt zerosV fitsNil nilB sliceB isEq isNeq awx_skip' awx_region' awx_seq' awx_cond' awx_block' awx_loop' awx_exit' awx_label' awx_ret' xops_nil' xops_cons' xop' xload xcall' addO delO inO putD memB Mix.effB Mix.laysB keysF badK subW weakV zeroRow yops_nil' yops_cons' yop' yload yindex yfield ylen oldO dropO takeO oldL exactB
attribute [local simp] awz_skip' awz_region' awz_seq' awz_cond' awz_block' awz_loop' awz_exit' awz_label' awz_ret' zops_nil' zops_cons' zop' zload zloadOwn zcall' zlenK z0 new0 remF old0 dltB

theorem ent_inj {K : List Sh} (hn : (K.map Sh.id).Nodup) {p : Pt} {l : Int} : ∀ {R R' : List Sh}, R.map (shEn p l) = R'.map (shEn p l) → (∀ s ∈ R, s ∈ K) → (∀ s ∈ R', s ∈ K) → R = R'
  | [], [], _, _, _ => rfl
  | [], _ :: _, h, _, _ => by cases h
  | _ :: _, [], h, _, _ => by cases h
  | a :: R, b :: R', h, h1, h2 => by
    rw [List.map_cons, List.map_cons] at h
    injection h with e1 e2
    have e3 : a.id = b.id := by
      have := congrArg Ent.i e1
      exact this
    have e4 := id_inj hn (h1 a (List.mem_cons_self ..)) (h2 b (List.mem_cons_self ..)) e3
    rw [e4, ent_inj hn e2 (fun s hs => h1 s (List.mem_cons_of_mem _ hs)) (fun s hs => h2 s (List.mem_cons_of_mem _ hs))]
/-- The nearest shapes, whatever is asked. -/
def nearP (S : List Sh) (kp : Sh → Bool) (p : Pt) (l n : Int) (R : List Sh) : Prop := if (fits p && rightL l) = true then NearR S kp p l n R else R = []
theorem tnear {H : List Bk} {r : Nat} {S : List Sh} {T : Nat → Prop} (ht : TrS H r S T) (hS : S.length ≤ 1000) (p : Pt) (n l : Int) (kv : V) (kp : Sh → Bool) {ib : Nat} {fb : Option Bk} (hkp : KeepOK kv ib fb kp) (hfb : ∀ x, fb = some x → H[ib]? = some x ∧ ∀ n l cu, x ≠ .iter n l cu) :
    AFn Tryz.prog 9 [.ptr r 0, p.v, .sc (.int .i64 n), .sc (.int .i64 l), kv] H fun y H' => ∃ R, y = slS R ∧ nearP S kp p l n R ∧ Kp NoB H H' := by
  by_cases h : (fits p && rightL l) = true
  · have h' := h
    simp only [Bool.and_eq_true] at h'
    refine (near1 ht hS p n l kv kp hkp hfb h'.1 h'.2).mono' fun y H' hy => ?_
    obtain ⟨R, h1, h2, h3⟩ := hy
    exact ⟨R, h1, by unfold nearP; rw [if_pos h]; exact h2, h3⟩
  · have h' : (fits p && rightL l) = false := by simpa using h
    refine (near0 ht p n l kv kp hkp h').conv fun y H' hy => ⟨slS [], ⟨[], rfl, by unfold nearP; rw [if_neg h], hy.2⟩, fun I φ v hv => ?_⟩
    rw [hy.1] at hv
    exact rel_nil_row hv
theorem dnear (K : List Sh) (hK : K.length ≤ 1000) (hid : (K.map Sh.id).Nodup) (p : Pt) (n l : Int) (H : List Bk) : AFn Tryz.prog 10 [slS K, p.v, .sc (.int .i64 n), .sc (.int .i64 l)] H fun y H' => ∃ R, y = slS R ∧ nearP K (fun _ => true) p l n R ∧ H' = H ++ [ptB p] := by
  by_cases h : (fits p && rightL l) = true
  · have h' := h
    simp only [Bool.and_eq_true] at h'
    refine (refNear1 K hK hid p n l H h'.1 h'.2).mono' fun y H' hy => ?_
    obtain ⟨R, h1, h2, h3⟩ := hy
    refine ⟨R, h1, ?_, h3⟩
    unfold nearP
    rw [if_pos h]
    have e : K.filter (fun _ => true) = K := List.filter_eq_self.2 fun _ _ => rfl
    unfold NearR
    rw [e]
    exact h2
  · have h' : (fits p && rightL l) = false := by simpa using h
    refine (refNear0 K p n l H h').conv fun y H' hy => ⟨slS [], ⟨[], rfl, by unfold nearP; rw [if_neg h], hy.2⟩, fun I φ v hv => ?_⟩
    rw [hy.1] at hv
    exact rel_nil_row hv
theorem near_same {S K : List Sh} {kp : Sh → Bool} (hK : K = S.filter kp) (hid : (K.map Sh.id).Nodup) {p : Pt} {l n : Int} {R R' : List Sh} (h : nearP S kp p l n R) (h' : nearP K (fun _ => true) p l n R') : R = R' := by
  unfold nearP at h h'
  split at h
  · rename_i hc
    rw [if_pos hc] at h'
    have e : K.filter (fun _ => true) = K := List.filter_eq_self.2 fun _ _ => rfl
    unfold NearR at h h'
    rw [e] at h'
    rw [← hK] at h
    exact ent_inj hid (h.1.trans h'.1.symm) h.2 h'.2
  · rename_i hc
    rw [if_neg hc] at h'
    rw [h, h']
theorem near_len {S : List Sh} {kp : Sh → Bool} {p : Pt} {l n : Int} {R : List Sh} (h : nearP S kp p l n R) : R.length ≤ S.length := by
  unfold nearP at h
  split at h
  · have e1 := congrArg List.length h.1
    rw [List.length_map, List.length_take, (sort_perm _).length_eq, List.length_map] at e1
    have e2 : (S.filter kp).length ≤ S.length := List.length_filter_le _ _
    omega
  · rw [h]
    exact Nat.zero_le _
theorem far_zero {s : Sh} {p : Pt} (hs : rightR s.box = true) (hf : fits p = true) : farR s p 0 = 0 := by
  have hs0 : side 0 = 65536 := by decide
  have rr := right_rng hs
  have rp := fits_rng hf
  unfold farR
  have e : (snapR s.box 0).1 = ⟨0, 0, 65535, 65535⟩ := by
    have hl : rightL 0 = true := by decide
    simp only [snapR, hl, hs, Bool.and_self, if_true, hs0]
    rw [Int.emod_eq_of_lt rr.1.1 (by omega), Int.emod_eq_of_lt rr.2.1.1 (by omega), Int.emod_eq_of_lt rr.2.2.1.1 (by omega), Int.emod_eq_of_lt rr.2.2.2.1.1 (by omega)]
    congr 1 <;> omega
  rw [e]
  have hg : ∀ n : Int, 0 ≤ n ∧ n ≤ 65535 → gapZ n 0 65535 = 0 := fun n hn => by
    unfold gapZ
    rw [if_neg (by omega), if_neg (by omega)]
  have hr : rightR ⟨0, 0, 65535, 65535⟩ = true := by decide
  simp [distR, hr, hf, hg _ rp.1, hg _ rp.2]
theorem level_all {S : List Sh} (hi : Inc S) (hS : ∀ s ∈ S, rightR s.box = true) {p : Pt} (hf : fits p = true) {R : List Sh} (h : nearP S (fun _ => true) p 0 S.length R) : R = S := by
  unfold nearP at h
  rw [if_pos (by rw [hf]; rfl)] at h
  have e : S.filter (fun _ => true) = S := List.filter_eq_self.2 fun _ _ => rfl
  unfold NearR at h
  rw [e] at h
  have hsr : Srt (S.map (shEn p 0)) := by
    refine List.pairwise_map.2 (List.Pairwise.imp_of_mem (R := fun (p q : Sh) => p.id < q.id) (fun {a b} ha hb hab => ?_) hi)
    rw [Ent.nlt_iff]
    simp only [shEn, far_zero (hS a ha) hf, far_zero (hS b hb) hf]
    omega
  have hso : sort (S.map (shEn p 0)) = S.map (shEn p 0) := srt_unique (sort_srt _) hsr (sort_perm _)
  rw [hso, List.take_of_length_le (by simp)] at h
  exact ent_inj hi.nodup h.1 h.2 fun s hs => hs
theorem slS_closed2' (zs ys : List Sh) : V.closedL [.sl zs.length 6 (zs.flatMap Sh.cs), .sl ys.length 6 (ys.flatMap Sh.cs)] = true := by simp [V.closedL, V.closed, closed_flat (enc := Sh.cs) (fun _ => rfl)]
theorem noKeep : KeepOK (.sc .nilFunc) 0 none (fun _ => true) := .inl ⟨rfl, fun _ => rfl⟩
set_option maxHeartbeats 2000000 in
theorem lawLevel (l : List Sh) (p : Pt) (H : List Bk) : AFn Tryz.prog 4 [slS l, p.v] H fun y _ => y = .sc (.bool true) := by
  have hB := fun L => lbuilt l (H ++ L)
  have hF := refFits p
  unfold slS at hB ⊢
  have hTn := fun {Hx r T} (t : TrS Hx r (hav l) T) (h : (hav l).length ≤ 1000) => tnear t h p (hav l).length 0 (.sc .nilFunc) (fun _ => true) noKeep (fun _ h => by cases h)
  unfold Pt.v Pt.cs at hF hTn ⊢
  refine AFn.intro (fn := Tryz.f4) (by kernel_rfl) rfl (by kernel_rfl) (by simp) ?_
  simp only [Tryz.f4, argsF]
  refine AW.seq (AW.ofx [] mixed (by kernel_rfl) ?_)
  simp
  refine AW.seq (AW.ofx [] mixed (by kernel_rfl) ?_)
  simp
  refine callK.of (hB _) ?_
  rintro y H1 (⟨hl, rfl, k1⟩ | ⟨hl, r, T, rfl, t1, k1, f1⟩)
  · have hl' : (80 : Int) < l.length := by omega
    simp
    refine AW.seq (AW.seq (AW.ofx [] mixed (by kernel_rfl) ?_))
    simp [nilTrE]
    refine AW.ofx [] mixed (by kernel_rfl) ?_
    simp [nilTrE, hNilT0, hl']
    refine callK.of (lknown _) ?_
    rintro y H2 ⟨rfl, k2⟩
    simp
  · have hbc := k1.cells (i := H.length) (fun h => h) (by simp; rfl)
    have hsp := hav_spec l
    have hR := hav_right l
    have hLv := fun {R} (hf : fits p = true) (h : nearP (hav l) (fun _ => true) p 0 (hav l).length R) => level_all hsp.1 hR hf h
    generalize hav l = S at *
    have hTn := hTn t1 (by omega)
    simp
    refine AW.seq (AW.seq (AW.ofx [] mixed (by kernel_rfl) ?_))
    simp [hbc]
    refine callK.pure hF rfl rfl ?_
    cases hf : fits p with
    | false =>
      simp
      refine AW.ofx [] mixed (by kernel_rfl) ?_
      simp
      refine callK.of (lknown _) ?_
      rintro y H2 ⟨rfl, k2⟩
      simp
    | true =>
      simp
      refine AW.ofx [] mixed (by kernel_rfl) ?_
      simp
      refine AW.ofx [] mixed (by kernel_rfl) ?_
      simp [slS, hbc]
      refine callK.of hTn ?_
      rintro y H2 ⟨R, rfl, hR', k2⟩
      obtain rfl := hLv hf hR'
      have hSm := refSame R R (by omega)
      simp at hSm
      unfold slS at hSm
      simp [slS]
      refine callK.pure hSm (slS_closed2' _ _) rfl ?_
      simp
      refine callK.of (lknown _) ?_
      rintro y H3 ⟨rfl, k3⟩
      simp
theorem lawLevel0 (l : List Sh) (p : Pt) : PFn Tryz.prog 4 [slS l, p.v] (.sc (.bool true)) := lawLevel l p []
end Go.Proofs.YtdeemchhbgomjaaGreat
