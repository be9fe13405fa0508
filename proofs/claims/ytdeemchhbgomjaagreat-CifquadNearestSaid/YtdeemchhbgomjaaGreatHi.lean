/- A quadtree of shapes: what is found in it. -/
import Derived.Test.YtdeemchhbgomjaaGreatHh
import Derived.Test.YtdeemchhbgomjaaGreatHs
namespace Go.Proofs.YtdeemchhbgomjaaGreat
set_option linter.all false
open Go.RowKit AM
set_option maxRecDepth 10000
attribute [local simp] aw_skip' aw_region' aw_seq' aw_cond' aw_block' aw_loop' aw_exit' aw_label' aw_ret' aops_nil' aops_cons' aop' aMove aAssign aPick aAlloc aBox aBuild slF aBuildSlice aLoad aLoadOwn aStore aStoreOwn isOwn delR aNilCheck aBin aMakeFunc aFieldAddr aField aIndexOp aIndex partV aIndexAddr aExtract aSliceOp aSlice aShrink aCallOp aCall' aInvoke' aLen aLenMap aDelete aMM aUn aConv aIface aAssert aMakeMap aLookup aMapUpdate aRange aNext aEntry entsOf keyB seekK aMakeSlice lookV aAppend putK layK eval evalV AM.valOf getF putF setF del SV.refers cellsAt rootSV plains shift ldV V.exact V.exactL V.ofValue V.ofPart V.ofCell V.cells V.one Value.oneCell' fitB qSeq qBlock getB afin aret resVs resV resTmps shareF evalS tupV valsS valsV pickV calm calmB lenV useOf feeds shrinks stows looks isT newsV partsV fillV putAt zerosV fitsNil nilB sliceB isEq isNeq awx_skip' awx_region' awx_seq' awx_cond' awx_block' awx_loop' awx_exit' awx_label' awx_ret' xops_nil' xops_cons' xop' xload xcall' addO delO inO putD memB Mix.effB Mix.laysB keysF badK subW weakV zeroRow yops_nil' yops_cons' yop' yload yindex yfield ylen oldO dropO takeO oldL exactB

def root0 : Ce := ⟨0, 0, 0⟩
/-- A tree at block r that has these shapes. -/
structure TrB (H : List Bk) (r b m : Nat) (I : Nat → Prop) (es S : List Sh) : Prop where
  cr : H[r]? = some (.cells [.v (.ptr b 0), .v (.map m)])
  cm : H[m]? = some (.map (es.map entS))
  es : es.Perm S
  nd : Nd H 17 root0 S b I
  rm : r ≠ m
  ir : ¬ I r
  im : ¬ I m
  ids : (S.map Sh.id).Nodup
  right : ∀ s ∈ S, rightR s.box = true
  len : S.length ≤ 100000
def TrS (H : List Bk) (r : Nat) (S : List Sh) (T : Nat → Prop) : Prop := ∃ b m I es, TrB H r b m I es S ∧ ∀ x, T x ↔ x = r ∨ x = m ∨ I x
theorem TrS.keep {H H' : List Bk} {r : Nat} {S : List Sh} {T U : Nat → Prop} (h : TrS H r S T) (hk : Kp U H H') (hd : ∀ x, T x → ¬ U x) : TrS H' r S T := by
  obtain ⟨b, m, I, es, h, hT⟩ := h
  exact ⟨b, m, I, es, ⟨hk.cells (hd _ ((hT _).2 (.inl rfl))) h.cr, hk.map (hd _ ((hT _).2 (.inr (.inl rfl)))) h.cm, h.es, Nd.keep hk h.nd fun x hx => hd x ((hT x).2 (.inr (.inr hx))), h.rm, h.ir, h.im, h.ids, h.right, h.len⟩, hT⟩
def NoB : Nat → Prop := fun _ => False
theorem TrS.keep0 {H H' : List Bk} {r : Nat} {S : List Sh} {T : Nat → Prop} (h : TrS H r S T) (hk : Kp NoB H H') : TrS H' r S T := h.keep hk fun _ _ => id
theorem TrS.app {H L : List Bk} {r : Nat} {S : List Sh} {T : Nat → Prop} (h : TrS H r S T) : TrS (H ++ L) r S T := h.keep0 Kp.refl.app
theorem TrS.lt {H : List Bk} {r : Nat} {S : List Sh} {T : Nat → Prop} (h : TrS H r S T) : ∀ x, T x → x < H.length := by
  obtain ⟨b, m, I, es, h, hT⟩ := h
  intro x hx
  rcases (hT x).1 hx with rfl | rfl | hx
  · exact (List.getElem?_eq_some_iff.1 h.cr).1
  · exact (List.getElem?_eq_some_iff.1 h.cm).1
  · exact (h.nd.lt x hx).1
theorem TrS.perm {H : List Bk} {r : Nat} {S S' : List Sh} {T : Nat → Prop} (h : TrS H r S T) (hp : S.Perm S') : TrS H r S' T := by
  obtain ⟨b, m, I, es, h, hT⟩ := h
  exact ⟨b, m, I, es, ⟨h.cr, h.cm, h.es.trans hp, h.nd.perm hp, h.rm, h.ir, h.im, ((hp.map Sh.id).nodup_iff).1 h.ids, fun s hs => h.right s (hp.mem_iff.2 hs), by rw [← hp.length_eq]; exact h.len⟩, hT⟩
theorem root_right : rightC root0 = true := by decide
theorem root_under {s : Sh} (h : rightR s.box = true) : underC root0 (hm s) = true := under_root (home_right h)
theorem nilTr {x y : Operand} : binR Tryz.prog .neq 25 x y (.pointer none) (.pointer none) = some (.bool false) := by kernel_rfl
theorem tmade {H : List Bk} {r : Nat} {S : List Sh} {T : Nat → Prop} (h : TrS H r S T) : AFn Tryz.prog 26 [.ptr r 0] H fun y H' => y = .sc (.bool true) ∧ H' = H := by
  obtain ⟨b, m, I, es, h, hT⟩ := h
  have hr := h.cr
  refine AFn.intro (fn := Tryz.f26) (by kernel_rfl) rfl (by kernel_rfl) (by simp) (AW.ofx [] mixed (by kernel_rfl) ?_)
  simp only [Tryz.f26, argsF]
  simp [hr]
theorem tmadeNil (H : List Bk) : AFn Tryz.prog 26 [.sc (.pointer none)] H fun y H' => y = .sc (.bool false) ∧ H' = H := by
  refine AFn.intro (fn := Tryz.f26) (by kernel_rfl) rfl (by kernel_rfl) (by simp) (AW.ofx [] mixed (by kernel_rfl) ?_)
  simp only [Tryz.f26, argsF]
  simp [nilTr]
/-- Shapes by their numbers. -/
def sortS (S : List Sh) : List Sh := S.mergeSort fun p q => decide (p.id ≤ q.id)
theorem sortS_perm (S : List Sh) : (sortS S).Perm S := List.mergeSort_perm _ _
theorem sortS_rises (S : List Sh) : (sortS S).Pairwise fun p q => p.id ≤ q.id := by
  have := List.pairwise_mergeSort (le := fun p q : Sh => decide (p.id ≤ q.id)) (fun a b c h1 h2 => by simp at *; omega) (fun a b => by simp; omega) S
  simpa [sortS] using this
theorem sortS_unique {S L : List Sh} (hn : (S.map Sh.id).Nodup) (hp : L.Perm S) (hr : L.Pairwise fun p q => p.id ≤ q.id) : L = sortS S :=
  List.Perm.eq_of_pairwise (le := fun p q : Sh => p.id ≤ q.id) (fun x y hx hy h1 h2 => id_inj hn (hp.mem_iff.1 hx) ((sortS_perm S).mem_iff.1 hy) (Int.le_antisymm h1 h2)) hr (sortS_rises S) (hp.trans (sortS_perm S).symm)
theorem scs_shapes (zs : List Sh) : scs encS zs = zs.flatMap Sh.cs := rfl
def foundL (h : Re → Bool) (rc : Re) (S : List Sh) : List Sh := if rightR rc then sortS (hf h S) else []
theorem tfound {H : List Bk} {r : Nat} {S : List Sh} {T : Nat → Prop} (ht : TrS H r S T) {g : FuncId} {first cap : List V} {ir : Nat} {fb : Option Bk} {h : Re → Bool} (hH : HoldsOK g first cap ir fb h) (rc : Re) (hfb : ∀ q, fb = some q → H[ir]? = some q ∧ ∀ n l cu, q ≠ .iter n l cu) (hmt : rightR rc = true → ∀ b, rightR b = true → h b = true → meetsR b rc = true) :
    AFn Tryz.prog 42 [.ptr r 0, rc.v, .fn (.func g) first cap] H fun y H' => y = slS (foundL h rc S) ∧ Kp NoB H H' := by
  have hMade := fun L => tmade (ht.app (L := L))
  obtain ⟨b, m, I, es, hb, hT⟩ := id ht
  have hr := hb.cr
  have hr' := fun L => hget (L := L) hr
  have hR := gRight rc
  have hcs : rc.v = .agg rc.cs := rfl
  refine AFn.conv (Q := fun y H' => (y = slS (foundL h rc S) ∨ (y = .nil ∧ foundL h rc S = [])) ∧ Kp NoB H H') ?_ fun y H' hy => ⟨slS (foundL h rc S), ⟨rfl, hy.2⟩, fun I φ v hv => ?_⟩
  rotate_left
  · rcases hy.1 with rfl | ⟨rfl, e⟩
    · exact hv
    · rw [e]
      exact rel_nil_row hv
  unfold Re.v Re.cs at hR ⊢
  refine AFn.intro (fn := Tryz.f42) (by kernel_rfl) rfl (by kernel_rfl) (by simp) ?_
  simp only [Tryz.f42, argsF]
  refine AW.seq (AW.ofx [] mixed (by kernel_rfl) ?_)
  simp
  refine AW.seq (AW.ofx [] mixed (by kernel_rfl) ?_)
  simp
  refine callK.of (hMade _) ?_
  rintro y H1 ⟨rfl, rfl⟩
  simp
  refine callK.pure hR rfl rfl ?_
  cases hrr : rightR rc with
  | false =>
    simp
    exact ⟨by simp [foundL, hrr], Kp.refl.app⟩
  | true =>
    simp
    refine AW.seq (AW.ofx [] mixed (by kernel_rfl) ?_)
    simp
    refine AW.weakCell (ownS []) (id := H.length + 1) (off := 0) (by simp; rfl) rfl ⟨rfl, rfl, by decide⟩ rfl ?_
    have hset : ∀ (x : Bk) (y z : SV), setBlk (H ++ [x, .cells [y]]) (H.length + 1) 0 z = H ++ [x, .cells [z]] := fun x y z => by simp [setBlk]
    rw [hset]
    have hro : ∀ q, fb = some q → ir ≠ H.length + 1 ∧ ∀ n l cu, q ≠ .iter n l cu := fun q hq => ⟨by
      have := (List.getElem?_eq_some_iff.1 (hfb q hq).1).1
      omega, (hfb q hq).2⟩
    obtain ⟨H2, eH, p1, p2, p3, p4, p5⟩ : ∃ H2, H2 = H ++ [reB rc, .cells [ownS []]] ∧ H2[r]? = some (.cells [.v (.ptr b 0), .v (.map m)]) ∧ H2[H.length]? = some (reB rc) ∧ H2[H.length + 1]? = some (.cells [ownS []]) ∧ Kp NoB H H2 ∧ ∀ q, fb = some q → H2[ir]? = some q :=
      ⟨_, rfl, hr' _, by simp, by simp, Kp.refl.app, fun q hq => hget (hfb q hq).1⟩
    unfold reB at eH p2
    rw [← eH]
    have hlr := (List.getElem?_eq_some_iff.1 hr).1
    have hIo : ¬ I (H.length + 1) := fun e => by
      have := (hb.nd.lt _ e).1
      omega
    have hSr := nsearch hH (H.length + 1) rc hrr hro (hmt hrr) 17 root0 H2 S b I [] (Nd.keep p4 hb.nd fun _ _ => id) root_right (by decide) (fun s hs => ⟨root_under (hb.right s hs), hb.right s hs⟩) hIo p3 p5 (by have := hb.len; simp; omega)
    unfold Re.v Re.cs tellV at hSr
    refine AW.seq (AW.ofx [] mixed (by kernel_rfl) ?_)
    simp [p1, p2]
    refine callK.of hSr ?_
    rintro y H3 ⟨L, s1, s2, s3⟩
    simp
    rw [List.nil_append] at s2
    have hLl : L.length ≤ 100000 := by
      have h1 := s1.length_eq
      have h2 : (hf h S).length ≤ S.length := List.length_filter_le _ _
      have := hb.len
      omega
    refine AW.seq (AW.sortCell (i := H.length + 1) (ks := [ownS L]) (zs := L) (n := L.length) sortsShapes ⟨_, Tryz.func62, rfl, by kernel_rfl⟩ (fun x v hv => by simp [encS] at hv; rcases hv with rfl | rfl | rfl | rfl | rfl | rfl <;> rfl) rfl rfl rfl rfl rfl rfl rfl rfl rfl rfl rfl rfl rfl (by decide) (by decide) (by decide) (by decide) (by decide) (by decide) (by decide) (by decide) (by decide) (by simp) (by simp) ⟨_, Tryz.underlying22⟩ (by rfl) s2 rfl rfl (by omega) ?_)
    rintro ys ⟨y1, y2⟩ hl
    have hys : ys = foundL h rc S := by
      rw [foundL, if_pos hrr]
      exact sortS_unique (nodup_sub hb.ids) (y1.trans s1) y2
    rw [hl.symm, scs_shapes, setBlk_eq' s2]
    simp only [List.set_cons_zero]
    have hol := (List.getElem?_eq_some_iff.1 s2).1
    obtain ⟨H4, eH4, u1, u2⟩ : ∃ H4, H4 = H3.set (H.length + 1) (Bk.cells [SV.own true 32 ys.length 6 (List.flatMap Sh.cs ys)]) ∧ H4[H.length + 1]? = some (.cells [.own true 32 ys.length 6 (List.flatMap Sh.cs ys)]) ∧ Kp (fun x => H.length ≤ x) H H4 :=
      ⟨_, rfl, List.getElem?_set_self hol, ((p4.weak fun _ h => h.elim).trans (s3.weak fun x (hx : x = H.length + 1) => by omega)).set (by omega)⟩
    rw [← eH4]
    refine AW.ofx [] mixed (by kernel_rfl) ?_
    simp [u1]
    rw [setBlk_eq' u1, ← hys]
    refine ⟨rfl, ?_⟩
    exact Kp.new ((u2.weak fun x hx => .inr hx).set (.inr (by omega)))
end Go.Proofs.YtdeemchhbgomjaaGreat
