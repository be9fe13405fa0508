/- Review: for whom there is a point; forms; Rises, Idle, Areas, by the program. -/
import Derived.Test.YtbcfoakceloenaaDg1
import Derived.Test.YtbcfoakceloenaaBf
import Derived.Test.YtbcfoakceloenaaKn1
import Derived.Test.YtbcfoakceloenaaGg
namespace Go.Proofs.Ytbcfoakceloenaa
set_option linter.all false
open Go.RowKit AM Can
set_option maxRecDepth 10000
attribute [local simp] aw_skip' aw_region' aw_seq' aw_cond' aw_block' aw_loop' aw_exit' aw_label' aw_ret' aops_nil' aops_cons' aop' aMove aAssign aPick aAlloc aBox aBuild slF aBuildSlice aLoad aLoadOwn aStore aStoreOwn isOwn delR aNilCheck aBin aMakeFunc aFieldAddr aField aIndexAddr aExtract aSliceOp aSlice aCallOp aCall' aLen aLenMap aDelete aMM aUn aConv aIface aAssert aMakeMap aLookup aMapUpdate aRange aNext aEntry entsOf keyB seekK aMakeSlice lookV aAppend putK layK eval evalV AM.valOf getF putF setF del SV.refers cellsAt rootSV plains shift ldV V.exact V.exactL V.ofValue V.ofPart V.ofCell V.cells V.one Value.oneCell' fitB qSeq qBlock getB afin aret resVs resV resTmps shareF evalS tupV valsS valsV pickV calm calmB lenV useOf feeds looks isT newsV partsV fillV putAt zerosV fitsNil nilB sliceB isEq isNeq awx_skip' awx_region' awx_seq' awx_cond' awx_block' awx_loop' awx_exit' awx_label' awx_ret' xops_nil' xops_cons' xop' xload xcall' addO delO inO putD memB Mix.effB Mix.laysB keysF badK subW weakV zeroRow yops_nil' yops_cons' yop' yload yindex yfield ylen oldO dropO takeO oldL exactB
attribute [local simp] awz_skip' awz_region' awz_seq' awz_cond' awz_block' awz_loop' awz_exit' awz_label' awz_ret' zops_nil' zops_cons' zop' zload zloadOwn zcall' z0 new0 remF old0 dltB

def slW (ws : List Wo) : V := .sl ws.length 3 (ws.flatMap Wo.cs)
def ownW (ws : List Wo) : SV := .own true 24 ws.length 3 (ws.flatMap Wo.cs)
theorem slW_closed (ws : List Wo) : V.closed (slW ws) = true := by simp [slW, V.closed, closed_flat (enc := Wo.cs) (fun _ => rfl)]
theorem rowW {ws : List Wo} {k : Nat} (h : k < ws.length) : AM.rowAt 3 (ws.flatMap Wo.cs) (k : Int) = ws[k].cs := row_flat (enc := Wo.cs) (sz := 3) (fun _ => rfl) h
def pickW (p : Wo → Bool) (n : Nat) : List Wo := ((List.range n).map personN).filter p
theorem pickW_succ (p : Wo → Bool) (n : Nat) : pickW p (n + 1) = if p (personN n) then pickW p n ++ [personN n] else pickW p n := by
  unfold pickW
  rw [List.range_succ, List.map_append, List.filter_append]
  cases h : p (personN n) <;> simp [h]
theorem pickW_len (p : Wo → Bool) (n : Nat) : (pickW p n).length ≤ n := by
  have := List.length_filter_le p ((List.range n).map personN)
  simpa [pickW] using this
/-! ## What was looked at -/
def keyL (was is : List Ru) (w : Wo) : Value := .agg #[.int .u64 (bitsN (maskU was w) : Nat), .int .u64 (bitsN (maskU is w) : Nat)]
def valL (p : Wo → Bool) (w : Wo) : V := .sc (.int .i64 (if p w then 2 else 1))
def MemoL (p : Wo → Bool) (was is : List Ru) (es : List (Value × V)) : Prop := ∀ e ∈ es, ∃ w, e = (keyL was is w, valL p w)
/-- p hangs on the rules that are for someone alone. -/
def ByLot (p : Wo → Bool) (was is : List Ru) : Prop := ∀ w w', maskU was w = maskU was w' → maskU is w = maskU is w' → p w = p w'
theorem wsameL (a b a' b' : Int) : wsame [.int .u64 a, .int .u64 b] [.int .u64 a', .int .u64 b'] = some (a == a' && (b == b' && true)) := by simp [wsame]
theorem wgo_lots {p : Wo → Bool} {was is : List Ru} (hp : ByLot p was is) {w : Wo} : ∀ {es : List (Value × V)} {i : Nat}, MemoL p was is es →
    wgo [.int .u64 (bitsN (maskU was w) : Nat), .int .u64 (bitsN (maskU is w) : Nat)] es i = some none ∨ ∃ j, wgo [.int .u64 (bitsN (maskU was w) : Nat), .int .u64 (bitsN (maskU is w) : Nat)] es i = some (some (j, valL p w))
  | [], _, _ => .inl rfl
  | e :: es, i, h => by
    obtain ⟨w', rfl⟩ := h e (by simp)
    have ih := wgo_lots hp (w := w) (es := es) (i := i + 1) fun e he => h e (by simp [he])
    unfold keyL
    simp only [wgo, wsameL]
    cases hb : (((bitsN (maskU was w) : Nat) : Int) == (bitsN (maskU was w') : Nat) && (((bitsN (maskU is w) : Nat) : Int) == (bitsN (maskU is w') : Nat) && true)) with
    | true =>
      have hb1 : bitsN (maskU was w) = bitsN (maskU was w') ∧ bitsN (maskU is w) = bitsN (maskU is w') := by
        simp only [Bool.and_eq_true, beq_iff_eq, Bool.and_true] at hb
        omega
      have e1 := bitsN_inj (by simp only [maskU, List.length_map]) hb1.1
      have e2 := bitsN_inj (by simp only [maskU, List.length_map]) hb1.2
      refine .inr ⟨i, ?_⟩
      unfold valL
      rw [hp w w' e1 e2]
    | false => exact ih
theorem wgo_app {k : List Value} {v : V} {c : Array Value} (hk : wsame k c.toList = some true) : ∀ {es : List (Value × V)} {i : Nat}, wgo k es i = some none → wgo k (es ++ [(.agg c, v)]) i = some (some (i + es.length, v))
  | [], i, _ => by simp [wgo, hk]
  | (e, x) :: es, i, h => by
    cases e with
    | agg cs =>
      simp only [List.cons_append, wgo] at h ⊢
      split at h
      · cases h
      · rw [wgo_app hk h, List.length_cons]
        congr 3
        omega
      · cases h
    | _ => simp [wgo] at h
theorem zIntL : zeroV Try.prog 3 = some (.sc (.int .i64 0)) := by kernel_rfl
theorem wideLots : wideN Try.prog 106 = some 2 := by kernel_rfl
theorem wfind_lots (a b : Int) (es : List (Value × V)) : wfind Try.prog 106 (.agg #[.int .u64 a, .int .u64 b]) es = wgo [.int .u64 a, .int .u64 b] es 0 := by
  unfold wfind
  rw [wideLots]
  rfl
/-! ## One person -/
structure Wst (p : Wo → Bool) (g : FuncId) (most : Nat) (was is : List Ru) (n : Nat) (H : List Bk) : Prop where
  h0 : H[0]? = some (.cells [.v (slU was)])
  h1 : H[1]? = some (.cells [.v (slU is)])
  h2 : H[2]? = some (.cells [.v (.sc (.int .i64 most))])
  h3 : H[3]? = some (.cells [.v (.fn (.func g) [] [])])
  h4 : H[4]? = some (.cells [ownW (pickW p n)])
  h6 : H[6]? = some (.cells [.v (.map 5)])
  h5 : ∃ es, H[5]? = some (.map es) ∧ MemoL p was is es
def capW : List V := [.ptr 0 0, .ptr 1 0, .ptr 6 0, .ptr 3 0, .ptr 4 0, .ptr 2 0]
def loB (was is : List Ru) (w : Wo) : Bk := .cells [.v (.sc (.int .u64 (bitsN (maskU was w) : Nat))), .v (.sc (.int .u64 (bitsN (maskU is w) : Nat)))]
def W0F : Fr := [(1, .v (.ptr 0 0)), (2, .v (.ptr 1 0)), (3, .v (.ptr 6 0)), (4, .v (.ptr 3 0)), (5, .v (.ptr 4 0)), (6, .v (.ptr 2 0))]
def WmI (was is : List Ru) (w : Wo) (H0 : List Bk) (F : Fr) (H : List Bk) : Prop := H = H0 ++ [woB w, loB was is w] ∧ F = W0F ++ [(7, .v (.ptr H0.length 0)), (8, .v (.sc (.bool false))), (9, .v (.ptr (H0.length + 1) 0))]
/-- What was looked at, behind the look. -/
def WkI (p : Wo → Bool) (g : FuncId) (most : Nat) (was is : List Ru) (n : Nat) (w : Wo) (N : Nat) (F : Fr) (H : List Bk) : Prop := (Wst p g most was is n H ∧ H[N]? = some (woB w) ∧ H[N + 1]? = some (loB was is w) ∧ ∃ es j, H[5]? = some (.map es) ∧ wgo [.int .u64 (bitsN (maskU was w) : Nat), .int .u64 (bitsN (maskU is w) : Nat)] es 0 = some (some (j, valL p w))) ∧
  F = W0F ++ [(7, .v (.ptr N 0)), (8, .v (.sc (.bool false))), (9, .v (.ptr (N + 1) 0))]
set_option maxHeartbeats 16000000 in
theorem rwhose1 (q : Int → Int → Bool) (g : FuncId) (hq : HoldQ Try.prog g q) (most : Nat) (hm : most ≤ 1000) (was is : List Ru) (h1 : was.length ≤ 32) (h2 : is.length ≤ 32) (n1 : (boxesU was).length ≤ 1000) (n2 : (boxesU is).length ≤ 1000) (hp : ByLot (someP q was is) was is) :
    TellW Try.prog 62 capW (fun n => decide ((pickW (someP q was is) n).length < most)) (Wst (someP q was is) g most was is) := fun n H hn hW => by
  have hS := rsome q g hq was is (personN n) (by omega) (by omega) n1 n2
  have m1 := rmask was (personN n) h1 (fun r hr => by have := mem_le n1 r hr; omega)
  have m2 := rmask is (personN n) h2 (fun r hr => by have := mem_le n2 r hr; omega)
  have hpn := pickW_succ (someP q was is) n
  have hpl := pickW_len (someP q was is) n
  generalize personN n = w at *
  generalize hPdef : someP q was is = p at *
  obtain ⟨e0, e1, e2, e3, e4, e6, es, e5, hM⟩ := hW
  have c1 := slU_closed was
  have c2 := slU_closed is
  have l6 := (List.getElem?_eq_some_iff.1 e6).1
  have g0 := fun L => getA (L := L) e0
  have g1 := fun L => getA (L := L) e1
  have g2 := fun L => getA (L := L) e2
  have g3 := fun L => getA (L := L) e3
  have g4 := fun L => getA (L := L) e4
  have g5 := fun L => getA (L := L) e5
  have g6 := fun L => getA (L := L) e6
  unfold Wo.v Wo.cs at hS m1 m2 ⊢
  unfold capW
  refine AFn.intro (fn := Try.f62) (by kernel_rfl) rfl (by kernel_rfl) (by simp) ?_
  simp only [Try.f62, argsF]
  refine AW.seq (AW.ofx [] mixed (by kernel_rfl) ?_)
  simp
  refine AW.mid (WmI was is w H) (AW.regionFZ 7 8 mixed (Nat.le_of_ble_eq_true (by kernel_rfl)) (by decide) (by kernel_rfl) ?_) ?_
  · have hw := appL (H := H) (b := woB w)
    unfold slU at m1 m2 c1 c2 g0 g1
    simp only [V.closed] at c1 c2
    unfold woB at hw
    have z0 := fun L h => (List.getElem_eq_iff (i := 0) h).2 (g0 L)
    have z1 := fun L h => (List.getElem_eq_iff (i := 1) h).2 (g1 L)
    simp [floatZ', zopsB_nil', zopsB_ite, Mix.effB, zstep', hw, g0, g1, z0, z1]
    have ca : V.closedL [V.agg [.sc (.int .i64 w.ro), .sc (.int .i64 w.ti), .sc (.int .i64 w.la)], V.sl was.length 7 (was.flatMap Ru.cs)] = true := by simp [V.closedL, V.closed, c1]
    have cb : V.closedL [V.agg [.sc (.int .i64 w.ro), .sc (.int .i64 w.ti), .sc (.int .i64 w.la)], V.sl is.length 7 (is.flatMap Ru.cs)] = true := by simp [V.closedL, V.closed, c2]
    unfold WmI loB
    generalize bitsN (maskU was w) = ma at *
    generalize bitsN (maskU is w) = mb at *
    refine ⟨xcallK.of m1 ca rfl ?_, xcallK.of m1 ca rfl ?_⟩
    · simp [floatZ', zopsB_nil', zopsB_ite, Mix.effB, zstep', hw, g0, g1, z0, z1]
      refine ⟨xcallK.of m2 cb rfl ?_, xcallK.of m2 cb rfl ?_⟩
      · simp [floatZ', zopsB_nil', zopsB_ite, Mix.effB, zstep', hw, g0, g1, z0, z1, woB, setL2, W0F]
      · simp [floatZ', zopsB_nil', zopsB_ite, Mix.effB, zstep', hw, g0, g1, z0, z1, woB, setL2, W0F]
    · simp [floatZ', zopsB_nil', zopsB_ite, Mix.effB, zstep', hw, g0, g1, z0, z1]
      refine xcallK.of m2 cb rfl ?_
      simp [floatZ', zopsB_nil', zopsB_ite, Mix.effB, zstep', hw, g0, g1, z0, z1, woB, setL2, W0F]
  rintro F1 H1 ⟨rfl, rfl⟩
  unfold W0F
  have kN : (H ++ [woB w, loB was is w])[H.length]? = some (woB w) := by simp
  have kL : (H ++ [woB w, loB was is w])[H.length + 1]? = some (loB was is w) := by simp
  replace g0 := g0 [woB w, loB was is w]
  replace g1 := g1 [woB w, loB was is w]
  replace g2 := g2 [woB w, loB was is w]
  replace g3 := g3 [woB w, loB was is w]
  replace g4 := g4 [woB w, loB was is w]
  replace g5 := g5 [woB w, loB was is w]
  replace g6 := g6 [woB w, loB was is w]
  clear m1 m2 e0 e1 e2 e3 e4 e5 e6
  generalize H.length = N at *
  generalize H ++ [woB w, loB was is w] = H1 at *
  have hkey : keyL was is w = .agg #[.int .u64 (bitsN (maskU was w) : Nat), .int .u64 (bitsN (maskU is w) : Nat)] := rfl
  refine AW.mid (WkI p g most was is n w N) ?_ ?_
  · have hcase := wgo_lots hp (w := w) (es := es) (i := 0) hM
    have hWk : ∀ (H : List Bk) (es : List (Value × V)) (j : Nat), H[0]? = some (.cells [.v (slU was)]) → H[1]? = some (.cells [.v (slU is)]) → H[2]? = some (.cells [.v (.sc (.int .i64 most))]) → H[3]? = some (.cells [.v (.fn (.func g) [] [])]) → H[4]? = some (.cells [ownW (pickW p n)]) → H[6]? = some (.cells [.v (.map 5)]) → H[5]? = some (.map es) → MemoL p was is es → H[N]? = some (woB w) → H[N + 1]? = some (loB was is w) →
        wgo [.int .u64 (bitsN (maskU was w) : Nat), .int .u64 (bitsN (maskU is w) : Nat)] es 0 = some (some (j, valL p w)) → ∀ F, F = W0F ++ [(7, .v (.ptr N 0)), (8, .v (.sc (.bool false))), (9, .v (.ptr (N + 1) 0))] → WkI p g most was is n w N F H := fun H es j f0 f1 f2 f3 f4 f6 f5 fm fN fL fw F hF => ⟨⟨⟨f0, f1, f2, f3, f4, f6, es, f5, fm⟩, fN, fL, es, j, f5, fw⟩, hF⟩
    have hMn : ∀ v, v = valL p w → MemoL p was is (es ++ [(keyL was is w, v)]) := fun v hv e he => by
      rcases List.mem_append.1 he with he | he
      · exact hM e he
      · simp at he
        exact ⟨w, by rw [he, hv]⟩
    have hs1 := wsameL (bitsN (maskU was w) : Nat) (bitsN (maskU is w) : Nat) (bitsN (maskU was w) : Nat) (bitsN (maskU is w) : Nat)
    simp only [BEq.rfl, Bool.and_true] at hs1
    unfold keyL at hMn
    have kL2 := kL
    have kN2 := kN
    unfold loB at kL2
    unfold woB at kN2
    have g0u := g0
    have g1u := g1
    unfold slU at g0u g1u
    refine AW.ofx [] mixed (by kernel_rfl) ?_
    rcases hcase with hn | ⟨j, hj⟩
    · have k0 := killA (m := 5) g0u (by simp)
      have k1 := killA (m := 5) g1u (by simp)
      have k3 := killA (m := 5) g3 (by simp)
      have k6 := killA (m := 5) g6 (by simp)
      have kN3 := fun X => setOther (killA (m := 5) kN2 (by simp)) (show 5 ≠ N by omega) X
      have happ := fun v => wgo_app (k := [.int .u64 (bitsN (maskU was w) : Nat), .int .u64 (bitsN (maskU is w) : Nat)]) (c := #[.int .u64 (bitsN (maskU was w) : Nat), .int .u64 (bitsN (maskU is w) : Nat)]) (v := v) hs1 hn
      unfold slU at hS c1 c2
      simp only [V.closed] at c1 c2
      simp [g6, g5, kL2, wfind_lots, hn, zIntL, k0, k1, k3, k6, kN3]
      refine callK.pure hS (by simp [V.closedL, V.closed, c1, c2]) rfl ?_
      have q0 := fun X => setOther (killA (m := 5) g0 (by simp)) (show 5 ≠ 0 by omega) X
      have q1 := fun X => setOther (killA (m := 5) g1 (by simp)) (show 5 ≠ 1 by omega) X
      have q2 := fun X => setOther (killA (m := 5) g2 (by simp)) (show 5 ≠ 2 by omega) X
      have q3 := fun X => setOther (killA (m := 5) g3 (by simp)) (show 5 ≠ 3 by omega) X
      have q4 := fun X => setOther (killA (m := 5) g4 (by simp)) (show 5 ≠ 4 by omega) X
      have q6 := fun X => setOther (killA (m := 5) g6 (by simp)) (show 5 ≠ 6 by omega) X
      have qN := fun X => setOther (killA (m := 5) kN (fun _ _ _ e => by cases e)) (show 5 ≠ N by omega) X
      have qL := fun X => setOther (killA (m := 5) kL (fun _ _ _ e => by cases e)) (show 5 ≠ N + 1 by omega) X
      have q5 := fun X => killSelf (n := 5) (k := X) g5
      cases hpw : p w with
      | false =>
        simp
        refine ⟨_, ?_, hWk _ _ _ (q0 _) (q1 _) (q2 _) (q3 _) (q4 _) (q6 _) (q5 _) (hMn _ (by unfold valL; rw [hpw]; rfl)) (qN _) (qL _) (by rw [happ]; unfold valL; rw [hpw]; rfl) _ rfl⟩
        simp [subW, weakV, getF, W0F]
      | true =>
        have happ1 := happ (.sc (.int .i64 1))
        replace q0 := q0 (.map (es ++ [(.agg #[.int .u64 (bitsN (maskU was w) : Nat), .int .u64 (bitsN (maskU is w) : Nat)], .sc (.int .i64 1))]))
        replace q1 := q1 (.map (es ++ [(.agg #[.int .u64 (bitsN (maskU was w) : Nat), .int .u64 (bitsN (maskU is w) : Nat)], .sc (.int .i64 1))]))
        replace q2 := q2 (.map (es ++ [(.agg #[.int .u64 (bitsN (maskU was w) : Nat), .int .u64 (bitsN (maskU is w) : Nat)], .sc (.int .i64 1))]))
        replace q3 := q3 (.map (es ++ [(.agg #[.int .u64 (bitsN (maskU was w) : Nat), .int .u64 (bitsN (maskU is w) : Nat)], .sc (.int .i64 1))]))
        replace q4 := q4 (.map (es ++ [(.agg #[.int .u64 (bitsN (maskU was w) : Nat), .int .u64 (bitsN (maskU is w) : Nat)], .sc (.int .i64 1))]))
        replace q5 := q5 (.map (es ++ [(.agg #[.int .u64 (bitsN (maskU was w) : Nat), .int .u64 (bitsN (maskU is w) : Nat)], .sc (.int .i64 1))]))
        replace q6 := q6 (.map (es ++ [(.agg #[.int .u64 (bitsN (maskU was w) : Nat), .int .u64 (bitsN (maskU is w) : Nat)], .sc (.int .i64 1))]))
        replace qN := qN (.map (es ++ [(.agg #[.int .u64 (bitsN (maskU was w) : Nat), .int .u64 (bitsN (maskU is w) : Nat)], .sc (.int .i64 1))]))
        replace qL := qL (.map (es ++ [(.agg #[.int .u64 (bitsN (maskU was w) : Nat), .int .u64 (bitsN (maskU is w) : Nat)], .sc (.int .i64 1))]))
        generalize (killIt 5 H1).set 5 (.map (es ++ [(.agg #[.int .u64 (bitsN (maskU was w) : Nat), .int .u64 (bitsN (maskU is w) : Nat)], .sc (.int .i64 1))])) = H2 at *
        have qL2 := qL
        unfold loB at qL2
        simp [q6, q5, qL2, wfind_lots, happ1]
        refine ⟨_, ?_, hWk _ _ _ (setOther (killA (m := 5) q0 (by simp)) (show 5 ≠ 0 by omega) _) (setOther (killA (m := 5) q1 (by simp)) (show 5 ≠ 1 by omega) _) (setOther (killA (m := 5) q2 (by simp)) (show 5 ≠ 2 by omega) _) (setOther (killA (m := 5) q3 (by simp)) (show 5 ≠ 3 by omega) _) (setOther (killA (m := 5) q4 (by simp)) (show 5 ≠ 4 by omega) _) (setOther (killA (m := 5) q6 (by simp)) (show 5 ≠ 6 by omega) _) (killSelf (n := 5) q5) (hMn (.sc (.int .i64 2)) (by unfold valL; rw [hpw]; rfl)) (setOther (killA (m := 5) qN (fun _ _ _ e => by cases e)) (show 5 ≠ N by omega) _) (setOther (killA (m := 5) qL (fun _ _ _ e => by cases e)) (show 5 ≠ N + 1 by omega) _) (by rw [happ]; unfold valL; rw [hpw]; rfl) _ rfl⟩
        simp [subW, weakV, getF, W0F]
    · have hv : ((if p w = true then (2 : Int) else 1) == 0) = false := by cases p w <;> rfl
      simp [g6, g5, kL2, wfind_lots, hj, valL, zIntL, hv]
      refine ⟨_, ?_, hWk _ _ _ g0 g1 g2 g3 g4 g6 g5 hM kN kL hj _ rfl⟩
      simp [subW, weakV, getF, W0F]
  rintro F2 H2 ⟨⟨⟨g0, g1, g2, g3, g4, g6, es2, g5, hM2⟩, kN, kL, es3, j, g5', hw⟩, rfl⟩
  obtain rfl : es2 = es3 := by
    have := g5.symm.trans g5'
    simpa using this
  unfold W0F
  unfold loB at kL
  unfold woB at kN
  refine AW.ofx [] mixed (by kernel_rfl) ?_
  unfold ownW at g4
  cases hpw : p w with
  | true =>
    have hv : valL p w = .sc (.int .i64 2) := by unfold valL; rw [hpw]; rfl
    rw [hv] at hw
    rw [hpw] at hpn
    have a1 := fun y => setBlk1 (y := y) g4
    have a2 := fun X => setSelf (k := X) g4
    have a3 := fun y => (setBlk1 (y := y) (a2 (.cells [.any]))).trans (List.set_set ..)
    have aN := fun X => setOther kN (show 4 ≠ N by omega) X
    have a5 := fun X => setOther g2 (show 4 ≠ 2 by omega) X
    simp only [if_true] at hpn
    have hpn2 : (pickW p (n + 1)).length = (pickW p n).length + 1 := by rw [hpn]; simp
    have w1 : IntKind.i64.wrap ((pickW p n).length + 1 : Nat) = ((pickW p n).length : Int) + 1 := by rw [wrap_i64] <;> omega
    rw [hpn2]
    simp [g6, g5, kL, wfind_lots, hw, zIntL, g4, kN, a1, a2, a3, aN, a5, g2]
    refine ⟨⟨by omega, by omega⟩, by omega, ⟨setOther g0 (by omega) _, setOther g1 (by omega) _, setOther g2 (by omega) _, setOther g3 (by omega) _, ?_, setOther g6 (by omega) _, es2, setOther g5 (by omega) _, hM2⟩⟩
    rw [a2, hpn]
    simp [ownW, Wo.cs]
  | false =>
    have hv : valL p w = .sc (.int .i64 1) := by unfold valL; rw [hpw]; rfl
    rw [hv] at hw
    rw [hpw] at hpn
    simp at hpn
    rw [hpn]
    simp [g6, g5, kL, wfind_lots, hw, zIntL, g4, kN, g2]
    exact ⟨g0, g1, g2, g3, by rw [hpn]; exact g4, g6, es2, g5, hM2⟩
/-! ## Everyone for whom there is a point -/
/-- All for whom there is a point, most at most. -/
def whoP (q : Int → Int → Bool) (was is : List Ru) (most : Nat) : List Wo := (pickW (someP q was is) 512).take most
theorem pickW_take (p : Wo → Bool) {n m : Nat} (h : n ≤ m) : ∃ l, pickW p m = pickW p n ++ l := by
  induction m with
  | zero => exact ⟨[], by rw [show n = 0 by omega]; rfl⟩
  | succ m ih =>
    by_cases e : n = m + 1
    · subst e; exact ⟨[], by simp⟩
    · obtain ⟨l, hl⟩ := ih (by omega)
      rw [pickW_succ, hl]
      split
      · exact ⟨l ++ [personN m], by simp⟩
      · exact ⟨l, rfl⟩
theorem gone_who {p : Wo → Bool} {most n : Nat} (h0 : 0 < most) (hn : n ≤ 512) (hgo : ∀ j, 0 < j → j < n → (pickW p j).length < most) (he : n = 512 ∨ 0 < n ∧ ¬ (pickW p n).length < most) : pickW p n = (pickW p 512).take most := by
  rcases he with rfl | ⟨h1, h2⟩
  · have h511 := hgo 511 (by omega) (by omega)
    have hs := pickW_succ p 511
    rw [List.take_of_length_le]
    rw [hs]
    split
    · rw [List.length_append, List.length_singleton]; omega
    · omega
  · obtain ⟨l, hl⟩ := pickW_take p hn
    have hlen : (pickW p n).length = most := by
      obtain ⟨k, rfl⟩ : ∃ k, n = k + 1 := ⟨n - 1, by omega⟩
      have hk : (pickW p k).length < most := by
        by_cases e : k = 0
        · subst e
          simpa [pickW] using h0
        · exact hgo k (by omega) (by omega)
      rw [pickW_succ] at h2 ⊢
      split at h2
      · rename_i hp
        rw [if_pos hp]
        rw [List.length_append, List.length_singleton] at h2 ⊢
        omega
      · omega
    rw [hl, ← hlen, List.take_left]
set_option maxHeartbeats 4000000 in
theorem rwhose (q : Int → Int → Bool) (g : FuncId) (hq : HoldQ Try.prog g q) (most : Nat) (h0 : 0 < most) (hm : most ≤ 1000) (was is : List Ru) (h1 : was.length ≤ 32) (h2 : is.length ≤ 32) (n1 : (boxesU was).length ≤ 1000) (n2 : (boxesU is).length ≤ 1000) (hp : ByLot (someP q was is) was is) :
    PFn Try.prog 42 [slU was, slU is, .sc (.int .i64 most), .fn (.func g) [] []] (slW (whoP q was is most)) := by
  have hT := rwhose1 q g hq most hm was is h1 h2 n1 n2 hp
  have hE := fun H h => reveryone 62 capW _ _ hT H h
  unfold whoP
  generalize someP q was is = p at *
  have c1 := slU_closed was
  have c2 := slU_closed is
  unfold capW at hE
  have hE0 := hE [.cells [.v (slU was)], .cells [.v (slU is)], .cells [.v (.sc (.int .i64 most))], .cells [.v (.fn (.func g) [] [])], .cells [ownW []], .map [], .cells [.v (.map 5)]] ⟨rfl, rfl, rfl, rfl, by simp [pickW], rfl, [], rfl, fun e he => by simp at he⟩
  have hE1 : AFn Try.prog _ _ [.cells [.v (slU was)], .cells [.v (slU is)], .cells [.v (.sc (.int .i64 most))], .cells [.v (.fn (.func g) [] [])], .cells [.v .nil], .map [], .cells [.v (.map 5)]] _ := hE0.weakCell (id := 4) (off := 0) (ks := [.v .nil]) (ownW []) rfl rfl (by simp [ownW, zeroRow]) rfl
  clear hE hE0
  unfold slU at hE1 c1 c2 ⊢
  refine AFn.intro (fn := Try.f42) (by kernel_rfl) rfl (by kernel_rfl) (by simp) ?_
  simp only [Try.f42, argsF]
  refine AW.seq (AW.ofx [] mixed (by kernel_rfl) ?_)
  simp
  refine AW.seq (AW.ofx [] mixed (by kernel_rfl) ?_)
  simp
  refine AW.seq (AW.ofx [] mixed (by kernel_rfl) ?_)
  simp [setCells, setBlk]
  refine AW.seq (AW.ofx [] mixed (by kernel_rfl) ?_)
  simp
  refine callK.of hE1 ?_
  rintro y H2 ⟨n, hn, hW, hgo, he⟩
  have hres : pickW p n = (pickW p 512).take most := gone_who h0 hn (fun j h1 h2 => by simpa using hgo j h1 h2) (he.imp id fun h => ⟨h.1, by simpa using h.2⟩)
  have hid := hW.h4
  rw [hres] at hid
  generalize (pickW p 512).take most = r at *
  simp
  refine AW.asSlCell (off := 0) hid (by unfold ownW; rfl) ?_
  simp only [List.set_cons_zero]
  have hid2 := setSelf (k := .cells [.v (V.sl r.length 3 (r.flatMap Wo.cs))]) hid
  refine AW.ofx [] mixed (by kernel_rfl) ?_
  simp [hid2, slW]
end Go.Proofs.Ytbcfoakceloenaa
namespace Go.Proofs.Ytbcfoakceloenaa
set_option linter.all false
open Go.RowKit AM Can
set_option maxRecDepth 10000

def inG (x y : Int) : Bool := decide ((0 ≤ x ∧ x < 65536) ∧ 0 ≤ y ∧ y < 65536)
/-- What a point is labelled with, by two sets. -/
def FZ2 (q : Int → Int → Bool) (was is : List Ru) (w : Wo) (x y : Int) : Option (Int × Int) :=
  if inG x y = true ∧ q (zoomR was w.ro w.ti w.la ⟨x, y⟩) (zoomR is w.ro w.ti w.la ⟨x, y⟩) = true then some (zoomR was w.ro w.ti w.la ⟨x, y⟩, zoomR is w.ro w.ti w.la ⟨x, y⟩) else none
theorem FZ2_some {q : Int → Int → Bool} {was is : List Ru} {w : Wo} {x y : Int} {z : Int × Int} : FZ2 q was is w x y = some z ↔ inG x y = true ∧ q z.1 z.2 = true ∧ zoomR was w.ro w.ti w.la ⟨x, y⟩ = z.1 ∧ zoomR is w.ro w.ti w.la ⟨x, y⟩ = z.2 := by
  obtain ⟨z1, z2⟩ := z
  unfold FZ2
  constructor
  · intro h
    split at h
    · rename_i h1
      simp only [Option.some.injEq, Prod.mk.injEq] at h
      obtain ⟨rfl, rfl⟩ := h
      exact ⟨h1.1, h1.2, rfl, rfl⟩
    · cases h
  · rintro ⟨h1, h2, h3, h4⟩
    simp only at h2 h3 h4
    rw [h3, h4, if_pos ⟨h1, h2⟩]
theorem FZ2_none {q : Int → Int → Bool} {was is : List Ru} {w : Wo} {x y : Int} : FZ2 q was is w x y = none ↔ (inG x y = true → q (zoomR was w.ro w.ti w.la ⟨x, y⟩) (zoomR is w.ro w.ti w.la ⟨x, y⟩) = false) := by
  unfold FZ2
  split
  · rename_i h
    simp only [reduceCtorEq, false_iff]
    intro k
    rw [k h.1] at h
    cases h.2
  · rename_i h
    simp only [true_iff]
    intro k
    rw [Bool.eq_false_iff]
    exact fun e => h ⟨k, e⟩
/-! ## Rules that are for someone -/
theorem forU_right {r : Ru} {ro ti la : Int} (h : forU r ro ti la = true) : ruRight r = true := by
  unfold forU at h
  simp at h
  exact h.1.1.1.1.1.1
theorem forL_right (l : List Ru) (ro ti la : Int) : (forL l ro ti la).all ruRight = true := List.all_eq_true.2 fun r hr => forU_right (List.mem_filter.1 hr).2
theorem zoom_forL {l : List Ru} (ha : l.all ruRight = true) (ro ti la : Int) (p : Pt) : zoomR (forL l ro ti la) ro ti la p = zoomR l ro ti la p := by
  rw [zoomR_L ha, zoomR_L (forL_right l ro ti la)]
  unfold forL
  rw [zoomL_filter]
  refine zoomL_congr fun r _ => ?_
  unfold for2U
  cases forU r ro ti la <;> simp
theorem mask_forL : ∀ {l : List Ru} {w w' : Wo}, maskU l w = maskU l w' → forL l w.ro w.ti w.la = forL l w'.ro w'.ti w'.la
  | [], _, _, _ => rfl
  | r :: l, w, w', h => by
    unfold maskU at h
    simp only [List.map_cons, List.cons.injEq] at h
    have ih := mask_forL (l := l) (w := w) (w' := w') h.2
    unfold forL at ih ⊢
    rw [List.filter_cons, List.filter_cons, ih, h.1]
theorem zoom_mask {l : List Ru} (ha : l.all ruRight = true) {w w' : Wo} (h : maskU l w = maskU l w') (p : Pt) : zoomR l w.ro w.ti w.la p = zoomR l w'.ro w'.ti w'.la p := by
  rw [zoomR_P ha, zoomR_P ha, mask_forL h]
/-! ## Cuts -/
theorem zoom_sameX {l : List Ru} (ha : l.all ruRight = true) {ro ti la : Int} {xs : List Int} (hx : ∀ c ∈ boxesU l, c.x0 ∈ xs ∧ c.x1 + 1 ∈ xs) {x x' : Int} (h : ∀ c ∈ xs, c ≤ x ↔ c ≤ x') (y : Int) : zoomR l ro ti la ⟨x, y⟩ = zoomR l ro ti la ⟨x', y⟩ := by
  rw [zoomR_L ha, zoomR_L ha]
  exact zoomL_congr fun r hr => by unfold for2U; rw [hasB_sameX (fun c hc => hx c (mem_boxes hr hc)) h]
theorem zoom_sameY {l : List Ru} (ha : l.all ruRight = true) {ro ti la : Int} {ys : List Int} (hy : ∀ c ∈ boxesU l, c.y0 ∈ ys ∧ c.y1 + 1 ∈ ys) {y y' : Int} (h : ∀ c ∈ ys, c ≤ y ↔ c ≤ y') (x : Int) : zoomR l ro ti la ⟨x, y⟩ = zoomR l ro ti la ⟨x, y'⟩ := by
  rw [zoomR_L ha, zoomR_L ha]
  exact zoomL_congr fun r hr => by unfold for2U; rw [hasB_sameY (fun c hc => hy c (mem_boxes hr hc)) h]
/-- Numbers among which are all at which something may change. -/
structure CutG (l : List Re) (d : Bool) (xs : List Int) : Prop where
  lt : xs.Pairwise (· < ·)
  zero : 0 ∈ xs
  top : 65536 ∈ xs
  within : ∀ x ∈ xs, 0 ≤ x ∧ x ≤ 65536
  ends : ∀ c ∈ l, lo d c ∈ xs ∧ hi d c + 1 ∈ xs
section
variable {q : Int → Int → Bool} {a b : List Ru} {w : Wo} {xs ys : List Int} (ha : a.all ruRight = true) (hb : b.all ruRight = true)
include ha hb
theorem fz_cuts (hx : CutG (boxesU a ++ boxesU b) false xs) (y : Int) : Cuts (fun x => FZ2 q a b w x y) xs := by
  refine ⟨hx.lt, fun x x' h => ?_, fun x h => ?_, fun x h => ?_⟩
  · have e1 := zoom_sameX ha (ro := w.ro) (ti := w.ti) (la := w.la) (fun c hc => hx.ends c (List.mem_append.2 (.inl hc))) h y
    have e2 := zoom_sameX hb (ro := w.ro) (ti := w.ti) (la := w.la) (fun c hc => hx.ends c (List.mem_append.2 (.inr hc))) h y
    have h0 := h 0 hx.zero
    have h1 := h 65536 hx.top
    have e3 : inG x y = inG x' y := by unfold inG; rw [decide_eq_decide]; omega
    simp only [FZ2, e1, e2, e3]
  · have := h 0 hx.zero
    refine FZ2_none.2 fun hg => ?_
    unfold inG at hg
    simp at hg
    omega
  · have := h 65536 hx.top
    refine FZ2_none.2 fun hg => ?_
    unfold inG at hg
    simp at hg
    omega
theorem fz_cutsY (hy : CutG (boxesU a ++ boxesU b) true ys) : CutsY (FZ2 q a b w) ys := by
  refine ⟨hy.lt, fun x y y' h => ?_, fun x y h => ?_, fun x y h => ?_⟩
  · have e1 := zoom_sameY ha (ro := w.ro) (ti := w.ti) (la := w.la) (fun c hc => hy.ends c (List.mem_append.2 (.inl hc))) h x
    have e2 := zoom_sameY hb (ro := w.ro) (ti := w.ti) (la := w.la) (fun c hc => hy.ends c (List.mem_append.2 (.inr hc))) h x
    have h0 := h 0 hy.zero
    have h1 := h 65536 hy.top
    have e3 : inG x y = inG x y' := by unfold inG; rw [decide_eq_decide]; omega
    simp only [FZ2, e1, e2, e3]
  · have := h 0 hy.zero
    refine FZ2_none.2 fun hg => ?_
    unfold inG at hg
    simp at hg
    omega
  · have := h 65536 hy.top
    refine FZ2_none.2 fun hg => ?_
    unfold inG at hg
    simp at hg
    omega
theorem runsK_congr {L : Type} [DecidableEq L] {f g : Int → Option L} {xs : List Int} : ∀ n, (∀ k, k < n → ∀ hk : k + 1 < xs.length, f xs[k] = g xs[k]) → runsK f xs n = runsK g xs n
  | 0, _ => rfl
  | n + 1, h => by
    have ih := runsK_congr n fun k hk => h k (by omega)
    by_cases hn : n + 1 < xs.length
    · rw [runsK_succ hn, runsK_succ hn, ih]
      unfold Can.step
      rw [h n (by omega) hn]
    · rw [runsK, runsK, ih]
      have : xs[n + 1]? = none := List.getElem?_eq_none (by omega)
      rw [this]
      cases xs[n]? <;> rfl
theorem CutG.cut_in {l : List Re} {d : Bool} {xs : List Int} (h : CutG l d xs) {k : Nat} (hk : k + 1 < xs.length) : 0 ≤ xs[k] ∧ xs[k] < 65536 := by
  have h1 := h.within _ (List.getElem_mem (l := xs) (n := k) (by omega))
  have h2 := h.within _ (List.getElem_mem hk)
  have h3 := pair_lt h.lt (i := k) (j := k + 1) (by omega) hk (by omega)
  omega
theorem row_fz (hx : CutG (boxesU a ++ boxesU b) false xs) {y : Int} (hy : 0 ≤ y ∧ y < 65536) : rowOf q a b w xs y = runsK (fun x => FZ2 q a b w x y) xs (xs.length - 1) := by
  refine runsK_congr ha hb _ fun k hk hk1 => ?_
  have := CutG.cut_in ha hb hx hk1
  unfold labO FZ2
  have e : inG xs[k] y = true := by unfold inG; simp; omega
  rw [e]
  simp
theorem out_form (hx : CutG (boxesU a ++ boxesU b) false xs) (hy : CutG (boxesU a ++ boxesU b) true ys) : Can.Form (FZ2 q a b w) (outO q a b w xs ys (ys.length - 1)) := by
  have hR : Can.Rows (FZ2 q a b w) (fun y => runsK (fun x => FZ2 q a b w x y) xs (xs.length - 1)) := fun y => (fz_cuts ha hb hx y).can
  have e : outO q a b w xs ys (ys.length - 1) = emit (runsK (bandF fun y => runsK (fun x => FZ2 q a b w x y) xs (xs.length - 1)) ys (ys.length - 1)) := by
    unfold outO
    rw [runsK_congr ha hb _ fun k hk hk1 => ?_]
    unfold bandF
    rw [row_fz ha hb hx (CutG.cut_in ha hb hy hk1)]
  rw [e]
  exact (fz_cutsY ha hb hy).form hR
end
theorem cutE_cut {l : List Ru} (hr : ∀ b ∈ boxesU l, rightR b = true) (d : Bool) : CutG (boxesU l) d (cutE l d) := by
  have hs := numsC_spec (endE d (boxesU l))
  refine ⟨hs.1, (hs.2 _).2 (by simp [endE]), (hs.2 _).2 (by simp [endE]), cutE_in hr d, fun c hc => ⟨(hs.2 _).2 (List.mem_append.2 (.inr (endsD_mem.2 ⟨c, hc, .inl rfl⟩))), (hs.2 _).2 (List.mem_append.2 (.inr (endsD_mem.2 ⟨c, hc, .inr rfl⟩)))⟩⟩
theorem edgesR_cut {l : List Re} (hr : ∀ b ∈ l, rightR b = true) (d : Bool) : CutG l d (edgesR l d) := by
  have hs := edgesR_spec l d
  exact ⟨hs.1, (hs.2 _).2 (.inl rfl), (hs.2 _).2 (.inr (.inl rfl)), edges_in hr d, fun c hc => ⟨(hs.2 _).2 (.inr (.inr ⟨c, hc, .inl rfl⟩)), (hs.2 _).2 (.inr (.inr ⟨c, hc, .inr rfl⟩))⟩⟩
theorem fz_forL {q : Int → Int → Bool} {was is : List Ru} (ha : was.all ruRight = true) (hb : is.all ruRight = true) (w : Wo) : FZ2 q (forL was w.ro w.ti w.la) (forL is w.ro w.ti w.la) w = FZ2 q was is w := by
  funext x y
  simp only [FZ2, zoom_forL ha, zoom_forL hb]
theorem ovP_form (q : Int → Int → Bool) {was is : List Ru} (ha : was.all ruRight = true) (hb : is.all ruRight = true) (w : Wo) : Can.Form (FZ2 q was is w) (ovP q was is w) := by
  rw [← fz_forL ha hb w]
  have hr := both_right was is w
  have h1 := cutE_cut hr false
  have h2 := cutE_cut hr true
  rw [boxesU_app] at h1 h2
  exact out_form (forL_right _ _ _ _) (forL_right _ _ _ _) h1 h2
theorem byLot (q : Int → Int → Bool) {was is : List Ru} (ha : was.all ruRight = true) (hb : is.all ruRight = true) : ByLot (someP q was is) was is := fun w w' h1 h2 => by
  have e : FZ2 q was is w = FZ2 q was is w' := by
    funext x y
    simp only [FZ2, zoom_mask ha h1, zoom_mask hb h2]
  have f1 := ovP_form q ha hb w
  rw [e] at f1
  unfold someP
  rw [f1.uniq (ovP_form q ha hb w')]
theorem someP_iff (q : Int → Int → Bool) {was is : List Ru} (ha : was.all ruRight = true) (hb : is.all ruRight = true) (w : Wo) : someP q was is w = true ↔ ∃ x y, inG x y = true ∧ q (zoomR was w.ro w.ti w.la ⟨x, y⟩) (zoomR is w.ro w.ti w.la ⟨x, y⟩) = true := by
  have f1 := (ovP_form q ha hb w).nil_iff
  unfold someP
  rw [decide_eq_true_iff, List.length_pos_iff, Ne, f1]
  constructor
  · intro h
    refine Classical.byContradiction fun k => h fun x y => FZ2_none.2 fun hg => ?_
    rw [Bool.eq_false_iff]
    exact fun e => k ⟨x, y, hg, e⟩
  · rintro ⟨x, y, h1, h2⟩ k
    have := FZ2_none.1 (k x y) h1
    rw [h2] at this
    cases this
end Go.Proofs.Ytbcfoakceloenaa
namespace Go.Proofs.Ytbcfoakceloenaa
set_option linter.all false
open Go.RowKit AM Can
set_option maxRecDepth 10000
attribute [local simp] aw_skip' aw_region' aw_seq' aw_cond' aw_block' aw_loop' aw_exit' aw_label' aw_ret' aops_nil' aops_cons' aop' aMove aAssign aPick aAlloc aBox aBuild slF aBuildSlice aLoad aLoadOwn aStore aStoreOwn isOwn delR aNilCheck aBin aMakeFunc aFieldAddr aField aIndexAddr aExtract aSliceOp aSlice aCallOp aCall' aLen aLenMap aDelete aMM aUn aConv aIface aAssert aMakeMap aLookup aMapUpdate aRange aNext aEntry entsOf keyB seekK aMakeSlice lookV aAppend putK layK eval evalV AM.valOf getF putF setF del SV.refers cellsAt rootSV plains shift ldV V.exact V.exactL V.ofValue V.ofPart V.ofCell V.cells V.one Value.oneCell' fitB qSeq qBlock getB afin aret resVs resV resTmps shareF evalS tupV valsS valsV pickV calm calmB lenV useOf feeds looks isT newsV partsV fillV putAt zerosV fitsNil nilB sliceB isEq isNeq awx_skip' awx_region' awx_seq' awx_cond' awx_block' awx_loop' awx_exit' awx_label' awx_ret' xops_nil' xops_cons' xop' xload xcall' addO delO inO putD memB Mix.effB Mix.laysB keysF badK subW weakV zeroRow yops_nil' yops_cons' yop' yload yindex yfield ylen oldO dropO takeO oldL exactB
attribute [local simp] awz_skip' awz_region' awz_seq' awz_cond' awz_block' awz_loop' awz_exit' awz_label' awz_ret' zops_nil' zops_cons' zop' zload zloadOwn zcall' z0 new0 remF old0 dltB

theorem askL_zero {ls : List (List Ru)} (h : askL ls = 0) : (∀ l ∈ ls, l.length ≤ 32) ∧ ∀ l ∈ ls, l.all ruRight = true := by
  unfold askL at h
  split at h
  · rename_i h1
    split at h
    · rename_i h2
      exact ⟨fun l hl => by simpa using List.all_eq_true.1 h1 l hl, fun l hl => List.all_eq_true.1 h2 l hl⟩
    · cases h
  · cases h
def rsP (was is : List Ru) : List Wo := if askL [was, is] = 0 then whoP ltB was is 512 else []
theorem rrises (was is : List Ru) (h1 : was.length ≤ 9223372036854775807) (h2 : is.length ≤ 9223372036854775807) (b1 : ∀ r ∈ was, r.boxes.length ≤ 9223372036854775807) (b2 : ∀ r ∈ is, r.boxes.length ≤ 9223372036854775807)
    (hs : askL [was, is] = 0 → (boxesU was).length ≤ 1000 ∧ (boxesU is).length ≤ 1000) :
    PFn Try.prog 20 [slU was, slU is] (.tup [slW (rsP was is), .sc (.int .i64 (askL [was, is]))]) := by
  have hA := rvAsk [was, is] (by simp) (by simp; exact ⟨h1, h2⟩) (by simp; exact ⟨b1, b2⟩)
  have c1 := slU_closed was
  have c2 := slU_closed is
  unfold slsU at hA
  simp only [List.length_cons, List.length_nil, List.map_cons, List.map_nil] at hA
  by_cases h0 : askL [was, is] = 0
  · obtain ⟨n1, n2⟩ := hs h0
    obtain ⟨k1, k2⟩ := askL_zero h0
    have e1 : rsP was is = whoP ltB was is 512 := if_pos h0
    have hW := rwhose ltB 43 hRise 512 (by decide) (by decide) was is (k1 _ (by simp)) (k1 _ (by simp)) n1 n2 (byLot ltB (k2 _ (by simp)) (k2 _ (by simp)))
    have cW := slW_closed (whoP ltB was is 512)
    rw [h0] at hA ⊢
    rw [e1]
    generalize slW (whoP ltB was is 512) = r at *
    unfold slU at hA c1 c2 hW ⊢
    simp only [V.closed] at c1 c2
    refine AFn.intro (fn := Try.f20) (by kernel_rfl) rfl (by kernel_rfl) (by simp) (AW.ofx [] mixed (by kernel_rfl) ?_)
    simp only [Try.f20, argsF]
    simp
    refine callK.pure hA (by simp [V.closedL, V.closed, c1, c2]) rfl ?_
    simp
    refine callK.pure hW (by simp [V.closedL, V.closed, c1, c2]) cW ?_
    simp
  · have e1 : rsP was is = [] := if_neg h0
    rw [e1]
    refine AFn.out (r := .tup [.nil, .sc (.int .i64 (askL [was, is]))]) ?_ fun I φ v hv => rel_tup_nil hv
    show PFn _ _ _ _
    generalize askL [was, is] = n at *
    have hb : (n != 0) = true := by simpa using h0
    unfold slU at hA c1 c2 ⊢
    simp only [V.closed] at c1 c2
    refine AFn.intro (fn := Try.f20) (by kernel_rfl) rfl (by kernel_rfl) (by simp) (AW.ofx [] mixed (by kernel_rfl) ?_)
    simp only [Try.f20, argsF]
    simp
    refine callK.pure hA (by simp [V.closedL, V.closed, c1, c2]) rfl ?_
    simp [hb]
/-! ## Rules that do nothing -/
def restU (l : List Ru) (i : Nat) : List Ru := l.take i ++ l.drop (i + 1)
def idleB (l : List Ru) (i : Nat) : Bool := decide (bitsN (cloakL l) = bitsN (cloakL (restU l i))) && decide ((whoP neB l (restU l i) 1).length = 0)
def idlK (l : List Ru) (k : Nat) : List Int := ((List.range k).filter (idleB l)).map fun i : Nat => (i : Int)
theorem idlK_succ (l : List Ru) (k : Nat) : idlK l (k + 1) = if idleB l k then idlK l k ++ [(k : Int)] else idlK l k := by
  unfold idlK
  rw [List.range_succ, List.filter_append]
  cases h : idleB l k <;> simp [h]
theorem idlK_len (l : List Ru) (k : Nat) : (idlK l k).length ≤ k := by
  have := List.length_filter_le (idleB l) (List.range k)
  simpa [idlK] using this
def idP (l : List Ru) : List Int := if askL [l] = 0 then idlK l l.length else []
def IdI (l : List Ru) (k : Nat) (F : Fr) (H : List Bk) : Prop := F = [(0, .v (slU l)), (5, ownI (idlK l k)), (15, .v (.sc (.int .i64 l.length))), (16, .v (.sc (.int .i64 k)))]
theorem flatK_take {α : Type} {enc : α → List V} {sz : Nat} (he : ∀ x, (enc x).length = sz) : ∀ (xs : List α) (n : Nat), (xs.flatMap enc).take (n * sz) = (xs.take n).flatMap enc
  | [], n => by simp
  | x :: xs, 0 => by simp
  | x :: xs, n + 1 => by
    have ih := flatK_take he xs n
    rw [List.flatMap_cons, List.take_succ_cons, List.flatMap_cons, List.take_append, List.take_of_length_le (by rw [he]; exact Nat.le_mul_of_pos_left _ (by omega)), he, Nat.succ_mul, Nat.add_sub_cancel, ih]
theorem flatK_drop {α : Type} {enc : α → List V} {sz : Nat} (he : ∀ x, (enc x).length = sz) : ∀ (xs : List α) (n : Nat), (xs.flatMap enc).drop (n * sz) = (xs.drop n).flatMap enc
  | [], n => by simp
  | x :: xs, 0 => by simp
  | x :: xs, n + 1 => by
    have ih := flatK_drop he xs n
    rw [List.flatMap_cons, List.drop_succ_cons, List.drop_append, List.drop_of_length_le (by rw [he]; exact Nat.le_mul_of_pos_left _ (by omega)), he, Nat.succ_mul, Nat.add_sub_cancel, ih, List.nil_append]
theorem piece_flat {α : Type} {enc : α → List V} {sz : Nat} (he : ∀ x, (enc x).length = sz) (xs : List α) (a b : Int) : piece sz (xs.flatMap enc) a b = ((xs.drop a.toNat).take (b - a).toNat).flatMap enc := by
  unfold piece
  rw [flatK_drop he, flatK_take he]
theorem restU_len (l : List Ru) (i : Nat) : (restU l i).length ≤ l.length := by
  unfold restU
  rw [List.length_append, List.length_take, List.length_drop]
  omega
theorem restU_mem {l : List Ru} {i : Nat} {r : Ru} (h : r ∈ restU l i) : r ∈ l := by
  rcases List.mem_append.1 h with h | h
  · exact List.mem_of_mem_take h
  · exact List.mem_of_mem_drop h
theorem restU_boxes (l : List Ru) (i : Nat) : (boxesU (restU l i)).length ≤ (boxesU l).length := by
  have e : l = l.take i ++ l.drop i := (List.take_append_drop i l).symm
  have h : (boxesU (l.drop (i + 1))).length ≤ (boxesU (l.drop i)).length := by
    rw [← List.drop_drop]
    cases l.drop i with
    | nil => simp [boxesU]
    | cons r l => simp [boxesU]
  have h2 : (boxesU l).length = (boxesU (l.take i)).length + (boxesU (l.drop i)).length := by
    conv => lhs; rw [e]
    rw [boxesU_app, List.length_append]
  unfold restU
  rw [boxesU_app, List.length_append]
  omega
set_option maxHeartbeats 8000000 in
theorem ridle (l : List Ru) (h1 : l.length ≤ 9223372036854775807) (b1 : ∀ r ∈ l, r.boxes.length ≤ 9223372036854775807) (hs : askL [l] = 0 → (boxesU l).length ≤ 1000) :
    PFn Try.prog 22 [slU l] (.tup [slI (idP l), .sc (.int .i64 (askL [l]))]) := by
  have hA := rvAsk [l] (by simp) (by simp; exact h1) (by simp; exact b1)
  have c1 := slU_closed l
  unfold slsU at hA
  simp only [List.length_cons, List.length_nil, List.map_cons, List.map_nil] at hA
  by_cases h0 : askL [l] = 0
  · have n1 := hs h0
    obtain ⟨k1, k2⟩ := askL_zero h0
    have k1 := k1 l (by simp)
    have k2 := k2 l (by simp)
    have e1 : idP l = idlK l l.length := if_pos h0
    rw [h0] at hA ⊢
    rw [e1]
    have hC := rcloaks l h1 b1
    unfold slU at hA c1 hC ⊢
    simp only [V.closed] at c1
    refine AFn.intro (fn := Try.f22) (by kernel_rfl) rfl (by kernel_rfl) (by simp) (AW.ofx [] mixed (by kernel_rfl) ?_)
    simp only [Try.f22, argsF]
    simp
    refine callK.pure hA (by simp [V.closedL, V.closed, c1]) rfl ?_
    simp
    refine AW.count l.length (IdI l) ⟨_, ?_, rfl⟩ ?_
    · simp [subW, weakV, getF, slU, ownI, zeroRow, idlK, ints]
    rintro k F H hk rfl
    refine AW.ofx [] mixed (by kernel_rfl) ?_
    by_cases hlt : k < l.length
    · have w1 : IntKind.i64.wrap ((k : Int) + 1) = ((k + 1 : Nat) : Int) := by rw [wrap_i64] <;> omega
      have hG := gconcat (l.take k) (l.drop (k + 1)) (by rw [List.length_take]; omega) (by rw [List.length_drop]; omega)
      have hr : l.take k ++ l.drop (k + 1) = restU l k := rfl
      rw [hr] at hG
      have hCr := rcloaks (restU l k) (Nat.le_trans (restU_len l k) h1) (fun r hr => b1 r (restU_mem hr))
      have hra : (restU l k).all ruRight = true := List.all_eq_true.2 fun r hr => List.all_eq_true.1 k2 r (restU_mem hr)
      have hW := rwhose neB 32 hDiffer 1 (by decide) (by decide) l (restU l k) k1 (Nat.le_trans (restU_len l k) k1) n1 (Nat.le_trans (restU_boxes l k) n1) (byLot neB k2 hra)
      have hsc := idlK_succ l k
      have hil := idlK_len l k
      have cG := slU_closed (restU l k)
      have cW := slW_closed (whoP neB l (restU l k) 1)
      have hkl : (k : Int) ≤ l.length := by omega
      have hkl1 : (k : Int) + 1 ≤ l.length := by omega
      have hp1 : piece 7 (l.flatMap Ru.cs) 0 (k : Int) = (l.take k).flatMap Ru.cs := by
        rw [piece_flat (enc := Ru.cs) (sz := 7) (fun _ => rfl)]
        simp
      have hp2 : piece 7 (l.flatMap Ru.cs) ((k : Int) + 1) l.length = (l.drop (k + 1)).flatMap Ru.cs := by
        rw [piece_flat (enc := Ru.cs) (sz := 7) (fun _ => rfl), List.take_of_length_le (by rw [List.length_drop]; omega)]
        congr 2
      have hd1 : ((k : Int) + 1).toNat = k + 1 := by omega
      have hd2 : ((l.length : Int) - ((k : Int) + 1)).toNat = l.length - (k + 1) := by omega
      have w1' : IntKind.i64.wrap ((k : Int) + 1) = (k : Int) + 1 := by rw [wrap_i64] <;> omega
      have hk0 : (0 : Int) ≤ (k : Int) + 1 := by omega
      unfold slsU slU at hG
      simp only [List.length_cons, List.length_nil, List.map_cons, List.map_nil, List.length_take, List.length_drop] at hG
      rw [show min k l.length = k by omega] at hG
      clear w1
      simp [slU, ownI, hlt, w1', boundOf, hkl, hkl1, hp1, hp2, hd1, hd2, hk0]
      have ct := slU_closed (l.take k)
      have cd := slU_closed (l.drop (k + 1))
      unfold slU at hCr cG hW ct cd
      unfold slW at hW cW
      simp only [V.closed] at cG cW ct cd
      refine callK.pure hG (by simp [V.closedL, V.closed, ct, cd]) (by simp [V.closed, cG]) ?_
      simp [hlt]
      refine callK.pure hC (by simp [V.closedL, V.closed, c1]) rfl ?_
      simp
      refine callK.pure hCr (by simp [V.closedL, V.closed, cG]) rfl ?_
      by_cases hc : bitsN (cloakL l) = bitsN (cloakL (restU l k))
      · have hcb : (((bitsN (cloakL l) : Nat) : Int) == (bitsN (cloakL (restU l k)) : Nat)) = true := by simp [hc]
        simp [hcb]
        refine callK.pure hW (by simp [V.closedL, V.closed, cG, c1]) (by simp [V.closed, cW]) ?_
        by_cases hw : (whoP neB l (restU l k) 1).length = 0
        · have hwb : (((whoP neB l (restU l k) 1).length : Int) == 0) = true := by simp [hw]
          have hi : idleB l k = true := by unfold idleB; rw [decide_eq_true hc, decide_eq_true hw]; rfl
          rw [if_pos hi] at hsc
          simp [ownI, hwb, w1']
          refine ⟨⟨by omega, by omega⟩, _, ?_, rfl⟩
          rw [hsc]
          simp [subW, weakV, getF, slU, ownI, ints]
        · have hwb : (((whoP neB l (restU l k) 1).length : Int) == 0) = false := by rw [beq_eq_false_iff_ne]; omega
          have hi : idleB l k = false := by unfold idleB; rw [decide_eq_false hw, Bool.and_false]
          rw [if_neg (by rw [hi]; decide)] at hsc
          simp [ownI, hwb, w1', hlt]
          refine ⟨_, ?_, rfl⟩
          rw [hsc]
          simp [subW, weakV, getF, slU, ownI]
      · have hcb : (((bitsN (cloakL l) : Nat) : Int) == (bitsN (cloakL (restU l k)) : Nat)) = false := by rw [beq_eq_false_iff_ne]; omega
        have hi : idleB l k = false := by unfold idleB; rw [decide_eq_false hc, Bool.false_and]
        rw [if_neg (by rw [hi]; decide)] at hsc
        simp [ownI, hcb, w1', hlt]
        refine ⟨_, ?_, rfl⟩
        rw [hsc]
        simp [subW, weakV, getF, slU, ownI]
    · have hk' : k = l.length := by omega
      subst hk'
      simp [slU, ownI, slI]
  · have e1 : idP l = [] := if_neg h0
    rw [e1]
    refine AFn.out (r := .tup [.nil, .sc (.int .i64 (askL [l]))]) ?_ fun I φ v hv => rel_tup_nil hv
    show PFn _ _ _ _
    generalize askL [l] = n at *
    have hb : (n != 0) = true := by simpa using h0
    unfold slU at hA c1 ⊢
    simp only [V.closed] at c1
    refine AFn.intro (fn := Try.f22) (by kernel_rfl) rfl (by kernel_rfl) (by simp) (AW.ofx [] mixed (by kernel_rfl) ?_)
    simp only [Try.f22, argsF]
    simp
    refine callK.pure hA (by simp [V.closedL, V.closed, c1]) rfl ?_
    simp [hb]
end Go.Proofs.Ytbcfoakceloenaa
namespace Go.Proofs.Ytbcfoakceloenaa
set_option linter.all false
open Go.RowKit AM Can
set_option maxRecDepth 10000
attribute [local simp] aw_skip' aw_region' aw_seq' aw_cond' aw_block' aw_loop' aw_exit' aw_label' aw_ret' aops_nil' aops_cons' aop' aMove aAssign aPick aAlloc aBox aBuild slF aBuildSlice aLoad aLoadOwn aStore aStoreOwn isOwn delR aNilCheck aBin aMakeFunc aFieldAddr aField aIndexAddr aExtract aSliceOp aSlice aCallOp aCall' aLen aLenMap aDelete aMM aUn aConv aIface aAssert aMakeMap aLookup aMapUpdate aRange aNext aEntry entsOf keyB seekK aMakeSlice lookV aAppend putK layK eval evalV AM.valOf getF putF setF del SV.refers cellsAt rootSV plains shift ldV V.exact V.exactL V.ofValue V.ofPart V.ofCell V.cells V.one Value.oneCell' fitB qSeq qBlock getB afin aret resVs resV resTmps shareF evalS tupV valsS valsV pickV calm calmB lenV useOf feeds looks isT newsV partsV fillV putAt zerosV fitsNil nilB sliceB isEq isNeq awx_skip' awx_region' awx_seq' awx_cond' awx_block' awx_loop' awx_exit' awx_label' awx_ret' xops_nil' xops_cons' xop' xload xcall' addO delO inO putD memB Mix.effB Mix.laysB keysF badK subW weakV zeroRow yops_nil' yops_cons' yop' yload yindex yfield ylen oldO dropO takeO oldL exactB
attribute [local simp] awz_skip' awz_region' awz_seq' awz_cond' awz_block' awz_loop' awz_exit' awz_label' awz_ret' zops_nil' zops_cons' zop' zload zloadOwn zcall' z0 new0 remF old0 dltB

def us (zs : List Int) : List V := zs.map fun z => V.sc (.int .u64 z)
def ownA (zs : List Int) : SV := .own true 66 zs.length 1 (us zs)
def slA (zs : List Int) : V := .sl zs.length 1 (us zs)
def boxC (q : Rc (Int × Int)) : Re := ⟨q.x0, q.y0, q.x1, q.y1⟩
/-- One more rectangle of a zoom. -/
def arS (zs : List Int) (q : Rc (Int × Int)) : List Int := zs.set q.z.1.toNat (IntKind.u64.wrap (zs.getD q.z.1.toNat 0 + (areaR (boxC q) : Nat)))
def arP (out : List (Rc (Int × Int))) : List Int := out.foldl arS (List.replicate 17 0)
theorem arF_len (out : List (Rc (Int × Int))) : ∀ zs : List Int, (out.foldl arS zs).length = zs.length := by
  induction out with
  | nil => intro zs; rfl
  | cons q out ih => intro zs; rw [List.foldl_cons, ih]; simp [arS]
theorem arP_len (out : List (Rc (Int × Int))) : (arP out).length = 17 := by unfold arP; rw [arF_len]; simp
def TaI (y0 y1 : Int) (R : List (Run (Int × Int))) (out : List (Rc (Int × Int))) (id : Nat) (H0 : List Bk) (k : Nat) (F : Fr) (H : List Bk) : Prop := H[id]? = some (.cells [ownA (arP (out ++ (R.take k).map (rect y0 y1)))]) ∧ StaysBut id H0 H ∧
  F = [(0, .v (.sc (.int .i64 y0))), (1, .v (.sc (.int .i64 y1))), (3, .v (.ptr id 0)), (9, .v (slO R)), (10, .v (.sc (.int .i64 R.length))), (11, .v (.sc (.int .i64 k)))]
set_option maxHeartbeats 4000000 in
theorem rtellA (y0 y1 : Int) (R : List (Run (Int × Int))) (out : List (Rc (Int × Int))) (id : Nat) (H : List Bk) (h : H[id]? = some (.cells [ownA (arP out)])) (hn : out.length + R.length ≤ 1000000000000) (hz : ∀ r ∈ R, 0 ≤ r.z.1 ∧ r.z.1 ≤ 16) :
    AFn Try.prog 49 [.sc (.int .i64 y0), .sc (.int .i64 y1), slO R, .ptr id 0] H fun y H' => H'[id]? = some (.cells [ownA (arP (out ++ R.map (rect y0 y1)))]) ∧ StaysBut id H H' := by
  refine AFn.intro (fn := Try.f49) (by kernel_rfl) rfl (by kernel_rfl) (by simp) (AW.ofx [(3, 13, [3, 8, 0, 1])] mixed (by kernel_rfl) ?_)
  simp only [Try.f49, argsF]
  simp [slO]
  refine AW.count R.length (TaI y0 y1 R out id H) ⟨_, ?_, by simpa using h, .refl, rfl⟩ ?_
  · simp [subW, weakV, getF, slO]
  rintro k F H1 hk ⟨hid, hs, rfl⟩
  by_cases hlt : k < R.length
  · have w1 : IntKind.i64.wrap ((k : Int) + 1) = (k : Int) + 1 := by rw [wrap_i64] <;> omega
    have hrow := rowOs hlt
    have hst : out ++ (R.take (k + 1)).map (rect y0 y1) = out ++ (R.take k).map (rect y0 y1) ++ [rect y0 y1 R[k]] := by rw [List.take_succ_eq_append_getElem hlt, List.map_append, ← List.append_assoc]; rfl
    have hsp : arP (out ++ (R.take k).map (rect y0 y1) ++ [rect y0 y1 R[k]]) = arS (arP (out ++ (R.take k).map (rect y0 y1))) (rect y0 y1 R[k]) := by unfold arP; rw [List.foldl_append]; rfl
    have hl17 := arP_len (out ++ (R.take k).map (rect y0 y1))
    have hzk := hz _ (List.getElem_mem hlt)
    unfold TaI
    rw [hst, hsp]
    generalize arP (out ++ (R.take k).map (rect y0 y1)) = zs at *
    obtain ⟨n, hn16⟩ : ∃ n : Nat, R[k].z.1 = n := ⟨R[k].z.1.toNat, by omega⟩
    have hn17 : n < zs.length := by omega
    have hn17' : (n : Int) < zs.length := by omega
    have hat : (us zs)[n]? = some (.sc (.int .u64 zs[n])) := by simp [us, hn17]
    have hA := gArea (boxC (rect y0 y1 R[k]))
    have eS : arS zs (rect y0 y1 R[k]) = zs.set n (IntKind.u64.wrap (zs[n] + (areaR (boxC (rect y0 y1 R[k])) : Nat))) := by
      unfold arS
      have : (rect y0 y1 R[k]).z.1.toNat = n := by show R[k].z.1.toNat = n; omega
      rw [this, List.getD_eq_getElem?_getD, List.getElem?_eq_getElem hn17]
      rfl
    rw [eS]
    have hne : id ≠ H1.length := Nat.ne_of_lt (List.getElem?_eq_some_iff.1 hid).1
    have hb := appL (H := H1) (b := spB R[k])
    have hid2 := getA (L := [spB R[k]]) hid
    have hs2 := hs.append (L := [spB R[k]])
    unfold spB at hb hid2 hs2
    rw [hn16] at hrow hb hid2 hs2
    have q0 := fun h => (List.getElem_eq_iff (i := id) h).2 hid2
    unfold ownA at hid2 q0
    have e0 : boxC (rect y0 y1 R[k]) = ⟨R[k].a, y0, R[k].b, y1⟩ := rfl
    rw [e0] at hA
    unfold Re.v Re.cs at hA
    refine AW.ofz [(3, 13, [3, 8, 0, 1])] mixed (by kernel_rfl) ?_
    simp [slO, hlt, hrow, setL, hid2, hb, q0, hn17, hn17', hat]
    refine xcallK.of hA rfl rfl ?_
    have q1 := fun y => setBlk1 (y := y) hid2
    have q2 := fun X => setSelf (k := X) hid2
    have hus : us (zs.set n (IntKind.u64.wrap (zs[n] + (areaR (boxC (rect y0 y1 R[k])) : Nat)))) = (us zs).take n ++ V.sc (.int .u64 (IntKind.u64.wrap (zs[n] + (areaR (boxC (rect y0 y1 R[k])) : Nat)))) :: (us zs).drop (n + 1) := by
      unfold us
      rw [List.map_set, List.set_eq_take_append_cons_drop, if_pos (by simpa using hn17)]
    have hul : (us zs).length = 17 := by simp [us, hl17]
    unfold ownA
    rw [hus, List.length_set]
    rw [e0]
    generalize areaR ⟨R[k].a, y0, R[k].b, y1⟩ = ar at *
    simp [slO, hn17, hn17', hat, w1, hid2, q0, q1, q2, hul]
    exact ⟨by omega, hs2.trans .set⟩
  · have hk' : k = R.length := by omega
    subst hk'
    rw [List.take_length] at hid
    refine AW.ofz [(3, 13, [3, 8, 0, 1])] mixed (by kernel_rfl) ?_
    simp [slO]
    exact ⟨hid, hs⟩
/-! ## Areas -/
def arE (l : List Ru) (w : Wo) : Int := if askL [l] = 0 then argL (numsU w.ro w.ti w.la) else askL [l]
def areasP (l : List Ru) (w : Wo) : List Int := if askL [l] = 0 ∧ numsU w.ro w.ti w.la = true then arP (ovP allB l [] w) else []
def ScA (id : Nat) (out : List (Rc (Int × Int))) (H : List Bk) : Prop := H[id]? = some (.cells [ownA (arP out)])
theorem rtellAB (id : Nat) (q : Int → Int → Bool) (a b : List Ru) (w : Wo) (xs : List Int) : TellB Try.prog 49 [.ptr id 0] id (ScA id) (fun r => ∃ y, r ∈ rowOf q a b w xs y) := fun out H y0 y1 R h _ _ _ hr hn => rtellA y0 y1 R out id H h (by omega) fun r hrm => by
  obtain ⟨y, hy⟩ := hr r hrm
  obtain ⟨x, hx⟩ := runsK_lab _ _ hy
  unfold labO at hx
  split at hx
  · simp only [Option.some.injEq] at hx
    rw [← hx]
    exact zoomR_range a w.ro w.ti w.la ⟨x, y⟩
  · cases hx
set_option maxHeartbeats 4000000 in
theorem rareas (l : List Ru) (w : Wo) (h1 : l.length ≤ 9223372036854775807) (b1 : ∀ r ∈ l, r.boxes.length ≤ 9223372036854775807) (hs : askL [l] = 0 → (boxesU l).length ≤ 1000) :
    PFn Try.prog 24 [slU l, w.v] (.tup [slA (areasP l w), .sc (.int .i64 (arE l w))]) := by
  have hA := rvAsk [l] (by simp) (by simp; exact h1) (by simp; exact b1)
  have c1 := slU_closed l
  unfold slsU at hA
  simp only [List.length_cons, List.length_nil, List.map_cons, List.map_nil] at hA
  have hW := rright w
  unfold Wo.v Wo.cs at hW ⊢
  by_cases h0 : askL [l] = 0
  · rw [h0] at hA
    cases hn : numsU w.ro w.ti w.la with
    | false =>
      have e1 : areasP l w = [] := by unfold areasP; rw [if_neg]; rw [hn]; simp
      have e2 : arE l w = 1 := by unfold arE; rw [if_pos h0, hn]; rfl
      rw [hn] at hW
      rw [e1, e2]
      refine AFn.out (r := .tup [.nil, .sc (.int .i64 1)]) ?_ fun I φ v hv => rel_tup_nil hv
      show PFn _ _ _ _
      unfold slU at hA c1 ⊢
      simp only [V.closed] at c1
      refine AFn.intro (fn := Try.f24) (by kernel_rfl) rfl (by kernel_rfl) (by simp) (AW.ofx [] mixed (by kernel_rfl) ?_)
      simp only [Try.f24, argsF]
      simp
      refine callK.pure hA (by simp [V.closedL, V.closed, c1]) rfl ?_
      simp
      refine callK.pure hW rfl rfl ?_
      simp
    | true =>
      have e1 : areasP l w = arP (ovP allB l [] w) := by unfold areasP; rw [if_pos ⟨h0, hn⟩]
      have e2 : arE l w = 0 := by unfold arE; rw [if_pos h0, hn]; rfl
      rw [hn] at hW
      rw [e1, e2]
      have n1 := hs h0
      have hle : l.length ≤ 32 := (askL_zero h0).1 l (by simp)
      have hO := rover l [] w (by omega) (by simp) n1 (by simp [boxesU])
      have cO : (ovV w (forL l w.ro w.ti w.la) (forL [] w.ro w.ti w.la) (cutE (forL l w.ro w.ti w.la ++ forL [] w.ro w.ti w.la) false) (cutE (forL l w.ro w.ti w.la ++ forL [] w.ro w.ti w.la) true)).closed = true := by simp [ovV, V.closed, V.closedL, slU_closed, slI_closed]
      have hE := fun id => reachP allB 48 hEvery 49 [.ptr id 0] id (ScA id) l [] w (rtellAB id _ _ _ _ _) (fun out H H' h hs => hs.cells h) (by omega) (by simp) n1 (by simp [boxesU])
      unfold ovX ovY at hE
      unfold Wo.v Wo.cs at hO
      generalize ovV w (forL l w.ro w.ti w.la) (forL [] w.ro w.ti w.la) (cutE (forL l w.ro w.ti w.la ++ forL [] w.ro w.ti w.la) false) (cutE (forL l w.ro w.ti w.la ++ forL [] w.ro w.ti w.la) true) = ov at *
      have hE1 := hE 1 [woB w, .cells [ownA (List.replicate 17 0)]] (by simp) rfl
      unfold woB ownA us at hE1
      simp at hE1
      have hO : PFn Try.prog 30 [slU l, .nil, .agg [.sc (.int .i64 w.ro), .sc (.int .i64 w.ti), .sc (.int .i64 w.la)]] ov := AFn.weak hO (WeakL.cons (WeakL.nil0 (sz := 7) (WeakL.refl _)))
      unfold slU at hA c1 hO ⊢
      simp only [V.closed] at c1
      refine AFn.intro (fn := Try.f24) (by kernel_rfl) rfl (by kernel_rfl) (by simp) ?_
      simp only [Try.f24, argsF]
      refine AW.seq (AW.ofx [] mixed (by kernel_rfl) ?_)
      simp
      refine AW.seq (AW.ofx [] mixed (by kernel_rfl) ?_)
      simp
      refine callK.pure hA (by simp [V.closedL, V.closed, c1]) rfl ?_
      simp
      refine AW.seq (AW.ofx [] mixed (by kernel_rfl) ?_)
      simp
      refine callK.pure hW rfl rfl ?_
      simp
      refine AW.seq (AW.ofx [] mixed (by kernel_rfl) ?_)
      simp [setCells, setBlk]
      refine AW.seq (AW.ofx [] mixed (by kernel_rfl) ?_)
      simp
      refine callK.pure hO (by simp [V.closedL, V.closed, c1]) cO ?_
      simp
      refine callK.of hE1 ?_
      rintro y H2 ⟨hid, hs2⟩
      unfold ScA at hid
      simp
      refine AW.asSlCell (off := 0) hid (by unfold ownA; rfl) ?_
      have hid2 := setSelf (k := .cells [.v (slA (arP (ovP allB l [] w)))]) hid
      have hP : V.sl (arP (ovP allB l [] w)).length 1 (us (arP (ovP allB l [] w))) = slA (arP (ovP allB l [] w)) := rfl
      simp only [List.set_cons_zero]
      rw [hP]
      generalize slA (arP (ovP allB l [] w)) = r at *
      refine AW.ofx [] mixed (by kernel_rfl) ?_
      simp [hid2]
  · have e1 : areasP l w = [] := by unfold areasP; rw [if_neg fun h => h0 h.1]
    have e2 : arE l w = askL [l] := by unfold arE; rw [if_neg h0]
    rw [e1, e2]
    refine AFn.out (r := .tup [.nil, .sc (.int .i64 (askL [l]))]) ?_ fun I φ v hv => rel_tup_nil hv
    show PFn _ _ _ _
    generalize askL [l] = n at *
    have hb : (n != 0) = true := by simpa using h0
    unfold slU at hA c1 ⊢
    simp only [V.closed] at c1
    refine AFn.intro (fn := Try.f24) (by kernel_rfl) rfl (by kernel_rfl) (by simp) (AW.ofx [] mixed (by kernel_rfl) ?_)
    simp only [Try.f24, argsF]
    simp
    refine callK.pure hA (by simp [V.closedL, V.closed, c1]) rfl ?_
    simp [hb]
end Go.Proofs.Ytbcfoakceloenaa
