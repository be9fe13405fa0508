/- Grant: the zoom of a point, and the runs of a row, by the program. -/
import Derived.Test.YtmkeeghjpdnknaaKa
import Derived.Test.YtmkeeghjpdnknaaBe
namespace Go.Proofs.Ytmkeeghjpdnknaa
set_option linter.all false
open Go.RowKit AM Can
set_option maxRecDepth 10000
attribute [local simp] aw_skip' aw_region' aw_seq' aw_cond' aw_block' aw_loop' aw_exit' aw_label' aw_ret' aops_nil' aops_cons' aop' aMove aAssign aPick aAlloc aBox aBuild slF aBuildSlice aLoad aLoadOwn aStore aStoreOwn isOwn delR aNilCheck aBin aMakeFunc aFieldAddr aField aIndexAddr aExtract aSliceOp aSlice aCallOp aCall' aLen aLenMap aDelete aMM aUn aConv aIface aAssert aMakeMap aLookup aMapUpdate aRange aNext aEntry entsOf keyB seekK aMakeSlice lookV aAppend putK layK eval evalV AM.valOf getF putF setF del SV.refers cellsAt rootSV plains shift ldV V.exact V.exactL V.ofValue V.ofPart V.ofCell V.cells V.one Value.oneCell' fitB qSeq qBlock getB afin aret resVs resV resTmps shareF evalS tupV valsS valsV pickV calm calmB lenV useOf feeds looks isT newsV partsV fillV putAt zerosV fitsNil nilB sliceB isEq isNeq awx_skip' awx_region' awx_seq' awx_cond' awx_block' awx_loop' awx_exit' awx_label' awx_ret' xops_nil' xops_cons' xop' xload xcall' addO delO inO putD memB Mix.effB Mix.laysB keysF badK subW weakV zeroRow yops_nil' yops_cons' yop' yload yindex yfield ylen oldO dropO takeO oldL exactB
attribute [local simp] awz_skip' awz_region' awz_seq' awz_cond' awz_block' awz_loop' awz_exit' awz_label' awz_ret' zops_nil' zops_cons' zop' zload zcall' z0 new0 remF old0 dltB

/-! ## Whether some rectangle is one of which something holds -/
def AskB (P : Program) (g : FuncId) (cap : List V) (q : Re → Bool) (H : List Bk) : Prop := ∀ H', Stays H H' → ∀ b : Re, AFn P g (b.v :: cap) H' fun y H'' => y = .sc (.bool (q b)) ∧ Stays H' H''
def IxI (H0 : List Bk) (g : FuncId) (cap : List V) (q : Re → Bool) (l : List Re) (k : Nat) (F : Fr) (H : List Bk) : Prop := (∀ b ∈ l.take k, q b = false) ∧ Stays H0 H ∧ F = [(0, .v (slR l)), (1, .v (.fn (.func g) [] cap)), (7, .v (.sc (.int .i64 l.length))), (8, .v (.sc (.int .i64 k)))]
theorem gindex (l : List Re) (g : FuncId) (cap : List V) (q : Re → Bool) (H : List Bk) (hl : l.length ≤ 9223372036854775807) (hq : AskB Try.prog g cap q H) : AFn Try.prog 103 [slR l, .fn (.func g) [] cap] H fun y H' => ∃ n : Int, y = .sc (.int .i64 n) ∧ decide (0 ≤ n) = l.any q ∧ Stays H H' := by
  unfold AskB Re.v Re.cs at hq
  refine AFn.intro (fn := Try.f103) (by kernel_rfl) rfl (by kernel_rfl) (by simp) (AW.ofx [] mixed (by kernel_rfl) ?_)
  simp only [Try.f103, argsF]
  simp [slR]
  refine AW.count l.length (IxI H g cap q l) ⟨_, ?_, by simp, .refl, rfl⟩ ?_
  · simp [subW, weakV, getF, slR]
  rintro k F H1 hk ⟨ht, hs, rfl⟩
  refine AW.ofx [] mixed (by kernel_rfl) ?_
  by_cases hlt : k < l.length
  · have w1 : IntKind.i64.wrap ((k : Int) + 1) = (k : Int) + 1 := by rw [wrap_i64] <;> omega
    have hrow := rowR hlt
    simp [slR, hlt, hrow]
    refine callK.of (hq H1 hs l[k]) ?_
    rintro y H2 ⟨rfl, h2⟩
    cases e : q l[k] with
    | true =>
      have : l.any q = true := List.any_eq_true.2 ⟨_, List.getElem_mem hlt, e⟩
      simp [this, slR]
      exact hs.trans h2
    | false =>
      simp [w1, slR, hlt]
      refine ⟨_, ?_, take_no ht hlt e, hs.trans h2, rfl⟩
      simp [subW, weakV, getF, slR]
  · have hk' : k = l.length := by omega
    subst hk'
    rw [List.take_length] at ht
    have hall : l.any q = false := any_no ht
    simp [slR, hall]
    exact hs
theorem gcontains (l : List Re) (g : FuncId) (cap : List V) (q : Re → Bool) (H : List Bk) (hl : l.length ≤ 9223372036854775807) (hq : AskB Try.prog g cap q H) : AFn Try.prog 100 [slR l, .fn (.func g) [] cap] H fun y H' => y = .sc (.bool (l.any q)) ∧ Stays H H' := by
  have h1 := gindex l g cap q H hl hq
  refine AFn.intro (fn := Try.f100) (by kernel_rfl) rfl (by kernel_rfl) (by simp) (AW.ofx [] mixed (by kernel_rfl) ?_)
  simp only [Try.f100, argsF]
  simp [slR]
  refine callK.of (by simpa [slR] using h1) ?_
  rintro y H2 ⟨n, rfl, hn, h2⟩
  simp [hn]
  exact h2
/-! ## The zoom of a point -/
theorem gask (p : Pt) (id : Nat) (H : List Bk) (h : H[id]? = some (ptB2 p)) : AskB Try.prog 101 [.ptr id 0] (fun b => hasR b p) H := fun H1 h1 b => by
  have hid : H1[id]? = some (ptB2 p) := h1.cells h
  have hR := gHas b p
  unfold Re.v Re.cs Pt.v Pt.cs at hR
  unfold ptB2 at hid
  unfold Re.v Re.cs
  refine AFn.intro (fn := Try.f101) (by kernel_rfl) rfl (by kernel_rfl) (by simp) (AW.ofx [] mixed (by kernel_rfl) ?_)
  simp only [Try.f101, argsF]
  have hid' := fun L => getA (L := L) hid
  simp [hid, hid']
  refine callK.pure hR rfl rfl ?_
  simp
  exact .app
def labZ (n : Int) : Option Int := if n = 0 then none else some n
def hasU (p : Pt) (r : Ru) : Bool := hasB r.boxes p
def GzI (p : Pt) (l : List Ru) (k : Nat) (F : Fr) (H : List Bk) : Prop := Stays [ptB2 p] H ∧ F = [(3, .v (.ptr 0 0)), (5, .v (.sc (.int .i64 ((l.take k).foldl (zoomS (hasU p)) (0, 16)).1))), (6, .v (.sc (.int .i64 ((l.take k).foldl (zoomS (hasU p)) (0, 16)).2))), (9, .v (slU l)), (10, .v (.sc (.int .i64 l.length))), (11, .v (.sc (.int .i64 k)))]
set_option maxHeartbeats 4000000 in
theorem gzoom (l : List Ru) (p : Pt) (hl : l.length ≤ 9223372036854775807) (hb : ∀ r ∈ l, r.boxes.length ≤ 9223372036854775807) : PFn Try.prog 93 [slU l, p.v] (.sc (.int .i64 (zoomL (hasU p) l))) := by
  unfold Pt.v Pt.cs
  refine AFn.intro (fn := Try.f93) (by kernel_rfl) rfl (by kernel_rfl) (by simp) (AW.ofx [] mixed (by kernel_rfl) ?_)
  simp only [Try.f93, argsF]
  simp [slU]
  refine AW.count l.length (GzI p l) ⟨_, ?_, .refl, rfl⟩ ?_
  · simp [subW, weakV, getF, slU]
  rintro k F H hk ⟨hs, rfl⟩
  refine AW.ofx [] mixed (by kernel_rfl) ?_
  have h0 : H[0]? = some (ptB2 p) := hs.cells rfl
  have hst := fun h => foldl_take_succ' (f := zoomS (hasU p)) (b := ((0 : Int), (16 : Int))) (xs := l) (k := k) h
  by_cases hlt : k < l.length
  · have w1 : IntKind.i64.wrap ((k : Int) + 1) = (k : Int) + 1 := by rw [wrap_i64] <;> omega
    have hrow := rowU hlt
    have hst := hst hlt
    have hc := gcontains l[k].boxes 101 [.ptr 0 0] (fun b => hasR b p)
    have hbl := hb _ (List.getElem_mem hlt)
    generalize hgs : (l.take k).foldl (zoomS (hasU p)) (0, 16) = s at *
    unfold slR at hrow hc
    simp [slU, hlt, hrow, setL]
    have hs1 : Stays [ptB2 p] (H ++ [.cells [.v (.sc (.int .i64 l[k].kind)), .v (.sc (.int .i64 l[k].roles)), .v (.sc (.int .i64 l[k].lo)), .v (.sc (.int .i64 l[k].hi)), .v (.sc (.int .i64 l[k].labels)), .v (.sl l[k].boxes.length 4 (l[k].boxes.flatMap Re.cs)), .v (.sc (.int .i64 l[k].zoom))]]) := hs.append
    have hid := appL (H := H) (b := .cells [.v (.sc (.int .i64 l[k].kind)), .v (.sc (.int .i64 l[k].roles)), .v (.sc (.int .i64 l[k].lo)), .v (.sc (.int .i64 l[k].hi)), .v (.sc (.int .i64 l[k].labels)), .v (.sl l[k].boxes.length 4 (l[k].boxes.flatMap Re.cs)), .v (.sc (.int .i64 l[k].zoom))])
    refine callK.of (hc _ hbl (gask p 0 _ (hs1.cells rfl))) ?_
    rintro y H2 ⟨rfl, h2⟩
    have hid2 := h2.cells hid
    have hany : (l[k].boxes.any fun b => hasR b p) = hasU p l[k] := rfl
    rw [hany]
    cases e : hasU p l[k] with
    | false =>
      have e1 : zoomS (hasU p) s l[k] = s := by simp [zoomS, e]
      rw [e1] at hst
      simp [w1, hlt, slU]
      refine ⟨_, ?_, hs1.trans h2, rfl⟩
      rw [hst]
      simp [subW, weakV, getF, slU]
    | true =>
      by_cases h4 : l[k].kind = 4
      · have e1 : zoomS (hasU p) s l[k] = (if s.1 < l[k].zoom then l[k].zoom else s.1, s.2) := by
          simp [zoomS, e, h4]
          split <;> omega
        rw [e1] at hst
        simp [w1, hlt, slU, hid2, h4]
        refine ⟨_, ?_, hs1.trans h2, rfl⟩
        rw [hst]
        simp [subW, weakV, getF, slU]
      · have n4 : (l[k].kind == 4) = false := by simpa using h4
        have e1 : zoomS (hasU p) s l[k] = (s.1, if l[k].zoom < s.2 then l[k].zoom else s.2) := by
          simp [zoomS, e, h4]
          split <;> omega
        rw [e1] at hst
        simp [w1, hlt, slU, hid2, n4]
        refine ⟨_, ?_, hs1.trans h2, rfl⟩
        rw [hst]
        simp [subW, weakV, getF, slU]
  · have hk' : k = l.length := by omega
    subst hk'
    simp [slU]
    unfold zoomL
    generalize l.foldl (zoomS (hasU p)) (0, 16) = s at *
    split <;> omega
end Go.Proofs.Ytmkeeghjpdnknaa
namespace Go.Proofs.Ytmkeeghjpdnknaa
set_option linter.all false
open Go.RowKit AM Can
set_option maxRecDepth 10000
attribute [local simp] aw_skip' aw_region' aw_seq' aw_cond' aw_block' aw_loop' aw_exit' aw_label' aw_ret' aops_nil' aops_cons' aop' aMove aAssign aPick aAlloc aBox aBuild slF aBuildSlice aLoad aLoadOwn aStore aStoreOwn isOwn delR aNilCheck aBin aMakeFunc aFieldAddr aField aIndexAddr aExtract aSliceOp aSlice aCallOp aCall' aLen aLenMap aDelete aMM aUn aConv aIface aAssert aMakeMap aLookup aMapUpdate aRange aNext aEntry entsOf keyB seekK aMakeSlice lookV aAppend putK layK eval evalV AM.valOf getF putF setF del SV.refers cellsAt rootSV plains shift ldV V.exact V.exactL V.ofValue V.ofPart V.ofCell V.cells V.one Value.oneCell' fitB qSeq qBlock getB afin aret resVs resV resTmps shareF evalS tupV valsS valsV pickV calm calmB lenV useOf feeds looks isT newsV partsV fillV putAt zerosV fitsNil nilB sliceB isEq isNeq awx_skip' awx_region' awx_seq' awx_cond' awx_block' awx_loop' awx_exit' awx_label' awx_ret' xops_nil' xops_cons' xop' xload xcall' addO delO inO putD memB Mix.effB Mix.laysB keysF badK subW weakV zeroRow yops_nil' yops_cons' yop' yload yindex yfield ylen oldO dropO takeO oldL exactB
attribute [local simp] awz_skip' awz_region' awz_seq' awz_cond' awz_block' awz_loop' awz_exit' awz_label' awz_ret' zops_nil' zops_cons' zop' zload zcall' z0 new0 remF old0 dltB

def spn (r : Run Int) : List V := [.sc (.int .i64 r.a), .sc (.int .i64 r.b), .sc (.int .i64 r.z)]
def slS (rs : List (Run Int)) : V := .sl rs.length 3 (rs.flatMap spn)
def ownS (rs : List (Run Int)) : SV := .own true 89 rs.length 3 (rs.flatMap spn)
theorem slS_closed (rs : List (Run Int)) : V.closed (slS rs) = true := by simp [slS, V.closed, closed_flat (enc := spn) (fun _ => rfl)]
theorem rowS {rs : List (Run Int)} {k : Nat} (h : k < rs.length) : AM.rowAt 3 (rs.flatMap spn) (k : Int) = [.sc (.int .i64 rs[k].a), .sc (.int .i64 rs[k].b), .sc (.int .i64 rs[k].z)] := row_flat (enc := spn) (sz := 3) (fun _ => rfl) h
/-- The label of a point, of rules. -/
def labU (l : List Ru) (y x : Int) : Option Int := labZ (zoomL (hasU ⟨x, y⟩) l)
def rowG (l : List Ru) (xs : List Int) (y : Int) : List (Run Int) := runsK (labU l y) xs (xs.length - 1)
theorem rowG_len (l : List Ru) (xs : List Int) (y : Int) : (rowG l xs y).length ≤ xs.length := by
  have := runsK_len (f := labU l y) (xs := xs) (xs.length - 1)
  unfold rowG
  omega
def setEnd (v : Int) (r : Run Int) : Run Int := { r with b := v }
theorem poke_end {R : List (Run Int)} {r : Run Int} {v : Int} : ((R ++ [r]).flatMap spn).set (R.length * 3 + 1) (.sc (.int .i64 v)) = (R ++ [(⟨r.a, v, r.z⟩ : Run Int)]).flatMap spn := by
  have := flat_mod (enc := spn) (sz := 3) (o := 1) (v := .sc (.int .i64 v)) (f := setEnd v) (fun _ => rfl) (by decide) (fun _ => rfl) (k := R.length) (xs := R ++ [r]) (by simp)
  rw [this, modN_last]
  rfl
theorem lastAt {R : List (Run Int)} {r : Run Int} (o : Nat) (ho : o < 3) : ((R ++ [r]).flatMap spn)[R.length * 3 + o]? = (spn r)[o]? := by
  have hl := flat_len' (enc := spn) (sz := 3) (fun _ => rfl) R
  rw [List.flatMap_append, List.getElem?_append_right (by omega), hl]
  simp
theorem rowLast {R : List (Run Int)} {r : Run Int} : AM.rowAt 3 ((R ++ [r]).flatMap spn) (R.length : Int) = [.sc (.int .i64 r.a), .sc (.int .i64 r.b), .sc (.int .i64 r.z)] := by
  have := rowS (rs := R ++ [r]) (k := R.length) (by simp)
  simpa using this
theorem runsK_mem {L : Type} [DecidableEq L] {f : Int → Option L} {xs : List Int} : ∀ k, ∀ r ∈ runsK f xs k, r.a ∈ xs ∧ r.b + 1 ∈ xs
  | 0, r, h => by simp [runsK] at h
  | k + 1, r, h => by
    have ih := runsK_mem (f := f) (xs := xs) k
    rw [runsK] at h
    split at h
    · rename_i n m hn hm
      have hn := List.mem_of_getElem? hn
      have hm := List.mem_of_getElem? hm
      unfold Can.step at h
      split at h
      · unfold push at h
        split at h
        · rename_i q hq
          split at h
          · rcases List.mem_append.1 h with h | h
            · exact ih r (List.dropLast_subset _ h)
            · simp at h
              subst h
              exact ⟨(ih q (List.mem_of_getLast? hq)).1, by simpa using hm⟩
          · rcases List.mem_append.1 h with h | h
            · exact ih r h
            · simp at h
              subst h
              exact ⟨hn, by simpa using hm⟩
        · simp at h
          subst h
          exact ⟨hn, by simpa using hm⟩
      · exact ih r h
    · exact ih r h
theorem runsK_ends {L : Type} [DecidableEq L] {f : Int → Option L} {xs : List Int} (hx : ∀ x ∈ xs, 0 ≤ x ∧ x ≤ 65536) (k : Nat) : ∀ r ∈ runsK f xs k, -1 ≤ r.b ∧ r.b ≤ 65535 := fun r hr => by
  have := hx _ (runsK_mem k r hr).2
  omega
def GrI (l : List Ru) (xs : List Int) (y : Int) (k : Nat) (F : Fr) (H : List Bk) : Prop := F = [(0, .v (slU l)), (1, .v (slI xs)), (2, .v (.sc (.int .i64 y))), (7, ownS (runsK (labU l y) xs k)), (8, .v (.sc (.int .i64 k)))]
theorem labZ_no {n : Int} (h : labZ n = none) : n = 0 := by
  unfold labZ at h
  split at h
  · assumption
  · cases h
set_option maxHeartbeats 4000000 in
theorem grow' (l : List Ru) (xs : List Int) (y : Int) (hl : l.length ≤ 9223372036854775807) (hb : ∀ r ∈ l, r.boxes.length ≤ 9223372036854775807) (hx : xs.length ≤ 10000000) (hxr : ∀ x ∈ xs, 0 ≤ x ∧ x ≤ 65536) :
    PFn Try.prog 78 [slU l, slI xs, .sc (.int .i64 y)] (slS (rowG l xs y)) := by
  have hZ := fun p => gzoom l p hl hb
  have c1 := slU_closed l
  unfold Pt.v Pt.cs at hZ
  refine AFn.intro (fn := Try.f78) (by kernel_rfl) rfl (by kernel_rfl) (by simp) (AW.ofx [] mixed (by kernel_rfl) ?_)
  simp only [Try.f78, argsF]
  simp
  refine AW.count (xs.length - 1) (GrI l xs y) ⟨_, ?_, rfl⟩ ?_
  · simp [subW, weakV, getF, runsK, ownS, zeroRow]
  rintro k F H hk rfl
  refine AW.ofx [] mixed (by kernel_rfl) ?_
  have w1 : IntKind.i64.wrap ((k : Int) + 1) = (k : Int) + 1 := by rw [wrap_i64] <;> omega
  by_cases hlt : k + 1 < xs.length
  · have hlt1 : k < xs.length := by omega
    have hlt2 : (k : Int) + 1 < xs.length := by omega
    have hlt3 : (k : Int) < xs.length := by omega
    have hn := runsK_succ (f := labU l y) hlt
    have l1 := runsK_len (f := labU l y) (xs := xs) k
    have hr1 := rowI hlt1
    have hr2 := rowI hlt
    have hr2' : AM.rowAt 1 (ints xs) ((k : Int) + 1) = [.sc (.int .i64 xs[k + 1])] := by simpa using hr2
    have hb2 := hxr _ (List.getElem_mem hlt)
    have wm : IntKind.i64.wrap (xs[k + 1] - 1) = xs[k + 1] - 1 := by rw [wrap_i64] <;> omega
    have hfin : ∀ s, runsK (labU l y) xs (k + 1) = s → GrI l xs y (k + 1) [(0, .v (slU l)), (1, .v (slI xs)), (2, .v (.sc (.int .i64 y))), (7, ownS s), (8, .v (.sc (.int .i64 (k + 1 : Nat))))] H := fun s e => by
      rw [GrI, e]
    have hbs : ∀ r ∈ runsK (labU l y) xs k, -1 ≤ r.b ∧ r.b ≤ 65535 := runsK_ends hxr k
    generalize runsK (labU l y) xs k = R at *
    simp [slI, ownS, w1, hlt2, hlt3, hlt1, hr1]
    refine callK.pure (hZ ⟨xs[k], y⟩) (by simp [V.closedL, V.closed, c1]) rfl ?_
    unfold Can.step at hn
    cases hc : labU l y xs[k] with
    | none =>
      rw [hc] at hn
      have hz : zoomL (hasU ⟨xs[k], y⟩) l = 0 := labZ_no hc
      simp [w1, hz]
      refine ⟨by omega, _, ?_, hfin _ hn⟩
      simp [subW, weakV, getF, slI, ownS]
    | some z =>
      rw [hc] at hn
      have hz : zoomL (hasU ⟨xs[k], y⟩) l = z ∧ z ≠ 0 := by
        unfold labU labZ at hc
        split at hc
        · cases hc
        · cases hc; exact ⟨rfl, by assumption⟩
      obtain ⟨hz, hz0⟩ := hz
      have hz0' : (z == 0) = false := by simpa using hz0
      rw [hz]
      simp only at hn
      rcases List.eq_nil_or_concat R with rfl | ⟨R', r, rfl⟩
      · have e : push ([] : List (Run Int)) xs[k] xs[k + 1] z = [⟨xs[k], xs[k + 1] - 1, z⟩] := rfl
        rw [e] at hn
        have wm1 : IntKind.i64.wrap (-1) = -1 := by decide
        simp [slI, ownS, w1, hz0', wm1, hlt2, hlt3, hlt1, hr1, hr2', wm]
        refine ⟨by omega, by omega, _, ?_, hfin _ hn⟩
        simp [subW, weakV, getF, slI, ownS, spn]
      · rw [List.concat_eq_append] at *
        have hrb := hbs r (by simp)
        rw [List.length_append, List.length_singleton] at l1
        have wl : IntKind.i64.wrap (((R' ++ [r]).length : Int) - 1) = (R'.length : Int) := by
          rw [List.length_append, List.length_singleton, wrap_i64] <;> omega
        have wb : IntKind.i64.wrap (r.b + 1) = r.b + 1 := by rw [wrap_i64] <;> omega
        have hr_1 : ((R' ++ [r]).flatMap spn)[R'.length * 3 + 1]? = some (.sc (.int .i64 r.b)) := lastAt 1 (by decide)
        have hr_2 : ((R' ++ [r]).flatMap spn)[R'.length * 3 + 2]? = some (.sc (.int .i64 r.z)) := lastAt 2 (by decide)
        have hlen : R'.length < (R' ++ [r]).length := by simp
        have hlen0 : (R' ++ [r]).length = R'.length + 1 := by simp
        have hpk := poke_end (R := R') (r := r) (v := xs[k + 1] - 1)
        have hfl := flat_len' (enc := spn) (sz := 3) (fun _ => rfl) (R' ++ [r])
        by_cases hp : r.b + 1 = xs[k] ∧ r.z = z
        · rw [push_more hp.1 hp.2] at hn
          rw [hp.2] at hr_2 hpk
          rw [hp.1] at wb
          have hp1 := hp.1
          clear hp hbs
          have hnl : (R' ++ [(⟨r.a, xs[k + 1] - 1, z⟩ : Run Int)]).length = (R' ++ [r]).length := by simp
          generalize R' ++ [r] = R at *
          generalize R' ++ [(⟨r.a, xs[k + 1] - 1, z⟩ : Run Int)] = R2 at *
          simp [slI, ownS, w1, wl, hp1, wb, hz0', hr_1, hr_2, hlen, hlt2, hlt3, hlt1, hr1, hr2', wm]
          refine ⟨by omega, by simp at hfl; omega, by omega, _, ?_, hfin _ hn⟩
          simp [subW, weakV, getF, slI, ownS, ← hpk, hnl]
          rw [List.set_eq_take_append_cons_drop, if_pos (by rw [hfl]; omega)]
        · have hq : push (R' ++ [r]) xs[k] xs[k + 1] z = R' ++ [r] ++ [⟨xs[k], xs[k + 1] - 1, z⟩] := push_fresh fun A q e h1 h2 => by
            obtain ⟨_, rfl⟩ := app_last e
            exact hp ⟨h1, h2⟩
          rw [hq] at hn
          clear hbs hpk
          by_cases hz1 : r.z = z
          · have hz2 : r.b + 1 ≠ xs[k] := fun h => hp ⟨h, hz1⟩
            have hz2' : (r.b + 1 == xs[k]) = false := by simpa using hz2
            rw [hz1] at hr_2
            generalize R' ++ [r] = R at *
            simp [slI, ownS, w1, wl, wb, hz2', hz0', hr_1, hr_2, hlen, hlt2, hlt3, hlt1, hr1, hr2', wm]
            refine ⟨by omega, by omega, by omega, _, ?_, hfin _ hn⟩
            simp [subW, weakV, getF, slI, ownS, spn]
          · have hz1' : (r.z == z) = false := by simpa using hz1
            generalize R' ++ [r] = R at *
            simp [slI, ownS, w1, wl, hz1', hz0', hr_1, hr_2, hlen, hlt2, hlt3, hlt1, hr1, hr2', wm]
            refine ⟨by omega, by omega, by omega, _, ?_, hfin _ hn⟩
            simp [subW, weakV, getF, slI, ownS, spn]
  · have hk' : k = xs.length - 1 := by omega
    have hlt2 : ¬ (k : Int) + 1 < xs.length := by omega
    simp [slI, w1, hlt2, ownS]
    unfold rowG slS
    rw [← hk']
end Go.Proofs.Ytmkeeghjpdnknaa
