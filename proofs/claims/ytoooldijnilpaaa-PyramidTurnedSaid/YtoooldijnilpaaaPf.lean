/- The pyramid's maps, and the methods that turn them. -/
import Derived.Test.YtoooldijnilpaaaPd
import Derived.Test.YtoooldijnilpaaaPe
namespace Go.Proofs.Ytoooldijnilpaaa
set_option linter.all false
open Go.RowKit AM
set_option maxRecDepth 10000
attribute [local simp] aw_skip' aw_region' aw_seq' aw_cond' aw_block' aw_loop' aw_exit' aw_label' aw_ret' aops_nil' aops_cons' aop' aMove aAssign aPick aAlloc aBox aBuild aBuildSlice aLoad aLoadOwn aStore aStoreOwn isOwn delR aNilCheck aBin aMakeFunc aFieldAddr aField aIndexAddr aExtract aSliceOp aSlice aCallOp aCall' aLen aLenMap aDelete aMM aUn aConv aIface aAssert aMakeMap aLookup aMapUpdate aRange aNext aEntry entsOf keyB lookV aAppend putK layK eval evalV AM.valOf getF putF setF del SV.refers cellsAt rootSV plains shift ldV V.exact V.exactL V.ofValue V.ofPart V.ofCell V.cells V.one Value.oneCell' fitB qSeq qBlock getB afin aret resVs resV resTmps shareF evalS tupV valsS valsV pickV calm calmB lenV useOf feeds looks isT newsV partsV fillV putAt zerosV fitsNil nilB isEq isNeq awx_skip' awx_region' awx_seq' awx_cond' awx_block' awx_loop' awx_exit' awx_label' awx_ret' xops_nil' xops_cons' xop' xload xcall' addO delO inO putD memB Mix.effB Mix.laysB keysF badK subW weakV zeroRow yops_nil' yops_cons' yop' yload yindex yfield ylen oldO dropO takeO oldL exactB

def entP (e : Nat × Nat) : Value × V := (.int .u64 e.1, .sc (.int .i64 e.2))
def pfind (c : Nat) : List (Nat × Nat) → Nat → Option (Nat × Nat)
  | [], _ => none
  | e :: es, i => if c = e.1 then some (i, e.2) else pfind c es (i + 1)
theorem mfind_p {c : Nat} : ∀ {es : List (Nat × Nat)} {i : Nat}, mfind (.int .u64) (.int .u64 c) (es.map entP) i = some ((pfind c es i).map fun p => (p.1, .sc (.int .i64 p.2)))
  | [], i => rfl
  | e :: es, i => by
    have : Instr.sameNow (.int .u64) (.int .u64 c) (.int .u64 e.1) = some ((c : Int) == e.1) := rfl
    simp only [List.map_cons, entP, mfind, pfind, this]
    by_cases h : c = e.1
    · simp [h]
    · have : ((c : Int) == e.1) = false := by simp; omega
      rw [this, if_neg h]
      exact mfind_p
def look (es : List (Nat × Nat)) (c : Nat) : Nat := ((pfind c es 0).map (·.2)).getD 0
def turnE (es : List (Nat × Nat)) (c : Nat) (b : Int) : List (Nat × Nat) := if (look es c : Int) + b = 0 then (match pfind c es 0 with
    | some (i, _) => es.eraseIdx i
    | none => es)
  else (match pfind c es 0 with
    | some (i, _) => es.set i (c, ((look es c : Int) + b).toNat)
    | none => es ++ [(c, ((look es c : Int) + b).toNat)])
theorem look_some {es : List (Nat × Nat)} {c i n : Nat} (h : pfind c es 0 = some (i, n)) : look es c = n := by simp [look, h]
theorem look_none {es : List (Nat × Nat)} {c : Nat} (h : pfind c es 0 = none) : look es c = 0 := by simp [look, h]
/-- All blocks but some, and but walks over maps, stay. -/
def KeptM (ms : List Nat) (H H' : List Bk) : Prop := ∀ i b, i ∉ ms → H[i]? = some b → (∀ n l cu, b ≠ .iter n l cu) → H'[i]? = some b
theorem KeptM.refl {ms : List Nat} {H : List Bk} : KeptM ms H H := fun _ _ _ h _ => h
theorem KeptM.trans {ms : List Nat} {H H1 H2 : List Bk} (h : KeptM ms H H1) (h1 : KeptM ms H1 H2) : KeptM ms H H2 := fun i b hi hb hn => h1 i b hi (h i b hi hb hn) hn
theorem KeptM.append {ms : List Nat} {H H1 L : List Bk} (h : KeptM ms H H1) : KeptM ms H (H1 ++ L) := fun i b hi hb hn => get_app (h i b hi hb hn)
theorem killIt_some {m i : Nat} {H : List Bk} {b : Bk} (h : H[i]? = some b) (hn : ∀ n l cu, b ≠ .iter n l cu) : (killIt m H)[i]? = some b := by
  unfold killIt
  rw [List.getElem?_map, h]
  cases b with
  | iter n l cu => exact absurd rfl (hn n l cu)
  | _ => rfl
theorem killIt_len {m : Nat} {H : List Bk} : (killIt m H).length = H.length := by simp [killIt]
theorem KeptM.turned {ms : List Nat} {m : Nat} {H : List Bk} {k : Bk} (hm : m ∈ ms) : KeptM ms H ((killIt m H).set m k) := fun i b hi hb hn => by
  rw [List.getElem?_set_ne (by rintro rfl; exact hi hm)]
  exact killIt_some hb hn
/-- A pyramid at block r over the maps in blocks ms. -/
structure Pyr (H : List Bk) (r : Nat) (ms : List Nat) (M : Nat → List (Nat × Nat)) : Prop where
  len : ms.length = 17
  nd : ms.Nodup
  r : H[r]? = some (.cells (ms.map fun m => .v (.map m)))
  m : ∀ l m : Nat, ms[l]? = some m → H[m]? = some (.map ((M l).map entP))
theorem Pyr.rm {H : List Bk} {r : Nat} {ms : List Nat} {M : Nat → List (Nat × Nat)} (h : Pyr H r ms M) : r ∉ ms := fun hr => by
  obtain ⟨l, hl, e⟩ := List.getElem_of_mem hr
  have := h.m l r (by rw [List.getElem?_eq_getElem hl, e])
  rw [h.r] at this
  cases this
theorem Pyr.app {H L : List Bk} {r : Nat} {ms : List Nat} {M : Nat → List (Nat × Nat)} (h : Pyr H r ms M) : Pyr (H ++ L) r ms M := ⟨h.len, h.nd, get_app h.r, fun l m hm => get_app (h.m l m hm)⟩
def upd (M : Nat → List (Nat × Nat)) (l : Nat) (es : List (Nat × Nat)) : Nat → List (Nat × Nat) := fun k => if k = l then es else M k
theorem Pyr.turned {H : List Bk} {r l m : Nat} {ms : List Nat} {M : Nat → List (Nat × Nat)} {es : List (Nat × Nat)} (h : Pyr H r ms M) (hl : ms[l]? = some m) : Pyr ((killIt m H).set m (.map (es.map entP))) r ms (upd M l es) := by
  have hm : m ∈ ms := List.mem_of_getElem? hl
  refine ⟨h.len, h.nd, ?_, fun k m' hk => ?_⟩
  · rw [List.getElem?_set_ne (by rintro rfl; exact h.rm hm)]
    exact killIt_some h.r (fun _ _ _ => by simp)
  · have h1 := h.m k m' hk
    have hlt : m' < H.length := (List.getElem?_eq_some_iff.1 h1).1
    by_cases hkl : k = l
    · subst hkl
      rw [hl] at hk
      cases hk
      rw [List.getElem?_set_self (by rw [killIt_len]; exact hlt)]
      simp [upd]
    · have hne : m ≠ m' := by
        rintro rfl
        obtain ⟨q1, e1⟩ := List.getElem?_eq_some_iff.1 hl
        obtain ⟨q2, e2⟩ := List.getElem?_eq_some_iff.1 hk
        have hp := List.pairwise_iff_getElem.1 h.nd
        rcases Nat.lt_trichotomy k l with hlt' | hlt' | hlt'
        · exact hp k l q2 q1 hlt' (e2.trans e1.symm)
        · exact hkl hlt'
        · exact hp l k q1 q2 hlt' (e1.trans e2.symm)
      rw [List.getElem?_set_ne hne]
      have : upd M l es k = M k := by simp [upd, hkl]
      rw [this]
      exact killIt_some h1 (fun _ _ _ => by simp)
theorem plains_maps : ∀ ms : List Nat, plains (ms.map fun m => SV.v (V.map m)) = ms.map V.map
  | [] => rfl
  | m :: ms => by simp [plains, plains_maps ms]
theorem plains_head {ms : List Nat} {l : Nat} : (plains ((ms.map fun m => SV.v (V.map m)).drop l)).head? = (ms[l]?).map V.map := by
  rw [← List.map_drop, plains_maps, List.head?_map, List.head?_drop]
theorem map_eraseIdx {α β : Type} {f : α → β} : ∀ (l : List α) (i : Nat), (l.eraseIdx i).map f = (l.map f).eraseIdx i
  | [], _ => by simp
  | x :: l, 0 => rfl
  | x :: l, i + 1 => by simp [map_eraseIdx l i]
theorem zvInt : zeroV Try.prog 3 = some (.sc (.int .i64 0)) := by kernel_rfl
theorem nilPy {x y : Operand} : binR Try.prog .neq 25 x y (.pointer none) (.pointer none) = some (.bool false) := by kernel_rfl
theorem nilPy' {x y : Operand} : binR Try.prog .eql 25 x y (.pointer none) (.pointer none) = some (.bool true) := by kernel_rfl
section
variable {H : List Bk} {r : Nat} {ms : List Nat} {M : Nat → List (Nat × Nat)}
theorem pmade (h : Pyr H r ms M) : AFn Try.prog 54 [.ptr r 0] H fun y H' => y = .sc (.bool true) ∧ H' = H := by
  have hr := h.r
  have h0 : 0 < ms.length := by rw [h.len]; decide
  have hl := h.len
  have hh := plains_head (ms := ms) (l := 0)
  rw [List.drop_zero] at hh
  refine AFn.intro (fn := Try.f54) (by kernel_rfl) rfl (by kernel_rfl) (by simp) (AW.ofx [] mixed (by kernel_rfl) ?_)
  simp only [Try.f54, argsF]
  simp [hr, hh, hl]
theorem pmadeNil (H : List Bk) : AFn Try.prog 54 [.sc (.pointer none)] H fun y H' => y = .sc (.bool false) ∧ H' = H := by
  refine AFn.intro (fn := Try.f54) (by kernel_rfl) rfl (by kernel_rfl) (by simp) (AW.ofx [] mixed (by kernel_rfl) ?_)
  simp only [Try.f54, argsF]
  simp [nilPy]
theorem pturn (h : Pyr H r ms M) (l c : Nat) (b : Int) (hl : l < 17) (hb : 0 ≤ (look (M l) c : Int) + b) (hb' : (look (M l) c : Int) + b ≤ 9223372036854775807) :
    AFn Try.prog 60 [.ptr r 0, .sc (.int .i64 l), .sc (.int .u64 c), .sc (.int .i64 b)] H fun y H' => Pyr H' r ms (upd M l (turnE (M l) c b)) ∧ KeptM ms H H' := by
  have hr := h.r
  have hlt : l < ms.length := by rw [h.len]; exact hl
  have hm : ms[l]? = some ms[l] := List.getElem?_eq_getElem hlt
  have hmem : ms[l] ∈ ms := List.getElem_mem hlt
  have hl' : (l : Int) < 17 := by omega
  have hH := h.m l _ hm
  have ht := fun es => h.turned (es := es) hm
  have hk : ∀ k, KeptM ms H ((killIt ms[l] H).set ms[l] k) := fun k => KeptM.turned hmem
  generalize ms[l] = m at *
  have hw : IntKind.i64.wrap ((look (M l) c : Int) + b) = (look (M l) c : Int) + b := by rw [wrap_i64] <;> omega
  unfold turnE at *
  cases hf : pfind c (M l) 0 with
  | none =>
    rw [look_none hf] at hw hb ⊢
    simp at hw hb
    have hb2 : ((b.toNat : Nat) : Int) = b := by omega
    refine AFn.intro (fn := Try.f60) (by kernel_rfl) rfl (by kernel_rfl) (by simp) (AW.ofx [] mixed (by kernel_rfl) ?_)
    simp only [Try.f60, argsF]
    simp [hr, hl', plains_head, hm, hH, mfind_p, hf, zvInt, hw]
    refine gd.intro (fun e => ?_) (fun e => ?_)
    · have e : b = 0 := by simpa using e
      simp [hr, hl', plains_head, hm, hH, mfind_p, hf, zvInt, hw, e]
      exact ⟨ht _, hk _⟩
    · have e : ¬ b = 0 := by simpa using e
      simp [hr, hl', plains_head, hm, hH, mfind_p, hf, zvInt, hw, e]
      have h2 := ht (M l ++ [(c, b.toNat)])
      simp [entP, hb2] at h2
      exact ⟨h2, hk _⟩
  | some p =>
    obtain ⟨i, n⟩ := p
    rw [look_some hf] at hw hb hb' ⊢
    have hb2 : ((((n : Int) + b).toNat : Nat) : Int) = (n : Int) + b := by omega
    refine AFn.intro (fn := Try.f60) (by kernel_rfl) rfl (by kernel_rfl) (by simp) (AW.ofx [] mixed (by kernel_rfl) ?_)
    simp only [Try.f60, argsF]
    simp [hr, hl', plains_head, hm, hH, mfind_p, hf, zvInt, hw]
    refine gd.intro (fun e => ?_) (fun e => ?_)
    · have e : (n : Int) + b = 0 := by simpa using e
      simp [hr, hl', plains_head, hm, hH, mfind_p, hf, zvInt, hw, e]
      have h2 := ht ((M l).eraseIdx i)
      have em : ((M l).eraseIdx i).map entP = ((M l).map entP).eraseIdx i := by
        exact map_eraseIdx _ _
      rw [em] at h2
      exact ⟨h2, hk _⟩
    · have e : ¬ (n : Int) + b = 0 := by simpa using e
      simp [hr, hl', plains_head, hm, hH, mfind_p, hf, zvInt, hw, e]
      have h2 := ht ((M l).set i (c, ((n : Int) + b).toNat))
      rw [List.map_set] at h2
      simp only [entP, hb2] at h2
      exact ⟨h2, hk _⟩
end
end Go.Proofs.Ytoooldijnilpaaa
