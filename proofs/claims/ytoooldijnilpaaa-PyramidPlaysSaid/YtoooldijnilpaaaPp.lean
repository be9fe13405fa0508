/- The pyramid's plain law: what the maps hold of which points. -/
import Derived.Test.YtoooldijnilpaaaPg
namespace Go.Proofs.Ytoooldijnilpaaa
set_option linter.all false
open Go.RowKit AM

/-! ## Lists without repetition -/
theorem len_of_sub {α : Type} [DecidableEq α] : ∀ {l1 l2 : List α}, l1.Nodup → (∀ x, x ∈ l1 → x ∈ l2) → l1.length ≤ l2.length
  | [], _, _, _ => Nat.zero_le _
  | x :: l1, l2, hn, hs => by
    have hx := hs x (by simp)
    have h1 := List.nodup_cons.1 hn
    have := len_of_sub (l1 := l1) (l2 := l2.erase x) h1.2 (fun y hy => by
      have hne : y ≠ x := by rintro rfl; exact h1.1 hy
      exact (List.mem_erase_of_ne hne).2 (hs y (by simp [hy])))
    rw [List.length_erase_of_mem hx] at this
    have := List.length_pos_of_mem hx
    simp
    omega
theorem len_of_same {α : Type} [DecidableEq α] {l1 l2 : List α} (h1 : l1.Nodup) (h2 : l2.Nodup) (h : ∀ x, x ∈ l1 ↔ x ∈ l2) : l1.length = l2.length :=
  Nat.le_antisymm (len_of_sub h1 fun x hx => (h x).1 hx) (len_of_sub h2 fun x hx => (h x).2 hx)

/-! ## What stands in a map -/
theorem pfind_spec {c : Nat} : ∀ {es : List (Nat × Nat)} {k i n : Nat}, pfind c es k = some (i, n) → k ≤ i ∧ es[i - k]? = some (c, n)
  | e :: es, k, i, n, h => by
    unfold pfind at h
    split at h
    · rename_i hc
      simp only [Option.some.injEq, Prod.mk.injEq] at h
      obtain ⟨rfl, rfl⟩ := h
      exact ⟨Nat.le_refl _, by simp [hc]⟩
    · obtain ⟨h1, h2⟩ := pfind_spec h
      refine ⟨by omega, ?_⟩
      rw [show i - k = (i - (k + 1)) + 1 by omega, List.getElem?_cons_succ]
      exact h2
theorem pfind_none {c : Nat} : ∀ {es : List (Nat × Nat)} {k : Nat}, pfind c es k = none ↔ c ∉ es.map Prod.fst
  | [], k => by simp [pfind]
  | e :: es, k => by
    unfold pfind
    by_cases h : c = e.1
    · simp [h]
    · rw [if_neg h, pfind_none]
      simp [h]
theorem look_cons (e : Nat × Nat) (es : List (Nat × Nat)) (c : Nat) : look (e :: es) c = if c = e.1 then e.2 else look es c := by
  have this : ∀ (es : List (Nat × Nat)) (k : Nat), (pfind c es (k + 1)).map (·.2) = (pfind c es k).map (·.2) := by
    intro es
    induction es with
    | nil => intro k; rfl
    | cons x xs ih => intro k; unfold pfind; split <;> simp [ih]
  have h0 : pfind c (e :: es) 0 = if c = e.1 then some (0, e.2) else pfind c es 1 := rfl
  unfold look
  rw [h0]
  split
  · rfl
  · rw [this es 0]
theorem look_mem {es : List (Nat × Nat)} {c n : Nat} (hn : (es.map Prod.fst).Nodup) (h : (c, n) ∈ es) : look es c = n := by
  induction es with
  | nil => cases h
  | cons e es ih =>
    rw [look_cons]
    simp only [List.map_cons, List.nodup_cons] at hn
    rcases List.mem_cons.1 h with rfl | h
    · simp
    · have hne : c ≠ e.1 := by
        intro hc
        exact hn.1 (hc ▸ List.mem_map.2 ⟨_, h, rfl⟩)
      rw [if_neg hne]
      exact ih hn.2 h
theorem look_out {es : List (Nat × Nat)} {c : Nat} (h : c ∉ es.map Prod.fst) : look es c = 0 := look_none (pfind_none.2 h)
theorem look_in {es : List (Nat × Nat)} {c : Nat} (hn : (es.map Prod.fst).Nodup) (h : c ∈ es.map Prod.fst) : (c, look es c) ∈ es := by
  obtain ⟨e, he, rfl⟩ := List.mem_map.1 h
  rw [look_mem hn (show (e.1, e.2) ∈ es from he)]
  exact he
structure Lv (es : List (Nat × Nat)) (f : Nat → Nat) : Prop where
  nd : (es.map Prod.fst).Nodup
  pos : ∀ e ∈ es, 0 < e.2
  look : ∀ c, look es c = f c
theorem Lv.mem {es : List (Nat × Nat)} {f : Nat → Nat} (h : Lv es f) (c : Nat) : c ∈ es.map Prod.fst ↔ 0 < f c := by
  rw [← h.look]
  constructor
  · intro hc
    exact h.pos _ (look_in h.nd hc)
  · intro hc
    by_cases hm : c ∈ es.map Prod.fst
    · exact hm
    · rw [look_out hm] at hc; omega
theorem nodup_erase {α : Type} : ∀ {l : List α} (i : Nat), l.Nodup → (l.eraseIdx i).Nodup
  | l, i, h => h.sublist (List.eraseIdx_sublist l i)
theorem Lv.turn {es : List (Nat × Nat)} {f : Nat → Nat} (h : Lv es f) (c : Nat) (b : Int) (hb : 0 ≤ (f c : Int) + b) : Lv (turnE es c b) (fun c' => if c' = c then ((f c : Int) + b).toNat else f c') := by
  have hlc := h.look c
  have uniq : ∀ c n, (c, n) ∈ es → n = f c := fun c n hm => by rw [← h.look c, look_mem h.nd hm]
  -- a list with other entries
  have mk : ∀ es' : List (Nat × Nat), (es'.map Prod.fst).Nodup → (∀ c' n, (c', n) ∈ es' ↔ (c' ≠ c ∧ (c', n) ∈ es) ∨ (c' = c ∧ n = ((f c : Int) + b).toNat ∧ 0 < n)) → Lv es' (fun c' => if c' = c then ((f c : Int) + b).toNat else f c') := by
    intro es' hn hm
    refine ⟨hn, fun e he => ?_, fun c' => ?_⟩
    · rcases (hm e.1 e.2).1 he with ⟨_, h1⟩ | ⟨_, _, h1⟩
      · exact h.pos _ h1
      · exact h1
    · by_cases hin : c' ∈ es'.map Prod.fst
      · have h1 := look_in hn hin
        rcases (hm _ _).1 h1 with ⟨h2, h3⟩ | ⟨h2, h3, _⟩
        · rw [if_neg h2]
          exact uniq _ _ h3
        · rw [if_pos h2]
          exact h3
      · rw [look_out hin]
        by_cases hcc : c' = c
        · rw [if_pos hcc]
          by_cases hz : 0 < ((f c : Int) + b).toNat
          · exact absurd (List.mem_map.2 ⟨(c', ((f c : Int) + b).toNat), (hm _ _).2 (.inr ⟨hcc, rfl, hz⟩), rfl⟩) hin
          · omega
        · rw [if_neg hcc, ← h.look]
          by_cases h2 : c' ∈ es.map Prod.fst
          · exact absurd (List.mem_map.2 ⟨_, (hm _ _).2 (.inl ⟨hcc, look_in h.nd h2⟩), rfl⟩) hin
          · exact (look_out h2).symm
  unfold turnE
  rw [hlc]
  cases hf : pfind c es 0 with
  | none =>
    have hnc := pfind_none.1 hf
    have hf0 : f c = 0 := by rw [← hlc]; exact look_none hf
    have hno : ∀ n, (c, n) ∉ es := fun n hn => hnc (List.mem_map.2 ⟨_, hn, rfl⟩)
    split
    · rename_i hz
      refine mk es h.nd fun c' n => ?_
      constructor
      · intro hm
        exact .inl ⟨by rintro rfl; exact hno n hm, hm⟩
      · rintro (⟨_, hm⟩ | ⟨_, h2, h3⟩)
        · exact hm
        · omega
    · rename_i hz
      refine mk _ ?_ fun c' n => ?_
      · rw [List.map_append, List.nodup_append]
        refine ⟨h.nd, by simp, fun x hx y hy => ?_⟩
        simp only [List.map_cons, List.map_nil, List.mem_singleton] at hy
        rintro rfl
        exact hnc (hy ▸ hx)
      · simp only [List.mem_append, List.mem_singleton, Prod.mk.injEq]
        constructor
        · rintro (hm | ⟨rfl, rfl⟩)
          · exact .inl ⟨by rintro rfl; exact hno n hm, hm⟩
          · exact .inr ⟨rfl, rfl, by omega⟩
        · rintro (⟨_, hm⟩ | ⟨h1, h2, _⟩)
          · exact .inl hm
          · exact .inr ⟨h1, h2⟩
  | some p =>
    obtain ⟨i, m⟩ := p
    obtain ⟨_, hi⟩ := pfind_spec hf
    rw [Nat.sub_zero] at hi
    obtain ⟨hil, hie⟩ := List.getElem?_eq_some_iff.1 hi
    have key : ∀ j (hj : j < es.length), es[j].1 = c → j = i := fun j hj hjc => by
      have hp := List.pairwise_iff_getElem.1 h.nd
      rcases Nat.lt_trichotomy j i with hlt | hlt | hlt
      · have := hp j i (by simpa using hj) (by simpa using hil) hlt
        simp [hjc, hie] at this
      · exact hlt
      · have := hp i j (by simpa using hil) (by simpa using hj) hlt
        simp [hjc, hie] at this
    split
    · rename_i hz
      refine mk _ ?_ fun c' n => ?_
      · rw [map_eraseIdx]
        exact nodup_erase i h.nd
      · rw [List.mem_eraseIdx_iff_getElem]
        constructor
        · rintro ⟨j, hj, hji, e⟩
          refine .inl ⟨?_, e ▸ List.getElem_mem hj⟩
          intro hcc
          exact hji (key j hj (by rw [e]; exact hcc))
        · rintro (⟨h1, hm⟩ | ⟨_, h2, h3⟩)
          · obtain ⟨j, hj, e⟩ := List.getElem_of_mem hm
            refine ⟨j, hj, ?_, e⟩
            rintro rfl
            rw [hie] at e
            cases e
            exact h1 rfl
          · omega
    · rename_i hz
      refine mk _ ?_ fun c' n => ?_
      · rw [List.map_set]
        have : (es.map Prod.fst).set i c = es.map Prod.fst := by
          apply List.ext_getElem?
          intro j
          rw [List.getElem?_set]
          split
          · rename_i hij
            subst hij
            simp [hi, hil, hie]
          · rfl
        rw [this]
        exact h.nd
      · constructor
        · intro hm
          obtain ⟨j, hj, e⟩ := List.getElem_of_mem hm
          rw [List.getElem_set] at e
          split at e
          · cases e
            exact .inr ⟨rfl, rfl, by omega⟩
          · rename_i hij
            have hj' : j < es.length := by simpa using hj
            refine .inl ⟨?_, e ▸ List.getElem_mem hj'⟩
            intro hcc
            exact hij (key j hj' (by rw [e]; exact hcc)).symm
        · rintro (⟨h1, hm⟩ | ⟨rfl, rfl, _⟩)
          · obtain ⟨j, hj, e⟩ := List.getElem_of_mem hm
            have hji : i ≠ j := by
              rintro rfl
              rw [hie] at e
              cases e
              exact h1 rfl
            rw [List.mem_iff_getElem?]
            exact ⟨j, by rw [List.getElem?_set_ne hji, List.getElem?_eq_getElem hj, e]⟩
          · rw [List.mem_iff_getElem?]
            exact ⟨i, by rw [List.getElem?_set_self hil]⟩

/-! ## All levels -/
def cntL (ps : List Pt) (l c : Nat) : Nat := (ps.filter fun p => decide (lcode p l = c)).length
def Good (M : Nat → List (Nat × Nat)) (ps : List Pt) : Prop := ∀ l, l < 17 → Lv (M l) (cntL ps l)
theorem Lv.congr {es : List (Nat × Nat)} {f g : Nat → Nat} (h : Lv es f) (e : ∀ c, f c = g c) : Lv es g := ⟨h.nd, h.pos, fun c => (h.look c).trans (e c)⟩
theorem cntL_cons (p : Pt) (ps : List Pt) (l c : Nat) : cntL (p :: ps) l c = if lcode p l = c then cntL ps l c + 1 else cntL ps l c := by
  unfold cntL
  rw [List.filter_cons]
  by_cases h : lcode p l = c <;> simp [h]
theorem cntL_le (ps : List Pt) (l c : Nat) : cntL ps l c ≤ ps.length := List.length_filter_le _ _
theorem Good.add {M : Nat → List (Nat × Nat)} {ps : List Pt} (h : Good M ps) (p : Pt) : Good (stepM 1 p M 17) (p :: ps) := fun l hl => by
  rw [stepM_all 1 p M l hl]
  refine ((h l hl).turn (lcode p l) 1 (by omega)).congr fun c => ?_
  rw [cntL_cons]
  by_cases hc : c = lcode p l
  · subst hc
    rw [if_pos rfl, if_pos rfl]
    omega
  · rw [if_neg hc, if_neg (Ne.symm hc)]
theorem cntL_perm {ps qs : List Pt} (h : ps.Perm qs) (l c : Nat) : cntL ps l c = cntL qs l c := (h.filter _).length_eq
theorem Good.perm {M : Nat → List (Nat × Nat)} {ps qs : List Pt} (h : Good M ps) (hp : ps.Perm qs) : Good M qs := fun l hl => (h l hl).congr fun c => cntL_perm hp l c
theorem cntL_pos {p : Pt} {ps : List Pt} (h : p ∈ ps) (l : Nat) : 0 < cntL ps l (lcode p l) := by
  unfold cntL
  exact List.length_pos_of_mem (List.mem_filter.2 ⟨h, by simp⟩)
theorem Good.drop {M : Nat → List (Nat × Nat)} {ps : List Pt} (h : Good M ps) {p : Pt} (hp : p ∈ ps) : Good (stepM (-1) p M 17) (ps.erase p) := fun l hl => by
  rw [stepM_all (-1) p M l hl]
  have hpos := cntL_pos hp l
  refine ((h l hl).turn (lcode p l) (-1) (by omega)).congr fun c => ?_
  have h1 := cntL_perm (List.perm_cons_erase hp) l c
  rw [cntL_cons] at h1
  by_cases hc : c = lcode p l
  · subst hc
    simp at h1 ⊢
    omega
  · rw [if_neg (Ne.symm hc)] at h1
    rw [if_neg hc]
    exact h1
theorem Good.none : Good (fun _ => []) [] := fun l _ => ⟨by simp, fun e he => (by cases he), fun c => by simp [look, pfind, cntL]⟩

/-! ## Points and codes -/
theorem fits_nat {p : Pt} (h : fits p = true) : ∃ x y : Nat, p = ⟨x, y⟩ ∧ x < 65536 ∧ y < 65536 := by
  obtain ⟨⟨h1, h2⟩, h3, h4⟩ := fits_iff.1 h
  obtain ⟨x, hx⟩ := Int.eq_ofNat_of_zero_le h1
  obtain ⟨y, hy⟩ := Int.eq_ofNat_of_zero_le h3
  obtain ⟨px, py⟩ := p
  simp only at *
  subst hx hy
  exact ⟨x, y, rfl, by omega, by omega⟩
theorem pow16 (n : Nat) (h : n = 16) : 2 ^ n = 65536 := by simp [h]
theorem pcode_def (p : Pt) : pcode p = (codeR ⟨16, p.x, p.y⟩).1 := rfl
theorem pcode_at (p : Pt) (n : Nat) (e : (16 : Int) = (n : Int)) : pcode p = (codeR ⟨n, p.x, p.y⟩).1 := by rw [pcode_def, e]
theorem pcode_nat' {x y : Nat} (hx : x < 65536) (hy : y < 65536) (n : Nat) (hn : n = 16) : pcode ⟨x, y⟩ = mort n x y := by
  rw [pcode_at _ n (by omega)]
  simp only
  rw [codeR_nat (by omega) (by rw [pow16 n hn]; exact hx) (by rw [pow16 n hn]; exact hy)]
theorem pcode_nat {x y : Nat} (hx : x < 65536) (hy : y < 65536) : pcode ⟨x, y⟩ = mort 16 x y := pcode_nat' hx hy 16 rfl
theorem lcode_nat {x y l : Nat} (hx : x < 65536) (hy : y < 65536) (hl : l ≤ 16) : lcode ⟨x, y⟩ l = mort l (x / 2 ^ (16 - l)) (y / 2 ^ (16 - l)) := by
  unfold lcode
  rw [pcode_nat hx hy]
  have := mort_shift l (16 - l) x y
  rw [show l + (16 - l) = 16 by omega] at this
  exact this
theorem div_lt_pow {x l : Nat} (hx : x < 65536) (hl : l ≤ 16) : x / 2 ^ (16 - l) < 2 ^ l := by
  rw [Nat.div_lt_iff_lt_mul (Nat.two_pow_pos _), ← Nat.pow_add, show l + (16 - l) = 16 by omega]
  exact hx
theorem pcode_inj {p q : Pt} (hp : fits p = true) (hq : fits q = true) (h : pcode p = pcode q) : p = q := by
  obtain ⟨x, y, rfl, hx, hy⟩ := fits_nat hp
  obtain ⟨x', y', rfl, hx', hy'⟩ := fits_nat hq
  rw [pcode_nat hx hy, pcode_nat hx' hy'] at h
  obtain ⟨rfl, rfl⟩ := mort_inj (n := 16) (by simpa using hx) (by simpa using hy) (by simpa using hx') (by simpa using hy') h
  rfl
theorem lcode16 (p : Pt) : lcode p 16 = pcode p := by simp [lcode]
/-- A cell of a level and its code. -/
theorem cell_nat {x y l : Nat} (hl : l ≤ 16) : cellOf ⟨x, y⟩ l = ⟨l, ((x / 2 ^ (16 - l) : Nat) : Int), ((y / 2 ^ (16 - l) : Nat) : Int)⟩ := by
  unfold cellOf side
  rw [show 16 - (l : Int) = ((16 - l : Nat) : Int) by omega, two_nat]
  simp
theorem lcode_cell {p q : Pt} (hp : fits p = true) (hq : fits q = true) {l : Nat} (hl : l ≤ 16) : lcode p l = lcode q l ↔ cellOf p l = cellOf q l := by
  obtain ⟨x, y, rfl, hx, hy⟩ := fits_nat hp
  obtain ⟨x', y', rfl, hx', hy'⟩ := fits_nat hq
  rw [lcode_nat hx hy hl, lcode_nat hx' hy' hl, cell_nat hl, cell_nat hl]
  constructor
  · intro h
    obtain ⟨e1, e2⟩ := mort_inj (div_lt_pow hx hl) (div_lt_pow hy hl) (div_lt_pow hx' hl) (div_lt_pow hy' hl) h
    rw [e1, e2]
  · intro h
    simp only [Ce.mk.injEq, true_and] at h
    obtain ⟨e1, e2⟩ := h
    rw [Int.ofNat_inj.1 e1, Int.ofNat_inj.1 e2]
theorem has_div {x a s : Nat} (hs : 0 < s) : (s * a ≤ x ∧ x ≤ s * a + s - 1) ↔ x / s = a := by
  constructor
  · rintro ⟨h1, h2⟩
    exact Nat.div_eq_of_lt_le (by rw [Nat.mul_comm]; exact h1) (by rw [Nat.succ_mul, Nat.mul_comm]; omega)
  · rintro rfl
    have h1 := Nat.div_add_mod x s
    have h2 := Nat.mod_lt x hs
    omega
theorem has_code {p : Pt} (hp : fits p = true) {c : Ce} (hc : rightC c = true) : hasR (boxOf c) p = decide (lcode p c.l.toNat = (codeR c).1) := by
  obtain ⟨x, y, rfl, hx, hy⟩ := fits_nat hp
  have hbx := box_le hc
  obtain ⟨n, a, b, rfl, hn, ha, hb⟩ := rightC_nat hc
  rw [codeR_nat hn ha hb, Int.toNat_natCast, lcode_nat hx hy hn]
  have hs : 0 < 2 ^ (16 - n) := Nat.two_pow_pos _
  have es : side (n : Int) = ((2 ^ (16 - n) : Nat) : Int) := by
    unfold side
    rw [show 16 - (n : Int) = ((16 - n : Nat) : Int) by omega, two_nat]
  have e1 : mort n (x / 2 ^ (16 - n)) (y / 2 ^ (16 - n)) = mort n a b ↔ x / 2 ^ (16 - n) = a ∧ y / 2 ^ (16 - n) = b := by
    constructor
    · exact mort_inj (div_lt_pow hx hn) (div_lt_pow hy hn) ha hb
    · rintro ⟨rfl, rfl⟩; rfl
  simp only [e1, ← has_div hs]
  unfold hasR rightR boxOf inside
  simp only at hbx ⊢
  rw [es] at hbx ⊢
  have m1 : ((2 ^ (16 - n) : Nat) : Int) * (a : Int) = ((2 ^ (16 - n) * a : Nat) : Int) := by simp
  have m2 : ((2 ^ (16 - n) : Nat) : Int) * (b : Int) = ((2 ^ (16 - n) * b : Nat) : Int) := by simp
  rw [m1, m2] at hbx ⊢
  generalize 2 ^ (16 - n) * a = u at *
  generalize 2 ^ (16 - n) * b = v at *
  generalize 2 ^ (16 - n) = s at *
  rw [Bool.eq_iff_iff]
  simp only [Bool.and_eq_true, decide_eq_true_eq]
  omega
theorem cnt_plain {ps : List Pt} (hf : ∀ p ∈ ps, fits p = true) {c : Ce} (hc : rightC c = true) : cntL ps c.l.toNat (codeR c).1 = cntR ps c := by
  unfold cntL cntR
  rw [if_pos hc]
  congr 1
  apply List.filter_congr
  intro p hp
  rw [has_code (hf p hp) hc]
/-- How many cells of a level have points. -/
theorem lvl_plain {ps : List Pt} (hf : ∀ p ∈ ps, fits p = true) {l : Nat} (hl : l ≤ 16) {es : List (Nat × Nat)} (h : Lv es (cntL ps l)) : es.length = lvlR ps l := by
  unfold lvlR
  rw [if_pos (by rw [rightL_iff]; omega)]
  have ecell : ∀ i (hi : i < ps.length), (cellsL ps l).getD i Ce.zero = cellOf ps[i] l := fun i hi => by
    rw [cellsL_get hi]
    have : rightL (l : Int) = true := by rw [rightL_iff]; omega
    simp [ofR, this, hf _ (List.getElem_mem hi)]
  have emem : ∀ i (hi : i < ps.length) k, k ≤ ps.length → (cellOf ps[i] l ∈ (cellsL ps l).take k ↔ ∃ j, ∃ hj : j < ps.length, j < k ∧ lcode ps[j] l = lcode ps[i] l) := fun i hi k hk => by
    rw [List.mem_take_iff_getElem]
    constructor
    · rintro ⟨j, hj, e⟩
      have hjl : j < ps.length := by simp [cellsL] at hj; omega
      have e2 := ecell j hjl
      rw [List.getD_eq_getElem?_getD, List.getElem?_eq_getElem (by simpa [cellsL] using hjl)] at e2
      simp only [Option.getD_some] at e2
      refine ⟨j, hjl, by omega, ?_⟩
      rw [lcode_cell (hf _ (List.getElem_mem hjl)) (hf _ (List.getElem_mem hi)) hl, ← e2]
      exact e
    · rintro ⟨j, hj, hjk, e⟩
      refine ⟨j, by simp [cellsL]; omega, ?_⟩
      have e2 := ecell j hj
      rw [List.getD_eq_getElem?_getD, List.getElem?_eq_getElem (by simpa [cellsL] using hj)] at e2
      simp only [Option.getD_some] at e2
      rw [e2]
      exact (lcode_cell (hf _ (List.getElem_mem hj)) (hf _ (List.getElem_mem hi)) hl).1 e
  have efresh : ∀ i (hi : i < ps.length), freshB (cellsL ps l) i = true ↔ ∀ j (hj : j < ps.length), j < i → lcode ps[j] l ≠ lcode ps[i] l := fun i hi => by
    unfold freshB
    rw [ecell i hi]
    simp only [Bool.not_eq_true', decide_eq_false_iff_not]
    rw [emem i hi i (by omega)]
    constructor
    · intro h j hj hji e
      exact h ⟨j, hj, hji, e⟩
    · rintro h ⟨j, hj, hji, e⟩
      exact h j hj hji e
  let fr := (List.range ps.length).filter (freshB (cellsL ps l))
  have hfr : ∀ i ∈ fr, i < ps.length := fun i hi => by simpa using (List.mem_filter.1 hi).1
  let g : Nat → Nat := fun i => lcode (ps.getD i ⟨0, 0⟩) l
  have hg : ∀ i (hi : i < ps.length), g i = lcode ps[i] l := fun i hi => by simp [g, List.getD_eq_getElem?_getD, List.getElem?_eq_getElem hi]
  have e1 : freshN (cellsL ps l) ps.length = (fr.map g).length := by simp [freshN, fr]
  rw [e1, show es.length = (es.map Prod.fst).length by simp]
  refine len_of_same h.nd ?_ fun c => ?_
  · rw [List.nodup_iff_pairwise_ne, List.pairwise_map]
    have : fr.Pairwise (· < ·) := (List.pairwise_lt_range).filter _
    refine this.imp_of_mem fun {i j} hi hj hij => ?_
    have hjl := hfr j hj
    have hil := hfr i hi
    rw [hg i hil, hg j hjl]
    exact (efresh j hjl).1 (List.mem_filter.1 hj).2 i hil hij
  · rw [h.mem]
    constructor
    · intro hc
      -- the first point with that code
      have hex : ∃ i, ∃ hi : i < ps.length, lcode ps[i] l = c := by
        unfold cntL at hc
        obtain ⟨p, hp⟩ := List.exists_mem_of_length_pos hc
        obtain ⟨h1, h2⟩ := List.mem_filter.1 hp
        obtain ⟨i, hi, e⟩ := List.getElem_of_mem h1
        exact ⟨i, hi, by rw [e]; simpa using h2⟩
      have key : ∀ n, (∃ i, ∃ hi : i < ps.length, i ≤ n ∧ lcode ps[i] l = c) → ∃ i, ∃ hi : i < ps.length, lcode ps[i] l = c ∧ ∀ j (hj : j < ps.length), j < i → lcode ps[j] l ≠ c := by
        intro n
        induction n with
        | zero =>
          rintro ⟨i, hi, hin, e⟩
          exact ⟨i, hi, e, fun j hj hji => by omega⟩
        | succ n ih =>
          rintro ⟨i, hi, hin, e⟩
          by_cases hx : ∃ i, ∃ hi : i < ps.length, i ≤ n ∧ lcode ps[i] l = c
          · exact ih hx
          · refine ⟨i, hi, e, fun j hj hji e' => hx ⟨j, hj, by omega, e'⟩⟩
      obtain ⟨i0, hi0, e0⟩ := hex
      obtain ⟨i, hi, e, hmin⟩ := key i0 ⟨i0, hi0, Nat.le_refl _, e0⟩
      refine List.mem_map.2 ⟨i, List.mem_filter.2 ⟨by simpa using hi, (efresh i hi).2 fun j hj hji => by rw [e]; exact hmin j hj hji⟩, ?_⟩
      rw [hg i hi, e]
    · intro hm
      obtain ⟨i, hi, rfl⟩ := List.mem_map.1 hm
      have hil := hfr i hi
      rw [hg i hil]
      exact cntL_pos (List.getElem_mem hil) l
end Go.Proofs.Ytoooldijnilpaaa
