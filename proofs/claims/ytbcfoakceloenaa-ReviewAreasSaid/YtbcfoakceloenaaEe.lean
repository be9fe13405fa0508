/- Review: areas are counts of points (plain). -/
import Derived.Test.YtbcfoakceloenaaDk1
namespace Go.Proofs.Ytbcfoakceloenaa
set_option linter.all false
open Go.RowKit AM Can
set_option maxRecDepth 10000

theorem box_rightA {q : Int → Int → Bool} {a b : List Ru} {w : Wo} {o : List (Rc (Int × Int))} (h : Can.Form (FZ2 q a b w) o) {r : Rc (Int × Int)} (hr : r ∈ o) : rightR (boxC r) = true := by
  obtain ⟨h1, h2⟩ := h.corner hr
  have h3 := h.le hr
  have i1 := (FZ2_some.1 h1).1
  have i2 := (FZ2_some.1 h2).1
  unfold inG at i1 i2
  simp at i1 i2
  refine rightR_iff.2 ?_
  simp only [boxC]
  omega
/-! ## Sums -/
def rsum (n : Nat) (f : Nat → Nat) : Nat := ((List.range n).map f).sum
theorem rsum_zero (f : Nat → Nat) : rsum 0 f = 0 := rfl
theorem rsum_succ (n : Nat) (f : Nat → Nat) : rsum (n + 1) f = rsum n f + f n := by
  unfold rsum
  rw [List.range_succ, List.map_append, List.sum_append]
  simp
theorem rsum_congr {f g : Nat → Nat} : ∀ {n : Nat}, (∀ k, k < n → f k = g k) → rsum n f = rsum n g
  | 0, _ => rfl
  | n + 1, h => by rw [rsum_succ, rsum_succ, rsum_congr fun k hk => h k (by omega), h n (by omega)]
theorem rsum_mul (c : Nat) (f : Nat → Nat) : ∀ n, rsum n (fun k => f k * c) = rsum n f * c
  | 0 => by simp [rsum_zero]
  | n + 1 => by rw [rsum_succ, rsum_succ, rsum_mul c f n, Nat.add_mul]
theorem rsum_sumN (g : Nat → Int → Nat) (m : Nat) : ∀ n, rsum n (fun z => sumN (g z) m) = sumN (fun x => rsum n fun z => g z x) m
  | 0 => by
    rw [rsum_zero]
    have : (fun x : Int => rsum 0 fun z => g z x) = fun _ => 0 := rfl
    rw [this, sumN_zero]
  | n + 1 => by
    rw [rsum_succ, rsum_sumN g m n, ← sumN_add]
    exact sumN_congr fun k _ => by rw [rsum_succ]
theorem sumN_swap (f : Int → Int → Nat) (n : Nat) : ∀ m, sumN (fun y => sumN (fun x => f x y) n) m = sumN (fun x => sumN (fun y => f x y) m) n
  | 0 => by
    have : (fun x : Int => sumN (fun y => f x y) 0) = fun _ => 0 := rfl
    rw [this, sumN_zero]
    rfl
  | m + 1 => by
    rw [sumN, sumN_swap f n m, ← sumN_add]
    exact sumN_congr fun k _ => rfl
theorem sumN_stretch {g : Int → Nat} {c a : Nat} : ∀ d, (∀ t : Nat, a ≤ t → t < a + d → g t = c) → sumN g (a + d) = sumN g a + d * c
  | 0, _ => by simp
  | d + 1, h => by
    rw [← Nat.add_assoc, sumN, sumN_stretch d fun t h1 h2 => h t h1 (by omega), h (a + d) (by omega) (by omega), Nat.succ_mul]
    omega
/-- A sum over the grid's line, stretch by stretch. -/
theorem sumN_cuts {l : List Re} {d : Bool} {xs : List Int} (h : CutG l d xs) {g : Int → Nat} (hg : ∀ x y, (∀ c ∈ xs, c ≤ x ↔ c ≤ y) → g x = g y) : sumN g 65536 = rsum (xs.length - 1) fun i => (xs.getD (i + 1) 0 - xs.getD i 0).toNat * g (xs.getD i 0) := by
  have hgd : ∀ i (hi : i < xs.length), xs.getD i 0 = xs[i] := fun i hi => by rw [List.getD_eq_getElem?_getD, List.getElem?_eq_getElem hi]; rfl
  have hpos : 0 < xs.length := List.length_pos_of_mem h.zero
  have h0 : xs[0] = 0 := by
    obtain ⟨k, hk, hke⟩ := List.getElem_of_mem h.zero
    have h1 := (h.within _ (List.getElem_mem hpos)).1
    by_cases e : k = 0
    · subst e; exact hke
    · have := pair_lt h.lt (i := 0) (j := k) hpos hk (by omega)
      omega
  have hN : xs[xs.length - 1] = 65536 := by
    obtain ⟨k, hk, hke⟩ := List.getElem_of_mem h.top
    have h1 := (h.within _ (List.getElem_mem (l := xs) (n := xs.length - 1) (by omega))).2
    by_cases e : k = xs.length - 1
    · subst e; exact hke
    · have := pair_lt h.lt (i := k) (j := xs.length - 1) hk (by omega) (by omega)
      omega
  have go : ∀ k (hk : k < xs.length), sumN g (xs[k]).toNat = rsum k fun i => (xs.getD (i + 1) 0 - xs.getD i 0).toNat * g (xs.getD i 0) := by
    intro k
    induction k with
    | zero => intro hk; rw [h0]; rfl
    | succ k ih =>
      intro hk
      have hk1 : k < xs.length := by omega
      have hlt := pair_lt h.lt (i := k) (j := k + 1) hk1 hk (by omega)
      have hw := (h.within _ (List.getElem_mem hk1)).1
      have e : (xs[k + 1]).toNat = (xs[k]).toNat + (xs[k + 1] - xs[k]).toNat := by omega
      rw [e, sumN_stretch (c := g xs[k]) _ (fun t h1 h2 => hg _ _ fun c hc => ?_), ih hk1, rsum_succ, hgd k hk1, hgd (k + 1) hk]
      obtain ⟨i, hi, rfl⟩ := List.getElem_of_mem hc
      by_cases hik : i ≤ k
      · have : xs[i] ≤ xs[k] := by
          by_cases e : i = k
          · subst e; exact Int.le_refl _
          · exact Int.le_of_lt (pair_lt h.lt hi hk1 (by omega))
        omega
      · have : xs[k + 1] ≤ xs[i] := by
          by_cases e : i = k + 1
          · subst e; exact Int.le_refl _
          · exact Int.le_of_lt (pair_lt h.lt hk hi (by omega))
        omega
  have := go (xs.length - 1) (by omega)
  rw [hN] at this
  exact this
/-! ## What is kept of rectangles -/
def sumA (z : Nat) (o : List (Rc (Int × Int))) : Nat := (o.map fun q => if q.z.1 = (z : Int) then areaR (boxC q) else 0).sum
def allA (o : List (Rc (Int × Int))) : Nat := (o.map fun q => areaR (boxC q)).sum
theorem arF_get : ∀ (o : List (Rc (Int × Int))) (zs : List Int), zs.length = 17 → (∀ q ∈ o, 0 ≤ q.z.1 ∧ q.z.1 ≤ 16) → (∀ k, k < 17 → 0 ≤ zs.getD k 0 ∧ zs.getD k 0 + allA o ≤ 18446744073709551615) → ∀ k, k < 17 → (o.foldl arS zs).getD k 0 = zs.getD k 0 + sumA k o
  | [], zs, _, _, _, k, _ => by simp [sumA]
  | q :: o, zs, hl, hq, hb, k, hk => by
    obtain ⟨n, hn⟩ : ∃ n : Nat, q.z.1 = n := ⟨q.z.1.toNat, by have := hq q (by simp); omega⟩
    have hn17 : n < 17 := by have := hq q (by simp); omega
    have hall : allA (q :: o) = areaR (boxC q) + allA o := by simp [allA]
    have hsum : ∀ k : Nat, sumA k (q :: o) = (if q.z.1 = k then areaR (boxC q) else 0) + sumA k o := fun k => by simp [sumA]
    have hS : ∀ k, k < 17 → (arS zs q).getD k 0 = zs.getD k 0 + (if q.z.1 = k then areaR (boxC q) else 0 : Nat) := fun k hk => by
      have hbn := hb n hn17
      unfold arS
      rw [hn, Int.toNat_natCast, List.getD_eq_getElem?_getD, List.getElem?_set]
      by_cases e : n = k
      · subst e
        rw [if_pos rfl, if_pos (by omega), if_pos rfl, wrap_u64 (by omega) (by omega)]
        rfl
      · rw [if_neg e, if_neg (by omega), ← List.getD_eq_getElem?_getD]
        simp
    have ih := arF_get o (arS zs q) (by simp [arS, hl]) (fun q' h' => hq q' (by simp [h'])) (fun k hk => by
      have := hb k hk
      rw [hS k hk]
      split <;> omega) k hk
    rw [List.foldl_cons, ih, hS k hk, hsum]
    split <;> omega
theorem arP_get {o : List (Rc (Int × Int))} (hq : ∀ q ∈ o, 0 ≤ q.z.1 ∧ q.z.1 ≤ 16) (ha : allA o ≤ 4294967296) {k : Nat} (hk : k < 17) : (arP o).getD k 0 = (sumA k o : Nat) := by
  unfold arP
  rw [arF_get o _ (by simp) hq (fun k hk => by
    have : (List.replicate 17 (0 : Int)).getD k 0 = 0 := by rw [List.getD_eq_getElem?_getD, List.getElem?_replicate]; split <;> rfl
    rw [this]
    omega) k hk]
  have : (List.replicate 17 (0 : Int)).getD k 0 = 0 := by rw [List.getD_eq_getElem?_getD, List.getElem?_replicate]; split <;> rfl
  rw [this]
  omega
theorem arP_eq {o o' : List (Rc (Int × Int))} (hq : ∀ q ∈ o, 0 ≤ q.z.1 ∧ q.z.1 ≤ 16) (ha : allA o ≤ 4294967296) (hq' : ∀ q ∈ o', 0 ≤ q.z.1 ∧ q.z.1 ≤ 16) (ha' : allA o' ≤ 4294967296) (h : ∀ k, k < 17 → sumA k o = sumA k o') : arP o = arP o' := by
  refine List.ext_getElem (by rw [arP_len, arP_len]) fun k h1 h2 => ?_
  have hk : k < 17 := by rw [arP_len] at h1; exact h1
  have e1 := arP_get hq ha hk
  have e2 := arP_get hq' ha' hk
  rw [List.getD_eq_getElem?_getD, List.getElem?_eq_getElem h1] at e1
  rw [List.getD_eq_getElem?_getD, List.getElem?_eq_getElem h2] at e2
  change (arP o)[k] = _ at e1
  change (arP o')[k] = _ at e2
  rw [e1, e2, h k hk]
/-! ## Points -/
def zoomN (l : List Ru) (w : Wo) (z : Nat) (x y : Int) : Nat := if zoomR l w.ro w.ti w.la ⟨x, y⟩ = (z : Int) then 1 else 0
def cntA (f : Int → Int → Nat) : Nat := sumN (fun y => sumN (fun x => f x y) 65536) 65536
def wtZ (z : Nat) (p : Int × Int) : Nat := if p.1 = (z : Int) then 1 else 0
theorem area_rc {q : Rc (Int × Int)} (h : rightR (boxC q) = true) : areaR (boxC q) = rcArea q := by
  have hb := rightR_iff.1 h
  unfold areaR rcArea
  rw [if_pos h]
  simp only [boxC] at hb ⊢
  rw [Int.toNat_mul (by omega) (by omega)]
theorem sumA_prog {l : List Ru} (ha : l.all ruRight = true) (w : Wo) (z : Nat) : sumA z (ovP allB l [] w) = cntA (zoomN l w z) := by
  have hf := ovP_form allB ha (by rfl : ([] : List Ru).all ruRight = true) w
  have hin : ∀ x y p, FZ2 allB l [] w x y = some p → (0 ≤ x ∧ x < (65536 : Nat)) ∧ 0 ≤ y ∧ y < (65536 : Nat) := fun x y p hp => by
    have := (FZ2_some.1 hp).1
    unfold inG at this
    simp at this
    omega
  have h1 := hf.area_eq (w := wtZ z) hin
  have h2 : sumA z (ovP allB l [] w) = Can.areas (wtZ z) (ovP allB l [] w) := by
    unfold sumA Can.areas
    congr 1
    refine List.map_congr_left fun q hq => ?_
    rw [area_rc (box_rightA hf hq)]
    unfold wtZ
    split <;> simp
  rw [h2, h1]
  unfold total cntA
  refine sumN_congr fun y hy => sumN_congr fun x hx => ?_
  have hg : inG (x : Int) (y : Int) = true := by unfold inG; simp; omega
  have : FZ2 allB l [] w x y = some (zoomR l w.ro w.ti w.la ⟨x, y⟩, zoomR [] w.ro w.ti w.la ⟨x, y⟩) := FZ2_some.2 ⟨hg, rfl, rfl, rfl⟩
  rw [this]
  rfl
theorem allA_prog {l : List Ru} (ha : l.all ruRight = true) (w : Wo) : allA (ovP allB l [] w) ≤ 4294967296 := by
  have hf := ovP_form allB ha (by rfl : ([] : List Ru).all ruRight = true) w
  have hin : ∀ x y p, FZ2 allB l [] w x y = some p → (0 ≤ x ∧ x < (65536 : Nat)) ∧ 0 ≤ y ∧ y < (65536 : Nat) := fun x y p hp => by
    have := (FZ2_some.1 hp).1
    unfold inG at this
    simp at this
    omega
  have h1 := hf.area_eq (w := fun _ => 1) hin
  have h2 : allA (ovP allB l [] w) = Can.areas (fun _ => 1) (ovP allB l [] w) := by
    unfold allA Can.areas
    congr 1
    refine List.map_congr_left fun q hq => ?_
    rw [area_rc (box_rightA hf hq)]
    simp
  rw [h2, h1]
  unfold total
  have h3 : sumN (fun y => sumN (fun x => wgt (fun _ => 1) (FZ2 allB l [] w x y)) 65536) 65536 ≤ sumN (fun _ => sumN (fun _ => 1) 65536) 65536 := sumN_le fun y _ => sumN_le fun x _ => by
    unfold wgt
    split <;> simp
  have h4 : sumN (fun _ => sumN (fun _ => 1) 65536) 65536 = 65536 * (65536 * 1) := by rw [sumN_const, sumN_const]
  omega
theorem zoom_prog {l : List Ru} (ha : l.all ruRight = true) (w : Wo) : ∀ q ∈ ovP allB l [] w, 0 ≤ q.z.1 ∧ q.z.1 ≤ 16 := fun q hq => by
  have hf := ovP_form allB ha (by rfl : ([] : List Ru).all ruRight = true) w
  have := (FZ2_some.1 (hf.corner hq).1).2.2.1
  have hr := zoomR_range l w.ro w.ti w.la ⟨q.x0, q.y0⟩
  omega
/-! ## The cells between cuts -/
def cellA (l : List Ru) (w : Wo) (xs ys : List Int) (i k : Nat) : Rc (Int × Int) := ⟨xs.getD i 0, ys.getD k 0, xs.getD (i + 1) 0 - 1, ys.getD (k + 1) 0 - 1, (zoomR l w.ro w.ti w.la ⟨xs.getD i 0, ys.getD k 0⟩, 0)⟩
def cellsA (l : List Ru) (w : Wo) (xs ys : List Int) (n : Nat) : List (Rc (Int × Int)) := (List.range n).flatMap fun i => (List.range (ys.length - 1)).map fun k => cellA l w xs ys i k
theorem sum_flat {α β : Type} (f : β → Nat) (g : α → List β) : ∀ l : List α, ((l.flatMap g).map f).sum = (l.map fun a => ((g a).map f).sum).sum
  | [] => rfl
  | a :: l => by simp [sum_flat f g l]
theorem cells_area {l : List Ru} {w : Wo} {c c' : List Re} {xs ys : List Int} (hx : CutG c false xs) (hy : CutG c' true ys) {i k : Nat} (hi : i < xs.length - 1) (hk : k < ys.length - 1) : areaR (boxC (cellA l w xs ys i k)) = (xs.getD (i + 1) 0 - xs.getD i 0).toNat * (ys.getD (k + 1) 0 - ys.getD k 0).toNat := by
  have gx : ∀ i (hi : i < xs.length), xs.getD i 0 = xs[i] := fun i hi => by rw [List.getD_eq_getElem?_getD, List.getElem?_eq_getElem hi]; rfl
  have gy : ∀ i (hi : i < ys.length), ys.getD i 0 = ys[i] := fun i hi => by rw [List.getD_eq_getElem?_getD, List.getElem?_eq_getElem hi]; rfl
  have l1 := pair_lt hx.lt (i := i) (j := i + 1) (by omega) (by omega) (by omega)
  have l2 := pair_lt hy.lt (i := k) (j := k + 1) (by omega) (by omega) (by omega)
  have w1 := hx.within _ (List.getElem_mem (l := xs) (n := i) (by omega))
  have w2 := hx.within _ (List.getElem_mem (l := xs) (n := i + 1) (by omega))
  have w3 := hy.within _ (List.getElem_mem (l := ys) (n := k) (by omega))
  have w4 := hy.within _ (List.getElem_mem (l := ys) (n := k + 1) (by omega))
  unfold cellA
  rw [gx i (by omega), gx (i + 1) (by omega), gy k (by omega), gy (k + 1) (by omega)]
  generalize xs[i] = a at *
  generalize xs[i + 1] = b at *
  generalize ys[k] = e at *
  generalize ys[k + 1] = f at *
  have hr : rightR (boxC ⟨a, e, b - 1, f - 1, (zoomR l w.ro w.ti w.la ⟨a, e⟩, 0)⟩) = true := rightR_iff.2 (by simp only [boxC]; omega)
  rw [area_rc hr]
  unfold rcArea
  congr 1 <;> (simp only; omega)
theorem sum_cells {l : List Ru} {w : Wo} {c c' : List Re} {xs ys : List Int} (hx : CutG c false xs) (hy : CutG c' true ys) (f : Int → Int → Nat) (hfx : ∀ x x' y, (∀ c ∈ xs, c ≤ x ↔ c ≤ x') → f x y = f x' y) (hfy : ∀ x y y', (∀ c ∈ ys, c ≤ y ↔ c ≤ y') → f x y = f x y') :
    ((cellsA l w xs ys (xs.length - 1)).map fun q => areaR (boxC q) * f q.x0 q.y0).sum = cntA f := by
  unfold cntA
  rw [sumN_swap, sumN_cuts hx (fun x x' h => sumN_congr fun y _ => hfx x x' y h)]
  unfold cellsA
  rw [sum_flat]
  change rsum _ _ = rsum _ _
  refine rsum_congr fun i hi => ?_
  rw [sumN_cuts hy (hfy _), List.map_map]
  change rsum _ _ = _
  rw [Nat.mul_comm, ← rsum_mul]
  refine rsum_congr fun k hk => ?_
  simp only [Function.comp_def]
  rw [cells_area hx hy hi hk]
  unfold cellA
  rw [Nat.mul_assoc, Nat.mul_comm]
theorem sumA_cells {l : List Ru} (ha : l.all ruRight = true) {w : Wo} {xs ys : List Int} (hx : CutG (boxesU l) false xs) (hy : CutG (boxesU l) true ys) (z : Nat) : sumA z (cellsA l w xs ys (xs.length - 1)) = cntA (zoomN l w z) := by
  rw [← sum_cells hx hy (zoomN l w z) (l := l) (w := w) (fun x x' y h => by unfold zoomN; rw [zoom_sameX ha hx.ends h]) (fun x y y' h => by unfold zoomN; rw [zoom_sameY ha hy.ends h])]
  unfold sumA
  congr 1
  refine List.map_congr_left fun q hq => ?_
  obtain ⟨i, hi, hq⟩ := List.mem_flatMap.1 hq
  obtain ⟨k, hk, rfl⟩ := List.mem_map.1 hq
  unfold zoomN cellA
  split <;> simp_all
theorem allA_cells {l : List Ru} {w : Wo} {c c' : List Re} {xs ys : List Int} (hx : CutG c false xs) (hy : CutG c' true ys) : allA (cellsA l w xs ys (xs.length - 1)) = 4294967296 := by
  have h := sum_cells hx hy (fun _ _ => 1) (l := l) (w := w) (fun _ _ _ _ => rfl) (fun _ _ _ _ => rfl)
  simp only [Nat.mul_one] at h
  unfold allA
  rw [h]
  unfold cntA
  rw [sumN_const, sumN_const]
theorem zoom_cells {l : List Ru} {w : Wo} {xs ys : List Int} (n : Nat) : ∀ q ∈ cellsA l w xs ys n, 0 ≤ q.z.1 ∧ q.z.1 ≤ 16 := fun q hq => by
  obtain ⟨i, hi, hq⟩ := List.mem_flatMap.1 hq
  obtain ⟨k, hk, rfl⟩ := List.mem_map.1 hq
  exact zoomR_range _ _ _ _ _
/-- The program's areas are those between the document's cuts. -/
theorem areas_doc {l : List Ru} (ha : l.all ruRight = true) (w : Wo) {xs ys : List Int} (hx : CutG (boxesU l) false xs) (hy : CutG (boxesU l) true ys) : arP (ovP allB l [] w) = arP (cellsA l w xs ys (xs.length - 1)) :=
  arP_eq (zoom_prog ha w) (allA_prog ha w) (zoom_cells _) (by rw [allA_cells hx hy]; omega) fun k _ => by rw [sumA_prog ha, sumA_cells ha hx hy]
theorem zoomN_one (l : List Ru) (w : Wo) (x y : Int) : rsum 17 (fun z => zoomN l w z x y) = 1 := by
  have hr := zoomR_range l w.ro w.ti w.la ⟨x, y⟩
  obtain ⟨n, hn⟩ : ∃ n : Nat, zoomR l w.ro w.ti w.la ⟨x, y⟩ = n := ⟨(zoomR l w.ro w.ti w.la ⟨x, y⟩).toNat, by omega⟩
  have hn17 : n < 17 := by omega
  have go : ∀ m, rsum m (fun z => zoomN l w z x y) = if n < m then 1 else 0 := by
    intro m
    induction m with
    | zero => rfl
    | succ m ih =>
      rw [rsum_succ, ih]
      unfold zoomN
      rw [hn]
      by_cases e : n = m
      · subst e; simp
      · have : ¬ (n : Int) = (m : Int) := by omega
        rw [if_neg this]
        split <;> split <;> omega
  rw [go, if_pos hn17]
theorem rsum_grid (l : List Ru) (w : Wo) (N M : Nat) : rsum 17 (fun z => sumN (fun y => sumN (fun x => zoomN l w z x y) N) M) = M * (N * 1) := by
  have h3 : ∀ y : Int, rsum 17 (fun z => sumN (fun x => zoomN l w z x y) N) = N * 1 := fun y => by
    have h2 : sumN (fun x => rsum 17 fun z => zoomN l w z x y) N = sumN (fun _ => 1) N := sumN_congr fun x _ => zoomN_one l w x y
    rw [rsum_sumN, h2, sumN_const]
  have h4 : sumN (fun y => rsum 17 fun z => sumN (fun x => zoomN l w z x y) N) M = sumN (fun _ => N * 1) M := sumN_congr fun y _ => h3 y
  rw [rsum_sumN, h4, sumN_const]
/-- All areas together. -/
theorem areas_all {l : List Ru} (ha : l.all ruRight = true) (w : Wo) : rsum 17 (fun z => sumA z (ovP allB l [] w)) = 4294967296 := by
  have h1 : rsum 17 (fun z => sumA z (ovP allB l [] w)) = rsum 17 fun z => cntA (zoomN l w z) := rsum_congr fun z _ => sumA_prog ha w z
  have h2 : rsum 17 (fun z => cntA (zoomN l w z)) = 65536 * (65536 * 1) := rsum_grid l w 65536 65536
  rw [h1, h2]
end Go.Proofs.Ytbcfoakceloenaa
