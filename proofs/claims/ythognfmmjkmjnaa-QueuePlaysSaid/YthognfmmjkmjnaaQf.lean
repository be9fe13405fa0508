/- Sort of the queue and of the reference; the fixed calls of the laws. -/
import Derived.Test.YthognfmmjkmjnaaQe
namespace Go.Proofs.Ythognfmmjkmjnaa
open Go.RowKit

theorem build36ac (a c : Int) (w : World) : (Instr.build 36 #[(0, .int .u64 a), (2, .int .i64 c)]).run Try.prog w = .ok (.agg #[.int .u64 a, .int .u64 0, .int .i64 c]) w := run_build w _ _ _ (by kernel_rfl)
theorem build36abc (a b c : Int) (w : World) : (Instr.build 36 #[(0, .int .u64 a), (1, .int .u64 b), (2, .int .i64 c)]).run Try.prog w = .ok (.agg #[.int .u64 a, .int .u64 b, .int .i64 c]) w := run_build w _ _ _ (by kernel_rfl)
attribute [local go_sem high] build36 build36ac build36abc entNe entIs entGuard

set_option maxHeartbeats 1600000 in
theorem known (w : World) : Calls Try.prog 21 #[] w (Yes w) := by
  go_enter Try.func21, Try.ntmps21
  go_wp2_with fail
  refine (qNew _).mono ?_
  rintro e w1 ⟨rfl, hq1, hb1⟩
  have hF1 : ∀ b, b = w.heap.size → w.heap.size ≤ b := fun b h => by omega
  go_wp2_with fail
  refine (qPush w.heap.size [] _ _ hq1 ⟨2, 0, 1⟩ (by simp)).mono ?_
  rintro e w2 ⟨rfl, F2, hq2, hk2, hF2⟩
  have hk2' : Keep (fun b => w.heap.size ≤ b) w w2 := (Keep.of_below hb1).step hk2 (fun b _ h => hF1 b h)
  have hs1 := hb1.size
  have hF2' : ∀ b, F2 b → w.heap.size ≤ b := fun b h => (hF2 b h).elim (hF1 b) (fun h => by omega)
  go_wp2_with fail
  refine (qPush w.heap.size _ _ _ hq2 ⟨1, 5, 9⟩ (by decide)).mono ?_
  rintro e w3 ⟨rfl, F3, hq3, hk3, hF3⟩
  have hk3' := hk2'.step hk3 (fun b _ h => hF2' b h)
  have hs2 := hk2'.size
  have hF3' : ∀ b, F3 b → w.heap.size ≤ b := fun b h => (hF3 b h).elim (hF2' b) (fun h => by omega)
  go_wp2_with fail
  refine (qPush w.heap.size _ _ _ hq3 ⟨1, 5, 8⟩ (by decide)).mono ?_
  rintro e w4 ⟨rfl, F4, hq4, hk4, hF4⟩
  have hk4' := hk3'.step hk4 (fun b _ h => hF3' b h)
  have hs3 := hk3'.size
  have hF4' : ∀ b, F4 b → w.heap.size ≤ b := fun b h => (hF4 b h).elim (hF3' b) (fun h => by omega)
  have e4 : put (put (put [] ⟨2, 0, 1⟩) ⟨1, 5, 9⟩) ⟨1, 5, 8⟩ = [⟨1, 5, 8⟩, ⟨1, 5, 9⟩, ⟨2, 0, 1⟩] := by decide
  rw [e4] at hq4
  clear e4 hq1 hq2 hq3 hk2 hk3 hk4 hF1 hF2 hF3 hF4 hF2' hF3' hk2' hk3' hb1 hs1 hs2 hs3
  go_wp2_with fail
  refine (qPop w.heap.size _ _ _ _ hq4 (by decide)).mono ?_
  rintro e w5 ⟨rfl, F5, hq5, hk5, hF5⟩
  have hk5' := hk4'.step hk5 (fun b _ h => hF4' b h)
  have hs4 := hk4'.size
  have hF5' : ∀ b, F5 b → w.heap.size ≤ b := fun b h => (hF5 b h).elim (hF4' b) (fun h => by omega)
  have hq5' := hq5.tight
  have hq6 := hq5'.keep (S := fun _ => False) ((Keep.refl _ _).alloc (.cells #[.int .u64 1, .int .u64 5, .int .i64 8] 36)) (fun _ _ h => h)
  have HB := Blk.new w5 36 #[.int .u64 1, .int .u64 5, .int .i64 8]
  have hk6 := hk5'.alloc (.cells #[.int .u64 1, .int .u64 5, .int .i64 8] 36)
  unfold Ent.val
  go_wp2_with fail
  refine (qPop w.heap.size _ _ _ _ hq6 (by decide)).mono ?_
  rintro e w7 ⟨rfl, F7, hq7, hk7, hF7⟩
  have hk7' := hk6.step hk7 (fun b _ h => hF5' b h.1)
  have HB7 := HB.keep hk7 (fun h => by have := h.2; omega)
  have HB8 := HB7.alloc (.cells #[.int .u64 1, .int .u64 5, .int .i64 9] 36)
  have HC := Blk.new w7 36 #[.int .u64 1, .int .u64 5, .int .i64 9]
  have hq8 := hq7.keep (S := fun _ => False) ((Keep.refl _ _).alloc (.cells #[.int .u64 1, .int .u64 5, .int .i64 9] 36)) (fun _ _ h => h)
  have b1 := HB8.cell 2
  have b2 := HC.cell 2
  simp at b1 b2
  have hk8 := hk7'.alloc (.cells #[.int .u64 1, .int .u64 5, .int .i64 9] 36)
  clear HB7 HB8 HC HB hq5 hq6 hq7 hk6 hk7 hk5 hF4' hF5' hF5 hF7 hq4 hk4' hk5'
  unfold Ent.val
  go_wp2_with fail
  refine (qLen w.heap.size _ _ _ hq8).mono ?_
  rintro e w9 ⟨rfl, rfl⟩
  go_wp2_with fail
  go_ret
  exact ⟨rfl, hk8.below (Nat.le_refl _) (fun k hk h => by omega)⟩

set_option maxHeartbeats 1600000 in
theorem rSort (v : Value) (xs : List Ent) (w : World) (hs : Sl w w.heap.size 3 Ent.cells v xs) (hn : xs.length ≤ 1000000) :
    Calls Try.prog 33 #[v] w (RetSl w 3 Ent.cells (sort xs)) := by
  obtain ⟨A, c, rfl, hc1, hc2, hc3⟩ := hs
  unfold maxLen at hc2
  go_enter Try.func33, Try.ntmps33
  go_wp2
  go_loopw [3, 4] (fun vo i wr => ∃ (k : Nat) (out : List Ent), k ≤ xs.length ∧ i = .int .i64 k ∧ out.length ≤ k ∧ Sl wr wr.heap.size 3 Ent.cells vo out ∧ Hid ((xs.drop k).foldl put out = sort xs) ∧ Below w.heap.size w wr)
    (fun _ i _ => xs.length - (intOf i).toNat)
  case atStart => exact ⟨0, [], Nat.zero_le _, rfl, by simp, Sl.nil, rfl, Below.refl _ _⟩
  case round =>
    obtain ⟨k, out, hk, rfl, hol, hown, hput, hbl⟩ := hrel
    by_cases hlt : k < xs.length
    · obtain ⟨b, o, rfl, hbB, hcell⟩ := hc3 (by omega)
      obtain ⟨e1, e2, e3⟩ := ent_cells hcell hlt
      have x1 := (hbl.cell (p := ⟨b, _, none⟩) hbB).trans e1
      have x2 := (hbl.cell (p := ⟨b, _, none⟩) hbB).trans e2
      have x3 := (hbl.cell (p := ⟨b, _, none⟩) hbB).trans e3
      clear e1 e2 e3 hcell hc3
      have hnext : Hid ((xs.drop (k + 1)).foldl put (put out xs[k]) = sort xs) := by
        have := hput.out
        rw [List.drop_eq_getElem_cons hlt] at this
        exact this
      have hp := rPut u3 out xs[k] wr hown (by omega)
      unfold Ent.val at hp
      go_wp2_with fail
      refine hp.mono ?_
      rintro e w2 ⟨v, rfl, hs2, hb2⟩
      obtain ⟨A2, c2, rfl, _⟩ := id hs2
      go_wp2_with fail
      go_roundw
      case rel => exact ⟨k + 1, put out xs[k], by omega, by go_num, by rw [put_len]; omega, hs2, hnext.out, belowStep hbl hbl.size hb2⟩
      case measure => simp [intOf]; omega
    · have hfin : Hid (out = sort xs) := by
        have := hput.out
        rw [List.drop_eq_nil_of_le (by omega)] at this
        exact this
      obtain ⟨A2, c2, rfl, _⟩ := id hown
      go_wp2
      go_ret
      exact ⟨_, rfl, by rw [← hfin.out]; exact hown, hbl⟩

set_option maxHeartbeats 1600000 in
theorem qSort (v : Value) (xs : List Ent) (w : World) (hs : Sl w w.heap.size 3 Ent.cells v xs) (hn : xs.length ≤ 1000000) :
    Calls Try.prog 32 #[v] w (RetSl w 3 Ent.cells (sort xs)) := by
  obtain ⟨A, c, rfl, hc1, hc2, hc3⟩ := hs
  unfold maxLen at hc2
  go_enter Try.func32, Try.ntmps32
  go_wp2_with fail
  refine (qNew _).mono ?_
  rintro e w1 ⟨rfl, hq1, hb1⟩
  have hs1 := hb1.size
  go_wp2
  go_loopw [9] (fun i wr => ∃ (k : Nat) (acc : List Ent) (F : Nat → Prop), k ≤ xs.length ∧ i = .int .i64 k ∧ acc.length = k ∧ QS wr w.heap.size acc F ∧ Hid ((xs.drop k).foldl put acc = sort xs) ∧ Keep (fun b => w.heap.size ≤ b) w wr ∧ Hid (∀ b, F b → w.heap.size ≤ b))
    (fun i _ => xs.length - (intOf i).toNat)
  case atStart => exact ⟨0, [], _, Nat.zero_le _, rfl, rfl, hq1, rfl, Keep.of_below hb1, fun b h => by omega⟩
  case round =>
    clear hq1 hb1 hs1
    obtain ⟨k, acc, F, hk, rfl, hal, hq, hput, hkp, hFF⟩ := hrel
    have hbl := hkp.below (B := w.heap.size) (Nat.le_refl _) (fun k hk h => by omega)
    have HAL := hide hal
    have hal' : acc.length ≤ k := by omega
    clear hal
    by_cases hlt : k < xs.length
    · obtain ⟨b, o, rfl, hbB, hcell⟩ := hc3 (by omega)
      obtain ⟨e1, e2, e3⟩ := ent_cells hcell hlt
      have x1 := (hbl.cell (p := ⟨b, _, none⟩) hbB).trans e1
      have x2 := (hbl.cell (p := ⟨b, _, none⟩) hbB).trans e2
      have x3 := (hbl.cell (p := ⟨b, _, none⟩) hbB).trans e3
      clear e1 e2 e3 hcell hc3
      have hnext : Hid ((xs.drop (k + 1)).foldl put (put acc xs[k]) = sort xs) := by
        have := hput.out
        rw [List.drop_eq_getElem_cons hlt] at this
        exact this
      have hq' := hq.keep (S := fun _ => False) ((Keep.refl _ _).alloc (.cells #[.int .u64 xs[k].k, .int .u64 xs[k].t, .int .i64 xs[k].i] 36)) (fun _ _ h => h)
      have hp := fun W h => qPush w.heap.size acc F W h xs[k] (by omega)
      unfold Ent.val at hp
      go_wp2_with fail
      refine (hp _ hq').mono ?_
      rintro e w2 ⟨rfl, F2, hq2, hk2, hF2⟩
      have hs := hkp.size
      go_wp2_with fail
      go_roundw
      case rel =>
        refine ⟨k + 1, put acc xs[k], F2, by omega, by go_num, by rw [put_len, HAL.out], hq2, hnext.out, (hkp.alloc _).step hk2 (fun b _ h => hFF.out b h), fun b h => ?_⟩
        rcases hF2 b h with h | h
        · exact hFF.out b h
        · simp at h; omega
      case measure => simp [intOf]; omega
    · have hfin : Hid (acc = sort xs) := by
        have := hput.out
        rw [List.drop_eq_nil_of_le (by omega)] at this
        exact this
      go_wp2_with fail
      refine (qDrain w.heap.size acc F _ hq xs.length (by omega)).mono ?_
      rintro e w2 ⟨v, rfl, hs2, F2, hq2, hk2, hF2⟩
      have htk : acc.take ((xs.length : Nat) : Int).toNat = sort xs := by
        rw [Int.toNat_natCast, List.take_of_length_le (by omega)]; exact hfin.out
      rw [htk] at hs2
      obtain ⟨A2, c2, rfl, _⟩ := id hs2
      go_wp2_with fail
      go_ret
      exact ⟨_, rfl, hs2, (hkp.step hk2 (fun b _ h => hFF.out b h)).below (Nat.le_refl _) (fun k hk h => by omega)⟩
end Go.Proofs.Ythognfmmjkmjnaa
