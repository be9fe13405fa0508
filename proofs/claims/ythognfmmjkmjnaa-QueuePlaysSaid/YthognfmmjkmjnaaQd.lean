/- The library's heap over the queue's tree, and the queue's methods. -/
import Derived.Test.YthognfmmjkmjnaaQc
namespace Go.Proofs.Ythognfmmjkmjnaa
open Go.RowKit
attribute [local go_sem high] mLen mLess mSwap mPush mPop assertEnt

/-- Some bool comes back. -/
def SomeBool (R : Value → Ending → World → Prop) (e : Ending) (w : World) : Prop := ∃ b : Bool, R (.bool b) e w

set_option maxHeartbeats 3200000 in
theorem hDown (q : Nat) (es : List Ent) (F : Nat → Prop) (w : World) (h : QAt w q es F) (n : Int) (hn0 : 0 ≤ n) (hn : n.toNat < es.length) (hm : es.length ≤ 1000001) :
    Calls Try.prog 57 #[.iface 84 (.pointer (some ⟨q, 0, none⟩)), .int .i64 0, .int .i64 n] w (SomeBool (RetQ w q F (downF n.toNat es 0 n.toNat))) := by
  obtain ⟨n, rfl⟩ := Int.eq_ofNat_of_zero_le hn0
  simp only [Int.toNat_natCast] at hn ⊢
  go_enter Try.func57, Try.ntmps57
  go_wp2
  go_loopw [7] (fun vi wr => ∃ (i f : Nat) (l : List Ent) (F' : Nat → Prop), vi = .int .i64 i ∧ i ≤ n ∧ n ≤ f + i ∧ l.length = es.length ∧ Hid (downF f l i n = downF n es 0 n) ∧ QAt wr q l F' ∧ Keep F w wr ∧ Hid (∀ b, F' b → F b ∨ w.heap.size ≤ b))
    (fun vi _ => n - (intOf vi).toNat)
  case atStart => exact ⟨0, n, es, F, rfl, by omega, by omega, rfl, rfl, h, Keep.refl _ _, fun b hb => .inl hb⟩
  case round =>
    obtain ⟨i, f, l, F', rfl, hi, hf, hll, hdn, hq, hk, hFF⟩ := hrel
    have HLL := hide hll
    have hln : n < l.length := by omega
    clear hll
    by_cases hend : n ≤ 2 * i + 1
    · have hl : Hid (l = downF n es 0 n) := by
        rw [← hdn.out]
        cases f with
        | zero => rfl
        | succ f => rw [Hid, downF, if_pos hend]
      have hge : decide ((2 * ((i : Nat) : Int) + 1) ≥ ((n : Nat) : Int)) = true := by simp; omega
      go_wp2
      go_ret
      exact ⟨_, rfl, F', by rw [← hl.out]; exact hq, hk, hFF.out⟩
    · obtain ⟨f, rfl⟩ : ∃ f', f = f' + 1 := ⟨f - 1, by omega⟩
      have hge : decide ((2 * ((i : Nat) : Int) + 1) ≥ ((n : Nat) : Int)) = false := by simp; omega
      by_cases h2 : 2 * i + 2 < n
      · cases hc : (at_ l (2 * i + 2)).lt (at_ l (2 * i + 1)) with
        | true =>
          go_wp2_with fail
          refine (tLess q l F' _ hq (2 * ((i : Nat) : Int) + 1 + 1) (2 * ((i : Nat) : Int) + 1) (by omega) (by omega) (by omega) (by omega)).mono ?_
          rintro e w2 ⟨he, hb2⟩
          rw [show (2 * ((i : Nat) : Int) + 1 + 1).toNat = 2 * i + 2 by omega, show (2 * ((i : Nat) : Int) + 1).toNat = 2 * i + 1 by omega, hc] at he
          subst he
          have hq2 := hq.below hb2
          have hk2 : Keep F w w2 := hk.trans (Keep.of_below hb2)
          have hjd : Hid ((if 2 * i + 2 < n ∧ (at_ l (2 * i + 2)).lt (at_ l (2 * i + 1)) = true then 2 * i + 2 else 2 * i + 1) = 2 * i + 2) := by rw [Hid, if_pos ⟨h2, hc⟩]
          cases hlt : (at_ l (2 * i + 2)).lt (at_ l i) with
          | true =>
            have hnext : Hid (downF f (swapL l i (2 * i + 2)) (2 * i + 2) n = downF n es 0 n) := by
              rw [← hdn.out, Hid, downF, if_neg hend, hjd.out, if_pos hlt]
            go_wp2_with fail
            refine (tLess q l F' _ hq2 (2 * ((i : Nat) : Int) + 1 + 1) i (by omega) (by omega) (by omega) (by omega)).mono ?_
            rintro e w3 ⟨he, hb3⟩
            rw [show (2 * ((i : Nat) : Int) + 1 + 1 : Int).toNat = 2 * i + 2 by omega, Int.toNat_natCast, hlt] at he
            subst he
            have hq3 := hq2.below hb3
            have hk3 : Keep F w w3 := hk2.trans (Keep.of_below hb3)
            go_wp2_with fail
            refine (tSwap q l F' _ hq3 i (2 * ((i : Nat) : Int) + 1 + 1) (by omega) (by omega) (by omega) (by omega)).mono ?_
            rintro e w4 ⟨rfl, F4, hq4, hk4, hF4⟩
            rw [show (2 * ((i : Nat) : Int) + 1 + 1 : Int).toNat = 2 * i + 2 by omega, Int.toNat_natCast] at hq4
            have hs := hk3.size
            go_wp2_with fail
            go_roundw
            case rel =>
              refine ⟨2 * i + 2, f, swapL l i (2 * i + 2), F4, ?_, by omega, by omega, by rw [swapL_len]; exact HLL.out, hnext.out, hq4, hk3.step hk4 (fun b hb hb' => ?_), fun b hb => ?_⟩
              · go_num
              · rcases hFF.out b hb' with h | h
                · exact h
                · omega
              · rcases hF4 b hb with h | h
                · exact hFF.out b h
                · right; omega
            case measure => simp [intOf]; omega
          | false =>
            have hl : Hid (l = downF n es 0 n) := by
              rw [← hdn.out, Hid, downF, if_neg hend, hjd.out, if_neg (by simp [hlt])]
            go_wp2_with fail
            refine (tLess q l F' _ hq2 (2 * ((i : Nat) : Int) + 1 + 1) i (by omega) (by omega) (by omega) (by omega)).mono ?_
            rintro e w3 ⟨he, hb3⟩
            rw [show (2 * ((i : Nat) : Int) + 1 + 1 : Int).toNat = 2 * i + 2 by omega, Int.toNat_natCast, hlt] at he
            subst he
            have hq3 := hq2.below hb3
            have hk3 : Keep F w w3 := hk2.trans (Keep.of_below hb3)
            go_wp2_with fail
            go_ret
            exact ⟨_, rfl, F', by rw [← hl.out]; exact hq3, hk3, hFF.out⟩
        | false =>
          go_wp2_with fail
          refine (tLess q l F' _ hq (2 * ((i : Nat) : Int) + 1 + 1) (2 * ((i : Nat) : Int) + 1) (by omega) (by omega) (by omega) (by omega)).mono ?_
          rintro e w2 ⟨he, hb2⟩
          rw [show (2 * ((i : Nat) : Int) + 1 + 1).toNat = 2 * i + 2 by omega, show (2 * ((i : Nat) : Int) + 1).toNat = 2 * i + 1 by omega, hc] at he
          subst he
          have hq2 := hq.below hb2
          have hk2 : Keep F w w2 := hk.trans (Keep.of_below hb2)
          have hjd : Hid ((if 2 * i + 2 < n ∧ (at_ l (2 * i + 2)).lt (at_ l (2 * i + 1)) = true then 2 * i + 2 else 2 * i + 1) = 2 * i + 1) := by rw [Hid, if_neg (by simp [hc])]
          cases hlt : (at_ l (2 * i + 1)).lt (at_ l i) with
          | true =>
            have hnext : Hid (downF f (swapL l i (2 * i + 1)) (2 * i + 1) n = downF n es 0 n) := by
              rw [← hdn.out, Hid, downF, if_neg hend, hjd.out, if_pos hlt]
            go_wp2_with fail
            refine (tLess q l F' _ hq2 (2 * ((i : Nat) : Int) + 1) i (by omega) (by omega) (by omega) (by omega)).mono ?_
            rintro e w3 ⟨he, hb3⟩
            rw [show (2 * ((i : Nat) : Int) + 1 : Int).toNat = 2 * i + 1 by omega, Int.toNat_natCast, hlt] at he
            subst he
            have hq3 := hq2.below hb3
            have hk3 : Keep F w w3 := hk2.trans (Keep.of_below hb3)
            go_wp2_with fail
            refine (tSwap q l F' _ hq3 i (2 * ((i : Nat) : Int) + 1) (by omega) (by omega) (by omega) (by omega)).mono ?_
            rintro e w4 ⟨rfl, F4, hq4, hk4, hF4⟩
            rw [show (2 * ((i : Nat) : Int) + 1 : Int).toNat = 2 * i + 1 by omega, Int.toNat_natCast] at hq4
            have hs := hk3.size
            go_wp2_with fail
            go_roundw
            case rel =>
              refine ⟨2 * i + 1, f, swapL l i (2 * i + 1), F4, ?_, by omega, by omega, by rw [swapL_len]; exact HLL.out, hnext.out, hq4, hk3.step hk4 (fun b hb hb' => ?_), fun b hb => ?_⟩
              · go_num
              · rcases hFF.out b hb' with h | h
                · exact h
                · omega
              · rcases hF4 b hb with h | h
                · exact hFF.out b h
                · right; omega
            case measure => simp [intOf]; omega
          | false =>
            have hl : Hid (l = downF n es 0 n) := by
              rw [← hdn.out, Hid, downF, if_neg hend, hjd.out, if_neg (by simp [hlt])]
            go_wp2_with fail
            refine (tLess q l F' _ hq2 (2 * ((i : Nat) : Int) + 1) i (by omega) (by omega) (by omega) (by omega)).mono ?_
            rintro e w3 ⟨he, hb3⟩
            rw [show (2 * ((i : Nat) : Int) + 1 : Int).toNat = 2 * i + 1 by omega, Int.toNat_natCast, hlt] at he
            subst he
            have hq3 := hq2.below hb3
            have hk3 : Keep F w w3 := hk2.trans (Keep.of_below hb3)
            go_wp2_with fail
            go_ret
            exact ⟨_, rfl, F', by rw [← hl.out]; exact hq3, hk3, hFF.out⟩
      · have hnc : decide (2 * ((i : Nat) : Int) + 1 + 1 < ((n : Nat) : Int)) = false := by simp; omega
        have hjd : Hid ((if 2 * i + 2 < n ∧ (at_ l (2 * i + 2)).lt (at_ l (2 * i + 1)) = true then 2 * i + 2 else 2 * i + 1) = 2 * i + 1) := by rw [Hid, if_neg (by omega)]
        cases hlt : (at_ l (2 * i + 1)).lt (at_ l i) with
        | true =>
          have hnext : Hid (downF f (swapL l i (2 * i + 1)) (2 * i + 1) n = downF n es 0 n) := by
            rw [← hdn.out, Hid, downF, if_neg hend, hjd.out, if_pos hlt]
          go_wp2_with fail
          refine (tLess q l F' _ hq (2 * ((i : Nat) : Int) + 1) i (by omega) (by omega) (by omega) (by omega)).mono ?_
          rintro e w3 ⟨he, hb3⟩
          rw [show (2 * ((i : Nat) : Int) + 1 : Int).toNat = 2 * i + 1 by omega, Int.toNat_natCast, hlt] at he
          subst he
          have hq3 := hq.below hb3
          have hk3 : Keep F w w3 := hk.trans (Keep.of_below hb3)
          go_wp2_with fail
          refine (tSwap q l F' _ hq3 i (2 * ((i : Nat) : Int) + 1) (by omega) (by omega) (by omega) (by omega)).mono ?_
          rintro e w4 ⟨rfl, F4, hq4, hk4, hF4⟩
          rw [show (2 * ((i : Nat) : Int) + 1 : Int).toNat = 2 * i + 1 by omega, Int.toNat_natCast] at hq4
          have hs := hk3.size
          go_wp2_with fail
          go_roundw
          case rel =>
            refine ⟨2 * i + 1, f, swapL l i (2 * i + 1), F4, ?_, by omega, by omega, by rw [swapL_len]; exact HLL.out, hnext.out, hq4, hk3.step hk4 (fun b hb hb' => ?_), fun b hb => ?_⟩
            · go_num
            · rcases hFF.out b hb' with h | h
              · exact h
              · omega
            · rcases hF4 b hb with h | h
              · exact hFF.out b h
              · right; omega
          case measure => simp [intOf]; omega
        | false =>
          have hl : Hid (l = downF n es 0 n) := by
            rw [← hdn.out, Hid, downF, if_neg hend, hjd.out, if_neg (by simp [hlt])]
          go_wp2_with fail
          refine (tLess q l F' _ hq (2 * ((i : Nat) : Int) + 1) i (by omega) (by omega) (by omega) (by omega)).mono ?_
          rintro e w3 ⟨he, hb3⟩
          rw [show (2 * ((i : Nat) : Int) + 1 : Int).toNat = 2 * i + 1 by omega, Int.toNat_natCast, hlt] at he
          subst he
          have hq3 := hq.below hb3
          have hk3 : Keep F w w3 := hk.trans (Keep.of_below hb3)
          go_wp2_with fail
          go_ret
          exact ⟨_, rfl, F', by rw [← hl.out]; exact hq3, hk3, hFF.out⟩

theorem QAt.cap {w : World} {q : Nat} {es : List Ent} {F : Nat → Prop} (h : QAt w q es F) : q < w.heap.size := by
  obtain ⟨v, h1, _⟩ := h
  exact h1.lt

set_option maxHeartbeats 1600000 in
theorem hPush (q : Nat) (es : List Ent) (F : Nat → Prop) (w : World) (h : QAt w q es F) (y : Ent) (hm : es.length ≤ 1000000) :
    Calls Try.prog 47 #[.iface 84 (.pointer (some ⟨q, 0, none⟩)), .iface 36 y.val] w (RetQ w q F (upF es.length (es ++ [y]) es.length) (.tuple #[])) := by
  go_enter Try.func47, Try.ntmps47
  go_wp2_with fail
  refine (tPush q es F _ h y hm).mono ?_
  rintro e w2 ⟨rfl, F2, hq2, hk2, hF2⟩
  go_wp2_with fail
  refine (tLen q _ F2 _ hq2).mono ?_
  rintro e w3 ⟨rfl, rfl⟩
  have hl : Hid ((es ++ [y]).length = es.length + 1) := by rw [Hid, List.length_append]; rfl
  rw [hl.out]
  go_wp2_with fail
  refine (hUp q _ F2 _ hq2 es.length (by omega) (by rw [hl.out]; omega) (by rw [hl.out]; omega)).mono ?_
  rintro e w4 ⟨rfl, F4, hq4, hk4, hF4⟩
  rw [Int.toNat_natCast] at hq4
  go_wp2_with fail
  go_end0
  refine ⟨rfl, F4, hq4, hk2.step hk4 (fun b hb hb' => ?_), fun b hb => ?_⟩
  · rcases hF2 b hb' with h | h
    · exact h
    · omega
  · rcases hF4 b hb with h | h
    · exact hF2 b h
    · have := hk2.size; right; omega

set_option maxHeartbeats 1600000 in
theorem hPop (q : Nat) (es : List Ent) (F : Nat → Prop) (w : World) (h : QAt w q es F) (hn : 0 < es.length) (hm : es.length ≤ 1000001) :
    Calls Try.prog 48 #[.iface 84 (.pointer (some ⟨q, 0, none⟩))] w
      (RetQ w q F (downF (es.length - 1) (swapL es 0 (es.length - 1)) 0 (es.length - 1)).dropLast (.iface 36 (at_ (downF (es.length - 1) (swapL es 0 (es.length - 1)) 0 (es.length - 1)) (es.length - 1)).val)) := by
  obtain ⟨n, hn'⟩ : ∃ n, es.length = n + 1 := ⟨es.length - 1, by omega⟩
  have HL := hide hn'
  rw [hn'] at hm ⊢
  clear hn' hn
  simp only [Nat.add_sub_cancel]
  have hsl : Hid ((swapL es 0 n).length = n + 1) := by rw [Hid, swapL_len]; exact HL.out
  go_enter Try.func48, Try.ntmps48
  go_wp2_with fail
  refine (tLen q _ F _ h).mono ?_
  rintro e w2 ⟨rfl, rfl⟩
  rw [HL.out]
  go_wp2_with fail
  refine (tSwap q es F _ h 0 n (by omega) (by omega) (by rw [HL.out]; omega) (by rw [HL.out]; omega)).mono ?_
  rintro e w2 ⟨rfl, F2, hq2, hk2, hF2⟩
  rw [Int.toNat_natCast] at hq2
  go_wp2_with fail
  refine (hDown q _ F2 _ hq2 n (by omega) (by rw [show (0 : Int).toNat = 0 from rfl, hsl.out]; omega) (by rw [show (0 : Int).toNat = 0 from rfl, hsl.out]; omega)).mono ?_
  rintro e w3 ⟨bv, rfl, F3, hq3, hk3, hF3⟩
  rw [Int.toNat_natCast, show (0 : Int).toNat = 0 from rfl] at hq3
  have hdl : Hid ((downF n (swapL es 0 n) 0 n).length = n + 1) := by
    rw [Hid, downF_len]; exact hsl.out
  go_wp2_with fail
  refine (tPop q _ F3 _ hq3 (by rw [hdl.out]; omega)).mono ?_
  rintro e w4 ⟨rfl, F4, hq4, hk4, hF4⟩
  rw [hdl.out, Nat.add_sub_cancel]
  go_wp2_with fail
  go_ret
  have s2 := hk2.size
  have s3 := hk3.size
  have hF3' : ∀ b, F3 b → F b ∨ w.heap.size ≤ b := fun b hb => by
    rcases hF3 b hb with h | h
    · exact hF2 b h
    · right; omega
  refine ⟨rfl, F4, hq4, (hk2.step hk3 (fun b hb hb' => ?_)).step hk4 (fun b hb hb' => ?_), fun b hb => ?_⟩
  · rcases hF2 b hb' with h | h
    · exact h
    · omega
  · rcases hF3' b hb' with h | h
    · exact h
    · omega
  · rcases hF4 b hb with h | h
    · exact hF3' b h
    · right; omega
end Go.Proofs.Ythognfmmjkmjnaa
