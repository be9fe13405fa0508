/- The queue's methods, of a queue that holds a row in order, and of one that is not there. -/
import Derived.Test.YthognfmmjkmjnaaQd
namespace Go.Proofs.Ythognfmmjkmjnaa
open Go.RowKit
attribute [local go_sem high] mLen mLess mSwap mPush mPop assertEnt

/-- A queue at block q that holds the entries hs, the least first. -/
def QS (w : World) (q : Nat) (hs : List Ent) (F : Nat → Prop) : Prop := ∃ es, QAt w q es F ∧ Held es hs
theorem QS.keep {w w' : World} {q : Nat} {hs : List Ent} {F S : Nat → Prop} (h : QS w q hs F) (k : Keep S w w') (hd : ∀ b, F b → ¬ S b) : QS w' q hs F := by
  obtain ⟨es, h1, h2⟩ := h
  exact ⟨es, h1.keep k hd, h2⟩
theorem QS.below {w w' : World} {q : Nat} {hs : List Ent} {F : Nat → Prop} (h : QS w q hs F) (k : Below w.heap.size w w') : QS w' q hs F := by
  obtain ⟨es, h1, h2⟩ := h
  exact ⟨es, h1.below k, h2⟩
/-- What a method leaves. -/
def RetS (w : World) (q : Nat) (F : Nat → Prop) (hs : List Ent) (r : Value) (e : Ending) (w' : World) : Prop :=
  e = .returned r ∧ ∃ F', QS w' q hs F' ∧ Keep F w w' ∧ ∀ b, F' b → F b ∨ w.heap.size ≤ b

theorem QAt.tight {w : World} {q : Nat} {es : List Ent} {F : Nat → Prop} (h : QAt w q es F) : QAt w q es (fun b => F b ∧ b < w.heap.size) := by
  obtain ⟨v, h1, h2, h3, h4⟩ := h
  exact ⟨v, h1, h2, ⟨h3, h1.lt⟩, fun g hg => ⟨h4 g hg, (h2.lt g hg).2⟩⟩

def zero : Ent := ⟨0, 0, 0⟩

set_option maxHeartbeats 400000 in
theorem qNew (w : World) : Calls Try.prog 24 #[] w fun e w' => e = .returned (.pointer (some ⟨w.heap.size, 0, none⟩)) ∧ QS w' w.heap.size [] (fun b => b = w.heap.size) ∧ Below w.heap.size w w' := by
  have hb : ∀ w, (Instr.build 82 #[]).run Try.prog w = .ok (.agg #[.slice none 0 0]) w := fun w => run_build w _ _ _ (by kernel_rfl)
  go_enter Try.func24, Try.ntmps24
  go_wp2
  go_ret
  refine ⟨rfl, ⟨[], ⟨_, Blk.new w _ _, Own.nil, rfl, fun g hg => by simp [Value.ownBlock] at hg⟩, Held.nil⟩, (Below.refl _ _).alloc (Nat.le_refl _) _⟩

set_option maxHeartbeats 400000 in
theorem qLen (q : Nat) (hs : List Ent) (F : Nat → Prop) (w : World) (h : QS w q hs F) :
    Calls Try.prog 26 #[.pointer (some ⟨q, 0, none⟩)] w fun e w' => e = .returned (.int .i64 hs.length) ∧ w = w' := by
  obtain ⟨es, h1, h2⟩ := h
  go_enter Try.func26, Try.ntmps26
  go_wp2_with fail
  refine (tLen q es F _ h1).mono ?_
  rintro e w2 ⟨rfl, rfl⟩
  go_wp2_with fail
  go_ret
  exact ⟨by rw [h2.len]; rfl, rfl⟩
set_option maxHeartbeats 400000 in
theorem qLenNil (w : World) : Calls Try.prog 26 #[.pointer none] w fun e w' => e = .returned (.int .i64 0) ∧ w = w' := by
  go_enter Try.func26, Try.ntmps26
  go_wp2
  go_ret
  exact ⟨rfl, rfl⟩

theorem build36 (w : World) : (Instr.build 36 #[]).run Try.prog w = .ok (.agg #[.int .u64 0, .int .u64 0, .int .i64 0]) w := run_build w _ _ _ (by kernel_rfl)
attribute [local go_sem high] build36

set_option maxHeartbeats 800000 in
theorem qTop (q : Nat) (x : Ent) (hs : List Ent) (F : Nat → Prop) (w : World) (h : QS w q (x :: hs) F) :
    Calls Try.prog 25 #[.pointer (some ⟨q, 0, none⟩)] w fun e w' => e = .returned (.tuple #[x.val, .bool true]) ∧ Below w.heap.size w w' := by
  obtain ⟨es, ⟨v, h1, h2, _, _⟩, hh⟩ := h
  have hl := hh.len
  simp at hl
  have c0 := h1.cell 0
  simp at c0
  have hqs := h1.lt
  have htop := hh.top
  rw [at_eq (by omega)] at htop
  obtain ⟨A, c, rfl, hc1, hc2, hc3⟩ := h2.sl (fun y => (ent_len y).1)
  obtain ⟨b, o, rfl, hbB, hcell⟩ := hc3 (by omega)
  obtain ⟨x1, x2, x3⟩ := ent_cells hcell (k := 0) (by omega)
  simp only [Nat.zero_mul, Nat.add_zero, htop] at x1 x2 x3
  have hne : (((es.length : Nat) : Int) == 0) = false := by rw [beq_eq_false_iff_ne]; omega
  have hpos : 0 < es.length := by omega
  clear hcell hc3 htop hl hh h2 h1
  unfold maxLen at hc2
  go_enter Try.func25, Try.ntmps25
  go_wp2
  exact bodyPost_ret (v := .tuple #[x.val, .bool true]) (by simp [results, Try.results25, go_sem, Ent.val]) rfl ⟨rfl, (Below.refl _ _).alloc (Nat.le_refl _) _⟩

set_option maxHeartbeats 800000 in
theorem qTopEmpty (q : Nat) (F : Nat → Prop) (w : World) (h : QS w q [] F) :
    Calls Try.prog 25 #[.pointer (some ⟨q, 0, none⟩)] w fun e w' => e = .returned (.tuple #[zero.val, .bool false]) ∧ Below w.heap.size w w' := by
  obtain ⟨es, ⟨v, h1, h2, _, _⟩, hh⟩ := h
  have hl := hh.len
  obtain rfl : es = [] := List.eq_nil_of_length_eq_zero hl
  have c0 := h1.cell 0
  simp at c0
  have hqs := h1.lt
  obtain ⟨A, c, rfl, _⟩ := h2.sl (fun y => (ent_len y).1)
  clear hh h2 h1
  go_enter Try.func25, Try.ntmps25
  go_wp2
  exact bodyPost_ret (v := .tuple #[zero.val, .bool false]) (by simp [results, Try.results25, go_sem, Ent.val, zero]) rfl ⟨rfl, (Below.refl _ _).alloc (Nat.le_refl _) _⟩
set_option maxHeartbeats 800000 in
theorem qTopNil (w : World) :
    Calls Try.prog 25 #[.pointer none] w fun e w' => e = .returned (.tuple #[zero.val, .bool false]) ∧ Below w.heap.size w w' := by
  go_enter Try.func25, Try.ntmps25
  go_wp2
  exact bodyPost_ret (v := .tuple #[zero.val, .bool false]) (by simp [results, Try.results25, go_sem, Ent.val, zero]) rfl ⟨rfl, (Below.refl _ _).alloc (Nat.le_refl _) _⟩

set_option maxHeartbeats 800000 in
theorem qPush (q : Nat) (hs : List Ent) (F : Nat → Prop) (w : World) (h : QS w q hs F) (y : Ent) (hm : hs.length ≤ 1000000) :
    Calls Try.prog 27 #[.pointer (some ⟨q, 0, none⟩), y.val] w (RetS w q F (put hs y) (.bool true)) := by
  obtain ⟨es, h1, hh⟩ := h
  have hl := hh.len
  have h1' := h1.tight.keep (S := fun _ => False) ((Keep.refl _ w).alloc (.cells #[.int .u64 y.k, .int .u64 y.t, .int .i64 y.i] 36)).drew (fun _ _ h => h)
  have hu := fun W h => hPush q es (fun b => F b ∧ b < w.heap.size) W h y (by omega)
  unfold Ent.val at hu ⊢
  go_enter Try.func27, Try.ntmps27
  go_wp2
  refine Mix.region mixed (by kernel_rfl) ?_
  repeat (refine Mix.walk_q rfl ?_; go_big_quiet_step (fail); refine wpQuiet_nil ?_)
  refine Mix.walk_e rfl (fun K hK => ?_)
  go_wp2_with fail
  refine (hu _ h1').mono ?_
  rintro e w2 ⟨rfl, F2, hq2, hk2, hF2⟩
  go_wp2_with fail
  refine hK.out _ _ ?_
  clear hK K
  refine Mix.walk_nil ?_
  go_wp2
  go_ret
  refine ⟨rfl, F2, ⟨_, hq2, hh.push y⟩, ((Keep.refl F w).alloc _).drew.step (S' := fun b => F b ∧ b < w.heap.size) ⟨hk2.os, hk2.tape, hk2.output, hk2.size, hk2.block⟩ (fun b _ hb => hb.1), fun b hb => ?_⟩
  rcases hF2 b hb with h | h
  · exact .inl h.1
  · right; simp at h; omega
set_option maxHeartbeats 400000 in
theorem qPushNil (w : World) (y : Ent) : Calls Try.prog 27 #[.pointer none, y.val] w fun e w' => e = .returned (.bool false) ∧ Below w.heap.size w w' := by
  unfold Ent.val
  go_enter Try.func27, Try.ntmps27
  go_wp2
  go_ret
  exact ⟨rfl, (Below.refl _ _).alloc (Nat.le_refl _) _⟩

set_option maxHeartbeats 800000 in
theorem qPopEmpty (q : Nat) (F : Nat → Prop) (w : World) (h : QS w q [] F) :
    Calls Try.prog 29 #[.pointer (some ⟨q, 0, none⟩)] w fun e w' => e = .returned (.tuple #[zero.val, .bool false]) ∧ Below w.heap.size w w' := by
  obtain ⟨es, ⟨v, h1, h2, _, _⟩, hh⟩ := h
  have hl := hh.len
  obtain rfl : es = [] := List.eq_nil_of_length_eq_zero hl
  have c0 := h1.cell 0
  simp at c0
  have hqs := h1.lt
  obtain ⟨A, c, rfl, _⟩ := h2.sl (fun y => (ent_len y).1)
  clear hh h2 h1
  go_enter Try.func29, Try.ntmps29
  go_wp2
  exact bodyPost_ret (v := .tuple #[zero.val, .bool false]) (by simp [results, Try.results29, go_sem, Ent.val, zero]) rfl ⟨rfl, (Below.refl _ _).alloc (Nat.le_refl _) _⟩
set_option maxHeartbeats 800000 in
theorem qPopNil (w : World) :
    Calls Try.prog 29 #[.pointer none] w fun e w' => e = .returned (.tuple #[zero.val, .bool false]) ∧ Below w.heap.size w w' := by
  go_enter Try.func29, Try.ntmps29
  go_wp2
  exact bodyPost_ret (v := .tuple #[zero.val, .bool false]) (by simp [results, Try.results29, go_sem, Ent.val, zero]) rfl ⟨rfl, (Below.refl _ _).alloc (Nat.le_refl _) _⟩

set_option maxHeartbeats 1600000 in
theorem qPop (q : Nat) (x : Ent) (hs : List Ent) (F : Nat → Prop) (w : World) (h : QS w q (x :: hs) F) (hm : hs.length ≤ 1000000) :
    Calls Try.prog 29 #[.pointer (some ⟨q, 0, none⟩)] w (RetS w q F hs (.tuple #[x.val, .bool true])) := by
  obtain ⟨es, h1, hh⟩ := h
  have hl := hh.len
  simp at hl
  obtain ⟨hx, hpop⟩ := hh.pop
  have h1' := h1.tight.keep (S := fun _ => False) ((Keep.refl _ w).alloc (.cells #[.int .u64 0, .int .u64 0, .int .i64 0] 36)) (fun _ _ h => h)
  have hu := hPop q es _ _ h1' (by omega) (by omega)
  rw [hx] at hu
  have HU := hide hu
  have HP := hide hpop
  clear hu hx hpop
  obtain ⟨v, g1, g2, _, _⟩ := h1
  have c0 := g1.cell 0
  simp at c0
  have hqs := g1.lt
  obtain ⟨A, c, rfl, hc1, hc2, hc3⟩ := g2.sl (fun y => (ent_len y).1)
  have hne : (((es.length : Nat) : Int) == 0) = false := by rw [beq_eq_false_iff_ne]; omega
  have HB := Blk.new w 36 #[.int .u64 0, .int .u64 0, .int .i64 0]
  clear hc3 g1 g2 hh
  go_enter Try.func29, Try.ntmps29
  go_wp2_with fail
  refine HU.out.mono ?_
  rintro e w2 ⟨rfl, F2, hq2, hk2, hF2⟩
  have hB2 := HB.keep hk2 (fun hb => by have := hb.2; omega)
  have b1 := hB2.cell 0
  have b2 := hB2.cell 1
  have b3 := hB2.cell 2
  simp at b1 b2 b3
  have fr := hB2.frozen
  have hs2 := hB2.lt
  unfold Ent.val
  go_wp2_with fail
  refine bodyPost_ret (v := .tuple #[.agg #[.int .u64 x.k, .int .u64 x.t, .int .i64 x.i], .bool true]) (by simp [results, Try.results29, go_sem, b1, b2, b3, hs2]) rfl ⟨rfl, F2, ⟨_, ?_, HP.out⟩, ?_, ?_⟩
  · have k2 := setRow_keep (Ent.cells x) w2 w.heap.size 0
    have hq3 := hq2.keep (S := fun b => b = w.heap.size) ((Keep.refl _ _).grown k2 (fun b _ hb => by cases hb; rfl)) (fun b hb e => by
      subst e
      rcases hF2 _ hb with h | h
      · omega
      · exact absurd h (by simp))
    exact hq3.keep (S := fun _ => False) ((Keep.refl _ _).alloc _) (fun _ _ h => h)
  · have k1 : Keep F w w2 := ((Keep.refl F w).alloc _).step hk2 (fun b _ hb => hb.1)
    exact ((((k1.setCell (.inr (Nat.le_refl _)) _).setCell (.inr (Nat.le_refl _)) _).setCell (.inr (Nat.le_refl _)) _).alloc _)
  · intro b hb
    rcases hF2 b hb with h | h
    · exact .inl h.1
    · right; simp at h; omega

theorem QS.tight {w : World} {q : Nat} {hs : List Ent} {F : Nat → Prop} (h : QS w q hs F) : QS w q hs (fun b => F b ∧ b < w.heap.size) := by
  obtain ⟨es, h1, h2⟩ := h
  exact ⟨es, h1.tight, h2⟩
def slLen : Value → Nat
  | .slice _ n _ => n
  | _ => 0

set_option maxHeartbeats 3200000 in
theorem qTaken (q : Nat) (hs : List Ent) (F : Nat → Prop) (w : World) (h : QS w q hs F) (most : Int) (hm : hs.length ≤ 1000000) :
    Calls Try.prog 49 #[.pointer (some ⟨q, 0, none⟩), .int .i64 most, .func (.func 29) #[] #[]] w
      fun e w' => ∃ v, e = .returned v ∧ Sl w' w'.heap.size 3 Ent.cells v (hs.take most.toNat) ∧ ∃ F', QS w' q (hs.drop most.toNat) F' ∧ Keep F w w' ∧ ∀ b, F' b → F b ∨ w.heap.size ≤ b := by
  go_enter Try.func49, Try.ntmps49
  go_wp2
  go_loopw [7] (fun vo wr => ∃ (out rest : List Ent) (F' : Nat → Prop), Hid (hs = out ++ rest) ∧ out.length ≤ most.toNat ∧ out.length ≤ 1000000 ∧ rest.length ≤ 1000000 ∧ Own wr w.heap.size 36 3 Ent.cells vo out ∧ QS wr q rest F' ∧ Keep F w wr ∧ Hid (∀ b, F' b → F b ∨ w.heap.size ≤ b) ∧ Hid (∀ b, F' b → b < wr.heap.size ∧ vo.ownBlock ≠ some b))
    (fun vo _ => hs.length - slLen vo)
  case atStart => exact ⟨[], hs, _, rfl, by simp, by simp, hm, Own.nil, h.tight, Keep.refl _ _, fun b hb => .inl hb.1, fun b hb => ⟨hb.2, by simp [Value.ownBlock]⟩⟩
  case round =>
    obtain ⟨out, rest, F', hsp, hlm, hol, hrl, hown, hq, hk, hFF, hdis⟩ := hrel
    have hsz := hk.size
    obtain ⟨A, c, rfl, hc1, hc2, _⟩ := hown.sl (fun y => (ent_len y).1)
    by_cases hend : most ≤ out.length
    · have hd : decide (((out.length : Nat) : Int) < most) = false := by simp; omega
      have hfin : Hid (hs.take most.toNat = out ∧ hs.drop most.toNat = rest) := by
        have he : most.toNat = out.length := by omega
        rw [he, hsp.out]
        exact ⟨by simp, by simp⟩
      go_wp2
      go_ret
      exact ⟨_, rfl, by rw [hfin.out.1]; exact hown.sl (fun y => (ent_len y).1), F', by rw [hfin.out.2]; exact hq, hk, hFF.out⟩
    · have hd : decide (((out.length : Nat) : Int) < most) = true := by simp; omega
      cases rest with
      | nil =>
        have hfin : Hid (hs.take most.toNat = out ∧ hs.drop most.toNat = []) := by
          rw [hsp.out, List.append_nil]
          exact ⟨List.take_of_length_le (by omega), List.drop_of_length_le (by omega)⟩
        go_wp2_with fail
        refine (qPopEmpty q F' _ hq).mono ?_
        rintro e w2 ⟨rfl, hb2⟩
        have hq2 := hq.below hb2
        have hown2 := hown.below hb2
        have hk2 : Keep F w w2 := hk.trans (Keep.of_below hb2)
        unfold Ent.val
        go_wp2_with fail
        go_ret
        refine ⟨_, rfl, ?_, F', ?_, hk2.alloc _, hFF.out⟩
        · rw [hfin.out.1]; exact (hown2.alloc _).sl (fun y => (ent_len y).1)
        · rw [hfin.out.2]; exact hq2.keep (S := fun _ => False) ((Keep.refl _ _).alloc _) (fun _ _ h => h)
      | cons x rest =>
        simp only [List.length_cons] at hrl
        have hlm2 : Hid ((out ++ [x]).length ≤ most.toNat) := by
          rw [Hid, List.length_append]
          have : out.length + 1 ≤ most.toNat := by omega
          exact this
        have hln : Hid ((out ++ [x]).length ≤ 1000000) := by
          rw [Hid, List.length_append]
          have h1 : out.length + (rest.length + 1) = hs.length := by rw [hsp.out]; simp
          have : out.length + 1 ≤ 1000000 := by omega
          exact this
        go_wp2_with fail
        refine (qPop q x rest F' _ hq (by omega)).mono ?_
        rintro e w2 ⟨rfl, F2, hq2, hk2, hF2⟩
        have hown2 := hown.keep fun g hg => hk2.block g (hown.lt g hg).2 (fun hf => (hdis.out g hf).2 hg)
        have hk3 : Keep F w w2 := hk.step hk2 (fun b hb hb' => by
          rcases hFF.out b hb' with h | h
          · exact h
          · omega)
        have hs2 := hk2.size
        have hF2' : Hid (∀ b, (F2 b ∧ b < w2.heap.size) → F b ∨ w.heap.size ≤ b) := fun b hb => by
          rcases hF2 b hb.1 with h | h
          · exact hFF.out b h
          · right; omega
        have hdis2 : Hid (∀ b, (F2 b ∧ b < w2.heap.size) → b < w2.heap.size ∧ (Value.slice A out.length c).ownBlock ≠ some b) := fun b hb => ⟨hb.2, fun he => by
          rcases hF2 b hb.1 with h | h
          · exact (hdis.out b h).2 he
          · have := (hown.lt b he).2; omega⟩
        have hq3 := hq2.tight
        have hcx : Hid (out.length < hs.length) := by rw [hsp.out]; simp [Hid]
        unfold Ent.val
        go_wp2_with (at_builtin; refine wpList_push _ rfl (.tmp 22) (.tmp 24) _ rfl entElt (by decide) ent_len w.heap.size (.slice A out.length c) out rfl ((hown2.alloc _).alloc _) (w2.heap.size + 1) x rfl (Blk.new2 _ _ _ _) (by omega) (by unfold maxLen; omega) (by simp; omega) ?_; intro v' w3 hown3 hg3 hat3)
        have hG := grown_of_alloc (grown_of_alloc hg3)
        have hq4 : QS w3 q rest _ := hq3.keep (S := fun b => (Value.slice A out.length c).ownBlock = some b) ((Keep.refl _ _).grown hG (fun b _ hb => hb)) (fun b hb he => (hdis2.out b hb).2 he)
        have hk4 : Keep F w w3 := hk3.grown hG (fun b hb he => by have := (hown.lt b he).1; omega)
        have hs3 := hG.size
        have hdis4 : Hid (∀ b, (F2 b ∧ b < w2.heap.size) → b < w3.heap.size ∧ v'.ownBlock ≠ some b) := fun b hb => ⟨by omega, fun he => by
          rcases hat3 with h | h
          · rw [h] at he; exact (hdis2.out b hb).2 he
          · rw [h] at he
            have : ((w2.alloc (.cells #[.int .u64 x.k, .int .u64 x.t, .int .i64 x.i] 36)).alloc (.cells #[.int .u64 x.k, .int .u64 x.t, .int .i64 x.i] 36)).heap.size = b := by injection he
            simp at this
            omega⟩
        obtain ⟨A', c', rfl, _⟩ := hown3.sl (fun y => (ent_len y).1)
        refine Stop.go ?_
        go_wp2
        go_roundw
        case rel => exact ⟨out ++ [x], rest, _, by rw [Hid, List.append_assoc]; exact hsp.out, hlm2.out, hln.out, by omega, by simpa using hown3, hq4, hk4, hF2', by simpa using hdis4⟩
        case measure => simp [slLen]; have := hcx.out; omega

set_option maxHeartbeats 800000 in
theorem qTakenNil (w : World) (most : Int) :
    Calls Try.prog 49 #[.pointer none, .int .i64 most, .func (.func 29) #[] #[]] w
      fun e w' => e = .returned (.slice none 0 0) ∧ Below w.heap.size w w' := by
  go_enter Try.func49, Try.ntmps49
  go_wp2
  refine wp_loop_once ?_
  by_cases hend : most ≤ 0
  · have hd : decide ((0 : Int) < most) = false := by simp; omega
    go_wp2
    go_ret
    exact ⟨rfl, Below.refl _ _⟩
  · have hd : decide ((0 : Int) < most) = true := by simp; omega
    go_wp2_with fail
    refine (qPopNil _).mono ?_
    rintro e w2 ⟨rfl, hb2⟩
    unfold Ent.val
    go_wp2_with fail
    go_ret
    exact ⟨rfl, hb2.alloc hb2.size _⟩

/-- Some row comes back, taken out of the queue. -/
def RetD (w : World) (q : Nat) (F : Nat → Prop) (out rest : List Ent) (e : Ending) (w' : World) : Prop :=
  ∃ v, e = .returned v ∧ Sl w' w'.heap.size 3 Ent.cells v out ∧ ∃ F', QS w' q rest F' ∧ Keep F w w' ∧ ∀ b, F' b → F b ∨ w.heap.size ≤ b

set_option maxHeartbeats 800000 in
theorem qDrain (q : Nat) (hs : List Ent) (F : Nat → Prop) (w : World) (h : QS w q hs F) (most : Int) (hm : hs.length ≤ 1000000) :
    Calls Try.prog 31 #[.pointer (some ⟨q, 0, none⟩), .int .i64 most] w (RetD w q F (hs.take most.toNat) (hs.drop most.toNat)) := by
  go_enter Try.func31, Try.ntmps31
  go_wp2_with fail
  refine (qTaken q hs F _ h most hm).mono ?_
  rintro e w2 ⟨v, rfl, h1, h2⟩
  go_wp2_with fail
  go_ret
  exact ⟨_, rfl, h1, h2⟩
set_option maxHeartbeats 800000 in
theorem qDrainNil (w : World) (most : Int) :
    Calls Try.prog 31 #[.pointer none, .int .i64 most] w fun e w' => e = .returned (.slice none 0 0) ∧ Below w.heap.size w w' := by
  go_enter Try.func31, Try.ntmps31
  go_wp2_with fail
  refine (qTakenNil _ most).mono ?_
  rintro e w2 ⟨rfl, h1⟩
  go_wp2_with fail
  go_ret
  exact ⟨rfl, h1⟩
end Go.Proofs.Ythognfmmjkmjnaa
