/- The laws of the queue that need no row: QueueOrder, QueueNil. -/
import Derived.Test.YthognfmmjkmjnaaQf
import Derived.Test.YthognfmmjkmjnaaArg
namespace Go.Proofs.Ythognfmmjkmjnaa
open Go.RowKit Go.ChangeShapes Go.WideShapes

theorem entLeaves : leavesOf Try.prog 5 36 = some [.int .u64, .int .u64, .int .i64] := by kernel_rfl
theorem ent_of_leaves {cs : List Value} (h : Leaf.all [.int .u64, .int .u64, .int .i64] cs) : ∃ e : Ent, e.cells = cs := by
  obtain ⟨a, _, rfl, _, h⟩ := Leaf.int_cons h
  obtain ⟨b, _, rfl, _, h⟩ := Leaf.int_cons h
  obtain ⟨c, _, rfl, _, h⟩ := Leaf.int_cons h
  obtain rfl := Leaf.all_nil h
  exact ⟨⟨a, b, c⟩, rfl⟩
set_option maxRecDepth 100000 in
theorem entArg {H : Type} {enc : TypeId × Value → H} {w : World} {base : Nat} {spare : Nat → Bool} {held : Bool} {r : Reach} {b0 : Nat} {v : Value} {d : DataW H} {p : List MemPlace}
    (hv : Value.okWide Try.prog w r b0 36 v) (h : DataW.Trod enc Try.prog w base spare held 36 v d p) : ∃ e : Ent, v = e.val := by
  obtain ⟨cs, rfl, hc⟩ := plain_val Try.underlying36 entLeaves hv h
  obtain ⟨e, rfl⟩ := ent_of_leaves hc
  exact ⟨e, rfl⟩

theorem Blk.three {w : World} {g : Nat} {t : TypeId} {u v x : Value} (h : Blk w g t #[u, v, x]) : w.cell? ⟨g, 0, none⟩ = some u ∧ w.cell? ⟨g, 1, none⟩ = some v ∧ w.cell? ⟨g, 2, none⟩ = some x := ⟨h.cell 0, h.cell 1, h.cell 2⟩
attribute [local go_sem high] entNe entIs entGuard

set_option maxHeartbeats 1600000 in
theorem lawOrder (a b c : Ent) (W : World) : Calls Try.prog 4 #[a.val, b.val, c.val] W (Yes W) := by
  have hbl0 : Below W.heap.size W (((W.alloc (.cells #[.int .u64 a.k, .int .u64 a.t, .int .i64 a.i] 36)).alloc (.cells #[.int .u64 b.k, .int .u64 b.t, .int .i64 b.i] 36)).alloc (.cells #[.int .u64 c.k, .int .u64 c.t, .int .i64 c.i] 36)) :=
    (((Below.refl _ _).alloc (Nat.le_refl _) _).alloc (by simp) _).alloc (by simp; omega) _
  have A0 := ((Blk.new W 36 #[.int .u64 a.k, .int .u64 a.t, .int .i64 a.i]).alloc (.cells #[.int .u64 b.k, .int .u64 b.t, .int .i64 b.i] 36)).alloc (.cells #[.int .u64 c.k, .int .u64 c.t, .int .i64 c.i] 36)
  have B0 := (Blk.new2 W (.cells #[.int .u64 a.k, .int .u64 a.t, .int .i64 a.i] 36) 36 #[.int .u64 b.k, .int .u64 b.t, .int .i64 b.i]).alloc (.cells #[.int .u64 c.k, .int .u64 c.t, .int .i64 c.i] 36)
  have C0 := Blk.new ((W.alloc (.cells #[.int .u64 a.k, .int .u64 a.t, .int .i64 a.i] 36)).alloc (.cells #[.int .u64 b.k, .int .u64 b.t, .int .i64 b.i] 36)) 36 #[.int .u64 c.k, .int .u64 c.t, .int .i64 c.i]
  have hl := fun x y w => qLess x y w
  have hr := fun x y w => rLess x y w
  unfold Ent.val at hl hr ⊢
  generalize hW0 : (((W.alloc (.cells #[.int .u64 a.k, .int .u64 a.t, .int .i64 a.i] 36)).alloc (.cells #[.int .u64 b.k, .int .u64 b.t, .int .i64 b.i] 36)).alloc (.cells #[.int .u64 c.k, .int .u64 c.t, .int .i64 c.i] 36)) = W0 at hbl0 A0 B0 C0
  rw [show ((W.alloc (.cells #[.int .u64 a.k, .int .u64 a.t, .int .i64 a.i] 36)).alloc (.cells #[.int .u64 b.k, .int .u64 b.t, .int .i64 b.i] 36)).heap.size = W.heap.size + 1 + 1 by simp] at C0
  go_enter Try.func4, Try.ntmps4
  go_wp2
  have p1 : ∀ p, (Mix.ext W0.drew p).cell? ⟨W.heap.size, 0, none⟩ = some (.int .u64 a.k) := Mix.cell_ext (w := W0.drew) (A0.drew.cell 0)
  have p2 : ∀ p, (Mix.ext W0.drew p).cell? ⟨W.heap.size, 1, none⟩ = some (.int .u64 a.t) := Mix.cell_ext (w := W0.drew) (A0.drew.cell 1)
  have p3 : ∀ p, (Mix.ext W0.drew p).cell? ⟨W.heap.size, 2, none⟩ = some (.int .i64 a.i) := Mix.cell_ext (w := W0.drew) (A0.drew.cell 2)
  have q1 : ∀ p, (Mix.ext W0.drew p).cell? ⟨W.heap.size + 1, 0, none⟩ = some (.int .u64 b.k) := Mix.cell_ext (w := W0.drew) (B0.drew.cell 0)
  have q2 : ∀ p, (Mix.ext W0.drew p).cell? ⟨W.heap.size + 1, 1, none⟩ = some (.int .u64 b.t) := Mix.cell_ext (w := W0.drew) (B0.drew.cell 1)
  have q3 : ∀ p, (Mix.ext W0.drew p).cell? ⟨W.heap.size + 1, 2, none⟩ = some (.int .i64 b.i) := Mix.cell_ext (w := W0.drew) (B0.drew.cell 2)
  have hsame : (a.lt b != a.lt b) = false := by simp
  refine Mix.regionX mixed (by kernel_rfl) ?_
  repeat (refine Mix.walk_q rfl ?_; go_big_quiet_step (fail); refine wpQuiet_nil ?_)
  refine Mix.walk_x rfl (fun K hK => ?_)
  go_wp2_with fail
  refine (hl a b _).mono ?_
  rintro e w1 ⟨rfl, hb1⟩
  go_wp2_with fail
  refine hK.out _ _ hb1 ?_
  clear hK K
  repeat (refine Mix.walk_q rfl ?_; go_big_quiet_step (fail); refine wpQuiet_nil ?_)
  refine Mix.walk_x rfl (fun K hK => ?_)
  go_wp2_with fail
  refine (hr a b _).mono ?_
  rintro e w2 ⟨rfl, hb2⟩
  have hb2 := belowStep hb1 hb1.size hb2
  go_wp2_with fail
  refine hK.out _ _ hb2 ?_
  clear hK K
  repeat (refine Mix.walk_q rfl ?_; go_big_quiet_step (fail); refine wpQuiet_nil ?_)
  refine Mix.walk_x rfl (fun K hK => ?_)
  go_wp2_with fail
  refine (hl a a _).mono ?_
  rintro e w3 ⟨rfl, hb3⟩
  have hb3 := belowStep hb2 hb2.size hb3
  rw [Ent.lt_irrefl]
  go_wp2_with fail
  refine hK.out _ _ hb3 ?_
  clear hK K
  repeat (refine Mix.walk_q rfl ?_; go_big_quiet_step (fail); refine wpQuiet_nil ?_)
  refine Mix.walk_nil ?_
  have hbl3 := belowStep hbl0 hbl0.size (undrew hb3)
  have A3 := A0.below (undrew hb3) A0.lt
  have B3 := B0.below (undrew hb3) B0.lt
  have C3 := C0.below (undrew hb3) C0.lt
  obtain ⟨x1, x2, x3⟩ := A3.three
  obtain ⟨y1, y2, y3⟩ := B3.three
  clear p1 p2 p3 q1 q2 q3 hb1 hb2 hb3 hsame
  go_wp2_with fail
  refine (hl a b _).mono ?_
  rintro e w4 ⟨rfl, hb4⟩
  have hbl4 := belowStep hbl3 hbl3.size hb4
  have A4 := A3.below hb4 A3.lt
  have B4 := B3.below hb4 B3.lt
  have C4 := C3.below hb4 C3.lt
  clear x1 x2 x3 y1 y2 y3
  obtain ⟨x1, x2, x3⟩ := A4.three
  obtain ⟨y1, y2, y3⟩ := B4.three
  obtain ⟨z1, z2, z3⟩ := C4.three
  clear hb4 hbl3 A3 B3 C3 A0 B0 C0 hbl0
  cases hab : a.lt b with
  | true =>
    go_wp2_with fail
    refine (hl a b _).mono ?_
    rintro e w5 ⟨rfl, hb5⟩
    rw [hab]
    have hbl5 := belowStep hbl4 hbl4.size hb5
    have A5 := A4.below hb5 A4.lt
    have B5 := B4.below hb5 B4.lt
    have C5 := C4.below hb5 C4.lt
    clear x1 x2 x3 y1 y2 y3 z1 z2 z3
    obtain ⟨x1, x2, x3⟩ := A5.three
    obtain ⟨y1, y2, y3⟩ := B5.three
    obtain ⟨z1, z2, z3⟩ := C5.three
    clear hb5 hbl4 A4 B4 C4
    go_wp2_with fail
    refine (hl b c _).mono ?_
    rintro e w6 ⟨rfl, hb6⟩
    have hbl6 := belowStep hbl5 hbl5.size hb6
    have A6 := A5.below hb6 A5.lt
    have C6 := C5.below hb6 C5.lt
    clear x1 x2 x3 y1 y2 y3 z1 z2 z3
    obtain ⟨x1, x2, x3⟩ := A6.three
    obtain ⟨z1, z2, z3⟩ := C6.three
    clear hb6 hbl5 A5 B5 C5
    cases hbc : b.lt c with
    | true =>
      have hac := Ent.lt_trans hab hbc
      go_wp2_with fail
      refine (hl a c _).mono ?_
      rintro e w7 ⟨rfl, hb7⟩
      have hbl7 := belowStep hbl6 hbl6.size hb7
      clear x1 x2 x3 z1 z2 z3
      rw [hac]
      go_wp2_with fail
      refine (known _).mono ?_
      rintro e w8 ⟨rfl, hb8⟩
      have hbl8 := belowStep hbl7 hbl7.size hb8
      go_wp2_with fail
      go_ret
      exact ⟨rfl, hbl8⟩
    | false =>
      go_wp2_with fail
      refine (known _).mono ?_
      rintro e w8 ⟨rfl, hb8⟩
      have hbl8 := belowStep hbl6 hbl6.size hb8
      go_wp2_with fail
      go_ret
      exact ⟨rfl, hbl8⟩
  | false =>
    go_wp2_with fail
    refine (hl b a _).mono ?_
    rintro e w5 ⟨rfl, hb5⟩
    have hbl5 := belowStep hbl4 hbl4.size hb5
    have A5 := A4.below hb5 A4.lt
    have B5 := B4.below hb5 B4.lt
    clear x1 x2 x3 y1 y2 y3 z1 z2 z3
    obtain ⟨x1, x2, x3⟩ := A5.three
    obtain ⟨y1, y2, y3⟩ := B5.three
    clear hb5 hbl4 A4 B4 C4
    cases hba : b.lt a with
    | true =>
      go_wp2_with fail
      refine (hl a b _).mono ?_
      rintro e w6 ⟨rfl, hb6⟩
      have hbl6 := belowStep hbl5 hbl5.size hb6
      rw [hab]
      clear x1 x2 x3 y1 y2 y3
      go_wp2_with fail
      refine (known _).mono ?_
      rintro e w8 ⟨rfl, hb8⟩
      have hbl8 := belowStep hbl6 hbl6.size hb8
      go_wp2_with fail
      go_ret
      exact ⟨rfl, hbl8⟩
    | false =>
      obtain rfl := Ent.le_antisymm hba hab
      go_wp2_with fail
      refine (hl a a _).mono ?_
      rintro e w6 ⟨rfl, hb6⟩
      have hbl6 := belowStep hbl5 hbl5.size hb6
      rw [hab]
      clear x1 x2 x3 y1 y2 y3
      go_wp2_with fail
      refine (known _).mono ?_
      rintro e w8 ⟨rfl, hb8⟩
      have hbl8 := belowStep hbl6 hbl6.size hb8
      go_wp2_with fail
      go_ret
      exact ⟨rfl, hbl8⟩

theorem isZero (w : World) : (binOp .eql 36 (.agg #[.int .u64 0, .int .u64 0, .int .i64 0]) (.agg #[.int .u64 0, .int .u64 0, .int .i64 0])).run Try.prog w = .ok (.bool true) w := by
  have h := entIs zero zero w
  rw [decide_eq_true rfl] at h
  exact h
attribute [local go_sem high] isZero build36

set_option maxHeartbeats 1600000 in
theorem lawNil (y : Ent) (most : Int) (W : World) : Calls Try.prog 7 #[y.val, .int .i64 most] W (Yes W) := by
  have hbl0 : Below W.heap.size W (W.alloc (.cells #[.int .u64 y.k, .int .u64 y.t, .int .i64 y.i] 36)) := (Below.refl _ _).alloc (Nat.le_refl _) _
  have Y0 := Blk.new W 36 #[.int .u64 y.k, .int .u64 y.t, .int .i64 y.i]
  have hp := qPushNil
  have hz : zero.val = .agg #[.int .u64 0, .int .u64 0, .int .i64 0] := rfl
  unfold Ent.val at hp ⊢
  go_enter Try.func7, Try.ntmps7
  go_wp2_with fail
  refine (qTopNil _).mono ?_
  rintro e w1 ⟨rfl, hb1⟩
  have hbl1 := belowStep hbl0 hbl0.size hb1
  have Y1 := Y0.below hb1 Y0.lt
  rw [hz]
  go_wp2_with fail
  have hbl2 := hbl1.alloc (Nat.le_trans hbl0.size hb1.size) (.cells #[.int .u64 0, .int .u64 0, .int .i64 0] 36)
  have Y2 := Y1.alloc (.cells #[.int .u64 0, .int .u64 0, .int .i64 0] 36)
  have A2 := Blk.new w1 36 #[.int .u64 0, .int .u64 0, .int .i64 0]
  refine (qPopNil _).mono ?_
  rintro e w3 ⟨rfl, hb3⟩
  have hbl3 := belowStep hbl2 hbl2.size hb3
  have Y3 := Y2.below hb3 Y2.lt
  have A3 := A2.below hb3 A2.lt
  rw [hz]
  have hbl4 := hbl3.alloc hbl3.size (.cells #[.int .u64 0, .int .u64 0, .int .i64 0] 36)
  have Y4 := Y3.alloc (.cells #[.int .u64 0, .int .u64 0, .int .i64 0] 36)
  have A4 := A3.alloc (.cells #[.int .u64 0, .int .u64 0, .int .i64 0] 36)
  have B4 := Blk.new w3 36 #[.int .u64 0, .int .u64 0, .int .i64 0]
  obtain ⟨x1, x2, x3⟩ := Y4.three
  clear hbl0 hbl1 hbl2 hbl3 hb1 hb3 Y0 Y1 Y2 Y3 A2 A3
  go_wp2_with fail
  refine (hp _ y).mono ?_
  rintro e w5 ⟨rfl, hb5⟩
  have hbl5 := belowStep hbl4 hbl4.size hb5
  have A5 := A4.below hb5 A4.lt
  have B5 := B4.below hb5 B4.lt
  obtain ⟨y1, y2, y3⟩ := A5.three
  obtain ⟨z1, z2, z3⟩ := B5.three
  clear x1 x2 x3 hbl4 hb5 Y4 A4 B4
  go_wp2_with fail
  refine (qLenNil _).mono ?_
  rintro e w6 ⟨rfl, rfl⟩
  go_wp2_with fail
  refine (qDrainNil _ most).mono ?_
  rintro e w7 ⟨rfl, hb7⟩
  have hbl7 := belowStep hbl5 hbl5.size hb7
  clear y1 y2 y3 z1 z2 z3
  go_wp2_with fail
  refine (known _).mono ?_
  rintro e w8 ⟨rfl, hb8⟩
  have hbl8 := belowStep hbl7 hbl7.size hb8
  go_wp2_with fail
  go_ret
  exact ⟨rfl, hbl8⟩
end Go.Proofs.Ythognfmmjkmjnaa
