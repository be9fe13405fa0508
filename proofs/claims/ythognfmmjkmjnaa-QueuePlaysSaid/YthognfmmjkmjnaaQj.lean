/- The law QueuePlays. -/
import Derived.Test.YthognfmmjkmjnaaQi
import Derived.Test.YthognfmmjkmjnaaRk
namespace Go.Proofs.Ythognfmmjkmjnaa
open Go.RowKit Go.ChangeShapes Go.WideShapes

structure Deed where
  kind : Int
  e : Ent
  n : Int
instance : Inhabited Deed := ⟨⟨0, zero, 0⟩⟩
def Deed.cells (d : Deed) : List Value := [.int .i64 d.kind, .int .u64 d.e.k, .int .u64 d.e.t, .int .i64 d.e.i, .int .i64 d.n]
theorem deed_cells {w : World} {b o k : Nat} {xs : List Deed} (h : ∀ i x, xs[i]? = some x → ∀ j u, (Deed.cells x)[j]? = some u → w.cell? ⟨b, o + i * 5 + j, none⟩ = some u) (hk : k < xs.length) :
    w.cell? ⟨b, o + k * 5, none⟩ = some (.int .i64 xs[k].kind) ∧ w.cell? ⟨b, o + k * 5 + 1, none⟩ = some (.int .u64 xs[k].e.k) ∧ w.cell? ⟨b, o + k * 5 + 2, none⟩ = some (.int .u64 xs[k].e.t) ∧ w.cell? ⟨b, o + k * 5 + 3, none⟩ = some (.int .i64 xs[k].e.i) ∧
      w.cell? ⟨b, o + k * 5 + 4, none⟩ = some (.int .i64 xs[k].n) :=
  ⟨h k _ (List.getElem?_eq_getElem hk) 0 _ rfl, h k _ (List.getElem?_eq_getElem hk) 1 _ rfl, h k _ (List.getElem?_eq_getElem hk) 2 _ rfl, h k _ (List.getElem?_eq_getElem hk) 3 _ rfl, h k _ (List.getElem?_eq_getElem hk) 4 _ rfl⟩
theorem deedLeaves : leavesOf Try.prog 5 54 = some [.int .i64, .int .u64, .int .u64, .int .i64, .int .i64] := by kernel_rfl
theorem deed_of_leaves {cs : List Value} (h : Leaf.all [.int .i64, .int .u64, .int .u64, .int .i64, .int .i64] cs) : ∃ e : Deed, e.cells = cs := by
  obtain ⟨k, _, rfl, _, h⟩ := Leaf.int_cons h
  obtain ⟨a, _, rfl, _, h⟩ := Leaf.int_cons h
  obtain ⟨b, _, rfl, _, h⟩ := Leaf.int_cons h
  obtain ⟨c, _, rfl, _, h⟩ := Leaf.int_cons h
  obtain ⟨n, _, rfl, _, h⟩ := Leaf.int_cons h
  obtain rfl := Leaf.all_nil h
  exact ⟨⟨k, ⟨a, b, c⟩, n⟩, rfl⟩

theorem Play.eq {W w : World} {q : Nat} {hs ys xs : List Ent} {v : Value} (h : Play W q hs xs v w) (e : hs = ys) : Play W q ys xs v w := e ▸ h
theorem sl_head {w : World} {B bb oo L c : Nat} {xs : List Ent} {x : Ent} (h : Sl w B 3 Ent.cells (.slice (some ⟨bb, oo, none⟩) L c) xs) (hn : 0 < xs.length) (hx : xs[0] = x) :
    w.cell? ⟨bb, oo, none⟩ = some (.int .u64 x.k) ∧ w.cell? ⟨bb, oo + 1, none⟩ = some (.int .u64 x.t) ∧ w.cell? ⟨bb, oo + 2, none⟩ = some (.int .i64 x.i) := by
  obtain ⟨A, c', e, _, _, h3⟩ := h
  simp only [Value.slice.injEq] at e
  obtain ⟨rfl, _, _⟩ := e
  obtain ⟨b, o, e, _, hc⟩ := h3 hn
  simp only [Option.some.injEq, Addr.mk.injEq] at e
  obtain ⟨rfl, rfl, _⟩ := e
  have := ent_cells hc hn
  rw [hx] at this
  simpa only [Nat.zero_mul, Nat.add_zero] using this
theorem Sl.first {w : World} {B c m L : Nat} {A : Option Addr} {xs : List Ent} (h : Sl w B 3 Ent.cells (.slice A L c) xs) (hm : m ≤ xs.length) : Sl w B 3 Ent.cells (.slice A m c) (xs.take m) := by
  obtain ⟨A', c', e, h1, h2, h3⟩ := h
  simp only [Value.slice.injEq] at e
  obtain ⟨rfl, _, rfl⟩ := e
  have hl : (xs.take m).length = m := by rw [List.length_take]; omega
  refine ⟨A, c, by rw [hl], by omega, h2, fun h0 => ?_⟩
  obtain ⟨b, o, rfl, hb, hc⟩ := h3 (by omega)
  refine ⟨b, o, rfl, hb, fun i x hx j u hu => hc i x ?_ j u hu⟩
  rw [List.getElem?_take] at hx
  split at hx
  · exact hx
  · cases hx
theorem Play.cut {W w : World} {q bb oo L c m : Nat} {hs ys : List Ent} (h : Play W q ys hs (.slice (some ⟨bb, oo, none⟩) L c) w) (hm : m ≤ hs.length) (hL : hs.length ≤ c) :
    Play W q ys (hs.drop m) (.slice (if c = m then some ⟨bb, oo, none⟩ else some ⟨bb, oo + m * 3, none⟩) (L - m) (c - m)) w := by
  refine h.rest hm _ (fun b o e => ?_) (fun hlt b o e => ?_)
  · refine ⟨oo, ?_⟩
    split at e <;> (simp only [Option.some.injEq, Addr.mk.injEq] at e; rw [e.1])
  · rw [if_neg (by omega)]
    simp only [Option.some.injEq, Addr.mk.injEq] at e
    rw [e.1, e.2.1]
/-- A cell that lay in the first world. -/
theorem Play.old {W w : World} {q : Nat} {hs xs : List Ent} {v u : Value} {p : Addr} (h : Play W q hs xs v w) (hp : p.block < W.heap.size) (e : W.cell? p = some u) : w.cell? p = some u := (h.all.cell hp).trans e

theorem neZero (w : World) : (binOp .neq 36 (.agg #[.int .u64 0, .int .u64 0, .int .i64 0]) (.agg #[.int .u64 0, .int .u64 0, .int .i64 0])).run Try.prog w = .ok (.bool false) w := by
  have h := entNe zero zero w
  rw [show decide (zero = zero) = true from decide_eq_true rfl] at h
  exact h
theorem neSame (x : Ent) (w : World) : (binOp .neq 36 (.agg #[.int .u64 x.k, .int .u64 x.t, .int .i64 x.i]) (.agg #[.int .u64 x.k, .int .u64 x.t, .int .i64 x.i])).run Try.prog w = .ok (.bool false) w := by
  have h := entNe x x w
  rw [show decide (x = x) = true from decide_eq_true rfl] at h
  exact h

/-- The builtins min and max as the law uses them. -/
def lesser (x y : Int) : Int := if y < x then y else x
def clip (x y : Int) : Int := if lesser x y > 0 then lesser x y else 0
theorem minRun (ts : Array TypeId) (t : TypeId) (x y : Int) (w : World) : (Builtin.min_ ts t #[.int .i64 x, .int .i64 y]).run Try.prog w = .ok (.int .i64 (lesser x y)) w := rfl
theorem maxRun (ts : Array TypeId) (t : TypeId) (x y : Int) (w : World) : (Builtin.max_ ts t #[.int .i64 0, .int .i64 (lesser x y)]).run Try.prog w = .ok (.int .i64 (clip x y)) w := rfl
theorem clip_nat (x : Int) (l : List Ent) : ∃ m : Nat, clip x (l.length : Int) = (m : Int) ∧ m ≤ l.length ∧ l.take x.toNat = l.take m ∧ l.drop x.toNat = l.drop m := by
  have h : clip x (l.length : Int) = ((min x.toNat l.length : Nat) : Int) := by
    unfold clip lesser
    split <;> split <;> omega
  refine ⟨_, h, by omega, ?_, ?_⟩
  · by_cases hx : x.toNat ≤ l.length
    · rw [Nat.min_eq_left hx]
    · rw [Nat.min_eq_right (by omega), List.take_of_length_le (by omega), List.take_of_length_le (Nat.le_refl _)]
  · by_cases hx : x.toNat ≤ l.length
    · rw [Nat.min_eq_left hx]
    · rw [Nat.min_eq_right (by omega), List.drop_eq_nil_of_le (by omega), List.drop_eq_nil_of_le (Nat.le_refl _)]
theorem clip_zero (x : Int) : clip x 0 = 0 := by
  unfold clip lesser
  split
  · split <;> omega
  · rfl

attribute [local go_sem high] entNe entIs entGuard isZero neZero build36 minRun maxRun clip_zero

set_option maxHeartbeats 3200000 in
set_option maxRecDepth 10000 in
theorem lawPlays (v : Value) (ops : List Deed) (W : World) (hs : Sl W W.heap.size 5 Deed.cells v ops) : Calls Try.prog 6 #[v] W (Yes W) := by
  obtain ⟨A, c, rfl, hc1, hc2, hc3⟩ := hs
  unfold maxLen at hc2
  by_cases hbig : 300 < ops.length
  · go_enter Try.func6, Try.ntmps6
    go_wp2_with fail
    refine (known _).mono ?_
    rintro e w8 ⟨rfl, hb8⟩
    go_wp2_with fail
    go_ret
    exact ⟨rfl, hb8⟩
  · have hd0 : decide ((300 : Int) < (ops.length : Int)) = false := by simp; omega
    go_enter Try.func6, Try.ntmps6
    go_wp2_with fail
    refine (pNew _).mono ?_
    rintro e w1 ⟨rfl, hp1⟩
    go_wp2
    clear hd0
    go_loopw [4, 5] (fun vh i wr => ∃ (k : Nat) (hs : List Ent), k ≤ ops.length ∧ i = .int .i64 k ∧ hs.length ≤ k ∧ Play W W.heap.size hs hs vh wr)
      (fun _ i _ => ops.length - (intOf i).toNat)
    case atStart => exact ⟨0, [], Nat.zero_le _, rfl, by simp, hp1⟩
    case round =>
      clear hp1
      obtain ⟨k, hs, hk, rfl, hhs, hp⟩ := hrel
      by_cases hlt : k < ops.length
      · obtain ⟨b, o, rfl, hbB, hcell⟩ := hc3 (by omega)
        obtain ⟨e0, e1, e2, e3, e4⟩ := deed_cells hcell hlt
        clear hcell hc3
        generalize hy : ops[k] = y at e0 e1 e2 e3 e4
        clear hy
        obtain ⟨kd, ⟨ek, et, ei⟩, n⟩ := y
        simp only at e0 e1 e2 e3 e4
        by_cases hnil : hs = []
        · subst hnil
          go_wp2_with fail
          refine (pTopEmpty hp).mono ?_
          rintro e w2 ⟨rfl, hb2⟩
          rw [show zero.val = .agg #[.int .u64 0, .int .u64 0, .int .i64 0] from rfl]
          have hp2 := (hp.below hb2).alloc (.cells #[.int .u64 0, .int .u64 0, .int .i64 0] 36)
          clear hp hb2
          obtain ⟨A2, c2, rfl, g1, g2, -⟩ := hp2.sl
          unfold maxLen at g2
          go_wp2_with fail
          refine Mix.regionX mixed (by kernel_rfl) ?_
          repeat (refine Mix.walk_q rfl ?_; go_big_quiet_step (fail); refine wpQuiet_nil ?_)
          refine Mix.walk_x rfl (fun K hK => ?_)
          go_wp2_with fail
          refine (pLen hp2.drew).mono ?_
          rintro e w3 ⟨rfl, rfl⟩
          go_wp2_with fail
          refine hK.out _ _ (Below.refl _ _) ?_
          clear hK K
          repeat (refine Mix.walk_q rfl ?_; go_big_quiet_step (fail); refine wpQuiet_nil ?_)
          refine Mix.walk_nil ?_
          have x0 := hp2.old (p := ⟨b, _, none⟩) hbB e0
          have x1 := hp2.old (p := ⟨b, _, none⟩) hbB e1
          have x2 := hp2.old (p := ⟨b, _, none⟩) hbB e2
          have x3 := hp2.old (p := ⟨b, _, none⟩) hbB e3
          have x4 := hp2.old (p := ⟨b, _, none⟩) hbB e4
          by_cases hk0 : kd = 0
          · subst hk0
            have hpu := fun W w hp => pPush (W := W) (w := w) (q := W.heap.size) (hs := []) (xs := []) (v := .slice A2 0 c2) hp ⟨ek, et, ei⟩ (by simp)
            have hpt := fun W w hs hp => pPut (W := W) (w := w) (q := W.heap.size) (hs := hs) (xs := []) (v := .slice A2 0 c2) hp ⟨ek, et, ei⟩ (by simp)
            unfold Ent.val at hpu hpt
            go_wp2_with fail
            refine (hpu _ _ hp2.drew).mono ?_
            rintro e w3 ⟨rfl, hp3⟩
            clear x0 x1 x2 x3 x4
            have x1 := hp3.old (p := ⟨b, _, none⟩) hbB e1
            have x2 := hp3.old (p := ⟨b, _, none⟩) hbB e2
            have x3 := hp3.old (p := ⟨b, _, none⟩) hbB e3
            go_wp2_with fail
            refine (hpt _ _ _ hp3).mono ?_
            rintro e w4 ⟨u, rfl, hp4⟩
            clear x1 x2 x3
            go_wp2_with fail
            go_roundw
            case rel => exact ⟨k + 1, _, by omega, by go_num, by rw [put_len]; simp, hp4⟩
            case measure => simp [intOf]; omega
          · by_cases hk1 : kd = 1
            · subst hk1
              clear hk0
              go_wp2_with fail
              refine (pPopEmpty hp2.drew).mono ?_
              rintro e w3 ⟨rfl, hp3⟩
              clear x0 x1 x2 x3 x4
              rw [show zero.val = .agg #[.int .u64 0, .int .u64 0, .int .i64 0] from rfl]
              have hp4 := hp3.alloc (.cells #[.int .u64 0, .int .u64 0, .int .i64 0] 36)
              have B := (Blk.new w3 36 #[.int .u64 0, .int .u64 0, .int .i64 0]).drew
              have y1 : ∀ p, (Mix.vary (w3.alloc (.cells #[.int .u64 0, .int .u64 0, .int .i64 0] 36)).drew (fun _ => False) p).cell? ⟨w3.heap.size, 0, none⟩ = some (.int .u64 0) := Mix.cell_vary (B.cell 0) (fun h => h)
              have y2 : ∀ p, (Mix.vary (w3.alloc (.cells #[.int .u64 0, .int .u64 0, .int .i64 0] 36)).drew (fun _ => False) p).cell? ⟨w3.heap.size, 1, none⟩ = some (.int .u64 0) := Mix.cell_vary (B.cell 1) (fun h => h)
              have y3 : ∀ p, (Mix.vary (w3.alloc (.cells #[.int .u64 0, .int .u64 0, .int .i64 0] 36)).drew (fun _ => False) p).cell? ⟨w3.heap.size, 2, none⟩ = some (.int .i64 0) := Mix.cell_vary (B.cell 2) (fun h => h)
              go_wp2_with fail
              refine Mix.regionK (fun _ => False) mixed (by kernel_rfl) ?_
              repeat (refine Mix.walk_q rfl ?_; go_big_quiet_step (fail); refine wpQuiet_nil ?_)
              refine Mix.walk_k rfl (fun K hK => ?_)
              go_wp2_with fail
              refine hK.out _ _ (Keep.refl _ _) ?_
              clear hK K
              repeat (refine Mix.walk_q rfl ?_; go_big_quiet_step (fail); refine wpQuiet_nil ?_)
              refine Mix.walk_nil ?_
              go_wp2_with fail
              go_roundw
              case rel => exact ⟨k + 1, [], by omega, by go_num, by simp, hp4.drew⟩
              case measure => simp [intOf]; omega
            · by_cases hk2 : kd = 2
              · subst hk2
                clear hk0 hk1
                go_wp2_with fail
                have z4 : ∀ p, (Mix.vary (w2.alloc (.cells #[.int .u64 0, .int .u64 0, .int .i64 0] 36)).drew.drew (fun b => W.heap.size ≤ b) p).cell? ⟨b, o + k * 5 + 4, none⟩ = some (.int .i64 n) :=
                  Mix.cell_vary (hp2.drew.drew.old (p := ⟨b, _, none⟩) hbB e4) (fun h => by have : W.heap.size ≤ b := h; omega)
                refine Mix.regionK (fun b => W.heap.size ≤ b) mixed (by kernel_rfl) ?_
                repeat (refine Mix.walk_q rfl ?_; go_big_quiet_step (fail); refine wpQuiet_nil ?_)
                refine Mix.walk_k rfl (fun K hK => ?_)
                go_wp2_with fail
                refine (pDrain hp2.drew.drew n (by simp)).mono ?_
                rintro e w3 ⟨u, rfl, hsu, hp3, hk3⟩
                rw [List.take_nil] at hsu
                rw [List.drop_nil] at hp3
                go_wp2_with fail
                refine hK.out _ _ hk3 ?_
                clear hK K
                repeat (refine Mix.walk_q rfl ?_; go_big_quiet_step (fail); refine wpQuiet_nil ?_)
                refine Mix.walk_k rfl (fun K hK => ?_)
                go_wp2_with fail
                refine (rSame _ _ [] [] _ hsu hp3.sl).mono ?_
                rintro e w4 ⟨rfl, hb4⟩
                rw [show decide (([] : List Ent) = []) = true from rfl]
                have hp4 := hp3.below hb4
                go_wp2_with fail
                refine hK.out _ _ (hk3.step (Keep.of_below hb4 (S := fun _ => False)) (fun _ _ h => h.elim)) ?_
                clear hK K z4 x0 x1 x2 x3 x4
                repeat (refine Mix.walk_q rfl ?_; go_big_quiet_step (fail); refine wpQuiet_nil ?_)
                refine Mix.walk_nil ?_
                go_wp2_with fail
                go_roundw
                case rel => exact ⟨k + 1, [], by omega, by go_num, by simp, hp4⟩
                case measure => simp [intOf]; omega
              · go_wp2_with fail
                go_roundw
                case rel => exact ⟨k + 1, [], by omega, by go_num, by simp, hp2.drew⟩
                case measure => simp [intOf]; omega
        · obtain ⟨x, tl, hx⟩ : ∃ x tl, hs = x :: tl := by
            cases hs with
            | nil => exact absurd rfl hnil
            | cons x tl => exact ⟨x, tl, rfl⟩
          have hne : 0 < hs.length := by rw [hx]; simp
          have hne' : decide ((0 : Int) < (hs.length : Int)) = true := by simpa using hne
          have hne0 : ¬ hs.length = 0 := by omega
          have hx0 : hs[0] = x := by simp [hx]
          have htl : hs.drop 1 = tl := by rw [hx]; rfl
          have htll : tl.length ≤ 300 ∧ tl.length ≤ k := by have := congrArg List.length hx; simp at this; omega
          obtain ⟨htll, htlk⟩ := htll
          have HX := hide hx
          clear hnil hx
          go_wp2_with fail
          refine (pTop (x := x) (hs := tl) (by rw [← HX.out]; exact hp)).mono ?_
          rintro e w2 ⟨rfl, hb2⟩
          rw [show x.val = .agg #[.int .u64 x.k, .int .u64 x.t, .int .i64 x.i] from rfl]
          have hp2 := (hp.below hb2).alloc (.cells #[.int .u64 x.k, .int .u64 x.t, .int .i64 x.i] 36)
          have B2 := Blk.new w2 36 #[.int .u64 x.k, .int .u64 x.t, .int .i64 x.i]
          generalize hwz : w2.alloc (.cells #[.int .u64 x.k, .int .u64 x.t, .int .i64 x.i] 36) = wz at hp2 B2
          clear hp hb2
          obtain ⟨A2, c2, rfl, g1, g2, g3⟩ := hp2.sl
          unfold maxLen at g2
          obtain ⟨bb, oo, rfl, hbb, hcc⟩ := g3 hne
          obtain ⟨f1, f2, f3⟩ := ent_cells hcc hne
          rw [hx0] at f1 f2 f3
          simp only [Nat.zero_mul, Nat.add_zero] at f1 f2 f3
          clear g3 hcc
          have t1 : ∀ p, (Mix.vary wz.drew (fun _ => False) p).cell? ⟨w2.heap.size, 0, none⟩ = some (.int .u64 x.k) := Mix.cell_vary (w := wz.drew) (B2.drew.cell 0) (fun h => h)
          have t2 : ∀ p, (Mix.vary wz.drew (fun _ => False) p).cell? ⟨w2.heap.size, 1, none⟩ = some (.int .u64 x.t) := Mix.cell_vary (w := wz.drew) (B2.drew.cell 1) (fun h => h)
          have t3 : ∀ p, (Mix.vary wz.drew (fun _ => False) p).cell? ⟨w2.heap.size, 2, none⟩ = some (.int .i64 x.i) := Mix.cell_vary (w := wz.drew) (B2.drew.cell 2) (fun h => h)
          have v1 : ∀ p, (Mix.vary wz.drew (fun _ => False) p).cell? ⟨bb, oo, none⟩ = some (.int .u64 x.k) := Mix.cell_vary (w := wz.drew) f1 (fun h => h)
          have v2 : ∀ p, (Mix.vary wz.drew (fun _ => False) p).cell? ⟨bb, oo + 1, none⟩ = some (.int .u64 x.t) := Mix.cell_vary (w := wz.drew) f2 (fun h => h)
          have v3 : ∀ p, (Mix.vary wz.drew (fun _ => False) p).cell? ⟨bb, oo + 2, none⟩ = some (.int .i64 x.i) := Mix.cell_vary (w := wz.drew) f3 (fun h => h)
          go_wp2_with fail
          refine Mix.regionK (fun _ => False) mixed (by kernel_rfl) ?_
          repeat (refine Mix.walk_q rfl ?_; go_big_quiet_step (fail); refine wpQuiet_nil ?_)
          refine Mix.walk_k rfl (fun K hK => ?_)
          go_wp2_with fail
          refine (pLen hp2.drew).mono ?_
          rintro e w3 ⟨rfl, rfl⟩
          go_wp2_with fail
          refine hK.out _ _ (Keep.refl _ _) ?_
          clear hK K
          repeat (refine Mix.walk_q rfl ?_; go_big_quiet_step (fail); refine wpQuiet_nil ?_)
          refine Mix.walk_nil ?_
          clear t1 t2 t3 v1 v2 v3
          have x0 := hp2.old (p := ⟨b, _, none⟩) hbB e0
          have x1 := hp2.old (p := ⟨b, _, none⟩) hbB e1
          have x2 := hp2.old (p := ⟨b, _, none⟩) hbB e2
          have x3 := hp2.old (p := ⟨b, _, none⟩) hbB e3
          have x4 := hp2.old (p := ⟨b, _, none⟩) hbB e4
          by_cases hk0 : kd = 0
          · subst hk0
            have hpu := fun w hp => pPush (W := W) (w := w) (q := W.heap.size) (hs := hs) (xs := hs) (v := .slice (some ⟨bb, oo, none⟩) hs.length c2) hp ⟨ek, et, ei⟩ (by omega)
            have hpt := fun w zs hp => pPut (W := W) (w := w) (q := W.heap.size) (hs := zs) (xs := hs) (v := .slice (some ⟨bb, oo, none⟩) hs.length c2) hp ⟨ek, et, ei⟩ (by omega)
            unfold Ent.val at hpu hpt
            go_wp2_with fail
            refine (hpu _ hp2.drew).mono ?_
            rintro e w3 ⟨rfl, hp3⟩
            clear x0 x1 x2 x3 x4
            have x1 := hp3.old (p := ⟨b, _, none⟩) hbB e1
            have x2 := hp3.old (p := ⟨b, _, none⟩) hbB e2
            have x3 := hp3.old (p := ⟨b, _, none⟩) hbB e3
            go_wp2_with fail
            refine (hpt _ _ hp3).mono ?_
            rintro e w4 ⟨u, rfl, hp4⟩
            clear x1 x2 x3
            go_wp2_with fail
            go_roundw
            case rel => exact ⟨k + 1, _, by omega, by go_num, by rw [put_len]; omega, hp4⟩
            case measure => simp [intOf]; omega
          · by_cases hk1 : kd = 1
            · subst hk1
              clear hk0
              go_wp2_with fail
              refine (pPop (hp2.drew.eq HX.out) (by omega)).mono ?_
              rintro e w3 ⟨rfl, hp3⟩
              clear x0 x1 x2 x3 x4
              rw [show x.val = .agg #[.int .u64 x.k, .int .u64 x.t, .int .i64 x.i] from rfl]
              have hp4 := hp3.alloc (.cells #[.int .u64 x.k, .int .u64 x.t, .int .i64 x.i] 36)
              have B4 := Blk.new w3 36 #[.int .u64 x.k, .int .u64 x.t, .int .i64 x.i]
              generalize hwq : w3.alloc (.cells #[.int .u64 x.k, .int .u64 x.t, .int .i64 x.i] 36) = wq at hp4 B4
              obtain ⟨f1, f2, f3⟩ := sl_head hp4.sl hne hx0
              have t1 : ∀ p, (Mix.vary wq.drew (fun _ => False) p).cell? ⟨w3.heap.size, 0, none⟩ = some (.int .u64 x.k) := Mix.cell_vary (w := wq.drew) (B4.drew.cell 0) (fun h => h)
              have t2 : ∀ p, (Mix.vary wq.drew (fun _ => False) p).cell? ⟨w3.heap.size, 1, none⟩ = some (.int .u64 x.t) := Mix.cell_vary (w := wq.drew) (B4.drew.cell 1) (fun h => h)
              have t3 : ∀ p, (Mix.vary wq.drew (fun _ => False) p).cell? ⟨w3.heap.size, 2, none⟩ = some (.int .i64 x.i) := Mix.cell_vary (w := wq.drew) (B4.drew.cell 2) (fun h => h)
              have v1 : ∀ p, (Mix.vary wq.drew (fun _ => False) p).cell? ⟨bb, oo, none⟩ = some (.int .u64 x.k) := Mix.cell_vary (w := wq.drew) f1 (fun h => h)
              have v2 : ∀ p, (Mix.vary wq.drew (fun _ => False) p).cell? ⟨bb, oo + 1, none⟩ = some (.int .u64 x.t) := Mix.cell_vary (w := wq.drew) f2 (fun h => h)
              have v3 : ∀ p, (Mix.vary wq.drew (fun _ => False) p).cell? ⟨bb, oo + 2, none⟩ = some (.int .i64 x.i) := Mix.cell_vary (w := wq.drew) f3 (fun h => h)
              clear f1 f2 f3
              go_wp2_with fail
              refine Mix.regionK (fun _ => False) mixed (by kernel_rfl) ?_
              repeat (refine Mix.walk_q rfl ?_; go_big_quiet_step (fail); refine wpQuiet_nil ?_)
              refine Mix.walk_k rfl (fun K hK => ?_)
              go_wp2_with fail
              refine hK.out _ _ (Keep.refl _ _) ?_
              clear hK K
              repeat (refine Mix.walk_q rfl ?_; go_big_quiet_step (fail); refine wpQuiet_nil ?_)
              refine Mix.walk_nil ?_
              clear t1 t2 t3 v1 v2 v3
              go_wp2_with fail
              go_roundw
              case rel =>
                refine ⟨k + 1, tl, by omega, by go_num, by omega, ?_⟩
                have h := hp4.drew.cut (m := 1) (by omega) g1
                rw [htl] at h
                exact h
              case measure => simp [intOf]; omega
            · by_cases hk2 : kd = 2
              · subst hk2
                clear hk0 hk1
                obtain ⟨m, hm1, hm2, hm3, hm4⟩ := clip_nat n hs
                go_wp2_with fail
                have z4 : ∀ p, (Mix.vary wz.drew.drew (fun b => W.heap.size ≤ b) p).cell? ⟨b, o + k * 5 + 4, none⟩ = some (.int .i64 n) :=
                  Mix.cell_vary (hp2.drew.drew.old (p := ⟨b, _, none⟩) hbB e4) (fun h => by have : W.heap.size ≤ b := h; omega)
                refine Mix.regionK (fun b => W.heap.size ≤ b) mixed (by kernel_rfl) ?_
                repeat (refine Mix.walk_q rfl ?_; go_big_quiet_step (fail); refine wpQuiet_nil ?_)
                refine Mix.walk_k rfl (fun K hK => ?_)
                go_wp2_with fail
                refine (pDrain hp2.drew.drew n (by omega)).mono ?_
                rintro e w3 ⟨u, rfl, hsu, hp3, hk3⟩
                rw [hm3] at hsu
                rw [hm4] at hp3
                go_wp2_with fail
                refine hK.out _ _ hk3 ?_
                clear hK K
                repeat (refine Mix.walk_q rfl ?_; go_big_quiet_step (fail); refine wpQuiet_nil ?_)
                refine Mix.walk_k rfl (fun K hK => ?_)
                go_wp2_with fail
                refine (rSame _ _ (hs.take m) (hs.take m) _ hsu (hp3.sl.first hm2)).mono ?_
                rintro e w4 ⟨rfl, hb4⟩
                rw [show decide (hs.take m = hs.take m) = true from decide_eq_true rfl]
                have hp4 := hp3.below hb4
                go_wp2_with fail
                refine hK.out _ _ (hk3.step (Keep.of_below hb4 (S := fun _ => False)) (fun _ _ h => h.elim)) ?_
                clear hK K z4 x0 x1 x2 x3 x4 hm3 hm4
                repeat (refine Mix.walk_q rfl ?_; go_big_quiet_step (fail); refine wpQuiet_nil ?_)
                refine Mix.walk_nil ?_
                go_wp2_with fail
                go_roundw
                case rel => exact ⟨k + 1, hs.drop m, by omega, by go_num, by rw [List.length_drop]; omega, hp4.cut hm2 g1⟩
                case measure => simp [intOf]; omega
              · go_wp2_with fail
                go_roundw
                case rel => exact ⟨k + 1, hs, by omega, by go_num, by omega, hp2.drew⟩
                case measure => simp [intOf]; omega
      · obtain ⟨A2, c2, rfl, g1, g2, -⟩ := hp.sl
        unfold maxLen at g2
        go_wp2_with fail
        refine (pDrain hp hs.length (by omega)).mono ?_
        rintro e w2 ⟨u, rfl, hsu, hp2, -⟩
        rw [Int.toNat_natCast, List.take_of_length_le (Nat.le_refl _)] at hsu
        rw [Int.toNat_natCast, List.drop_eq_nil_of_le (Nat.le_refl _)] at hp2
        go_wp2_with fail
        refine (rSame _ _ hs hs _ hsu hp2.sl).mono ?_
        rintro e w3 ⟨rfl, hb3⟩
        rw [show decide (hs = hs) = true from decide_eq_true rfl]
        have hp3 := hp2.below hb3
        go_wp2_with fail
        refine (pLen hp3).mono ?_
        rintro e w4 ⟨rfl, rfl⟩
        go_wp2_with fail
        refine (known _).mono ?_
        rintro e w5 ⟨rfl, hb5⟩
        go_wp2_with fail
        go_ret
        exact ⟨rfl, belowStep hp3.all hp3.all.size hb5⟩
end Go.Proofs.Ythognfmmjkmjnaa
