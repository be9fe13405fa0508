/- The reference's words on rows of entries: Same, Put, Sort. -/
import Derived.Test.YthognfmmjkmjnaaQa
namespace Go.Proofs.Ythognfmmjkmjnaa
open Go.RowKit

/-- The three cells of an element, where the element is there. -/
theorem ent_cells {w : World} {b o k : Nat} {xs : List Ent} (h : ∀ i x, xs[i]? = some x → ∀ j u, (Ent.cells x)[j]? = some u → w.cell? ⟨b, o + i * 3 + j, none⟩ = some u) (hk : k < xs.length) :
    w.cell? ⟨b, o + k * 3, none⟩ = some (.int .u64 xs[k].k) ∧ w.cell? ⟨b, o + k * 3 + 1, none⟩ = some (.int .u64 xs[k].t) ∧ w.cell? ⟨b, o + k * 3 + 2, none⟩ = some (.int .i64 xs[k].i) :=
  ⟨h k _ (List.getElem?_eq_getElem hk) 0 _ rfl, h k _ (List.getElem?_eq_getElem hk) 1 _ rfl, h k _ (List.getElem?_eq_getElem hk) 2 _ rfl⟩

theorem entEq (x y : Ent) (w : World) : (Op.equalIn 10000 36 (.agg #[.int .u64 x.k, .int .u64 x.t, .int .i64 x.i]) (.agg #[.int .u64 y.k, .int .u64 y.t, .int .i64 y.i])).run Try.prog w = .ok (decide (x = y)) w := by
  obtain ⟨a, b, c⟩ := x
  obtain ⟨a', b', c'⟩ := y
  have hS : Try.prog.underlying 36 = some (.struct (Try.prog.fieldsOf 36)) := by kernel_rfl
  have hp : Try.prog.stoodInHeld 36 = false := by kernel_rfl
  rw [show (10000 : Nat) = 9999 + 1 from rfl, run_equalIn_agg w 9999 36 _ _ hS hp]
  simp only [Program.fieldsOf, Try.underlying36]
  go_simp
  by_cases h1 : a = a' <;> by_cases h2 : b = b' <;> by_cases h3 : c = c' <;> simp [h1, h2, h3]
theorem entGuard (op : BinOp) (x y : Operand) (xs ys : Array Value) (w : World) : (eqGuard op 36 x y (.agg xs) (.agg ys)).run Try.prog w = .ok () w := run_eqGuard_agg w op _ x y xs ys (by kernel_rfl)
theorem entNe (x y : Ent) (w : World) : (binOp .neq 36 (.agg #[.int .u64 x.k, .int .u64 x.t, .int .i64 x.i]) (.agg #[.int .u64 y.k, .int .u64 y.t, .int .i64 y.i])).run Try.prog w = .ok (.bool (!decide (x = y))) w := by
  rw [run_neq_struct, entEq]; rfl
theorem entIs (x y : Ent) (w : World) : (binOp .eql 36 (.agg #[.int .u64 x.k, .int .u64 x.t, .int .i64 x.i]) (.agg #[.int .u64 y.k, .int .u64 y.t, .int .i64 y.i])).run Try.prog w = .ok (.bool (decide (x = y))) w := by
  rw [run_eql_struct, entEq]; rfl
attribute [local go_sem high] entNe entIs entGuard

set_option maxHeartbeats 800000 in
theorem rSame (va vb : Value) (xs ys : List Ent) (w : World) (ha : Sl w w.heap.size 3 Ent.cells va xs) (hb : Sl w w.heap.size 3 Ent.cells vb ys) :
    Calls Try.prog 30 #[va, vb] w fun e w' => e = .returned (.bool (decide (xs = ys))) ∧ Below w.heap.size w w' := by
  obtain ⟨A, c, rfl, hc1, hc2, hc3⟩ := ha
  obtain ⟨A', c', rfl, hc1', hc2', hc3'⟩ := hb
  unfold maxLen at hc2 hc2'
  by_cases hl : xs.length = ys.length
  · have hl' : (((xs.length : Nat) : Int) != ((ys.length : Nat) : Int)) = false := by simp [hl]
    have HL := hide hl
    clear hl
    go_enter Try.func30, Try.ntmps30
    go_wp2
    go_loopw [5] (fun i wr => ∃ k : Nat, k ≤ xs.length ∧ i = .int .i64 k ∧ Hid (xs.take k = ys.take k) ∧ Below w.heap.size w wr) (fun i _ => xs.length - (intOf i).toNat)
    case atStart => exact ⟨0, Nat.zero_le _, rfl, rfl, Below.refl _ _⟩
    case round =>
      obtain ⟨k, hk, rfl, htk, hbl⟩ := hrel
      by_cases hlt : k < xs.length
      · obtain ⟨b, o, rfl, hbB, hcell⟩ := hc3 (by omega)
        obtain ⟨b', o', rfl, hbB', hcell'⟩ := hc3' (by rw [← HL.out]; omega)
        have hlt' : k < ys.length := by rw [← HL.out]; exact hlt
        obtain ⟨e1, e2, e3⟩ := ent_cells hcell hlt
        obtain ⟨f1, f2, f3⟩ := ent_cells hcell' hlt'
        have x1 := (hbl.cell (p := ⟨b, _, none⟩) hbB).trans e1
        have x2 := (hbl.cell (p := ⟨b, _, none⟩) hbB).trans e2
        have x3 := (hbl.cell (p := ⟨b, _, none⟩) hbB).trans e3
        have y1 := (hbl.cell (p := ⟨b', _, none⟩) hbB').trans f1
        have y2 := (hbl.cell (p := ⟨b', _, none⟩) hbB').trans f2
        have y3 := (hbl.cell (p := ⟨b', _, none⟩) hbB').trans f3
        clear e1 e2 e3 f1 f2 f3 hcell hcell'
        have hts : Hid (xs[k] = ys[k] → xs.take (k + 1) = ys.take (k + 1)) := fun h => by
          rw [List.take_succ_eq_append_getElem hlt, List.take_succ_eq_append_getElem hlt', htk.out, h]
        have htn : Hid (¬ xs[k] = ys[k] → ¬ xs = ys) := fun h h' => by subst h'; exact h rfl
        by_cases hxy : xs[k] = ys[k]
        · have hd : decide (xs[k] = ys[k]) = true := by simpa using hxy
          have HX := hide hxy
          clear hxy hc3 hc3'
          go_wp2
          refine Mix.region mixed (by kernel_rfl) ?_
          repeat (refine Mix.walk_q rfl ?_; go_big_quiet_step (fail); refine wpQuiet_nil ?_)
          refine Mix.walk_nil ?_
          go_wp2
          go_roundw
          case rel => exact ⟨k + 1, by omega, by go_num, hts.out HX.out, hbl.drew⟩
          case measure => simp [intOf]; omega
        · have hd : decide (xs[k] = ys[k]) = false := by simpa using hxy
          have HX := hide hxy
          clear hxy hc3 hc3'
          go_wp2
          refine Mix.region mixed (by kernel_rfl) ?_
          repeat (refine Mix.walk_q rfl ?_; go_big_quiet_step (fail); refine wpQuiet_nil ?_)
          refine Mix.walk_nil ?_
          go_wp2
          go_ret
          exact ⟨ret_bool (by simpa using htn.out HX.out), hbl.drew⟩
      · go_wp2
        go_ret
        refine ⟨ret_bool ?_, hbl⟩
        have hkn : k = xs.length := by omega
        have h1 := htk.out
        rw [hkn, List.take_length, HL.out, List.take_length] at h1
        simpa using h1
  · have hl' : (((xs.length : Nat) : Int) != ((ys.length : Nat) : Int)) = true := by simp; omega
    have hne : Hid (¬ xs = ys) := fun h => hl (by rw [h])
    clear hl
    go_enter Try.func30, Try.ntmps30
    go_wp2
    go_ret
    exact ⟨ret_bool (by simpa using hne.out), Below.refl _ _⟩

theorem entElt : Elt Try.prog 49 36 3 24 := elt_of Try.underlying49 (z := .agg #[.int .u64 0, .int .u64 0, .int .i64 0]) (by kernel_rfl) rfl
theorem ent_len (y : Ent) : (Ent.cells y).length = 3 ∧ ∀ u ∈ Ent.cells y, u.oneCell' = true := ⟨rfl, by intro u hu; simp [Ent.cells] at hu; rcases hu with rfl | rfl | rfl <;> rfl⟩

/-- What a call hands back: a slice that reads as xs; nothing that was there has turned. -/
def RetSl {α : Type} (w : World) (sz : Nat) (enc : α → List Value) (xs : List α) (e : Ending) (w' : World) : Prop :=
  ∃ v, e = .returned v ∧ Sl w' w'.heap.size sz enc v xs ∧ Below w.heap.size w w'

/-- .. that leads into new memory alone. -/
def RetNew {α : Type} (w : World) (sz : Nat) (enc : α → List Value) (xs : List α) (e : Ending) (w' : World) : Prop :=
  ∃ v, e = .returned v ∧ Sl w' w'.heap.size sz enc v xs ∧ Below w.heap.size w w' ∧ ∀ b o l c, v = .slice (some ⟨b, o, none⟩) l c → w.heap.size ≤ b ∧ b < w'.heap.size
theorem own_new {α : Type} {w : World} {base B sz : Nat} {e : TypeId} {enc : α → List Value} {v : Value} {xs : List α} (h : Own w base e sz enc v xs) (hB : B ≤ base) : ∀ b o l c, v = .slice (some ⟨b, o, none⟩) l c → B ≤ b ∧ b < w.heap.size := by
  rintro b o l c rfl
  exact ⟨Nat.le_trans hB (h.lt b rfl).1, (h.lt b rfl).2⟩

set_option maxHeartbeats 1600000 in
theorem rPutNew (v : Value) (xs : List Ent) (y : Ent) (w : World) (hs : Sl w w.heap.size 3 Ent.cells v xs) (hn : xs.length ≤ 1000000) :
    Calls Try.prog 28 #[v, y.val] w (RetNew w 3 Ent.cells (put xs y)) := by
  obtain ⟨A, c, rfl, hc1, hc2, hc3⟩ := hs
  unfold maxLen at hc2
  unfold Ent.val
  go_enter Try.func28, Try.ntmps28
  go_wp2
  have HB := Blk.new w 36 #[.int .u64 y.k, .int .u64 y.t, .int .i64 y.i]
  have hnx0 : Below w.heap.size w (w.alloc (.cells #[.int .u64 y.k, .int .u64 y.t, .int .i64 y.i] 36)) := (Below.refl _ _).alloc (Nat.le_refl _) _
  go_loopw [5, 6, 7] (fun vo vd i wr => ∃ (k : Nat) (out : List Ent) (d : Bool), k ≤ xs.length ∧ i = .int .i64 k ∧ vd = .bool d ∧ out.length ≤ k + (if d then 1 else 0) ∧ Own wr (w.heap.size + 1) 36 3 Ent.cells vo out ∧
      Hid (out ++ (if d then xs.drop k else put (xs.drop k) y) = put xs y) ∧ Below w.heap.size w wr ∧ w.heap.size + 1 ≤ wr.heap.size ∧ Blk wr w.heap.size 36 #[.int .u64 y.k, .int .u64 y.t, .int .i64 y.i])
    (fun _ _ i _ => xs.length - (intOf i).toNat)
  case atStart => exact ⟨0, [], false, Nat.zero_le _, rfl, rfl, by simp, Own.nil, by simp [Hid], hnx0, by simp, HB⟩
  case round =>
    clear HB hnx0
    obtain ⟨k, out, d, hk, rfl, rfl, hol, hown, hput, hbl, hwz, HB⟩ := hrel
    by_cases hlt : k < xs.length
    · obtain ⟨b, o, rfl, hbB, hcell⟩ := hc3 (by omega)
      obtain ⟨e1, e2, e3⟩ := ent_cells hcell hlt
      have x1 := (hbl.cell (p := ⟨b, _, none⟩) hbB).trans e1
      have x2 := (hbl.cell (p := ⟨b, _, none⟩) hbB).trans e2
      have x3 := (hbl.cell (p := ⟨b, _, none⟩) hbB).trans e3
      have b1 := HB.cell 0
      have b2 := HB.cell 1
      have b3 := HB.cell 2
      simp at b1 b2 b3
      have X1 := hide e1
      have X2 := hide e2
      have X3 := hide e3
      clear e1 e2 e3 hcell hc3
      cases d with
      | true =>
        rw [if_pos rfl] at hol
        have hnext : Hid ((out ++ [xs[k]]) ++ (if true then xs.drop (k + 1) else put (xs.drop (k + 1)) y) = put xs y) := by
          have := hput.out
          rw [if_pos rfl, List.drop_eq_getElem_cons hlt] at this
          rw [if_pos rfl, List.append_assoc]
          exact this
        go_wp2
        refine Mix.region mixed (by kernel_rfl) ?_
        repeat (refine Mix.walk_q rfl ?_; go_big_quiet_step (fail); refine wpQuiet_nil ?_)
        refine Mix.walk_e rfl (fun K hK => ?_)
        go_wp2_with fail
        refine hK.out _ _ ?_
        clear hK K
        repeat (refine Mix.walk_q rfl ?_; go_big_quiet_step (fail); refine wpQuiet_nil ?_)
        refine Mix.walk_nil ?_
        go_wp2_with (at_builtin; refine wpList_push _ rfl (.tmp 28) (.tmp 33) _ rfl entElt (by decide) ent_len (w.heap.size + 1) u5 out rfl (hown.drew.alloc _) wr.heap.size xs[k] rfl (Blk.new _ _ _) (by omega) (by unfold maxLen; omega) (by simp; omega) ?_; intro v' w1 hown1 hg1 hat1)
        have hG := grown_of_alloc (grown_of_drew hg1)
        refine Stop.go ?_
        go_wp2
        go_roundw
        case rel => exact ⟨k + 1, out ++ [xs[k]], true, by omega, by go_num, rfl, by simp; omega, hown1, hnext.out, belowPush hbl hown hG (by omega) (by omega), Nat.le_trans hwz hG.size, blkPush HB hown hG (by omega)⟩
        case measure => simp [intOf]; omega
      | false =>
        rw [if_neg (by simp)] at hol
        cases hxy : y.lt xs[k] with
        | true =>
          have hnext : Hid ((out ++ [y] ++ [xs[k]]) ++ (if true then xs.drop (k + 1) else put (xs.drop (k + 1)) y) = put xs y) := by
            have := hput.out
            rw [if_neg (by simp), List.drop_eq_getElem_cons hlt, put, if_pos hxy] at this
            rw [if_pos rfl]
            refine hide ?_
            simpa using this
          go_wp2
          refine Mix.region mixed (by kernel_rfl) ?_
          repeat (refine Mix.walk_q rfl ?_; go_big_quiet_step (fail); refine wpQuiet_nil ?_)
          refine Mix.walk_e rfl (fun K hK => ?_)
          go_wp2_with fail
          refine (rLess y xs[k] _).mono ?_
          rintro e w2 ⟨rfl, hb2⟩
          have hb2 := undrew hb2
          have hbl2 := belowStep hbl (by omega) hb2
          have hown2 := hown.below hb2
          have HB2 := HB.below hb2 HB.lt
          have hwz2 : w.heap.size + 1 ≤ w2.heap.size := Nat.le_trans hwz hb2.size
          have x1 := (hbl2.cell (p := ⟨b, _, none⟩) hbB).trans X1.out
          have x2 := (hbl2.cell (p := ⟨b, _, none⟩) hbB).trans X2.out
          have x3 := (hbl2.cell (p := ⟨b, _, none⟩) hbB).trans X3.out
          have b1 := HB2.cell 0
          have b2 := HB2.cell 1
          have b3 := HB2.cell 2
          simp at b1 b2 b3
          clear hb2 hbl hown HB
          go_wp2_with fail
          refine hK.out _ _ ?_
          clear hK K
          repeat (refine Mix.walk_q rfl ?_; go_big_quiet_step (fail); refine wpQuiet_nil ?_)
          refine Mix.walk_nil ?_
          go_wp2_with (at_builtin; refine wpList_push _ rfl (.tmp 24) (.tmp 26) _ rfl entElt (by decide) ent_len (w.heap.size + 1) u5 out rfl (hown2.alloc _) w2.heap.size y rfl (Blk.new _ _ _) (by omega) (by unfold maxLen; omega) (by simp; omega) ?_; intro v' w3 hown3 hg3 hat3)
          have hG3 := grown_of_alloc hg3
          have hbl3 := belowPush hbl2 hown2 hG3 (by omega) (by omega)
          have HB3 := blkPush HB2 hown2 hG3 (by omega)
          have hwz3 := Nat.le_trans hwz2 hG3.size
          clear x1 x2 x3 b1 b2 b3 hg3 hat3 hbl2 HB2 hwz2
          have x1 := (hbl3.cell (p := ⟨b, _, none⟩) hbB).trans X1.out
          have x2 := (hbl3.cell (p := ⟨b, _, none⟩) hbB).trans X2.out
          have x3 := (hbl3.cell (p := ⟨b, _, none⟩) hbB).trans X3.out
          refine Stop.go ?_
          go_wp2_with (at_builtin; refine wpList_push _ rfl (.tmp 28) (.tmp 33) _ rfl entElt (by decide) ent_len (w.heap.size + 1) v' (out ++ [y]) rfl (hown3.alloc _) w3.heap.size xs[k] rfl (Blk.new _ _ _) (by first | omega | (simp; omega)) (by unfold maxLen; first | omega | (simp; omega)) (by first | omega | (simp; omega)) ?_; intro v'' w4 hown4 hg4 hat4)
          have hG4 := grown_of_alloc hg4
          refine Stop.go ?_
          go_wp2
          go_roundw
          case rel => exact ⟨k + 1, out ++ [y] ++ [xs[k]], true, by omega, by go_num, rfl, by simp; omega, hown4, hnext.out, belowPush hbl3 hown3 hG4 (by omega) (by omega), Nat.le_trans hwz3 hG4.size, blkPush HB3 hown3 hG4 (by omega)⟩
          case measure => simp [intOf]; omega
        | false =>
          have hnext : Hid ((out ++ [xs[k]]) ++ (if false then xs.drop (k + 1) else put (xs.drop (k + 1)) y) = put xs y) := by
            have := hput.out
            rw [if_neg (by simp), List.drop_eq_getElem_cons hlt, put, if_neg (by simp [hxy])] at this
            rw [if_neg (by simp), List.append_assoc]
            exact this
          go_wp2
          refine Mix.region mixed (by kernel_rfl) ?_
          repeat (refine Mix.walk_q rfl ?_; go_big_quiet_step (fail); refine wpQuiet_nil ?_)
          refine Mix.walk_e rfl (fun K hK => ?_)
          go_wp2_with fail
          refine (rLess y xs[k] _).mono ?_
          rintro e w2 ⟨rfl, hb2⟩
          have hb2 := undrew hb2
          have hbl2 := belowStep hbl (by omega) hb2
          have hown2 := hown.below hb2
          have HB2 := HB.below hb2 HB.lt
          have hwz2 : w.heap.size + 1 ≤ w2.heap.size := Nat.le_trans hwz hb2.size
          clear hb2 hbl hown HB x1 x2 x3 b1 b2 b3
          have x1 := (hbl2.cell (p := ⟨b, _, none⟩) hbB).trans X1.out
          have x2 := (hbl2.cell (p := ⟨b, _, none⟩) hbB).trans X2.out
          have x3 := (hbl2.cell (p := ⟨b, _, none⟩) hbB).trans X3.out
          go_wp2_with fail
          refine hK.out _ _ ?_
          clear hK K
          repeat (refine Mix.walk_q rfl ?_; go_big_quiet_step (fail); refine wpQuiet_nil ?_)
          refine Mix.walk_nil ?_
          go_wp2_with (at_builtin; refine wpList_push _ rfl (.tmp 28) (.tmp 33) _ rfl entElt (by decide) ent_len (w.heap.size + 1) u5 out rfl (hown2.alloc _) w2.heap.size xs[k] rfl (Blk.new _ _ _) (by first | omega | (simp; omega)) (by unfold maxLen; first | omega | (simp; omega)) (by first | omega | (simp; omega)) ?_; intro v' w3 hown3 hg3 hat3)
          have hG3 := grown_of_alloc hg3
          refine Stop.go ?_
          go_wp2
          go_roundw
          case rel => exact ⟨k + 1, out ++ [xs[k]], false, by omega, by go_num, rfl, by simp; omega, hown3, hnext.out, belowPush hbl2 hown2 hG3 (by omega) (by omega), Nat.le_trans hwz2 hG3.size, blkPush HB2 hown2 hG3 (by omega)⟩
          case measure => simp [intOf]; omega
    · cases d with
      | true =>
        rw [if_pos rfl] at hol
        have hfin : Hid (out = put xs y) := by
          have := hput.out
          rw [if_pos rfl, List.drop_eq_nil_of_le (by omega), List.append_nil] at this
          exact this
        go_wp2
        go_ret
        exact ⟨_, rfl, by rw [← hfin.out]; exact hown.sl fun y => (ent_len y).1, hbl, own_new hown (by omega)⟩
      | false =>
        rw [if_neg (by simp)] at hol
        have hfin : Hid (out ++ [y] = put xs y) := by
          have := hput.out
          rw [if_neg (by simp), List.drop_eq_nil_of_le (by omega)] at this
          exact this
        have b1 := HB.cell 0
        have b2 := HB.cell 1
        have b3 := HB.cell 2
        simp at b1 b2 b3
        go_wp2_with (at_builtin; refine wpList_push _ rfl (.tmp 37) (.tmp 39) _ rfl entElt (by decide) ent_len (w.heap.size + 1) u5 out rfl (hown.alloc _) wr.heap.size y rfl (Blk.new _ _ _) (by first | omega | (simp; omega)) (by unfold maxLen; first | omega | (simp; omega)) (by first | omega | (simp; omega)) ?_; intro v' w3 hown3 hg3 hat3)
        have hG3 := grown_of_alloc hg3
        refine Stop.go ?_
        go_wp2
        go_ret
        exact ⟨_, rfl, by rw [← hfin.out]; exact hown3.sl fun y => (ent_len y).1, belowPush hbl hown hG3 (by omega) (by omega), own_new hown3 (by omega)⟩
theorem rPut (v : Value) (xs : List Ent) (y : Ent) (w : World) (hs : Sl w w.heap.size 3 Ent.cells v xs) (hn : xs.length ≤ 1000000) :
    Calls Try.prog 28 #[v, y.val] w (RetSl w 3 Ent.cells (put xs y)) :=
  (rPutNew v xs y w hs hn).mono fun e w' ⟨v, h1, h2, h3, _⟩ => ⟨v, h1, h2, h3⟩
end Go.Proofs.Ythognfmmjkmjnaa
