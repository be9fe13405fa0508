/- The laws of the queue about rows: QueueSorts, QueueTurned. -/
import Derived.Test.YthognfmmjkmjnaaQg
namespace Go.Proofs.Ythognfmmjkmjnaa
open Go.RowKit Go.ChangeShapes Go.WideShapes

set_option maxHeartbeats 3200000 in
theorem lawSorts (v : Value) (xs : List Ent) (W : World) (hs : Sl W W.heap.size 3 Ent.cells v xs) : Calls Try.prog 8 #[v] W (Yes W) := by
  have hs0 := hs
  obtain ⟨A, c, rfl, hc1, hc2, hc3⟩ := hs
  have hc2' := hc2
  unfold maxLen at hc2'
  by_cases hbig : 300 < xs.length
  · go_enter Try.func8, Try.ntmps8
    go_wp2_with fail
    refine (known _).mono ?_
    rintro e w8 ⟨rfl, hb8⟩
    go_wp2_with fail
    go_ret
    exact ⟨rfl, hb8⟩
  · go_enter Try.func8, Try.ntmps8
    go_wp2
    go_loopw [3, 4] (fun vo i wr => ∃ k : Nat, k ≤ xs.length ∧ i = .int .i64 k ∧ Own wr W.heap.size 36 3 Ent.cells vo (xs.take k) ∧ Below W.heap.size W wr ∧ W.heap.size ≤ wr.heap.size)
      (fun _ i _ => xs.length - (intOf i).toNat)
    case atStart => exact ⟨0, Nat.zero_le _, rfl, by simpa using Own.nil, Below.refl _ _, Nat.le_refl _⟩
    case round =>
      obtain ⟨k, hk, rfl, hown, hbl, hwz⟩ := hrel
      by_cases hlt : k < xs.length
      · obtain ⟨b, o, rfl, hbB, hcell⟩ := hc3 (by omega)
        obtain ⟨e1, e2, e3⟩ := ent_cells hcell hlt
        have x1 := (hbl.cell (p := ⟨b, _, none⟩) hbB).trans e1
        have x2 := (hbl.cell (p := ⟨b, _, none⟩) hbB).trans e2
        have x3 := (hbl.cell (p := ⟨b, _, none⟩) hbB).trans e3
        clear e1 e2 e3 hcell hc3
        have hlen : (xs.take k).length = k := by rw [List.length_take]; omega
        have hnext : Hid (xs.take k ++ [xs[k]] = xs.take (k + 1)) := by rw [List.take_succ_eq_append_getElem hlt]; exact rfl
        generalize hT : xs.take k = T at hown hlen hnext
        go_wp2_with (at_builtin; refine wpList_push _ rfl (.tmp 17) (.tmp 22) _ rfl entElt (by decide) ent_len W.heap.size u3 T rfl (hown.alloc _) wr.heap.size xs[k] rfl (Blk.new _ _ _) (by omega) (by unfold maxLen; omega) (by simp; omega) ?_; intro v' w1 hown1 hg1 hat1)
        have hG := grown_of_alloc hg1
        refine Stop.go ?_
        go_wp2
        go_roundw
        case rel =>
          rw [hnext.out] at hown1
          exact ⟨k + 1, by omega, by go_num, hown1, belowPush hbl hown hG (by omega) hwz, Nat.le_trans hwz hG.size⟩
        case measure => simp [intOf]; omega
      · have hall : xs.take k = xs := List.take_of_length_le (by omega)
        rw [hall] at hown
        clear hall
        have hwas := hown.sl (fun y => (ent_len y).1)
        have hs1 := (hs0.below hbl).more hwz
        go_wp2_with fail
        refine (qSort _ xs _ hs1 (by omega)).mono ?_
        rintro e w2 ⟨v2, rfl, hs2, hb2⟩
        have hb2' := belowStep hbl hwz hb2
        have hwas2 := (hwas.below hb2).more hb2.size
        have hs02 := (hs0.below hb2').more hb2'.size
        have hs2' := hs2
        have hnl : xs.length ≤ 300 := by omega
        have hnl' : (sort xs).length ≤ 300 := by have := (sort_perm xs).length_eq; omega
        obtain ⟨A2, c2, rfl, hd1, hd2, hd3⟩ := hs2
        have hd2' := hd2
        unfold maxLen at hd2'
        clear hwas hs1 hs0 hb2 hc3 hown hbl hwz
        go_wp2
        go_loopw [6] (fun i wr => ∃ k : Nat, 1 ≤ k ∧ k ≤ (sort xs).length + 1 ∧ i = .int .i64 k ∧ Below w2.heap.size w2 wr)
          (fun i _ => (sort xs).length - (intOf i).toNat)
        case atStart => exact ⟨1, Nat.le_refl _, by omega, rfl, Below.refl _ _⟩
        case round =>
          obtain ⟨k, hk1, hk, rfl, hbl⟩ := hrel
          by_cases hlt : k < (sort xs).length
          · obtain ⟨b, o, rfl, hbB, hcell⟩ := hd3 (by omega)
            obtain ⟨j, rfl⟩ : ∃ j, k = j + 1 := ⟨k - 1, by omega⟩
            obtain ⟨e1, e2, e3⟩ := ent_cells hcell hlt
            obtain ⟨f1, f2, f3⟩ := ent_cells hcell (show j < (sort xs).length by omega)
            have x1 := (hbl.cell (p := ⟨b, _, none⟩) hbB).trans e1
            have x2 := (hbl.cell (p := ⟨b, _, none⟩) hbB).trans e2
            have x3 := (hbl.cell (p := ⟨b, _, none⟩) hbB).trans e3
            have y1 := (hbl.cell (p := ⟨b, _, none⟩) hbB).trans f1
            have y2 := (hbl.cell (p := ⟨b, _, none⟩) hbB).trans f2
            have y3 := (hbl.cell (p := ⟨b, _, none⟩) hbB).trans f3
            clear e1 e2 e3 f1 f2 f3 hcell hd3
            have hord : Hid ((sort xs)[j + 1].lt (sort xs)[j] = false) := by
              have := sort_srt xs
              unfold Srt at this
              rw [List.pairwise_iff_getElem] at this
              exact this j (j + 1) _ hlt (by omega)
            have hl := qLess (sort xs)[j + 1] (sort xs)[j]
            unfold Ent.val at hl
            go_wp2
            refine Mix.region mixed (by kernel_rfl) ?_
            repeat (refine Mix.walk_q rfl ?_; go_big_quiet_step (fail); refine wpQuiet_nil ?_)
            refine Mix.walk_e rfl (fun K hK => ?_)
            go_wp2_with fail
            refine (hl _).mono ?_
            rintro e w3 ⟨rfl, hb3⟩
            have hbl3 := belowStep hbl hbl.size (undrew hb3)
            rw [hord.out]
            clear x1 x2 x3 y1 y2 y3
            go_wp2_with fail
            refine hK.out _ _ ?_
            clear hK K
            refine Mix.walk_nil ?_
            go_wp2
            go_roundw
            case rel => exact ⟨j + 1 + 1, by omega, by omega, by go_num, hbl3⟩
            case measure => simp [intOf]; omega
          · have hs03 := (hs02.below hbl).more hbl.size
            have hbl3 := belowStep hb2' hb2'.size hbl
            go_wp2_with fail
            refine (rSort _ xs _ hs03 (by omega)).mono ?_
            rintro e w4 ⟨v4, rfl, hs4, hb4⟩
            have hbl4 := belowStep hbl3 hbl3.size hb4
            go_wp2_with fail
            refine (rSame _ _ (sort xs) (sort xs) _ ((hs2'.below (belowStep hbl hbl.size hb4)).more (belowStep hbl hbl.size hb4).size) hs4).mono ?_
            rintro e w5 ⟨rfl, hb5⟩
            rw [show decide (sort xs = sort xs) = true from decide_eq_true rfl]
            have hbl5 := belowStep hbl4 hbl4.size hb5
            have hb25 := belowStep (belowStep hbl hbl.size hb4) (belowStep hbl hbl.size hb4).size hb5
            go_wp2_with fail
            refine (rSame _ _ xs xs _ ((hs02.below hb25).more hb25.size) ((hwas2.below hb25).more hb25.size)).mono ?_
            rintro e w6 ⟨rfl, hb6⟩
            rw [show decide (xs = xs) = true from decide_eq_true rfl]
            have hbl6 := belowStep hbl5 hbl5.size hb6
            go_wp2_with fail
            refine (known _).mono ?_
            rintro e w7 ⟨rfl, hb7⟩
            have hbl7 := belowStep hbl6 hbl6.size hb7
            go_wp2_with fail
            go_ret
            exact ⟨rfl, hbl7⟩

set_option maxHeartbeats 3200000 in
theorem lawTurnedKnown (A : Option Addr) (L c : Nat) (z : Int) (W : World) (hL : L ≤ maxLen) (hf : Fits .i64 z) (h : 300 < L ∨ z < 0 ∨ (L : Int) < z) : Calls Try.prog 9 #[.slice A L c, .int .i64 z] W (Yes W) := by
  unfold maxLen at hL
  by_cases hbig : 300 < L
  · go_enter Try.func9, Try.ntmps9
    go_wp2_with fail
    refine (known _).mono ?_
    rintro e w8 ⟨rfl, hb8⟩
    go_wp2_with fail
    go_ret
    exact ⟨rfl, hb8⟩
  · by_cases hz : z < 0
    · clear h
      go_enter Try.func9, Try.ntmps9
      go_wp2_with fail
      refine (known _).mono ?_
      rintro e w8 ⟨rfl, hb8⟩
      go_wp2_with fail
      go_ret
      exact ⟨rfl, hb8⟩
    · have hzL : (L : Int) < z := by omega
      clear h
      go_enter Try.func9, Try.ntmps9
      go_wp2_with fail
      refine (known _).mono ?_
      rintro e w8 ⟨rfl, hb8⟩
      go_wp2_with fail
      go_ret
      exact ⟨rfl, hb8⟩

set_option maxHeartbeats 3200000 in
theorem lawTurned (v : Value) (xs : List Ent) (n : Nat) (W : World) (hs : Sl W W.heap.size 3 Ent.cells v xs) (hn : xs.length ≤ 300) (hat : n ≤ xs.length) : Calls Try.prog 9 #[v, .int .i64 n] W (Yes W) := by
  have hs0 := hs
  obtain ⟨A, c, rfl, hc1, hc2, hc3⟩ := hs
  have hc2' := hc2
  unfold maxLen at hc2'
  have hd1 : decide (xs.length < n) = false := by simp; omega
  have hd2 : decide ((300 : Int) < (xs.length : Int)) = false := by simp; omega
  have hd3 : decide ((n : Int) < 0) = false := by simp
  go_enter Try.func9, Try.ntmps9
  go_wp2
  clear hd1 hd2 hd3
  go_loopw [5, 6] (fun vo i wr => ∃ (k : Nat) (z : Int), n ≤ k ∧ k ≤ xs.length ∧ i = .int .i64 z ∧ z = (k : Int) - 1 ∧ Own wr W.heap.size 36 3 Ent.cells vo (xs.drop k).reverse ∧ Below W.heap.size W wr ∧ W.heap.size ≤ wr.heap.size)
    (fun _ i _ => (intOf i + 1).toNat)
  case atStart => exact ⟨xs.length, _, hat, Nat.le_refl _, rfl, rfl, by simpa using Own.nil, Below.refl _ _, Nat.le_refl _⟩
  case round =>
    obtain ⟨k, z, hk1, hk2, rfl, hz, hown, hbl, hwz⟩ := hrel
    by_cases hlt : n < k
    · obtain ⟨j, rfl⟩ : ∃ j, k = j + 1 := ⟨k - 1, by omega⟩
      obtain rfl : z = (j : Int) := by omega
      clear hz
      obtain ⟨b, o, rfl, hbB, hcell⟩ := hc3 (by omega)
      obtain ⟨e1, e2, e3⟩ := ent_cells hcell (show j < xs.length by omega)
      have x1 := (hbl.cell (p := ⟨b, _, none⟩) hbB).trans e1
      have x2 := (hbl.cell (p := ⟨b, _, none⟩) hbB).trans e2
      have x3 := (hbl.cell (p := ⟨b, _, none⟩) hbB).trans e3
      clear e1 e2 e3 hcell hc3
      have hlen : (xs.drop (j + 1)).reverse.length = xs.length - (j + 1) := by simp
      have hnext : Hid ((xs.drop (j + 1)).reverse ++ [xs[j]'(by omega)] = (xs.drop j).reverse) := by
        rw [List.drop_eq_getElem_cons (show j < xs.length by omega), List.reverse_cons]; exact rfl
      generalize hT : (xs.drop (j + 1)).reverse = T at hown hlen hnext
      go_wp2_with (at_builtin; refine wpList_push _ rfl (.tmp 30) (.tmp 35) _ rfl entElt (by decide) ent_len W.heap.size u5 T rfl (hown.alloc _) wr.heap.size (xs[j]'(by omega)) rfl (Blk.new _ _ _) (by omega) (by unfold maxLen; omega) (by simp; omega) ?_; intro v' w1 hown1 hg1 hat1)
      have hG := grown_of_alloc hg1
      refine Stop.go ?_
      go_wp2
      go_roundw
      case rel =>
        rw [hnext.out] at hown1
        exact ⟨j, _, by omega, by omega, rfl, by go_num, hown1, belowPush hbl hown hG (by omega) hwz, Nat.le_trans hwz hG.size⟩
      case measure => simp [intOf]
    · obtain rfl : k = n := by omega
      subst hz
      have hlow : (((k : Nat) : Int) - 1 < (k : Int)) := by omega
      have hd4 : decide ((k : Int) ≤ (k : Int) - 1) = false := by rw [decide_eq_false_iff_not]; omega
      go_wp2
      clear hd4 hlow
      generalize hR : (xs.drop k).reverse = R at hown
      have hRlen : Hid (R.length = xs.length - k) := by rw [← hR]; exact hide (by simp)
      have hR' := hide hR
      clear hR
      go_loopw [5, 7] (fun vo i wq => ∃ j : Nat, j ≤ k ∧ i = .int .i64 j ∧ Own wq W.heap.size 36 3 Ent.cells vo (R ++ xs.take j) ∧ Below W.heap.size W wq ∧ W.heap.size ≤ wq.heap.size)
        (fun _ i _ => k - (intOf i).toNat)
      case atStart => exact ⟨0, by omega, rfl, by simpa using hown, hbl, hwz⟩
      case round =>
        clear hown hbl hwz
        obtain ⟨j, hj, rfl, hown, hbl, hwz⟩ := hrel
        by_cases hlt : j < k
        · obtain ⟨b, o, rfl, hbB, hcell⟩ := hc3 (by omega)
          obtain ⟨e1, e2, e3⟩ := ent_cells hcell (show j < xs.length by omega)
          have x1 := (hbl.cell (p := ⟨b, _, none⟩) hbB).trans e1
          have x2 := (hbl.cell (p := ⟨b, _, none⟩) hbB).trans e2
          have x3 := (hbl.cell (p := ⟨b, _, none⟩) hbB).trans e3
          clear e1 e2 e3 hcell hc3
          have hlen : Hid ((R ++ xs.take j).length ≤ 300) := by
            have := hRlen.out
            refine hide ?_
            rw [List.length_append, List.length_take]; omega
          have hnext : Hid (R ++ xs.take j ++ [xs[j]'(by omega)] = R ++ xs.take (j + 1)) := by
            rw [List.take_succ_eq_append_getElem (by omega), List.append_assoc]; exact rfl
          generalize hT : R ++ xs.take j = T at hown hlen hnext
          go_wp2_with (at_builtin; refine wpList_push _ rfl (.tmp 42) (.tmp 47) _ rfl entElt (by decide) ent_len W.heap.size u5 T rfl (hown.alloc _) wr.heap.size (xs[j]'(by omega)) rfl (Blk.new _ _ _) (by have := hlen.out; omega) (by have := hlen.out; unfold maxLen; omega) (by simp; omega) ?_; intro v' w1 hown1 hg1 hat1)
          have hG := grown_of_alloc hg1
          refine Stop.go ?_
          go_wp2
          go_roundw
          case rel =>
            rw [hnext.out] at hown1
            exact ⟨j + 1, by omega, by go_num, hown1, belowPush hbl hown hG (by omega) hwz, Nat.le_trans hwz hG.size⟩
          case measure => simp [intOf]; omega
        · obtain rfl : j = k := by omega
          have hperm : Hid (sort (R ++ xs.take j) = sort xs) := by
            rw [← hR'.out]
            refine hide (sort_of_perm ?_)
            exact ((List.reverse_perm _).append_right _).trans (List.perm_append_comm.trans (by rw [List.take_append_drop]))
          have hlen : Hid ((R ++ xs.take j).length ≤ 300) := by
            have := hRlen.out
            refine hide ?_
            rw [List.length_append, List.length_take]; omega
          have hs1 := (hs0.below hbl).more hwz
          have hm1 := hown.sl (fun y => (ent_len y).1)
          generalize hT : R ++ xs.take j = T at hm1 hperm hlen
          clear hown hT hs0 hc3
          go_wp2_with fail
          refine (qSort _ xs _ hs1 (by omega)).mono ?_
          rintro e w2 ⟨v2, rfl, hs2, hb2⟩
          have hbl2 := belowStep hbl hwz hb2
          have hm2 := (hm1.below hb2).more hb2.size
          clear hs1 hm1
          go_wp2_with fail
          refine (qSort _ T _ hm2 (by have := hlen.out; omega)).mono ?_
          rintro e w3 ⟨v3, rfl, hs3, hb3⟩
          have hbl3 := belowStep hbl2 hbl2.size hb3
          rw [hperm.out] at hs3
          have hs3' := (hs2.below hb3).more hb3.size
          go_wp2_with fail
          refine (rSame _ _ (sort xs) (sort xs) _ hs3' hs3).mono ?_
          rintro e w5 ⟨rfl, hb5⟩
          rw [show decide (sort xs = sort xs) = true from decide_eq_true rfl]
          have hbl5 := belowStep hbl3 hbl3.size hb5
          go_wp2_with fail
          refine (known _).mono ?_
          rintro e w7 ⟨rfl, hb7⟩
          have hbl7 := belowStep hbl5 hbl5.size hb7
          go_wp2_with fail
          go_ret
          exact ⟨rfl, hbl7⟩
end Go.Proofs.Ythognfmmjkmjnaa
