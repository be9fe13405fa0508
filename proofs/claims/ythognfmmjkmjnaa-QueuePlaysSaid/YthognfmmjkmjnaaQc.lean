/- The queue's tree: its five methods. -/
import Derived.Test.YthognfmmjkmjnaaQb
namespace Go.Proofs.Ythognfmmjkmjnaa
open Go.RowKit

theorem mLen (a : Addr) (w : World) : (method 241 84 (.pointer (some a)) "Len").run Try.prog w = .ok (46, .pointer (some a)) w := by kernel_rfl
theorem mLess (a : Addr) (w : World) : (method 241 84 (.pointer (some a)) "Less").run Try.prog w = .ok (94, .pointer (some a)) w := by kernel_rfl
theorem mSwap (a : Addr) (w : World) : (method 241 84 (.pointer (some a)) "Swap").run Try.prog w = .ok (97, .pointer (some a)) w := by kernel_rfl
theorem mPush (a : Addr) (w : World) : (method 241 84 (.pointer (some a)) "Push").run Try.prog w = .ok (96, .pointer (some a)) w := by kernel_rfl
theorem mPop (a : Addr) (w : World) : (method 241 84 (.pointer (some a)) "Pop").run Try.prog w = .ok (95, .pointer (some a)) w := by kernel_rfl
theorem assertEnt (v : Value) (w : World) : (Instr.typeAssert (.iface 36 v) 20 36 true).run Try.prog w = .ok (.tuple #[v, .bool true]) w := by kernel_rfl
attribute [local go_sem high] mLen mLess mSwap mPush mPop assertEnt

/-- A queue at block q, with the entries es; F: the blocks that it is made of. -/
def QAt (w : World) (q : Nat) (es : List Ent) (F : Nat → Prop) : Prop :=
  ∃ v, Blk w q 82 #[v] ∧ Own w 0 36 3 Ent.cells v es ∧ F q ∧ ∀ g, v.ownBlock = some g → F g
theorem QAt.keep {w w' : World} {q : Nat} {es : List Ent} {F S : Nat → Prop} (h : QAt w q es F) (k : Keep S w w') (hd : ∀ b, F b → ¬ S b) : QAt w' q es F := by
  obtain ⟨v, h1, h2, h3, h4⟩ := h
  exact ⟨v, h1.keep k (hd q h3), h2.keep fun g hg => k.block g (h2.lt g hg).2 (hd g (h4 g hg)), h3, h4⟩
theorem QAt.below {w w' : World} {q : Nat} {es : List Ent} {F : Nat → Prop} (h : QAt w q es F) (k : Below w.heap.size w w') : QAt w' q es F :=
  h.keep (Keep.of_below (S := fun _ => False) k) fun _ _ h => h

/-- What a method of the queue leaves. -/
def RetQ (w : World) (q : Nat) (F : Nat → Prop) (es : List Ent) (r : Value) (e : Ending) (w' : World) : Prop :=
  e = .returned r ∧ ∃ F', QAt w' q es F' ∧ Keep F w w' ∧ ∀ b, F' b → F b ∨ w.heap.size ≤ b

set_option maxHeartbeats 400000 in
theorem tLen (q : Nat) (es : List Ent) (F : Nat → Prop) (w : World) (h : QAt w q es F) :
    Calls Try.prog 46 #[.pointer (some ⟨q, 0, none⟩)] w fun e w' => e = .returned (.int .i64 es.length) ∧ w = w' := by
  obtain ⟨v, h1, h2, _, _⟩ := h
  have c0 := h1.cell 0
  simp at c0
  obtain ⟨A, c, rfl, _⟩ := h2.sl (fun y => (ent_len y).1)
  go_enter Try.func46, Try.ntmps46
  go_wp2
  go_ret
  exact ⟨rfl, rfl⟩

set_option maxHeartbeats 800000 in
theorem tLess (q : Nat) (es : List Ent) (F : Nat → Prop) (w : World) (h : QAt w q es F) (i j : Int) (hi0 : 0 ≤ i) (hj0 : 0 ≤ j) (hi : i.toNat < es.length) (hj : j.toNat < es.length) :
    Calls Try.prog 94 #[.pointer (some ⟨q, 0, none⟩), .int .i64 i, .int .i64 j] w fun e w' => e = .returned (.bool ((at_ es i.toNat).lt (at_ es j.toNat))) ∧ Below w.heap.size w w' := by
  obtain ⟨i, rfl⟩ := Int.eq_ofNat_of_zero_le hi0
  obtain ⟨j, rfl⟩ := Int.eq_ofNat_of_zero_le hj0
  simp only [Int.toNat_natCast] at hi hj ⊢
  obtain ⟨v, h1, h2, _, _⟩ := h
  have c0 := h1.cell 0
  simp at c0
  obtain ⟨A, c, rfl, hc1, hc2, hc3⟩ := h2.sl (fun y => (ent_len y).1)
  unfold maxLen at hc2
  obtain ⟨b, o, rfl, hbB, hcell⟩ := hc3 (by omega)
  obtain ⟨x1, x2, x3⟩ := ent_cells hcell hi
  obtain ⟨y1, y2, y3⟩ := ent_cells hcell hj
  clear hcell hc3 h1 h2
  have hl := qLess es[i] es[j]
  unfold Ent.val at hl
  go_enter Try.func94, Try.ntmps94
  go_wp2
  refine Mix.region mixed (by kernel_rfl) ?_
  repeat (refine Mix.walk_q rfl ?_; go_big_quiet_step (fail); refine wpQuiet_nil ?_)
  refine Mix.walk_e rfl (fun K hK => ?_)
  go_wp2_with fail
  refine (hl _).mono ?_
  rintro e w2 ⟨rfl, hb2⟩
  go_wp2_with fail
  refine hK.out _ _ ?_
  clear hK K
  repeat (refine Mix.walk_q rfl ?_; go_big_quiet_step (fail); refine wpQuiet_nil ?_)
  refine Mix.walk_nil ?_
  go_wp2
  go_ret
  exact ⟨ret_bool (by rw [at_eq hi, at_eq hj]), undrew hb2⟩

set_option maxHeartbeats 1600000 in
theorem tSwap (q : Nat) (es : List Ent) (F : Nat → Prop) (w : World) (h : QAt w q es F) (i j : Int) (hi0 : 0 ≤ i) (hj0 : 0 ≤ j) (hi : i.toNat < es.length) (hj : j.toNat < es.length) :
    Calls Try.prog 97 #[.pointer (some ⟨q, 0, none⟩), .int .i64 i, .int .i64 j] w (RetQ w q F (swapL es i.toNat j.toNat) (.tuple #[])) := by
  obtain ⟨i, rfl⟩ := Int.eq_ofNat_of_zero_le hi0
  obtain ⟨j, rfl⟩ := Int.eq_ofNat_of_zero_le hj0
  simp only [Int.toNat_natCast] at hi hj ⊢
  obtain ⟨v, h1, h2, hF, hFv⟩ := h
  have c0 := h1.cell 0
  simp at c0
  have hsl := h2.sl (fun y => (ent_len y).1)
  rcases h2.2 with ⟨rfl, h0⟩ | ⟨g, cap, cur, rfl, _, hh, hnc, hm, hcs, htake⟩
  · omega
  obtain ⟨A, c, he, hc1, hc2, hc3⟩ := hsl
  simp only [Value.slice.injEq] at he
  obtain ⟨rfl, _, rfl⟩ := he
  unfold maxLen at hc2
  obtain ⟨b, o, he, hbB, hcell⟩ := hc3 (by omega)
  simp only [Option.some.injEq, Addr.mk.injEq] at he
  obtain ⟨rfl, rfl, _⟩ := he
  obtain ⟨x1, x2, x3⟩ := ent_cells hcell hi
  obtain ⟨y1, y2, y3⟩ := ent_cells hcell hj
  simp only [Nat.zero_add] at x1 x2 x3 y1 y2 y3
  have hgq : ¬ g = q := Blk.ne_ (t := 36) hh h1 (by decide)
  have fr : ∀ o, w.frozen? ⟨g, o, none⟩ = false := fun o => Blk.frozen (t := 36) hh o
  have hfin : Hid (RetQ w q F (swapL es i j) (.tuple #[]) (.returned (.tuple #[])) (setRow (setRow w g (i * 3) (Ent.cells es[j])) g (j * 3) (Ent.cells es[i])).drew) := by
    rw [swapL_eq hi hj]
    have o1 := Own.set_ (fun y => (ent_len y).1) h2 (g := g) rfl hi es[j]
    have o2 := Own.set_ (fun y => (ent_len y).1) o1 (g := g) rfl (by simpa using hj) es[i]
    have k1 := setRow_keep (Ent.cells es[j]) w g (i * 3)
    have k2 := setRow_keep (Ent.cells es[i]) (setRow w g (i * 3) (Ent.cells es[j])) g (j * 3)
    have hFg := hFv g rfl
    have kk : Keep F w (setRow (setRow w g (i * 3) (Ent.cells es[j])) g (j * 3) (Ent.cells es[i])) :=
      (((Keep.refl F w)).grown k1 (fun b _ hb => by cases hb; exact hFg)).grown k2 (fun b _ hb => by cases hb; exact hFg)
    refine ⟨rfl, F, ⟨_, Blk.drew ?_, o2.drew, hF, hFv⟩, kk.drew, fun b hb => .inl hb⟩
    exact ((h1.grown k1 (fun e => hgq (by injection e with e; exact e.symm))).grown k2 (fun e => hgq (by injection e with e; exact e.symm)))
  clear hcell hc3 h2 hh htake hcs hF hFv
  go_enter Try.func97, Try.ntmps97
  by_cases hij : i = j
  · subst hij
    go_wp2
    refine Mix.region mixed (by kernel_rfl) ?_
    repeat (refine Mix.walk_q rfl ?_; go_big_quiet_step (fail); refine wpQuiet_nil ?_)
    refine Mix.walk_e rfl (fun K hK => ?_)
    go_wp2_with fail
    refine hK.out _ _ ?_
    clear hK K
    repeat (refine Mix.walk_q rfl ?_; go_big_quiet_step (fail); refine wpQuiet_nil ?_)
    refine Mix.walk_e rfl (fun K hK => ?_)
    go_wp2_with fail
    refine hK.out _ _ ?_
    clear hK K
    refine Mix.walk_nil ?_
    go_wp2
    go_end0
    exact hfin.out
  · go_wp2
    refine Mix.region mixed (by kernel_rfl) ?_
    repeat (refine Mix.walk_q rfl ?_; go_big_quiet_step (fail); refine wpQuiet_nil ?_)
    refine Mix.walk_e rfl (fun K hK => ?_)
    go_wp2_with fail
    refine hK.out _ _ ?_
    clear hK K
    repeat (refine Mix.walk_q rfl ?_; go_big_quiet_step (fail); refine wpQuiet_nil ?_)
    refine Mix.walk_e rfl (fun K hK => ?_)
    go_wp2_with fail
    refine hK.out _ _ ?_
    clear hK K
    refine Mix.walk_nil ?_
    go_wp2
    go_end0
    exact hfin.out

theorem Own.dropLast {α : Type} {w : World} {base sz : Nat} {e : TypeId} {enc : α → List Value} {g n cap : Nat} {xs : List α} (hsz : ∀ x, (enc x).length = sz) (h : Own w base e sz enc (.slice (some ⟨g, 0, none⟩) n cap) xs) :
    Own w base e sz enc (.slice (some ⟨g, 0, none⟩) (xs.length - 1) cap) xs.dropLast := by
  obtain ⟨h1, h2⟩ := h
  rcases h2 with ⟨h2, _⟩ | ⟨g', cap', cur, he, hg, hh, hnc, hm, hcs, htake⟩
  · cases h2
  · simp only [Value.slice.injEq, Option.some.injEq, Addr.mk.injEq] at he
    obtain ⟨⟨rfl, _, _⟩, rfl, rfl⟩ := he
    refine ⟨flat_len hsz _, .inr ⟨g, cap, cur, by rw [List.length_dropLast], hg, hh, by rw [List.length_dropLast]; omega, hm, hcs, ?_⟩⟩
    rw [List.length_dropLast, List.dropLast_eq_take, ← flat_take hsz, ← htake, List.take_take, Nat.min_eq_left (Nat.mul_le_mul_right _ (by omega))]

set_option maxHeartbeats 1600000 in
theorem tPush (q : Nat) (es : List Ent) (F : Nat → Prop) (w : World) (h : QAt w q es F) (y : Ent) (hn : es.length ≤ 1000000) :
    Calls Try.prog 96 #[.pointer (some ⟨q, 0, none⟩), .iface 36 y.val] w (RetQ w q F (es ++ [y]) (.tuple #[])) := by
  obtain ⟨v, h1, h2, hF, hFv⟩ := h
  have HB := Blk.new w 36 (Ent.cells y).toArray
  have h1' := h1.alloc (.cells (Ent.cells y).toArray 36)
  have c0 : w.cell? ⟨q, 0, none⟩ = some v := h1.cell 0
  have p0 : ∀ p, (Mix.ext (w.alloc (.cells #[.int .u64 y.k, .int .u64 y.t, .int .i64 y.i] 36)).drew p).cell? ⟨q, 0, none⟩ = some v := Mix.cell_ext (w := (w.alloc (.cells #[.int .u64 y.k, .int .u64 y.t, .int .i64 y.i] 36)).drew) (h1'.cell 0)
  have p1 : ∀ p, (Mix.ext (w.alloc (.cells #[.int .u64 y.k, .int .u64 y.t, .int .i64 y.i] 36)).drew p).cell? ⟨w.heap.size, 0, none⟩ = some (.int .u64 y.k) := Mix.cell_ext (w := (w.alloc (.cells #[.int .u64 y.k, .int .u64 y.t, .int .i64 y.i] 36)).drew) (HB.cell 0)
  have p2 : ∀ p, (Mix.ext (w.alloc (.cells #[.int .u64 y.k, .int .u64 y.t, .int .i64 y.i] 36)).drew p).cell? ⟨w.heap.size, 1, none⟩ = some (.int .u64 y.t) := Mix.cell_ext (w := (w.alloc (.cells #[.int .u64 y.k, .int .u64 y.t, .int .i64 y.i] 36)).drew) (HB.cell 1)
  have p3 : ∀ p, (Mix.ext (w.alloc (.cells #[.int .u64 y.k, .int .u64 y.t, .int .i64 y.i] 36)).drew p).cell? ⟨w.heap.size, 2, none⟩ = some (.int .i64 y.i) := Mix.cell_ext (w := (w.alloc (.cells #[.int .u64 y.k, .int .u64 y.t, .int .i64 y.i] 36)).drew) (HB.cell 2)
  unfold Ent.val
  go_enter Try.func96, Try.ntmps96
  go_wp2
  refine Mix.regionG mixed (by kernel_rfl) ?_
  repeat (refine Mix.walk_q rfl ?_; go_big_quiet_step (fail); refine wpQuiet_nil ?_)
  refine Mix.walk_e rfl (fun K hK => ?_)
  go_wp2_with fail
  refine hK.out _ _ ?_
  clear hK K
  refine Mix.walk_e rfl (fun K hK => ?_)
  go_wp2_with (at_builtin; refine wpList_push _ rfl (.tmp 16) (.tmp 18) _ rfl entElt (by decide) ent_len 0 v es rfl (((h2.alloc _).drew).alloc _) (w.heap.size + 1) y rfl (Blk.new2 _ _ _ _) (by omega) (by unfold maxLen; omega) (by omega) ?_; intro v' w1 hown1 hg1 hat1)
  clear p0 p1 p2 p3
  have hG : w.grownBy w1 v.ownBlock := grown_of_alloc (grown_of_alloc (grown_of_drew hg1))
  have h1w : Blk w1 q 82 #[v] := h1.grown hG (fun e => by
    rcases h2.2 with ⟨rfl, _⟩ | ⟨g, cap, cur, rfl, _, hh, _⟩
    · cases e
    · have hgq : g ≠ q := Blk.ne_ (t := 36) hh h1 (by decide)
      have e' : q = g := by simpa [Value.ownBlock] using e
      exact hgq e'.symm)
  have hv1 : ∀ g, v'.ownBlock = some g → F g ∨ w.heap.size ≤ g := fun g hg => by
    rcases hat1 with e | e
    · rw [e] at hg; exact .inl (hFv g hg)
    · rw [e] at hg; right; simp at hg; omega
  have hvq : v'.ownBlock ≠ some q := fun e => by
    rcases hown1.2 with ⟨rfl, _⟩ | ⟨g, cap, cur, rfl, _, hh, _⟩
    · cases e
    · have hgq : g ≠ q := Blk.ne_ (t := 36) hh h1w (by decide)
      have e' : q = g := by simpa [Value.ownBlock, eq_comm] using e
      exact hgq e'.symm
  have hfin : Hid (RetQ w q F (es ++ [y]) (.tuple #[]) (.returned (.tuple #[])) (w1.setCell ⟨q, 0, none⟩ v')) := by
    refine ⟨rfl, fun b => F b ∨ v'.ownBlock = some b, ⟨v', h1w.set_ 0 v', hown1.keep fun g hg => Below.heap_setCell _ _ _ _ (fun e => hvq (by rw [hg, e])), .inl hF, fun g hg => .inr hg⟩, ?_, fun b hb => hb.elim .inl (hv1 b)⟩
    exact ((Keep.refl F w).grown hG (fun b _ hb => hFv b hb)).setCell (.inl hF) _
  have c1 := h1w.cell 0
  simp at c1
  have f1 := h1w.frozen 0
  obtain ⟨A', c', rfl, _⟩ := hown1.sl (fun y => (ent_len y).1)
  refine Stop.go ?_
  go_wp2_with fail
  refine hK.out _ _ ?_
  clear hK K
  repeat (refine Mix.walk_q rfl ?_; go_big_quiet_step (fail); refine wpQuiet_nil ?_)
  refine Mix.walk_e rfl (fun K hK => ?_)
  go_wp2_with fail
  refine hK.out _ _ ?_
  clear hK K
  refine Mix.walk_nil ?_
  go_wp2
  go_end0
  have hf := hfin.out
  simp only [List.length_append, List.length_cons, List.length_nil, Nat.zero_add] at hf
  exact hf

set_option maxHeartbeats 1600000 in
theorem tPop (q : Nat) (es : List Ent) (F : Nat → Prop) (w : World) (h : QAt w q es F) (hn : 0 < es.length) :
    Calls Try.prog 95 #[.pointer (some ⟨q, 0, none⟩)] w (RetQ w q F es.dropLast (.iface 36 (at_ es (es.length - 1)).val)) := by
  obtain ⟨v, h1, h2, hF, hFv⟩ := h
  have c0 := h1.cell 0
  simp at c0
  have f0 := h1.frozen 0
  have hsl := h2.sl (fun y => (ent_len y).1)
  rcases h2.2 with ⟨rfl, h0⟩ | ⟨g, cap, cur, rfl, _, hh, hnc, hm, hcs, htake⟩
  · omega
  obtain ⟨A, c, he, hc1, hc2, hc3⟩ := hsl
  simp only [Value.slice.injEq] at he
  obtain ⟨rfl, _, rfl⟩ := he
  unfold maxLen at hc2
  obtain ⟨b, o, he, hbB, hcell⟩ := hc3 (by omega)
  simp only [Option.some.injEq, Addr.mk.injEq] at he
  obtain ⟨rfl, rfl, _⟩ := he
  obtain ⟨n, hn'⟩ : ∃ n, es.length = n + 1 := ⟨es.length - 1, by omega⟩
  have hat : at_ es (es.length - 1) = es[n] := by rw [at_eq (by omega)]; simp [hn']
  obtain ⟨x1, x2, x3⟩ := ent_cells hcell (k := n) (by omega)
  simp only [Nat.zero_add] at x1 x2 x3
  have hgq : ¬ g = q := Blk.ne_ (t := 36) hh h1 (by decide)
  have hqs := h1.lt
  have hown := Own.dropLast (fun y => (ent_len y).1) h2
  rw [hn', Nat.add_sub_cancel] at hown
  rw [hat]
  have hfin : Hid (RetQ w q F es.dropLast (.iface 36 es[n].val) (.returned (.iface 36 es[n].val)) ((w.setCell ⟨q, 0, none⟩ (.slice (some ⟨g, 0, none⟩) n cap)).alloc (.cells (Ent.cells es[n]).toArray 36))) := by
    refine ⟨rfl, F, ⟨_, (h1.set_ 0 _).alloc _, Own.alloc (hown.keep fun g' hg => Below.heap_setCell _ _ _ _ ?_) _, hF, hFv⟩, ((Keep.refl F w).setCell (.inl hF) _).alloc _, fun b hb => .inl hb⟩
    have e' : g = g' := by simpa [Value.ownBlock] using hg
    subst e'
    exact hgq
  rw [hn'] at c0
  have hcap : ¬ cap = 0 := by omega
  clear hcell hc3 h1 h2 hh htake hcs hF hFv hown hat
  go_enter Try.func95, Try.ntmps95
  go_wp2
  go_ret
  exact hfin.out

set_option maxHeartbeats 1600000 in
theorem hUp (q : Nat) (es : List Ent) (F : Nat → Prop) (w : World) (h : QAt w q es F) (j : Int) (hj0 : 0 ≤ j) (hj : j.toNat < es.length) (hn : es.length ≤ 1000001) :
    Calls Try.prog 56 #[.iface 84 (.pointer (some ⟨q, 0, none⟩)), .int .i64 j] w (RetQ w q F (upF j.toNat es j.toNat) (.tuple #[])) := by
  obtain ⟨j, rfl⟩ := Int.eq_ofNat_of_zero_le hj0
  simp only [Int.toNat_natCast] at hj ⊢
  go_enter Try.func56, Try.ntmps56
  go_wp2
  go_loopw [1] (fun vj wr => ∃ (jj f : Nat) (l : List Ent) (F' : Nat → Prop), vj = .int .i64 jj ∧ jj < l.length ∧ jj ≤ f ∧ l.length ≤ 1000001 ∧ Hid (upF f l jj = upF j es j) ∧ QAt wr q l F' ∧ Keep F w wr ∧ Hid (∀ b, F' b → F b ∨ w.heap.size ≤ b))
    (fun vj _ => (intOf vj).toNat)
  case atStart => exact ⟨j, j, es, F, rfl, hj, Nat.le_refl _, hn, rfl, h, Keep.refl _ _, fun b hb => .inl hb⟩
  case round =>
    obtain ⟨jj, f, l, F', rfl, hjl, hjf, hll, hup, hq, hk, hFF⟩ := hrel
    by_cases h0 : jj = 0
    · subst h0
      have hl : Hid (l = upF j es j) := by
        rw [← hup.out]
        cases f with
        | zero => rfl
        | succ f => rw [Hid, upF, if_neg (by simp)]
      go_wp2
      go_end0
      exact ⟨rfl, F', by rw [← hl.out]; exact hq, hk, hFF.out⟩
    · obtain ⟨f, rfl⟩ : ∃ f', f = f' + 1 := ⟨f - 1, by omega⟩
      have hne : ((((jj : Nat) : Int) - 1) / 2 == ((jj : Nat) : Int)) = false := by simp; omega
      have e1 : ((((jj : Nat) : Int) - 1) / 2).toNat = (jj - 1) / 2 := by omega
      cases hlt : (at_ l jj).lt (at_ l ((jj - 1) / 2)) with
      | true =>
        go_wp2_with fail
        refine (tLess q l F' _ hq jj ((((jj : Nat) : Int) - 1) / 2) (by omega) (by omega) (by simpa using hjl) (by omega)).mono ?_
        rintro e w2 ⟨he, hb2⟩
        rw [e1, Int.toNat_natCast, hlt] at he
        subst he
        have hq2 := hq.below hb2
        have hk2 : Keep F w w2 := hk.trans (Keep.of_below hb2)
        go_wp2_with fail
        refine (tSwap q l F' _ hq2 ((((jj : Nat) : Int) - 1) / 2) jj (by omega) (by omega) (by omega) (by simpa using hjl)).mono ?_
        rintro e w3 ⟨rfl, F3, hq3, hk3, hF3⟩
        rw [e1, Int.toNat_natCast] at hq3
        have hs := hk2.size
        go_wp2_with fail
        go_roundw
        case rel =>
          refine ⟨(jj - 1) / 2, f, swapL l ((jj - 1) / 2) jj, F3, ?_, by rw [swapL_len]; omega, by omega, by rw [swapL_len]; omega, ?_, hq3, hk2.step hk3 (fun b hb hb' => ?_), fun b hb => ?_⟩
          · congr 1; omega
          · rw [← hup.out, Hid, upF, if_pos ⟨h0, hlt⟩]
          · rcases hFF.out b hb' with h | h
            · exact h
            · omega
          · rcases hF3 b hb with h | h
            · exact hFF.out b h
            · right; omega
        case measure => simp [intOf]; omega
      | false =>
        go_wp2_with fail
        refine (tLess q l F' _ hq jj ((((jj : Nat) : Int) - 1) / 2) (by omega) (by omega) (by simpa using hjl) (by omega)).mono ?_
        rintro e w2 ⟨he, hb2⟩
        rw [e1, Int.toNat_natCast, hlt] at he
        subst he
        have hq2 := hq.below hb2
        have hk2 : Keep F w w2 := hk.trans (Keep.of_below hb2)
        have hl : Hid (l = upF j es j) := by
          rw [← hup.out, Hid, upF, if_neg (by simp [hlt])]
        go_wp2_with fail
        go_end0
        exact ⟨rfl, F', by rw [← hl.out]; exact hq2, hk2, hFF.out⟩
end Go.Proofs.Ythognfmmjkmjnaa
