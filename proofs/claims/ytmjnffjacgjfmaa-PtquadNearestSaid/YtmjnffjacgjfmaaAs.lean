/- append onto slices of numbered blocks, and onto full slices. Plain lemmas, over any program. -/
import Derived.Test.YtmjnffjacgjfmaaAq
namespace Go.Proofs.Ytmjnffjacgjfmaa
set_option linter.all false
open Go.RowKit
namespace AM
section
variable {P : Program} {c : Cx} {N : Nat} {s : St} {a : Act} {w : World} {K : St → Prop}

/-- No way into a row that a cell holds lives on beside a call. -/
def calmB : SV → Bool
  | .pth (.cell ..) _ => false
  | .lnk (.cell ..) _ => false
  | _ => true
def calm : Fr → Fr
  | [] => []
  | (k, x) :: F => bif calmB x then (k, x) :: calm F else calm F
theorem mem_calm {k : Nat} {x : SV} : ∀ {F : Fr}, (k, x) ∈ calm F → (k, x) ∈ F ∧ calmB x = true
  | [], h => by cases h
  | (j, y) :: F, h => by
    unfold calm at h
    cases hc : calmB y with
    | true =>
      rw [hc] at h
      simp only [cond_true, List.mem_cons, Prod.mk.injEq] at h
      rcases h with ⟨rfl, rfl⟩ | h
      · exact ⟨by simp, hc⟩
      · exact ⟨List.mem_cons_of_mem _ (mem_calm h).1, (mem_calm h).2⟩
    | false =>
      rw [hc] at h
      exact ⟨List.mem_cons_of_mem _ (mem_calm (by simpa using h)).1, (mem_calm (by simpa using h)).2⟩

/-! ## A block moves: its rows come along -/
def Cx.regrow (c : Cx) (old : Option Nat) (L b : Nat) : Cx := { c with φ := c.φ ++ [b], R := fun k => if k = b then .abs L else match c.R k with
  | .own (.cell i j) => if old = some i then .own (.cell L j) else if i = L then .out else .own (.cell i j)
  | r => r }
def backR (old : Option Nat) (L : Nat) : Root → Root
  | .cell i j => match old with
    | some id => if i = L then .cell id j else .cell i j
    | none => .cell i j
  | r => r
theorem regrow_own {old : Option Nat} {L b k : Nat} {r : Root} (h : (c.regrow old L b).R k = .own r) : k ≠ b ∧ c.R k = .own (backR old L r) := by
  unfold Cx.regrow at h
  simp only at h
  by_cases hk : k = b
  · simp [hk] at h
  · refine ⟨hk, ?_⟩
    rw [if_neg hk] at h
    cases hr : c.R k with
    | out => rw [hr] at h; cases h
    | abs id => rw [hr] at h; cases h
    | own q =>
      rw [hr] at h
      cases q with
      | slot t =>
        simp only [Role.own.injEq] at h
        subst h
        rfl
      | cell i j =>
        simp only at h
        by_cases ho : old = some i
        · rw [if_pos ho] at h
          cases h
          subst ho
          simp [backR]
        · rw [if_neg ho] at h
          by_cases hi : i = L
          · rw [if_pos hi] at h; cases h
          · rw [if_neg hi] at h
            cases h
            cases old <;> simp [backR, hi]
theorem regrow_out {old : Option Nat} {L b k : Nat} (hk : k ≠ b) (h : c.R k = .out) : (c.regrow old L b).R k = .out := by
  unfold Cx.regrow
  simp [hk, h]
theorem regrow_abs {old : Option Nat} {L b k id : Nat} (hk : k ≠ b) (h : c.R k = .abs id) : (c.regrow old L b).R k = .abs id := by
  unfold Cx.regrow
  simp [hk, h]
theorem regrow_slot {old : Option Nat} {L b k t : Nat} (hk : k ≠ b) (h : c.R k = .own (.slot t)) : (c.regrow old L b).R k = .own (.slot t) := by
  unfold Cx.regrow
  simp [hk, h]
theorem regrow_cell {old : Option Nat} {L b k i j : Nat} (hk : k ≠ b) (h : c.R k = .own (.cell i j)) (ho : old ≠ some i) (hi : i ≠ L) : (c.regrow old L b).R k = .own (.cell i j) := by
  unfold Cx.regrow
  simp [hk, h, ho, hi]
theorem regrow_moved {L b k i j : Nat} (hk : k ≠ b) (h : c.R k = .own (.cell i j)) : (c.regrow (some i) L b).R k = .own (.cell L j) := by
  unfold Cx.regrow
  simp [hk, h]
theorem regrow_ne {old : Option Nat} {L b k : Nat} (hk : k ≠ b) (h : (c.regrow old L b).R k ≠ .out) : c.R k ≠ .out := fun e => h (regrow_out hk e)

def oldH (H : List Bk) : Option Nat → List Bk
  | some id => H.set id .dead
  | none => H
theorem oldH_len {H : List Bk} {old : Option Nat} : (oldH H old).length = H.length := by cases old <;> simp [oldH]
theorem oldH_get {H : List Bk} {old : Option Nat} {i : Nat} {k : Bk} (h : (oldH H old)[i]? = some k) : (H[i]? = some k ∧ old ≠ some i) ∨ (k = .dead ∧ old = some i) := by
  cases old with
  | none => exact .inl ⟨h, by simp⟩
  | some id =>
    unfold oldH at h
    rw [List.getElem?_set] at h
    by_cases hi : id = i
    · subst hi
      simp only [if_true] at h
      split at h
      · cases h; exact .inr ⟨rfl, rfl⟩
      · cases h
    · rw [if_neg hi] at h
      exact .inl ⟨h, by simpa using hi⟩

theorem Sim.regrow {F : Fr} {H : List Bk} {old : Option Nat} {kept : List SV} {olds news zs : List Value} {ds : List V} {e : TypeId} {w' : World} (h : Sim c N ⟨F, H⟩ a w) (hold : ∀ id, old = some id → id < H.length)
    (hlen : kept.length = olds.length) (hkept : ∀ (j : Nat) (x : SV) (v : Value), kept[j]? = some x → olds[j]? = some v → x.flat = true ∧ ∃ id, old = some id ∧ SRel c w (.cell id j) x v)
    (ho1 : ∀ v ∈ olds, v.oneCell' = true) (hd : RelL c.I c.φ ds news) (hn1 : ∀ v ∈ news, v.oneCell' = true) (hz1 : ∀ v ∈ zs, v.oneCell' = true)
    (heap : ∀ k, k < w.heap.size → w'.heap[k]? = w.heap[k]?) {arr : Array Value} (hnew : w'.heap[w.heap.size]? = some (.cells arr e (0, 0))) (harr : arr.toList = olds ++ news ++ zs) (hsize : w.heap.size ≤ w'.heap.size)
    (hos : w'.os = w.os) (htape : w'.tape = w.tape) (hout : w'.output = w.output) :
    Sim (c.regrow old H.length w.heap.size) N ⟨calm F, oldH H old ++ [.cells (kept ++ ds.map .v ++ List.replicate zs.length .any)]⟩ a w' ∧ Ext c w (c.regrow old H.length w.heap.size) w' := by
  have hlt : ∀ b, c.R b ≠ .out → b ≠ w.heap.size := fun b hb e => by
    have := h.inv.lt b hb
    omega
  have hsz : w.heap.size < w'.heap.size := obj_lt hnew
  have hφ : ∀ id b : Nat, c.φ[id]? = some b → (c.regrow old H.length w.heap.size).φ[id]? = some b := fun id b hb => by
    show (c.φ ++ [w.heap.size])[id]? = some b
    rw [List.getElem?_append_left (List.getElem?_eq_some_iff.1 hb).1]
    exact hb
  have hI : ∀ b o v, c.I b o = some v → (c.regrow old H.length w.heap.size).I b o = some v := fun _ _ _ h => h
  refine ⟨⟨⟨fun b o v hv => ?_, ?_, fun b hb => ?_, fun b b' r hb hb' => ?_, fun id b k hb hk => ?_⟩, h.size, h.defers, fun t x hx => ?_⟩, ⟨hos, htape, hout, hsize, fun b hb hr => ⟨heap b hb, regrow_out (Nat.ne_of_lt hb) hr, fun _ => rfl⟩, fun _ _ _ h => h, hφ⟩⟩
  · have hc := h.inv.imm b o v hv
    rw [World.cell?_of_block (a := ⟨b, o, none⟩) (heap b (World.block_lt_of_cell? w ⟨b, o, none⟩ hc))]
    exact hc
  · show (c.φ ++ [w.heap.size]).length = _
    simp [oldH_len]
    exact h.inv.len
  · by_cases hbs : b = w.heap.size
    · subst hbs; exact hsz
    · exact Nat.lt_of_lt_of_le (h.inv.lt b (regrow_ne hbs hb)) hsize
  · exact h.inv.uniq b b' _ (regrow_own hb).2 (regrow_own hb').2
  · by_cases hidl : id < H.length
    · have hb0 : c.φ[id]? = some b := by
        have e : (c.φ ++ [w.heap.size])[id]? = some b := hb
        rwa [List.getElem?_append_left (by rw [h.inv.len]; exact hidl)] at e
      rw [List.getElem?_append_left (by rw [oldH_len]; exact hidl)] at hk
      have hkk : H[id]? = some H[id] := List.getElem?_eq_getElem hidl
      obtain ⟨q1, q2, q3⟩ := h.inv.blk id b _ hb0 hkk
      have hbs := hlt b (by rw [q1]; simp)
      refine ⟨regrow_abs hbs q1, q2, ?_⟩
      rcases oldH_get hk with ⟨hk, hne⟩ | ⟨rfl, _⟩
      rotate_left
      · trivial
      rw [hkk] at hk
      cases hk
      by_cases hck : ∃ cs, H[id] = .cells cs
      rotate_left
      · exact BRel.stay (fun cs e => hck ⟨cs, e⟩) q3 (fun _ _ _ h => h) hφ (fun b' o ho _ => (heap b' (obj_lt ho)).trans ho)
      obtain ⟨cs, hcs⟩ := hck
      rw [hcs] at q3 ⊢
      obtain ⟨arr', e', g1, g2, g6, g3⟩ := q3
      refine ⟨arr', e', (heap b (obj_lt g1)).trans g1, g2, g6, fun j x v hx hv => ⟨(g3 j x v hx hv).1, ?_⟩⟩
      refine SRel.mono (c := c) (w := w) (w' := w') hI hφ (fun b' q hq hb' => ?_) (g3 j x v hx hv).2
      rcases hq with rfl | hq
      · exact ⟨regrow_cell (hlt b' (by rw [hb']; simp)) hb' hne (Nat.ne_of_lt hidl), heap b' (h.inv.lt b' (by rw [hb']; simp)), fun _ => rfl⟩
      · rw [flat_refers (g3 j x v hx hv).1] at hq; cases hq
    · have hidL : id = H.length := by
        have : id < (oldH H old ++ [Bk.cells (kept ++ ds.map .v ++ List.replicate zs.length .any)]).length := (List.getElem?_eq_some_iff.1 hk).1
        rw [List.length_append, oldH_len] at this
        simp at this
        omega
      subst hidL
      have hbe : b = w.heap.size := by
        have e : (c.φ ++ [w.heap.size])[H.length]? = some b := hb
        rw [← h.inv.len] at e
        simpa using e.symm
      subst hbe
      rw [List.getElem?_append_right (by rw [oldH_len]; exact Nat.le_refl _), oldH_len] at hk
      simp at hk
      subst hk
      have hal : arr.size = olds.length + news.length + zs.length := by rw [← Array.length_toList, harr]; simp; omega
      have hdl := hd.len
      refine ⟨by simp [Cx.regrow], fun o => fresh_imm h.inv _ o (Nat.le_refl _), arr, e, hnew, by rw [hal]; simp; omega, fun v hv => ?_, fun j x v hx hv => ?_⟩
      · rw [harr] at hv
        rcases List.mem_append.1 hv with hv | hv
        · rcases List.mem_append.1 hv with hv | hv
          · exact ho1 v hv
          · exact hn1 v hv
        · exact hz1 v hv
      · rw [← Array.getElem?_toList, harr, List.append_assoc] at hv
        rw [← List.append_assoc] at hx
        rw [List.append_assoc] at hx
        by_cases hj : j < kept.length
        · rw [List.getElem?_append_left hj] at hx
          rw [List.getElem?_append_left (by omega)] at hv
          obtain ⟨f1, id, rfl, f2⟩ := hkept j x v hx hv
          refine ⟨f1, ?_⟩
          cases x with
          | v y => exact Rel.mono hI hφ f2
          | own pr e0 n sz cs =>
            obtain ⟨h0, vs, r1, r2, r4, r3⟩ := f2
            refine ⟨h0, vs, RelL.mono hI hφ r1, own_keep r2 fun g hg => heap g (h.inv.lt g (by rw [(r3 g hg).1]; simp)), r4, fun b hb => ?_⟩
            obtain ⟨k1, k2⟩ := r3 b hb
            exact ⟨regrow_moved (hlt b (by rw [k1]; simp)) k1, k2⟩
          | any => trivial
          | _ => cases f1
        · rw [List.getElem?_append_right (by omega)] at hx
          rw [List.getElem?_append_right (by omega), ← hlen] at hv
          by_cases hj2 : j - kept.length < ds.length
          · rw [List.getElem?_append_left (by simpa using hj2), List.getElem?_map] at hx
            rw [List.getElem?_append_left (by omega)] at hv
            cases hy : ds[j - kept.length]? with
            | none => rw [hy] at hx; cases hx
            | some y =>
              rw [hy] at hx
              cases hx
              obtain ⟨u, hu, hr⟩ := hd.get hy
              rw [hv] at hu
              cases hu
              exact ⟨rfl, Rel.mono hI hφ hr⟩
          · rw [List.getElem?_append_right (by simpa using hj2), List.getElem?_replicate] at hx
            split at hx
            · cases hx; exact ⟨rfl, trivial⟩
            · cases hx
  · obtain ⟨hx1, hx2⟩ := mem_calm hx
    obtain ⟨v, hv, hs⟩ := h.fr t x hx1
    refine ⟨v, hv, SRel.mono (c := c) (w := w) (w' := w') hI hφ (fun b q hq hb => ?_) hs⟩
    have hlb := h.inv.lt b (by rw [hb]; simp)
    refine ⟨?_, heap b hlb, fun _ => rfl⟩
    rcases hq with rfl | hq
    · exact regrow_slot (Nat.ne_of_lt hlb) hb
    · cases x with
      | pth r off =>
        simp [SV.refers] at hq
        subst hq
        cases r with
        | slot t' => exact regrow_slot (Nat.ne_of_lt hlb) hb
        | cell => cases hx2
      | lnk r n =>
        simp [SV.refers] at hq
        subst hq
        cases r with
        | slot t' => exact regrow_slot (Nat.ne_of_lt hlb) hb
        | cell => cases hx2
      | _ => cases hq
theorem regrow_slb {H : List Bk} {old : Option Nat} {b n cap : Nat} (h : Inv c H w) (hn : n ≤ cap) (hc : cap ≤ maxLen) : Rel (c.regrow old H.length b).I (c.regrow old H.length b).φ (.slb H.length 0 n cap) (.slice (some ⟨b, 0, none⟩) n cap) :=
  .slb (by show (c.φ ++ [b])[H.length]? = _; rw [← h.len]; simp) hn hc

/-! ## append onto a slice of a numbered block -/
theorem zeroCs_one {e : TypeId} {i : TypeInfo} {z : Value} {zc : List V} (h : zeroCs P e = some zc) (hi : P.info? e = some i) (hz : i.zero = some z) : ∀ v ∈ z.cells.toList, v.oneCell' = true := by
  unfold zeroCs zeroT at h
  rw [hi, Option.bind_some, hz] at h
  simp only at h
  cases hb : z.cells.toList.all (·.oneCell') with
  | false => rw [hb] at h; cases h
  | true => exact fun v hv => List.all_eq_true.1 hb v hv
theorem zeroCells_one {z : Array Value} {n : Nat} (h : ∀ v ∈ z.toList, v.oneCell' = true) : ∀ v ∈ (Builtin.zeroCells z n).toList, v.oneCell' = true := by
  intro v hv
  unfold Builtin.zeroCells at hv
  simp only [Array.toList_map, List.mem_map] at hv
  obtain ⟨j, hj, rfl⟩ := hv
  have hj : j < n * z.size := by simpa using hj
  have hz : 0 < z.size := Nat.pos_of_ne_zero fun e => by rw [e] at hj; simp at hj
  have hm : j % z.size < z.size := Nat.mod_lt _ hz
  rw [getElem!_pos z _ hm]
  exact h _ (by simp)
theorem putF_sim {F : Fr} {H : List Bk} {d : Nat} {x : V} {v : Value} (h : Sim c N ⟨F, H⟩ a w) (hd : d < N) (hx : Rel c.I c.φ x v) : Sim (c.free (.slot d)) N ⟨putF d (.v x) F, H⟩ (a.put (some d) v) w := h.put hd trivial hx
/-- A slice that has no room is copied. -/
theorem run_grow {t ty e : TypeId} {i : TypeInfo} {z : Value} {A : Option Addr} {n cap m : Nat} {olds news : List Value} {b' o' cp : Nat} (ht : P.underlying t = some (.slice e)) (hi : P.info? e = some i) (hz : i.zero = some z)
    (hA : (A = none ∧ n = 0 ∧ cap = 0 ∧ olds = []) ∨ ∃ p, A = some p ∧ olds.length = n * i.size ∧ ∀ j u, olds[j]? = some u → w.cell? (p.add j) = some u)
    (hl : news.length = m * i.size) (hc : ∀ j u, news[j]? = some u → w.cell? ⟨b', o' + j, none⟩ = some u) (hg : cap < n + m) (h63 : n + m ≤ 9223372036854775807) (hby : (n + m) * i.bytes ≤ 140737488355328) :
    ∃ cap', n + m ≤ cap' ∧ cap' ≤ maxLen ∧ (Builtin.append_ #[t, t] ty #[.slice A n cap, .slice (some ⟨b', o', none⟩) m cp]).run P w = .ok (.slice (some ⟨w.heap.size, 0, none⟩) (n + m) cap') (w.drew.alloc (.cells (olds.toArray ++ news.toArray ++ Builtin.zeroCells z.cells (cap' - (n + m))) e)) := by
  have hc' : ∀ j u, news[j]? = some u → w.cell? ((⟨b', o', none⟩ : Addr).add j) = some u := fun j u hu => by rw [add_eq]; exact hc j u hu
  refine ⟨grownCap w (n + m) cap e, grownCap_ge w _ _ e, grownCap_le_maxLen w _ _ e (by unfold maxLen; omega), ?_⟩
  rcases hA with ⟨rfl, rfl, rfl, rfl⟩ | ⟨p, rfl, h1, h2⟩
  · have hr := run_append_nil (P := P) w t ty e i z ht hi hz ⟨b', o', none⟩ m cp news hl hc' (by omega) (by omega) (by rw [Nat.zero_add] at hby; omega)
    simpa using hr
  · exact run_append_grow (P := P) w t ty e i z ht hi hz p n cap olds h1 h2 ⟨b', o', none⟩ m cp news hl hc' hg (by omega) (growslice_fits (by omega) hby)
/-- What holds behind such a copy. -/
theorem Sim.grown {F : Fr} {H : List Bk} {old : Option Nat} {kept : List SV} {olds news : List Value} {ds : List V} {e : TypeId} {z : Value} {sz k d n cap' : Nat} (h : Sim c N ⟨F, H⟩ a w) (hold : ∀ id, old = some id → id < H.length)
    (hlen : kept.length = olds.length) (hkept : ∀ (j : Nat) (x : SV) (v : Value), kept[j]? = some x → olds[j]? = some v → x.flat = true ∧ ∃ id, old = some id ∧ SRel c w (.cell id j) x v)
    (ho1 : ∀ v ∈ olds, v.oneCell' = true) (hd : RelL c.I c.φ ds news) (hn1 : ∀ v ∈ news, v.oneCell' = true) (hz1 : ∀ v ∈ z.cells.toList, v.oneCell' = true) (hzs : z.cells.size = sz) (hdN : d < N) (hnc : n ≤ cap') (hcm : cap' ≤ maxLen) (hkN : k = cap' - n) :
    ∃ c', Sim c' N ⟨putF d (.v (.slb H.length 0 n cap')) (calm F), oldH H old ++ [.cells (kept ++ ds.map .v ++ List.replicate (k * sz) .any)]⟩ (a.put (some d) (.slice (some ⟨w.heap.size, 0, none⟩) n cap')) (w.drew.alloc (.cells (olds.toArray ++ news.toArray ++ Builtin.zeroCells z.cells (cap' - n)) e)) ∧ Ext c w c' (w.drew.alloc (.cells (olds.toArray ++ news.toArray ++ Builtin.zeroCells z.cells (cap' - n)) e)) := by
  subst hkN
  have hzl : (Builtin.zeroCells z.cells (cap' - n)).toList.length = (cap' - n) * sz := by rw [Array.length_toList, size_zeroCells, hzs]
  obtain ⟨k1, k2⟩ := Sim.regrow (zs := (Builtin.zeroCells z.cells (cap' - n)).toList) (e := e) (w' := w.drew.alloc (.cells (olds.toArray ++ news.toArray ++ Builtin.zeroCells z.cells (cap' - n)) e)) (arr := olds.toArray ++ news.toArray ++ Builtin.zeroCells z.cells (cap' - n)) h hold hlen hkept ho1 hd hn1 (zeroCells_one hz1)
    (fun k hk => heap_alloc_lt (w := w.drew) hk) (heap_alloc_new w.drew _) (by simp) (by simp) rfl rfl rfl
  rw [hzl] at k1
  exact ⟨_, putF_sim k1 hdN (regrow_slb h.inv hnc hcm), k2.trans (Ext.free _ _ _)⟩
/-- What a slice of a numbered block, or of none, shows. -/
theorem slb_shape {I : Nat → Nat → Option Value} {φ : List Nat} {id n cap : Nat} {v : Value} (h : Rel I φ (.slb id 0 n cap) v) : (∃ b, φ[id]? = some b ∧ v = .slice (some ⟨b, 0, none⟩) n cap ∧ n ≤ cap ∧ cap ≤ maxLen) ∨ (∃ A, v = .slice A 0 0 ∧ n = 0 ∧ cap = 0) := by
  cases h with
  | slb h1 h2 h3 => exact .inl ⟨_, h1, rfl, h2, h3⟩
  | slb0 => exact .inr ⟨_, rfl, rfl, rfl⟩
def aAppendB (P : Program) (N : Nat) (dst : Option Tmp) (t : TypeId) (id n cap : Nat) (y : Operand) (s : St) (K : St → Prop) : Prop := match elT P t, dst with
  | some (e, sz, bytes), some d => match newsV s sz y, zeroCs P e with
    | some (m, ds), some _ => d < N ∧ ((n + m) * bytes ≤ 140737488355328 ∧ n + m ≤ 9223372036854775807) ∧
        (cap ≠ 0 → ∃ ks, s.H[id]? = some (.cells ks) ∧ ks.length = cap * sz ∧ (n + m ≤ cap → K ⟨putF d (.v (.slb id 0 (n + m) cap)) s.F, setCells s.H id (n * sz) ds⟩) ∧
          (cap < n + m → ∀ cap', n + m ≤ cap' → K ⟨putF d (.v (.slb s.H.length 0 (n + m) cap')) (calm s.F), s.H.set id .dead ++ [.cells (ks.take (n * sz) ++ ds.map .v ++ List.replicate ((cap' - (n + m)) * sz) .any)]⟩)) ∧
        (cap = 0 → 0 < m ∧ ∀ cap', m ≤ cap' → K ⟨putF d (.v (.slb s.H.length 0 m cap')) (calm s.F), s.H ++ [.cells (ds.map .v ++ List.replicate ((cap' - m) * sz) .any)]⟩)
    | _, _ => False
  | _, _ => False
theorem aAppendB_acts {o : Oper} {t : TypeId} {x y : Operand} {id n cap : Nat} (ho : o.op = .call { callee := .builtin .append, args := #[x, y], argTypes := #[t, t] }) (h : Sim c N s a w) (hx : evalV s x = some (.slb id 0 n cap)) (hk : aAppendB P N o.dst t id n cap y s K) : Acts P o a w (Post c w N K) := by
  obtain ⟨F, H⟩ := s
  unfold aAppendB at hk
  split at hk
  rotate_left
  · exact hk.elim
  rename_i e sz bytes d hel hd
  obtain ⟨ht, hsz, i, z, hi, hz, hs, hb, hzs⟩ := elT_spec hel
  split at hk
  rotate_left
  · exact hk.elim
  rename_i m ds zc hy hzc
  obtain ⟨hdN, ⟨hby, h63⟩, hk1, hk0⟩ := hk
  obtain ⟨ns, r1, r2, r3⟩ := newsV_rel h hy
  have run : ∀ v' w', (Builtin.append_ #[t, t] o.type #[a.eval x, a.eval y]).run P w = .ok v' w' → (execOp a.eval o).run P w = .ok (.value v') w' := fun v' w' hr => by
    unfold execOp
    simp only [ho, resolve, Sem.run_bind, Sem.run_pure, Result.andThen_ok, invoke, builtin, List.map_toArray, List.map_cons, List.map_nil, hr]
  have hzo := zeroCs_one hzc hi hz
  subst hs
  have fresh : ∀ A, a.eval x = .slice A n cap → n = 0 → cap = 0 → Acts P o a w (Post c w N K) := by
    rintro A hv rfl rfl
    obtain ⟨hm, hk⟩ := hk0 rfl
    rcases r3 with ⟨_, rfl, _⟩ | ⟨b', o', cp, hA, hl, hcc⟩
    · omega
    obtain ⟨cap', c1, c2, hr⟩ := run_grow (P := P) (w := w) (ty := o.type) (A := A) (n := 0) (cap := 0) (olds := []) (cp := cp) ht hi hz (by
      cases A with
      | none => exact .inl ⟨rfl, rfl, rfl, rfl⟩
      | some p => exact .inr ⟨p, rfl, by simp, fun j u hu => by simp at hu⟩) hl hcc (by omega) h63 (by rw [hb]; exact hby)
    obtain ⟨c', k1, k2⟩ := Sim.grown (e := e) (old := none) (kept := []) (olds := []) (d := d) h (fun id' e => by cases e) rfl (fun j x u hx hu => by simp at hx) (fun u hu => by cases hu) r1 r2 hzo hzs hdN c1 c2 rfl
    refine acts_value (run _ _ (by rw [hv, hA]; exact hr)) ?_
    rw [hd]
    simp only [Nat.zero_add] at c1 k1 k2 ⊢
    exact ⟨c', _, k1, k2, by simpa [oldH] using hk cap' c1⟩
  rcases slb_shape (evalV_rel h hx) with ⟨b, hb0, hv, hn, hc⟩ | ⟨A, hv, rfl, rfl⟩
  · -- a block
    by_cases hcap : cap = 0
    · subst hcap
      obtain rfl : n = 0 := by omega
      exact fresh (some ⟨b, 0, none⟩) hv rfl rfl
    obtain ⟨ks, hks, hkl, hroom, hgrow⟩ := hk1 hcap
    obtain ⟨q1, q2, arr, e', g1, g2, g6, g3⟩ := h.inv.blk id b _ hb0 hks
    by_cases hle : n + m ≤ cap
    · -- in place
      have hK := hroom hle
      rcases r3 with ⟨⟨A, hA⟩, rfl, rfl⟩ | ⟨b', o', cp, hA, hl, hcc⟩
      · cases r1
        have hr := run_append_none (P := P) (w := w) (ty := o.type) (q := some ⟨b, 0, none⟩) (A := A) (sz := i.size) ht (by simp [sizeT, hi]) hn
        refine acts_value (run _ _ (by rw [hv, hA]; exact hr)) ?_
        rw [hd]
        exact ⟨_, _, putF_sim h hdN (.slb hb0 hn hc), Ext.free c w _, hK⟩
      · have hnews : ∀ j u, ns[j]? = some u → w.cell? ((⟨b', o', none⟩ : Addr).add j) = some u := fun j u hu => by rw [add_eq]; exact hcc j u hu
        have hf := run_firstCells_some (P := P) w i.size m ⟨b', o', none⟩ m cp ns hl hnews
        have hdl := r1.len
        obtain ⟨w', k1, k2, k3⟩ := storeCells_post (P := P) (off := n * i.size) ds ns 0 (F := F) h hb0 hks r1 r2 (by
          have := Nat.mul_le_mul_right i.size hle
          rw [Nat.add_mul] at this
          omega)
        refine acts_value (v := .slice (some ⟨b, 0, none⟩) (n + m) cap) (w' := w') (run _ _ ?_) ?_
        · rw [hv, hA]
          simp [Builtin.append_, run_underlying' ht, sizeOf, typeInfo, hi, Builtin.lenOf, hle, hf, Addr.add_lit, k1]
        · rw [hd]
          exact ⟨_, _, putF_sim k2 hdN (.slb hb0 hle hc), k3.trans (Ext.free c w' _), by simpa using hK⟩
    · have hlt : cap < n + m := by omega
      rcases r3 with ⟨_, rfl, _⟩ | ⟨b', o', cp, hA, hl, hcc⟩
      · omega
      have hnk : n * i.size ≤ ks.length := by rw [hkl]; exact Nat.mul_le_mul_right _ hn
      have htl : (ks.take (n * i.size)).length = (arr.toList.take (n * i.size)).length := by simp [g2]
      have hoc : ∀ j u, (arr.toList.take (n * i.size))[j]? = some u → w.cell? ((⟨b, 0, none⟩ : Addr).add j) = some u := fun j u hu => by
        rw [List.getElem?_take] at hu
        split at hu
        · rw [add_eq, Nat.zero_add]
          simp [World.cell?, g1]
          simpa using hu
        · cases hu
      obtain ⟨cap', c1, c2, hr⟩ := run_grow (P := P) (ty := o.type) (A := some ⟨b, 0, none⟩) (cap := cap) (olds := arr.toList.take (n * i.size)) (cp := cp) ht hi hz (.inr ⟨_, rfl, by rw [← htl, List.length_take]; omega, hoc⟩) hl hcc hlt h63 (by rw [hb]; exact hby)
      obtain ⟨c', k1, k2⟩ := Sim.grown (e := e) (old := some id) (kept := ks.take (n * i.size)) (olds := arr.toList.take (n * i.size)) (d := d) h (fun id' e => by cases e; exact (List.getElem?_eq_some_iff.1 hks).1) htl (fun j x u hx hu => by
        rw [List.getElem?_take] at hx hu
        split at hx
        · rename_i hj
          rw [if_pos hj] at hu
          have := g3 j x u hx (by simpa using hu)
          exact ⟨this.1, id, rfl, this.2⟩
        · cases hx) (fun u hu => g6 u (List.mem_of_mem_take hu)) r1 r2 hzo hzs hdN c1 c2 rfl
      refine acts_value (run _ _ (by rw [hv, hA]; exact hr)) ?_
      rw [hd]
      exact ⟨c', _, k1, k2, by simpa [oldH] using hgrow hlt cap' c1⟩
  · exact fresh A hv rfl rfl
/-! ## append onto a full slice -/
def aAppendF (P : Program) (N : Nat) (dst : Option Tmp) (t : TypeId) (n sz' : Nat) (cs : List V) (y : Operand) (s : St) (K : St → Prop) : Prop := match elT P t, dst with
  | some (e, sz, bytes), some d => match newsV s sz y with
    | some (m, ds) => sz' = sz ∧ d < N ∧ ((n + m) * bytes ≤ 140737488355328 ∧ n + m ≤ 9223372036854775807) ∧ (m = 0 → K ⟨putF d (.v (.fs n sz cs)) s.F, s.H⟩) ∧ (0 < m → K ⟨putF d (.own true e (n + m) sz (cs ++ ds)) s.F, s.H⟩)
    | none => False
  | _, _ => False
theorem aAppendF_acts {o : Oper} {t : TypeId} {x y : Operand} {n sz' : Nat} {cs : List V} (ho : o.op = .call { callee := .builtin .append, args := #[x, y], argTypes := #[t, t] }) (h : Sim c N s a w) (hx : evalV s x = some (.fs n sz' cs)) (hk : aAppendF P N o.dst t n sz' cs y s K) : Acts P o a w (Post c w N K) := by
  obtain ⟨F, H⟩ := s
  unfold aAppendF at hk
  split at hk
  rotate_left
  · exact hk.elim
  rename_i e sz bytes d hel hd
  obtain ⟨ht, hsz, i, z, hi, hz, hs, hb, hzs⟩ := elT_spec hel
  split at hk
  rotate_left
  · exact hk.elim
  rename_i m ds hy
  obtain ⟨rfl, hdN, ⟨hby, h63⟩, hk0, hk1⟩ := hk
  obtain ⟨ns, r1, r2, r3⟩ := newsV_rel h hy
  have run : ∀ v' w', (Builtin.append_ #[t, t] o.type #[a.eval x, a.eval y]).run P w = .ok v' w' → (execOp a.eval o).run P w = .ok (.value v') w' := fun v' w' hr => by
    unfold execOp
    simp only [ho, resolve, Sem.run_bind, Sem.run_pure, Result.andThen_ok, invoke, builtin, List.map_toArray, List.map_cons, List.map_nil, hr]
  have hxr := evalV_rel h hx
  subst hs
  -- the old row
  have hrow : ∃ (A : Option Addr) (vs : List Value), a.eval x = .slice A n n ∧ RelL c.I c.φ cs vs ∧ vs.length = n * i.size ∧ (∀ u ∈ vs, u.oneCell' = true) ∧ ((A = none ∧ n = 0 ∧ n = 0 ∧ vs = []) ∨ ∃ p, A = some p ∧ vs.length = n * i.size ∧ ∀ j u, vs[j]? = some u → w.cell? (p.add j) = some u) := by
    generalize a.eval x = v at hxr
    cases hxr with
    | @fs _ _ vs b off _ q1 q2 q3 q4 q5 =>
      have hl : vs.length = n * i.size := by rw [← q1.len, q3]
      exact ⟨_, vs, rfl, q1, hl, q5, .inr ⟨_, rfl, hl, fun j u hu => by rw [add_eq]; exact h.inv.imm _ _ _ (q2 j u hu)⟩⟩
    | @fs0 _ A =>
      refine ⟨A, [], rfl, .nil, by simp, fun u hu => (by cases hu), ?_⟩
      cases A with
      | none => exact .inl ⟨rfl, rfl, rfl, rfl⟩
      | some p => exact .inr ⟨p, rfl, by simp, fun j u hu => by simp at hu⟩
  obtain ⟨A, vs, hv, p1, p2, p3, p4⟩ := hrow
  rcases r3 with ⟨⟨A', hA⟩, rfl, rfl⟩ | ⟨b', o', cp, hA, hl, hcc⟩
  · have hr := run_append_none (P := P) (w := w) (ty := o.type) (q := A) (A := A') (n := n) (cap := n) (sz := i.size) ht (by simp [sizeT, hi]) (Nat.le_refl _)
    refine acts_value (run _ _ (by rw [hv, hA]; exact hr)) ?_
    rw [hd]
    rw [hv] at hxr
    exact ⟨_, _, putF_sim h hdN hxr, Ext.free c w _, hk0 rfl⟩
  · by_cases hm : m = 0
    · subst hm
      obtain rfl : ns = [] := List.eq_nil_of_length_eq_zero (by simpa using hl)
      have hf := run_firstCells_some (P := P) w i.size 0 ⟨b', o', none⟩ 0 cp [] (by simp) (fun j u hu => by simp at hu)
      refine acts_value (v := .slice A n n) (w' := w) (run _ _ ?_) ?_
      · rw [hv, hA]
        cases A <;> simp [Builtin.append_, run_underlying' ht, sizeOf, typeInfo, hi, Builtin.lenOf, hf, storeCells, Builtin.firstCells, loadCells, loadCellsFrom]
      · rw [hd]
        rw [hv] at hxr
        exact ⟨_, _, putF_sim h hdN hxr, Ext.free c w _, hk0 rfl⟩
    · obtain ⟨cap', c1, c2, hr⟩ := run_grow (P := P) (ty := o.type) (cap := n) (olds := vs) (cp := cp) ht hi hz p4 hl hcc (by omega) h63 (by rw [hb]; exact hby)
      have hown : w.ownsRow 0 e i.size (.slice none 0 0) 0 [] := ⟨by simp, .inl ⟨rfl, rfl⟩⟩
      have hsim : Sim c N ⟨del d F, H⟩ a w := Sim.sub (F := F) h fun p hp => (mem_del (x := p.2) (k := p.1) hp).1
      obtain ⟨c', q1, q2⟩ := hsim.grow (t := d) (u := d) (pr := true) (e := e) (sz := i.size) (n := 0) (m := n + m) (cs := []) (ds := cs ++ ds) (ns := vs ++ ns) (vs := []) (v := .slice none 0 0) (v' := .slice (some ⟨w.heap.size, 0, none⟩) (n + m) cap') (w' := w.drew.alloc (.cells (vs.toArray ++ ns.toArray ++ Builtin.zeroCells z.cells (cap' - (n + m))) e)) hdN hsz (fun k x hx => ⟨(mem_del hx).2.1, (mem_del hx).2.2⟩) .nil hown (fun b hb => by cases hb) (p1.append r1)
        (by
          intro u hu
          rcases List.mem_append.1 (by simpa using hu) with hu | hu
          · exact p3 u hu
          · exact r2 u hu)
        (by
          refine ⟨by simp [p2, hl, Nat.add_mul], .inr ⟨w.heap.size, cap', _, by rw [Nat.zero_add], Nat.zero_le _, heap_alloc_new w.drew _, by omega, c2, ?_, ?_⟩⟩
          · simp [size_zeroCells, hzs, p2, hl]
            rw [← Nat.add_mul, ← Nat.add_mul]
            congr 1
            omega
          · simp only [Array.toList_append, List.nil_append, Nat.zero_add]
            have : (n + m) * i.size = (vs ++ ns).length := by simp [p2, hl, Nat.add_mul]
            rw [this]
            exact List.take_left)
        ⟨rfl, rfl, rfl, by simp, fun k hk _ => heap_alloc_lt (w := w.drew) hk⟩ (.inr rfl) (fun g hg => by cases hg)
      simp only [Nat.zero_add, List.nil_append] at q1
      unfold putF at q1
      rw [del_del] at q1
      refine acts_value (run _ _ (by rw [hv, hA]; exact hr)) ?_
      rw [hd]
      exact ⟨c', ⟨putF d (.own true e (n + m) i.size (cs ++ ds)) F, H⟩, q1, q2, hk1 (by omega)⟩
/-- append, by what it is that grows. -/
def aApp (P : Program) (N : Nat) (dst : Option Tmp) (t : TypeId) (x y : Operand) (s : St) (K : St → Prop) : Prop := match eval s x with
  | some (.v (.slb id off n cap)) => off = 0 ∧ aAppendB P N dst t id n cap y s K
  | some (.v (.fs n sz cs)) => aAppendF P N dst t n sz cs y s K
  | _ => aAppend P N dst t x y s K
theorem aApp_acts {o : Oper} {t : TypeId} {x y : Operand} (ho : o.op = .call { callee := .builtin .append, args := #[x, y], argTypes := #[t, t] }) (h : Sim c N s a w) (hk : aApp P N o.dst t x y s K) : Acts P o a w (Post c w N K) := by
  unfold aApp at hk
  split at hk
  · rename_i id off n cap hx
    obtain ⟨rfl, hk⟩ := hk
    exact aAppendB_acts ho h (by unfold evalV; rw [hx]) hk
  · rename_i n sz cs hx
    exact aAppendF_acts ho h (by unfold evalV; rw [hx]) hk
  · exact aAppend_acts ho h hk
end
end AM
end Go.Proofs.Ytmjnffjacgjfmaa
