/- A region that draws its order, with calls that only reckon beside loads, also of the call's own rows. Plain lemmas, over any program. -/
import Derived.Test.YtmjnffjacgjfmaaAr1
namespace Go.Proofs.Ytmjnffjacgjfmaa
set_option linter.all false
open Go.RowKit
namespace AM
/-- What was known at the region's head, and is known still. -/
def remF (d : Nat) (F : Fr) : Fr := F.filter fun p => !(p.1 == d)
def new0 (dst : Option Tmp) (y : Option SV) (F0 : Fr) : Fr := match dst with
  | none => F0
  | some d => match y with
    | some y => (d, y) :: remF d F0
    | none => remF d F0
def old0 (F0 : Fr) : Operand → Option SV
  | .tmp u => match getF u F0 with
    | some (.own _ _ n _ _) => some (.lnk (.slot u) n)
    | x => x
  | _ => none
def z0 (P : Program) (F0 : Fr) (s : St) (o : Oper) : Option SV := match o.op with
  | .move x => old0 F0 x
  | .fieldAddr t x f => match old0 F0 x, fieldT P t f with
    | some p, some n => shift p n
    | _, _ => none
  | .indexAddr t x ix => match old0 F0 x, evalV s ix, P.underlying t with
    | some (.v (.sl n sz cs)), some (.sc (.int _ i)), some (.slice e) => if sizeT P e = some sz ∧ 0 ≤ i ∧ i < n then some (.v (.rd (rowAt sz cs i))) else none
    | some (.lnk r n), some (.sc (.int _ i)), some (.slice e) => match sizeT P e with
      | some sz => if 0 ≤ i ∧ i < n then some (.pth r (i.toNat * sz)) else none
      | none => none
    | some (.v (.slb id o n _)), some (.sc (.int _ i)), some (.slice e) => match sizeT P e with
      | some sz => if 0 ≤ i ∧ i < n then some (.v (.ptr id (o + i.toNat * sz))) else none
      | none => none
    | some p, some (.sc (.int _ i)), some (.array n e) => match sizeT P e with
      | some sz => if 0 ≤ i ∧ i < n then shift p (i.toNat * sz) else none
      | none => none
    | _, _, _ => none
  | .nilCheck x => match old0 F0 x with
    | some (.v (.ptr id off)) => some (.v (.ptr id off))
    | _ => none
  | _ => none
/-- A cell that holds an own row is looked at. -/
def zloadOwn (N : Nat) (H0 : List Bk) (dst : Option Tmp) (p : SV) (F0 : Fr) (s : St) (K : Fr → St → Prop) : Prop := match p, dst with
  | .v (.ptr id off), some d => match H0[id]?, s.H[id]? with
    | some (.cells ks), some (.cells ks') => match ks[off]?, ks'[off]? with
      | some (.own _ _ n _ _), some (.own _ _ n' _ _) => d < N ∧ K (new0 (some d) (some (.lnk (.cell id off) n)) F0) ⟨putF d (.lnk (.cell id off) n') s.F, s.H⟩
      | _, _ => False
    | _, _ => False
  | _, _ => False
def zload (P : Program) (N : Nat) (Fs : Fr) (H0 : List Bk) (dst : Option Tmp) (t : TypeId) (x : Operand) (F0 : Fr) (s : St) (K : Fr → St → Prop) : Prop := match old0 F0 x, aggT P t, sizeT P t with
  | some p, some agg, some n => match cellsAt ⟨Fs, H0⟩ p with
    | some cs => match ldV agg n cs with
      | some y => putK N dst (.v y) s (K (new0 dst (some (.v y)) F0))
      | none => bif agg then (match sharesAt H0 p with
        | some cs => match ldV true n cs with
          | some y => putK N dst (.v y) s (K (new0 dst (some (.v y)) F0))
          | none => False
        | none => False) else zloadOwn N H0 dst p F0 s K
    | none => False
  | _, _, _ => False
section
variable {I : Nat → Nat → Option Value} {φ : List Nat}
mutual
theorem Rel.of_exact : ∀ {x : V} {u : Value}, x.exact = some u → Rel I φ x u
  | .sc v, u, h => by cases h; exact .sc v
  | .agg cs, u, h => by
    unfold V.exact at h
    cases hc : V.exactL cs with
    | none => rw [hc] at h; cases h
    | some l => rw [hc] at h; cases h; exact .agg (RelL.of_exact hc)
  | .tup cs, u, h => by
    unfold V.exact at h
    cases hc : V.exactL cs with
    | none => rw [hc] at h; cases h
    | some l => rw [hc] at h; cases h; exact .tup (RelL.of_exact hc)
  | .nil, u, h => by cases h; exact .nil
  | .iface t x, u, h => by
    unfold V.exact at h
    cases hx : x.exact with
    | none => rw [hx] at h; cases h
    | some v => rw [hx] at h; cases h; exact .iface (Rel.of_exact hx)
  | .fn f first cap, u, h => by
    unfold V.exact at h
    cases ha : V.exactL first with
    | none => rw [ha] at h; cases h
    | some a =>
      cases hb : V.exactL cap with
      | none => rw [ha, hb] at h; cases h
      | some b => rw [ha, hb] at h; cases h; exact .fn (RelL.of_exact ha) (RelL.of_exact hb)
  | .sl .., u, h => by cases h
  | .rd .., u, h => by cases h
  | .ptr .., u, h => by cases h
  | .map .., u, h => by cases h
  | .fs .., u, h => by cases h
  | .slb .., u, h => by cases h
theorem RelL.of_exact : ∀ {xs : List V} {l : List Value}, V.exactL xs = some l → RelL I φ xs l
  | [], l, h => by cases h; exact .nil
  | x :: xs, l, h => by
    unfold V.exactL at h
    cases hx : x.exact with
    | none => rw [hx] at h; cases h
    | some v =>
      cases hl : V.exactL xs with
      | none => rw [hx, hl] at h; cases h
      | some l' => rw [hx, hl] at h; cases h; exact .cons (Rel.of_exact hx) (RelL.of_exact hl)
end
end
/-! Functions that only look at cells of a block, through a pointer -/
def fillM : List (Option V) → List Value → List V
  | some z :: ms, _ :: us => z :: fillM ms us
  | none :: ms, u :: us => .sc u :: fillM ms us
  | _, _ => []
theorem fillM_get : ∀ {ms : List (Option V)} {us : List Value} {j : Nat} {u : Value}, ms.length = us.length → us[j]? = some u → (fillM ms us)[j]? = some (match ms[j]? with | some (some z) => z | _ => .sc u)
  | [], [], j, u, _, h => by simp at h
  | [], _ :: _, _, _, h, _ => by simp at h
  | _ :: _, [], _, _, h, _ => by simp at h
  | m :: ms, w :: us, j, u, hl, h => by
    cases j with
    | zero =>
      simp at h
      subst h
      cases m <;> rfl
    | succ j =>
      have ih := fillM_get (ms := ms) (us := us) (j := j) (u := u) (by simpa using hl) (by simpa using h)
      cases m <;> simpa [fillM] using ih
theorem fillM_len : ∀ {ms : List (Option V)} {us : List Value}, ms.length = us.length → (fillM ms us).length = us.length
  | [], [], _ => rfl
  | [], _ :: _, h => by simp at h
  | _ :: _, [], h => by simp at h
  | m :: ms, w :: us, hl => by
    have ih := fillM_len (ms := ms) (us := us) (by simpa using hl)
    cases m <;> simpa [fillM] using ih
def maskOK (H : List Bk) (id : Nat) (mask : List (Option V)) : Prop := ∃ ks, H[id]? = some (.cells ks) ∧ mask.length ≤ ks.length ∧ ∀ (j : Nat) (z : V), mask[j]? = some (some z) → ks[j]? = some (.v z) ∧ z.closed = true
def LookFn (P : Program) (k : FuncId) (mask : List (Option V)) (xs : List V) (r : V) : Prop := ∀ us : List Value, us.length = mask.length → PFn P k (.rd (fillM mask us) :: xs) r
def lookK (P : Program) (N : Nat) (dst : Option Tmp) (k : FuncId) (xs : List V) (F : Fr) (H : List Bk) (K : St → Prop) : Prop := match xs with
  | .ptr id 0 :: vs => ∃ mask r, LookFn P k mask vs r ∧ V.closedL vs = true ∧ r.exact.isSome = true ∧ maskOK H id mask ∧ putK N dst (.v r) ⟨F, H⟩ K
  | _ => False
/-- What is handed over, seen as if no block would ever turn. -/
def FView (H : List Bk) (xs : List V) (Y : List V → Prop) : Prop := ∀ (c : Cx) (w : World) (vs : List Value), Inv c H w → RelL c.I c.φ xs vs → ∃ ys, Y ys ∧ RelL (fun b o => w.cell? ⟨b, o, none⟩) [] ys vs
/-- A function that only looks. -/
def SeeFn (P : Program) (k : FuncId) (Y : List V → Prop) (r : V) : Prop := Enters P k ∧ ∀ ys, Y ys → PFn P k ys r
def seeK (P : Program) (N : Nat) (dst : Option Tmp) (k : FuncId) (xs : List V) (F : Fr) (H : List Bk) (K : St → Prop) : Prop := ∃ Y r, SeeFn P k Y r ∧ FView H xs Y ∧ r.exact.isSome = true ∧ putK N dst (.v r) ⟨F, H⟩ K
def zcallK (P : Program) (N : Nat) (dst : Option Tmp) (k : FuncId) (xs : List V) (F : Fr) (H : List Bk) (K : St → Prop) : Prop := xcallK P N dst k xs F H K ∨ lookK P N dst k xs F H K ∨ seeK P N dst k xs F H K
theorem zcallK.of {P : Program} {N : Nat} {dst : Option Tmp} {k : FuncId} {xs : List V} {F : Fr} {H : List Bk} {K : St → Prop} {r : V} (h : PFn P k xs r) (hx : V.closedL xs = true) (hr : r.closed = true) (hk : putK N dst (.v r) ⟨F, H⟩ K) : zcallK P N dst k xs F H K := .inl ⟨r, h, hx, hr, hk⟩
theorem zcallK.look {P : Program} {N : Nat} {dst : Option Tmp} {k : FuncId} {id : Nat} {vs : List V} {F : Fr} {H : List Bk} {K : St → Prop} {r : V} {mask : List (Option V)} (h : LookFn P k mask vs r) (hx : V.closedL vs = true) (hr : r.exact.isSome = true) (hm : maskOK H id mask) (hk : putK N dst (.v r) ⟨F, H⟩ K) : zcallK P N dst k (.ptr id 0 :: vs) F H K := .inr (.inl ⟨mask, r, h, hx, hr, hm, hk⟩)
theorem zcallK.see {P : Program} {N : Nat} {dst : Option Tmp} {k : FuncId} {xs : List V} {F : Fr} {H : List Bk} {K : St → Prop} {r : V} {Y : List V → Prop} (h : SeeFn P k Y r) (hv : FView H xs Y) (hr : r.exact.isSome = true) (hk : putK N dst (.v r) ⟨F, H⟩ K) : zcallK P N dst k xs F H K := .inr (.inr ⟨Y, r, h, hv, hr, hk⟩)
/-- Nothing that was there has changed. -/
theorem Sim.agree {c : Cx} {N : Nat} {s : St} {a : Act} {w w' : World} (h : Sim c N s a w) (ha : Agree w w') (hs : w.heap.size ≤ w'.heap.size) : Sim c N s a w' := by
  refine ⟨⟨fun b o v hv => ha.cell (h.inv.imm b o v hv), h.inv.len, fun b hb => Nat.lt_of_lt_of_le (h.inv.lt b hb) hs, h.inv.uniq, fun id b k hb hk => ?_⟩, h.size, h.defers, fun t x hx => ?_⟩
  · obtain ⟨h1, h2, h3⟩ := h.inv.blk id b k hb hk
    have hlt := h.inv.lt b (by rw [h1]; simp)
    refine ⟨h1, h2, ?_⟩
    by_cases hck : ∃ cs, k = .cells cs
    · obtain ⟨cs, rfl⟩ := hck
      obtain ⟨arr, e, g1, g2, g6, g3⟩ := h3
      refine ⟨arr, e, (ha b hlt).trans g1, g2, g6, fun j x u hx hu => ⟨(g3 j x u hx hu).1, ?_⟩⟩
      exact SRel.mono (c := c) (c' := c) (w := w) (w' := w') (fun _ _ _ h => h) (fun _ _ h => h) (fun b' q _ hq => by
        have := h.inv.lt b' (by rw [hq]; simp)
        exact ⟨hq, ha b' this, fun _ => rfl⟩) (g3 j x u hx hu).2
    · exact BRel.stay (fun cs e => hck ⟨cs, e⟩) h3 (fun _ _ _ h => h) (fun _ _ h => h) (fun b' o ho _ => (ha b' (obj_lt ho)).trans ho)
  · obtain ⟨u, hu, hr⟩ := h.fr t x hx
    refine ⟨u, hu, SRel.mono (c := c) (c' := c) (w := w) (w' := w') (fun _ _ _ h => h) (fun _ _ h => h) (fun b' q _ hq => ?_) hr⟩
    have := h.inv.lt b' (by rw [hq]; simp)
    exact ⟨hq, ha b' this, fun _ => rfl⟩
theorem look_run {P : Program} {c : Cx} {N : Nat} {F : Fr} {H : List Bk} {a : Act} {w : World} {k : FuncId} {mask : List (Option V)} {id : Nat} {vs : List V} {r : V} {us : List Value} {u0 : Value} (h : Sim c N ⟨F, H⟩ a w) (hL : LookFn P k mask vs r) (hx : V.closedL vs = true) (he : r.exact = some u0) (hm : maskOK H id mask) (hargs : RelL c.I c.φ (.ptr id 0 :: vs) us) :
    Enters P k ∧ Calls P k us.toArray w fun e w' => e = .returned u0 ∧ Sim c N ⟨F, H⟩ a w' ∧ Ext c w c w' ∧ Agree w w' := by
  obtain ⟨ks, hk, hlen, hmz⟩ := hm
  cases hargs with
  | cons hp hvs =>
    cases hp with
    | @ptr _ _ b hb =>
      obtain ⟨h1, h2, arr, e, g1, g2, g6, g3⟩ := h.inv.blk id b _ hb hk
      let uu := arr.toList.take mask.length
      have huu : uu.length = mask.length := by
        have : arr.toList.length = ks.length := by simpa using g2
        simp only [uu, List.length_take]
        omega
      let c0 : Cx := ⟨fun b' o => if b' = b then uu[o]? else c.I b' o, [], fun _ => .out⟩
      have hI : ∀ b' o v, c.I b' o = some v → c0.I b' o = some v := fun b' o v hv => by
        have : b' ≠ b := by rintro rfl; rw [h2] at hv; cases hv
        simp [c0, this, hv]
      have ucell : ∀ (o : Nat) (v : Value), uu[o]? = some v → arr[o]? = some v := fun o v hv => by
        simp only [uu, List.getElem?_take] at hv
        split at hv
        · simpa using hv
        · cases hv
      have hi0 : Inv c0 [] w := ⟨fun b' o v hv => by
        simp only [c0] at hv
        split at hv
        · rename_i e'
          subst e'
          simp [World.cell?, g1, ucell o v hv]
        · exact h.inv.imm b' o v hv, rfl, fun b hb => absurd rfl hb, fun b b' r hb => (by cases hb), fun id b k hb => (by simp [c0] at hb)⟩
      have hfill : RelL c0.I c0.φ (fillM mask uu) uu := RelL.of_get (fillM_len huu.symm) fun j x v hx hv => by
        have hg := fillM_get (ms := mask) (us := uu) huu.symm hv
        rw [hg] at hx
        cases hx
        split
        · rename_i z hz
          obtain ⟨q1, q2⟩ := hmz j z hz
          have hr := (g3 j _ v q1 (ucell j v hv)).2
          exact Rel.closed (Rel.mono hI (fun _ _ h => h) hr) q2
        · exact .sc v
      have hrel : RelL c0.I c0.φ (.rd (fillM mask uu) :: vs) (.pointer (some ⟨b, 0, none⟩) :: _) := .cons (.rd hfill (fun j u hu => by simp [c0, hu]) (fun u hu => g6 u (List.mem_of_mem_take hu))) (RelL.closed (RelL.mono hI (fun _ _ h => h) hvs) hx)
      obtain ⟨hen, hcall⟩ := hL uu huu
      refine ⟨hen, (hcall c0 w _ hi0 (fun b t e => by cases e) hrel).mono fun e' w' hq => ?_⟩
      obtain ⟨v, y, H1, c3, rfl, k1, k2, k3, k4, rfl⟩ := hq
      have ha : Agree w w' := fun b hb => (k4.out b hb rfl).1
      have hs := h.agree ha k4.size
      exact ⟨by rw [Rel.exact k1 he], hs, ⟨k4.os, k4.tape, k4.output, k4.size, fun b hb hr => ⟨ha b hb, hr, fun _ => rfl⟩, fun _ _ _ h => h, fun _ _ h => h⟩, ha⟩
theorem see_run {P : Program} {c : Cx} {N : Nat} {F : Fr} {H : List Bk} {a : Act} {w : World} {k : FuncId} {Y : List V → Prop} {xs : List V} {r : V} {us : List Value} {u0 : Value} (h : Sim c N ⟨F, H⟩ a w) (hL : SeeFn P k Y r) (hV : FView H xs Y) (he : r.exact = some u0) (hargs : RelL c.I c.φ xs us) :
    Enters P k ∧ Calls P k us.toArray w fun e w' => e = .returned u0 ∧ Sim c N ⟨F, H⟩ a w' ∧ Ext c w c w' ∧ Agree w w' := by
  obtain ⟨ys, hY, hys⟩ := hV c w us h.inv hargs
  let c0 : Cx := ⟨fun b o => w.cell? ⟨b, o, none⟩, [], fun _ => .out⟩
  have hi0 : Inv c0 [] w := ⟨fun b o v hv => hv, rfl, fun b hb => absurd rfl hb, fun b b' r hb => (by cases hb), fun id b k hb => (by simp [c0] at hb)⟩
  refine ⟨hL.1, ((hL.2 ys hY).2 c0 w us hi0 (fun b t e => by cases e) hys).mono fun e' w' hq => ?_⟩
  obtain ⟨v, y, H1, c3, rfl, k1, k2, k3, k4, rfl⟩ := hq
  have ha : Agree w w' := fun b hb => (k4.out b hb rfl).1
  have hs := h.agree ha k4.size
  exact ⟨by rw [Rel.exact k1 he], hs, ⟨k4.os, k4.tape, k4.output, k4.size, fun b hb hr => ⟨ha b hb, hr, fun _ => rfl⟩, fun _ _ _ h => h, fun _ _ h => h⟩, ha⟩
theorem SeeFn.afn {P : Program} {k : FuncId} {Y : List V → Prop} {xs : List V} {r : V} {H : List Bk} (hL : SeeFn P k Y r) (hV : FView H xs Y) (he : r.exact.isSome = true) : AFn P k xs H fun y H' => y = r ∧ H' = H := by
  obtain ⟨u0, hu0⟩ := Option.isSome_iff_exists.1 he
  refine ⟨hL.1, fun c w us hi hn hr => ?_⟩
  have hs : Sim c 0 ⟨[], H⟩ { tmps := #[], defers := [] } w := ⟨hi, rfl, rfl, fun t x hx => by cases hx⟩
  refine (see_run hs hL hV hu0 hr).2.mono fun e w' hq => ?_
  obtain ⟨rfl, q1, q2, _⟩ := hq
  exact ⟨u0, r, H, c, rfl, Rel.of_exact hu0, q1.inv, hn, q2, rfl, rfl⟩
/-- Such a function, asked elsewhere. -/
theorem LookFn.afn {P : Program} {k : FuncId} {mask : List (Option V)} {id : Nat} {vs : List V} {r : V} {H : List Bk} (hL : LookFn P k mask vs r) (hx : V.closedL vs = true) (he : r.exact.isSome = true) (hm : maskOK H id mask) : AFn P k (.ptr id 0 :: vs) H fun y H' => y = r ∧ H' = H := by
  obtain ⟨u0, hu0⟩ := Option.isSome_iff_exists.1 he
  refine ⟨(hL (List.replicate mask.length undef) (by simp)).1, fun c w us hi hn hr => ?_⟩
  have hs : Sim c 0 ⟨[], H⟩ { tmps := #[], defers := [] } w := ⟨hi, rfl, rfl, fun t x hx => by cases hx⟩
  refine (look_run hs hL hx hu0 hm hr).2.mono fun e w' hq => ?_
  obtain ⟨rfl, q1, q2, _⟩ := hq
  exact ⟨u0, r, H, c, rfl, Rel.of_exact hu0, q1.inv, hn, q2, rfl, rfl⟩
def zcall (P : Program) (N : Nat) (dst : Option Tmp) (f : Operand) (args : List Operand) (F0 : Fr) (s : St) (K : Fr → St → Prop) : Prop := match evalV s f, valsV s args with
  | some (.fn (.func k) first cap), some vs => zcallK P N dst k (first ++ vs ++ cap) s.F s.H (K (new0 dst none F0))
  | _, _ => False
def dltB (N : Nat) : Option Tmp → Bool
  | some d => decide (d < N)
  | none => true
/-- How long a row is: no memory is read. -/
def zlenK (P : Program) (N : Nat) (dst : Option Tmp) (args : List Operand) (ts : List TypeId) (F0 : Fr) (s : St) (K : Fr → St → Prop) : Prop := match args, ts with
  | [x], [t] => match eval s x, P.underlying t with
    | some p, some (.slice _) => match lenV p with
      | some n => putK N dst (.v (.sc (.int .i64 n))) s (K (new0 dst none F0))
      | none => False
    | _, _ => False
  | _, _ => False
def zop (P : Program) (N : Nat) (ops : List Oper) (Fs : Fr) (H0 : List Bk) (o : Oper) (F0 : Fr) (s : St) (K : Fr → St → Prop) : Prop := match o.op with
  | .load t x => zload P N Fs H0 o.dst t x F0 s K
  | .call { callee := .value f, args, .. } => zcall P N o.dst f args.toList F0 s K
  | .call { callee := .builtin .len, args, argTypes } => zlenK P N o.dst args.toList argTypes.toList F0 s K
  | op => memB op = false ∧ (Mix.effB o = false ∨ Mix.laysB o = true) ∧ dltB N o.dst = true ∧ aop P N ops o s (K (new0 o.dst (z0 P F0 s o) F0))
def zops (P : Program) (N : Nat) (ops : List Oper) (Fs : Fr) (H0 : List Bk) : List Oper → (St → Prop) → Fr → St → Prop
  | [], K, _, s => K s
  | o :: rest, K, F0, s => match o.guard with
    | none => zop P N ops Fs H0 o F0 s (zops P N ops Fs H0 rest K)
    | some (j, want) => match (ops[j]?).bind (·.dst) with
      | some t => match getF t s.F with
        | some (.v (.sc (.bool b))) => gd b want (zop P N ops Fs H0 o F0 ⟨setF t (.v (.sc (.bool want))) s.F, s.H⟩ (zops P N ops Fs H0 rest K)) (putK N o.dst (.v (.tup [])) ⟨setF t (.v (.sc (.bool (!want)))) s.F, s.H⟩ (zops P N ops Fs H0 rest K (new0 o.dst none F0)))
        | some (.v (.tup [])) => putK N o.dst (.v (.tup [])) s (zops P N ops Fs H0 rest K (new0 o.dst none F0))
        | _ => False
      | none => False
section
variable {P : Program} {N : Nat} {ops rest : List Oper} {Fs F0 : Fr} {H0 H : List Bk} {F : Fr} {o : Oper} {K : St → Prop} {K' : Fr → St → Prop}
theorem zcall' {dst : Option Tmp} {f : Operand} {args : List Operand} : zcall P N dst f args F0 ⟨F, H⟩ K' = match evalV ⟨F, H⟩ f, valsV ⟨F, H⟩ args with
  | some (.fn (.func k) first cap), some vs => zcallK P N dst k (first ++ vs ++ cap) F H (K' (new0 dst none F0))
  | _, _ => False := rfl
theorem zops_nil' : zops P N ops Fs H0 [] K F0 ⟨F, H⟩ = K ⟨F, H⟩ := rfl
theorem zops_cons' : zops P N ops Fs H0 (o :: rest) K F0 ⟨F, H⟩ = match o.guard with
    | none => zop P N ops Fs H0 o F0 ⟨F, H⟩ (zops P N ops Fs H0 rest K)
    | some (j, want) => match (ops[j]?).bind (·.dst) with
      | some t => match getF t F with
        | some (.v (.sc (.bool b))) => gd b want (zop P N ops Fs H0 o F0 ⟨setF t (.v (.sc (.bool want))) F, H⟩ (zops P N ops Fs H0 rest K)) (putK N o.dst (.v (.tup [])) ⟨setF t (.v (.sc (.bool (!want)))) F, H⟩ (zops P N ops Fs H0 rest K (new0 o.dst none F0)))
        | some (.v (.tup [])) => putK N o.dst (.v (.tup [])) ⟨F, H⟩ (zops P N ops Fs H0 rest K (new0 o.dst none F0))
        | _ => False
      | none => False := rfl
theorem zop' : zop P N ops Fs H0 o F0 ⟨F, H⟩ K' = match o.op with
  | .load t x => zload P N Fs H0 o.dst t x F0 ⟨F, H⟩ K'
  | .call { callee := .value f, args, .. } => zcall P N o.dst f args.toList F0 ⟨F, H⟩ K'
  | .call { callee := .builtin .len, args, argTypes } => zlenK P N o.dst args.toList argTypes.toList F0 ⟨F, H⟩ K'
  | op => memB op = false ∧ (Mix.effB o = false ∨ Mix.laysB o = true) ∧ dltB N o.dst = true ∧ aop P N ops o ⟨F, H⟩ (K' (new0 o.dst (z0 P F0 ⟨F, H⟩ o) F0)) := rfl
end
section
variable {P : Program} {c c0 : Cx} {N : Nat} {s : St} {a a0 : Act} {w w0 : World} {Fs F0 : Fr} {H0 : List Bk}
structure PastZ (c0 : Cx) (Fs : Fr) (H0 : List Bk) (w0 : World) (N : Nat) (F0 : Fr) (c : Cx) (a : Act) (w : World) : Prop where
  start : ∃ a0, Sim c0 N ⟨Fs, H0⟩ a0 w0
  ext : Ext c0 w0 c w
  agree : Agree w0 w
  vals : ∀ p ∈ F0, SRel c0 w0 (.slot p.1) p.2 (a.eval (.tmp p.1))
theorem PastZ.look {x : Operand} {y : SV} (h : PastZ c0 Fs H0 w0 N F0 c a w) (hx : old0 F0 x = some y) (r : Root) (hr : ∀ pr e n sz cs, y ≠ .own pr e n sz cs) : SRel c0 w0 r y (a.eval x) := by
  unfold old0 at hx
  cases x with
  | tmp u =>
    simp only at hx
    split at hx
    · rename_i hg
      cases hx
      exact own_lnk (h.vals _ (mem_getF hg)) r
    · have h1 := h.vals _ (mem_getF hx)
      cases y with
      | own pr e n sz cs => exact absurd rfl (hr _ _ _ _ _)
      | _ => exact h1
  | _ => cases hx
theorem old0_own {x : Operand} {pr : Bool} {e n sz : Nat} {cs : List V} : old0 F0 x ≠ some (.own pr e n sz cs) := by
  unfold old0
  cases x with
  | tmp u =>
    simp only
    split
    · simp
    · rename_i h
      exact fun e => h _ _ _ _ _ e
  | _ => simp
/-- What is known of a result, out of what was known at the head. -/
theorem z0_sound {o : Oper} {y : SV} {v : Value} (h : Sim c N s a w) (p : PastZ c0 Fs H0 w0 N F0 c a w) (hz : z0 P F0 s o = some y) (hr : (execOp a.eval o).run P w = .ok (.value v) w) : ∀ d, SRel c0 w0 (.slot d) y v := by
  intro d
  unfold z0 at hz
  split at hz
  · rename_i x ho
    have h1 := p.look hz (.slot d) (fun _ _ _ _ _ e => old0_own (e ▸ hz))
    unfold execOp at hr
    simp only [ho, Sem.run_pure] at hr
    cases hr
    exact h1
  · rename_i t x f ho
    split at hz
    · rename_i q n hx hf
      have h1 := p.look hx (.slot d) (fun _ _ _ _ _ e => old0_own (e ▸ hx))
      obtain ⟨b, off, e1, e2⟩ := shift_rel h1 hz
      unfold execOp at hr
      simp only [ho, e1, run_fieldAt hf, Sem.run_bind, Result.andThen_ok, Sem.run_pure] at hr
      cases hr
      exact e2 _
    · cases hz
  · rename_i t x ix ho
    split at hz
    · rename_i n sz cs kd i e hx hi hu
      split at hz
      · rename_i hc
        obtain ⟨h1, h2, h3⟩ := hc
        cases hz
        have hix : a.eval ix = .int kd i := Rel.exact (evalV_rel h hi) rfl
        have hq : Rel c0.I c0.φ (.sl n sz cs) (a.eval x) := p.look hx (.slot d) (fun _ _ _ _ _ e => by cases e)
        generalize hv : a.eval x = u at hq
        cases hq with
        | sl r1 r2 r3 r4 r5 r6 =>
          unfold execOp at hr
          simp only [ho, hv, hix, Sem.run_bind, run_indexAt hu h1 h2 h3, Result.andThen_ok, Sem.run_pure] at hr
          cases hr
          refine Rel.rd ((r1.drop _).take _) (fun j u hu => ?_) (fun u hu => r6 u (List.mem_of_mem_drop (List.mem_of_mem_take hu)))
          rw [List.getElem?_take] at hu
          split at hu
          · rw [List.getElem?_drop] at hu
            rw [Nat.add_assoc]
            exact r2 _ u hu
          · cases hu
        | sl0 => omega
      · cases hz
    · rename_i r n kd i e hx hi hu
      split at hz
      · rename_i sz h1
        split at hz
        · rename_i hc
          obtain ⟨h2, h3⟩ := hc
          cases hz
          have hix : a.eval ix = .int kd i := Rel.exact (evalV_rel h hi) rfl
          have hq := p.look hx (.slot d) (fun _ _ _ _ _ e => by cases e)
          rcases hq with ⟨_, e0⟩ | ⟨b, cap, hv, hR⟩
          · omega
          · unfold execOp at hr
            simp only [ho, hv, hix, Sem.run_bind, run_indexAt hu h1 h2 h3, Result.andThen_ok, Sem.run_pure] at hr
            cases hr
            exact ⟨b, by simp, hR⟩
        · cases hz
      · cases hz
    · rename_i id off n cap kd i e hx hi hu
      split at hz
      · rename_i sz h1
        split at hz
        · rename_i hc
          obtain ⟨h2, h3⟩ := hc
          cases hz
          have hix : a.eval ix = .int kd i := Rel.exact (evalV_rel h hi) rfl
          have hq : Rel c0.I c0.φ (.slb id off n cap) (a.eval x) := p.look hx (.slot d) (fun _ _ _ _ _ e => by cases e)
          generalize hv : a.eval x = u at hq
          cases hq with
          | slb0 => omega
          | slb r1 r2 r3 =>
            unfold execOp at hr
            simp only [ho, hv, hix, Sem.run_bind, run_indexAt hu h1 h2 h3, Result.andThen_ok, Sem.run_pure] at hr
            cases hr
            exact Rel.ptr r1
        · cases hz
      · cases hz
    · rename_i q kd i n e hx hi hu
      split at hz
      · rename_i sz h1
        split at hz
        · rename_i hc
          obtain ⟨h2, h3⟩ := hc
          have hix : a.eval ix = .int kd i := Rel.exact (evalV_rel h hi) rfl
          have h4 := p.look hx (.slot d) (fun _ _ _ _ _ e => old0_own (e ▸ hx))
          obtain ⟨b, off, e1, e2⟩ := shift_rel h4 hz
          unfold execOp at hr
          simp only [ho, e1, hix, Sem.run_bind, run_indexAt_arr hu h1 h2 h3, Result.andThen_ok, Sem.run_pure] at hr
          cases hr
          exact e2 _
        · cases hz
      · cases hz
    · cases hz
  · rename_i x ho
    split at hz
    · rename_i id off hx
      cases hz
      have hq : Rel c0.I c0.φ (.ptr id off) (a.eval x) := p.look hx (.slot d) (fun _ _ _ _ _ e => by cases e)
      generalize hv : a.eval x = u at hq
      cases hq with
      | ptr hb =>
        unfold execOp at hr
        simp only [ho, hv, Sem.run_pure] at hr
        cases hr
        exact Rel.ptr hb
    · cases hz
  · cases hz
theorem remF_mem {d : Nat} {p : Nat × SV} {F : Fr} (h : p ∈ remF d F) : p.1 ≠ d ∧ p ∈ F := by
  unfold remF at h
  obtain ⟨h1, h2⟩ := List.mem_filter.1 h
  exact ⟨by simpa using h2, h1⟩
def ZP (c0 : Cx) (Fs : Fr) (H0 : List Bk) (w0 : World) (N : Nat) (K : Fr → St → Prop) (a' : Act) (w' : World) : Prop := ∃ c' s' F0', Sim c' N s' a' w' ∧ PastZ c0 Fs H0 w0 N F0' c' a' w' ∧ K F0' s'
theorem PastZ.put {dst : Option Tmp} {y : Option SV} {v : Value} {c' : Cx} {w' : World} (p : PastZ c0 Fs H0 w0 N F0 c a w) (hs : a.tmps.size = N) (hN : ∀ d, dst = some d → d < N) (hx : Ext c w c' w') (hg : Agree w0 w') (hy : ∀ d z, dst = some d → y = some z → SRel c0 w0 (.slot d) z v) :
    PastZ c0 Fs H0 w0 N (new0 dst y F0) c' (a.put dst v) w' := by
  refine ⟨p.start, p.ext.trans hx, hg, fun q hq => ?_⟩
  have keep : ∀ q ∈ F0, dst ≠ some q.1 → SRel c0 w0 (.slot q.1) q.2 ((a.put dst v).eval (.tmp q.1)) := fun q hq hne => by
    have : (a.put dst v).eval (.tmp q.1) = a.eval (.tmp q.1) := Act.eval_put fun d' hd' e' => by cases e'; exact hne hd'
    rw [this]
    exact p.vals q hq
  unfold new0 at hq
  cases dst with
  | none => exact keep q hq (by simp)
  | some d =>
    have hlt : d < a.tmps.size := by rw [hs]; exact hN d rfl
    have ev : (a.put (some d) v).eval (.tmp d) = v := by simp [Act.eval, Act.put, hlt]
    cases y with
    | none =>
      obtain ⟨h1, h2⟩ := remF_mem (by simpa using hq)
      exact keep q h2 (by simpa using Ne.symm h1)
    | some z =>
      simp only [List.mem_cons] at hq
      rcases hq with rfl | hq
      · rw [ev]; exact hy d z rfl rfl
      · obtain ⟨h1, h2⟩ := remF_mem hq
        exact keep q h2 (by simpa using Ne.symm h1)
theorem put_zp {dst : Option Tmp} {y : SV} {z : Option SV} {v : Value} {K : Fr → St → Prop} (h : Sim c N s a w) (p : PastZ c0 Fs H0 w0 N F0 c a w) (hk : putK N dst y s (K (new0 dst z F0))) (hx : ∀ d, dst = some d → SRel c w (.slot d) y v)
    (hz : ∀ d z', dst = some d → z = some z' → SRel c0 w0 (.slot d) z' v) : ZP c0 Fs H0 w0 N K (a.put dst v) w := by
  cases dst with
  | none => exact ⟨c, s, _, h, p.put (dst := none) (y := z) h.size (fun d e => by cases e) (Ext.refl c w) p.agree hz, hk⟩
  | some d =>
    obtain ⟨h1, h2, h3⟩ := hk
    have h4 := Sim.put (F := s.F) (H := s.H) h h1 (fitB_fit h2) (hx d rfl)
    exact ⟨_, _, _, h4, p.put (dst := some d) (y := z) h.size (fun d' e => by cases e; exact h1) (Ext.free c w _) p.agree hz, h3⟩
theorem zloadOwn_does {o : Oper} {t : TypeId} {x : Operand} {K : Fr → St → Prop} {q : SV} (ho : o.op = .load t x) (hx : old0 F0 x = some q) (ha : aggT P t = some false) (h : Sim c N s a w) (p : PastZ c0 Fs H0 w0 N F0 c a w) (hk : zloadOwn N H0 o.dst q F0 s K) :
    ∃ v, (∀ w', Agree w0 w' → (execOp a.eval o).run P w' = .ok (.value v) w') ∧ ZP c0 Fs H0 w0 N K (a.put o.dst v) w := by
  unfold zloadOwn at hk
  split at hk
  · rename_i id off d hd
    split at hk
    · rename_i ks ks' hk0 hk1
      split at hk
      · rename_i pr e n sz cs pr' e' n' sz' cs' hj0 hj1
        obtain ⟨hlt, hk⟩ := hk
        obtain ⟨a0, h0⟩ := p.start
        have hq : Rel c0.I c0.φ (.ptr id off) (a.eval x) := p.look hx (.slot 0) (fun _ _ _ _ _ e => by cases e)
        generalize hv : a.eval x = u at hq
        cases hq with
        | ptr hb =>
          rename_i b
          obtain ⟨_, _, arr, _, g1, g2, _, g3⟩ := h0.inv.blk id b _ hb hk0
          obtain ⟨_, _, arr', _, g1', g2', _, g3'⟩ := h.inv.blk id b _ (p.ext.phi _ _ hb) hk1
          have hoff : off < arr.size := by rw [g2]; exact (List.getElem?_eq_some_iff.1 hj0).1
          have hoff' : off < arr'.size := by rw [g2']; exact (List.getElem?_eq_some_iff.1 hj1).1
          have hcell : w0.cell? ⟨b, off, none⟩ = some arr[off] := by simp [World.cell?, g1, hoff]
          have hcell' : w.cell? ⟨b, off, none⟩ = some arr'[off] := by simp [World.cell?, g1', hoff']
          have heq : arr'[off] = arr[off] := by
            have := p.agree.cell hcell
            rw [hcell'] at this
            simpa using this
          have l0 := own_lnk (g3 off _ _ hj0 (Array.getElem?_eq_getElem hoff)).2
          have l1 := own_lnk (g3' off _ _ hj1 (Array.getElem?_eq_getElem hoff')).2
          rw [heq] at l1
          refine ⟨arr[off], fun w' hw => ?_, ?_⟩
          · have h8 := hw.cell hcell
            unfold execOp
            simp only [ho, hv, Instr.loadAt, Instr.sureAddr, Sem.run_bind, Sem.run_pure, Result.andThen_ok, loadVar, run_isAgg ha, Bool.false_eq_true, if_false]
            simp [load, Sem.run, h8]
          · rw [hd]
            have h4 := Sim.put (F := s.F) (H := s.H) h hlt (x := .lnk (.cell id off) n') (fun e => by cases e) (l1 (.slot d))
            exact ⟨_, _, _, h4, p.put (dst := some d) (y := some (.lnk (.cell id off) n)) h.size (fun d' e => by cases e; exact hlt) (Ext.free c w _) p.agree (fun d' z e1 e2 => by cases e1; cases e2; exact l0 _), hk⟩
      · exact hk.elim
    · exact hk.elim
  · exact hk.elim
theorem zop_does {ops : List Oper} {o : Oper} {K : Fr → St → Prop} (h : Sim c N s a w) (p : PastZ c0 Fs H0 w0 N F0 c a w) (hk : zop P N ops Fs H0 o F0 s K) :
    (Mix.effB o = true → o.wp P a w (fun a' w' => Agree w0 w' ∧ ZP c0 Fs H0 w0 N K a' w') Mix.bot) ∧ (Mix.effB o = false → ∃ v, (∀ w', Agree w0 w' → (execOp a.eval o).run P w' = .ok (.value v) w') ∧ ZP c0 Fs H0 w0 N K (a.put o.dst v) w) := by
  unfold zop at hk
  split at hk
  · rename_i t x ho
    refine ⟨fun he => by simp [Mix.effB, ho] at he, fun _ => ?_⟩
    unfold zload at hk
    split at hk
    · rename_i q agg n hx ha hn
      cases hc : cellsAt ⟨Fs, H0⟩ q with
      | none => rw [hc] at hk; exact hk.elim
      | some cs =>
        rw [hc] at hk
        simp only at hk
        cases hl : ldV agg n cs with
        | none =>
          rw [hl] at hk
          cases agg with
          | true =>
            simp only [cond_true] at hk
            cases hsh : sharesAt H0 q with
            | none => rw [hsh] at hk; exact hk.elim
            | some cs2 =>
              rw [hsh] at hk
              simp only at hk
              cases hl2 : ldV true n cs2 with
              | none => rw [hl2] at hk; exact hk.elim
              | some y =>
                rw [hl2] at hk
                obtain ⟨a0, h0⟩ := p.start
                have hq := p.look hx (.slot 0) (fun _ _ _ _ _ e => old0_own (e ▸ hx))
                obtain ⟨b, off, vs, e1, r1, r2, _⟩ := read_shares h0 hq hsh
                obtain ⟨v, r3, r4⟩ := run_loadAt (P := P) ha hn r1 r2 hl2
                refine ⟨v, fun w' hw => ?_, put_zp h p hk (fun d _ => Rel.mono p.ext.imm p.ext.phi r3) fun d z _ hz => by cases hz; exact r3⟩
                unfold execOp
                simp only [ho, e1, Sem.run_bind, r4 w' hw, Result.andThen_ok, Sem.run_pure]
          | false =>
            simp only [cond_false] at hk
            exact zloadOwn_does ho hx ha h p hk
        | some y =>
          rw [hl] at hk
          obtain ⟨a0, h0⟩ := p.start
          have hq := p.look hx (.slot 0) (fun _ _ _ _ _ e => old0_own (e ▸ hx))
          obtain ⟨b, off, vs, e1, r1, r2, _⟩ := read_cells h0 hq hc
          obtain ⟨v, r3, r4⟩ := run_loadAt (P := P) ha hn r1 r2 hl
          refine ⟨v, fun w' hw => ?_, put_zp h p hk (fun d _ => Rel.mono p.ext.imm p.ext.phi r3) fun d z _ hz => by cases hz; exact r3⟩
          unfold execOp
          simp only [ho, e1, Sem.run_bind, r4 w' hw, Result.andThen_ok, Sem.run_pure]
    · exact hk.elim
  · rename_i f args ts ho
    refine ⟨fun _ => ?_, fun he => by simp [Mix.effB, ho] at he⟩
    unfold zcall at hk
    split at hk
    · rename_i k first cap vs hf hv
      have hfr := evalV_rel h hf
      generalize hfv : a.eval f = fv at hfr
      cases hfr with
      | fn r1 r2 =>
        rename_i first' cap'
        have hvs := valsV_rel h hv
        have hargs : RelL c.I c.φ (first ++ vs ++ cap) (first'.toList ++ args.toList.map a.eval ++ cap'.toList) := (r1.append hvs).append r2
        have looked : ∀ (r : V) (u0 : Value), r.exact = some u0 → Enters P k → Calls P k (first'.toList ++ args.toList.map a.eval ++ cap'.toList).toArray w (fun e w' => e = .returned u0 ∧ Sim c N s a w' ∧ Ext c w c w' ∧ Agree w w') → putK N o.dst (.v r) s (K (new0 o.dst none F0)) → o.wp P a w (fun a' w' => Agree w0 w' ∧ ZP c0 Fs H0 w0 N K a' w') Mix.bot := by
          intro r u0 hu0 hen hcl hk
          have hrun : (execOp a.eval o).run P w = .ok (.enter k (first'.toList ++ args.toList.map a.eval ++ cap'.toList).toArray) w := by
            rw [← callFunc_run hen]
            unfold execOp
            simp only [ho, resolve, hfv, Deferred.ofValue, Sem.run_bind, Sem.run_pure, Result.andThen_ok, invoke]
            congr 2
            apply Array.toList_inj.1
            simp
          unfold Oper.wp
          rw [hrun, Oper.upon_enter]
          refine hcl.mono fun e w' he => ?_
          obtain ⟨rfl, s4, x4, ag⟩ := he
          have hag : Agree w0 w' := fun b hb => (ag b (Nat.lt_of_lt_of_le hb p.ext.size)).trans (p.agree b hb)
          have p4 : PastZ c0 Fs H0 w0 N F0 c a w' := ⟨p.start, p.ext.trans x4, hag, p.vals⟩
          exact ⟨hag, put_zp s4 p4 hk (fun d _ => Rel.of_exact hu0) fun d z _ hz => by cases hz⟩
        rcases hk with ⟨r, hp, c1, c2, hk⟩ | hk | ⟨Y, r, hL, hV, he, hk⟩
        rotate_left
        · unfold lookK at hk
          split at hk
          · rename_i id vs' hxs
            rw [hxs] at hargs
            obtain ⟨mask, r, hL, hx, he, hm, hk⟩ := hk
            obtain ⟨u0, hu0⟩ := Option.isSome_iff_exists.1 he
            obtain ⟨hen, hcl⟩ := look_run h hL hx hu0 hm hargs
            exact looked r u0 hu0 hen hcl hk
          · exact hk.elim
        · obtain ⟨u0, hu0⟩ := Option.isSome_iff_exists.1 he
          obtain ⟨hen, hcl⟩ := see_run (F := s.F) h hL hV hu0 hargs
          exact looked r u0 hu0 hen hcl hk
        obtain ⟨⟨fn, e1, e2, e3⟩, hcall⟩ := hp
        let cc : Cx := ⟨c.I, [], fun _ => .out⟩
        have hi0 : Inv cc [] w := ⟨h.inv.imm, rfl, fun b hb => absurd rfl hb, fun b b' r hb => (by cases hb), fun id b k hb => (by simp [cc] at hb)⟩
        have hcl := hcall cc w _ hi0 (fun b t e => by cases e) (RelL.closed hargs c1)
        have hrun : (execOp a.eval o).run P w = .ok (.enter k (first'.toList ++ args.toList.map a.eval ++ cap'.toList).toArray) w := by
          unfold execOp
          simp only [ho, resolve, hfv, Deferred.ofValue, Sem.run_bind, Sem.run_pure, Result.andThen_ok, invoke, callFunc, run_program, e1, e3, Bool.false_eq_true, if_false]
          have e4 : fn.body.isNone = false := by cases hb : fn.body <;> simp_all
          simp only [e4, Bool.false_eq_true, if_false, Sem.run_pure]
          congr 2
          apply Array.toList_inj.1
          simp
        unfold Oper.wp
        rw [hrun, Oper.upon_enter]
        refine hcl.mono fun e w' he => ?_
        obtain ⟨v, y, H1, c3, rfl, k1, k2, k3, k4, rfl⟩ := he
        obtain ⟨s4, x4⟩ := h.past (c0 := cc) rfl (fun _ => rfl) k2 k4
        have hag : Agree w0 w' := fun b hb => (k4.out b (Nat.lt_of_lt_of_le hb p.ext.size) rfl).1.trans (p.agree b hb)
        have p4 : PastZ c0 Fs H0 w0 N F0 ⟨c3.I, c.φ, c.R⟩ a w' := ⟨p.start, p.ext.trans x4, hag, p.vals⟩
        exact ⟨hag, put_zp s4 p4 hk (fun d _ => Rel.closed k1 c2) fun d z _ hz => by cases hz⟩
    · exact hk.elim
  · rename_i args ts ho
    refine ⟨fun he => by simp [Mix.effB, ho] at he, fun _ => ?_⟩
    unfold zlenK at hk
    split at hk
    · rename_i x t e1 e2
      have e1 : args = #[x] := Array.toList_inj.1 e1
      have e2 : ts = #[t] := Array.toList_inj.1 e2
      subst e1 e2
      split at hk
      · rename_i q e hx hu
        cases hl : lenV q with
        | none => rw [hl] at hk; exact hk.elim
        | some n =>
          rw [hl] at hk
          have hr : ∃ r, SRel c w r q (a.eval x) := by
            rcases eval_rel h hx (.slot 0) with ⟨t', _, _, _, hr'⟩ | ⟨z', rfl, hr'⟩
            · exact ⟨_, hr'⟩
            · exact ⟨.slot 0, hr'⟩
          obtain ⟨rr, hr⟩ := hr
          obtain ⟨pp, cap, hv⟩ := lenV_rel (w := w) (r := rr) (x := q) hr hl
          refine ⟨.int .i64 n, fun w' _ => ?_, put_zp h p hk (fun d _ => Rel.sc _) fun d z _ hz => by cases hz⟩
          unfold execOp
          simp only [ho, resolve, Sem.run_bind, Sem.run_pure, Result.andThen_ok, invoke, builtin, List.map_toArray, List.map_cons, List.map_nil, hv, Builtin.len_]
          simp [run_underlying' hu, goInt]
      · exact hk.elim
    · exact hk.elim
  · obtain ⟨hm, hel, hdl, ha⟩ := hk
    have hd := aop_does h ha
    unfold Does at hd
    have lt_of : ∀ d, o.dst = some d → d < N := fun d e => by
      rw [e] at hdl
      simpa [dltB] using hdl
    by_cases he : Mix.effB o = true
    · rw [if_pos he] at hd
      refine ⟨fun _ => ?_, fun e => by rw [he] at e; cases e⟩
      have hl := hel.resolve_left (by rw [he]; simp)
      have hlay := Mix.lays_of (P := P) hl a.eval
      have hz : z0 P F0 s o = none := by
        unfold z0
        unfold Mix.effB at he
        split <;> first | rfl | (rename_i ho; rw [ho] at he; cases he)
      rw [hz] at hd
      unfold Acts Oper.wp at hd
      unfold Oper.wp
      cases hr : (execOp a.eval o).run P w with
      | halt x w' =>
        rw [hr] at hd
        cases x <;> first | exact hd.elim | exact hd
      | ok n w' =>
        obtain ⟨v, ob, rfl, rfl⟩ := hlay w n w' hr
        rw [hr, Oper.upon_value] at hd
        rw [Oper.upon_value]
        obtain ⟨c', s', k1, k2, hk⟩ := hd
        have hag : Agree w0 (w.alloc ob) := fun b hb => (heap_alloc_lt (Nat.lt_of_lt_of_le hb p.ext.size)).trans (p.agree b hb)
        exact ⟨hag, c', _, _, k1, p.put (y := none) h.size lt_of k2 hag (fun d z _ e => by cases e), hk⟩
    · rw [if_neg he] at hd
      refine ⟨fun e => absurd e he, fun _ => ?_⟩
      obtain ⟨v, r1, c', s', k1, k2, hk⟩ := hd
      have hrun := r1 w (fun e => by rw [hm] at e; cases e)
      exact ⟨v, fun w' _ => r1 w' (fun e => by rw [hm] at e; cases e), c', _, _, k1, p.put h.size lt_of k2 p.agree (fun d z _ hz => z0_sound h p hz hrun d), hk⟩
theorem zops_walk {ops : Array Oper} {Q : Exit → Act → World → Prop} {K : St → Prop} : ∀ {l : List Oper} {s : St} {c : Cx} {a : Act} {w : World} {F0 : Fr}, Sim c N s a w → PastZ c0 Fs H0 w0 N F0 c a w → zops P N ops.toList Fs H0 l K F0 s → (∀ c' s' a' w', Sim c' N s' a' w' → Ext c0 w0 c' w' → K s' → Q .normal a' w') →
    Mix.walk P ops (fun _ w' => Agree w0 w') (fun w' => Agree w0 w') Q l a w
  | [], s, c, a, w, F0, h, p, hk, hq => hq c s a w h p.ext hk
  | o :: l, s, c, a, w, F0, h, p, hk, hq => by
    have cases' : (∃ s1 : St, Sim c N s1 a w ∧ Region.wanted o (yielded ops a.tmps) = true ∧ zop P N ops.toList Fs H0 o F0 s1 (zops P N ops.toList Fs H0 l K)) ∨
        (∃ s1 : St, Sim c N s1 a w ∧ Region.wanted o (yielded ops a.tmps) = false ∧ putK N o.dst (.v (.tup [])) s1 (zops P N ops.toList Fs H0 l K (new0 o.dst none F0))) := by
      unfold zops at hk
      cases hg : o.guard with
      | none => rw [hg] at hk; exact .inl ⟨s, h, by simp [Region.wanted, hg], hk⟩
      | some q =>
        obtain ⟨j, want⟩ := q
        rw [hg] at hk
        simp only at hk
        cases hd : (ops.toList[j]?).bind (·.dst) with
        | none => rw [hd] at hk; exact hk.elim
        | some t =>
          rw [hd] at hk
          simp only at hk
          have hd' : (ops[j]?).bind (·.dst) = some t := by simpa using hd
          split at hk
          · rename_i b hb
            obtain ⟨v, hv, hr⟩ := h.fr t _ (mem_getF hb)
            have e : v = .bool b := Rel.exact hr rfl
            subst e
            have hy := yielded_of hd' hv
            cases hbw : b == want with
            | true =>
              have e : b = want := by simpa using hbw
              subst e
              exact .inl ⟨_, h.lit hb, by simp [Region.wanted, hg, hy, boolOf], hk.1 rfl⟩
            | false =>
              have e : b = !want := by cases b <;> cases want <;> simp_all
              subst e
              exact .inr ⟨_, h.lit hb, by simp [Region.wanted, hg, hy, boolOf], hk.2 rfl⟩
          · rename_i hb
            obtain ⟨v, hv, hr⟩ := h.fr t _ (mem_getF hb)
            have e : v = .tuple #[] := Rel.exact hr rfl
            subst e
            have hy := yielded_of hd' hv
            exact .inr ⟨s, h, by simp [Region.wanted, hg, hy, boolOf], hk⟩
          · exact hk.elim
    unfold Mix.walk
    rcases cases' with ⟨s1, h, hw, hk⟩ | ⟨s1, h, hw, hk⟩
    · obtain ⟨d1, d2⟩ := zop_does h p hk
      by_cases he : Mix.effB o = true
      · rw [if_pos he]
        refine wpList_step fun K' hK' => ?_
        rw [if_pos hw]
        refine Mix.wp_of_eff (Mix.effS_mono (fun d v w' h2 => ?_) (Mix.eff_of_wp (d1 he)))
        obtain ⟨g1, c', s', old', k1, k2, k3⟩ := h2
        exact hK' _ _ (wpList_nil ⟨g1, zops_walk k1 k2 k3 hq⟩)
      · rw [if_neg he]
        have he' : Mix.effB o = false := by simpa using he
        obtain ⟨v, hv, c', s', old', k1, k2, k3⟩ := d2 he'
        refine wpQuiet_step fun K' hK' => ?_
        rw [if_pos hw]
        refine ⟨v, fun w' hw' => ?_, hK' _ (wpQuiet_nil (zops_walk k1 k2 k3 hq))⟩
        unfold Oper.quietAt
        rw [hv w' hw']
        exact ⟨rfl, rfl⟩
    · obtain ⟨c', s', old', k1, k2, k3⟩ := put_zp (z := none) (v := undef) h p hk (fun _ _ => Rel.tup (vs := #[]) .nil) (fun d z _ e => by cases e)
      have h4 := zops_walk k1 k2 k3 hq
      by_cases he : Mix.effB o = true
      · rw [if_pos he]
        refine wpList_step fun K' hK' => ?_
        rw [if_neg (by rw [hw]; simp)]
        exact hK' _ _ (wpList_nil ⟨k2.agree, h4⟩)
      · rw [if_neg he]
        refine wpQuiet_step fun K' hK' => ?_
        rw [if_neg (by rw [hw]; simp)]
        exact hK' _ (wpQuiet_nil h4)
theorem AW.regionZ {id k : Nat} {ops : Array Oper} {F : Fr} {H : List Bk} {Q : Exit → St → Prop} (hm : P.follows .mixedOrders = true) (hk : k ≤ ops.size) (ho : Mix.mixTail k ops = true)
    (h : zops P N ops.toList F H (ops.toList.take k) (aops P N ops.toList (ops.toList.drop k) (Q .normal)) F ⟨F, H⟩) : AW P N (.region id ops true) Q ⟨F, H⟩ := fun c a w hs => by
  have hs' := hs.drew
  have p : PastZ c F H w.drew N F c a w.drew := ⟨⟨a, hs'⟩, Ext.refl c _, Agree.refl _, fun q hq => by
    obtain ⟨v, hv, hr⟩ := hs'.fr q.1 q.2 hq
    have : a.eval (.tmp q.1) = v := by simp [Act.eval, hv]
    rw [this]
    exact hr⟩
  have h1 := zops_walk (ops := ops) (Q := Mix.endQ (Mix.walk P ops Agree (fun _ => True) (PostE c w N Q) (ops.toList.drop k))) (K := aops P N ops.toList (ops.toList.drop k) (Q .normal)) hs' p h fun c' s' a' w' k1 k2 k3 =>
    aops_walk (ops := ops) k1 k3 fun a2 w2 h2 => Post.step ((Ext.drew c w).trans k2) h2
  have e : ops = (ops.toList.take k ++ ops.toList.drop k).toArray := by simp
  have h2 := Mix.wp_region_tail (P := P) (C1 := fun _ w' => Agree w.drew w') (J1 := fun w' => Agree w.drew w') (C2 := Agree) (id := id) (pre := ops.toList.take k) (post := ops.toList.drop k) (Q := PostE c w N Q) (a := a) (w := w) (fun _ h => h) (fun w => Agree.refl w) (fun _ _ => Iff.rfl) hm (by
    rw [← e, List.length_take]; simpa [Nat.min_eq_left hk] using ho) (Agree.refl _) (by rw [← e]; exact h1)
  rw [← e] at h2
  exact h2
end
/-- As awx; the regions whose numbers are named are walked by zops, as far as it is told. -/
def awz (P : Program) (N : Nat) (bad : List (Nat × Nat × List Nat)) : Code → (Exit → St → Prop) → St → Prop
  | .skip, Q, s => Q .normal s
  | .region id ops draw, Q, s => match draw, badK bad id with
    | true, some k => zops P N ops.toList s.F s.H (ops.toList.take k.1) (aops P N ops.toList (ops.toList.drop k.1) (Q .normal)) s.F s
    | _, _ => aops P N ops.toList ops.toList (Q .normal) s
  | .seq x y, Q, s => awz P N bad x (qSeq (awz P N bad y Q) Q) s
  | .cond x t f, Q, s => match getB s x with
    | some b => (b = true → awz P N bad t Q s) ∧ (b = false → awz P N bad f Q s)
    | none => False
  | .block id body, Q, s => awz P N bad body (qBlock id Q) s
  | .loop body, Q, s => AW P N (.loop body) Q s
  | .exit id, Q, s => Q (.exit id) s
  | .label _, Q, s => Q .normal s
  | .ret, Q, s => Q .ret s
  | _, _, _ => False
theorem awz_sound {P : Program} {N : Nat} {bad : List (Nat × Nat × List Nat)} (hm : P.follows .mixedOrders = true) : ∀ {code : Code} {Q : Exit → St → Prop} {s : St}, okx bad code = true → awz P N bad code Q s → AW P N code Q s := by
  intro code
  induction code with
  | skip => exact fun _ hk => AW.of hm rfl hk
  | region id ops draw =>
    intro Q s ho hk
    cases draw with
    | false => exact AW.of hm rfl hk
    | true =>
      unfold awz at hk
      simp only [okx, Bool.not_true, Bool.false_or] at ho
      cases hb : badK bad id with
      | some k =>
        rw [hb] at ho hk
        simp only [Bool.and_eq_true] at ho
        exact AW.regionZ (F := s.F) (H := s.H) hm (Nat.le_of_ble_eq_true ho.1) ho.2 hk
      | none =>
        rw [hb] at ho hk
        exact AW.of hm (by simpa [okc] using ho) hk
  | seq x y ihx ihy =>
    intro Q s ho hk
    simp only [okx, Bool.and_eq_true] at ho
    refine AW.seq ((ihx ho.1 hk).mono fun e s' he => ?_)
    cases e with
    | normal => exact ihy ho.2 he
    | _ => exact he
  | cond x t f iht ihf =>
    intro Q s ho hk
    simp only [okx, Bool.and_eq_true] at ho
    unfold awz at hk
    cases hb : getB s x with
    | none => rw [hb] at hk; exact hk.elim
    | some b =>
      rw [hb] at hk
      exact AW.cond (F := s.F) (H := s.H) b hb (fun e => iht ho.1 (hk.1 e)) (fun e => ihf ho.2 (hk.2 e))
  | block id body ih =>
    intro Q s ho hk
    exact AW.block (ih ho hk)
  | loop body ih => exact fun _ hk => hk
  | exit id => exact fun _ hk => AW.of hm rfl hk
  | label l => exact fun _ hk => AW.of hm rfl hk
  | ret => exact fun _ hk => AW.of hm rfl hk
  | _ => exact fun _ hk => hk.elim
theorem AW.ofz {P : Program} {N : Nat} {x : Code} {Q : Exit → St → Prop} {s : St} (bad : List (Nat × Nat × List Nat)) (hm : P.follows .mixedOrders = true) (ho : okx bad x = true) (h : awz P N bad x Q s) : AW P N x Q s := awz_sound hm ho h
section
variable {P : Program} {N : Nat} {bad : List (Nat × Nat × List Nat)} {F : Fr} {H : List Bk} {Q : Exit → St → Prop} {c c' : Code} {x : Operand} {id : Nat} {draw : Bool} {arr : Array Oper}
theorem awz_skip' : awz P N bad .skip Q ⟨F, H⟩ = Q .normal ⟨F, H⟩ := rfl
theorem awz_region' : awz P N bad (.region id arr draw) Q ⟨F, H⟩ = if (draw && (badK bad id).isSome) = true then zops P N arr.toList F H (arr.toList.take ((badK bad id).getD (0, [])).1) (aops P N arr.toList (arr.toList.drop ((badK bad id).getD (0, [])).1) (Q .normal)) F ⟨F, H⟩ else aops P N arr.toList arr.toList (Q .normal) ⟨F, H⟩ := by
  show (match draw, badK bad id with
    | true, some k => zops P N arr.toList F H (arr.toList.take k.1) (aops P N arr.toList (arr.toList.drop k.1) (Q .normal)) F ⟨F, H⟩
    | _, _ => aops P N arr.toList arr.toList (Q .normal) ⟨F, H⟩) = _
  cases draw <;> cases badK bad id <;> rfl
theorem awz_seq' : awz P N bad (.seq c c') Q ⟨F, H⟩ = awz P N bad c (qSeq (awz P N bad c' Q) Q) ⟨F, H⟩ := rfl
theorem awz_cond' : awz P N bad (.cond x c c') Q ⟨F, H⟩ = match getB ⟨F, H⟩ x with
    | some b => gd b true (awz P N bad c Q ⟨F, H⟩) (awz P N bad c' Q ⟨F, H⟩)
    | none => False := rfl
theorem awz_block' : awz P N bad (.block id c) Q ⟨F, H⟩ = awz P N bad c (qBlock id Q) ⟨F, H⟩ := rfl
theorem awz_loop' : awz P N bad (.loop c) Q ⟨F, H⟩ = AW P N (.loop c) Q ⟨F, H⟩ := rfl
theorem awz_exit' : awz P N bad (.exit id) Q ⟨F, H⟩ = Q (.exit id) ⟨F, H⟩ := rfl
theorem awz_label' : awz P N bad (.label id) Q ⟨F, H⟩ = Q .normal ⟨F, H⟩ := rfl
theorem awz_ret' : awz P N bad .ret Q ⟨F, H⟩ = Q .ret ⟨F, H⟩ := rfl
end
end AM
end Go.Proofs.Ytmjnffjacgjfmaa
