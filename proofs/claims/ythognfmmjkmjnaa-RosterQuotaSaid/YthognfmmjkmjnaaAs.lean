/- From what a function promises over abstract states to a law's walk. Plain lemmas, over any program. -/
import Derived.Test.YthognfmmjkmjnaaAr
import Derived.Test.YthognfmmjkmjnaaLaw
import Derived.Test.YthognfmmjkmjnaaArg
namespace Go.Proofs.Ythognfmmjkmjnaa
set_option linter.all false
open Go.RowKit
namespace AM

/-- What a world's cells say. -/
def said (W : World) (b o : Nat) : Option Value := W.cell? ⟨b, o, none⟩
theorem AFn.yes {P : Program} {f : FuncId} {xs : List V} {vs : List Value} {W : World} {Q : V → List Bk → Prop} (h : AFn P f xs [] Q) (hq : ∀ y H, Q y H → y = .sc (.bool true)) (hr : RelL (said W) [] xs vs) : Calls P f vs.toArray W (Yes W) := by
  let c0 : Cx := ⟨said W, [], fun _ => .out⟩
  have hi0 : Inv c0 [] W := ⟨fun b o v hv => hv, rfl, fun b hb => absurd rfl hb, fun b b' r hb => (by cases hb), fun id b k hb hk => (by simp [c0] at hb)⟩
  refine (h.2 c0 W vs hi0 (fun b t e => by cases e) hr).mono fun e w' he => ?_
  obtain ⟨v, y, H', c', rfl, k1, k2, k3, k4, k5⟩ := he
  obtain rfl := hq _ _ k5
  refine ⟨by rw [Rel.exact k1 rfl], ⟨k4.os, k4.tape, k4.output, k4.size, fun k hk => (k4.out k hk rfl).1⟩⟩
theorem relL_sc {I : Nat → Nat → Option Value} {φ : List Nat} : ∀ {vs : List Value}, RelL I φ (vs.map .sc) vs
  | [] => .nil
  | v :: vs => .cons (.sc v) relL_sc
end AM
end Go.Proofs.Ythognfmmjkmjnaa
