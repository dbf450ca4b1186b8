/- Whatever a group and its numbers, the steps and the reference's steps agree. No condition. -/
import Derived.Test.YtacjiajijigebaaRows
import Derived.Test.YtacjiajijigebaaIo
import Derived.Test.YtacjiajijigebaaSa
import Derived.Test.YtacjiajijigebaaSb
import Derived.Test.YtacjiajijigebaaOp
namespace Go.Proofs.Ytacjiajijigebaa
open Go Go.Ev Go.ChangeShapes Go.WideShapes Go.ChangeAt Go.RowKit

theorem und4 : Try.prog.underlying 4 = some .bool := by kernel_rfl

theorem ieqB_refl (x : Int) : ieqB x x = true := by rw [ieqB_eq]; simp
set_option maxRecDepth 20000 in
theorem calls_GroupsOf (g : Grp) (a n : Nat) {v0 v1 v2 : Value} (h0 : AB.rel noG (aG g) v0) (h1 : AB.rel noG (aN a) v1) (h2 : AB.rel noG (aN n) v2) (w : World) : Calls Try.prog 6 #[v0, v1, v2] w fun e w' => e = .returned (.bool true) ∧ Fr (fun _ => False) w w' := by
  obtain ⟨P, Q, G, H⟩ := g
  refine calls_true (cxK [grpMulK, grpInvK, grpExpK, inGK, refMulGK, refInvGK, refExpGK, refInGK]) (xs := [aG ⟨P, Q, G, H⟩, aN a, aN n]) (vs := [v0, v1, v2]) Try.func6 rfl (Nat.le_of_ble_eq_true rfl) ⟨_, _, rfl, h0, _, _, rfl, h1, _, _, rfl, h2, rfl⟩ ?_
  refine ⟨trivial, trivial, trivial, trivial, trivial, trivial, by kernel_rfl, trivial, trivial, ?_⟩
  conv => whnf
  refine brkT (beq_self_eq_true _) ?_
  conv => whnf
  refine brkT (Nat.beq_refl _) ?_
  conv => whnf
  refine brkT (Nat.beq_refl _) ?_
  conv => whnf
  refine brkT (Nat.beq_refl _) ?_
  conv => whnf
  refine brkT (ieqB_refl _) ?_
  conv => whnf
  refine brkT (ieqB_refl _) ?_
  refine ⟨ieqB_refl _, trivial⟩
end Go.Proofs.Ytacjiajijigebaa
