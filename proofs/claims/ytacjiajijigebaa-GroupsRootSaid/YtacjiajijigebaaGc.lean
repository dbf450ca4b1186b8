/- Products, inverses and powers of numbers of a group are of it: the walk. No condition. -/
import Derived.Test.YtacjiajijigebaaAl
import Derived.Test.YtacjiajijigebaaPg
import Derived.Test.YtacjiajijigebaaOp
namespace Go.Proofs.Ytacjiajijigebaa
open Go Go.Ev
set_option linter.unusedSimpArgs false

set_option maxRecDepth 20000 in
theorem calls_GroupsClosed (g : Grp) (a b n : Nat) {v0 v1 v2 : Value} (h0 : AB.rel noG (aG g) v0) (h1 : AB.rel noG (.agg [.num a, .num b]) v1) (h2 : AB.rel noG (aN n) v2) (w : World) : Calls Try.prog 18 #[v0, v1, v2] w fun e w' => e = .returned (.bool true) ∧ Fr (fun _ => False) w w' := by
  obtain ⟨P, Q, G, H⟩ := g
  refine calls_true (cxK [of08K, alive08K, grpMulK, grpInvK, grpExpK, inGK]) (xs := [aG ⟨P, Q, G, H⟩, .agg [.num a, .num b], aN n]) (vs := [v0, v1, v2]) Try.func18 rfl (Nat.le_of_ble_eq_true rfl) ⟨_, _, rfl, h0, _, _, rfl, h1, _, _, rfl, h2, rfl⟩ ?_
  refine ⟨by kernel_rfl, trivial, ?_⟩
  conv => whnf
  refine brk (fun hQ => ?_) (fun hQ => ?_) <;> replace hQ : Nat.beq Q 0 = _ := hQ
  · exact ⟨trivial, rfl, trivial⟩
  refine ⟨trivial, ?_⟩
  conv => whnf
  refine brk (fun hA => ?_) (fun hA => ?_) <;> replace hA : (!inG ⟨P, Q, G, H⟩ a) = _ := hA <;> simp only [Bool.not_eq_true', Bool.not_eq_false'] at hA
  · exact ⟨trivial, rfl, trivial⟩
  refine ⟨trivial, ?_⟩
  conv => whnf
  refine brk (fun hB => ?_) (fun hB => ?_) <;> replace hB : (!inG ⟨P, Q, G, H⟩ b) = _ := hB <;> simp only [Bool.not_eq_true', Bool.not_eq_false'] at hB
  · exact ⟨trivial, rfl, trivial⟩
  replace hQ : Q ≠ 0 := Nat.ne_of_beq_eq_false hQ
  have mA := (inG_iff.1 hA).1
  have mB := (inG_iff.1 hB).1
  have hP := (mayG_t mA).1
  obtain ⟨iI, i1⟩ := in_inv hQ hA
  have mI := (inG_iff.1 iI).1
  refine ⟨trivial, trivial, trivial, trivial, by kernel_rfl, trivial, ?_⟩
  conv => whnf
  refine brkT (by show ieqB (eM (mayG ⟨P, Q, G, H⟩ a && mayG ⟨P, Q, G, H⟩ b)) 0 = true; rw [mA, mB]; rfl) ?_
  conv => whnf
  refine brkT (by show ieqB (eGI ⟨P, Q, G, H⟩ a) 0 = true; unfold eGI; rw [mA]; show ieqB (if Nat.gcd a P = 1 then 0 else 7) 0 = true; rw [if_pos (in_gcd hQ hA)]; rfl) ?_
  conv => whnf
  refine brkT (by show ieqB (eM (mayG ⟨P, Q, G, H⟩ a)) 0 = true; rw [mA]; rfl) ?_
  conv => whnf
  refine brkT (by show ieqB (eM (mayG ⟨P, Q, G, H⟩ a && mayG ⟨P, Q, G, H⟩ (gM (mayG ⟨P, Q, G, H⟩ a) (invN a P)))) 0 = true; rw [mA]; show ieqB (eM (true && mayG ⟨P, Q, G, H⟩ (invN a P))) 0 = true; rw [mI]; rfl) ?_
  refine ⟨trivial, ?_⟩
  conv => whnf
  refine brkT (by show inG ⟨P, Q, G, H⟩ (gM (mayG ⟨P, Q, G, H⟩ a && mayG ⟨P, Q, G, H⟩ b) (a * b % P)) = true; rw [mA, mB]; exact in_mul hQ hA hB) ?_
  refine ⟨trivial, ?_⟩
  conv => whnf
  refine brkT (by show inG ⟨P, Q, G, H⟩ (gM (mayG ⟨P, Q, G, H⟩ a) (invN a P)) = true; rw [mA]; exact iI) ?_
  refine ⟨trivial, ?_⟩
  conv => whnf
  refine brkT (by show inG ⟨P, Q, G, H⟩ (gM (mayG ⟨P, Q, G, H⟩ a) (a ^ n % P)) = true; rw [mA]; exact in_exp hQ hA) ?_
  refine ⟨trivial, ?_⟩
  conv => whnf
  refine brkT (by show Nat.beq (gM (mayG ⟨P, Q, G, H⟩ a && mayG ⟨P, Q, G, H⟩ (gM (mayG ⟨P, Q, G, H⟩ a) (invN a P))) (a * gM (mayG ⟨P, Q, G, H⟩ a) (invN a P) % P)) 1 = true; rw [mA]; show Nat.beq (gM (true && mayG ⟨P, Q, G, H⟩ (invN a P)) (a * invN a P % P)) 1 = true; rw [mI]; show Nat.beq (a * invN a P % P) 1 = true; rw [Nat.beq_eq]; exact i1) ?_
  exact ⟨trivial, trivial, in_one hP hQ, trivial⟩
end Go.Proofs.Ytacjiajijigebaa
