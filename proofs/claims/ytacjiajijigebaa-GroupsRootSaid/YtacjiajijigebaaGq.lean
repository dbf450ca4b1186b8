/- Plain laws of powers that go round: a power by an exponent with an inverse is undone. No condition. -/
import Derived.Test.YtacjiajijigebaaPg
namespace Go.Proofs.Ytacjiajijigebaa
open Go Go.Ev

/-- Exponents go round by Q. -/
theorem pow_round {g : Grp} {a n m : Nat} (ha : inG g a = true) (h : n % g.Q = m % g.Q) : a ^ n % g.P = a ^ m % g.P := by
  obtain ⟨h1, h2⟩ := inG_iff.1 ha
  have hP := (mayG_t h1).1
  have key : ∀ k, a ^ k % g.P = a ^ (k % g.Q) % g.P := fun k => by
    conv => lhs; rw [← Nat.div_add_mod k g.Q, Nat.pow_add, Nat.pow_mul, Nat.mul_mod, Nat.pow_mod (a ^ g.Q), h2, Nat.one_pow, Nat.mod_eq_of_lt hP, Nat.one_mul, Nat.mod_mod]
  rw [key n, key m, h]
theorem pow_undone {g : Grp} {a n y : Nat} (hQ : 1 < g.Q) (ha : inG g a = true) (h : (n % g.Q) * y % g.Q = 1) : (a ^ n % g.P) ^ y % g.P = a := by
  have hm := mayG_t (inG_iff.1 ha).1
  rw [← Nat.pow_mod, ← Nat.pow_mul]
  have e0 : (n * y) % g.Q = (n % g.Q * y) % g.Q := by rw [Nat.mul_mod n y, Nat.mul_mod (n % g.Q) y, Nat.mod_mod]
  have e : (n * y) % g.Q = 1 % g.Q := by rw [e0, h, Nat.mod_eq_of_lt hQ]
  rw [pow_round ha e, Nat.pow_one, Nat.mod_eq_of_lt hm.2.2]
end Go.Proofs.Ytacjiajijigebaa
