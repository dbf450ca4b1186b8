/- Plain laws of powers that go round: what is of a group stays of it. No condition. -/
import Derived.Test.YtacjiajijigebaaSa
namespace Go.Proofs.Ytacjiajijigebaa
open Go Go.Ev

theorem inG_iff {g : Grp} {a : Nat} : inG g a = true ↔ mayG g a = true ∧ a ^ g.Q % g.P = 1 := by
  unfold inG
  rw [Bool.and_eq_true, Nat.beq_eq]
theorem mayG_of {g : Grp} {x : Nat} (hP : 1 < g.P) (hQ : g.Q ≠ 0) (hx : x < g.P) (h : x ^ g.Q % g.P = 1) : mayG g x = true := by
  unfold mayG
  have : x ≠ 0 := fun h0 => by
    rw [h0, Nat.zero_pow (Nat.pos_of_ne_zero hQ), Nat.zero_mod] at h
    cases h
  simp [hP, hx, this]
theorem inG_of {g : Grp} {x : Nat} (hP : 1 < g.P) (hQ : g.Q ≠ 0) (hx : x < g.P) (h : x ^ g.Q % g.P = 1) : inG g x = true := inG_iff.2 ⟨mayG_of hP hQ hx h, h⟩
theorem in_mul {g : Grp} {a b : Nat} (hQ : g.Q ≠ 0) (ha : inG g a = true) (hb : inG g b = true) : inG g (a * b % g.P) = true := by
  obtain ⟨h1, h2⟩ := inG_iff.1 ha
  obtain ⟨h3, h4⟩ := inG_iff.1 hb
  have hP := (mayG_t h1).1
  refine inG_of hP hQ (Nat.mod_lt _ (by omega)) ?_
  rw [← Nat.pow_mod, Nat.mul_pow, Nat.mul_mod, h2, h4, Nat.mul_one, Nat.mod_eq_of_lt hP]
theorem in_exp {g : Grp} {a n : Nat} (hQ : g.Q ≠ 0) (ha : inG g a = true) : inG g (a ^ n % g.P) = true := by
  obtain ⟨h1, h2⟩ := inG_iff.1 ha
  have hP := (mayG_t h1).1
  refine inG_of hP hQ (Nat.mod_lt _ (by omega)) ?_
  rw [← Nat.pow_mod, ← Nat.pow_mul, Nat.mul_comm, Nat.pow_mul, Nat.pow_mod, h2, Nat.one_pow, Nat.mod_eq_of_lt hP]
theorem in_gcd {g : Grp} {a : Nat} (hQ : g.Q ≠ 0) (ha : inG g a = true) : Nat.gcd a g.P = 1 := by
  obtain ⟨h1, h2⟩ := inG_iff.1 ha
  have hs : a ∣ a ^ g.Q := ⟨a ^ (g.Q - 1), by
    have e : g.Q = (g.Q - 1) + 1 := by omega
    rw [Nat.mul_comm, ← Nat.pow_succ]
    exact congrArg (a ^ ·) e⟩
  have hd1 : Nat.gcd a g.P ∣ a ^ g.Q := Nat.dvd_trans (Nat.gcd_dvd_left _ _) hs
  have hd2 : Nat.gcd a g.P ∣ a ^ g.Q % g.P := (Nat.dvd_mod_iff (Nat.gcd_dvd_right _ _)).2 hd1
  rw [h2] at hd2
  exact Nat.dvd_one.1 hd2
theorem in_inv {g : Grp} {a : Nat} (hQ : g.Q ≠ 0) (ha : inG g a = true) : inG g (invN a g.P) = true ∧ a * invN a g.P % g.P = 1 := by
  obtain ⟨h1, h2⟩ := inG_iff.1 ha
  have hm := mayG_t h1
  obtain ⟨h3, h4⟩ := invN_some hm.1 hm.2.2 (in_gcd hQ ha)
  refine ⟨inG_of hm.1 hQ h4 ?_, h3⟩
  have e : (a * invN a g.P) ^ g.Q % g.P = 1 := by rw [Nat.pow_mod, h3, Nat.one_pow, Nat.mod_eq_of_lt hm.1]
  rw [Nat.mul_pow, Nat.mul_mod, h2, Nat.one_mul, Nat.mod_mod] at e
  exact e
theorem in_one {g : Grp} (hP : 1 < g.P) (hQ : g.Q ≠ 0) : inG g 1 = true := inG_of hP hQ hP (by rw [Nat.one_pow, Nat.mod_eq_of_lt hP])
end Go.Proofs.Ytacjiajijigebaa
