/- Plain numbers: inverses that go round. No condition. -/
import Derived.Test.YtacjiajijigebaaDg
namespace Go.Proofs.Ytacjiajijigebaa

/-- What a number must be multiplied with for 1 (0: there is none). -/
noncomputable def invN (a m : Nat) : Nat := open Classical in if h : ∃ y, y < m ∧ a * y % m = 1 then Classical.choose h else 0

theorem dvd_of_mod {a b m : Nat} (h : a % m = b % m) : (m : Int) ∣ (a : Int) - b := by
  refine Int.dvd_of_emod_eq_zero ?_
  rw [Int.sub_emod, ← Int.natCast_emod, ← Int.natCast_emod, h, Int.sub_self, Int.zero_emod]
theorem mod_of_dvd {a b m : Nat} (h : (m : Int) ∣ (a : Int) - b) : a % m = b % m := by
  have h1 := Int.emod_eq_zero_of_dvd h
  have h2 := Int.emod_eq_emod_iff_emod_sub_eq_zero.2 h1
  have h3 : ((a % m : Nat) : Int) = ((b % m : Nat) : Int) := by rw [Int.natCast_emod, Int.natCast_emod]; exact h2
  exact Int.ofNat.inj h3
theorem inv_unique {a m y z : Nat} (hm : 1 < m) (hy : y < m) (hz : z < m) (h1 : a * y % m = 1) (h2 : a * z % m = 1) : y = z := by
  have e1 : (m : Int) ∣ ((a * y : Nat) : Int) - (1 : Nat) := dvd_of_mod (by rw [h1, Nat.mod_eq_of_lt hm])
  have e2 : (m : Int) ∣ ((a * z : Nat) : Int) - (1 : Nat) := dvd_of_mod (by rw [h2, Nat.mod_eq_of_lt hm])
  have e3 : (m : Int) ∣ (y : Int) - z := by
    have := Int.dvd_sub (Int.dvd_mul_of_dvd_left (c := (y : Int)) e2) (Int.dvd_mul_of_dvd_left (c := (z : Int)) e1)
    obtain ⟨c, hc⟩ := this
    refine ⟨-c, ?_⟩
    simp only [Int.natCast_mul] at hc
    grind
  have := mod_of_dvd e3
  rwa [Nat.mod_eq_of_lt hy, Nat.mod_eq_of_lt hz] at this
theorem invN_eq {a m y : Nat} (hm : 1 < m) (hy : y < m) (h : a * y % m = 1) : invN a m = y := by
  have hex : ∃ y, y < m ∧ a * y % m = 1 := ⟨y, hy, h⟩
  unfold invN
  rw [dif_pos hex]
  have := Classical.choose_spec hex
  exact inv_unique hm this.1 hy this.2 h
theorem invN_none {a m : Nat} (h : Nat.gcd a m ≠ 1) : invN a m = 0 := by
  unfold invN
  rw [dif_neg]
  rintro ⟨y, _, h2⟩
  refine h ?_
  have h3 : Nat.gcd a m ∣ 1 := by
    rw [← h2]
    have d1 : Nat.gcd a m ∣ a * y := Nat.dvd_mul_right_of_dvd (Nat.gcd_dvd_left a m) y
    exact (Nat.dvd_mod_iff (Nat.gcd_dvd_right a m)).2 d1
  exact Nat.dvd_one.1 h3

/-- What stays in the rounds: x times a leaves r, y times a leaves s. -/
structure InvI (a m r s x y : Nat) : Prop where
  m1 : 1 < m
  co : Nat.gcd r s = 1
  s0 : 0 < s
  sr : s < r
  rm : r ≤ m
  xm : x < m
  ym : y < m
  hx : (m : Int) ∣ (x : Int) * a - r
  hy : (m : Int) ∣ (y : Int) * a - s
theorem InvI.start {a m : Nat} (h1 : 1 < m) (ha : a < m) (h : Nat.gcd a m = 1) : InvI a m m a 0 1 := by
  refine ⟨h1, by rw [Nat.gcd_comm]; exact h, ?_, ha, Nat.le_refl m, by omega, h1, ⟨-1, by grind⟩, ⟨0, by grind⟩⟩
  rcases Nat.eq_zero_or_pos a with rfl | h0
  · rw [Nat.gcd_zero_left] at h; omega
  · exact h0
theorem InvI.quo {a m r s x y : Nat} (h : InvI a m r s x y) (hs : s ≠ 1) : r / s < m := by
  have h0 := h.s0
  have : r / s < r := Nat.div_lt_self (by have := h.sr; omega) (by omega)
  exact Nat.lt_of_lt_of_le this h.rm
theorem InvI.step {a m r s x y : Nat} (h : InvI a m r s x y) (hs : s ≠ 1) : InvI a m s (r % s) y ((x + (m - r / s * y % m)) % m) := by
  have hm0 : 0 < m := by have := h.m1; omega
  have hl : r % s < s := Nat.mod_lt _ h.s0
  refine ⟨h.m1, ?_, ?_, hl, Nat.le_of_lt (Nat.lt_of_lt_of_le h.sr h.rm), h.ym, Nat.mod_lt _ hm0, h.hy, ?_⟩
  · have := h.co
    rw [Nat.gcd_comm, Nat.gcd_rec] at this
    rw [Nat.gcd_comm]; exact this
  · rcases Nat.eq_zero_or_pos (r % s) with h0 | h0
    · exfalso
      have := h.co
      rw [Nat.gcd_comm, Nat.gcd_rec, h0, Nat.gcd_zero_left] at this
      exact hs this
    · exact h0
  · obtain ⟨c, hc⟩ := h.hx
    obtain ⟨d, hd⟩ := h.hy
    have hq := Nat.div_add_mod r s
    have ht := Nat.div_add_mod (r / s * y) m
    have hz := Nat.div_add_mod (x + (m - r / s * y % m)) m
    have htm : r / s * y % m < m := Nat.mod_lt _ hm0
    generalize (x + (m - r / s * y % m)) % m = z at *
    generalize (x + (m - r / s * y % m)) / m = k1 at *
    generalize r / s * y / m = k2 at *
    generalize hT : r / s * y % m = t at *
    generalize r / s = q at *
    generalize r % s = left at *
    have e1 : (z : Int) = x + (m - t) - m * k1 := by
      have : ((m * k1 + z : Nat) : Int) = ((x + (m - t) : Nat) : Int) := by rw [hz]
      rw [Int.natCast_add, Int.natCast_add, Int.natCast_mul, Int.ofNat_sub (by omega)] at this
      omega
    have e2 : (t : Int) = q * y - m * k2 := by
      have : ((m * k2 + t : Nat) : Int) = ((q * y : Nat) : Int) := by rw [ht]
      rw [Int.natCast_add, Int.natCast_mul, Int.natCast_mul] at this
      omega
    have e3 : (left : Int) = r - q * s := by
      have : ((s * q + left : Nat) : Int) = (r : Int) := by rw [hq]
      rw [Int.natCast_add, Int.natCast_mul] at this
      have := Int.mul_comm (s : Int) q
      omega
    refine ⟨c - q * d + (1 + k2 - k1) * a, ?_⟩
    rw [e1, e2, e3]
    grind
theorem InvI.done {a m r s x y : Nat} (h : InvI a m r s x y) (hs : s = 1) : y = invN a m := by
  subst hs
  refine (invN_eq h.m1 h.ym ?_).symm
  have := mod_of_dvd (a := y * a) (b := 1) (m := m) (by rw [Int.natCast_mul]; exact h.hy)
  rw [Nat.mul_comm, this, Nat.mod_eq_of_lt h.m1]
theorem invN_some {a m : Nat} (hm : 1 < m) (ha : a < m) (h : Nat.gcd a m = 1) : a * invN a m % m = 1 ∧ invN a m < m := by
  have key : ∀ n r s x y, s ≤ n → InvI a m r s x y → ∃ y, y < m ∧ a * y % m = 1 := by
    intro n
    induction n with
    | zero => intro r s x y hs hI; have := hI.s0; omega
    | succ n ih =>
      intro r s x y hs hI
      by_cases h1 : s = 1
      · subst h1
        refine ⟨y, hI.ym, ?_⟩
        have := mod_of_dvd (a := y * a) (b := 1) (m := m) (by rw [Int.natCast_mul]; exact hI.hy)
        rw [Nat.mul_comm, this, Nat.mod_eq_of_lt hm]
      · have h2 := hI.step h1
        exact ih _ _ _ _ (by have := h2.sr; omega) h2
  have hex := key a _ _ _ _ (Nat.le_refl a) (InvI.start hm ha h)
  unfold invN
  rw [dif_pos hex]
  have := Classical.choose_spec hex
  exact ⟨this.2, this.1⟩
theorem invN_pos {a m : Nat} (hm : 1 < m) (ha : a < m) (h : Nat.gcd a m = 1) : invN a m ≠ 0 := by
  intro h0
  have := (invN_some hm ha h).1
  rw [h0, Nat.mul_zero, Nat.zero_mod] at this
  omega
end Go.Proofs.Ytacjiajijigebaa
