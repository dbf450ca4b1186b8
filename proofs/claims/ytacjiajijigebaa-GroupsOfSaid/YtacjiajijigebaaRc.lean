/- What is known of the reference's long numbers: sums and differences. No condition. -/
import Derived.Test.YtacjiajijigebaaRb
namespace Go.Proofs.Ytacjiajijigebaa
open Go Go.Ev
set_option linter.unusedSimpArgs false

theorem bits_top {a p : Nat} (h : a < 2 ^ (p + 1)) : (a / 2 ^ p % 2 = 1 → bitLen a = p + 1) ∧ (a / 2 ^ p % 2 ≠ 1 → a < 2 ^ p) := by
  have h1 : a / 2 ^ p < 2 := by rw [Nat.div_lt_iff_lt_mul (Nat.two_pow_pos p), Nat.mul_comm, ← Nat.pow_succ]; exact h
  refine ⟨fun hb => ?_, fun hb => ?_⟩
  · have h2 : bitLen a ≤ p + 1 := bitLen_le.2 h
    rcases Nat.lt_or_ge (bitLen a) (p + 1) with h3 | h3
    · have : a < 2 ^ p := bitLen_le.1 (by omega)
      rw [Nat.div_eq_of_lt this] at hb; omega
    · omega
  · have h3 : a / 2 ^ p = 0 := by
      generalize a / 2 ^ p = x at *
      omega
    rcases Nat.div_eq_zero_iff.1 h3 with h4 | h4
    · have := Nat.two_pow_pos p; omega
    · exact h4
set_option maxRecDepth 20000 in
theorem ref_Bits (a : Nat) : PureOk Try.prog 177 [aN a] (tI (bitLen a)) := by
  refine pure_of_ev (cxK [refBitK]) Try.func177 rfl (by kernel_rfl) (Nat.le_of_ble_eq_true rfl) ⟨trivial, trivial⟩ rfl fun hf w => ?_
  have ha := hf.1.1
  conv => whnf
  refine LoopK.cut Nat (fun x => [(3, tI ((x : Int) - 1))]) (fun _ => []) (fun x => x ≤ 256 ∧ a < 2 ^ x) (fun x => x) 256 ?_ ?_
    Unit (fun _ => [(3, tI (-1))]) (fun _ => []) (fun _ => a = 0) 0 ?_ ?_
  · exact ⟨Nat.le_refl _, ha⟩
  · repeat' (refine And.intro ?_ ?_)
    all_goals try first | with_reducible rfl | exact trivial
    rfl
  · rintro q ⟨hq, hI⟩
    replace hq : q ≤ 256 := hq
    replace hI : a < 2 ^ q := hI
    conv => whnf
    refine brk (fun h3 => ?_) (fun h3 => ?_)
    · replace h3 : (!iltB ((q : Int) - 1) 0) = true := h3
      simp only [iltB_eq, Bool.not_eq_true', decide_eq_false_iff_not] at h3
      obtain ⟨p, rfl⟩ : ∃ p, q = p + 1 := ⟨q - 1, by omega⟩
      have hs := bits_top hI
      have e : ((p + 1 : Nat) : Int) - 1 = (p : Int) := by omega
      have eb : bitI a (p : Int) = ((a / 2 ^ p % 2 : Nat) : Int) := by unfold bitI; rw [if_neg (by omega), Int.toNat_natCast]
      refine ⟨trivial, ?_⟩
      rw [e]
      conv => whnf
      refine brk (fun h4 => ?_) (fun h4 => ?_) <;> replace h4 : ieqB (bitI a (p : Int)) 1 = _ := h4 <;> rw [eb, ieq1] at h4 <;> simp only [decide_eq_true_eq, decide_eq_false_iff_not] at h4
      · refine ⟨?_, trivial⟩
        rw [hs.1 h4]
        show IntKind.wrap .i64 ((p : Int) + 1) = ((p + 1 : Nat) : Int)
        rw [wrapI _ (by omega)]; rfl
      · refine ⟨p, ⟨by omega, hs.2 h4⟩, ?_, ?_⟩
        · repeat' (refine And.intro ?_ ?_)
          all_goals try first | with_reducible rfl | exact trivial
          show IntKind.wrap .i64 ((p : Int) - 1) = (p : Int) - 1
          rw [wrapI _ (by omega)]
        · show p < p + 1
          omega
    · replace h3 : (!iltB ((q : Int) - 1) 0) = false := h3
      simp only [iltB_eq, Bool.not_eq_false', decide_eq_true_eq] at h3
      have hq0 : q = 0 := by omega
      rw [hq0, Nat.pow_zero] at hI
      refine ⟨(), (show a = 0 by omega), ?_⟩
      repeat' (refine And.intro ?_ ?_)
      all_goals try first | with_reducible rfl | exact trivial
      show (q : Int) - 1 = -1
      omega
  · intro _ ha0
    refine ⟨?_, trivial⟩
    replace ha0 : a = 0 := ha0
    subst ha0; rfl
def refBitsK : Known Try.prog := kN 177 (fun _ => True) (fun a => tI (bitLen a)) (fun a _ => ref_Bits a)
theorem ref_OfN (n : Int) : PureOk Try.prog 161 [aU n] (tN n.toNat) := by
  refine pure_of_ev (cxK []) Try.func161 rfl (by kernel_rfl) (Nat.le_of_ble_eq_true rfl) ⟨rfl, trivial⟩ trivial fun hf w => ?_
  refine ⟨?_, trivial⟩
  exact setl0 _
def refOfK : Known Try.prog := kU 161 (fun _ => True) (fun n => tN n.toNat) (fun n _ => ref_OfN n)

/-! ### Sums and differences, digit by digit -/
/-- What stays: above the k lowest digits Z is a; below, s, and c is carried. -/
structure SumI (a b k Z c : Nat) : Prop where
  lo : ∃ s, s < B16 ^ k ∧ Z = a / B16 ^ k * B16 ^ k + s ∧ s + c * B16 ^ k = a % B16 ^ k + b % B16 ^ k
  c1 : c ≤ 1
structure DifI (a b k Z c : Nat) : Prop where
  lo : ∃ s, s < B16 ^ k ∧ Z = a / B16 ^ k * B16 ^ k + s ∧ s + b % B16 ^ k = a % B16 ^ k + c * B16 ^ k
  c1 : c ≤ 1
theorem top_digit {a k s : Nat} (hs : s < B16 ^ k) : dg B16 k (a / B16 ^ k * B16 ^ k + s) = dg B16 k a := by
  unfold dg
  rw [Nat.mul_comm, Nat.mul_add_div (Nat.pow_pos (by decide)), Nat.div_eq_of_lt hs, Nat.add_zero]
theorem top_set {a k s v : Nat} (hs : s < B16 ^ k) (_hv : v < B16) : setD B16 k v (a / B16 ^ k * B16 ^ k + s) = a / B16 ^ (k + 1) * B16 ^ (k + 1) + (s + v * B16 ^ k) := by
  have h := setD_eq B16 k v (a / B16 ^ k * B16 ^ k + s)
  rw [top_digit hs] at h
  have e : a / B16 ^ k * B16 ^ k = a / B16 ^ (k + 1) * B16 ^ (k + 1) + dg B16 k a * B16 ^ k := by
    have e1 : a / B16 ^ k = B16 * (a / B16 ^ (k + 1)) + dg B16 k a := by
      rw [Nat.pow_succ, ← Nat.div_div_eq_div_mul]; exact (Nat.div_add_mod _ _).symm
    rw [e1, Nat.add_mul, Nat.pow_succ]
    congr 1
    rw [Nat.mul_comm B16, Nat.mul_assoc, Nat.mul_comm B16]
  omega
theorem SumI.start (a b : Nat) : SumI a b 0 a 0 := ⟨⟨0, by simp, by simp, by simp [Nat.mod_one]⟩, by omega⟩
theorem SumI.dig {a b k Z c : Nat} (h : SumI a b k Z c) : dg B16 k Z = dg B16 k a := by
  obtain ⟨s, h1, h2, _⟩ := h.lo
  rw [h2]; exact top_digit h1
theorem DifI.dig {a b k Z c : Nat} (h : DifI a b k Z c) : dg B16 k Z = dg B16 k a := by
  obtain ⟨s, h1, h2, _⟩ := h.lo
  rw [h2]; exact top_digit h1
theorem low_lt {s v k : Nat} (hs : s < B16 ^ k) (hv : v < B16) : s + v * B16 ^ k < B16 ^ (k + 1) := by
  rw [Nat.pow_succ, Nat.mul_comm (B16 ^ k)]
  have := Nat.mul_le_mul_right (B16 ^ k) (show v + 1 ≤ B16 from hv)
  rw [Nat.add_mul, Nat.one_mul] at this; omega
theorem SumI.step {a b k Z c : Nat} (h : SumI a b k Z c) : SumI a b (k + 1) (setD B16 k ((dg B16 k a + dg B16 k b + c) % B16) Z) ((dg B16 k a + dg B16 k b + c) / B16) := by
  obtain ⟨s, h1, h2, h3⟩ := h.lo
  have hc := h.c1
  have ha := dg_lt (B := B16) (by decide) k a
  have hb := dg_lt (B := B16) (by decide) k b
  have hm := Nat.div_add_mod (dg B16 k a + dg B16 k b + c) B16
  have hv := Nat.mod_lt (dg B16 k a + dg B16 k b + c) (show 0 < B16 by decide)
  refine ⟨⟨s + (dg B16 k a + dg B16 k b + c) % B16 * B16 ^ k, low_lt h1 hv, by rw [h2]; exact top_set h1 hv, ?_⟩, ?_⟩
  · rw [mod_succ, mod_succ]
    have e : (dg B16 k a + dg B16 k b + c) / B16 * B16 ^ (k + 1) + (dg B16 k a + dg B16 k b + c) % B16 * B16 ^ k = (dg B16 k a + dg B16 k b + c) * B16 ^ k := by
      conv => rhs; rw [← hm]
      rw [Nat.add_mul, Nat.pow_succ, Nat.mul_comm (B16 ^ k) B16, ← Nat.mul_assoc, Nat.mul_comm _ B16]
    rw [Nat.add_mul, Nat.add_mul] at e
    omega
  · have : (dg B16 k a + dg B16 k b + c) / B16 < 2 := by rw [Nat.div_lt_iff_lt_mul (by decide)]; omega
    omega
theorem SumI.done {a b Z c : Nat} (ha : a < BW) (hb : b < BW) (h : SumI a b 16 Z c) : Z = addN a b ∧ ((c : Nat) : Int) = moreN a b := by
  obtain ⟨s, h1, h2, h3⟩ := h.lo
  rw [← bw16] at *
  rw [Nat.div_eq_of_lt ha, Nat.zero_mul, Nat.zero_add] at h2
  rw [Nat.mod_eq_of_lt ha, Nat.mod_eq_of_lt hb] at h3
  have hc := h.c1
  unfold addN moreN
  subst h2
  rw [← h3, Nat.add_mul_mod_self_right, Nat.mod_eq_of_lt h1, Nat.add_mul_div_right _ _ (by decide), Nat.div_eq_of_lt h1, Nat.zero_add]
  exact ⟨rfl, rfl⟩
theorem DifI.start (a b : Nat) : DifI a b 0 a 0 := ⟨⟨0, by simp, by simp, by simp [Nat.mod_one]⟩, by omega⟩
theorem DifI.step {a b k Z c : Nat} (h : DifI a b k Z c) : DifI a b (k + 1) (setD B16 k ((dg B16 k a + B16 - dg B16 k b - c) % B16) Z) (1 - (dg B16 k a + B16 - dg B16 k b - c) / B16) ∧ (dg B16 k a + B16 - dg B16 k b - c) / B16 ≤ 1 := by
  obtain ⟨s, h1, h2, h3⟩ := h.lo
  have hc := h.c1
  have ha := dg_lt (B := B16) (by decide) k a
  have hb := dg_lt (B := B16) (by decide) k b
  have hm := Nat.div_add_mod (dg B16 k a + B16 - dg B16 k b - c) B16
  have hv := Nat.mod_lt (dg B16 k a + B16 - dg B16 k b - c) (show 0 < B16 by decide)
  have hq : (dg B16 k a + B16 - dg B16 k b - c) / B16 ≤ 1 := by
    have : (dg B16 k a + B16 - dg B16 k b - c) / B16 < 2 := by rw [Nat.div_lt_iff_lt_mul (by decide)]; omega
    omega
  have hn : dg B16 k a + B16 - dg B16 k b - c + dg B16 k b + c = dg B16 k a + B16 := by unfold B16 at *; omega
  generalize hN : dg B16 k a + B16 - dg B16 k b - c = n at *
  refine ⟨⟨⟨s + n % B16 * B16 ^ k, low_lt h1 hv, by rw [h2]; exact top_set h1 hv, ?_⟩, Nat.sub_le _ _⟩, hq⟩
  rw [mod_succ, mod_succ]
  have e0 : n % B16 + dg B16 k b + c = dg B16 k a + B16 * (1 - n / B16) := by
    rcases Nat.le_one_iff_eq_zero_or_eq_one.1 hq with h | h <;> rw [h] at hm ⊢ <;> omega
  have e := congrArg (· * B16 ^ k) e0
  simp only [Nat.add_mul] at e
  have e2 : B16 * (1 - n / B16) * B16 ^ k = (1 - n / B16) * B16 ^ (k + 1) := by rw [Nat.pow_succ, Nat.mul_comm B16, Nat.mul_assoc, Nat.mul_comm B16]
  omega
theorem DifI.done {a b Z c : Nat} (ha : a < BW) (hb : b < BW) (h : DifI a b 16 Z c) : Z = subN a b ∧ ((c : Nat) : Int) = lessN a b := by
  obtain ⟨s, h1, h2, h3⟩ := h.lo
  rw [← bw16] at *
  rw [Nat.div_eq_of_lt ha, Nat.zero_mul, Nat.zero_add] at h2
  rw [Nat.mod_eq_of_lt ha, Nat.mod_eq_of_lt hb] at h3
  have hc := h.c1
  subst h2
  exact sub_end ha hb (by omega) (by
    have : (((Z + b : Nat)) : Int) = ((a + c * BW : Nat) : Int) := by rw [h3]
    rw [Int.natCast_add, Int.natCast_add, Int.natCast_mul] at this
    have e : ((BW : Nat) : Int) = 115792089237316195423570985008687907853269984665640564039457584007913129639936 := rfl
    rw [e] at this; omega) h1
end Go.Proofs.Ytacjiajijigebaa
