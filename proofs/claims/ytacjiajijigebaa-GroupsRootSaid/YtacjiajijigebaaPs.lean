/- What is known of small primes: both functions say whether a number below 2^32 has no divisor. No condition. -/
import Derived.Test.YtacjiajijigebaaBi
namespace Go.Proofs.Ytacjiajijigebaa
open Go Go.Ev
set_option linter.unusedSimpArgs false

/-- A number from 2 on that nothing between divides. -/
def Pr (n : Nat) : Prop := 2 ≤ n ∧ ∀ d, 2 ≤ d → d < n → n % d ≠ 0
theorem pr_iff {n : Nat} : Pr n ↔ 2 ≤ n ∧ ∀ d, d < n → 2 ≤ d → n % d ≠ 0 := ⟨fun h => ⟨h.1, fun d h1 h2 => h.2 d h2 h1⟩, fun h => ⟨h.1, fun d h1 h2 => h.2 d h2 h1⟩⟩
instance prDec (n : Nat) : Decidable (Pr n) := decidable_of_iff _ pr_iff.symm
def smallB (n : Nat) : Bool := decide (Pr n ∧ n < 4294967296)
theorem smallB_t {n : Nat} (h : Pr n) (h2 : n < 4294967296) : smallB n = true := decide_eq_true ⟨h, h2⟩
theorem smallB_f {n : Nat} (h : ¬ (Pr n ∧ n < 4294967296)) : smallB n = false := decide_eq_false h
theorem smallB_iff {n : Nat} : smallB n = true ↔ Pr n ∧ n < 4294967296 := ⟨fun h => of_decide_eq_true h, fun h => smallB_t h.1 h.2⟩

theorem pr_end {n d : Nat} (hn : 2 ≤ n) (h : ∀ e, 2 ≤ e → e < d → n % e ≠ 0) (hd : n < d * d) : Pr n := by
  refine ⟨hn, fun e he hl hm => ?_⟩
  have h1 : n = e * (n / e) := by have := Nat.div_add_mod n e; omega
  have h2 : 2 ≤ n / e := by
    rcases Nat.lt_or_ge (n / e) 2 with h2 | h2
    · have := Nat.mul_le_mul_left e (show n / e ≤ 1 by omega); omega
    · exact h2
  rcases Nat.lt_or_ge e d with h3 | h3
  · exact h e he h3 hm
  · rcases Nat.lt_or_ge (n / e) d with h4 | h4
    · refine h _ h2 h4 ?_
      generalize n / e = q at *
      subst h1; exact Nat.mul_mod_left e q
    · have := Nat.mul_le_mul h3 h4
      omega

set_option maxRecDepth 20000 in
theorem primes_Small (n : Nat) : PureOk Try.prog 29 [aU n] (tB (smallB n)) := by
  refine pure_of_ev (cxK []) Try.func29 rfl (by kernel_rfl) (Nat.le_of_ble_eq_true rfl) ⟨rfl, trivial⟩ rfl fun hf w => ?_
  have hx := hasU.1 hf.1
  conv => whnf
  refine brk (fun h1 => ?_) (fun h1 => ?_) <;> replace h1 : iltB (n : Int) 2 = _ := h1 <;> simp only [iltB_eq, decide_eq_true_eq, decide_eq_false_iff_not] at h1
  · refine ⟨?_, trivial⟩
    exact (smallB_f (by rintro ⟨⟨h, _⟩, _⟩; omega)).symm
  conv => whnf
  refine brk (fun h2 => ?_) (fun h2 => ?_) <;> replace h2 : iltB 0 ((n : Int).fdiv (2 ^ shN .u64 32)) = _ := h2 <;> simp only [iltB_eq, decide_eq_true_eq, decide_eq_false_iff_not, shr32] at h2
  · refine ⟨?_, trivial⟩
    exact (smallB_f (by rintro ⟨_, h⟩; omega)).symm
  conv => whnf
  refine LoopK.cut Nat (fun d => [(4, tU d), (3, tB true)]) (fun _ => []) (fun d => 2 ≤ d ∧ d ≤ 65536 ∧ ∀ e, 2 ≤ e → e < d → n % e ≠ 0) (fun d => 65537 - d) 2 ?_ ?_
    Unit (fun _ => [(3, tB (smallB n))]) (fun _ => []) (fun _ => True) 0 ?_ ?_
  · exact ⟨by decide, by decide, fun e h1 h2 => by omega⟩
  · repeat' (refine And.intro ?_ ?_)
    all_goals try first | with_reducible rfl | exact trivial
    all_goals rfl
  · rintro d ⟨hd1, hd2, hd3⟩
    have hdd := Nat.mul_le_mul hd2 hd2
    have ed : IntKind.wrap .u64 ((d : Int) * d) = ((d * d : Nat) : Int) := by
      rw [wrapU, ← Int.natCast_mul]; omega
    have em : (n : Int).tmod d = ((n % d : Nat) : Int) := by rw [Int.tmod_eq_emod_of_nonneg (Int.natCast_nonneg n)]; simp
    conv => whnf
    refine brk (fun h3 => ?_) (fun h3 => ?_)
    · replace h3 : (!iltB (n : Int) (IntKind.wrap .u64 ((d : Int) * d))) = true := h3
      simp only [iltB_eq, Bool.not_eq_true', decide_eq_false_iff_not, ed] at h3
      conv => whnf
      refine oblT (by simp only [ieqB_eq]; simp; omega) ?_
      have h5 : d < 65536 := by
        rcases Nat.lt_or_ge d 65536 with h | h
        · exact h
        · have := Nat.mul_le_mul h h; omega
      have h6 : d < n := by
        have := Nat.mul_le_mul hd1 (Nat.le_refl d); omega
      conv => whnf
      rw [em]
      refine brk (fun h4 => ?_) (fun h4 => ?_)
      · replace h4 : ieqB ((n % d : Nat) : Int) 0 = true := h4
        simp only [ieqB_eq, decide_eq_true_eq] at h4
        refine ⟨(), trivial, ?_⟩
        repeat' (refine And.intro ?_ ?_)
        all_goals try first | with_reducible rfl | exact trivial
        exact (smallB_f (by rintro ⟨⟨_, h⟩, _⟩; exact h d hd1 h6 (by omega))).symm
      · replace h4 : ieqB ((n % d : Nat) : Int) 0 = false := h4
        simp only [ieqB_eq, decide_eq_false_iff_not] at h4
        refine ⟨d + 1, ⟨by omega, by omega, fun e he1 he2 => ?_⟩, ?_, ?_⟩
        · rcases Nat.lt_or_ge e d with h | h
          · exact hd3 e he1 h
          · rw [show e = d by omega]; omega
        · repeat' (refine And.intro ?_ ?_)
          all_goals try first | with_reducible rfl | exact trivial
          show IntKind.wrap .u64 ((d : Int) + 1) = ((d + 1 : Nat) : Int)
          rw [wrapU]; omega
        · show 65537 - (d + 1) < 65537 - d
          omega
    · replace h3 : (!iltB (n : Int) (IntKind.wrap .u64 ((d : Int) * d))) = false := h3
      simp only [iltB_eq, Bool.not_eq_false', decide_eq_true_eq, ed] at h3
      refine ⟨(), trivial, ?_⟩
      repeat' (refine And.intro ?_ ?_)
      all_goals try first | with_reducible rfl | exact trivial
      exact (smallB_t (pr_end (by omega) hd3 (by omega)) (by omega)).symm
  · intro _ _
    exact ⟨rfl, trivial⟩
set_option maxRecDepth 20000 in
theorem ref07_Small (n : Nat) : PureOk Try.prog 30 [aU n] (tB (smallB n)) := by
  refine pure_of_ev (cxK []) Try.func30 rfl (by kernel_rfl) (Nat.le_of_ble_eq_true rfl) ⟨rfl, trivial⟩ rfl fun hf w => ?_
  have hx := hasU.1 hf.1
  conv => whnf
  refine brk (fun h1 => ?_) (fun h1 => ?_) <;> replace h1 : iltB (n : Int) 2 = _ := h1 <;> simp only [iltB_eq, decide_eq_true_eq, decide_eq_false_iff_not] at h1
  · refine ⟨?_, trivial⟩
    exact (smallB_f (by rintro ⟨⟨h, _⟩, _⟩; omega)).symm
  conv => whnf
  refine brk (fun h2 => ?_) (fun h2 => ?_) <;> replace h2 : (!iltB (n : Int) 4294967296) = _ := h2 <;> simp only [iltB_eq, Bool.not_eq_true', Bool.not_eq_false', decide_eq_true_eq, decide_eq_false_iff_not] at h2
  · refine ⟨?_, trivial⟩
    exact (smallB_f (by rintro ⟨_, h⟩; omega)).symm
  conv => whnf
  refine LoopK.cut Nat (fun d => [(3, tU d)]) (fun _ => []) (fun d => 2 ≤ d ∧ d ≤ 65536 ∧ ∀ e, 2 ≤ e → e < d → n % e ≠ 0) (fun d => 65537 - d) 2 ?_ ?_
    Unit (fun _ => []) (fun _ => []) (fun _ => smallB n = true) 0 ?_ ?_
  · exact ⟨by decide, by decide, fun e h1 h2 => by omega⟩
  · repeat' (refine And.intro ?_ ?_)
    all_goals try first | with_reducible rfl | exact trivial
    all_goals rfl
  · rintro d ⟨hd1, hd2, hd3⟩
    have hdd := Nat.mul_le_mul hd2 hd2
    have ed : IntKind.wrap .u64 ((d : Int) * d) = ((d * d : Nat) : Int) := by
      rw [wrapU, ← Int.natCast_mul]; omega
    have em : (n : Int).tmod d = ((n % d : Nat) : Int) := by rw [Int.tmod_eq_emod_of_nonneg (Int.natCast_nonneg n)]; simp
    conv => whnf
    refine brk (fun h3 => ?_) (fun h3 => ?_)
    · replace h3 : (!iltB (n : Int) (IntKind.wrap .u64 ((d : Int) * d))) = true := h3
      simp only [iltB_eq, Bool.not_eq_true', decide_eq_false_iff_not, ed] at h3
      conv => whnf
      refine oblT (by simp only [ieqB_eq]; simp; omega) ?_
      have h5 : d < 65536 := by
        rcases Nat.lt_or_ge d 65536 with h | h
        · exact h
        · have := Nat.mul_le_mul h h; omega
      have h6 : d < n := by
        have := Nat.mul_le_mul hd1 (Nat.le_refl d); omega
      conv => whnf
      rw [em]
      refine brk (fun h4 => ?_) (fun h4 => ?_)
      · replace h4 : ieqB ((n % d : Nat) : Int) 0 = true := h4
        simp only [ieqB_eq, decide_eq_true_eq] at h4
        refine ⟨?_, trivial⟩
        exact (smallB_f (by rintro ⟨⟨_, h⟩, _⟩; exact h d hd1 h6 (by omega))).symm
      · replace h4 : ieqB ((n % d : Nat) : Int) 0 = false := h4
        simp only [ieqB_eq, decide_eq_false_iff_not] at h4
        refine ⟨d + 1, ⟨by omega, by omega, fun e he1 he2 => ?_⟩, ?_, ?_⟩
        · rcases Nat.lt_or_ge e d with h | h
          · exact hd3 e he1 h
          · rw [show e = d by omega]; omega
        · repeat' (refine And.intro ?_ ?_)
          all_goals try first | with_reducible rfl | exact trivial
          show IntKind.wrap .u64 ((d : Int) + 1) = ((d + 1 : Nat) : Int)
          rw [wrapU]; omega
        · show 65537 - (d + 1) < 65537 - d
          omega
    · replace h3 : (!iltB (n : Int) (IntKind.wrap .u64 ((d : Int) * d))) = false := h3
      simp only [iltB_eq, Bool.not_eq_false', decide_eq_true_eq, ed] at h3
      refine ⟨(), smallB_t (pr_end (by omega) hd3 (by omega)) (by omega), ?_⟩
      repeat' (refine And.intro ?_ ?_)
      all_goals try first | with_reducible rfl | exact trivial
  · intro _ hs
    exact ⟨hs.symm, trivial⟩

theorem primes_Small' (x : Int) : PureOk Try.prog 29 [aU x] (tB (smallB x.toNat)) := by
  rcases Int.lt_or_le x 0 with h | h
  · rintro g w vs ⟨_, _, rfl, ⟨rfl, hx⟩, rfl⟩
    have := (hasU.1 hx).1; omega
  · obtain ⟨n, rfl⟩ := Int.eq_ofNat_of_zero_le h
    exact primes_Small n
theorem ref07_Small' (x : Int) : PureOk Try.prog 30 [aU x] (tB (smallB x.toNat)) := by
  rcases Int.lt_or_le x 0 with h | h
  · rintro g w vs ⟨_, _, rfl, ⟨rfl, hx⟩, rfl⟩
    have := (hasU.1 hx).1; omega
  · obtain ⟨n, rfl⟩ := Int.eq_ofNat_of_zero_le h
    exact ref07_Small n
def smallK : Known Try.prog := kU 29 (fun _ => True) (fun x => tB (smallB x.toNat)) (fun x _ => primes_Small' x)
def smallRK : Known Try.prog := kU 30 (fun _ => True) (fun x => tB (smallB x.toNat)) (fun x _ => ref07_Small' x)
theorem law_PrimesSmall (x : Int) : PureOk Try.prog 3 [aU x] (tB true) := by
  refine pure_of_ev (cxK [smallK, smallRK]) Try.func3 rfl (by kernel_rfl) (Nat.le_of_ble_eq_true rfl) ⟨rfl, trivial⟩ rfl fun hf w => ?_
  refine ⟨trivial, trivial, ?_, trivial⟩
  simp
end Go.Proofs.Ytacjiajijigebaa
