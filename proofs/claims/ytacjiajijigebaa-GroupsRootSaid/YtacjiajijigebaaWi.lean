/- Wilson's sentence for small numbers, and a greatest small prime, by reckoning. No condition. -/
import Derived.Test.YtacjiajijigebaaPs
import Derived.KernelRfl
namespace Go.Proofs.Ytacjiajijigebaa
open Go Go.Ev

/-- No number from s on, k of them, divides n. -/
noncomputable def nd (n s k : Nat) : Bool := Nat.rec (motive := fun _ => Bool) true (fun j ih => match Nat.beq (n % (s + j)) 0 with
  | true => false
  | false => ih) k
theorem nd_succ (n s k : Nat) : nd n s (k + 1) = (match Nat.beq (n % (s + k)) 0 with
  | true => false
  | false => nd n s k) := rfl
theorem nd_ok {n s : Nat} : ∀ {k : Nat}, nd n s k = true → ∀ e, s ≤ e → e < s + k → n % e ≠ 0
  | 0, _, e, h1, h2 => by omega
  | k + 1, h, e, h1, h2 => by
    rw [nd_succ] at h
    split at h
    · cases h
    · rename_i hb
      by_cases he : e = s + k
      · subst he; exact Nat.ne_of_beq_eq_false hb
      · exact nd_ok h e h1 (by omega)
noncomputable def ndc (n c : Nat) : Bool := Nat.rec (motive := fun _ => Bool) true (fun j ih => match nd n (2 + 1024 * j) 1024 with
  | true => ih
  | false => false) c
theorem ndc_succ (n c : Nat) : ndc n (c + 1) = (match nd n (2 + 1024 * c) 1024 with
  | true => ndc n c
  | false => false) := rfl
theorem ndc_ok {n : Nat} : ∀ {c : Nat}, ndc n c = true → ∀ e, 2 ≤ e → e < 2 + 1024 * c → n % e ≠ 0
  | 0, _, e, h1, h2 => by omega
  | c + 1, h, e, h1, h2 => by
    rw [ndc_succ] at h
    split at h
    · rename_i hb
      by_cases he : e < 2 + 1024 * c
      · exact ndc_ok h e h1 he
      · have h3 : e < 2 + 1024 * c + 1024 := by
          rw [Nat.add_assoc, ← Nat.mul_succ]; exact h2
        exact nd_ok (s := 2 + 1024 * c) (k := 1024) hb e (Nat.le_of_not_lt he) h3
    · cases h
theorem ndc_great : ndc 4294967291 64 = true := by kernel_rfl
theorem great_prime : Pr 4294967291 := by
  exact pr_end (d := 65536) (by omega) (fun e h1 h2 => ndc_ok ndc_great e h1 (by omega)) (by omega)
theorem small_great : smallB 4294967291 = true := smallB_t great_prime (by decide)

/-- The product of the numbers to k, going round by m. -/
noncomputable def fct (m k : Nat) : Nat := Nat.rec (motive := fun _ => Nat) 1 (fun j ih => ih * (j + 1) % m) k
theorem fct_zero (m : Nat) : fct m 0 = 1 := rfl
theorem fct_succ (m k : Nat) : fct m (k + 1) = fct m k * (k + 1) % m := rfl
/-- No number from 2 to k + 1 below m divides m. -/
noncomputable def nds (m k : Nat) : Bool := Nat.rec (motive := fun _ => Bool) true (fun j ih => match Nat.ble m (j + 2) with
  | true => ih
  | false => match Nat.beq (m % (j + 2)) 0 with
    | true => false
    | false => ih) k
theorem nds_succ (m k : Nat) : nds m (k + 1) = (match Nat.ble m (k + 2) with
  | true => nds m k
  | false => match Nat.beq (m % (k + 2)) 0 with
    | true => false
    | false => nds m k) := rfl
theorem nds_ok {m : Nat} : ∀ {k : Nat}, nds m k = true → ∀ e, 2 ≤ e → e < k + 2 → e < m → m % e ≠ 0
  | 0, _, e, h1, h2, _ => by omega
  | k + 1, h, e, h1, h2, h3 => by
    rw [nds_succ] at h
    by_cases he : e = k + 2
    · subst he
      split at h
      · rename_i hb
        have := Nat.le_of_ble_eq_true hb
        omega
      · split at h
        · cases h
        · rename_i hb; exact Nat.ne_of_beq_eq_false hb
    · split at h
      · exact nds_ok h e h1 (by omega) h3
      · split at h
        · cases h
        · exact nds_ok h e h1 (by omega) h3
theorem nds_no {m : Nat} : ∀ {k : Nat}, nds m k = false → ∃ e, 2 ≤ e ∧ e < m ∧ m % e = 0
  | 0, h => by cases h
  | k + 1, h => by
    rw [nds_succ] at h
    split at h
    · exact nds_no h
    · rename_i hb
      split at h
      · rename_i hb2
        have hb : ¬ m ≤ k + 2 := fun hh => by rw [Nat.ble_eq_true_of_le hh] at hb; cases hb
        exact ⟨k + 2, by omega, by omega, Nat.eq_of_beq_eq_true hb2⟩
      · exact nds_no h
theorem nds_small {m : Nat} (h2 : 2 ≤ m) (h : m < 1501) : smallB m = nds m 37 := by
  cases hn : nds m 37 with
  | true =>
    refine smallB_t ?_ (by omega)
    by_cases h39 : m < 39
    · exact ⟨h2, fun d h3 h4 => nds_ok hn d h3 (by omega) h4⟩
    · exact pr_end (d := 39) h2 (fun e h3 h4 => nds_ok hn e h3 (by omega) (by omega)) (by omega)
  | false =>
    obtain ⟨e, h3, h4, h5⟩ := nds_no hn
    exact smallB_f fun hh => hh.1.2 e h3 h4 h5
noncomputable def wil (m : Nat) : Bool := match nds m 37 with
  | true => Nat.beq (fct m (m - 1)) (m - 1)
  | false => match Nat.beq (fct m (m - 1)) (m - 1) with
    | true => false
    | false => true
noncomputable def wilA (c : Nat) : Bool := Nat.rec (motive := fun _ => Bool) true (fun j ih => match wil (j + 2) with
  | true => ih
  | false => false) c
theorem wilA_succ (c : Nat) : wilA (c + 1) = (match wil (c + 2) with
  | true => wilA c
  | false => false) := rfl
theorem wilA_ok : ∀ {c : Nat}, wilA c = true → ∀ m, 2 ≤ m → m < c + 2 → wil m = true
  | 0, _, m, h1, h2 => by omega
  | c + 1, h, m, h1, h2 => by
    rw [wilA_succ] at h
    split at h
    · rename_i hb
      by_cases he : m = c + 2
      · subst he; exact hb
      · exact wilA_ok h m h1 (by omega)
    · cases h
theorem wilA_t : wilA 1499 = true := by kernel_rfl
theorem wilson {m : Nat} (h2 : 2 ≤ m) (h : m < 1501) : smallB m = Nat.beq (fct m (m - 1)) (m - 1) := by
  have hw := wilA_ok wilA_t m h2 h
  rw [nds_small h2 h]
  unfold wil at hw
  cases hn : nds m 37 with
  | true => rw [hn] at hw; exact hw.symm
  | false =>
    rw [hn] at hw
    cases hb : Nat.beq (fct m (m - 1)) (m - 1) with
    | true => rw [hb] at hw; cases hw
    | false => rfl
end Go.Proofs.Ytacjiajijigebaa
