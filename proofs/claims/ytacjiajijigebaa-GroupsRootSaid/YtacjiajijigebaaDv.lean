/- What is known of divisions of long numbers: a step. No condition. -/
import Derived.Test.YtacjiajijigebaaLk
namespace Go.Proofs.Ytacjiajijigebaa
open Go Go.Ev
set_option linter.unusedSimpArgs false

theorem bitLen_le {a k : Nat} : bitLen a ≤ k ↔ a < 2 ^ k := by
  unfold bitLen
  split
  · subst_vars; simp; exact Nat.two_pow_pos k
  · rename_i h; exact Nat.log2_lt h
theorem divides_short (a : Nat) : PureOk Try.prog 129 [aN a] (tB (decide (a < B64))) := by
  refine pure_of_ev (cxK [limbsBitsK]) Try.func129 rfl (by kernel_rfl) (Nat.le_of_ble_eq_true rfl) ⟨trivial, trivial⟩ rfl fun hf w => ?_
  refine ⟨trivial, ?_, trivial⟩
  have h := bitLen_le (a := a) (k := 64)
  rw [show (64 : Int) = ((64 : Nat) : Int) from rfl, iltB_eq]
  rw [Bool.eq_iff_iff]
  simp only [Bool.not_eq_true', decide_eq_false_iff_not, decide_eq_true_eq]
  rw [show B64 = 2 ^ 64 from rfl, ← h]
  omega
def shortK : Known Try.prog := kN 129 (fun _ => True) (fun a => tB (decide (a < B64))) (fun a _ => divides_short a)

def nextN (r : Nat) (b : Int) (m : Nat) : AV := .tup [aN ((2 * r + b.toNat) % m), aU (((2 * r + b.toNat) / m : Nat) : Int)]
theorem or_even {x b : Nat} (hx : x < 18446744073709551616) (he : x % 2 = 0) (hb : b ≤ 1) : ibit .or .u64 (x : Int) (b : Int) = ((x + b : Nat) : Int) := by
  rw [(ibitU x b hx (by omega)).2.1]
  congr 1
  have h := Nat.two_pow_add_eq_or_of_lt (i := 1) (b := b) (by omega) (x / 2)
  rw [show 2 ^ 1 * (x / 2) = x by omega] at h
  exact h.symm
theorem setl_or {x : Nat} (hx : x < BW) (he : x % 2 = 0) {b : Nat} (hb : b ≤ 1) : setl 0 (ibit .or .u64 (Int.ofNat (limb 0 x)) (b : Int)).toNat x = x + b := by
  have a0 := limb_lt 0 x
  have e := limb_split hx
  have h2 : limb 0 x % 2 = 0 := by omega
  rw [show Int.ofNat (limb 0 x) = ((limb 0 x : Nat) : Int) from rfl, or_even a0 h2 hb, Int.toNat_natCast]
  simp only [setl, num4, B64, Nat.reducePow]
  omega
theorem next_arith {r m b : Nat} (hr : r < m) (hm : m < BW) (hb : b ≤ 1) :
    (moreN r r = 1 → subN (addN r r + b) m = (2 * r + b) % m ∧ (2 * r + b) / m = 1) ∧
    (moreN r r ≠ 1 → (lessN (addN r r + b) m = 0 → subN (addN r r + b) m = (2 * r + b) % m ∧ (2 * r + b) / m = 1) ∧ (lessN (addN r r + b) m ≠ 0 → addN r r + b = (2 * r + b) % m ∧ (2 * r + b) / m = 0)) := by
  have e1 : ∀ T, m ≤ T → T < 2 * m → T % m = T - m ∧ T / m = 1 := by
    intro T h1 h2
    have : T / m = 1 := Nat.div_eq_of_lt_le (by omega) (by omega)
    have h3 := Nat.div_add_mod T m
    rw [this] at h3
    omega
  have e0 : ∀ T, T < m → T % m = T ∧ T / m = 0 := fun T h => ⟨Nat.mod_eq_of_lt h, Nat.div_eq_of_lt h⟩
  unfold moreN addN subN lessN
  have hq : (r + r) / BW = 0 ∨ (r + r) / BW = 1 := by unfold BW at *; omega
  have hmod := Nat.div_add_mod (r + r) BW
  refine ⟨fun h => ?_, fun h => ⟨fun h2 => ?_, fun h2 => ?_⟩⟩
  · have h1 : (r + r) / BW = 1 := by omega
    rw [h1] at hmod
    have := e1 (2 * r + b) (by omega) (by omega)
    rw [this.1, this.2]
    refine ⟨?_, rfl⟩
    rw [Nat.mod_eq_of_lt] <;> omega
  · have h1 : (r + r) / BW = 0 := by omega
    rw [h1] at hmod
    split at h2
    · omega
    · have hlt : r + r + b < BW := by unfold BW at *; omega
      have := e1 (2 * r + b) (by omega) (by omega)
      rw [this.1, this.2]
      refine ⟨?_, rfl⟩
      rw [show (r + r) % BW + b + (BW - m) = (2 * r + b - m) + BW by omega, Nat.add_mod_right, Nat.mod_eq_of_lt (by omega)]
  · have h1 : (r + r) / BW = 0 := by omega
    rw [h1] at hmod
    split at h2
    · have := e0 (2 * r + b) (by omega)
      rw [this.1, this.2]
      omega
    · omega
theorem addN_even (r : Nat) : addN r r % 2 = 0 := by unfold addN BW; omega
theorem addN_lt (a b : Nat) : addN a b < BW := Nat.mod_lt _ (by decide)

set_option maxRecDepth 20000 in
theorem divides_next (r : Nat) (b : Int) (m : Nat) (hr : r < m ∧ 0 ≤ b ∧ b ≤ 1) : PureOk Try.prog 131 [aN r, aU b, aN m] (nextN r b m) := by
  refine pure_of_ev (cxK [limbsAddK, limbsSubK]) Try.func131 rfl (by kernel_rfl) (Nat.le_of_ble_eq_true rfl) ⟨trivial, rfl, trivial, trivial⟩ ⟨trivial, rfl, trivial⟩ fun hf w => ?_
  obtain ⟨b, rfl⟩ := Int.eq_ofNat_of_zero_le hr.2.1
  have hm := hf.2.2.1.1
  have ha := next_arith (b := b) hr.1 hm (by omega)
  have hs := setl_or (addN_lt r r) (addN_even r) (b := b) (by omega)
  have hx := addN_lt r r
  refine ⟨trivial, trivial, ?_⟩
  conv => whnf
  refine brk (fun h1 => ?_) (fun h1 => ?_) <;> simp only [ieqB_eq, decide_eq_true_eq, decide_eq_false_iff_not] at h1
  · refine ⟨?_, ?_, trivial⟩
    · show subN (setl 0 (ibit .or .u64 (Int.ofNat (limb 0 (addN r r))) (b : Int)).toNat (addN r r)) m = (2 * r + b) % m
      rw [hs]; exact (ha.1 h1).1
    · show (1 : Int) = (((2 * r + b) / m : Nat) : Int)
      rw [(ha.1 h1).2]; rfl
  · conv => whnf
    refine brk (fun h2 => ?_) (fun h2 => ?_) <;> replace h2 : ieqB (lessN (setl 0 (ibit .or .u64 (Int.ofNat (limb 0 (addN r r))) (b : Int)).toNat (addN r r)) m) 0 = _ := h2 <;> simp only [ieqB_eq, hs, decide_eq_true_eq, decide_eq_false_iff_not] at h2
    · refine ⟨?_, ?_, trivial⟩
      · show subN (setl 0 (ibit .or .u64 (Int.ofNat (limb 0 (addN r r))) (b : Int)).toNat (addN r r)) m = (2 * r + b) % m
        rw [hs]; exact ((ha.2 h1).1 h2).1
      · show (1 : Int) = (((2 * r + b) / m : Nat) : Int)
        rw [((ha.2 h1).1 h2).2]; rfl
    · refine ⟨?_, ?_, trivial⟩
      · show setl 0 (ibit .or .u64 (Int.ofNat (limb 0 (addN r r))) (b : Int)).toNat (addN r r) = (2 * r + b) % m
        rw [hs]; exact ((ha.2 h1).2 h2).1
      · show (0 : Int) = (((2 * r + b) / m : Nat) : Int)
        rw [((ha.2 h1).2 h2).2]; rfl
def nextK : Known Try.prog := kNUN 131 (fun r b m => r < m ∧ 0 ≤ b ∧ b ≤ 1) nextN divides_next
end Go.Proofs.Ytacjiajijigebaa
