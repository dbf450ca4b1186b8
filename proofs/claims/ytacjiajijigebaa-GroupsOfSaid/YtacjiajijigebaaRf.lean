/- What is known of the reference's divisions: what is left. No condition. -/
import Derived.Test.YtacjiajijigebaaRe
namespace Go.Proofs.Ytacjiajijigebaa
open Go Go.Ev
set_option linter.unusedSimpArgs false

theorem word_iff {a : Nat} (ha : a < BW) : a < 18446744073709551616 ↔ limb 1 a = 0 ∧ limb 2 a = 0 ∧ limb 3 a = 0 := by
  have e := limb_split ha
  have a0 := limb_lt 0 a
  omega
theorem ieq0 (x : Nat) : ieqB (Int.ofNat x) 0 = decide (x = 0) := by rw [ieqB_eq, Bool.eq_iff_iff]; simp only [decide_eq_true_eq, Int.ofNat_eq_natCast]; omega
set_option maxRecDepth 20000 in
theorem ref_Word (a : Nat) : PureOk Try.prog 160 [aN a] (tB (decide (a < B64))) := by
  refine pure_of_ev (cxK []) Try.func160 rfl (by kernel_rfl) (Nat.le_of_ble_eq_true rfl) ⟨trivial, trivial⟩ rfl fun hf w => ?_
  have hw := word_iff hf.1.1
  have e : ∀ t : Bool, (t = true ↔ a < 18446744073709551616) → t = decide (a < B64) := fun t h => by
    rw [Bool.eq_iff_iff, decide_eq_true_eq]; exact h
  conv => whnf
  refine brk (fun h1 => ?_) (fun h1 => ?_) <;> replace h1 : ieqB (Int.ofNat (limb 1 a)) 0 = _ := h1 <;> rw [ieq0] at h1 <;> simp only [decide_eq_true_eq, decide_eq_false_iff_not] at h1
  · conv => whnf
    refine brk (fun h2 => ?_) (fun h2 => ?_) <;> replace h2 : ieqB (Int.ofNat (limb 2 a)) 0 = _ := h2 <;> rw [ieq0] at h2 <;> simp only [decide_eq_true_eq, decide_eq_false_iff_not] at h2
    · refine ⟨?_, trivial⟩
      show ieqB (Int.ofNat (limb 3 a)) 0 = _
      rw [ieq0]
      refine e _ ?_
      rw [decide_eq_true_eq, hw]
      exact ⟨fun h => ⟨h1, h2, h⟩, fun h => h.2.2⟩
    · refine ⟨e _ ?_, trivial⟩
      rw [hw]; simp [h2]
  · refine ⟨e _ ?_, trivial⟩
    rw [hw]; simp [h1]
def refWordK : Known Try.prog := kN 160 (fun _ => True) (fun a => tB (decide (a < B64))) (fun a _ => ref_Word a)

theorem setl_plus {x : Nat} (hx : x < BW) (he : x % 2 = 0) {b : Nat} (hb : b ≤ 1) : setl 0 (IntKind.wrap .u64 (Int.ofNat (limb 0 x) + (b : Int))).toNat x = x + b := by
  have a0 := limb_lt 0 x
  have e := limb_split hx
  have h2 : limb 0 x % 2 = 0 := by omega
  rw [wrapU, show (Int.ofNat (limb 0 x) + (b : Int)) % 18446744073709551616 = ((limb 0 x + b : Nat) : Int) by simp only [Int.ofNat_eq_natCast]; omega, Int.toNat_natCast]
  simp only [setl, num4, B64, Nat.reducePow]
  omega
set_option maxRecDepth 20000 in
theorem ref_twice (r : Nat) (b : Int) (m : Nat) (hr : r < m ∧ 0 ≤ b ∧ b ≤ 1) : PureOk Try.prog 162 [aN r, aU b, aN m] (tN ((2 * r + b.toNat) % m)) := by
  refine pure_of_ev (cxK [refAddK, refSubK, refCmpK]) Try.func162 rfl (by kernel_rfl) (Nat.le_of_ble_eq_true rfl) ⟨trivial, rfl, trivial, trivial⟩ trivial fun hf w => ?_
  obtain ⟨b, rfl⟩ := Int.eq_ofNat_of_zero_le hr.2.1
  have hm := hf.2.2.1.1
  have ha := next_arith (b := b) hr.1 hm (by omega)
  have hs := setl_plus (addN_lt r r) (addN_even r) (b := b) (by omega)
  refine ⟨trivial, ?_⟩
  conv => whnf
  refine brk (fun h1 => ?_) (fun h1 => ?_) <;> simp only [ieqB_eq, decide_eq_true_eq, decide_eq_false_iff_not] at h1
  · refine ⟨trivial, ?_, trivial⟩
    show subN (setl 0 (IntKind.wrap .u64 (Int.ofNat (limb 0 (addN r r)) + (b : Int))).toNat (addN r r)) m = (2 * r + b) % m
    rw [hs]; exact (ha.1 h1).1
  · refine ⟨trivial, ?_⟩
    conv => whnf
    refine brk (fun h2 => ?_) (fun h2 => ?_) <;> replace h2 : (!iltB (cmpN (setl 0 (IntKind.wrap .u64 (Int.ofNat (limb 0 (addN r r)) + (b : Int))).toNat (addN r r)) m) 0) = _ := h2 <;> rw [cmp_lt0, hs] at h2 <;> simp only [Bool.not_eq_true', Bool.not_eq_false', decide_eq_true_eq, decide_eq_false_iff_not] at h2
    · refine ⟨trivial, ?_, trivial⟩
      show subN (setl 0 (IntKind.wrap .u64 (Int.ofNat (limb 0 (addN r r)) + (b : Int))).toNat (addN r r)) m = (2 * r + b) % m
      rw [hs]; exact ((ha.2 h1).1 (by unfold lessN; rw [if_neg h2])).1
    · refine ⟨?_, trivial⟩
      show setl 0 (IntKind.wrap .u64 (Int.ofNat (limb 0 (addN r r)) + (b : Int))).toNat (addN r r) = (2 * r + b) % m
      rw [hs]; exact ((ha.2 h1).2 (by unfold lessN; rw [if_pos h2]; decide)).1
def twiceK : Known Try.prog := kNUN 162 (fun r b m => r < m ∧ 0 ≤ b ∧ b ≤ 1) (fun r b m => tN ((2 * r + b.toNat) % m)) ref_twice

theorem dg_low {low high p : Nat} (hl : low < BW) (hp : p < 8) : dg B64 p (low + BW * high) = if 4 ≤ p then limb (p - 4) high else limb p low := by
  have e : low + BW * high = high * B64 ^ 4 + low := by rw [Nat.mul_comm, Nat.add_comm]; rfl
  split
  · rename_i h
    unfold dg limb
    rw [show B64 ^ p = B64 ^ 4 * B64 ^ (p - 4) by rw [← Nat.pow_add]; congr 1; omega, ← Nat.div_div_eq_div_mul, e, Nat.mul_comm, Nat.mul_add_div (by decide), Nat.div_eq_of_lt (show low < B64 ^ 4 from hl), Nat.add_zero]
  · rename_i h
    unfold limb
    rw [show low / B64 ^ p % B64 = dg B64 p low from rfl, ← dg_mod (B := B64) (n := 4) (show p < 4 by omega), e, Nat.mul_comm, Nat.mul_add_mod, dg_mod (by omega)]
theorem wide_word_step {T m p R : Nat} (hR : R = T / B64 ^ (p + 1) % m) : (R * B64 + dg B64 p T) % m = T / B64 ^ p % m := by
  have e : T / B64 ^ p = B64 * (T / B64 ^ (p + 1)) + dg B64 p T := by
    rw [Nat.pow_succ, ← Nat.div_div_eq_div_mul]; exact (Nat.div_add_mod _ _).symm
  rw [e, hR, Nat.add_mod, Nat.mod_mul_mod, ← Nat.add_mod, Nat.mul_comm]
end Go.Proofs.Ytacjiajijigebaa
