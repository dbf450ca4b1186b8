/- What is known of the reference's numbers that go round. No condition. -/
import Derived.Test.YtacjiajijigebaaRh
namespace Go.Proofs.Ytacjiajijigebaa
open Go Go.Ev
set_option linter.unusedSimpArgs false

set_option maxRecDepth 20000 in
theorem ref_May (a b m : Nat) : PureOk Try.prog 172 [aN a, aN b, aN m] (tB (mayM a b m)) := by
  refine pure_of_ev (cxK [refOfK, refCmpK]) Try.func172 rfl (by kernel_rfl) (Nat.le_of_ble_eq_true rfl) ⟨trivial, trivial, trivial, trivial⟩ rfl fun hf w => ?_
  refine ⟨by kernel_rfl, trivial, trivial, ?_⟩
  conv => whnf
  refine brk (fun h1 => ?_) (fun h1 => ?_) <;> replace h1 : iltB 0 (cmpN m 1) = _ := h1 <;> rw [cmp_0lt] at h1 <;> simp only [decide_eq_true_eq, decide_eq_false_iff_not] at h1
  · refine ⟨trivial, ?_⟩
    conv => whnf
    refine brk (fun h2 => ?_) (fun h2 => ?_) <;> replace h2 : iltB (cmpN a m) 0 = _ := h2 <;> rw [cmp_lt0] at h2 <;> simp only [decide_eq_true_eq, decide_eq_false_iff_not] at h2
    · refine ⟨trivial, ?_, trivial⟩
      show iltB (cmpN b m) 0 = mayM a b m
      rw [cmp_lt0]; unfold mayM; simp [h1, h2]
    · refine ⟨?_, trivial⟩
      unfold mayM; simp [h2]
  · refine ⟨?_, trivial⟩
    unfold mayM; simp [h1]
def refMayK : Known Try.prog := kNNN 172 (fun _ _ _ => True) (fun a b m => tB (mayM a b m)) (fun a b m _ => ref_May a b m)

set_option maxRecDepth 20000 in
theorem ref_times (a b m : Nat) (h : a < m ∧ b < m) : PureOk Try.prog 173 [aN a, aN b, aN m] (tN (a * b % m)) := by
  refine pure_of_ev (cxK [refWordK, mul64K, div64K, refOfK, refMulK, refWideK]) Try.func173 rfl (by kernel_rfl) (Nat.le_of_ble_eq_true rfl) ⟨trivial, trivial, trivial, trivial⟩ trivial fun hf w => ?_
  have ha := hf.1.1; have hb := hf.2.1.1; have hm := hf.2.2.1.1
  refine ⟨trivial, ?_⟩
  conv => whnf
  refine brk (fun h1 => ?_) (fun h1 => ?_) <;> replace h1 : decide (m < B64) = _ := h1 <;> simp only [decide_eq_true_eq, decide_eq_false_iff_not] at h1
  · have hm' : m < 18446744073709551616 := h1
    have hlim := times_small (b := b) h.1 hm'
    refine ⟨trivial, by simpa using hlim, trivial, ?_, trivial⟩
    have e0 : ∀ x, x < 18446744073709551616 → limb (0 + 0) x = x := fun x hx => by rw [Nat.add_zero, limb0_small hx]
    show ((Int.ofNat (limb (0 + 0) a) * Int.ofNat (limb (0 + 0) b) / 18446744073709551616 * 18446744073709551616 + Int.ofNat (limb (0 + 0) a) * Int.ofNat (limb (0 + 0) b) % 18446744073709551616) % Int.ofNat (limb (0 + 0) m)).toNat = _
    rw [Int.ediv_mul_add_emod, e0 a (by omega), e0 b (by omega), e0 m hm']
    simp only [Int.ofNat_eq_natCast]
    rw [← Int.natCast_mul, ← Int.natCast_emod, Int.toNat_natCast]
  · have hm' : ¬ m < 18446744073709551616 := h1
    refine ⟨trivial, trivial, ?_, trivial⟩
    show dR (mulLo a b + BW * mulHi a b) m = _
    unfold dR mulLo mulHi
    rw [if_neg (by omega), Nat.mod_add_div]
def refTimesK : Known Try.prog := kNNN 173 (fun a b m => a < m ∧ b < m) (fun a b m => tN (a * b % m)) ref_times

set_option maxRecDepth 20000 in
theorem ref_MulM (a b m : Nat) : PureOk Try.prog 108 [aN a, aN b, aN m] (modsN (fun a b m => a * b % m) a b m) := by
  refine pure_of_ev (cxK [refMayK, refTimesK]) Try.func108 rfl (by kernel_rfl) (Nat.le_of_ble_eq_true rfl) ⟨trivial, trivial, trivial, trivial⟩ ⟨trivial, rfl, trivial⟩ fun hf w => ?_
  refine ⟨trivial, ?_⟩
  conv => whnf
  refine brk (fun h1 => ?_) (fun h1 => ?_) <;> replace h1 : (!mayM a b m) = _ := h1 <;> simp only [Bool.not_eq_true', Bool.not_eq_false'] at h1
  · exact ⟨by rw [h1]; rfl, by rw [h1]; rfl, trivial⟩
  · have hm : 1 < m ∧ a < m ∧ b < m := by unfold mayM at h1; simpa using h1
    exact ⟨hm.2, by rw [h1]; rfl, by rw [h1]; rfl, trivial⟩
def refMulMK : Known Try.prog := kNNN 108 (fun _ _ _ => True) (modsN (fun a b m => a * b % m)) (fun a b m _ => ref_MulM a b m)

set_option maxRecDepth 20000 in
theorem ref_SubM (a b m : Nat) : PureOk Try.prog 175 [aN a, aN b, aN m] (modsN subM a b m) := by
  refine pure_of_ev (cxK [refMayK, refSubK, refAddK]) Try.func175 rfl (by kernel_rfl) (Nat.le_of_ble_eq_true rfl) ⟨trivial, trivial, trivial, trivial⟩ ⟨trivial, rfl, trivial⟩ fun hf w => ?_
  have hmB := hf.2.2.1.1
  refine ⟨trivial, ?_⟩
  conv => whnf
  refine brk (fun h1 => ?_) (fun h1 => ?_) <;> replace h1 : (!mayM a b m) = _ := h1 <;> simp only [Bool.not_eq_true', Bool.not_eq_false'] at h1
  · exact ⟨by rw [h1]; rfl, by rw [h1]; rfl, trivial⟩
  · have hm : 1 < m ∧ a < m ∧ b < m := by unfold mayM at h1; simpa using h1
    refine ⟨trivial, ?_⟩
    conv => whnf
    refine brk (fun h2 => ?_) (fun h2 => ?_) <;> replace h2 : ieqB (lessN a b) 1 = _ := h2 <;> simp only [ieqB_eq, decide_eq_true_eq, decide_eq_false_iff_not, lessN] at h2
    · refine ⟨trivial, ?_, by rw [h1]; rfl, trivial⟩
      rw [h1]
      show addN (subN a b) m = (a + (m - b)) % m
      split at h2
      · unfold addN subN
        rw [Nat.mod_eq_of_lt (a := a + (BW - b)) (by omega), show a + (BW - b) + m = a + (m - b) + BW by omega, Nat.add_mod_right, Nat.mod_eq_of_lt (by omega), Nat.mod_eq_of_lt (by omega)]
      · omega
    · refine ⟨?_, by rw [h1]; rfl, trivial⟩
      rw [h1]
      show subN a b = (a + (m - b)) % m
      split at h2
      · omega
      · unfold subN
        rw [show a + (BW - b) = (a - b) + BW by omega, Nat.add_mod_right, Nat.mod_eq_of_lt (by omega), show a + (m - b) = (a - b) + m by omega, Nat.add_mod_right, Nat.mod_eq_of_lt (by omega)]
def refSubMK : Known Try.prog := kNNN 175 (fun _ _ _ => True) (modsN subM) (fun a b m _ => ref_SubM a b m)

theorem pow_bit (a n m p : Nat) :
    let y := a ^ (n / 2 ^ (p + 1)) % m
    (n / 2 ^ p % 2 = 1 → y * y % m * a % m = a ^ (n / 2 ^ p) % m) ∧ (n / 2 ^ p % 2 ≠ 1 → y * y % m = a ^ (n / 2 ^ p) % m) := by
  intro y
  have e0 : n / 2 ^ (p + 1) = n / 2 ^ p / 2 := by rw [Nat.div_div_eq_div_mul, ← Nat.pow_succ]
  have hy : y = a ^ (n / 2 ^ p / 2) % m := by show a ^ _ % m = _; rw [e0]
  generalize n / 2 ^ p = x at *
  have e2 : y * y % m = a ^ (2 * (x / 2)) % m := by
    rw [hy, ← Nat.mul_mod, ← Nat.pow_add]; congr 2; omega
  refine ⟨fun h => ?_, fun h => ?_⟩
  · rw [e2, Nat.mod_mul_mod, ← Nat.pow_succ]; congr 2; omega
  · rw [e2]; congr 2; omega
end Go.Proofs.Ytacjiajijigebaa
