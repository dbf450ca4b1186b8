/- What is known of long numbers: their bits. No condition. -/
import Derived.Test.YtacjiajijigebaaLi
namespace Go.Proofs.Ytacjiajijigebaa
open Go Go.Ev
set_option linter.unusedSimpArgs false

theorem limb_top {a : Nat} (ha : a < BW) : limb 3 a = a / 2 ^ 192 ∧ (limb 3 a = 0 → limb 2 a = a / 2 ^ 128) ∧ (limb 3 a = 0 → limb 2 a = 0 → limb 1 a = a / 2 ^ 64) ∧ (limb 3 a = 0 → limb 2 a = 0 → limb 1 a = 0 → limb 0 a = a) := by
  have e := limb_split ha
  have a0 := limb_lt 0 a; have a1 := limb_lt 1 a; have a2 := limb_lt 2 a; have a3 := limb_lt 3 a
  generalize limb 0 a = p0 at *; generalize limb 1 a = p1 at *; generalize limb 2 a = p2 at *; generalize limb 3 a = p3 at *
  subst e
  simp only [Nat.reducePow]
  refine ⟨?_, fun h => ?_, fun h h' => ?_, fun h h' h'' => ?_⟩
  · rw [Nat.div_eq_of_lt_le] <;> omega
  · subst h; rw [Nat.div_eq_of_lt_le] <;> omega
  · subst h h'; omega
  · subst h h' h''; omega
theorem bits_end {a i : Nat} (k : Nat) (h : limb i a = a / 2 ^ k) (hn : a / 2 ^ k ≠ 0) (x c : Int) (hx : x = Int.ofNat (limb i a)) (hc : c = (k : Int)) (hk : k ≤ 192) : IntKind.wrap .i64 (c + ((bitLen x.toNat : Nat) : Int)) = (bitLen a : Nat) := by
  subst hx hc
  rw [bitLen_shift a k hn, ← h]
  have := bitLen_le64 (limb i a) (limb_lt i a)
  rw [show (Int.ofNat (limb i a)).toNat = limb i a from rfl, wrapI _ (by omega)]
  simp
set_option maxRecDepth 20000 in
theorem limbs_Bits (a : Nat) : PureOk Try.prog 69 [aN a] (tI (bitLen a)) := by
  refine pure_of_ev (cxK [len64K]) Try.func69 rfl (by kernel_rfl) (Nat.le_of_ble_eq_true rfl) ⟨trivial, trivial⟩ rfl fun hf w => ?_
  have ha := hf.1.1
  obtain ⟨t3, t2, t1, t0⟩ := limb_top ha
  conv => whnf
  refine LoopK.unroll 5 ?_
  conv => whnf
  refine brk (fun h3 => ?_) (fun h3 => ?_) <;> replace h3 : iltB 0 (Int.ofNat (limb 3 a)) = _ := h3 <;> simp only [iltB_eq, decide_eq_true_eq, decide_eq_false_iff_not] at h3
  · exact ⟨trivial, bits_end 192 t3 (by rw [← t3]; simp at h3; omega) _ _ rfl rfl (by decide), trivial⟩
  replace h3 : limb 3 a = 0 := by simp at h3; omega
  conv => whnf
  refine brk (fun h2 => ?_) (fun h2 => ?_) <;> replace h2 : iltB 0 (Int.ofNat (limb 2 a)) = _ := h2 <;> simp only [iltB_eq, decide_eq_true_eq, decide_eq_false_iff_not] at h2
  · exact ⟨trivial, bits_end 128 (t2 h3) (by rw [← t2 h3]; simp at h2; omega) _ _ rfl rfl (by decide), trivial⟩
  replace h2 : limb 2 a = 0 := by simp at h2; omega
  conv => whnf
  refine brk (fun h1 => ?_) (fun h1 => ?_) <;> replace h1 : iltB 0 (Int.ofNat (limb 1 a)) = _ := h1 <;> simp only [iltB_eq, decide_eq_true_eq, decide_eq_false_iff_not] at h1
  · exact ⟨trivial, bits_end 64 (t1 h3 h2) (by rw [← t1 h3 h2]; simp at h1; omega) _ _ rfl rfl (by decide), trivial⟩
  replace h1 : limb 1 a = 0 := by simp at h1; omega
  have e0 : limb 0 a = a / 2 ^ 0 := by rw [t0 h3 h2 h1]; simp
  conv => whnf
  refine brk (fun h0 => ?_) (fun h0 => ?_) <;> replace h0 : iltB 0 (Int.ofNat (limb 0 a)) = _ := h0 <;> simp only [iltB_eq, decide_eq_true_eq, decide_eq_false_iff_not] at h0
  · exact ⟨trivial, bits_end 0 e0 (by rw [← e0]; simp at h0; omega) _ _ rfl rfl (by decide), trivial⟩
  replace h0 : a = 0 := by rw [t0 h3 h2 h1] at h0; simp at h0; omega
  exact ⟨by subst h0; rfl, trivial⟩
def limbsBitsK : Known Try.prog := kN 69 (fun _ => True) (fun a => tI (bitLen a)) (fun a _ => limbs_Bits a)

def bitI (a : Nat) (i : Int) : Int := if i < 0 then 0 else ((a / 2 ^ i.toNat % 2 : Nat) : Int)
theorem and1 (x : Nat) (hx : x < 18446744073709551616) : ibit .and .u64 (x : Int) 1 = ((x % 2 : Nat) : Int) := by
  have h := (ibitU x 1 hx (by omega)).1
  rw [show ((1 : Nat) : Int) = 1 from rfl] at h
  rw [h, Nat.and_one_is_mod]
theorem limb_bit (a n : Nat) : limb (n / 64) a / 2 ^ (n % 64) % 2 = a / 2 ^ n % 2 := by
  unfold limb B64
  have e : 18446744073709551616 ^ (n / 64) = 2 ^ (64 * (n / 64)) := by rw [Nat.pow_mul]
  have e2 : 2 ^ n = 2 ^ (64 * (n / 64)) * 2 ^ (n % 64) := by rw [← Nat.pow_add, Nat.div_add_mod]
  rw [e, e2, ← Nat.div_div_eq_div_mul]
  generalize a / 2 ^ (64 * (n / 64)) = x
  have hm := Nat.mod_lt n (show 0 < 64 by decide)
  generalize n % 64 = k at *
  have h3 : (18446744073709551616 : Nat) = 2 ^ k * 2 ^ (64 - k) := by rw [← Nat.pow_add, show k + (64 - k) = 64 by omega]
  rw [h3, Nat.mod_mul_right_div_self, show 2 ^ (64 - k) = 2 * 2 ^ (63 - k) by rw [show 64 - k = (63 - k) + 1 by omega, Nat.pow_succ, Nat.mul_comm], Nat.mod_mul_right_mod]
set_option maxRecDepth 20000 in
theorem limbs_Bit (a : Nat) (i : Int) : PureOk Try.prog 132 [aN a, aI i] (tU (bitI a i)) := by
  refine pure_of_ev (cxK []) Try.func132 rfl (by kernel_rfl) (Nat.le_of_ble_eq_true rfl) ⟨trivial, rfl, trivial⟩ rfl fun hf w => ?_
  have ha := hf.1.1
  have hi := hasI.1 hf.2.1
  conv => whnf
  refine brk (fun h1 => ?_) (fun h1 => ?_) <;> simp only [iltB_eq, decide_eq_true_eq, decide_eq_false_iff_not] at h1
  · refine ⟨?_, trivial⟩
    unfold bitI; rw [if_pos h1]
  obtain ⟨n, rfl⟩ := Int.eq_ofNat_of_zero_le (Int.not_lt.1 h1)
  conv => whnf
  refine brk (fun h2 => ?_) (fun h2 => ?_) <;> replace h2 : (!iltB (n : Int) 256) = _ := h2 <;> simp only [iltB_eq, Bool.not_eq_true', Bool.not_eq_false', decide_eq_true_eq, decide_eq_false_iff_not] at h2
  · refine ⟨?_, trivial⟩
    unfold bitI; rw [if_neg h1, Nat.div_eq_of_lt]
    · rfl
    · rw [Int.toNat_natCast]
      exact Nat.lt_of_lt_of_le ha (Nat.le_trans (Nat.le_of_eq (show BW = 2 ^ 256 from rfl)) (Nat.pow_le_pow_right (show 0 < 2 by decide) (show 256 ≤ n by omega)))
  have e1 : IntKind.wrap .i64 ((n : Int).tdiv 64) = ((n / 64 : Nat) : Int) := by
    rw [Int.tdiv_eq_ediv_of_nonneg (Int.natCast_nonneg n), wrapI _ (by omega)]; omega
  have e2 : ((n : Int).tmod 64) = ((n % 64 : Nat) : Int) := by rw [Int.tmod_eq_emod_of_nonneg (Int.natCast_nonneg n)]; omega
  have hb : Nat.blt (n / 64) 4 = true := by rw [Nat.blt_eq]; omega
  conv => whnf
  rw [e1]
  conv => whnf
  refine oblT hb ?_
  conv => whnf
  refine oblT (by rw [Nat.zero_add]; exact hb) ?_
  conv => whnf
  rw [e2]
  refine ⟨?_, trivial⟩
  rw [Nat.zero_add, shNs _ (by omega), bitI, if_neg h1, Int.toNat_natCast, ← limb_bit, ← and1, Int.fdiv_eq_ediv_of_nonneg _ (Int.le_of_lt (Int.pow_pos (by decide)))]
  · simp
  · exact Nat.lt_of_le_of_lt (Nat.div_le_self _ _) (limb_lt _ _)
def limbsBitK : Known Try.prog := kNI 132 (fun _ _ => True) (fun a i => tU (bitI a i)) (fun a i _ => limbs_Bit a i)
end Go.Proofs.Ytacjiajijigebaa
