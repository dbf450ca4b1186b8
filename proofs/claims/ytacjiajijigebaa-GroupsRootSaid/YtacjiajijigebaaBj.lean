/- What is known of math/bits: a quotient of two words by one. No condition. -/
import Derived.Test.YtacjiajijigebaaBi
namespace Go.Proofs.Ytacjiajijigebaa
open Go Go.Ev
set_option linter.unusedSimpArgs false

def len64K : Known Try.prog := kU 127 (fun _ => True) len64 (fun x _ => bits_Len64 x)
def mul64K : Known Try.prog := kUU 183 (fun _ _ => True) mul64 (fun x y _ => bits_Mul64 x y)
def lz64 (x : Int) : AV := tI (64 - bitLen x.toNat)
theorem bitLen_le64 (i : Nat) (h : i < 18446744073709551616) : bitLen i ≤ 64 := by
  unfold bitLen
  split
  · omega
  · rename_i h0
    have := (Nat.log2_lt h0).2 (show i < 2 ^ 64 from h)
    omega
theorem bits_LeadingZeros64 (x : Int) : PureOk Try.prog 184 [aU x] (lz64 x) := by
  refine pure_of_ev (cxK [len64K]) Try.func184 rfl (by kernel_rfl) (Nat.le_of_ble_eq_true rfl) ⟨rfl, trivial⟩ rfl fun hf w => ?_
  have hx := hasU.1 hf.1
  have := bitLen_le64 x.toNat (by omega)
  refine ⟨trivial, ?_⟩
  refine ⟨?_, trivial⟩
  rw [wrapI _ (by omega)]
def lz64K : Known Try.prog := kU 184 (fun _ => True) lz64 (fun x _ => bits_LeadingZeros64 x)

/-! ### The quotient's halves -/
theorem half_ge {A D y1 y0 q r : Int} (h1 : 2147483648 ≤ y1) (h2 : 0 ≤ y0) (h4 : A = q * y1 + r) (h6 : q * y0 ≤ 4294967296 * r + D) : q ≤ (A * 4294967296 + D) / (y1 * 4294967296 + y0) := by
  rw [Int.le_ediv_iff_mul_le (by omega)]
  have : q * (y1 * 4294967296 + y0) = (q * y1) * 4294967296 + q * y0 := by rw [Int.mul_add, Int.mul_assoc]
  rw [this]; omega
theorem half_gt {A D y1 y0 q r : Int} (h1 : 2147483648 ≤ y1) (h2 : 0 ≤ y0) (h4 : A = q * y1 + r) (h6 : 4294967296 * r + D < q * y0) : (A * 4294967296 + D) / (y1 * 4294967296 + y0) < q := by
  rw [Int.ediv_lt_iff_lt_mul (by omega)]
  have : q * (y1 * 4294967296 + y0) = (q * y1) * 4294967296 + q * y0 := by rw [Int.mul_add, Int.mul_assoc]
  rw [this]; omega
theorem half_lt {A D y1 y0 : Int} (h1 : 2147483648 ≤ y1) (h2 : 0 ≤ y0) (h4 : A < y1 * 4294967296 + y0) (h5 : D < 4294967296) : (A * 4294967296 + D) / (y1 * 4294967296 + y0) < 4294967296 := by
  rw [Int.ediv_lt_iff_lt_mul (by omega)]
  omega
theorem half_nn {A D y1 y0 : Int} (h1 : 2147483648 ≤ y1) (h2 : 0 ≤ y0) (h4 : 0 ≤ A) (h5 : 0 ≤ D) : 0 ≤ (A * 4294967296 + D) / (y1 * 4294967296 + y0) :=
  Int.ediv_nonneg (by omega) (by omega)
theorem half_le {A D y1 y0 : Int} (h1 : 2147483648 ≤ y1) (h2 : 0 ≤ y0) (h4 : 0 ≤ A) (h5 : 0 ≤ D ∧ D < 4294967296) : (A * 4294967296 + D) / (y1 * 4294967296 + y0) ≤ A / y1 := by
  rw [Int.le_ediv_iff_mul_le (by omega)]
  have hq := half_nn h1 h2 h4 h5.1
  have h := Int.ediv_mul_le (A * 4294967296 + D) (show y1 * 4294967296 + y0 ≠ 0 by omega)
  generalize (A * 4294967296 + D) / (y1 * 4294967296 + y0) = Q at *
  rw [Int.mul_add, ← Int.mul_assoc] at h
  have := Int.mul_nonneg hq h2
  omega
theorem half_end {A D y1 y0 q r : Int} (h1 : 2147483648 ≤ y1) (h2 : 0 ≤ y0 ∧ y0 < 4294967296) (h4 : A = q * y1 + r) (hA : A < y1 * 4294967296 + y0) (hD : 0 ≤ D) (h6 : 4294967296 ≤ r) : q ≤ (A * 4294967296 + D) / (y1 * 4294967296 + y0) := by
  refine half_ge h1 h2.1 h4 ?_
  have hq : q < 4294967296 := by
    rcases Int.lt_or_le q 4294967296 with h | h
    · exact h
    · exfalso
      have := Int.mul_le_mul_of_nonneg_right h (show 0 ≤ y1 by omega)
      omega
  have := Int.mul_le_mul (Int.le_of_lt hq) (Int.le_of_lt h2.2) h2.1 (by decide)
  omega

theorem norm (y : Int) (hy : 0 < y ∧ y < 18446744073709551616) : 9223372036854775808 ≤ y * 2 ^ (64 - bitLen y.toNat) ∧ y * 2 ^ (64 - bitLen y.toNat) < 18446744073709551616 := by
  obtain ⟨y, rfl⟩ := Int.eq_ofNat_of_zero_le (Int.le_of_lt hy.1)
  rw [Int.toNat_natCast]
  obtain ⟨h1, h2⟩ := bitLen_spec y
  have h2 := h2 (by omega)
  have h3 := bitLen_le64 y (by omega)
  have h4 : bitLen y ≠ 0 := by intro h; rw [h] at h1; omega
  have e1 : 2 ^ (bitLen y - 1) * 2 ^ (64 - bitLen y) = 9223372036854775808 := by rw [← Nat.pow_add, show bitLen y - 1 + (64 - bitLen y) = 63 by omega]
  have e2 : 2 ^ (bitLen y) * 2 ^ (64 - bitLen y) = 18446744073709551616 := by rw [← Nat.pow_add, show bitLen y + (64 - bitLen y) = 64 by omega]
  have h5 := Nat.mul_le_mul_right (2 ^ (64 - bitLen y)) h2
  have h6 := Nat.mul_lt_mul_of_pos_right h1 (Nat.two_pow_pos (64 - bitLen y))
  rw [e1] at h5; rw [e2] at h6
  have : ((y * 2 ^ (64 - bitLen y) : Nat) : Int) = (y : Int) * 2 ^ (64 - bitLen y) := by simp
  omega

theorem shNs (s : Nat) (hs : s ≤ 64) : shN .u64 (s : Int) = s := by rw [← min_shN]; simp [IntKind.bits]; omega
theorem un {hi lo Y : Int} {s : Nat} (hs : s ≤ 64) (h1 : 0 ≤ hi ∧ hi < 18446744073709551616) (h2 : 0 ≤ lo ∧ lo < 18446744073709551616) (hY : hi * 2 ^ s < Y) (hY2 : Y < 18446744073709551616) (hY3 : ∃ z, Y = z * 2 ^ s) :
    ∃ A L, ibit .or .u64 (IntKind.wrap .u64 (hi * 2 ^ s)) (lo.fdiv (2 ^ (64 - s))) = A ∧ IntKind.wrap .u64 (lo * 2 ^ s) = L ∧ A * 18446744073709551616 + L = (hi * 18446744073709551616 + lo) * 2 ^ s ∧ 0 ≤ A ∧ A < Y ∧ 0 ≤ L ∧ L < 18446744073709551616 := by
  obtain ⟨hi, rfl⟩ := Int.eq_ofNat_of_zero_le h1.1
  obtain ⟨lo, rfl⟩ := Int.eq_ofNat_of_zero_le h2.1
  have c1 : ((hi * 2 ^ s : Nat) : Int) = (hi : Int) * 2 ^ s := by simp
  have c2 : ((lo * 2 ^ s : Nat) : Int) = (lo : Int) * 2 ^ s := by simp
  have c3 : (lo : Int).fdiv (2 ^ (64 - s)) = ((lo / 2 ^ (64 - s) : Nat) : Int) := by
    rw [Int.fdiv_eq_ediv_of_nonneg _ (Int.le_of_lt (Int.pow_pos (by decide)))]; simp
  have e0 : 2 ^ (64 - s) * 2 ^ s = 18446744073709551616 := by rw [← Nat.pow_add, show 64 - s + s = 64 by omega]
  have e1 : lo / 2 ^ (64 - s) < 2 ^ s := by
    rw [Nat.div_lt_iff_lt_mul (Nat.two_pow_pos _), Nat.mul_comm, e0]; omega
  have e2 : lo = 2 ^ (64 - s) * (lo / 2 ^ (64 - s)) + lo % 2 ^ (64 - s) := (Nat.div_add_mod _ _).symm
  have e3 : lo * 2 ^ s = 18446744073709551616 * (lo / 2 ^ (64 - s)) + lo % 2 ^ (64 - s) * 2 ^ s := by
    rw [← e0, Nat.mul_right_comm, ← Nat.add_mul, ← e2]
  have e4 : lo % 2 ^ (64 - s) * 2 ^ s < 18446744073709551616 := by
    rw [← e0]; exact Nat.mul_lt_mul_of_pos_right (Nat.mod_lt _ (Nat.two_pow_pos _)) (Nat.two_pow_pos _)
  have e5 : hi * 2 ^ s ||| lo / 2 ^ (64 - s) = hi * 2 ^ s + lo / 2 ^ (64 - s) := by
    rw [Nat.mul_comm hi, Nat.two_pow_add_eq_or_of_lt e1]
  have e6 : (((hi * 18446744073709551616 + lo) * 2 ^ s : Nat) : Int) = ((hi : Int) * 18446744073709551616 + lo) * 2 ^ s := by simp
  have e7 : (hi * 18446744073709551616 + lo) * 2 ^ s = (hi * 2 ^ s) * 18446744073709551616 + lo * 2 ^ s := by rw [Nat.add_mul, Nat.mul_right_comm]
  have e8 : ((hi * 2 ^ s + lo / 2 ^ (64 - s) : Nat) : Int) < Y := by
    obtain ⟨z, rfl⟩ := hY3
    have hz : 0 ≤ z := by
      rcases Int.lt_or_le z 0 with h | h
      · have := Int.mul_neg_of_neg_of_pos h (Int.pow_pos (by decide) : (0 : Int) < 2 ^ s); omega
      · exact h
    obtain ⟨z, rfl⟩ := Int.eq_ofNat_of_zero_le hz
    have c4 : ((z * 2 ^ s : Nat) : Int) = (z : Int) * 2 ^ s := by simp
    have h3 : hi * 2 ^ s < z * 2 ^ s := by omega
    have h4 : hi + 1 ≤ z := Nat.lt_of_mul_lt_mul_right h3
    have h5 := Nat.mul_le_mul_right (2 ^ s) h4
    rw [Nat.add_mul] at h5
    omega
  rw [← c1, ← c2, c3, wrapU, wrapU, ← e6, e7]
  have e9 : ((hi * 2 ^ s : Nat) : Int) % 18446744073709551616 = ((hi * 2 ^ s : Nat) : Int) := by omega
  rw [e9, (ibitU (hi * 2 ^ s) (lo / 2 ^ (64 - s)) (by omega) (by omega)).2.1, e5]
  refine ⟨_, _, rfl, rfl, ?_, ?_, e8, ?_, ?_⟩ <;> omega

def LI (A D y1 y0 q r : Int) : Prop := A = q * y1 + r ∧ 0 ≤ r ∧ r < 4294967296 ∧ q < 8589934592 ∧ (A * 4294967296 + D) / (y1 * 4294967296 + y0) ≤ q
theorem start {A y1 y0 : Int} (hA0 : 0 ≤ A) (h1 : 2147483648 ≤ y1) (hA : A < y1 * 4294967296 + y0) (h2 : 0 ≤ y0 ∧ y0 < 4294967296) : A = A / y1 * y1 + A % y1 ∧ (0 ≤ A % y1 ∧ A % y1 < y1) ∧ (0 ≤ A / y1 ∧ A / y1 < 8589934592) := by
  have e1 := Int.mul_ediv_add_emod A y1
  refine ⟨by rw [Int.mul_comm]; exact e1.symm, ⟨Int.emod_nonneg A (by omega), Int.emod_lt_of_pos A (by omega)⟩, Int.ediv_nonneg hA0 (by omega), ?_⟩
  rw [Int.ediv_lt_iff_lt_mul (by omega)]; omega
theorem rem_eq {A D Y : Int} (h : 0 < Y) (hY : Y < 18446744073709551616) : IntKind.wrap .u64 (IntKind.wrap .u64 (IntKind.wrap .u64 (A * 4294967296) + D) - IntKind.wrap .u64 ((A * 4294967296 + D) / Y * Y)) = (A * 4294967296 + D) % Y := by
  have e1 := Int.mul_ediv_add_emod (A * 4294967296 + D) Y
  have e2 := Int.emod_nonneg (A * 4294967296 + D) (show Y ≠ 0 by omega)
  have e3 := Int.emod_lt_of_pos (A * 4294967296 + D) h
  rw [Int.mul_comm Y] at e1
  generalize (A * 4294967296 + D) / Y * Y = Z at *
  generalize (A * 4294967296 + D) % Y = R at *
  simp only [wrapU]
  omega
theorem two_halves {A D1 D0 Y : Int} (h : 0 < Y) : (A * 18446744073709551616 + (D1 * 4294967296 + D0)) / Y = (A * 4294967296 + D1) / Y * 4294967296 + ((A * 4294967296 + D1) % Y * 4294967296 + D0) / Y ∧
    (A * 18446744073709551616 + (D1 * 4294967296 + D0)) % Y = ((A * 4294967296 + D1) % Y * 4294967296 + D0) % Y := by
  have e1 := Int.mul_ediv_add_emod (A * 4294967296 + D1) Y
  have e : A * 18446744073709551616 + (D1 * 4294967296 + D0) = ((A * 4294967296 + D1) % Y * 4294967296 + D0) + Y * ((A * 4294967296 + D1) / Y * 4294967296) := by
    rw [← Int.mul_assoc]; omega
  rw [e, Int.add_mul_ediv_left _ _ (by omega), Int.add_mul_emod_self_left]
  exact ⟨by omega, rfl⟩
def div64 (h l y : Int) : AV := .tup [aU ((h * 18446744073709551616 + l) / y), aU ((h * 18446744073709551616 + l) % y)]
set_option maxRecDepth 20000 in
theorem bits_Div64 (hi lo y : Int) (hy : hi < y) : PureOk Try.prog 130 [aU hi, aU lo, aU y] (div64 hi lo y) := by
  refine pure_of_ev (cxK [lz64K]) Try.func130 rfl (by kernel_rfl) (Nat.le_of_ble_eq_true rfl) ⟨rfl, rfl, rfl, trivial⟩ ⟨rfl, rfl, trivial⟩ fun hf w => ?_
  obtain ⟨hf1, hf2, hf3, _⟩ := hf
  have h1 := hasU.1 hf1; have h2 := hasU.1 hf2; have h3 := hasU.1 hf3
  conv => whnf
  refine brkF (by simp only [ieqB_eq]; simp; omega) ?_
  conv => whnf
  refine brkF (by simp only [iltB_eq]; simp; omega) ?_
  conv => whnf
  refine brk (fun h0 => ?_) (fun h0 => ?_)
  · refine ⟨?_, ?_⟩
    · kernel_rfl
    · conv => whnf
      refine oblT (by simp only [ieqB_eq]; simp; omega) ?_
      conv => whnf
      refine oblT (by simp only [ieqB_eq]; simp; omega) ?_
      simp only [ieqB_eq, decide_eq_true_eq] at h0
      have hlo : hi * 18446744073709551616 + lo = lo := by omega
      have hd0 := Int.ediv_nonneg h2.1 h3.1
      refine ⟨?_, ?_, trivial⟩
      · rw [hlo, Int.tdiv_eq_ediv_of_nonneg h2.1, wrapU]
        have := Int.ediv_le_self y h2.1
        omega
      · rw [hlo, Int.tmod_eq_emod_of_nonneg h2.1]
  · refine ⟨trivial, ?_⟩
    have hyp : bitLen y.toNat ≤ 64 := bitLen_le64 _ (by omega)
    have ew : IntKind.wrap .u64 (64 - ((bitLen y.toNat : Nat) : Int)) = ((64 - bitLen y.toNat : Nat) : Int) := by rw [wrapU]; omega
    obtain ⟨hY1, hY2⟩ : 9223372036854775808 ≤ y * 2 ^ (64 - bitLen y.toNat) ∧ y * 2 ^ (64 - bitLen y.toNat) < 18446744073709551616 := norm y ⟨by omega, h3.2⟩
    have hm := Nat.sub_le 64 (bitLen y.toNat)
    conv => whnf
    rw [ew]
    generalize 64 - bitLen y.toNat = s at *
    have ew2 : IntKind.wrap .u64 (64 - (s : Int)) = ((64 - s : Nat) : Int) := by rw [wrapU]; omega
    conv => whnf
    rw [ew2]
    conv => whnf
    rw [shNs s hm, shNs (64 - s) (Nat.sub_le _ _)]
    have hYw : IntKind.wrap .u64 (y * 2 ^ s) = y * 2 ^ s := by rw [wrapU]; omega
    obtain ⟨A, L, q1, q2, hU, hA0, hAY, hL0, hL1⟩ := un hm h1 h2 (Int.mul_lt_mul_of_pos_right hy (Int.pow_pos (by decide) : (0 : Int) < 2 ^ s)) hY2 ⟨y, rfl⟩
    rw [q1, q2, hYw]
    simp only [shr32]
    rw [and32 ⟨by omega, hY2⟩, and32 ⟨hL0, hL1⟩]
    have hN : (hi * 18446744073709551616 + lo) / y = (A * 18446744073709551616 + L) / (y * 2 ^ s) ∧ ((hi * 18446744073709551616 + lo) % y) = (A * 18446744073709551616 + L) % (y * 2 ^ s) / 2 ^ s := by
      have hp : (0 : Int) < 2 ^ s := Int.pow_pos (by decide)
      rw [hU, Int.mul_comm _ (2 ^ s), Int.mul_comm y, Int.mul_ediv_mul_of_pos _ _ hp, Int.mul_emod_mul_of_pos _ _ hp, Int.mul_ediv_cancel_left _ (by omega)]
      exact ⟨rfl, rfl⟩
    unfold div64
    rw [hN.1, hN.2]
    clear hN hU ew ew2 hYw q1 q2
    generalize y * 2 ^ s = Y at *
    have hYe : Y = Y / 4294967296 * 4294967296 + Y % 4294967296 := by omega
    have hLe : L = L / 4294967296 * 4294967296 + L % 4294967296 := by omega
    have hb1 : 2147483648 ≤ Y / 4294967296 ∧ Y / 4294967296 < 4294967296 := by omega
    have hb2 : 0 ≤ Y % 4294967296 ∧ Y % 4294967296 < 4294967296 := by omega
    have hb3 : 0 ≤ L / 4294967296 ∧ L / 4294967296 < 4294967296 := by omega
    have hb4 : 0 ≤ L % 4294967296 ∧ L % 4294967296 < 4294967296 := by omega
    generalize Y / 4294967296 = y1 at *
    generalize Y % 4294967296 = y0 at *
    generalize L / 4294967296 = D1 at *
    generalize L % 4294967296 = D0 at *
    subst hYe hLe
    refine oblT (by simp only [ieqB_eq]; simp; omega) ?_
    conv => whnf
    have ht1 : A.tdiv y1 = A / y1 := Int.tdiv_eq_ediv_of_nonneg hA0
    rw [ht1]
    obtain ⟨m1, m2, m3⟩ := start hA0 hb1.1 hAY hb2
    refine LoopK.cut (Int × Int) (fun x => [(15, tU x.1), (16, tU x.2)]) (fun _ => []) (fun x => LI A D1 y1 y0 x.1 x.2) (fun x => x.1.toNat) (A / y1, A % y1) ?_ ?_
      Unit (fun _ => [(15, tU ((A * 4294967296 + D1) / (y1 * 4294967296 + y0)))]) (fun _ => []) (fun _ => True) 0 ?_ ?_
    · exact ⟨m1, m2.1, by omega, m3.2, half_le hb1.1 hb2.1 hA0 hb3⟩
    · repeat' (refine And.intro ?_ ?_)
      all_goals try first | with_reducible rfl | exact trivial
      · show _ = A / y1
        rw [wrapU]; omega
      · show _ = A % y1
        rw [wrapU (A / y1), show A / y1 % 18446744073709551616 = A / y1 by omega, wrapU (A / y1 * y1), wrapU]; omega
    · rintro ⟨q, r⟩ hI
      obtain ⟨i1, i2, i3, i4, i5⟩ : LI A D1 y1 y0 q r := hI
      have hQ0 := half_nn hb1.1 hb2.1 hA0 hb3.1
      have hQW := half_lt hb1.1 hb2.1 hAY hb3.2
      conv => whnf
      refine brk (fun h5 => ?_) (fun h5 => ?_)
      · simp only [iltB_eq, Bool.not_eq_true', decide_eq_false_iff_not] at h5
        have hgt : (A * 4294967296 + D1) / (y1 * 4294967296 + y0) < q := by omega
        have e1 : A = (q - 1) * y1 + (r + y1) := by rw [Int.sub_mul]; omega
        conv => whnf
        refine brk (fun h7 => ?_) (fun h7 => ?_)
        · simp only [iltB_eq, Bool.not_eq_true', decide_eq_false_iff_not, wrapU] at h7
          have := half_end hb1.1 hb2 e1 hAY hb3.1 (by omega)
          refine ⟨(), trivial, ?_⟩
          repeat' (refine And.intro ?_ ?_)
          all_goals try first | with_reducible rfl | exact trivial
          show IntKind.wrap .u64 (q - 1) = _
          rw [wrapU]; omega
        · simp only [iltB_eq, Bool.not_eq_false', decide_eq_true_eq, wrapU] at h7
          refine ⟨(q - 1, r + y1), ⟨e1, by omega, by omega, by omega, by omega⟩, ?_, ?_⟩
          · repeat' (refine And.intro ?_ ?_)
            all_goals try first | with_reducible rfl | exact trivial
            · show IntKind.wrap .u64 (q - 1) = q - 1
              rw [wrapU]; omega
            · show IntKind.wrap .u64 (r + y1) = r + y1
              rw [wrapU]; omega
          · show (q - 1).toNat < q.toNat
            omega
      · simp only [iltB_eq, Bool.not_eq_false', decide_eq_true_eq] at h5
        have := Int.mul_nonneg (show 0 ≤ q by omega) hb2.1
        have := Int.mul_le_mul (show q ≤ 4294967296 by omega) (show y0 ≤ 4294967295 by omega) hb2.1 (by decide)
        conv => whnf
        refine brk (fun h6 => ?_) (fun h6 => ?_)
        · simp only [iltB_eq, cond_false, decide_eq_true_eq, wrapU] at h6
          have hgt : (A * 4294967296 + D1) / (y1 * 4294967296 + y0) < q := half_gt hb1.1 hb2.1 i1 (by omega)
          have e1 : A = (q - 1) * y1 + (r + y1) := by rw [Int.sub_mul]; omega
          conv => whnf
          refine brk (fun h7 => ?_) (fun h7 => ?_)
          · simp only [iltB_eq, Bool.not_eq_true', decide_eq_false_iff_not, wrapU] at h7
            have := half_end hb1.1 hb2 e1 hAY hb3.1 (by omega)
            refine ⟨(), trivial, ?_⟩
            repeat' (refine And.intro ?_ ?_)
            all_goals try first | with_reducible rfl | exact trivial
            show IntKind.wrap .u64 (q - 1) = _
            rw [wrapU]; omega
          · simp only [iltB_eq, Bool.not_eq_false', decide_eq_true_eq, wrapU] at h7
            refine ⟨(q - 1, r + y1), ⟨e1, by omega, by omega, by omega, by omega⟩, ?_, ?_⟩
            · repeat' (refine And.intro ?_ ?_)
              all_goals try first | with_reducible rfl | exact trivial
              · show IntKind.wrap .u64 (q - 1) = q - 1
                rw [wrapU]; omega
              · show IntKind.wrap .u64 (r + y1) = r + y1
                rw [wrapU]; omega
            · show (q - 1).toNat < q.toNat
              omega
        · simp only [iltB_eq, cond_false, decide_eq_false_iff_not, wrapU] at h6
          have hge := half_ge (D := D1) hb1.1 hb2.1 i1 (by omega)
          refine ⟨(), trivial, ?_⟩
          repeat' (refine And.intro ?_ ?_)
          all_goals try first | with_reducible rfl | exact trivial
          show q = _
          omega
    · intro _ _
      have hB := rem_eq (A := A) (D := D1) (by omega) hY2
      have hB0 : 0 ≤ (A * 4294967296 + D1) % (y1 * 4294967296 + y0) := Int.emod_nonneg _ (by omega)
      have hBY : (A * 4294967296 + D1) % (y1 * 4294967296 + y0) < y1 * 4294967296 + y0 := Int.emod_lt_of_pos _ (by omega)
      have hend := two_halves (A := A) (D1 := D1) (D0 := D0) (show 0 < y1 * 4294967296 + y0 by omega)
      have hQW1 := half_lt hb1.1 hb2.1 hAY hb3.2
      have hQ1 := half_nn hb1.1 hb2.1 hA0 hb3.1
      conv => whnf
      rw [hB]
      rw [hend.1, hend.2]
      generalize (A * 4294967296 + D1) % (y1 * 4294967296 + y0) = B at *
      generalize (A * 4294967296 + D1) / (y1 * 4294967296 + y0) = Q1 at *
      refine oblT (by simp only [ieqB_eq]; simp; omega) ?_
      conv => whnf
      have ht2 : B.tdiv y1 = B / y1 := Int.tdiv_eq_ediv_of_nonneg hB0
      rw [ht2]
      obtain ⟨m1, m2, m3⟩ := start hB0 hb1.1 hBY hb2
      refine LoopK.cut (Int × Int) (fun x => [(18, tU x.1), (16, tU x.2)]) (fun _ => []) (fun x => LI B D0 y1 y0 x.1 x.2) (fun x => x.1.toNat) (B / y1, B % y1) ?_ ?_
        Unit (fun _ => [(18, tU ((B * 4294967296 + D0) / (y1 * 4294967296 + y0)))]) (fun _ => []) (fun _ => True) 2 ?_ ?_
      · exact ⟨m1, m2.1, by omega, m3.2, half_le hb1.1 hb2.1 hB0 hb4⟩
      · repeat' (refine And.intro ?_ ?_)
        all_goals try first | with_reducible rfl | exact trivial
        rotate_left
        · show _ = B / y1
          rw [wrapU]; omega
        · show _ = B % y1
          rw [wrapU (B / y1), show B / y1 % 18446744073709551616 = B / y1 by omega, wrapU (B / y1 * y1), wrapU]; omega
      · rintro ⟨q, r⟩ hI
        obtain ⟨i1, i2, i3, i4, i5⟩ : LI B D0 y1 y0 q r := hI
        have hQ0 := half_nn hb1.1 hb2.1 hB0 hb4.1
        have hQW := half_lt hb1.1 hb2.1 hBY hb4.2
        conv => whnf
        refine brk (fun h5 => ?_) (fun h5 => ?_)
        · simp only [iltB_eq, Bool.not_eq_true', decide_eq_false_iff_not] at h5
          have hgt : (B * 4294967296 + D0) / (y1 * 4294967296 + y0) < q := by omega
          have e1 : B = (q - 1) * y1 + (r + y1) := by rw [Int.sub_mul]; omega
          conv => whnf
          refine brk (fun h7 => ?_) (fun h7 => ?_)
          · simp only [iltB_eq, Bool.not_eq_true', decide_eq_false_iff_not, wrapU] at h7
            have := half_end hb1.1 hb2 e1 hBY hb4.1 (by omega)
            refine ⟨(), trivial, ?_⟩
            repeat' (refine And.intro ?_ ?_)
            all_goals try first | with_reducible rfl | exact trivial
            show IntKind.wrap .u64 (q - 1) = _
            rw [wrapU]; omega
          · simp only [iltB_eq, Bool.not_eq_false', decide_eq_true_eq, wrapU] at h7
            refine ⟨(q - 1, r + y1), ⟨e1, by omega, by omega, by omega, by omega⟩, ?_, ?_⟩
            · repeat' (refine And.intro ?_ ?_)
              all_goals try first | with_reducible rfl | exact trivial
              rotate_left
              · show IntKind.wrap .u64 (q - 1) = q - 1
                rw [wrapU]; omega
              · show IntKind.wrap .u64 (r + y1) = r + y1
                rw [wrapU]; omega
            · show (q - 1).toNat < q.toNat
              omega
        · simp only [iltB_eq, Bool.not_eq_false', decide_eq_true_eq] at h5
          have := Int.mul_nonneg (show 0 ≤ q by omega) hb2.1
          have := Int.mul_le_mul (show q ≤ 4294967296 by omega) (show y0 ≤ 4294967295 by omega) hb2.1 (by decide)
          conv => whnf
          refine brk (fun h6 => ?_) (fun h6 => ?_)
          · simp only [iltB_eq, cond_false, decide_eq_true_eq, wrapU] at h6
            have hgt : (B * 4294967296 + D0) / (y1 * 4294967296 + y0) < q := half_gt hb1.1 hb2.1 i1 (by omega)
            have e1 : B = (q - 1) * y1 + (r + y1) := by rw [Int.sub_mul]; omega
            conv => whnf
            refine brk (fun h7 => ?_) (fun h7 => ?_)
            · simp only [iltB_eq, Bool.not_eq_true', decide_eq_false_iff_not, wrapU] at h7
              have := half_end hb1.1 hb2 e1 hBY hb4.1 (by omega)
              refine ⟨(), trivial, ?_⟩
              repeat' (refine And.intro ?_ ?_)
              all_goals try first | with_reducible rfl | exact trivial
              show IntKind.wrap .u64 (q - 1) = _
              rw [wrapU]; omega
            · simp only [iltB_eq, Bool.not_eq_false', decide_eq_true_eq, wrapU] at h7
              refine ⟨(q - 1, r + y1), ⟨e1, by omega, by omega, by omega, by omega⟩, ?_, ?_⟩
              · repeat' (refine And.intro ?_ ?_)
                all_goals try first | with_reducible rfl | exact trivial
                rotate_left
                · show IntKind.wrap .u64 (q - 1) = q - 1
                  rw [wrapU]; omega
                · show IntKind.wrap .u64 (r + y1) = r + y1
                  rw [wrapU]; omega
              · show (q - 1).toNat < q.toNat
                omega
          · simp only [iltB_eq, cond_false, decide_eq_false_iff_not, wrapU] at h6
            have hge := half_ge (D := D0) hb1.1 hb2.1 i1 (by omega)
            refine ⟨(), trivial, ?_⟩
            repeat' (refine And.intro ?_ ?_)
            all_goals try first | with_reducible rfl | exact trivial
            show q = _
            omega
      · intro _ _
        have hB2 := rem_eq (A := B) (D := D0) (by omega) hY2
        conv => whnf
        repeat' (refine And.intro ?_ ?_)
        all_goals try first | with_reducible rfl | exact trivial
        · simp only [wrapU]
          have := half_lt hb1.1 hb2.1 hBY hb4.2
          have := half_nn hb1.1 hb2.1 hB0 hb4.1
          omega
        · show (IntKind.wrap .u64 (IntKind.wrap .u64 (IntKind.wrap .u64 (B * 4294967296) + D0) - IntKind.wrap .u64 ((B * 4294967296 + D0) / (y1 * 4294967296 + y0) * (y1 * 4294967296 + y0)))).fdiv (2 ^ shN .u64 (s : Int)) = _
          rw [hB2, shNs s hm, Int.fdiv_eq_ediv_of_nonneg _ (Int.le_of_lt (Int.pow_pos (by decide)))]
def div64K : Known Try.prog := kUUU 130 (fun h _ y => h < y) div64 (fun h l y hh => bits_Div64 h l y hh)
end Go.Proofs.Ytacjiajijigebaa
