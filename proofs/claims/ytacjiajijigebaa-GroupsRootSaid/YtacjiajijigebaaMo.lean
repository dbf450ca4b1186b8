/- What is known of products that go round. No condition. -/
import Derived.Test.YtacjiajijigebaaDw
namespace Go.Proofs.Ytacjiajijigebaa
open Go Go.Ev
set_option linter.unusedSimpArgs false

theorem mods_word (a b m : Int) (h : a * b / 18446744073709551616 < m) : PureOk Try.prog 141 [aU a, aU b, aU m] (tU (a * b % m)) := by
  refine pure_of_ev (cxK [mul64K, div64K]) Try.func141 rfl (by kernel_rfl) (Nat.le_of_ble_eq_true rfl) ⟨rfl, rfl, rfl, trivial⟩ rfl fun hf w => ?_
  refine ⟨trivial, h, ?_, trivial⟩
  rw [Int.ediv_mul_add_emod]
def wordK : Known Try.prog := kUUU 141 (fun a b m => a * b / 18446744073709551616 < m) (fun a b m => tU (a * b % m)) mods_word

/-- What is left of the number (high, low), and whether m may be. -/
def wideN (low high m : Nat) : AV := .tup [aN (dR (low + BW * high) m), aI (dE m)]

/-- What stays in the rounds: T, and the highest i bits of a behind it, by m. -/
def WI (T a m i R : Nat) : Prop := R = (T * 2 ^ i + a / 2 ^ (256 - i)) % m ∧ R < m
theorem WI_step {T a m i R : Nat} (hm : 0 < m) (hi : i < 256) (h : WI T a m i R) : WI T a m (i + 1) ((2 * R + (bitI a ((255 : Int) - i)).toNat) % m) := by
  obtain ⟨h1, h2⟩ := h
  refine ⟨?_, Nat.mod_lt _ hm⟩
  have eb : (bitI a ((255 : Int) - i)).toNat = a / 2 ^ (255 - i) % 2 := by
    unfold bitI; rw [if_neg (by omega), Int.toNat_natCast, show ((255 : Int) - i).toNat = 255 - i by omega]
  rw [eb, h1, show 256 - (i + 1) = 255 - i by omega]
  have e0 : a / 2 ^ (256 - i) = a / 2 ^ (255 - i) / 2 := by rw [Nat.div_div_eq_div_mul, ← Nat.pow_succ, show (255 - i).succ = 256 - i by omega]
  rw [e0]
  generalize a / 2 ^ (255 - i) = x
  rw [Nat.add_mod, Nat.mul_mod_mod, ← Nat.add_mod, Nat.pow_succ, ← Nat.mul_assoc]
  congr 1
  omega
theorem WI_start {T a m R : Nat} (ha : a < BW) (h1 : R = T % m) (h2 : R < m) : WI T a m 0 R := by
  refine ⟨?_, h2⟩
  rw [Nat.pow_zero, Nat.mul_one, Nat.sub_zero, Nat.div_eq_of_lt (show a < 2 ^ 256 from ha), Nat.add_zero, h1]
theorem WI_end {T a m R : Nat} (h : WI T a m 256 R) : R = (T * BW + a) % m ∧ R < m := by
  obtain ⟨h1, h2⟩ := h
  refine ⟨?_, h2⟩
  rw [h1, Nat.sub_self, Nat.pow_zero, Nat.div_one]
  rfl

set_option maxRecDepth 20000 in
theorem divides_Wide_many (low high m : Nat) (h : m = 0 ∨ 18446744073709551616 ≤ m) : PureOk Try.prog 86 [aN low, aN high, aN m] (wideN low high m) := by
  refine pure_of_ev (cxK [shortK, limbsBitK, nextK]) Try.func86 rfl (by kernel_rfl) (Nat.le_of_ble_eq_true rfl) ⟨trivial, trivial, trivial, trivial⟩ ⟨trivial, rfl, trivial⟩ fun hf w => ?_
  have hl := hf.1.1; have hh := hf.2.1.1
  conv => whnf
  refine brk (fun h1 => ?_) (fun h1 => ?_)
  · have h1 : m = 0 := Nat.eq_of_beq_eq_true h1
    subst h1
    exact ⟨by kernel_rfl, rfl, trivial⟩
  have h1 : ¬ m = 0 := Nat.ne_of_beq_eq_false h1
  have h0 : 0 < m := by omega
  have er : ∀ x, x % m = dR x m := fun x => (if_neg h1).symm
  have ee : (0 : Int) = dE m := (if_neg h1).symm
  refine ⟨trivial, ?_⟩
  conv => whnf
  refine brkF (by rw [decide_eq_false_iff_not]; show ¬ m < 18446744073709551616; omega) ?_
  conv => whnf
  refine LoopK.unroll 3 ?_
  conv => whnf
  refine LoopK.cut (Nat × Nat) (fun x => [(47, tI x.1)]) (fun x => [(3, [.num x.2])]) (fun x => x.1 ≤ 256 ∧ WI 0 high m x.1 x.2) (fun x => 256 - x.1) (0, 0) ?_ ?_
    Nat (fun _ => []) (fun y => [(3, [.num y])]) (fun y => y = (0 * BW + high) % m ∧ y < m) 5 ?_ ?_
  · exact ⟨Nat.zero_le _, WI_start hh (Nat.zero_mod m).symm h0⟩
  · repeat' (refine And.intro ?_ ?_)
    all_goals try first | with_reducible rfl | exact trivial
    all_goals rfl
  · rintro ⟨k, R⟩ ⟨hk, hI⟩
    replace hk : k ≤ 256 := hk
    replace hI : WI 0 high m k R := hI
    conv => whnf
    refine brk (fun h3 => ?_) (fun h3 => ?_)
    · replace h3 : iltB (k : Int) 256 = true := h3
      simp only [iltB_eq, decide_eq_true_eq] at h3
      have e1 : IntKind.wrap .i64 ((255 : Int) - (k : Int)) = (255 : Int) - k := wrapI _ (by omega)
      refine ⟨by kernel_rfl, trivial, ⟨hI.2, bitI_01 _ _⟩, by kernel_rfl, (k + 1, (2 * R + (bitI high ((255 : Int) - k)).toNat) % m), ⟨by omega, WI_step h0 (by omega) hI⟩, ?_, ?_⟩
      · repeat' (refine And.intro ?_ ?_)
        all_goals try first | with_reducible rfl | exact trivial
        · show IntKind.wrap .i64 ((k : Int) + 1) = ((k + 1 : Nat) : Int)
          rw [wrapI _ (by omega)]; rfl
        · show (2 * R + (bitI high (IntKind.wrap .i64 ((255 : Int) - (k : Int)))).toNat) % m = _
          rw [e1]
      · show 256 - (k + 1) < 256 - k
        omega
    · replace h3 : iltB (k : Int) 256 = false := h3
      simp only [iltB_eq, decide_eq_false_iff_not] at h3
      have hk2 : k = 256 := by omega
      subst hk2
      refine ⟨R, WI_end hI, ?_⟩
      repeat' (refine And.intro ?_ ?_)
      all_goals try first | with_reducible rfl | exact trivial
  rintro R1 ⟨hR1, hR1'⟩
  replace hR1 : R1 = (0 * BW + high) % m := hR1
  replace hR1' : R1 < m := hR1'
  conv => whnf
  refine LoopK.cut (Nat × Nat) (fun x => [(47, tI x.1)]) (fun x => [(3, [.num x.2])]) (fun x => x.1 ≤ 256 ∧ WI high low m x.1 x.2) (fun x => 256 - x.1) (0, R1) ?_ ?_
    Nat (fun _ => []) (fun y => [(3, [.num y])]) (fun y => y = (high * BW + low) % m ∧ y < m) 5 ?_ ?_
  · exact ⟨Nat.zero_le _, WI_start hl (by rw [hR1, Nat.zero_mul, Nat.zero_add]) hR1'⟩
  · repeat' (refine And.intro ?_ ?_)
    all_goals try first | with_reducible rfl | exact trivial
    all_goals rfl
  · rintro ⟨k, R⟩ ⟨hk, hI⟩
    replace hk : k ≤ 256 := hk
    replace hI : WI high low m k R := hI
    conv => whnf
    refine brk (fun h3 => ?_) (fun h3 => ?_)
    · replace h3 : iltB (k : Int) 256 = true := h3
      simp only [iltB_eq, decide_eq_true_eq] at h3
      have e1 : IntKind.wrap .i64 ((255 : Int) - (k : Int)) = (255 : Int) - k := wrapI _ (by omega)
      refine ⟨by kernel_rfl, trivial, ⟨hI.2, bitI_01 _ _⟩, by kernel_rfl, (k + 1, (2 * R + (bitI low ((255 : Int) - k)).toNat) % m), ⟨by omega, WI_step h0 (by omega) hI⟩, ?_, ?_⟩
      · repeat' (refine And.intro ?_ ?_)
        all_goals try first | with_reducible rfl | exact trivial
        · show IntKind.wrap .i64 ((k : Int) + 1) = ((k + 1 : Nat) : Int)
          rw [wrapI _ (by omega)]; rfl
        · show (2 * R + (bitI low (IntKind.wrap .i64 ((255 : Int) - (k : Int)))).toNat) % m = _
          rw [e1]
      · show 256 - (k + 1) < 256 - k
        omega
    · replace h3 : iltB (k : Int) 256 = false := h3
      simp only [iltB_eq, decide_eq_false_iff_not] at h3
      have hk2 : k = 256 := by omega
      subst hk2
      refine ⟨R, WI_end hI, ?_⟩
      repeat' (refine And.intro ?_ ?_)
      all_goals try first | with_reducible rfl | exact trivial
  rintro R2 ⟨hR2, hR2'⟩
  replace hR2 : R2 = (high * BW + low) % m := hR2
  conv => whnf
  exact ⟨by rw [hR2, er, Nat.add_comm, Nat.mul_comm], ee, trivial⟩
def wideManyK : Known Try.prog := kNNN 86 (fun _ _ m => m = 0 ∨ 18446744073709551616 ≤ m) wideN divides_Wide_many

theorem times_small {a b m : Nat} (ha : a < m) (hm : m < 18446744073709551616) : Int.ofNat (limb 0 a) * Int.ofNat (limb 0 b) / 18446744073709551616 < Int.ofNat (limb 0 m) := by
  rw [limb0_small (show a < 18446744073709551616 by omega), limb0_small hm]
  have hb := limb_lt 0 b
  generalize limb 0 b = c at *
  rw [Int.ofNat_eq_natCast, Int.ofNat_eq_natCast, Int.ofNat_eq_natCast]
  have h1 : a * c < m * 18446744073709551616 := Nat.mul_lt_mul'' ha hb
  have h2 : ((a * c : Nat) : Int) / 18446744073709551616 < m := by omega
  rwa [Int.natCast_mul] at h2
set_option maxRecDepth 20000 in
theorem mods_times (a b m : Nat) (h : a < m ∧ b < m) : PureOk Try.prog 136 [aN a, aN b, aN m] (tN (a * b % m)) := by
  refine pure_of_ev (cxK [limbsBitsK, wordK, limbsOfK, limbsMulK, wideManyK]) Try.func136 rfl (by kernel_rfl) (Nat.le_of_ble_eq_true rfl) ⟨trivial, trivial, trivial, trivial⟩ trivial fun hf w => ?_
  have ha := hf.1.1; have hb := hf.2.1.1; have hm := hf.2.2.1.1
  have hbl := bitLen_le (a := m) (k := 64)
  conv => whnf
  refine ⟨trivial, ?_⟩
  conv => whnf
  refine brk (fun h1 => ?_) (fun h1 => ?_) <;> simp only [iltB_eq, Bool.not_eq_true', Bool.not_eq_false', decide_eq_true_eq, decide_eq_false_iff_not] at h1
  · have hm' : m < 18446744073709551616 := hbl.1 (by omega)
    refine ⟨times_small h.1 hm', trivial, ?_, trivial⟩
    rw [limb0_small (show a < 18446744073709551616 by omega), limb0_small (show b < 18446744073709551616 by omega), limb0_small hm']
    simp only [Int.ofNat_eq_natCast]
    rw [← Int.natCast_mul, ← Int.natCast_emod, Int.toNat_natCast]
  · have hm' : ¬ m < 18446744073709551616 := fun hh => by have := hbl.2 hh; omega
    refine ⟨trivial, .inr (by omega), ?_, trivial⟩
    unfold dR mulLo mulHi
    rw [if_neg (by omega), Nat.mod_add_div]
def timesModK : Known Try.prog := kNNN 136 (fun a b m => a < m ∧ b < m) (fun a b m => tN (a * b % m)) mods_times
end Go.Proofs.Ytacjiajijigebaa
