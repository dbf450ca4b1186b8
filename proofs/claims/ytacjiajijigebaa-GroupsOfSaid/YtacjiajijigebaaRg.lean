/- What is known of the reference's divisions. No condition. -/
import Derived.Test.YtacjiajijigebaaRf
namespace Go.Proofs.Ytacjiajijigebaa
open Go Go.Ev
set_option linter.unusedSimpArgs false

theorem mod_toNat {R d m : Nat} : (((R : Nat) : Int) * 18446744073709551616 + Int.ofNat d) % (m : Int) = (((R * B64 + d) % m : Nat) : Int) := by
  rw [Int.natCast_emod, Int.natCast_add, Int.natCast_mul]; rfl
set_option maxHeartbeats 2000000 in
set_option maxRecDepth 20000 in
theorem ref_Wide (low high m : Nat) : PureOk Try.prog 96 [aN low, aN high, aN m] (wideN low high m) := by
  refine pure_of_ev (cxK [refWordK, refBitK, twiceK, div64K, refOfK]) Try.func96 rfl (by kernel_rfl) (Nat.le_of_ble_eq_true rfl) ⟨trivial, trivial, trivial, trivial⟩ ⟨trivial, rfl, trivial⟩ fun hf w => ?_
  have hl := hf.1.1; have hh := hf.2.1.1
  conv => whnf
  refine brk (fun h1 => ?_) (fun h1 => ?_)
  · have h1 : m = 0 := Nat.eq_of_beq_eq_true h1
    subst h1
    exact ⟨by kernel_rfl, rfl, trivial⟩
  have h1 : ¬ m = 0 := Nat.ne_of_beq_eq_false h1
  have h0 : 0 < m := by omega
  have er : ∀ x, x % m = dR x m := fun x => (if_neg h1).symm
  have ee : (0 : Int) = dE m := (if_neg h1).symm
  refine ⟨trivial, ?_⟩
  conv => whnf
  refine brk (fun h2 => ?_) (fun h2 => ?_) <;> simp only [decide_eq_true_eq, decide_eq_false_iff_not] at h2
  · have hm64 : m < 18446744073709551616 := h2
    have em : Int.ofNat (limb (0 + 0) m) = (m : Int) := by rw [Nat.add_zero, limb0_small hm64]; rfl
    conv => whnf
    refine LoopK.cut (Nat × Nat) (fun x => [(9, tI ((x.1 : Int) - 1)), (8, tU x.2)]) (fun _ => []) (fun x => x.1 ≤ 8 ∧ x.2 = (low + BW * high) / B64 ^ x.1 % m) (fun x => x.1) (8, 0) ?_ ?_
      Unit (fun _ => [(9, tI (-1)), (8, tU (((low + BW * high) % m : Nat) : Int))]) (fun _ => []) (fun _ => True) 0 ?_ ?_
    · refine ⟨Nat.le_refl _, ?_⟩
      show 0 = (low + BW * high) / B64 ^ 8 % m
      rw [Nat.div_eq_of_lt, Nat.zero_mod]
      rw [show B64 ^ 8 = BW * BW by decide]
      have := Nat.mul_le_mul_left BW (show high + 1 ≤ BW from hh)
      rw [Nat.mul_add, Nat.mul_one] at this
      omega
    · repeat' (refine And.intro ?_ ?_)
      all_goals try first | with_reducible rfl | exact trivial
      all_goals rfl
    · rintro ⟨q, R⟩ ⟨hq, hI⟩
      replace hq : q ≤ 8 := hq
      replace hI : R = (low + BW * high) / B64 ^ q % m := hI
      have hRm : R < m := by rw [hI]; exact Nat.mod_lt _ h0
      conv => whnf
      refine brk (fun h3 => ?_) (fun h3 => ?_)
      · replace h3 : (!iltB ((q : Int) - 1) 0) = true := h3
        simp only [iltB_eq, Bool.not_eq_true', decide_eq_false_iff_not] at h3
        obtain ⟨p, rfl⟩ : ∃ p, q = p + 1 := ⟨q - 1, by omega⟩
        have e : ((p + 1 : Nat) : Int) - 1 = (p : Int) := by omega
        have hs := wide_word_step hI
        have hd := dg_low (high := high) hl (show p < 8 by omega)
        rw [e]
        conv => whnf
        rw [rem4]
        have hp4 : p % 4 < 4 := Nat.mod_lt _ (by decide)
        conv => whnf
        refine oblT (bltT hp4) ?_
        conv => whnf
        refine oblT (bltT (by rw [Nat.zero_add]; exact hp4)) ?_
        conv => whnf
        have fin : ∀ d : Nat, d = dg B64 p (low + BW * high) → (((R : Nat) : Int) * 18446744073709551616 + Int.ofNat d) % Int.ofNat (limb (0 + 0) m) = (((low + BW * high) / B64 ^ p % m : Nat) : Int) := fun d hd => by
          rw [em, mod_toNat, hd, hs]
        refine brk (fun h4 => ?_) (fun h4 => ?_) <;> replace h4 : (!iltB (p : Int) 4) = _ := h4 <;> simp only [iltB_eq, Bool.not_eq_true', Bool.not_eq_false', decide_eq_true_eq, decide_eq_false_iff_not] at h4
        · have e4 : IntKind.wrap .i64 ((p : Int) - 4) = ((p - 4 : Nat) : Int) := by rw [wrapI _ (by omega)]; omega
          rw [if_pos (by omega)] at hd
          conv => whnf
          rw [e4]
          conv => whnf
          refine oblT (bltT (by omega)) ?_
          conv => whnf
          refine oblT (bltT (by omega)) ?_
          refine ⟨by show (R : Int) < Int.ofNat (limb (0 + 0) m); rw [em]; omega, (p, (low + BW * high) / B64 ^ p % m), ⟨by omega, rfl⟩, ?_, ?_⟩
          · repeat' (refine And.intro ?_ ?_)
            all_goals try first | with_reducible rfl | exact trivial
            · exact fin _ (by rw [hd, Nat.zero_add])
            · show IntKind.wrap .i64 ((p : Int) - 1) = (p : Int) - 1
              rw [wrapI _ (by omega)]
          · show p < p + 1
            omega
        · rw [if_neg (by omega)] at hd
          refine ⟨by show (R : Int) < Int.ofNat (limb (0 + 0) m); rw [em]; omega, (p, (low + BW * high) / B64 ^ p % m), ⟨by omega, rfl⟩, ?_, ?_⟩
          · repeat' (refine And.intro ?_ ?_)
            all_goals try first | with_reducible rfl | exact trivial
            · exact fin _ (by rw [hd, Nat.zero_add, Nat.mod_eq_of_lt (show p < 4 by omega)])
            · show IntKind.wrap .i64 ((p : Int) - 1) = (p : Int) - 1
              rw [wrapI _ (by omega)]
          · show p < p + 1
            omega
      · replace h3 : (!iltB ((q : Int) - 1) 0) = false := h3
        simp only [iltB_eq, Bool.not_eq_false', decide_eq_true_eq] at h3
        have hq0 : q = 0 := by omega
        rw [hq0, Nat.pow_zero, Nat.div_one] at hI
        refine ⟨(), trivial, ?_⟩
        repeat' (refine And.intro ?_ ?_)
        all_goals try first | with_reducible rfl | exact trivial
        · show ((R : Nat) : Int) = _
          rw [hI]
        · show (q : Int) - 1 = -1
          omega
    · intro _ _
      refine ⟨trivial, ?_, ee, trivial⟩
      rw [← er]
      exact Int.toNat_natCast _
  conv => whnf
  refine LoopK.cut (Nat × Nat) (fun x => [(12, tI ((x.1 : Int) - 1))]) (fun x => [(4, [.num x.2])]) (fun x => x.1 ≤ 256 ∧ WI 0 high m (256 - x.1) x.2) (fun x => x.1) (256, 0) ?_ ?_
    Nat (fun _ => [(12, tI (-1))]) (fun y => [(4, [.num y])]) (fun y => y = (0 * BW + high) % m ∧ y < m) 2 ?_ ?_
  · exact ⟨Nat.le_refl _, by rw [Nat.sub_self]; exact WI_start hh (Nat.zero_mod m).symm h0⟩
  · repeat' (refine And.intro ?_ ?_)
    all_goals try first | with_reducible rfl | exact trivial
    all_goals rfl
  · rintro ⟨q, R⟩ ⟨hq, hI⟩
    replace hq : q ≤ 256 := hq
    replace hI : WI 0 high m (256 - q) R := hI
    conv => whnf
    refine brk (fun h3 => ?_) (fun h3 => ?_)
    · replace h3 : (!iltB ((q : Int) - 1) 0) = true := h3
      simp only [iltB_eq, Bool.not_eq_true', decide_eq_false_iff_not] at h3
      obtain ⟨p, rfl⟩ : ∃ p, q = p + 1 := ⟨q - 1, by omega⟩
      have e : ((p + 1 : Nat) : Int) - 1 = (p : Int) := by omega
      have hs := WI_step h0 (by omega) hI
      have eb : (255 : Int) - ((256 - (p + 1) : Nat) : Int) = (p : Int) := by omega
      rw [eb, show 256 - (p + 1) + 1 = 256 - p by omega] at hs
      refine ⟨by kernel_rfl, trivial, ⟨hI.2, by show 0 ≤ bitI high (((p + 1 : Nat) : Int) - 1) ∧ _ ≤ _; exact bitI_01 _ _⟩, by kernel_rfl, (p, (2 * R + (bitI high (p : Int)).toNat) % m), ⟨by omega, hs⟩, ?_, ?_⟩
      · repeat' (refine And.intro ?_ ?_)
        all_goals try first | with_reducible rfl | exact trivial
        · show IntKind.wrap .i64 (((p + 1 : Nat) : Int) - 1 - 1) = (p : Int) - 1
          rw [e, wrapI _ (by omega)]
        · show (2 * R + (bitI high (((p + 1 : Nat) : Int) - 1)).toNat) % m = _
          rw [e]
      · show p < p + 1
        omega
    · replace h3 : (!iltB ((q : Int) - 1) 0) = false := h3
      simp only [iltB_eq, Bool.not_eq_false', decide_eq_true_eq] at h3
      have hq0 : q = 0 := by omega
      rw [hq0] at hI
      refine ⟨R, WI_end hI, ?_⟩
      repeat' (refine And.intro ?_ ?_)
      all_goals try first | with_reducible rfl | exact trivial
      show (q : Int) - 1 = -1
      omega
  rintro R1 ⟨hR1, hR1'⟩
  replace hR1 : R1 = (0 * BW + high) % m := hR1
  replace hR1' : R1 < m := hR1'
  conv => whnf
  refine LoopK.cut (Nat × Nat) (fun x => [(13, tI ((x.1 : Int) - 1))]) (fun x => [(4, [.num x.2])]) (fun x => x.1 ≤ 256 ∧ WI high low m (256 - x.1) x.2) (fun x => x.1) (256, R1) ?_ ?_
    Nat (fun _ => [(13, tI (-1))]) (fun y => [(4, [.num y])]) (fun y => y = (high * BW + low) % m ∧ y < m) 4 ?_ ?_
  · exact ⟨Nat.le_refl _, by rw [Nat.sub_self]; exact WI_start hl (by rw [hR1, Nat.zero_mul, Nat.zero_add]) hR1'⟩
  · repeat' (refine And.intro ?_ ?_)
    all_goals try first | with_reducible rfl | exact trivial
    all_goals rfl
  · rintro ⟨q, R⟩ ⟨hq, hI⟩
    replace hq : q ≤ 256 := hq
    replace hI : WI high low m (256 - q) R := hI
    conv => whnf
    refine brk (fun h3 => ?_) (fun h3 => ?_)
    · replace h3 : (!iltB ((q : Int) - 1) 0) = true := h3
      simp only [iltB_eq, Bool.not_eq_true', decide_eq_false_iff_not] at h3
      obtain ⟨p, rfl⟩ : ∃ p, q = p + 1 := ⟨q - 1, by omega⟩
      have e : ((p + 1 : Nat) : Int) - 1 = (p : Int) := by omega
      have hs := WI_step h0 (by omega) hI
      have eb : (255 : Int) - ((256 - (p + 1) : Nat) : Int) = (p : Int) := by omega
      rw [eb, show 256 - (p + 1) + 1 = 256 - p by omega] at hs
      refine ⟨by kernel_rfl, trivial, ⟨hI.2, by show 0 ≤ bitI low (((p + 1 : Nat) : Int) - 1) ∧ _ ≤ _; exact bitI_01 _ _⟩, by kernel_rfl, (p, (2 * R + (bitI low (p : Int)).toNat) % m), ⟨by omega, hs⟩, ?_, ?_⟩
      · repeat' (refine And.intro ?_ ?_)
        all_goals try first | with_reducible rfl | exact trivial
        · show IntKind.wrap .i64 (((p + 1 : Nat) : Int) - 1 - 1) = (p : Int) - 1
          rw [e, wrapI _ (by omega)]
        · show (2 * R + (bitI low (((p + 1 : Nat) : Int) - 1)).toNat) % m = _
          rw [e]
      · show p < p + 1
        omega
    · replace h3 : (!iltB ((q : Int) - 1) 0) = false := h3
      simp only [iltB_eq, Bool.not_eq_false', decide_eq_true_eq] at h3
      have hq0 : q = 0 := by omega
      rw [hq0] at hI
      refine ⟨R, WI_end hI, ?_⟩
      repeat' (refine And.intro ?_ ?_)
      all_goals try first | with_reducible rfl | exact trivial
      show (q : Int) - 1 = -1
      omega
  rintro R2 ⟨hR2, hR2'⟩
  replace hR2 : R2 = (high * BW + low) % m := hR2
  exact ⟨by show R2 = _; rw [hR2, er, Nat.add_comm, Nat.mul_comm], ee, trivial⟩
def refWideK : Known Try.prog := kNNN 96 (fun _ _ _ => True) wideN (fun a b c _ => ref_Wide a b c)
end Go.Proofs.Ytacjiajijigebaa
