/- What is known of the reference's divisions: how often, and what is left; the greatest common divisor. No condition. -/
import Derived.Test.YtacjiajijigebaaRg
namespace Go.Proofs.Ytacjiajijigebaa
open Go Go.Ev
set_option linter.unusedSimpArgs false

theorem setl_bit1 {Q i : Nat} (hQ : Q < BW) (hd : Q % 2 ^ (i + 1) = 0) (hi : i < 256) :
    setl (0 + i / 64) (IntKind.wrap .u64 (Int.ofNat (limb (0 + i / 64) Q) + IntKind.wrap .u64 ((1 : Int) * 2 ^ shN .u64 ((i % 64 : Nat) : Int)))).toNat Q = Q + 2 ^ i := by
  rw [Nat.zero_add, shNs _ (by omega)]
  have ht : i % 64 < 64 := Nat.mod_lt _ (by decide)
  have hij : i = 64 * (i / 64) + i % 64 := (Nat.div_add_mod _ _).symm
  have hj : i / 64 < 4 := by omega
  generalize i / 64 = j at *
  generalize i % 64 = t at *
  have hp : 2 ^ t * 2 ^ (63 - t) * 2 = 18446744073709551616 := by rw [← Nat.pow_add, ← Nat.pow_succ, show (t + (63 - t)).succ = 64 by omega]
  have hpt : 0 < 2 ^ t := Nat.two_pow_pos t
  have hp3 : 0 < 2 ^ (63 - t) := Nat.two_pow_pos _
  have hle : 2 ^ t * 2 ≤ 18446744073709551616 := by
    rw [← hp]; exact Nat.mul_le_mul_right 2 (Nat.le_mul_of_pos_right _ hp3)
  obtain ⟨z, hz⟩ : ∃ z, Q = 2 ^ (i + 1) * z := ⟨Q / 2 ^ (i + 1), by have := Nat.div_add_mod Q (2 ^ (i + 1)); omega⟩
  have hB : B64 ^ j = 2 ^ (64 * j) := by rw [Nat.pow_mul]; rfl
  have e1 : Q / B64 ^ j = 2 ^ (t + 1) * z := by
    rw [hz, hB, show i + 1 = 64 * j + (t + 1) by omega, Nat.pow_add, Nat.mul_assoc, Nat.mul_div_cancel_left _ (Nat.two_pow_pos _)]
  have e2 : limb j Q = 2 ^ (t + 1) * (z % 2 ^ (63 - t)) := by
    unfold limb
    rw [e1, show B64 = 2 ^ (t + 1) * 2 ^ (63 - t) by rw [← Nat.pow_add, show t + 1 + (63 - t) = 64 by omega]; rfl, Nat.mul_mod_mul_left]
  have hlt2 : limb j Q + 2 ^ t < 18446744073709551616 := by
    have hm : z % 2 ^ (63 - t) + 1 ≤ 2 ^ (63 - t) := Nat.mod_lt _ hp3
    have := Nat.mul_le_mul_left (2 ^ (t + 1)) hm
    rw [Nat.mul_add, ← e2, Nat.mul_one, ← Nat.pow_add, show t + 1 + (63 - t) = 64 by omega, Nat.pow_succ] at this
    omega
  have ew : IntKind.wrap .u64 (Int.ofNat (limb j Q) + IntKind.wrap .u64 ((1 : Int) * 2 ^ t)) = ((limb j Q + 2 ^ t : Nat) : Int) := by
    rw [wrapU, wrapU, Int.one_mul, show (2 : Int) ^ t = ((2 ^ t : Nat) : Int) by simp, Int.ofNat_eq_natCast]
    omega
  rw [ew, Int.toNat_natCast, setl_setD hj hQ hlt2]
  have h5 := setD_eq B64 j (limb j Q + 2 ^ t) Q
  rw [limb_dg, Nat.add_mul] at h5
  rw [limb_dg]
  have e6 : 2 ^ t * B64 ^ j = 2 ^ i := by rw [hB, ← Nat.pow_add, show t + 64 * j = i by omega]
  omega
theorem twice_cases {R b c : Nat} (hR : R < b) (hb : b < BW) (hc : c ≤ 1) :
    (moreN R R = 1 → subN (addN R R + c) b = (2 * R + c) % b ∧ (2 * R + c) / b = 1) ∧
    (moreN R R ≠ 1 → (¬ addN R R + c < b → subN (addN R R + c) b = (2 * R + c) % b ∧ (2 * R + c) / b = 1) ∧ (addN R R + c < b → addN R R + c = (2 * R + c) % b ∧ (2 * R + c) / b = 0)) := by
  have h := next_arith hR hb hc
  refine ⟨h.1, fun h1 => ⟨fun h2 => (h.2 h1).1 (by unfold lessN; rw [if_neg h2]), fun h2 => (h.2 h1).2 (by unfold lessN; rw [if_pos h2]; decide)⟩⟩
theorem quo64 (p : Nat) (h : p < 1000) : IntKind.wrap .i64 ((p : Int).tdiv 64) = ((p / 64 : Nat) : Int) := by
  rw [Int.tdiv_eq_ediv_of_nonneg (Int.natCast_nonneg p), wrapI _ (by omega)]; omega
theorem rem64 (p : Nat) : ((p : Int).tmod 64) = ((p % 64 : Nat) : Int) := by rw [Int.tmod_eq_emod_of_nonneg (Int.natCast_nonneg p)]; omega
theorem DI_start256 {a b : Nat} (ha : a < BW) (hb : ¬ b = 0) : DI a b 256 0 0 := by
  have e : a / 2 ^ 256 = 0 := Nat.div_eq_of_lt ha
  exact ⟨by rw [e, Nat.zero_mod], by omega, by rw [e, Nat.zero_div, Nat.zero_mul]⟩
theorem small_div {a b : Nat} (ha : a < 18446744073709551616) (hb : b < 18446744073709551616) :
    (IntKind.wrap .u64 (Int.tdiv (Int.ofNat (limb (0 + 0) a)) (Int.ofNat (limb (0 + 0) b)))).toNat = a / b ∧ (Int.tmod (Int.ofNat (limb (0 + 0) a)) (Int.ofNat (limb (0 + 0) b))).toNat = a % b := by
  rw [Nat.zero_add, limb0_small ha, limb0_small hb]
  simp only [Int.ofNat_eq_natCast]
  rw [Int.tdiv_eq_ediv_of_nonneg (Int.natCast_nonneg _), Int.tmod_eq_emod_of_nonneg (Int.natCast_nonneg _), ← Int.natCast_ediv, ← Int.natCast_emod, wrapU]
  have : a / b ≤ a := Nat.div_le_self _ _
  generalize a / b = q at *
  generalize a % b = r at *
  omega
set_option maxHeartbeats 2000000 in
set_option maxRecDepth 20000 in
theorem ref_Div (a b : Nat) : PureOk Try.prog 151 [aN a, aN b] (divN a b) := by
  refine pure_of_ev (cxK [refWordK, refOfK, refAddK, refBitK, refCmpK, refSubK]) Try.func151 rfl (by kernel_rfl) (Nat.le_of_ble_eq_true rfl) ⟨trivial, trivial, trivial⟩ ⟨trivial, trivial, rfl, trivial⟩ fun hf w => ?_
  have ha := hf.1.1; have hb := hf.2.1.1
  conv => whnf
  refine brk (fun h1 => ?_) (fun h1 => ?_)
  · have h1 : b = 0 := Nat.eq_of_beq_eq_true h1
    subst h1
    exact ⟨(Nat.div_zero a).symm, rfl, rfl, trivial⟩
  have h1 : ¬ b = 0 := Nat.ne_of_beq_eq_false h1
  have er : a % b = dR a b := (if_neg h1).symm
  have ee : (0 : Int) = dE b := (if_neg h1).symm
  refine ⟨trivial, ?_⟩
  conv => whnf
  refine brk (fun h2 => ?_) (fun h2 => ?_) <;> simp only [decide_eq_true_eq, decide_eq_false_iff_not] at h2
  · refine ⟨trivial, ?_⟩
    conv => whnf
    refine brk (fun h3 => ?_) (fun h3 => ?_) <;> replace h3 : decide (b < B64) = _ := h3 <;> simp only [decide_eq_true_eq, decide_eq_false_iff_not] at h3
    · obtain ⟨d1, d2⟩ := small_div (a := a) (b := b) h2 h3
      have hb0 : (!ieqB (Int.ofNat (limb (0 + 0) b)) 0) = true := by
        rw [Nat.zero_add, ieq0, limb0_small h3]; simpa using h1
      refine ⟨by kernel_rfl, ?_⟩
      conv => whnf
      refine oblT hb0 ?_
      refine ⟨trivial, ?_⟩
      conv => whnf
      refine oblT hb0 ?_
      exact ⟨trivial, by kernel_rfl, d1, by rw [← er]; exact d2, ee, trivial⟩
    · conv => whnf
      refine LoopK.cut (Nat × Nat × Nat) (fun x => [(9, tI ((x.1 : Int) - 1))]) (fun x => [(4, [.num x.2.1]), (5, [.num x.2.2])]) (fun x => x.1 ≤ 256 ∧ DI a b x.1 x.2.1 x.2.2) (fun x => x.1) (256, 0, 0) ?_ ?_
        Unit (fun _ => [(9, tI (-1))]) (fun _ => [(4, [.num (a / b)]), (5, [.num (a % b)])]) (fun _ => True) 0 ?_ ?_
      · exact ⟨Nat.le_refl _, DI_start256 ha h1⟩
      · repeat' (refine And.intro ?_ ?_)
        all_goals try first | with_reducible rfl | exact trivial
        rfl
      · rintro ⟨q, Q, R⟩ ⟨hq, hI⟩
        replace hq : q ≤ 256 := hq
        replace hI : DI a b q Q R := hI
        conv => whnf
        refine brk (fun h3 => ?_) (fun h3 => ?_)
        · replace h3 : (!iltB ((q : Int) - 1) 0) = true := h3
          simp only [iltB_eq, Bool.not_eq_true', decide_eq_false_iff_not] at h3
          obtain ⟨p, rfl⟩ : ∃ p, q = p + 1 := ⟨q - 1, by omega⟩
          have e : ((p + 1 : Nat) : Int) - 1 = (p : Int) := by omega
          obtain ⟨c, hc⟩ : ∃ c : Nat, bitI a (p : Int) = (c : Int) := Int.eq_ofNat_of_zero_le (bitI_01 a p).1
          have hc1 : c ≤ 1 := by have := (bitI_01 a p).2; omega
          have hs := DI_step hI
          rw [hc, Int.toNat_natCast] at hs
          have ht := twice_cases hI.2.1 hb hc1
          have hp := setl_plus (addN_lt R R) (addN_even R) hc1
          have hQ : Q < BW := by
            rw [hI.2.2]; exact Nat.lt_of_le_of_lt (Nat.le_trans (Nat.mul_le_mul_right _ (Nat.div_le_self _ _)) (Nat.div_mul_le_self _ _)) ha
          have hQd : Q % 2 ^ (p + 1) = 0 := by rw [hI.2.2]; exact Nat.mul_mod_left _ _
          have hbit := setl_bit1 hQ hQd (show p < 256 by omega)
          have hp4 : p / 64 < 4 := by omega
          have next : (2 * R + c) / b = 0 → DI a b p Q ((2 * R + c) % b) := fun h => by
            rw [h, Nat.zero_mul, Nat.add_zero] at hs
            exact ⟨hs.2.1, Nat.mod_lt _ (by omega), hs.1⟩
          have next1 : (2 * R + c) / b = 1 → DI a b p (Q + 2 ^ p) ((2 * R + c) % b) := fun h => by
            rw [h, Nat.one_mul] at hs
            exact ⟨hs.2.1, Nat.mod_lt _ (by omega), hs.1⟩
          refine ⟨trivial, by kernel_rfl, ?_⟩
          rw [e]
          conv => whnf
          refine ⟨trivial, by kernel_rfl, ?_⟩
          conv => whnf
          rw [hc]
          refine brk (fun h4 => ?_) (fun h4 => ?_) <;> simp only [ieqB_eq, decide_eq_true_eq, decide_eq_false_iff_not] at h4
          · conv => whnf
            refine ⟨trivial, by kernel_rfl, ?_⟩
            conv => whnf
            rw [quo64 p (by omega)]
            conv => whnf
            refine oblT (bltT hp4) ?_
            conv => whnf
            refine oblT (bltT (by rw [Nat.zero_add]; exact hp4)) ?_
            conv => whnf
            rw [rem64]
            conv => whnf
            refine oblT (bltT hp4) ?_
            conv => whnf
            refine oblT (bltT (by rw [Nat.zero_add]; exact hp4)) ?_
            refine ⟨by kernel_rfl, (p, Q + 2 ^ p, (2 * R + c) % b), ⟨by omega, next1 (ht.1 h4).2⟩, ?_, ?_⟩
            · repeat' (refine And.intro ?_ ?_)
              all_goals try first | with_reducible rfl | exact trivial
              · show IntKind.wrap .i64 ((p : Int) - 1) = (p : Int) - 1
                rw [wrapI _ (by omega)]
              · exact hbit
              · show subN (setl 0 (IntKind.wrap .u64 (Int.ofNat (limb 0 (addN R R)) + (c : Int))).toNat (addN R R)) b = (2 * R + c) % b
                rw [hp]; exact (ht.1 h4).1
            · show p < p + 1
              omega
          · refine ⟨trivial, ?_⟩
            conv => whnf
            refine brk (fun h5 => ?_) (fun h5 => ?_) <;> replace h5 : (!iltB (cmpN (setl 0 (IntKind.wrap .u64 (Int.ofNat (limb 0 (addN R R)) + (c : Int))).toNat (addN R R)) b) 0) = _ := h5 <;> rw [cmp_lt0, hp] at h5 <;> simp only [Bool.not_eq_true', Bool.not_eq_false', decide_eq_true_eq, decide_eq_false_iff_not] at h5
            · conv => whnf
              refine ⟨trivial, by kernel_rfl, ?_⟩
              conv => whnf
              rw [quo64 p (by omega)]
              conv => whnf
              refine oblT (bltT hp4) ?_
              conv => whnf
              refine oblT (bltT (by rw [Nat.zero_add]; exact hp4)) ?_
              conv => whnf
              rw [rem64]
              conv => whnf
              refine oblT (bltT hp4) ?_
              conv => whnf
              refine oblT (bltT (by rw [Nat.zero_add]; exact hp4)) ?_
              refine ⟨by kernel_rfl, (p, Q + 2 ^ p, (2 * R + c) % b), ⟨by omega, next1 ((ht.2 h4).1 h5).2⟩, ?_, ?_⟩
              · repeat' (refine And.intro ?_ ?_)
                all_goals try first | with_reducible rfl | exact trivial
                · show IntKind.wrap .i64 ((p : Int) - 1) = (p : Int) - 1
                  rw [wrapI _ (by omega)]
                · exact hbit
                · show subN (setl 0 (IntKind.wrap .u64 (Int.ofNat (limb 0 (addN R R)) + (c : Int))).toNat (addN R R)) b = (2 * R + c) % b
                  rw [hp]; exact ((ht.2 h4).1 h5).1
              · show p < p + 1
                omega
            · refine ⟨(p, Q, (2 * R + c) % b), ⟨by omega, next ((ht.2 h4).2 h5).2⟩, ?_, ?_⟩
              · repeat' (refine And.intro ?_ ?_)
                all_goals try first | with_reducible rfl | exact trivial
                · show IntKind.wrap .i64 ((p : Int) - 1) = (p : Int) - 1
                  rw [wrapI _ (by omega)]
                · show setl 0 (IntKind.wrap .u64 (Int.ofNat (limb 0 (addN R R)) + (c : Int))).toNat (addN R R) = (2 * R + c) % b
                  rw [hp]; exact ((ht.2 h4).2 h5).1
              · show p < p + 1
                omega
        · replace h3 : (!iltB ((q : Int) - 1) 0) = false := h3
          simp only [iltB_eq, Bool.not_eq_false', decide_eq_true_eq] at h3
          have hq0 : q = 0 := by omega
          rw [hq0] at hI
          refine ⟨(), trivial, ?_⟩
          repeat' (refine And.intro ?_ ?_)
          all_goals try first | with_reducible rfl | exact trivial
          · show (q : Int) - 1 = -1
            omega
          · show Q = a / b
            rw [hI.2.2]; simp
          · show R = a % b
            rw [hI.1]; simp
      · intro _ _
        exact ⟨by kernel_rfl, by kernel_rfl, rfl, er, ee, trivial⟩
  · conv => whnf
    refine LoopK.cut (Nat × Nat × Nat) (fun x => [(9, tI ((x.1 : Int) - 1))]) (fun x => [(4, [.num x.2.1]), (5, [.num x.2.2])]) (fun x => x.1 ≤ 256 ∧ DI a b x.1 x.2.1 x.2.2) (fun x => x.1) (256, 0, 0) ?_ ?_
      Unit (fun _ => [(9, tI (-1))]) (fun _ => [(4, [.num (a / b)]), (5, [.num (a % b)])]) (fun _ => True) 0 ?_ ?_
    · exact ⟨Nat.le_refl _, DI_start256 ha h1⟩
    · repeat' (refine And.intro ?_ ?_)
      all_goals try first | with_reducible rfl | exact trivial
      rfl
    · rintro ⟨q, Q, R⟩ ⟨hq, hI⟩
      replace hq : q ≤ 256 := hq
      replace hI : DI a b q Q R := hI
      conv => whnf
      refine brk (fun h3 => ?_) (fun h3 => ?_)
      · replace h3 : (!iltB ((q : Int) - 1) 0) = true := h3
        simp only [iltB_eq, Bool.not_eq_true', decide_eq_false_iff_not] at h3
        obtain ⟨p, rfl⟩ : ∃ p, q = p + 1 := ⟨q - 1, by omega⟩
        have e : ((p + 1 : Nat) : Int) - 1 = (p : Int) := by omega
        obtain ⟨c, hc⟩ : ∃ c : Nat, bitI a (p : Int) = (c : Int) := Int.eq_ofNat_of_zero_le (bitI_01 a p).1
        have hc1 : c ≤ 1 := by have := (bitI_01 a p).2; omega
        have hs := DI_step hI
        rw [hc, Int.toNat_natCast] at hs
        have ht := twice_cases hI.2.1 hb hc1
        have hp := setl_plus (addN_lt R R) (addN_even R) hc1
        have hQ : Q < BW := by
          rw [hI.2.2]; exact Nat.lt_of_le_of_lt (Nat.le_trans (Nat.mul_le_mul_right _ (Nat.div_le_self _ _)) (Nat.div_mul_le_self _ _)) ha
        have hQd : Q % 2 ^ (p + 1) = 0 := by rw [hI.2.2]; exact Nat.mul_mod_left _ _
        have hbit := setl_bit1 hQ hQd (show p < 256 by omega)
        have hp4 : p / 64 < 4 := by omega
        have next : (2 * R + c) / b = 0 → DI a b p Q ((2 * R + c) % b) := fun h => by
          rw [h, Nat.zero_mul, Nat.add_zero] at hs
          exact ⟨hs.2.1, Nat.mod_lt _ (by omega), hs.1⟩
        have next1 : (2 * R + c) / b = 1 → DI a b p (Q + 2 ^ p) ((2 * R + c) % b) := fun h => by
          rw [h, Nat.one_mul] at hs
          exact ⟨hs.2.1, Nat.mod_lt _ (by omega), hs.1⟩
        refine ⟨trivial, by kernel_rfl, ?_⟩
        rw [e]
        conv => whnf
        refine ⟨trivial, by kernel_rfl, ?_⟩
        conv => whnf
        rw [hc]
        refine brk (fun h4 => ?_) (fun h4 => ?_) <;> simp only [ieqB_eq, decide_eq_true_eq, decide_eq_false_iff_not] at h4
        · conv => whnf
          refine ⟨trivial, by kernel_rfl, ?_⟩
          conv => whnf
          rw [quo64 p (by omega)]
          conv => whnf
          refine oblT (bltT hp4) ?_
          conv => whnf
          refine oblT (bltT (by rw [Nat.zero_add]; exact hp4)) ?_
          conv => whnf
          rw [rem64]
          conv => whnf
          refine oblT (bltT hp4) ?_
          conv => whnf
          refine oblT (bltT (by rw [Nat.zero_add]; exact hp4)) ?_
          refine ⟨by kernel_rfl, (p, Q + 2 ^ p, (2 * R + c) % b), ⟨by omega, next1 (ht.1 h4).2⟩, ?_, ?_⟩
          · repeat' (refine And.intro ?_ ?_)
            all_goals try first | with_reducible rfl | exact trivial
            · show IntKind.wrap .i64 ((p : Int) - 1) = (p : Int) - 1
              rw [wrapI _ (by omega)]
            · exact hbit
            · show subN (setl 0 (IntKind.wrap .u64 (Int.ofNat (limb 0 (addN R R)) + (c : Int))).toNat (addN R R)) b = (2 * R + c) % b
              rw [hp]; exact (ht.1 h4).1
          · show p < p + 1
            omega
        · refine ⟨trivial, ?_⟩
          conv => whnf
          refine brk (fun h5 => ?_) (fun h5 => ?_) <;> replace h5 : (!iltB (cmpN (setl 0 (IntKind.wrap .u64 (Int.ofNat (limb 0 (addN R R)) + (c : Int))).toNat (addN R R)) b) 0) = _ := h5 <;> rw [cmp_lt0, hp] at h5 <;> simp only [Bool.not_eq_true', Bool.not_eq_false', decide_eq_true_eq, decide_eq_false_iff_not] at h5
          · conv => whnf
            refine ⟨trivial, by kernel_rfl, ?_⟩
            conv => whnf
            rw [quo64 p (by omega)]
            conv => whnf
            refine oblT (bltT hp4) ?_
            conv => whnf
            refine oblT (bltT (by rw [Nat.zero_add]; exact hp4)) ?_
            conv => whnf
            rw [rem64]
            conv => whnf
            refine oblT (bltT hp4) ?_
            conv => whnf
            refine oblT (bltT (by rw [Nat.zero_add]; exact hp4)) ?_
            refine ⟨by kernel_rfl, (p, Q + 2 ^ p, (2 * R + c) % b), ⟨by omega, next1 ((ht.2 h4).1 h5).2⟩, ?_, ?_⟩
            · repeat' (refine And.intro ?_ ?_)
              all_goals try first | with_reducible rfl | exact trivial
              · show IntKind.wrap .i64 ((p : Int) - 1) = (p : Int) - 1
                rw [wrapI _ (by omega)]
              · exact hbit
              · show subN (setl 0 (IntKind.wrap .u64 (Int.ofNat (limb 0 (addN R R)) + (c : Int))).toNat (addN R R)) b = (2 * R + c) % b
                rw [hp]; exact ((ht.2 h4).1 h5).1
            · show p < p + 1
              omega
          · refine ⟨(p, Q, (2 * R + c) % b), ⟨by omega, next ((ht.2 h4).2 h5).2⟩, ?_, ?_⟩
            · repeat' (refine And.intro ?_ ?_)
              all_goals try first | with_reducible rfl | exact trivial
              · show IntKind.wrap .i64 ((p : Int) - 1) = (p : Int) - 1
                rw [wrapI _ (by omega)]
              · show setl 0 (IntKind.wrap .u64 (Int.ofNat (limb 0 (addN R R)) + (c : Int))).toNat (addN R R) = (2 * R + c) % b
                rw [hp]; exact ((ht.2 h4).2 h5).1
            · show p < p + 1
              omega
      · replace h3 : (!iltB ((q : Int) - 1) 0) = false := h3
        simp only [iltB_eq, Bool.not_eq_false', decide_eq_true_eq] at h3
        have hq0 : q = 0 := by omega
        rw [hq0] at hI
        refine ⟨(), trivial, ?_⟩
        repeat' (refine And.intro ?_ ?_)
        all_goals try first | with_reducible rfl | exact trivial
        · show (q : Int) - 1 = -1
          omega
        · show Q = a / b
          rw [hI.2.2]; simp
        · show R = a % b
          rw [hI.1]; simp
    · intro _ _
      exact ⟨by kernel_rfl, by kernel_rfl, rfl, er, ee, trivial⟩
def refDivK : Known Try.prog := kNN 151 (fun _ _ => True) divN (fun a b _ => ref_Div a b)
set_option maxRecDepth 20000 in
theorem ref_Common (a b : Nat) : PureOk Try.prog 174 [aN a, aN b] (tN (Nat.gcd a b)) := by
  refine pure_of_ev (cxK [refDivK]) Try.func174 rfl (by kernel_rfl) (Nat.le_of_ble_eq_true rfl) ⟨trivial, trivial, trivial⟩ trivial fun hf w => ?_
  conv => whnf
  refine LoopK.cut (Nat × Nat) (fun _ => []) (fun x => [(0, [.num x.1]), (1, [.num x.2])]) (fun x => Nat.gcd x.1 x.2 = Nat.gcd a b) (fun x => x.2) (a, b) ?_ ?_
    Unit (fun _ => []) (fun _ => [(0, [.num (Nat.gcd a b)]), (1, [.num 0])]) (fun _ => True) 0 ?_ ?_
  · exact rfl
  · repeat' (refine And.intro ?_ ?_)
    all_goals try first | with_reducible rfl | exact trivial
  · rintro ⟨x, y⟩ hx
    replace hx : Nat.gcd x y = Nat.gcd a b := hx
    conv => whnf
    refine brk (fun h3 => ?_) (fun h3 => ?_) <;> replace h3 : (!Nat.beq y 0) = _ := h3 <;> simp only [Bool.not_eq_true', Bool.not_eq_false'] at h3
    · have h3 : ¬ y = 0 := Nat.ne_of_beq_eq_false h3
      refine ⟨trivial, (y, dR x y), ?_, ?_, ?_⟩
      · show Nat.gcd y (dR x y) = _
        rw [← hx, dR, if_neg h3, Nat.gcd_comm x y, Nat.gcd_rec y x, Nat.gcd_comm]
      · repeat' (refine And.intro ?_ ?_)
        all_goals try first | with_reducible rfl | exact trivial
      · show dR x y < y
        rw [dR, if_neg h3]; exact Nat.mod_lt _ (by omega)
    · have h3 : y = 0 := Nat.eq_of_beq_eq_true h3
      subst h3
      rw [Nat.gcd_zero_right] at hx
      refine ⟨(), trivial, ?_⟩
      repeat' (refine And.intro ?_ ?_)
      all_goals try first | with_reducible rfl | exact trivial
      exact hx
  · intro _ _
    exact ⟨rfl, trivial⟩
def refCommonK : Known Try.prog := kNN 174 (fun _ _ => True) (fun a b => tN (Nat.gcd a b)) (fun a b _ => ref_Common a b)
end Go.Proofs.Ytacjiajijigebaa
