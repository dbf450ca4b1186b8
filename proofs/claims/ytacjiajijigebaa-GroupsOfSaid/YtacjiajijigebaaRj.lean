/- What is known of the reference's powers and inverses that go round. No condition. -/
import Derived.Test.YtacjiajijigebaaRi
namespace Go.Proofs.Ytacjiajijigebaa
open Go Go.Ev
set_option linter.unusedSimpArgs false

theorem limb_bit1 {n p : Nat} (_hp : p < 256) : ibit .and .u64 ((Int.ofNat (limb (0 + p / 64) n)).fdiv (2 ^ shN .u64 ((p % 64 : Nat) : Int))) 1 = ((n / 2 ^ p % 2 : Nat) : Int) := by
  rw [Nat.zero_add, shNs _ (by omega), Int.fdiv_eq_ediv_of_nonneg _ (Int.le_of_lt (Int.pow_pos (by decide))), ← limb_bit]
  have e : (Int.ofNat (limb (p / 64) n)) / 2 ^ (p % 64) = ((limb (p / 64) n / 2 ^ (p % 64) : Nat) : Int) := by simp
  rw [e, and1]
  exact Nat.lt_of_le_of_lt (Nat.div_le_self _ _) (limb_lt _ _)
theorem mulmod_cast {x y m : Nat} : ((x : Int) * (y : Int) / 18446744073709551616 * 18446744073709551616 + (x : Int) * (y : Int) % 18446744073709551616) % (m : Int) = ((x * y % m : Nat) : Int) := by
  rw [Int.ediv_mul_add_emod, ← Int.natCast_mul, ← Int.natCast_emod]
set_option maxRecDepth 20000 in
theorem ref_word (a n m : Nat) (h : 1 < m ∧ a < m) : PureOk Try.prog 176 [aU a, aN n, aU m] (tU ((a ^ n % m : Nat) : Int)) := by
  refine pure_of_ev (cxK [refBitsK, mul64K, div64K]) Try.func176 rfl (by kernel_rfl) (Nat.le_of_ble_eq_true rfl) ⟨rfl, trivial, rfl, trivial⟩ rfl fun hf w => ?_
  obtain ⟨h1, ham⟩ := h
  have hnn : n < BW := hf.2.1.1
  have hm64 : m < 18446744073709551616 := by have := (hasU.1 hf.2.2.1).2; omega
  have hbl := bitLen_256 hnn
  conv => whnf
  refine oblT (by rw [ieqB_eq]; simp; omega) ?_
  refine ⟨trivial, ?_⟩
  conv => whnf
  refine LoopK.cut (Nat × Nat) (fun x => [(8, tI ((x.1 : Int) - 1)), (7, tU x.2)]) (fun _ => []) (fun x => x.1 ≤ bitLen n ∧ x.2 = a ^ (n / 2 ^ x.1) % m) (fun x => x.1) (bitLen n, 1) ?_ ?_
    Unit (fun _ => [(8, tI (-1)), (7, tU ((a ^ n % m : Nat) : Int))]) (fun _ => []) (fun _ => True) 0 ?_ ?_
  · refine ⟨Nat.le_refl _, ?_⟩
    show 1 = _
    rw [Nat.div_eq_of_lt (bitLen_spec n).1, Nat.pow_zero, Nat.mod_eq_of_lt h1]
  · repeat' (refine And.intro ?_ ?_)
    all_goals try first | with_reducible rfl | exact trivial
    · show (1 : Int).tmod (m : Int) = 1
      rw [Int.tmod_eq_emod_of_nonneg (by decide)]; exact Int.emod_eq_of_lt (by decide) (by omega)
    · show IntKind.wrap .i64 ((bitLen n : Int) - 1) = (bitLen n : Int) - 1
      rw [wrapI _ (by omega)]
  · rintro ⟨q, y⟩ ⟨hq, hy⟩
    replace hq : q ≤ bitLen n := hq
    replace hy : y = a ^ (n / 2 ^ q) % m := hy
    have hym : y < m := by rw [hy]; exact Nat.mod_lt _ (by omega)
    conv => whnf
    refine brk (fun h3 => ?_) (fun h3 => ?_)
    · replace h3 : (!iltB ((q : Int) - 1) 0) = true := h3
      simp only [iltB_eq, Bool.not_eq_true', decide_eq_false_iff_not] at h3
      obtain ⟨p, rfl⟩ : ∃ p, q = p + 1 := ⟨q - 1, by omega⟩
      have e : ((p + 1 : Nat) : Int) - 1 = (p : Int) := by omega
      have hs := pow_bit a n m p
      simp only at hs
      rw [← hy] at hs
      have hbit := limb_bit1 (n := n) (show p < 256 by omega)
      have hp4 : p / 64 < 4 := by omega
      have e2 := mulmod_cast (x := y) (y := y) (m := m)
      refine ⟨trivial, word_less hym (by omega), ?_⟩
      rw [e]
      conv => whnf
      rw [quo64 p (by omega)]
      conv => whnf
      refine oblT (bltT hp4) ?_
      conv => whnf
      refine oblT (bltT (by rw [Nat.zero_add]; exact hp4)) ?_
      conv => whnf
      rw [rem64]
      conv => whnf
      refine brk (fun h4 => ?_) (fun h4 => ?_) <;> replace h4 : ieqB (ibit .and .u64 ((Int.ofNat (limb (0 + p / 64) n)).fdiv (2 ^ shN .u64 ((p % 64 : Nat) : Int))) 1) 1 = _ := h4 <;> rw [hbit, ieq1] at h4 <;> simp only [decide_eq_true_eq, decide_eq_false_iff_not] at h4
      · refine ⟨trivial, ?_, (p, y * y % m * a % m), ⟨by omega, hs.1 h4⟩, ?_, ?_⟩
        · show (((y : Int) * (y : Int) / 18446744073709551616 * 18446744073709551616 + (y : Int) * (y : Int) % 18446744073709551616) % (m : Int)) * (a : Int) / 18446744073709551616 < (m : Int)
          rw [e2]; exact word_less (Nat.mod_lt _ (by omega)) (by omega)
        · repeat' (refine And.intro ?_ ?_)
          all_goals try first | with_reducible rfl | exact trivial
          · show ((((y : Int) * (y : Int) / 18446744073709551616 * 18446744073709551616 + (y : Int) * (y : Int) % 18446744073709551616) % (m : Int)) * (a : Int) / 18446744073709551616 * 18446744073709551616 + (((y : Int) * (y : Int) / 18446744073709551616 * 18446744073709551616 + (y : Int) * (y : Int) % 18446744073709551616) % (m : Int)) * (a : Int) % 18446744073709551616) % (m : Int) = ((y * y % m * a % m : Nat) : Int)
            rw [e2, mulmod_cast]
          · show IntKind.wrap .i64 ((p : Int) - 1) = (p : Int) - 1
            rw [wrapI _ (by omega)]
        · show p < p + 1
          omega
      · refine ⟨(p, y * y % m), ⟨by omega, hs.2 h4⟩, ?_, ?_⟩
        · repeat' (refine And.intro ?_ ?_)
          all_goals try first | with_reducible rfl | exact trivial
          · exact e2
          · show IntKind.wrap .i64 ((p : Int) - 1) = (p : Int) - 1
            rw [wrapI _ (by omega)]
        · show p < p + 1
          omega
    · replace h3 : (!iltB ((q : Int) - 1) 0) = false := h3
      simp only [iltB_eq, Bool.not_eq_false', decide_eq_true_eq] at h3
      have hq0 : q = 0 := by omega
      rw [hq0, Nat.pow_zero, Nat.div_one] at hy
      refine ⟨(), trivial, ?_⟩
      repeat' (refine And.intro ?_ ?_)
      all_goals try first | with_reducible rfl | exact trivial
      · show ((y : Nat) : Int) = _
        rw [hy]
      · show (q : Int) - 1 = -1
        omega
  · intro _ _
    exact ⟨rfl, trivial⟩
def refPowK : Known Try.prog := Known.pure 176 (fun
    | [.cv (.int .u64 (.ofNat a)), .agg [.num n], .cv (.int .u64 (.ofNat m))] => some (1 < m ∧ a < m, tU ((a ^ n % m : Nat) : Int))
    | _ => none) fun args p r h hp => by
    split at h
    · simp only [Option.some.injEq, Prod.mk.injEq] at h; obtain ⟨rfl, rfl⟩ := h; exact ref_word _ _ _ hp
    · cases h
set_option maxRecDepth 20000 in
theorem ref_Exp (a n m : Nat) : PureOk Try.prog 110 [aN a, aN n, aN m] (expN a n m) := by
  refine pure_of_ev (cxK [refMayK, refWordK, refPowK, refOfK, refBitsK, refTimesK, refBitK]) Try.func110 rfl (by kernel_rfl) (Nat.le_of_ble_eq_true rfl) ⟨trivial, trivial, trivial, trivial⟩ ⟨trivial, rfl, trivial⟩ fun hf w => ?_
  have hnn : n < BW := hf.2.1.1
  have hbl := bitLen_256 hnn
  refine ⟨trivial, ?_⟩
  conv => whnf
  refine brk (fun h1 => ?_) (fun h1 => ?_) <;> replace h1 : (!mayM a a m) = _ := h1 <;> simp only [Bool.not_eq_true', Bool.not_eq_false'] at h1
  · exact ⟨by rw [h1]; rfl, by rw [h1]; rfl, trivial⟩
  have hm : 1 < m ∧ a < m ∧ a < m := by unfold mayM at h1; simpa using h1
  refine ⟨trivial, ?_⟩
  conv => whnf
  refine brk (fun h2 => ?_) (fun h2 => ?_) <;> replace h2 : decide (m < B64) = _ := h2 <;> simp only [decide_eq_true_eq, decide_eq_false_iff_not] at h2
  · have hm' : m < 18446744073709551616 := h2
    have e0 : ∀ x, x < 18446744073709551616 → limb (0 + 0) x = x := fun x hx => by rw [Nat.add_zero, limb0_small hx]
    refine ⟨⟨by rw [e0 m hm']; exact hm.1, by rw [e0 m hm', e0 a (by omega)]; exact hm.2.1⟩, trivial, ?_, by rw [h1]; rfl, trivial⟩
    rw [h1, e0 m hm', e0 a (by omega)]
    exact Int.toNat_natCast _
  refine ⟨trivial, trivial, ?_⟩
  conv => whnf
  refine LoopK.cut (Nat × Nat) (fun x => [(9, tI ((x.1 : Int) - 1))]) (fun x => [(4, [.num x.2])]) (fun x => x.1 ≤ bitLen n ∧ x.2 = a ^ (n / 2 ^ x.1) % m) (fun x => x.1) (bitLen n, 1) ?_ ?_
    Unit (fun _ => [(9, tI (-1))]) (fun _ => [(4, [.num (a ^ n % m)])]) (fun _ => True) 0 ?_ ?_
  · refine ⟨Nat.le_refl _, ?_⟩
    show 1 = _
    rw [Nat.div_eq_of_lt (bitLen_spec n).1, Nat.pow_zero, Nat.mod_eq_of_lt hm.1]
  · repeat' (refine And.intro ?_ ?_)
    all_goals try first | with_reducible rfl | exact trivial
    · show IntKind.wrap .i64 ((bitLen n : Int) - 1) = (bitLen n : Int) - 1
      rw [wrapI _ (by omega)]
    · rfl
  · rintro ⟨q, y⟩ ⟨hq, hy⟩
    replace hq : q ≤ bitLen n := hq
    replace hy : y = a ^ (n / 2 ^ q) % m := hy
    have hym : y < m := by rw [hy]; exact Nat.mod_lt _ (by omega)
    conv => whnf
    refine brk (fun h3 => ?_) (fun h3 => ?_)
    · replace h3 : (!iltB ((q : Int) - 1) 0) = true := h3
      simp only [iltB_eq, Bool.not_eq_true', decide_eq_false_iff_not] at h3
      obtain ⟨p, rfl⟩ : ∃ p, q = p + 1 := ⟨q - 1, by omega⟩
      have e : ((p + 1 : Nat) : Int) - 1 = (p : Int) := by omega
      have hs := pow_bit a n m p
      simp only at hs
      rw [← hy] at hs
      have eb : bitI n (p : Int) = ((n / 2 ^ p % 2 : Nat) : Int) := by unfold bitI; rw [if_neg (by omega), Int.toNat_natCast]
      refine ⟨⟨hym, hym⟩, trivial, ?_⟩
      rw [e]
      conv => whnf
      refine brk (fun h4 => ?_) (fun h4 => ?_) <;> replace h4 : ieqB (bitI n (p : Int)) 1 = _ := h4 <;> rw [eb, ieq1] at h4 <;> simp only [decide_eq_true_eq, decide_eq_false_iff_not] at h4
      · refine ⟨⟨Nat.mod_lt _ (by omega), hm.2.1⟩, (p, y * y % m * a % m), ⟨by omega, hs.1 h4⟩, ?_, ?_⟩
        · repeat' (refine And.intro ?_ ?_)
          all_goals try first | with_reducible rfl | exact trivial
          · show IntKind.wrap .i64 ((p : Int) - 1) = (p : Int) - 1
            rw [wrapI _ (by omega)]
        · show p < p + 1
          omega
      · refine ⟨(p, y * y % m), ⟨by omega, hs.2 h4⟩, ?_, ?_⟩
        · repeat' (refine And.intro ?_ ?_)
          all_goals try first | with_reducible rfl | exact trivial
          · show IntKind.wrap .i64 ((p : Int) - 1) = (p : Int) - 1
            rw [wrapI _ (by omega)]
        · show p < p + 1
          omega
    · replace h3 : (!iltB ((q : Int) - 1) 0) = false := h3
      simp only [iltB_eq, Bool.not_eq_false', decide_eq_true_eq] at h3
      have hq0 : q = 0 := by omega
      rw [hq0, Nat.pow_zero, Nat.div_one] at hy
      refine ⟨(), trivial, ?_⟩
      repeat' (refine And.intro ?_ ?_)
      all_goals try first | with_reducible rfl | exact trivial
      · show (q : Int) - 1 = -1
        omega
      · exact hy
  · intro _ _
    exact ⟨by rw [h1]; rfl, by rw [h1]; rfl, trivial⟩
def refExpK : Known Try.prog := kNNN 110 (fun _ _ _ => True) expN (fun a n m _ => ref_Exp a n m)

set_option maxRecDepth 20000 in
theorem ref_Inv (a m : Nat) : PureOk Try.prog 109 [aN a, aN m] (modsInvN a m) := by
  refine pure_of_ev (cxK [refMayK, refCommonK, refOfK, refDivK, refTimesK, refSubMK]) Try.func109 rfl (by kernel_rfl) (Nat.le_of_ble_eq_true rfl) ⟨trivial, trivial, trivial⟩ ⟨trivial, rfl, trivial⟩ fun hf w => ?_
  refine ⟨trivial, ?_⟩
  conv => whnf
  refine brk (fun h1 => ?_) (fun h1 => ?_) <;> replace h1 : (!mayM a a m) = _ := h1 <;> simp only [Bool.not_eq_true', Bool.not_eq_false'] at h1
  · exact ⟨by rw [h1]; rfl, by unfold eInv; rw [h1], trivial⟩
  have hm : 1 < m ∧ a < m ∧ a < m := by unfold mayM at h1; simpa using h1
  refine ⟨trivial, trivial, ?_⟩
  conv => whnf
  refine brk (fun h2 => ?_) (fun h2 => ?_) <;> replace h2 : (!Nat.beq (Nat.gcd a m) 1) = _ := h2 <;> simp only [Bool.not_eq_true', Bool.not_eq_false'] at h2
  · have h2 : ¬ Nat.gcd a m = 1 := Nat.ne_of_beq_eq_false h2
    exact ⟨by rw [h1]; exact (invN_none h2).symm, by unfold eInv; rw [h1]; exact (if_neg h2).symm, trivial⟩
  have h2 : Nat.gcd a m = 1 := Nat.eq_of_beq_eq_true h2
  refine ⟨trivial, ?_⟩
  conv => whnf
  refine LoopK.cut (Nat × Nat × Nat × Nat) (fun _ => []) (fun x => [(3, [.num x.1]), (4, [.num x.2.1]), (5, [.num x.2.2.1]), (6, [.num x.2.2.2])]) (fun x => InvI a m x.1 x.2.1 x.2.2.1 x.2.2.2) (fun x => x.2.1) (m, a, 0, 1) ?_ ?_
    (Nat × Nat) (fun _ => []) (fun x => [(3, [.num x.1]), (4, [.num 1]), (5, [.num x.2]), (6, [.num (invN a m)])]) (fun _ => True) 0 ?_ ?_
  · exact InvI.start hm.1 hm.2.1 h2
  · repeat' (refine And.intro ?_ ?_)
    all_goals try first | with_reducible rfl | exact trivial
    all_goals rfl
  · rintro ⟨r, s, x, y⟩ hI
    replace hI : InvI a m r s x y := hI
    conv => whnf
    refine ⟨by kernel_rfl, trivial, ?_⟩
    conv => whnf
    refine brk (fun h3 => ?_) (fun h3 => ?_) <;> replace h3 : (!Nat.beq s 1) = _ := h3 <;> simp only [Bool.not_eq_true', Bool.not_eq_false'] at h3
    · have h3 : ¬ s = 1 := Nat.ne_of_beq_eq_false h3
      have h0 : ¬ s = 0 := by have := hI.s0; omega
      have hq : dR (r / s) m = r / s := by rw [dR, if_neg (by omega), Nat.mod_eq_of_lt (hI.quo h3)]
      refine ⟨trivial, trivial, by kernel_rfl, ⟨by show dR (r / s) m < m; rw [hq]; exact hI.quo h3, hI.ym⟩, trivial, by kernel_rfl, (s, r % s, y, (x + (m - r / s * y % m)) % m), hI.step h3, ?_, ?_⟩
      · have hmay : mayM x (r / s * y % m) m = true := by
          unfold mayM; simp; exact ⟨hI.m1, hI.xm, Nat.mod_lt _ (by have := hI.m1; omega)⟩
        repeat' (refine And.intro ?_ ?_)
        all_goals try first | with_reducible rfl | exact trivial
        · show dR r s = r % s
          rw [dR, if_neg h0]
        · show gM (mayM x (dR (r / s) m * y % m) m) (subM x (dR (r / s) m * y % m) m) = _
          rw [hq, hmay]; rfl
      · show r % s < s
        exact Nat.mod_lt _ hI.s0
    · have h3 : s = 1 := Nat.eq_of_beq_eq_true h3
      subst h3
      refine ⟨(r, x), trivial, ?_⟩
      repeat' (refine And.intro ?_ ?_)
      all_goals try first | with_reducible rfl | exact trivial
      exact hI.done rfl
  · intro _ _
    exact ⟨by rw [h1]; rfl, by unfold eInv; rw [h1]; exact (if_pos h2).symm, trivial⟩
noncomputable def refInvK : Known Try.prog := kNN 109 (fun _ _ => True) modsInvN (fun a m _ => ref_Inv a m)
end Go.Proofs.Ytacjiajijigebaa
