/- What is known of the reference's long numbers: out of digits, compared, their bits. No condition. -/
import Derived.Test.YtacjiajijigebaaRa
namespace Go.Proofs.Ytacjiajijigebaa
open Go Go.Ev
set_option linter.unusedSimpArgs false

theorem bltT {a b : Nat} (h : a < b) : Nat.blt a b = true := by rw [Nat.blt_eq]; exact h
theorem leSame {m n : Nat} {f : Nat → CV} (h : ∀ i, i < n → ∃ (k : IntKind) (v : Int), f i = .int k v) : ∀ i, i < n → leCV m (f i) (f i) True := by
  intro i hi
  obtain ⟨k, v, e⟩ := h i hi
  rw [e]
  cases k <;> exact ⟨rfl, trivial⟩

set_option maxRecDepth 20000 in
theorem ref_of (f : Nat → CV) (N i c l mk : Nat) (mem : List Blk) (hm : bnth mem l = some ([.vec N f], mk)) (hk : mk = 0 ∨ mk = EXTM) (hN : i + 16 ≤ N) (hc : 16 ≤ c) (hd : digOk f i) (hfree : ∀ j, j < N → ∃ (k : IntKind) (v : Int), f j = .int k v) (S : Nat → Prop) (w0 : World) :
    CallOk Try.prog S w0 187 [.cv (.sl l 0 i 16 c)] mem [l] (tN (numF f i 16)) noEff := by
  refine roOk (cxK []) (r := tN (numF f i 16)) Try.func187 rfl (by kernel_rfl) (xs := [.cv (.sl 0 0 i 16 c)]) (Nat.le_of_ble_eq_true rfl) ⟨Nat.zero_lt_one, trivial⟩ (fun g vs hv => cv_slice 0 hv (by decide) rfl)
    (kc := [.vec N f]) ⟨fun j hj => by obtain ⟨k, v, e⟩ := hfree j hj; rw [e]; rfl, trivial⟩ (by simp) ⟨trivial, trivial⟩ hm hk fun S w g hf hn => ?_
  conv => whnf
  refine LoopK.cut Nat (fun x => [(4, tI x)]) (fun x => [(2, [.num (numF f i x)])]) (fun x => x ≤ 16) (fun x => 16 - x) 0 ?_ ?_
    Unit (fun _ => [(4, tI 16)]) (fun _ => [(2, [.num (numF f i 16)])]) (fun _ => True) 0 ?_ ?_
  · exact Nat.zero_le _
  · repeat' (refine And.intro ?_ ?_)
    all_goals try first | with_reducible rfl | exact trivial
    all_goals first | rfl | exact leSame hfree | exact hc | exact Nat.le_refl c
  · intro k hk
    replace hk : k ≤ 16 := hk
    conv => whnf
    refine brk (fun h3 => ?_) (fun h3 => ?_)
    · replace h3 : iltB (k : Int) 16 = true := h3
      simp only [iltB_eq, decide_eq_true_eq] at h3
      have h3 : k < 16 := by omega
      refine ⟨by kernel_rfl, ?_⟩
      conv => whnf
      rw [quo4 k (by omega)]
      conv => whnf
      refine oblT (by rw [Nat.blt_eq]; omega) ?_
      conv => whnf
      refine oblT (by rw [Nat.zero_add, Nat.blt_eq]; omega) ?_
      conv => whnf
      refine oblT (by rw [Nat.blt_eq]; exact h3) ?_
      conv => whnf
      refine oblT (by rw [Nat.blt_eq]; omega) ?_
      obtain ⟨v, hv, ev⟩ := hd k h3
      rw [ev]
      conv => whnf
      rw [rem4, mul16 (k % 4) (by omega)]
      conv => whnf
      refine oblT (by rw [Nat.blt_eq]; omega) ?_
      conv => whnf
      refine oblT (by rw [Nat.zero_add, Nat.blt_eq]; omega) ?_
      refine ⟨by kernel_rfl, k + 1, h3, ?_, ?_⟩
      · have hs := of_step h3 (numF_lt hd k hk) hv
        repeat' (refine And.intro ?_ ?_)
        all_goals try first | with_reducible rfl | exact trivial
        · exact hc
        · exact Nat.le_refl c
        · show IntKind.wrap .i64 ((k : Int) + 1) = ((k + 1 : Nat) : Int)
          rw [wrapI _ (by omega)]; rfl
        · exact leSame hfree
        · refine Eq.trans hs ?_
          show _ = numF f i k + cvNat (f (i + k)) * B16 ^ k
          rw [ev]; rfl
      · show 16 - (k + 1) < 16 - k
        omega
    · replace h3 : iltB (k : Int) 16 = false := h3
      simp only [iltB_eq, decide_eq_false_iff_not] at h3
      have hk2 : k = 16 := by omega
      have hkf : numF f i k = numF f i 16 := by rw [hk2]
      refine ⟨(), trivial, ?_⟩
      repeat' (refine And.intro ?_ ?_)
      all_goals try first | with_reducible rfl | exact trivial
      all_goals first | exact leSame hfree | exact hc | exact Nat.le_refl c | exact hkf | (show (k : Int) = 16; omega)
  · intro _ _
    exact ⟨rfl, rfl, leSame hfree, trivial⟩
def ofDK : Known Try.prog :=
  ⟨187, fun args mem => match args with
    | [.cv (.sl l 0 i 16 c)] => match bnth mem l with
      | some ([.vec N f], mk) => some ((mk = 0 ∨ mk = EXTM) ∧ i + 16 ≤ N ∧ 16 ≤ c ∧ digOk f i ∧ (∀ j, j < N → ∃ (k : IntKind) (v : Int), f j = .int k v), tN (numF f i 16), noEff, [l])
      | _ => none
    | _ => none, fun args mem q r e rd hm hq S w0 => by
    split at hm
    · split at hm
      · rename_i hb
        simp only [Option.some.injEq, Prod.mk.injEq] at hm
        obtain ⟨rfl, rfl, rfl, rfl⟩ := hm
        exact ref_of _ _ _ _ _ _ mem hb hq.1 hq.2.1 hq.2.2.1 hq.2.2.2.1 hq.2.2.2.2 S w0
      · cases hm
    · cases hm⟩

theorem cmp_step {a b p : Nat} (h : a / B16 ^ (p + 1) = b / B16 ^ (p + 1)) :
    (dg B16 p a < dg B16 p b → a < b) ∧ (dg B16 p b < dg B16 p a → b < a) ∧ (dg B16 p a = dg B16 p b → a / B16 ^ p = b / B16 ^ p) := by
  have e : ∀ x : Nat, x / B16 ^ p = B16 * (x / B16 ^ (p + 1)) + dg B16 p x := by
    intro x
    rw [Nat.pow_succ, ← Nat.div_div_eq_div_mul]
    exact (Nat.div_add_mod _ _).symm
  have lt : ∀ x y : Nat, x / B16 ^ p < y / B16 ^ p → x < y := by
    intro x y hxy
    rcases Nat.lt_or_ge x y with h | h
    · exact h
    · have := Nat.div_le_div_right (c := B16 ^ p) h; omega
  have ea := e a; have eb := e b
  rw [h] at ea
  refine ⟨fun h1 => lt a b (by omega), fun h1 => lt b a (by omega), fun h1 => by omega⟩
set_option maxRecDepth 20000 in
theorem ref_Cmp (a b : Nat) : PureOk Try.prog 147 [aN a, aN b] (tI (cmpN a b)) := by
  refine pure_of_ev (cxK [digitsK]) Try.func147 rfl (by kernel_rfl) (Nat.le_of_ble_eq_true rfl) ⟨trivial, trivial, trivial⟩ rfl fun hf w => ?_
  have ha := hf.1.1; have hb := hf.2.1.1
  rw [bw16] at ha hb
  refine ⟨trivial, trivial, ?_⟩
  conv => whnf
  refine LoopK.cut Nat (fun x => [(7, tI ((x : Int) - 1))]) (fun _ => []) (fun x => x ≤ 16 ∧ a / B16 ^ x = b / B16 ^ x) (fun x => x) 16 ?_ ?_
    Unit (fun _ => [(7, tI (-1))]) (fun _ => []) (fun _ => a = b) 0 ?_ ?_
  · exact ⟨Nat.le_refl _, by rw [Nat.div_eq_of_lt ha, Nat.div_eq_of_lt hb]⟩
  · repeat' (refine And.intro ?_ ?_)
    all_goals try first | with_reducible rfl | exact trivial
    all_goals first | rfl | exact leVec (v := fun j => Int.ofNat (dg B16 j a)) (fun _ _ => rfl) (fun _ _ => rfl) | exact leVec (v := fun j => Int.ofNat (dg B16 j b)) (fun _ _ => rfl) (fun _ _ => rfl)
  · rintro q ⟨hq, hI⟩
    replace hq : q ≤ 16 := hq
    replace hI : a / B16 ^ q = b / B16 ^ q := hI
    conv => whnf
    refine brk (fun h3 => ?_) (fun h3 => ?_)
    · replace h3 : (!iltB ((q : Int) - 1) 0) = true := h3
      simp only [iltB_eq, Bool.not_eq_true', decide_eq_false_iff_not] at h3
      obtain ⟨p, rfl⟩ : ∃ p, q = p + 1 := ⟨q - 1, by omega⟩
      have hs := cmp_step hI
      have e : ((p + 1 : Nat) : Int) - 1 = (p : Int) := by omega
      refine ⟨by kernel_rfl, ?_⟩
      rw [e]
      conv => whnf
      refine oblT (bltT (by omega)) ?_
      conv => whnf
      refine oblT (bltT (by omega)) ?_
      conv => whnf
      refine oblT (bltT (by omega)) ?_
      conv => whnf
      refine oblT (bltT (by omega)) ?_
      conv => whnf
      refine brk (fun h4 => ?_) (fun h4 => ?_) <;> replace h4 : iltB (Int.ofNat (dg B16 (0 + p) a)) (Int.ofNat (dg B16 (0 + p) b)) = _ := h4 <;> simp only [iltB_eq, decide_eq_true_eq, decide_eq_false_iff_not, Nat.zero_add, Int.ofNat_eq_natCast, Int.ofNat_lt] at h4
      · have := hs.1 h4
        refine ⟨?_, trivial⟩
        unfold cmpN; rw [if_neg (by omega), if_pos this]
      · refine ⟨by kernel_rfl, ?_⟩
        conv => whnf
        refine oblT (bltT (by omega)) ?_
        conv => whnf
        refine oblT (bltT (by omega)) ?_
        conv => whnf
        refine oblT (bltT (by omega)) ?_
        conv => whnf
        refine oblT (bltT (by omega)) ?_
        conv => whnf
        refine brk (fun h5 => ?_) (fun h5 => ?_) <;> replace h5 : iltB (Int.ofNat (dg B16 (0 + p) b)) (Int.ofNat (dg B16 (0 + p) a)) = _ := h5 <;> simp only [iltB_eq, decide_eq_true_eq, decide_eq_false_iff_not, Nat.zero_add, Int.ofNat_eq_natCast, Int.ofNat_lt] at h5
        · have := hs.2.1 h5
          refine ⟨?_, trivial⟩
          unfold cmpN; rw [if_neg (by omega), if_neg (by omega)]
        · refine ⟨p, ⟨by omega, hs.2.2 (by omega)⟩, ?_, ?_⟩
          · repeat' (refine And.intro ?_ ?_)
            all_goals try first | with_reducible rfl | exact trivial
            · show IntKind.wrap .i64 ((p : Int) - 1) = (p : Int) - 1
              rw [wrapI _ (by omega)]
            all_goals first | exact leVec (v := fun j => Int.ofNat (dg B16 j a)) (fun _ _ => rfl) (fun _ _ => rfl) | exact leVec (v := fun j => Int.ofNat (dg B16 j b)) (fun _ _ => rfl) (fun _ _ => rfl)
          · show p < p + 1
            omega
    · replace h3 : (!iltB ((q : Int) - 1) 0) = false := h3
      simp only [iltB_eq, Bool.not_eq_false', decide_eq_true_eq] at h3
      have hq0 : q = 0 := by omega
      rw [hq0, Nat.pow_zero, Nat.div_one, Nat.div_one] at hI
      refine ⟨(), hI, ?_⟩
      repeat' (refine And.intro ?_ ?_)
      all_goals try first | with_reducible rfl | exact trivial
      · show (q : Int) - 1 = -1
        omega
      all_goals first | exact leVec (v := fun j => Int.ofNat (dg B16 j a)) (fun _ _ => rfl) (fun _ _ => rfl) | exact leVec (v := fun j => Int.ofNat (dg B16 j b)) (fun _ _ => rfl) (fun _ _ => rfl)
  · intro _ hab
    refine ⟨?_, trivial⟩
    unfold cmpN; rw [if_pos hab]
def refCmpK : Known Try.prog := kNN 147 (fun _ _ => True) (fun a b => tI (cmpN a b)) (fun a b _ => ref_Cmp a b)

theorem dg16_bit (a i : Nat) : dg B16 (i / 16) a / 2 ^ (i % 16) % 2 = a / 2 ^ i % 2 := by
  unfold dg
  have e : B16 ^ (i / 16) = 2 ^ (16 * (i / 16)) := by rw [Nat.pow_mul]; rfl
  have e2 : 2 ^ i = 2 ^ (16 * (i / 16)) * 2 ^ (i % 16) := by rw [← Nat.pow_add, Nat.div_add_mod]
  rw [e, e2, ← Nat.div_div_eq_div_mul]
  generalize a / 2 ^ (16 * (i / 16)) = x
  have hm := Nat.mod_lt i (show 0 < 16 by decide)
  generalize i % 16 = k at *
  have h3 : B16 = 2 ^ k * 2 ^ (16 - k) := by rw [← Nat.pow_add, show k + (16 - k) = 16 by omega]; rfl
  rw [h3, Nat.mod_mul_right_div_self, show 2 ^ (16 - k) = 2 * 2 ^ (15 - k) by rw [show 16 - k = (15 - k) + 1 by omega, Nat.pow_succ, Nat.mul_comm], Nat.mod_mul_right_mod]
set_option maxRecDepth 20000 in
theorem ref_Bit (a : Nat) (i : Int) : PureOk Try.prog 163 [aN a, aI i] (tU (bitI a i)) := by
  refine pure_of_ev (cxK [digitsK]) Try.func163 rfl (by kernel_rfl) (Nat.le_of_ble_eq_true rfl) ⟨trivial, rfl, trivial⟩ rfl fun hf w => ?_
  have ha := hf.1.1
  have hi := hasI.1 hf.2.1
  conv => whnf
  refine brk (fun h1 => ?_) (fun h1 => ?_) <;> simp only [iltB_eq, decide_eq_true_eq, decide_eq_false_iff_not] at h1
  · refine ⟨?_, trivial⟩
    unfold bitI; rw [if_pos h1]
  obtain ⟨n, rfl⟩ := Int.eq_ofNat_of_zero_le (Int.not_lt.1 h1)
  conv => whnf
  refine brk (fun h2 => ?_) (fun h2 => ?_) <;> replace h2 : iltB 255 (n : Int) = _ := h2 <;> simp only [iltB_eq, decide_eq_true_eq, decide_eq_false_iff_not] at h2
  · refine ⟨?_, trivial⟩
    unfold bitI; rw [if_neg h1, Nat.div_eq_of_lt]
    · rfl
    · rw [Int.toNat_natCast]
      exact Nat.lt_of_lt_of_le ha (Nat.le_trans (Nat.le_of_eq (show BW = 2 ^ 256 from rfl)) (Nat.pow_le_pow_right (show 0 < 2 by decide) (show 256 ≤ n by omega)))
  have e1 : IntKind.wrap .i64 ((n : Int).tdiv 16) = ((n / 16 : Nat) : Int) := by
    rw [Int.tdiv_eq_ediv_of_nonneg (Int.natCast_nonneg n), wrapI _ (by omega)]; omega
  have e2 : ((n : Int).tmod 16) = ((n % 16 : Nat) : Int) := by rw [Int.tmod_eq_emod_of_nonneg (Int.natCast_nonneg n)]; omega
  refine ⟨trivial, ?_⟩
  conv => whnf
  rw [e1]
  conv => whnf
  refine oblT (bltT (by omega)) ?_
  conv => whnf
  refine oblT (bltT (by omega)) ?_
  conv => whnf
  rw [e2]
  refine ⟨?_, trivial⟩
  rw [Nat.zero_add, shNs _ (by omega), bitI, if_neg h1, Int.toNat_natCast, ← dg16_bit, Int.fdiv_eq_ediv_of_nonneg _ (Int.le_of_lt (Int.pow_pos (by decide)))]
  have e : (Int.ofNat (dg B16 (n / 16) a)) / 2 ^ (n % 16) = ((dg B16 (n / 16) a / 2 ^ (n % 16) : Nat) : Int) := by simp
  rw [e, Int.tmod_eq_emod_of_nonneg (Int.natCast_nonneg _)]
  simp
def refBitK : Known Try.prog := kNI 163 (fun _ _ => True) (fun a i => tU (bitI a i)) (fun a i _ => ref_Bit a i)
end Go.Proofs.Ytacjiajijigebaa
