/- What is known of long numbers: products. No condition. -/
import Derived.Test.YtacjiajijigebaaLj
import Derived.Test.YtacjiajijigebaaDg
namespace Go.Proofs.Ytacjiajijigebaa
open Go Go.Ev
set_option linter.unusedSimpArgs false

def timesU (a b s m : Int) : AV := .tup [aU ((a * b + s + m) % 18446744073709551616), aU ((a * b + s + m) / 18446744073709551616)]
set_option maxRecDepth 20000 in
theorem limbs_times (a b s m : Int) : PureOk Try.prog 126 [aU a, aU b, aU s, aU m] (timesU a b s m) := by
  refine pure_of_ev (cxK [mul64K, add64K]) Try.func126 rfl (by kernel_rfl) (Nat.le_of_ble_eq_true rfl) ⟨rfl, rfl, rfl, rfl, trivial⟩ ⟨rfl, rfl, trivial⟩ fun hf w => ?_
  obtain ⟨h1, h2, h3, h4, _⟩ := hf
  have h1 := hasU.1 h1; have h2 := hasU.1 h2; have h3 := hasU.1 h3; have h4 := hasU.1 h4
  have e1 := Int.mul_nonneg h1.1 h2.1
  have e2 := Int.mul_le_mul (show a ≤ 18446744073709551615 by omega) (show b ≤ 18446744073709551615 by omega) h2.1 (by decide)
  refine ⟨trivial, ⟨Int.le_refl _, by decide⟩, ⟨Int.le_refl _, by decide⟩, ?_, ?_, trivial⟩
  · generalize a * b = p at *
    omega
  · generalize a * b = p at *
    simp only [wrapU]
    omega
def timesK : Known Try.prog := kUUUU 126 (fun _ _ _ _ => True) timesU (fun a b s m _ => limbs_times a b s m)

def mulLo (a b : Nat) : Nat := a * b % BW
def mulHi (a b : Nat) : Nat := a * b / BW
theorem dg_mod {B X n j : Nat} (hj : j < n) : dg B j (X % B ^ n) = dg B j X := by
  unfold dg
  have e : B ^ n = B ^ j * (B * B ^ (n - (j + 1))) := by rw [← Nat.pow_succ', ← Nat.pow_add]; congr 1; omega
  rw [e, Nat.mod_mul_right_div_self, Nat.mod_mul_right_mod]
theorem dg_div {B X n j : Nat} : dg B j (X / B ^ n) = dg B (n + j) X := by
  unfold dg
  rw [Nat.div_div_eq_div_mul, ← Nat.pow_add]
theorem mul_lt' {B a b i n : Nat} (hB : 0 < B) (hb : b < B ^ n) : a % B ^ i * b < B ^ (i + n) := by
  have h1 := Nat.mod_lt a (show 0 < B ^ i from Nat.pow_pos hB)
  rw [Nat.pow_add]
  exact Nat.mul_lt_mul'' h1 hb
/-- What stays in the inner rounds of a product. -/
def MI (B i X a Y k Z m : Nat) : Prop := Z + m * B ^ (i + k) = X + a * (Y % B ^ k) * B ^ i ∧ Z < B ^ (i + 4) ∧ m < B
theorem MI_step {B i X k a b Z m : Nat} (hB : 0 < B) (hk : k < 4) (ha : a < B) (h : MI B i X a b k Z m) : MI B i X a b (k + 1) (setD B (i + k) ((dg B (i + k) Z + a * dg B k b + m) % B) Z) ((dg B (i + k) Z + a * dg B k b + m) / B) := by
  obtain ⟨h1, h2, h3⟩ := h
  refine ⟨?_, setD_lt hB (Nat.mod_lt _ hB) h2 (by omega), ?_⟩
  · have := mul_step (B := B) i k Z a b m
    rw [show i + (k + 1) = i + k + 1 from rfl, this, h1, mod_succ, Nat.mul_add, Nat.add_mul, Nat.pow_add, Nat.add_assoc]
    congr 2
    rw [← Nat.mul_assoc]; ac_rfl
  · rw [Nat.div_lt_iff_lt_mul hB]
    have e1 := dg_lt hB (i + k) Z
    have e2 := Nat.mul_le_mul (show a ≤ B - 1 by omega) (show dg B k b ≤ B - 1 by have := dg_lt hB k b; omega)
    have e3 : (B - 1) * (B - 1) + (B - 1) + (B - 1) + 1 = B * B := by
      obtain ⟨c, rfl⟩ : ∃ c, B = c + 1 := ⟨B - 1, by omega⟩
      simp only [Nat.add_sub_cancel, Nat.add_mul, Nat.mul_add]; omega
    omega
theorem MI_end {B i X a b Z m : Nat} {Y : Nat} (hB : 0 < B) (hX : X = Y % B ^ i * b) (hb : b < B ^ 4) (ha : a = dg B i Y) (h : MI B i X a b 4 Z m) : setD B (i + 4) m Z = Y % B ^ (i + 1) * b := by
  obtain ⟨h1, h2, h3⟩ := h
  have h4 := setD_eq B (i + 4) m Z
  rw [dg_high hB h2 (Nat.le_refl _), Nat.zero_mul, Nat.add_zero] at h4
  rw [h4, h1, Nat.mod_eq_of_lt hb, mod_succ, hX, ha, Nat.add_mul]
  ac_rfl
set_option maxHeartbeats 8000000 in
set_option maxRecDepth 20000 in
theorem limbs_Mul (a b : Nat) : PureOk Try.prog 68 [aN a, aN b] (.tup [aN (mulLo a b), aN (mulHi a b)]) := by
  refine pure_of_ev (cxK [timesK]) Try.func68 rfl (by kernel_rfl) (Nat.le_of_ble_eq_true rfl) ⟨trivial, trivial, trivial⟩ ⟨trivial, trivial, trivial⟩ fun hf w => ?_
  have ha := hf.1.1; have hb := hf.2.1.1
  conv => whnf
  refine LoopK.cut (Nat × Nat) (fun x => [(13, tI x.1)]) (fun x => [(4, [.vec 8 (vecX B64 x.2)])]) (fun x => x.1 ≤ 4 ∧ x.2 = a % B64 ^ x.1 * b) (fun x => 4 - x.1) (0, 0) ?_ ?_
    Unit (fun _ => []) (fun _ => [(4, [.vec 8 (vecX B64 (a * b))])]) (fun _ => True) 0 ?_ ?_
  · exact ⟨by decide, by simp [Nat.mod_one]⟩
  · repeat' (refine And.intro ?_ ?_)
    all_goals try first | with_reducible rfl | exact trivial
    · rfl
    · exact leVec (v := fun _ => 0) (fun _ _ => rfl) (fun i _ => by show CV.int _ _ = _; rw [dg, Nat.zero_div, Nat.zero_mod]; rfl)
  · rintro ⟨i, X⟩ ⟨hi, hX⟩
    replace hi : i ≤ 4 := hi
    replace hX : X = a % B64 ^ i * b := hX
    have hXi : X < B64 ^ (i + 4) := by rw [hX]; exact mul_lt' (by decide) hb
    conv => whnf
    refine brk (fun h1 => ?_) (fun h1 => ?_)
    · replace h1 : i < 4 := by rw [← Nat.blt_eq]; exact h1
      conv => whnf
      refine oblT (by rw [Nat.blt_eq]; exact h1) ?_
      conv => whnf
      refine oblT (by rw [Nat.blt_eq]; exact h1) ?_
      conv => whnf
      refine LoopK.cut (Nat × Nat × Nat) (fun x => [(18, tI x.1), (9, tU x.2.2)]) (fun x => [(4, [.vec 8 (vecX B64 x.2.1)])])
        (fun x => x.1 ≤ 4 ∧ MI B64 i X (limb i a) b x.1 x.2.1 x.2.2) (fun x => 4 - x.1) (0, X, 0) ?_ ?_
        (Nat × Nat) (fun x => [(9, tU x.2)]) (fun x => [(4, [.vec 8 (vecX B64 x.1)])]) (fun x => MI B64 i X (limb i a) b 4 x.1 x.2) 2 ?_ ?_
      · exact ⟨Nat.zero_le _, by simp [Nat.mod_one], hXi, (by decide : 0 < B64)⟩
      · repeat' (refine And.intro ?_ ?_)
        all_goals try first | with_reducible rfl | exact trivial
        · rfl
        · rfl
        · exact leVec (v := fun j => Int.ofNat (dg B64 j X)) (fun _ _ => rfl) (fun _ _ => rfl)
      · rintro ⟨k, Z, m⟩ ⟨hk, hI⟩
        replace hk : k ≤ 4 := hk
        replace hI : MI B64 i X (limb i a) b k Z m := hI
        conv => whnf
        refine brk (fun h2 => ?_) (fun h2 => ?_)
        · replace h2 : k < 4 := by rw [← Nat.blt_eq]; exact h2
          conv => whnf
          refine oblT (by rw [Nat.blt_eq]; exact h2) ?_
          conv => whnf
          refine oblT (by rw [Nat.blt_eq]; exact h2) ?_
          conv => whnf
          have ek : IntKind.wrap .i64 ((i : Int) + (k : Int)) = ((i + k : Nat) : Int) := by rw [wrapI _ (by omega)]; omega
          rw [ek]
          conv => whnf
          refine oblT (by rw [Nat.blt_eq]; omega) ?_
          conv => whnf
          refine oblT (by rw [Nat.blt_eq]; omega) ?_
          refine ⟨trivial, ?_⟩
          conv => whnf
          refine oblT (by rw [Nat.blt_eq]; omega) ?_
          conv => whnf
          refine oblT (by rw [Nat.blt_eq]; omega) ?_
          conv => whnf
          refine ⟨(k + 1, setD B64 (i + k) ((dg B64 (i + k) Z + limb i a * dg B64 k b + m) % B64) Z, (dg B64 (i + k) Z + limb i a * dg B64 k b + m) / B64), ⟨h2, ?_⟩, ?_, ?_⟩
          · exact MI_step (by decide) h2 (limb_lt i a) hI
          · have ec : ∀ q, q = i + k → Int.ofNat (limb i a) * Int.ofNat (limb k b) + Int.ofNat (dg B64 q Z) + (m : Int) = ((dg B64 (i + k) Z + limb i a * dg B64 k b + m : Nat) : Int) := by
              intro q hq; subst hq
              simp only [Int.ofNat_eq_natCast, limb_dg, Int.natCast_add, Int.natCast_mul]; omega
            repeat' (refine And.intro ?_ ?_)
            all_goals try first | with_reducible rfl | exact trivial
            · show (Int.ofNat (limb i a) * Int.ofNat (limb k b) + Int.ofNat (dg B64 (0 + (i + k)) Z) + (m : Int)) / 18446744073709551616 = _
              rw [ec _ (by omega)]; rfl
            · show IntKind.wrap .i64 ((k : Int) + 1) = ((k + 1 : Nat) : Int)
              rw [wrapI _ (by omega)]; rfl
            · refine leVec (v := fun j => Int.ofNat (dg B64 j (setD B64 (i + k) ((dg B64 (i + k) Z + limb i a * dg B64 k b + m) % B64) Z))) (fun j _ => ?_) (fun _ _ => rfl)
              have hz : (0 + (i + k)) = i + k := by omega
              refine Eq.trans ?_ (fupd_vecX (v := (dg B64 (i + k) Z + limb i a * dg B64 k b + m) % B64) (by decide) (Nat.mod_lt _ (by decide)) rfl)
              show fupd (vecX B64 Z) (0 + (i + k)) (.int .u64 ((Int.ofNat (limb i a) * Int.ofNat (limb k b) + Int.ofNat (dg B64 (0 + (i + k)) Z) + (m : Int)) % 18446744073709551616)) j = _
              rw [ec _ (by omega), hz]; rfl
          · show 4 - (k + 1) < 4 - k
            omega
        · simp only [iltB_eq, decide_eq_false_iff_not] at h2
          have hk4 : k = 4 := by omega
          subst hk4
          refine ⟨(Z, m), hI, ?_⟩
          repeat' (refine And.intro ?_ ?_)
          all_goals try first | with_reducible rfl | exact trivial
          exact leVec (v := fun j => Int.ofNat (dg B64 j Z)) (fun _ _ => rfl) (fun _ _ => rfl)
      · rintro ⟨Z, m⟩ hI
        replace hI : MI B64 i X (limb i a) b 4 Z m := hI
        conv => whnf
        have ek : IntKind.wrap .i64 ((i : Int) + 4) = ((i + 4 : Nat) : Int) := by rw [wrapI _ (by omega)]; omega
        rw [ek]
        conv => whnf
        refine oblT (by rw [Nat.blt_eq]; omega) ?_
        conv => whnf
        refine oblT (by rw [Nat.blt_eq]; omega) ?_
        conv => whnf
        refine ⟨(i + 1, a % B64 ^ (i + 1) * b), ⟨h1, rfl⟩, ?_, ?_⟩
        · repeat' (refine And.intro ?_ ?_)
          all_goals try first | with_reducible rfl | exact trivial
          · show IntKind.wrap .i64 ((i : Int) + 1) = ((i + 1 : Nat) : Int)
            rw [wrapI _ (by omega)]; rfl
          · refine leVec (v := fun j => Int.ofNat (dg B64 j (a % B64 ^ (i + 1) * b))) (fun j _ => ?_) (fun _ _ => rfl)
            have hz : (0 + (i + 4)) = i + 4 := by omega
            have hm := hI.2.2
            rw [← MI_end (by decide) hX hb (limb_dg i a) hI]
            refine Eq.trans ?_ (fupd_vecX (v := m) (by decide) hm rfl)
            show fupd (vecX B64 Z) (0 + (i + 4)) _ j = _
            rw [hz]
        · show 4 - (i + 1) < 4 - i
          omega
    · simp only [iltB_eq, decide_eq_false_iff_not] at h1
      have hi4 : i = 4 := by omega
      subst hi4
      refine ⟨(), trivial, ?_⟩
      repeat' (refine And.intro ?_ ?_)
      all_goals try first | with_reducible rfl | exact trivial
      refine leVec (v := fun j => Int.ofNat (dg B64 j (a * b))) (fun j _ => ?_) (fun _ _ => rfl)
      show vecX B64 X j = _
      rw [hX, Nat.mod_eq_of_lt (show a < B64 ^ 4 from ha)]; rfl
  · intro _ _
    refine ⟨by kernel_rfl, ?_⟩
    conv => whnf
    refine ⟨_, _, _, exec_load_num (n := 8) (f := vecX B64 (a * b)) (r := []) (Y := mulLo a b) rfl (tyT_ok 26) rfl rfl rfl rfl (by decide) (Nat.mod_lt _ (by decide)) (fun j hj => ?_), ?_⟩
    · rw [Nat.zero_add, vecX, limb_dg, mulLo]
      exact congrArg (fun z => CV.int .u64 (Int.ofNat z)) (dg_mod (n := 4) hj).symm
    conv => whnf
    refine ⟨_, _, _, exec_load_num (n := 8) (f := vecX B64 (a * b)) (r := []) (Y := mulHi a b) rfl (tyT_ok 26) rfl rfl rfl rfl (by decide) ?_ (fun j hj => ?_), ?_⟩
    · unfold mulHi
      rw [Nat.div_lt_iff_lt_mul (by decide)]
      exact Nat.mul_lt_mul'' ha hb
    · rw [vecX, limb_dg, mulHi]
      exact congrArg (fun z => CV.int .u64 (Int.ofNat z)) (dg_div (n := 4)).symm
    exact ⟨by kernel_rfl, rfl, rfl, trivial⟩
def limbsMulK : Known Try.prog := kNN 68 (fun _ _ => True) (fun a b => .tup [aN (mulLo a b), aN (mulHi a b)]) (fun a b _ => limbs_Mul a b)
end Go.Proofs.Ytacjiajijigebaa
