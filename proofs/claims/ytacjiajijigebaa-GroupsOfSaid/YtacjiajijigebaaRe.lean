/- What is known of the reference's products. No condition. -/
import Derived.Test.YtacjiajijigebaaRd
namespace Go.Proofs.Ytacjiajijigebaa
open Go Go.Ev
set_option linter.unusedSimpArgs false

def MJ (i X a Y k Z m : Nat) : Prop := Z + m * B16 ^ (i + k) = X + a * (Y % B16 ^ k) * B16 ^ i ∧ Z < B16 ^ (i + 16) ∧ m < B16
theorem MJ_step {i X k a b Z m : Nat} (hk : k < 16) (ha : a < B16) (h : MJ i X a b k Z m) : MJ i X a b (k + 1) (setD B16 (i + k) ((dg B16 (i + k) Z + a * dg B16 k b + m) % B16) Z) ((dg B16 (i + k) Z + a * dg B16 k b + m) / B16) := by
  have hB : 0 < B16 := by decide
  obtain ⟨h1, h2, h3⟩ := h
  refine ⟨?_, setD_lt hB (Nat.mod_lt _ hB) h2 (by omega), ?_⟩
  · have := mul_step (B := B16) i k Z a b m
    rw [show i + (k + 1) = i + k + 1 from rfl, this, h1, mod_succ, Nat.mul_add, Nat.add_mul, Nat.pow_add, Nat.add_assoc]
    congr 2
    rw [← Nat.mul_assoc]; ac_rfl
  · rw [Nat.div_lt_iff_lt_mul hB]
    have e1 := dg_lt hB (i + k) Z
    have e2 := Nat.mul_le_mul (show a ≤ B16 - 1 by omega) (show dg B16 k b ≤ B16 - 1 by have := dg_lt hB k b; omega)
    have e3 : (B16 - 1) * (B16 - 1) + (B16 - 1) + (B16 - 1) + 1 = B16 * B16 := by decide
    omega
theorem MJ_end {i X a b Z m : Nat} {Y : Nat} (hX : X = Y % B16 ^ i * b) (hb : b < B16 ^ 16) (ha : a = dg B16 i Y) (h : MJ i X a b 16 Z m) : setD B16 (i + 16) m Z = Y % B16 ^ (i + 1) * b := by
  have hB : 0 < B16 := by decide
  obtain ⟨h1, h2, h3⟩ := h
  have h4 := setD_eq B16 (i + 16) m Z
  rw [dg_high hB h2 (Nat.le_refl _), Nat.zero_mul, Nat.add_zero] at h4
  rw [h4, h1, Nat.mod_eq_of_lt hb, mod_succ, hX, ha, Nat.add_mul]
  ac_rfl
theorem mul_val {x y d m : Nat} (hx : x < 65536) (hy : y < 65536) (hd : d < 65536) (hm : m < 65536) :
    IntKind.wrap .u64 (IntKind.wrap .u64 (Int.ofNat d + IntKind.wrap .u64 (Int.ofNat x * Int.ofNat y)) + (m : Int)) = ((d + x * y + m : Nat) : Int) ∧ d + x * y + m < 18446744073709551616 := by
  have h := Nat.mul_le_mul (show x ≤ 65535 by omega) (show y ≤ 65535 by omega)
  simp only [Int.ofNat_eq_natCast]
  rw [wrapU, wrapU, wrapU, ← Int.natCast_mul]
  generalize x * y = p at *
  omega
theorem vec4 {m n : Nat} (X : Nat) : ∀ i, i < n → leCV m (vecX B16 X i) (vecX B16 X i) True := leVec (v := fun j => Int.ofNat (dg B16 j X)) (fun _ _ => rfl) (fun _ _ => rfl)
set_option maxHeartbeats 4000000 in
set_option maxRecDepth 20000 in
theorem ref_Mul (a b : Nat) : PureOk Try.prog 178 [aN a, aN b] (.tup [aN (mulLo a b), aN (mulHi a b)]) := by
  refine pure_of_ev (cxK [digitsK, ofDK]) Try.func178 rfl (by kernel_rfl) (Nat.le_of_ble_eq_true rfl) ⟨trivial, trivial, trivial⟩ ⟨trivial, trivial, trivial⟩ fun hf w => ?_
  have ha := hf.1.1; have hb := hf.2.1.1
  have hb16 := hb
  rw [bw16] at hb16
  refine ⟨trivial, trivial, ?_⟩
  conv => whnf
  refine LoopK.cut (Nat × Nat) (fun x => [(9, tI x.1)]) (fun x => [(6, [.vec 32 (vecX B16 x.2)])]) (fun x => x.1 ≤ 16 ∧ x.2 = a % B16 ^ x.1 * b) (fun x => 16 - x.1) (0, 0) ?_ ?_
    Unit (fun _ => [(9, tI 16)]) (fun _ => [(6, [.vec 32 (vecX B16 (a * b))])]) (fun _ => True) 0 ?_ ?_
  · exact ⟨by decide, by simp [Nat.mod_one]⟩
  · repeat' (refine And.intro ?_ ?_)
    all_goals try first | with_reducible rfl | exact trivial
    all_goals try first | with_reducible exact vec3 a | with_reducible exact vec3 b
    · rfl
    · exact leVec (v := fun _ => 0) (fun _ _ => rfl) (fun i _ => by show CV.int _ _ = _; rw [dg, Nat.zero_div, Nat.zero_mod]; rfl)
  · rintro ⟨i, X⟩ ⟨hi, hX⟩
    replace hi : i ≤ 16 := hi
    replace hX : X = a % B16 ^ i * b := hX
    have hXi : X < B16 ^ (i + 16) := by rw [hX]; exact mul_lt' (by decide) hb16
    conv => whnf
    refine brk (fun h1 => ?_) (fun h1 => ?_)
    · replace h1 : iltB (i : Int) 16 = true := h1
      simp only [iltB_eq, decide_eq_true_eq] at h1
      have h1 : i < 16 := by omega
      conv => whnf
      refine LoopK.cut (Nat × Nat × Nat) (fun x => [(11, tI x.1), (10, tU x.2.2)]) (fun x => [(6, [.vec 32 (vecX B16 x.2.1)])])
        (fun x => x.1 ≤ 16 ∧ MJ i X (dg B16 i a) b x.1 x.2.1 x.2.2) (fun x => 16 - x.1) (0, X, 0) ?_ ?_
        (Nat × Nat) (fun x => [(11, tI 16), (10, tU x.2)]) (fun x => [(6, [.vec 32 (vecX B16 x.1)])]) (fun x => MJ i X (dg B16 i a) b 16 x.1 x.2) 2 ?_ ?_
      · exact ⟨Nat.zero_le _, by simp [Nat.mod_one], hXi, (by decide : 0 < B16)⟩
      · repeat' (refine And.intro ?_ ?_)
        all_goals try first | with_reducible rfl | exact trivial
        all_goals try first | with_reducible exact vec3 a | with_reducible exact vec3 b
        · rfl
        · rfl
        · exact vec4 X
      · rintro ⟨k, Z, m⟩ ⟨hk, hI⟩
        replace hk : k ≤ 16 := hk
        replace hI : MJ i X (dg B16 i a) b k Z m := hI
        conv => whnf
        refine brk (fun h2 => ?_) (fun h2 => ?_)
        · replace h2 : iltB (k : Int) 16 = true := h2
          simp only [iltB_eq, decide_eq_true_eq] at h2
          have h2 : k < 16 := by omega
          have ek : IntKind.wrap .i64 ((i : Int) + (k : Int)) = ((i + k : Nat) : Int) := by rw [wrapI _ (by omega)]; omega
          refine ⟨by kernel_rfl, ?_⟩
          conv => whnf
          rw [ek]
          conv => whnf
          refine oblT (bltT (by omega)) ?_
          conv => whnf
          refine oblT (bltT (by omega)) ?_
          conv => whnf
          refine oblT (bltT (by omega)) ?_
          conv => whnf
          refine oblT (bltT (by omega)) ?_
          conv => whnf
          refine oblT (bltT (by omega)) ?_
          conv => whnf
          refine oblT (bltT (by omega)) ?_
          conv => whnf
          rw [ek]
          conv => whnf
          refine oblT (bltT (by omega)) ?_
          conv => whnf
          refine oblT (bltT (by omega)) ?_
          have hda := dg_lt (B := B16) (by decide) i a
          have hdb := dg_lt (B := B16) (by decide) k b
          have hdZ := dg_lt (B := B16) (by decide) (i + k) Z
          have hv := mul_val hda hdb hdZ hI.2.2
          have en : IntKind.wrap .u64 (IntKind.wrap .u64 (Int.ofNat (dg B16 (0 + (i + k)) Z) + IntKind.wrap .u64 (Int.ofNat (dg B16 (0 + i) a) * Int.ofNat (dg B16 (0 + k) b))) + (m : Int)) = ((dg B16 (i + k) Z + dg B16 i a * dg B16 k b + m : Nat) : Int) := by
            rw [Nat.zero_add, Nat.zero_add, Nat.zero_add]; exact hv.1
          refine ⟨(k + 1, setD B16 (i + k) ((dg B16 (i + k) Z + dg B16 i a * dg B16 k b + m) % B16) Z, (dg B16 (i + k) Z + dg B16 i a * dg B16 k b + m) / B16), ⟨h2, MJ_step h2 hda hI⟩, ?_, ?_⟩
          · repeat' (refine And.intro ?_ ?_)
            all_goals try first | with_reducible rfl | exact trivial
            all_goals try first | with_reducible exact vec3 a | with_reducible exact vec3 b
            · show IntKind.wrap .u64 (Int.tdiv (IntKind.wrap .u64 (IntKind.wrap .u64 (Int.ofNat (dg B16 (0 + (i + k)) Z) + IntKind.wrap .u64 (Int.ofNat (dg B16 (0 + i) a) * Int.ofNat (dg B16 (0 + k) b))) + (m : Int))) 65536) = _
              rw [en, quo16 _ hv.2]; rfl
            · exact incI k (by omega)
            · refine leVec (v := fun j => Int.ofNat (dg B16 j (setD B16 (i + k) ((dg B16 (i + k) Z + dg B16 i a * dg B16 k b + m) % B16) Z))) (fun j _ => ?_) (fun _ _ => rfl)
              refine Eq.trans ?_ (fupd_vecX (B := B16) (x := (((dg B16 (i + k) Z + dg B16 i a * dg B16 k b + m) % B16 : Nat) : Int)) (by decide) (Nat.mod_lt _ (by decide)) rfl)
              show fupd (vecX B16 Z) (0 + (i + k)) (.int .u64 (Int.tmod (IntKind.wrap .u64 (IntKind.wrap .u64 (Int.ofNat (dg B16 (0 + (i + k)) Z) + IntKind.wrap .u64 (Int.ofNat (dg B16 (0 + i) a) * Int.ofNat (dg B16 (0 + k) b))) + (m : Int))) 65536)) j = _
              rw [en, mod16, Nat.zero_add]; rfl
          · show 16 - (k + 1) < 16 - k
            omega
        · replace h2 : iltB (k : Int) 16 = false := h2
          simp only [iltB_eq, decide_eq_false_iff_not] at h2
          have hk4 : k = 16 := by omega
          rw [hk4] at hI
          refine ⟨(Z, m), hI, ?_⟩
          repeat' (refine And.intro ?_ ?_)
          all_goals try first | with_reducible rfl | exact trivial
          all_goals try first | with_reducible exact vec3 a | with_reducible exact vec3 b
          · show (k : Int) = 16
            omega
          · exact vec4 Z
      · rintro ⟨Z, m⟩ hI
        replace hI : MJ i X (dg B16 i a) b 16 Z m := hI
        conv => whnf
        have ek : IntKind.wrap .i64 ((i : Int) + 16) = ((i + 16 : Nat) : Int) := by rw [wrapI _ (by omega)]; omega
        rw [ek]
        conv => whnf
        refine oblT (bltT (by omega)) ?_
        conv => whnf
        refine oblT (bltT (by omega)) ?_
        conv => whnf
        refine ⟨(i + 1, a % B16 ^ (i + 1) * b), ⟨h1, rfl⟩, ?_, ?_⟩
        · repeat' (refine And.intro ?_ ?_)
          all_goals try first | with_reducible rfl | exact trivial
          all_goals try first | with_reducible exact vec3 a | with_reducible exact vec3 b
          · exact incI i (by omega)
          · refine leVec (v := fun j => Int.ofNat (dg B16 j (a % B16 ^ (i + 1) * b))) (fun j _ => ?_) (fun _ _ => rfl)
            rw [← MJ_end hX hb16 rfl hI]
            refine Eq.trans ?_ (fupd_vecX (B := B16) (v := m) (by decide) hI.2.2 rfl)
            show fupd (vecX B16 Z) (0 + (i + 16)) _ j = _
            rw [Nat.zero_add]
        · show 16 - (i + 1) < 16 - i
          omega
    · replace h1 : iltB (i : Int) 16 = false := h1
      simp only [iltB_eq, decide_eq_false_iff_not] at h1
      have hi4 : i = 16 := by omega
      rw [hi4, ← bw16, Nat.mod_eq_of_lt ha] at hX
      refine ⟨(), trivial, ?_⟩
      repeat' (refine And.intro ?_ ?_)
      all_goals try first | with_reducible rfl | exact trivial
      all_goals try first | with_reducible exact vec3 a | with_reducible exact vec3 b
      · show (i : Int) = 16
        omega
      · show ∀ j, j < 32 → leCV _ (vecX B16 X j) (vecX B16 (a * b) j) True
        rw [hX]; exact vec4 _
  · intro _ _
    have e1 : numF (vecX B16 (a * b)) 0 16 = mulLo a b := by rw [numF_vec, Nat.pow_zero, Nat.div_one, ← bw16]; rfl
    have e2 : numF (vecX B16 (a * b)) 16 16 = mulHi a b := by
      rw [numF_vec, ← bw16]
      exact Nat.mod_eq_of_lt (by rw [Nat.div_lt_iff_lt_mul (by decide)]; exact Nat.mul_lt_mul'' ha hb)
    refine ⟨by kernel_rfl, ⟨.inl rfl, by decide, by decide, digOk_vec _ _, vec_free _ _⟩, ⟨.inl rfl, by decide, by decide, digOk_vec _ _, vec_free _ _⟩, by kernel_rfl, e1, e2, trivial⟩
def refMulK : Known Try.prog := kNN 178 (fun _ _ => True) (fun a b => .tup [aN (mulLo a b), aN (mulHi a b)]) (fun a b _ => ref_Mul a b)
end Go.Proofs.Ytacjiajijigebaa
