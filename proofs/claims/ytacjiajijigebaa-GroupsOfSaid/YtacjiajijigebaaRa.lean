/- What is known of the reference's digits. No condition. -/
import Derived.Test.YtacjiajijigebaaMr
namespace Go.Proofs.Ytacjiajijigebaa
open Go Go.Ev
set_option linter.unusedSimpArgs false

def B16 : Nat := 65536
theorem b16_64 (j : Nat) : B64 ^ j = B16 ^ (4 * j) := by rw [Nat.pow_mul]; rfl
theorem bw16 : BW = B16 ^ 16 := by decide
theorem dg16_limb (a k : Nat) : limb (k / 4) a / 2 ^ (16 * (k % 4)) % 65536 = dg B16 k a := by
  unfold limb dg
  rw [b16_64]
  have hk : k = 4 * (k / 4) + k % 4 := (Nat.div_add_mod k 4).symm
  have hm : k % 4 < 4 := Nat.mod_lt _ (by decide)
  generalize k / 4 = j at *
  generalize k % 4 = t at *
  subst hk
  rw [Nat.pow_add, ← Nat.div_div_eq_div_mul]
  generalize a / B16 ^ (4 * j) = x
  have e1 : (2 : Nat) ^ (16 * t) = B16 ^ t := by rw [Nat.pow_mul]; rfl
  have e2 : B64 = B16 ^ t * B16 ^ (4 - t) := by rw [← Nat.pow_add, show t + (4 - t) = 4 by omega]; rfl
  rw [e1, e2, Nat.mod_mul_right_div_self]
  have e3 : B16 ^ (4 - t) = B16 * B16 ^ (3 - t) := by rw [← Nat.pow_succ', show (3 - t).succ = 4 - t by omega]
  rw [e3, show (65536 : Nat) = B16 from rfl, Nat.mod_mul_right_mod]
theorem setD_top {B : Nat} (hB : 0 < B) (a k : Nat) : setD B k (dg B k a) (a % B ^ k) = a % B ^ (k + 1) := by
  have h := setD_eq B k (dg B k a) (a % B ^ k)
  rw [dg_high hB (Nat.mod_lt _ (Nat.pow_pos hB)) (Nat.le_refl k), Nat.zero_mul, Nat.add_zero] at h
  rw [h, mod_succ]
theorem quo4 (k : Nat) (h : k < 4611686018427387904) : IntKind.wrap .i64 ((k : Int).tdiv 4) = ((k / 4 : Nat) : Int) := by
  rw [Int.tdiv_eq_ediv_of_nonneg (Int.natCast_nonneg k), wrapI _ (by omega)]; omega
theorem rem4 (k : Nat) : ((k : Int).tmod 4) = ((k % 4 : Nat) : Int) := by rw [Int.tmod_eq_emod_of_nonneg (Int.natCast_nonneg k)]; omega
theorem mul16 (k : Nat) (h : k < 4) : IntKind.wrap .i64 ((16 : Int) * (k : Int)) = ((16 * k : Nat) : Int) := by rw [wrapI _ (by omega)]; omega

theorem dig_val (a k : Nat) : ((Int.ofNat (limb (0 + k / 4) a)).fdiv (2 ^ shN .u64 ((16 * (k % 4) : Nat) : Int))).tmod 65536 = ((dg B16 k a : Nat) : Int) := by
  rw [Nat.zero_add, shNs _ (by omega), Int.fdiv_eq_ediv_of_nonneg _ (Int.le_of_lt (Int.pow_pos (by decide))), ← dg16_limb]
  have e : (Int.ofNat (limb (k / 4) a)) / 2 ^ (16 * (k % 4)) = ((limb (k / 4) a / 2 ^ (16 * (k % 4)) : Nat) : Int) := by simp
  rw [e, Int.tmod_eq_emod_of_nonneg (Int.natCast_nonneg _)]
  simp
set_option maxRecDepth 20000 in
theorem ref_Digits (a : Nat) : PureOk Try.prog 186 [aN a] (.b (.agg [.vec 16 (vecX B16 a)])) := by
  refine pure_of_ev (cxK []) Try.func186 rfl (by kernel_rfl) (Nat.le_of_ble_eq_true rfl) ⟨trivial, trivial⟩ ⟨fun _ _ => rfl, trivial⟩ fun hf w => ?_
  have ha := hf.1.1
  conv => whnf
  refine LoopK.cut Nat (fun x => [(4, tI x)]) (fun x => [(2, [.vec 16 (vecX B16 (a % B16 ^ x))])]) (fun x => x ≤ 16) (fun x => 16 - x) 0 ?_ ?_
    Unit (fun _ => [(4, tI 16)]) (fun _ => [(2, [.vec 16 (vecX B16 a)])]) (fun _ => True) 0 ?_ ?_
  · exact Nat.zero_le _
  · repeat' (refine And.intro ?_ ?_)
    all_goals try first | with_reducible rfl | exact trivial
    · rfl
    · exact leVec (v := fun _ => 0) (fun _ _ => rfl) (fun _ _ => rfl)
    · exact leVec (v := fun _ => 0) (fun _ _ => rfl) (fun i _ => by show vecX B16 (a % 1) _ = _; rw [Nat.mod_one, vecX, dg, Nat.zero_div, Nat.zero_mod]; rfl)
  · intro k hk
    replace hk : k ≤ 16 := hk
    conv => whnf
    refine brk (fun h3 => ?_) (fun h3 => ?_)
    · replace h3 : iltB (k : Int) 16 = true := h3
      simp only [iltB_eq, decide_eq_true_eq] at h3
      have h3 : k < 16 := by omega
      conv => whnf
      rw [quo4 k (by omega)]
      conv => whnf
      refine oblT (by rw [Nat.blt_eq]; omega) ?_
      conv => whnf
      refine oblT (by rw [Nat.zero_add, Nat.blt_eq]; omega) ?_
      conv => whnf
      rw [rem4, mul16 (k % 4) (by omega)]
      conv => whnf
      refine oblT (by rw [Nat.blt_eq]; exact h3) ?_
      conv => whnf
      refine oblT (by rw [Nat.zero_add, Nat.blt_eq]; exact h3) ?_
      refine ⟨k + 1, h3, ?_, ?_⟩
      · repeat' (refine And.intro ?_ ?_)
        all_goals try first | with_reducible rfl | exact trivial
        · show IntKind.wrap .i64 ((k : Int) + 1) = ((k + 1 : Nat) : Int)
          rw [wrapI _ (by omega)]; rfl
        · exact leVec (v := fun _ => 0) (fun _ _ => rfl) (fun _ _ => rfl)
        · refine leVec (v := fun j => Int.ofNat (dg B16 j (a % B16 ^ (k + 1)))) (fun j _ => ?_) (fun _ _ => rfl)
          rw [← setD_top (by decide) a k]
          refine Eq.trans ?_ (fupd_vecX (B := B16) (x := ((dg B16 k a : Nat) : Int)) (by decide) (dg_lt (by decide) k a) rfl)
          show fupd (vecX B16 (a % B16 ^ k)) (0 + k) (.int .u64 _) j = _
          rw [dig_val, Nat.zero_add]
      · show 16 - (k + 1) < 16 - k
        omega
    · replace h3 : iltB (k : Int) 16 = false := h3
      simp only [iltB_eq, decide_eq_false_iff_not] at h3
      have hk2 : k = 16 := by omega
      subst hk2
      refine ⟨(), trivial, ?_⟩
      repeat' (refine And.intro ?_ ?_)
      all_goals try first | with_reducible rfl | exact trivial
      · rfl
      · exact leVec (v := fun _ => 0) (fun _ _ => rfl) (fun _ _ => rfl)
      · refine leVec (v := fun j => Int.ofNat (dg B16 j a)) (fun j _ => ?_) (fun _ _ => rfl)
        show vecX B16 (a % B16 ^ 16) j = _
        rw [Nat.mod_eq_of_lt (by rw [← bw16]; exact ha)]; rfl
  · intro _ _
    refine ⟨rfl, leVec (v := fun j => Int.ofNat (dg B16 j a)) (fun _ _ => rfl) (fun _ _ => rfl), trivial⟩
def digitsK : Known Try.prog := kN 186 (fun _ => True) (fun a => .b (.agg [.vec 16 (vecX B16 a)])) (fun a _ => ref_Digits a)

/-! ### A number of digits -/
def cvNat : CV → Nat
  | .int _ n => n.toNat
  | _ => 0
/-- The number of k digits from place i on. -/
def numF (f : Nat → CV) (i : Nat) : Nat → Nat
  | 0 => 0
  | k + 1 => numF f i k + cvNat (f (i + k)) * B16 ^ k
def digOk (f : Nat → CV) (i : Nat) : Prop := ∀ j, j < 16 → ∃ v : Nat, v < 65536 ∧ f (i + j) = .int .u64 (v : Int)
theorem numF_lt {f : Nat → CV} {i : Nat} (h : digOk f i) : ∀ k, k ≤ 16 → numF f i k < B16 ^ k
  | 0, _ => by simp [numF]
  | k + 1, hk => by
    obtain ⟨v, hv, e⟩ := h k (by omega)
    have h1 := numF_lt h k (by omega)
    simp only [numF, e, cvNat, Int.toNat_natCast]
    have h2 := Nat.mul_le_mul_right (B16 ^ k) (show v + 1 ≤ B16 from hv)
    rw [Nat.add_mul, Nat.one_mul] at h2
    rw [Nat.pow_succ, Nat.mul_comm (B16 ^ k)]
    omega
theorem numF_vec (X i : Nat) : ∀ k, numF (vecX B16 X) i k = X / B16 ^ i % B16 ^ k
  | 0 => by simp [numF, Nat.mod_one]
  | k + 1 => by
    rw [numF, numF_vec X i k, mod_succ]
    congr 2
    show (Int.ofNat (dg B16 (i + k) X)).toNat = dg B16 k (X / B16 ^ i)
    rw [dg_div]; rfl
theorem digOk_vec (X i : Nat) : digOk (vecX B16 X) i := fun j _ => ⟨dg B16 (i + j) X, dg_lt (by decide) _ _, rfl⟩
theorem of_step {k X d : Nat} (hk : k < 16) (hX : X < B16 ^ k) (hd : d < 65536) :
    setl (0 + k / 4) (IntKind.wrap .u64 (Int.ofNat (limb (0 + k / 4) X) + IntKind.wrap .u64 ((d : Int) * 2 ^ shN .u64 ((16 * (k % 4) : Nat) : Int)))).toNat X = X + d * B16 ^ k := by
  rw [Nat.zero_add, shNs _ (by omega)]
  have hj : k / 4 < 4 := by omega
  have hkk : k = 4 * (k / 4) + k % 4 := (Nat.div_add_mod k 4).symm
  have ht : k % 4 < 4 := Nat.mod_lt _ (by decide)
  generalize k / 4 = j at *
  generalize k % 4 = t at *
  subst hkk
  have e1 : (2 : Int) ^ (16 * t) = ((B16 ^ t : Nat) : Int) := by
    rw [show B16 ^ t = 2 ^ (16 * t) by rw [Nat.pow_mul]; rfl]; simp
  rw [e1]
  have hB : B64 ^ j = B16 ^ (4 * j) := b16_64 j
  have hl : limb j X < B16 ^ t := by
    unfold limb
    refine Nat.lt_of_le_of_lt (Nat.mod_le _ _) ?_
    rw [hB, Nat.div_lt_iff_lt_mul (Nat.pow_pos (by decide)), Nat.mul_comm, ← Nat.pow_add]; exact hX
  have hdt : d * B16 ^ t + B16 ^ t ≤ B16 ^ (t + 1) := by
    rw [Nat.pow_succ, Nat.mul_comm (B16 ^ t)]
    have := Nat.mul_le_mul_right (B16 ^ t) (show d + 1 ≤ B16 from hd)
    rw [Nat.add_mul, Nat.one_mul] at this; exact this
  have h4 : B16 ^ (t + 1) ≤ 18446744073709551616 := Nat.pow_le_pow_right (n := B16) (by decide) (show t + 1 ≤ 4 by omega)
  have ew : IntKind.wrap .u64 (Int.ofNat (limb j X) + IntKind.wrap .u64 ((d : Int) * ((B16 ^ t : Nat) : Int))) = ((limb j X + d * B16 ^ t : Nat) : Int) := by
    rw [← Int.natCast_mul, wrapU, wrapU, Int.ofNat_eq_natCast]
    omega
  rw [ew, Int.toNat_natCast]
  have hXB : X < BW := by rw [bw16]; exact Nat.lt_of_lt_of_le hX (Nat.pow_le_pow_right (by decide) (by omega))
  rw [setl_setD hj hXB (show limb j X + d * B16 ^ t < B64 by unfold B64; omega)]
  have h5 := setD_eq B64 j (limb j X + d * B16 ^ t) X
  rw [limb_dg, Nat.add_mul] at h5
  rw [limb_dg]
  have e6 : d * B16 ^ t * B64 ^ j = d * B16 ^ (4 * j + t) := by rw [hB, Nat.mul_assoc, ← Nat.pow_add, Nat.add_comm t]
  omega
theorem cv_slice {g : GM} {vs : List Value} {xs : List AB} (i : Nat) {o j n c : Nat} (hv : absRel g xs vs) (hn : n ≠ 0) (hi : xs[i]? = some (.cv (.sl 0 o j n c))) : ∃ b, g 0 = some b := by
  obtain ⟨v, _, hh⟩ := absRel_get _ _ i _ hv hi
  rcases hh with ⟨h0, _⟩ | ⟨_, _, _, _, b, hb, _⟩
  · exact absurd h0 hn
  · exact ⟨b, hb⟩
end Go.Proofs.Ytacjiajijigebaa
