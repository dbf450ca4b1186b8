/- What is known of the reference's sums and differences. No condition. -/
import Derived.Test.YtacjiajijigebaaRc
namespace Go.Proofs.Ytacjiajijigebaa
open Go Go.Ev
set_option linter.unusedSimpArgs false

theorem numF_all (Z : Nat) (h : Z < BW) : numF (vecX B16 Z) 0 16 = Z := by
  rw [numF_vec, Nat.pow_zero, Nat.div_one, ← bw16, Nat.mod_eq_of_lt h]
theorem vec_free (X N : Nat) : ∀ j, j < N → ∃ (k : IntKind) (v : Int), vecX B16 X j = .int k v := fun _ _ => ⟨.u64, _, rfl⟩
theorem mod16 (x : Nat) : ((x : Int)).tmod 65536 = ((x % 65536 : Nat) : Int) := by
  rw [Int.tmod_eq_emod_of_nonneg (Int.natCast_nonneg _)]; omega
theorem quo16 (x : Nat) (h : x < 18446744073709551616) : IntKind.wrap .u64 ((x : Int).tdiv 65536) = ((x / 65536 : Nat) : Int) := by
  rw [Int.tdiv_eq_ediv_of_nonneg (Int.natCast_nonneg _), wrapU]; omega
theorem incI (k : Nat) (h : k < 1000) : IntKind.wrap .i64 ((k : Int) + 1) = ((k + 1 : Nat) : Int) := by
  rw [wrapI _ (by omega)]; rfl
theorem addN_lt' (a b : Nat) : addN a b < BW := Nat.mod_lt _ (by decide)
theorem subN_lt (a b : Nat) : subN a b < BW := Nat.mod_lt _ (by decide)
theorem vec3 {m : Nat} (X : Nat) : ∀ i, i < 16 → leCV m (vecX B16 X i) (vecX B16 X i) True := leVec (v := fun j => Int.ofNat (dg B16 j X)) (fun _ _ => rfl) (fun _ _ => rfl)
theorem sum_val {x y c : Nat} (hx : x < 65536) (hy : y < 65536) (hc : c ≤ 1) : IntKind.wrap .u64 (IntKind.wrap .u64 (Int.ofNat x + Int.ofNat y) + (c : Int)) = ((x + y + c : Nat) : Int) ∧ x + y + c < 18446744073709551616 := by
  rw [wrapU, wrapU]
  simp only [Int.ofNat_eq_natCast]
  omega
theorem dif_val {x y c : Nat} (hx : x < 65536) (hy : y < 65536) (hc : c ≤ 1) : IntKind.wrap .u64 (IntKind.wrap .u64 (IntKind.wrap .u64 (Int.ofNat x + 65536) - Int.ofNat y) - (c : Int)) = ((x + 65536 - y - c : Nat) : Int) ∧ x + 65536 - y - c < 18446744073709551616 := by
  rw [wrapU, wrapU, wrapU]
  simp only [Int.ofNat_eq_natCast]
  omega
set_option maxRecDepth 20000 in
theorem ref_Add (a b : Nat) : PureOk Try.prog 188 [aN a, aN b] (.tup [aN (addN a b), aU (moreN a b)]) := by
  refine pure_of_ev (cxK [digitsK, ofDK]) Try.func188 rfl (by kernel_rfl) (Nat.le_of_ble_eq_true rfl) ⟨trivial, trivial, trivial⟩ ⟨trivial, rfl, trivial⟩ fun hf w => ?_
  have ha := hf.1.1; have hb := hf.2.1.1
  refine ⟨trivial, trivial, ?_⟩
  conv => whnf
  refine LoopK.cut (Nat × Nat × Nat) (fun x => [(9, tI x.1), (8, tU x.2.2)]) (fun x => [(3, [.vec 16 (vecX B16 x.2.1)])]) (fun x => x.1 ≤ 16 ∧ SumI a b x.1 x.2.1 x.2.2) (fun x => 16 - x.1) (0, a, 0) ?_ ?_
    Unit (fun _ => [(9, tI 16), (8, tU (moreN a b))]) (fun _ => [(3, [.vec 16 (vecX B16 (addN a b))])]) (fun _ => True) 0 ?_ ?_
  · exact ⟨Nat.zero_le _, SumI.start a b⟩
  · repeat' (refine And.intro ?_ ?_)
    all_goals try first | with_reducible rfl | exact trivial
    all_goals first | with_reducible exact vec3 a | with_reducible exact vec3 b | rfl
  · rintro ⟨k, Z, c⟩ ⟨hk, hI⟩
    replace hk : k ≤ 16 := hk
    replace hI : SumI a b k Z c := hI
    conv => whnf
    refine brk (fun h3 => ?_) (fun h3 => ?_)
    · replace h3 : iltB (k : Int) 16 = true := h3
      simp only [iltB_eq, decide_eq_true_eq] at h3
      have h3 : k < 16 := by omega
      refine ⟨by kernel_rfl, ?_⟩
      conv => whnf
      refine oblT (bltT (by omega)) ?_
      conv => whnf
      refine oblT (bltT (by omega)) ?_
      conv => whnf
      refine oblT (bltT (by omega)) ?_
      conv => whnf
      refine oblT (bltT (by omega)) ?_
      conv => whnf
      refine oblT (bltT (by omega)) ?_
      conv => whnf
      refine oblT (bltT (by omega)) ?_
      have hda := dg_lt (B := B16) (by decide) k a
      have hdb := dg_lt (B := B16) (by decide) k b
      have hc := hI.c1
      have hv := sum_val hda hdb hc
      have en : IntKind.wrap .u64 (IntKind.wrap .u64 (Int.ofNat (dg B16 (0 + k) Z) + Int.ofNat (dg B16 (0 + k) b)) + (c : Int)) = ((dg B16 k a + dg B16 k b + c : Nat) : Int) := by
        rw [Nat.zero_add, hI.dig]; exact hv.1
      have hlt := hv.2
      refine ⟨(k + 1, setD B16 k ((dg B16 k a + dg B16 k b + c) % B16) Z, (dg B16 k a + dg B16 k b + c) / B16), ⟨h3, hI.step⟩, ?_, ?_⟩
      · repeat' (refine And.intro ?_ ?_)
        all_goals try first | with_reducible rfl | exact trivial
        all_goals try first | with_reducible exact vec3 a | with_reducible exact vec3 b
        · show IntKind.wrap .u64 (Int.tdiv (IntKind.wrap .u64 (IntKind.wrap .u64 (Int.ofNat (dg B16 (0 + k) Z) + Int.ofNat (dg B16 (0 + k) b)) + (c : Int))) 65536) = _
          rw [en, quo16 _ hlt]; rfl
        · exact incI k (by omega)
        · refine leVec (v := fun j => Int.ofNat (dg B16 j (setD B16 k ((dg B16 k a + dg B16 k b + c) % B16) Z))) (fun j _ => ?_) (fun _ _ => rfl)
          refine Eq.trans ?_ (fupd_vecX (B := B16) (x := (((dg B16 k a + dg B16 k b + c) % B16 : Nat) : Int)) (by decide) (Nat.mod_lt _ (by decide)) rfl)
          show fupd (vecX B16 Z) (0 + k) (.int .u64 (Int.tmod (IntKind.wrap .u64 (IntKind.wrap .u64 (Int.ofNat (dg B16 (0 + k) Z) + Int.ofNat (dg B16 (0 + k) b)) + (c : Int))) 65536)) j = _
          rw [en, mod16, Nat.zero_add]; rfl
      · show 16 - (k + 1) < 16 - k
        omega
    · replace h3 : iltB (k : Int) 16 = false := h3
      simp only [iltB_eq, decide_eq_false_iff_not] at h3
      have hk2 : k = 16 := by omega
      rw [hk2] at hI
      obtain ⟨d1, d2⟩ := hI.done ha hb
      refine ⟨(), trivial, ?_⟩
      repeat' (refine And.intro ?_ ?_)
      all_goals try first | with_reducible rfl | exact trivial
      all_goals try first | with_reducible exact vec3 a | with_reducible exact vec3 b
      · exact d2
      · show (k : Int) = 16
        omega
      · show ∀ i, i < 16 → leCV _ (vecX B16 Z i) (vecX B16 (addN a b) i) True
        rw [d1]; exact vec3 _
  · intro _ _
    exact ⟨⟨.inl rfl, by decide, by decide, digOk_vec _ _, vec_free _ _⟩, numF_all _ (addN_lt' a b), rfl, trivial⟩
def refAddK : Known Try.prog := kNN 188 (fun _ _ => True) (fun a b => .tup [aN (addN a b), aU (moreN a b)]) (fun a b _ => ref_Add a b)
set_option maxRecDepth 20000 in
theorem ref_Sub (a b : Nat) : PureOk Try.prog 150 [aN a, aN b] (.tup [aN (subN a b), aU (lessN a b)]) := by
  refine pure_of_ev (cxK [digitsK, ofDK]) Try.func150 rfl (by kernel_rfl) (Nat.le_of_ble_eq_true rfl) ⟨trivial, trivial, trivial⟩ ⟨trivial, rfl, trivial⟩ fun hf w => ?_
  have ha := hf.1.1; have hb := hf.2.1.1
  refine ⟨trivial, trivial, ?_⟩
  conv => whnf
  refine LoopK.cut (Nat × Nat × Nat) (fun x => [(9, tI x.1), (8, tU x.2.2)]) (fun x => [(3, [.vec 16 (vecX B16 x.2.1)])]) (fun x => x.1 ≤ 16 ∧ DifI a b x.1 x.2.1 x.2.2) (fun x => 16 - x.1) (0, a, 0) ?_ ?_
    Unit (fun _ => [(9, tI 16), (8, tU (lessN a b))]) (fun _ => [(3, [.vec 16 (vecX B16 (subN a b))])]) (fun _ => True) 0 ?_ ?_
  · exact ⟨Nat.zero_le _, DifI.start a b⟩
  · repeat' (refine And.intro ?_ ?_)
    all_goals try first | with_reducible rfl | exact trivial
    all_goals first | with_reducible exact vec3 a | with_reducible exact vec3 b | rfl
  · rintro ⟨k, Z, c⟩ ⟨hk, hI⟩
    replace hk : k ≤ 16 := hk
    replace hI : DifI a b k Z c := hI
    conv => whnf
    refine brk (fun h3 => ?_) (fun h3 => ?_)
    · replace h3 : iltB (k : Int) 16 = true := h3
      simp only [iltB_eq, decide_eq_true_eq] at h3
      have h3 : k < 16 := by omega
      refine ⟨by kernel_rfl, ?_⟩
      conv => whnf
      refine oblT (bltT (by omega)) ?_
      conv => whnf
      refine oblT (bltT (by omega)) ?_
      conv => whnf
      refine oblT (bltT (by omega)) ?_
      conv => whnf
      refine oblT (bltT (by omega)) ?_
      conv => whnf
      refine oblT (bltT (by omega)) ?_
      conv => whnf
      refine oblT (bltT (by omega)) ?_
      have hda := dg_lt (B := B16) (by decide) k a
      have hdb := dg_lt (B := B16) (by decide) k b
      have hc := hI.c1
      have hv := dif_val hda hdb hc
      have en : IntKind.wrap .u64 (IntKind.wrap .u64 (IntKind.wrap .u64 (Int.ofNat (dg B16 (0 + k) Z) + 65536) - Int.ofNat (dg B16 (0 + k) b)) - (c : Int)) = ((dg B16 k a + B16 - dg B16 k b - c : Nat) : Int) := by
        rw [Nat.zero_add, hI.dig]; exact hv.1
      have hlt : dg B16 k a + B16 - dg B16 k b - c < 18446744073709551616 := hv.2
      refine ⟨(k + 1, setD B16 k ((dg B16 k a + B16 - dg B16 k b - c) % B16) Z, 1 - (dg B16 k a + B16 - dg B16 k b - c) / B16), ⟨h3, hI.step.1⟩, ?_, ?_⟩
      · repeat' (refine And.intro ?_ ?_)
        all_goals try first | with_reducible rfl | exact trivial
        all_goals try first | with_reducible exact vec3 a | with_reducible exact vec3 b
        · show IntKind.wrap .u64 (1 - IntKind.wrap .u64 (Int.tdiv (IntKind.wrap .u64 (IntKind.wrap .u64 (IntKind.wrap .u64 (Int.ofNat (dg B16 (0 + k) Z) + 65536) - Int.ofNat (dg B16 (0 + k) b)) - (c : Int))) 65536)) = _
          have hq := hI.step.2
          rw [en, quo16 _ hlt, wrapU]
          show (1 - (((dg B16 k a + B16 - dg B16 k b - c) / B16 : Nat) : Int)) % 18446744073709551616 = ((1 - (dg B16 k a + B16 - dg B16 k b - c) / B16 : Nat) : Int)
          generalize (dg B16 k a + B16 - dg B16 k b - c) / B16 = x at *
          omega
        · exact incI k (by omega)
        · refine leVec (v := fun j => Int.ofNat (dg B16 j (setD B16 k ((dg B16 k a + B16 - dg B16 k b - c) % B16) Z))) (fun j _ => ?_) (fun _ _ => rfl)
          refine Eq.trans ?_ (fupd_vecX (B := B16) (x := (((dg B16 k a + B16 - dg B16 k b - c) % B16 : Nat) : Int)) (by decide) (Nat.mod_lt _ (by decide)) rfl)
          show fupd (vecX B16 Z) (0 + k) (.int .u64 (Int.tmod (IntKind.wrap .u64 (IntKind.wrap .u64 (IntKind.wrap .u64 (Int.ofNat (dg B16 (0 + k) Z) + 65536) - Int.ofNat (dg B16 (0 + k) b)) - (c : Int))) 65536)) j = _
          rw [en, mod16, Nat.zero_add]; rfl
      · show 16 - (k + 1) < 16 - k
        omega
    · replace h3 : iltB (k : Int) 16 = false := h3
      simp only [iltB_eq, decide_eq_false_iff_not] at h3
      have hk2 : k = 16 := by omega
      rw [hk2] at hI
      obtain ⟨d1, d2⟩ := hI.done ha hb
      refine ⟨(), trivial, ?_⟩
      repeat' (refine And.intro ?_ ?_)
      all_goals try first | with_reducible rfl | exact trivial
      all_goals try first | with_reducible exact vec3 a | with_reducible exact vec3 b
      · exact d2
      · show (k : Int) = 16
        omega
      · show ∀ i, i < 16 → leCV _ (vecX B16 Z i) (vecX B16 (subN a b) i) True
        rw [d1]; exact vec3 _
  · intro _ _
    exact ⟨⟨.inl rfl, by decide, by decide, digOk_vec _ _, vec_free _ _⟩, numF_all _ (subN_lt a b), rfl, trivial⟩
def refSubK : Known Try.prog := kNN 150 (fun _ _ => True) (fun a b => .tup [aN (subN a b), aU (lessN a b)]) (fun a b _ => ref_Sub a b)
end Go.Proofs.Ytacjiajijigebaa
