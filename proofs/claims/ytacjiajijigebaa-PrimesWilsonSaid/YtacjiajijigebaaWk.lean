/- Whatever the number, Wilson's sentence is as told: the walk. No condition. -/
import Derived.Test.YtacjiajijigebaaCk
import Derived.Test.YtacjiajijigebaaWi
import Derived.Test.YtacjiajijigebaaMr
import Derived.Test.YtacjiajijigebaaRw
namespace Go.Proofs.Ytacjiajijigebaa
open Go Go.Ev
set_option linter.unusedSimpArgs false

theorem law07_of (n : Int) : PureOk Try.prog 67 [aU n] (tN n.toNat) := by
  refine pure_of_ev (cxK [limbsOfK]) Try.func67 rfl (by kernel_rfl) (Nat.le_of_ble_eq_true rfl) ⟨rfl, trivial⟩ trivial fun hf w => ?_
  exact ⟨trivial, rfl, trivial⟩
def of07K : Known Try.prog := kU 67 (fun _ => True) (fun n => tN n.toNat) (fun n _ => law07_of n)

theorem small_2 : smC 2 = true := by rw [← smC_eq, nds_small (by decide) (by decide)]; kernel_rfl
theorem small_7 : smC 7 = true := by rw [← smC_eq, nds_small (by decide) (by decide)]; kernel_rfl
theorem small_9 : smC 9 = false := by rw [← smC_eq, nds_small (by decide) (by decide)]; kernel_rfl
theorem small_1 : smC 1 = false := (smC_eq _).symm.trans <| smallB_f fun h => absurd h.1.1 (by decide)
theorem small_4294967296 : smC 4294967296 = false := (smC_eq _).symm.trans <| smallB_f fun h => absurd h.2 (Nat.lt_irrefl _)

theorem smC_great : smC 4294967291 = true := (smC_eq _).symm.trans small_great
set_option maxRecDepth 20000 in
theorem law07_alive : PureOk Try.prog 65 [] (tB true) := by
  refine pure_of_ev (cxK [smallCK, of07K, checkLeafK]) Try.func65 rfl (by kernel_rfl) (Nat.le_of_ble_eq_true rfl) trivial rfl fun hf w => ?_
  refine ⟨trivial, ?_⟩
  conv => whnf
  refine brkT (by exact small_2) ?_
  refine ⟨trivial, ?_⟩
  conv => whnf
  refine brkT (by show (!smC 1) = true; rw [small_1]; rfl) ?_
  refine ⟨trivial, ?_⟩
  conv => whnf
  refine brkT (by exact smC_great) ?_
  refine ⟨trivial, ?_⟩
  conv => whnf
  refine brkT (by show (!smC 4294967296) = true; rw [small_4294967296]; rfl) ?_
  refine ⟨trivial, by decide, ?_⟩
  conv => whnf
  refine brkT (by show leafB 7 0 = true; unfold leafB; rw [small_7]; rfl) ?_
  refine ⟨trivial, by decide, ?_⟩
  conv => whnf
  refine brkT (by show (!leafB 9 0) = true; unfold leafB; rw [small_9]; rfl) ?_
  refine ⟨trivial, trivial, by decide, ?_, trivial⟩
  show (!leafB 7 3) = true
  unfold leafB; rw [small_7]; rfl
def alive07K : Known Try.prog := Known.pure 65 (fun | [] => some (True, tB true) | _ => none) fun args p r h hp => by
    split at h
    · simp only [Option.some.injEq, Prod.mk.injEq] at h; obtain ⟨rfl, rfl⟩ := h; exact law07_alive
    · cases h

theorem fct_lt {m : Nat} (h : 2 ≤ m) (k : Nat) : fct m k < m := by
  cases k with
  | zero => show 1 < m; omega
  | succ k => rw [fct_succ]; exact Nat.mod_lt _ (by omega)
set_option maxRecDepth 20000 in
theorem calls_PrimesWilson (x : Int) (hx : IntKind.has .u16 x) (w : World) : Calls Try.prog 14 #[.int .u16 x] w fun e w' => e = .returned (.bool true) ∧ Fr (fun _ => False) w w' := by
  refine calls_true (cxK [of07K, modsMulK, alive07K, smallCK]) (xs := [.cv (.int .u16 x)]) (vs := [.int .u16 x]) Try.func14 rfl (Nat.le_of_ble_eq_true rfl) ⟨_, _, rfl, ⟨rfl, hx⟩, rfl⟩ ?_
  have h0 : 0 ≤ x ∧ x < 65536 := by
    have hx' : IntKind.min .u16 ≤ x ∧ x ≤ IntKind.max .u16 := hx
    rw [show IntKind.min .u16 = 0 from rfl, show IntKind.max .u16 = 65535 from rfl] at hx'
    omega
  obtain ⟨m, hm, h2, h1501⟩ : ∃ m : Nat, IntKind.wrap .u64 (2 + (IntKind.wrap .u64 x).tmod 1499) = (m : Int) ∧ 2 ≤ m ∧ m < 1501 := by
    rw [wrapU x, wrapU, Int.tmod_eq_emod_of_nonneg (by omega)]
    exact ⟨(2 + x % 1499).toNat, by omega, by omega, by omega⟩
  conv => whnf
  refine ⟨trivial, ?_⟩
  rw [hm]
  conv => whnf
  refine LoopK.cut Nat (fun i => [(5, tU i)]) (fun i => [(0, [.num (fct m (i - 1))])]) (fun i => 1 ≤ i ∧ i ≤ m) (fun i => m - i) 1 ?_ ?_
    Unit (fun _ => [(5, tU m)]) (fun _ => [(0, [.num (fct m (m - 1))])]) (fun _ => True) 0 ?_ ?_
  · exact ⟨Nat.le_refl _, by omega⟩
  · repeat' (refine And.intro ?_ ?_)
    all_goals try first | with_reducible rfl | exact trivial
    all_goals rfl
  · rintro i ⟨hi1, hi2⟩
    replace hi1 : 1 ≤ i := hi1
    replace hi2 : i ≤ m := hi2
    conv => whnf
    refine brk (fun h3 => ?_) (fun h3 => ?_) <;> replace h3 : iltB (i : Int) (m : Int) = _ := h3 <;> rw [iltB_eq] at h3 <;> simp only [decide_eq_true_eq, decide_eq_false_iff_not] at h3
    · refine ⟨by kernel_rfl, trivial, trivial, trivial, by kernel_rfl, ?_⟩
      have hM : mayM (fct m (i - 1)) i m = true := by
        have := fct_lt h2 (i - 1)
        unfold mayM; simp; omega
      conv => whnf
      refine brkF (by show (!ieqB (eM (mayM (fct m (i - 1)) i m)) 0) = false; rw [hM]; rfl) ?_
      refine ⟨i + 1, ⟨by omega, by omega⟩, ?_, ?_⟩
      · repeat' (refine And.intro ?_ ?_)
        all_goals try first | with_reducible rfl | exact trivial
        · rw [wrapU, Int.emod_eq_of_lt (by omega) (by omega)]; rfl
        · show gM (mayM (fct m (i - 1)) i m) (fct m (i - 1) * i % m) = fct m i
          rw [hM]
          show fct m (i - 1) * i % m = fct m i
          obtain ⟨p, rfl⟩ : ∃ p, i = p + 1 := ⟨i - 1, by omega⟩
          rw [fct_succ]; rfl
      · show m - (i + 1) < m - i
        omega
    · have : i = m := by omega
      subst this
      refine ⟨(), trivial, ?_⟩
      repeat' (refine And.intro ?_ ?_)
      all_goals try first | with_reducible rfl | exact trivial
  · intro _ _
    refine ⟨by kernel_rfl, trivial, trivial, trivial, ?_, trivial⟩
    show (smC m == Nat.beq (fct m (m - 1)) (IntKind.wrap .u64 ((m : Int) - 1)).toNat) = true
    rw [wrapU, Int.emod_eq_of_lt (by omega) (by omega), show ((m : Int) - 1).toNat = m - 1 by omega, ← smC_eq, wilson h2 h1501]
    exact beq_self_eq_true _
end Go.Proofs.Ytacjiajijigebaa
