/- What is known of small helpers of the groups' statements. No condition. -/
import Derived.Test.YtacjiajijigebaaPe
import Derived.Test.YtacjiajijigebaaCk
import Derived.Test.YtacjiajijigebaaWi
namespace Go.Proofs.Ytacjiajijigebaa
open Go Go.Ev
set_option linter.unusedSimpArgs false

theorem law08_of (n : Int) : PureOk Try.prog 84 [aU n] (tN n.toNat) := by
  refine pure_of_ev (cxK [limbsOfK]) Try.func84 rfl (by kernel_rfl) (Nat.le_of_ble_eq_true rfl) ⟨rfl, trivial⟩ trivial fun hf w => ?_
  exact ⟨trivial, rfl, trivial⟩
def of08K : Known Try.prog := kU 84 (fun _ => True) (fun n => tN n.toNat) (fun n _ => law08_of n)
def knownG : Grp := ⟨23, 11, 4, 9⟩
theorem law08_Known : PureOk Try.prog 122 [] (.b (aG knownG)) := by
  refine pure_of_ev (cxK [of08K]) Try.func122 rfl (by kernel_rfl) (Nat.le_of_ble_eq_true rfl) trivial trivial fun hf w => ?_
  exact ⟨trivial, trivial, trivial, trivial, rfl, rfl, rfl, rfl, trivial⟩
def known08K : Known Try.prog := Known.pure 122 (fun | [] => some (True, .b (aG knownG)) | _ => none) fun args p r h hp => by
    split at h
    · simp only [Option.some.injEq, Prod.mk.injEq] at h; obtain ⟨rfl, rfl⟩ := h; exact law08_Known
    · cases h
def isB (a : Nat) (e : Int) (n : Int) : Bool := and (ieqB e 0) (Nat.beq a n.toNat)
set_option maxRecDepth 20000 in
theorem law08_is (a : Nat) (e n : Int) : PureOk Try.prog 152 [aN a, aI e, aU n] (tB (isB a e n)) := by
  refine pure_of_ev (cxK [of08K]) Try.func152 rfl (by kernel_rfl) (Nat.le_of_ble_eq_true rfl) ⟨trivial, rfl, rfl, trivial⟩ rfl fun hf w => ?_
  refine ⟨by kernel_rfl, ?_⟩
  conv => whnf
  refine brk (fun h1 => ?_) (fun h1 => ?_) <;> replace h1 : ieqB e 0 = _ := h1
  · refine ⟨trivial, ?_, trivial⟩
    show Nat.beq a n.toNat = and (ieqB e 0) (Nat.beq a n.toNat)
    rw [h1]; rfl
  · refine ⟨?_, trivial⟩
    show false = and (ieqB e 0) (Nat.beq a n.toNat)
    rw [h1]; rfl
def is08K : Known Try.prog := Known.pure 152 (fun
    | [.agg [.num a], .cv (.int .i64 e), .cv (.int .u64 n)] => some (True, tB (isB a e n))
    | _ => none) fun args p r h hp => by
    split at h
    · simp only [Option.some.injEq, Prod.mk.injEq] at h; obtain ⟨rfl, rfl⟩ := h; exact law08_is _ _ _
    · cases h
def yesI (b : Bool) : Int := match b with
  | true => 1
  | false => 0
theorem groups_yes (b : Bool) : PureOk Try.prog 148 [aB b] (tI (yesI b)) := by
  refine pure_of_ev (cxK []) Try.func148 rfl (by kernel_rfl) (Nat.le_of_ble_eq_true rfl) ⟨rfl, trivial⟩ rfl fun hf w => ?_
  conv => whnf
  cases b <;> exact ⟨rfl, trivial⟩
def yesK : Known Try.prog := kB 148 (fun _ => True) (fun b => tI (yesI b)) (fun b _ => groups_yes b)
def dvdB (a b : Nat) : Bool := match Nat.beq a 0 with
  | true => false
  | false => Nat.beq (b % a) 0
set_option maxRecDepth 20000 in
theorem groups_divide (a b : Nat) : PureOk Try.prog 149 [aN a, aN b] (tB (dvdB a b)) := by
  refine pure_of_ev (cxK [limbsOfK, divDK]) Try.func149 rfl (by kernel_rfl) (Nat.le_of_ble_eq_true rfl) ⟨trivial, trivial, trivial⟩ rfl fun hf w => ?_
  refine ⟨trivial, by kernel_rfl, ?_⟩
  conv => whnf
  refine brk (fun h1 => ?_) (fun h1 => ?_) <;> replace h1 : ieqB (dE a) 0 = _ := h1 <;> rw [ieqB_eq] at h1 <;> simp only [decide_eq_true_eq, decide_eq_false_iff_not] at h1 <;> unfold dE at h1
  · have ha : a ≠ 0 := fun h => by rw [if_pos h] at h1; cases h1
    refine ⟨trivial, ?_, trivial⟩
    show Nat.beq (dR b a) 0 = dvdB a b
    unfold dR dvdB
    have hb : Nat.beq a 0 = false := by
      cases h : Nat.beq a 0 with
      | false => rfl
      | true => exact absurd (Nat.eq_of_beq_eq_true h) ha
    rw [if_neg ha, hb]
  · have ha : a = 0 := Classical.byContradiction fun h => h1 (if_neg h)
    refine ⟨?_, trivial⟩
    show false = dvdB a b
    unfold dvdB
    rw [ha]
def divideK : Known Try.prog := kNN 149 (fun _ _ => True) (fun a b => tB (dvdB a b)) (fun a b _ => groups_divide a b)

theorem smC_23 : smC 23 = true := by rw [← smC_eq, nds_small (by decide) (by decide)]; kernel_rfl
theorem smC_11 : smC 11 = true := by rw [← smC_eq, nds_small (by decide) (by decide)]; kernel_rfl
set_option maxRecDepth 20000 in
theorem check_good : PureOk Try.prog 81 [aG knownG, aLeaf 23 0, aLeaf 11 0] (tB true) := by
  refine pure_of_ev (cxK [limbsOfK, limbsSubK, checkLeafK, yesK, divideK, inGK]) Try.func81 rfl (by kernel_rfl) (Nat.le_of_ble_eq_true rfl) ⟨trivial, ⟨rfl, trivial⟩, ⟨rfl, trivial⟩, trivial⟩ rfl fun hf w => ?_
  refine ⟨by kernel_rfl, trivial, trivial, by kernel_rfl, by kernel_rfl, by decide, ?_⟩
  conv => whnf
  refine brkT (by show leafB 23 0 = true; unfold leafB; rw [smC_23]; rfl) ?_
  refine ⟨trivial, by decide, ?_⟩
  conv => whnf
  refine brkT (by show leafB 11 0 = true; unfold leafB; rw [smC_11]; rfl) ?_
  refine ⟨trivial, trivial, trivial, trivial, ?_⟩
  conv => whnf
  refine ⟨trivial, ?_⟩
  conv => whnf
  refine ⟨trivial, ?_⟩
  conv => whnf
  refine ⟨trivial, ?_⟩
  conv => whnf
  refine ⟨trivial, ?_⟩
  conv => whnf
  refine LoopK.unroll 5 ?_
  conv => whnf
  exact ⟨rfl, trivial⟩
set_option maxRecDepth 20000 in
theorem check_bad : PureOk Try.prog 81 [aG knownG, aLeaf 11 0, aLeaf 23 0] (tB false) := by
  refine pure_of_ev (cxK [limbsOfK, limbsSubK, checkLeafK, yesK, divideK, inGK]) Try.func81 rfl (by kernel_rfl) (Nat.le_of_ble_eq_true rfl) ⟨trivial, ⟨rfl, trivial⟩, ⟨rfl, trivial⟩, trivial⟩ rfl fun hf w => ?_
  refine ⟨by kernel_rfl, trivial, trivial, by kernel_rfl, by kernel_rfl, by decide, ?_⟩
  conv => whnf
  refine brkT (by show leafB 11 0 = true; unfold leafB; rw [smC_11]; rfl) ?_
  refine ⟨trivial, by decide, ?_⟩
  conv => whnf
  refine brkT (by show leafB 23 0 = true; unfold leafB; rw [smC_23]; rfl) ?_
  refine ⟨trivial, trivial, trivial, trivial, ?_⟩
  conv => whnf
  refine ⟨trivial, ?_⟩
  conv => whnf
  refine ⟨trivial, ?_⟩
  conv => whnf
  refine ⟨trivial, ?_⟩
  conv => whnf
  refine ⟨trivial, ?_⟩
  conv => whnf
  refine LoopK.unroll 5 ?_
  conv => whnf
  exact ⟨rfl, trivial⟩
noncomputable def checkSmallK : Known Try.prog := Known.pure 81 (fun
    | [.agg [.num p, .num q, .num u, .num v], .agg [.num n, .num w, .cell (.v (.slice none 0 0))], .agg [.num n2, .num w2, .cell (.v (.slice none 0 0))]] =>
      some (((p = 23 ∧ q = 11) ∧ (u = 4 ∧ v = 9)) ∧ (w = 0 ∧ w2 = 0) ∧ ((n = 23 ∧ n2 = 11) ∨ (n = 11 ∧ n2 = 23)), tB (Nat.beq n 23))
    | _ => none) fun args p r h hp => by
    split at h
    · simp only [Option.some.injEq, Prod.mk.injEq] at h; obtain ⟨rfl, rfl⟩ := h
      obtain ⟨⟨⟨rfl, rfl⟩, rfl, rfl⟩, ⟨rfl, rfl⟩, ⟨rfl, rfl⟩ | ⟨rfl, rfl⟩⟩ := hp
      · exact check_good
      · exact check_bad
    · cases h
theorem inv_4_23 : invN 4 23 = 6 := invN_eq (by decide) (by decide) (by decide)
set_option maxRecDepth 20000 in
theorem law08_alive : PureOk Try.prog 85 [] (tB true) := by
  refine pure_of_ev (cxK [of08K, known08K, is08K, grpMulK, grpExpK, grpInvK, inGK, productK, checkSmallK]) Try.func85 rfl (by kernel_rfl) (Nat.le_of_ble_eq_true rfl) trivial rfl fun hf w => ?_
  refine ⟨trivial, ?_⟩
  refine ⟨by kernel_rfl, trivial, trivial, trivial, by kernel_rfl, ?_⟩
  conv => whnf
  refine ⟨by kernel_rfl, trivial, trivial, trivial, by kernel_rfl, ?_⟩
  conv => whnf
  refine ⟨by kernel_rfl, trivial, trivial, by kernel_rfl, ?_⟩
  conv => whnf
  refine ⟨by kernel_rfl, trivial, trivial, trivial, trivial, by decide, by kernel_rfl, ?_⟩
  conv => whnf
  refine ⟨by kernel_rfl, trivial, trivial, trivial, by kernel_rfl, ?_⟩
  conv => whnf
  refine ⟨by kernel_rfl, trivial, by decide, by kernel_rfl, ?_⟩
  conv => whnf
  refine ⟨trivial, ?_⟩
  conv => whnf
  refine ⟨trivial, ?_⟩
  conv => whnf
  refine ⟨by kernel_rfl, trivial, trivial, ?_⟩
  conv => whnf
  refine ⟨trivial, trivial, ?_⟩
  conv => whnf
  refine ⟨trivial, trivial, ?_⟩
  conv => whnf
  refine ⟨trivial, ?_⟩
  conv => whnf
  refine ⟨trivial, ?_⟩
  conv => whnf
  refine ⟨trivial, ?_⟩
  conv => whnf
  refine brkT (by show isB (gM (mayG knownG 4) (invN 4 23)) (eGI knownG 4) 6 = true; rw [inv_4_23]; kernel_rfl) ?_
  conv => whnf
  refine ⟨trivial, ?_⟩
  conv => whnf
  refine ⟨⟨⟨⟨rfl, rfl⟩, rfl, rfl⟩, ⟨rfl, rfl⟩, .inl ⟨rfl, rfl⟩⟩, ?_⟩
  conv => whnf
  refine ⟨⟨⟨⟨rfl, rfl⟩, rfl, rfl⟩, ⟨rfl, rfl⟩, .inr ⟨rfl, rfl⟩⟩, ?_⟩
  conv => whnf
  exact ⟨rfl, trivial⟩
def alive08K : Known Try.prog := Known.pure 85 (fun | [] => some (True, tB true) | _ => none) fun args p r h hp => by
    split at h
    · simp only [Option.some.injEq, Prod.mk.injEq] at h; obtain ⟨rfl, rfl⟩ := h; exact law08_alive
    · cases h
end Go.Proofs.Ytacjiajijigebaa
