/- What is known of the reference's group steps. No condition. -/
import Derived.Test.YtacjiajijigebaaSa
import Derived.Test.YtacjiajijigebaaRj
namespace Go.Proofs.Ytacjiajijigebaa
open Go Go.Ev
set_option linter.unusedSimpArgs false

theorem ref_one : PureOk Try.prog 111 [] (tN 1) := by
  refine pure_of_ev (cxK [refOfK]) Try.func111 rfl (by kernel_rfl) (Nat.le_of_ble_eq_true rfl) trivial trivial fun hf w => ?_
  exact ⟨trivial, rfl, trivial⟩
def oneK : Known Try.prog := Known.pure 111 (fun | [] => some (True, tN 1) | _ => none) fun args p r h hp => by
    split at h
    · simp only [Option.some.injEq, Prod.mk.injEq] at h; obtain ⟨rfl, rfl⟩ := h; exact ref_one
    · cases h

set_option maxRecDepth 20000 in
theorem ref_MayG (g : Grp) (a : Nat) : PureOk Try.prog 107 [aG g, aN a] (tB (mayG g a)) := by
  obtain ⟨P, Q, G, H⟩ := g
  refine pure_of_ev (cxK [oneK, refCmpK]) Try.func107 rfl (by kernel_rfl) (Nat.le_of_ble_eq_true rfl) ⟨trivial, trivial, trivial⟩ rfl fun hf w => ?_
  refine ⟨by kernel_rfl, trivial, trivial, ?_⟩
  conv => whnf
  refine brk (fun h1 => ?_) (fun h1 => ?_) <;> replace h1 : iltB 0 (cmpN P 1) = _ := h1 <;> rw [cmp_0lt] at h1 <;> simp only [decide_eq_true_eq, decide_eq_false_iff_not] at h1
  · conv => whnf
    refine brk (fun h2 => ?_) (fun h2 => ?_) <;> replace h2 : (!Nat.beq a 0) = _ := h2 <;> simp only [Bool.not_eq_true', Bool.not_eq_false'] at h2
    · replace h2 := Nat.ne_of_beq_eq_false h2
      refine ⟨trivial, ?_, trivial⟩
      show iltB (cmpN a P) 0 = mayG _ a
      rw [cmp_lt0]; unfold mayG; simp [h1, h2]
    · replace h2 := Nat.eq_of_beq_eq_true h2
      refine ⟨?_, trivial⟩
      show false = mayG _ a
      unfold mayG; simp [h2]
  · refine ⟨?_, trivial⟩
    show false = mayG _ a
    unfold mayG; simp [h1]
def refMayGK : Known Try.prog := kGN 107 (fun _ _ => True) (fun g a => tB (mayG g a)) (fun g a _ => ref_MayG g a)

set_option maxRecDepth 20000 in
theorem ref_MulG (g : Grp) (a b : Nat) : PureOk Try.prog 46 [aG g, aN a, aN b] (grpMul g a b) := by
  obtain ⟨P, Q, G, H⟩ := g
  refine pure_of_ev (cxK [refMayGK, refMulMK]) Try.func46 rfl (by kernel_rfl) (Nat.le_of_ble_eq_true rfl) ⟨trivial, trivial, trivial, trivial⟩ ⟨trivial, rfl, trivial⟩ fun hf w => ?_
  refine ⟨trivial, ?_⟩
  conv => whnf
  refine brk (fun h1 => ?_) (fun h1 => ?_) <;> replace h1 : (!mayG ⟨P, Q, G, H⟩ a) = _ := h1 <;> simp only [Bool.not_eq_true', Bool.not_eq_false'] at h1
  · exact ⟨by rw [h1]; rfl, by rw [h1]; rfl, trivial⟩
  · refine ⟨trivial, ?_⟩
    conv => whnf
    refine brk (fun h2 => ?_) (fun h2 => ?_) <;> replace h2 : (!mayG ⟨P, Q, G, H⟩ b) = _ := h2 <;> simp only [Bool.not_eq_true', Bool.not_eq_false'] at h2
    · exact ⟨by rw [h1, h2]; rfl, by rw [h1, h2]; rfl, trivial⟩
    · have hm : mayM a b P = true := mayG_MM h1 h2
      exact ⟨trivial, by rw [h1, h2, hm]; rfl, by rw [h1, h2, hm]; rfl, trivial⟩
def refMulGK : Known Try.prog := kGNN 46 (fun _ _ _ => True) grpMul (fun g a b _ => ref_MulG g a b)

set_option maxRecDepth 20000 in
theorem ref_InvG (g : Grp) (a : Nat) : PureOk Try.prog 47 [aG g, aN a] (grpInv g a) := by
  obtain ⟨P, Q, G, H⟩ := g
  refine pure_of_ev (cxK [refMayGK, refInvK]) Try.func47 rfl (by kernel_rfl) (Nat.le_of_ble_eq_true rfl) ⟨trivial, trivial, trivial⟩ ⟨trivial, rfl, trivial⟩ fun hf w => ?_
  refine ⟨trivial, ?_⟩
  conv => whnf
  refine brk (fun h1 => ?_) (fun h1 => ?_) <;> replace h1 : (!mayG ⟨P, Q, G, H⟩ a) = _ := h1 <;> simp only [Bool.not_eq_true', Bool.not_eq_false'] at h1
  · exact ⟨by rw [h1]; rfl, by unfold eGI; rw [h1], trivial⟩
  · have hm : mayM a a P = true := mayG_M h1
    exact ⟨trivial, by rw [h1, hm], by unfold eGI eInv; rw [h1, hm], trivial⟩
noncomputable def refInvGK : Known Try.prog := kGN 47 (fun _ _ => True) grpInv (fun g a _ => ref_InvG g a)

set_option maxRecDepth 20000 in
theorem ref_ExpG (g : Grp) (a n : Nat) : PureOk Try.prog 48 [aG g, aN a, aN n] (grpExp g a n) := by
  obtain ⟨P, Q, G, H⟩ := g
  refine pure_of_ev (cxK [refMayGK, refExpK]) Try.func48 rfl (by kernel_rfl) (Nat.le_of_ble_eq_true rfl) ⟨trivial, trivial, trivial, trivial⟩ ⟨trivial, rfl, trivial⟩ fun hf w => ?_
  refine ⟨trivial, ?_⟩
  conv => whnf
  refine brk (fun h1 => ?_) (fun h1 => ?_) <;> replace h1 : (!mayG ⟨P, Q, G, H⟩ a) = _ := h1 <;> simp only [Bool.not_eq_true', Bool.not_eq_false'] at h1
  · exact ⟨by rw [h1]; rfl, by rw [h1]; rfl, trivial⟩
  · have hm : mayM a a P = true := mayG_M h1
    exact ⟨trivial, by rw [h1, hm], by rw [h1, hm], trivial⟩
def refExpGK : Known Try.prog := kGNN 48 (fun _ _ _ => True) grpExp (fun g a n _ => ref_ExpG g a n)

set_option maxRecDepth 20000 in
theorem ref_InG (g : Grp) (a : Nat) : PureOk Try.prog 50 [aG g, aN a] (tB (inG g a)) := by
  obtain ⟨P, Q, G, H⟩ := g
  refine pure_of_ev (cxK [refMayGK, refExpK, oneK]) Try.func50 rfl (by kernel_rfl) (Nat.le_of_ble_eq_true rfl) ⟨trivial, trivial, trivial⟩ rfl fun hf w => ?_
  refine ⟨trivial, ?_⟩
  conv => whnf
  refine brk (fun h1 => ?_) (fun h1 => ?_) <;> replace h1 : (!mayG ⟨P, Q, G, H⟩ a) = _ := h1 <;> simp only [Bool.not_eq_true', Bool.not_eq_false'] at h1
  · refine ⟨?_, trivial⟩
    show false = and (mayG ⟨P, Q, G, H⟩ a) (Nat.beq (a ^ Q % P) 1)
    rw [h1]; rfl
  · have hm : mayM a a P = true := mayG_M h1
    refine ⟨trivial, by kernel_rfl, trivial, ?_, trivial⟩
    show Nat.beq (gM (mayM a a P) (a ^ Q % P)) 1 = and (mayG ⟨P, Q, G, H⟩ a) (Nat.beq (a ^ Q % P) 1)
    rw [h1, hm]; rfl
def refInGK : Known Try.prog := kGN 50 (fun _ _ => True) (fun g a => tB (inG g a)) (fun g a _ => ref_InG g a)
end Go.Proofs.Ytacjiajijigebaa
