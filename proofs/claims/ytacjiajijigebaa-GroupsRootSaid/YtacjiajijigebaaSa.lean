/- What is known of a group's own steps: whether a member is fit, products, inverses, powers. No condition. -/
import Derived.Test.YtacjiajijigebaaMr
namespace Go.Proofs.Ytacjiajijigebaa
open Go Go.Ev
set_option linter.unusedSimpArgs false

def mayG (g : Grp) (a : Nat) : Bool := decide (1 < g.P ∧ a ≠ 0 ∧ a < g.P)
theorem mayG_t {g : Grp} {a : Nat} (h : mayG g a = true) : 1 < g.P ∧ a ≠ 0 ∧ a < g.P := by unfold mayG at h; simpa using h
theorem mayG_M {g : Grp} {a : Nat} (h : mayG g a = true) : mayM a a g.P = true := by
  have := mayG_t h
  unfold mayM; simp; omega
theorem mayG_MM {g : Grp} {a b : Nat} (h : mayG g a = true) (h2 : mayG g b = true) : mayM a b g.P = true := by
  have := mayG_t h
  have := mayG_t h2
  unfold mayM; simp; omega
def grpMul (g : Grp) (a b : Nat) : AV := .tup [aN (gM (and (mayG g a) (mayG g b)) (a * b % g.P)), aI (eM (and (mayG g a) (mayG g b)))]
def eGI (g : Grp) (a : Nat) : Int := match mayG g a with
  | true => if Nat.gcd a g.P = 1 then 0 else 7
  | false => 1
noncomputable def grpInv (g : Grp) (a : Nat) : AV := .tup [aN (gM (mayG g a) (invN a g.P)), aI (eGI g a)]
def grpExp (g : Grp) (a n : Nat) : AV := .tup [aN (gM (mayG g a) (a ^ n % g.P)), aI (eM (mayG g a))]
def inG (g : Grp) (a : Nat) : Bool := and (mayG g a) (Nat.beq (a ^ g.Q % g.P) 1)

set_option maxRecDepth 20000 in
theorem groups_may (g : Grp) (a : Nat) : PureOk Try.prog 106 [aG g, aN a] (tB (mayG g a)) := by
  obtain ⟨P, Q, G, H⟩ := g
  refine pure_of_ev (cxK [limbsOfK, limbsCmpK]) Try.func106 rfl (by kernel_rfl) (Nat.le_of_ble_eq_true rfl) ⟨trivial, trivial, trivial⟩ rfl fun hf w => ?_
  refine ⟨by kernel_rfl, trivial, trivial, ?_⟩
  conv => whnf
  refine brk (fun h1 => ?_) (fun h1 => ?_) <;> replace h1 : iltB 0 (cmpN P 1) = _ := h1 <;> rw [cmp_0lt] at h1 <;> simp only [decide_eq_true_eq, decide_eq_false_iff_not] at h1
  · refine ⟨trivial, ?_⟩
    conv => whnf
    refine brk (fun h2 => ?_) (fun h2 => ?_) <;> replace h2 : (!Nat.beq a 0) = _ := h2 <;> simp only [Bool.not_eq_true', Bool.not_eq_false'] at h2
    · replace h2 := Nat.ne_of_beq_eq_false h2
      refine ⟨trivial, ?_, trivial⟩
      show iltB (cmpN a P) 0 = mayG _ a
      rw [cmp_lt0]; unfold mayG; simp [h1, h2]
    · replace h2 := Nat.eq_of_beq_eq_true h2
      refine ⟨?_, trivial⟩
      show false = mayG _ a
      unfold mayG; simp [h2]
  · refine ⟨?_, trivial⟩
    show false = mayG _ a
    unfold mayG; simp [h1]
def mayGK : Known Try.prog := kGN 106 (fun _ _ => True) (fun g a => tB (mayG g a)) (fun g a _ => groups_may g a)

set_option maxRecDepth 20000 in
theorem groups_Mul (g : Grp) (a b : Nat) : PureOk Try.prog 43 [aG g, aN a, aN b] (grpMul g a b) := by
  obtain ⟨P, Q, G, H⟩ := g
  refine pure_of_ev (cxK [mayGK, modsMulK]) Try.func43 rfl (by kernel_rfl) (Nat.le_of_ble_eq_true rfl) ⟨trivial, trivial, trivial, trivial⟩ ⟨trivial, rfl, trivial⟩ fun hf w => ?_
  refine ⟨trivial, ?_⟩
  conv => whnf
  refine brk (fun h1 => ?_) (fun h1 => ?_) <;> replace h1 : (!mayG ⟨P, Q, G, H⟩ a) = _ := h1 <;> simp only [Bool.not_eq_true', Bool.not_eq_false'] at h1
  · exact ⟨by rw [h1]; rfl, by rw [h1]; rfl, trivial⟩
  · refine ⟨trivial, ?_⟩
    conv => whnf
    refine brk (fun h2 => ?_) (fun h2 => ?_) <;> replace h2 : (!mayG ⟨P, Q, G, H⟩ b) = _ := h2 <;> simp only [Bool.not_eq_true', Bool.not_eq_false'] at h2
    · exact ⟨by rw [h1, h2]; rfl, by rw [h1, h2]; rfl, trivial⟩
    · have hm : mayM a b P = true := mayG_MM h1 h2
      exact ⟨trivial, by rw [h1, h2, hm]; rfl, by rw [h1, h2, hm]; rfl, trivial⟩
def grpMulK : Known Try.prog := kGNN 43 (fun _ _ _ => True) grpMul (fun g a b _ => groups_Mul g a b)

set_option maxRecDepth 20000 in
theorem groups_Inv (g : Grp) (a : Nat) : PureOk Try.prog 44 [aG g, aN a] (grpInv g a) := by
  obtain ⟨P, Q, G, H⟩ := g
  refine pure_of_ev (cxK [mayGK, modsInvK]) Try.func44 rfl (by kernel_rfl) (Nat.le_of_ble_eq_true rfl) ⟨trivial, trivial, trivial⟩ ⟨trivial, rfl, trivial⟩ fun hf w => ?_
  refine ⟨trivial, ?_⟩
  conv => whnf
  refine brk (fun h1 => ?_) (fun h1 => ?_) <;> replace h1 : (!mayG ⟨P, Q, G, H⟩ a) = _ := h1 <;> simp only [Bool.not_eq_true', Bool.not_eq_false'] at h1
  · exact ⟨by rw [h1]; rfl, by unfold eGI; rw [h1], trivial⟩
  · have hm : mayM a a P = true := mayG_M h1
    exact ⟨trivial, by rw [h1, hm], by unfold eGI eInv; rw [h1, hm], trivial⟩
noncomputable def grpInvK : Known Try.prog := kGN 44 (fun _ _ => True) grpInv (fun g a _ => groups_Inv g a)

set_option maxRecDepth 20000 in
theorem groups_Exp (g : Grp) (a n : Nat) : PureOk Try.prog 45 [aG g, aN a, aN n] (grpExp g a n) := by
  obtain ⟨P, Q, G, H⟩ := g
  refine pure_of_ev (cxK [mayGK, modsExpK]) Try.func45 rfl (by kernel_rfl) (Nat.le_of_ble_eq_true rfl) ⟨trivial, trivial, trivial, trivial⟩ ⟨trivial, rfl, trivial⟩ fun hf w => ?_
  refine ⟨trivial, ?_⟩
  conv => whnf
  refine brk (fun h1 => ?_) (fun h1 => ?_) <;> replace h1 : (!mayG ⟨P, Q, G, H⟩ a) = _ := h1 <;> simp only [Bool.not_eq_true', Bool.not_eq_false'] at h1
  · exact ⟨by rw [h1]; rfl, by rw [h1]; rfl, trivial⟩
  · have hm : mayM a a P = true := mayG_M h1
    exact ⟨trivial, by rw [h1, hm], by rw [h1, hm], trivial⟩
def grpExpK : Known Try.prog := kGNN 45 (fun _ _ _ => True) grpExp (fun g a n _ => groups_Exp g a n)

set_option maxRecDepth 20000 in
theorem groups_In (g : Grp) (a : Nat) : PureOk Try.prog 49 [aG g, aN a] (tB (inG g a)) := by
  obtain ⟨P, Q, G, H⟩ := g
  refine pure_of_ev (cxK [grpExpK, limbsOfK]) Try.func49 rfl (by kernel_rfl) (Nat.le_of_ble_eq_true rfl) ⟨trivial, trivial, trivial⟩ rfl fun hf w => ?_
  refine ⟨trivial, by kernel_rfl, ?_⟩
  conv => whnf
  refine brk (fun h1 => ?_) (fun h1 => ?_) <;> replace h1 : ieqB (eM (mayG ⟨P, Q, G, H⟩ a)) 0 = _ := h1
  · have hm : mayG ⟨P, Q, G, H⟩ a = true := by
      cases h : mayG ⟨P, Q, G, H⟩ a with
      | true => rfl
      | false => rw [h] at h1; cases h1
    refine ⟨trivial, ?_, trivial⟩
    show Nat.beq (gM (mayG ⟨P, Q, G, H⟩ a) (a ^ Q % P)) 1 = and (mayG ⟨P, Q, G, H⟩ a) (Nat.beq (a ^ Q % P) 1)
    rw [hm]; rfl
  · have hm : mayG ⟨P, Q, G, H⟩ a = false := by
      cases h : mayG ⟨P, Q, G, H⟩ a with
      | false => rfl
      | true => rw [h] at h1; cases h1
    refine ⟨?_, trivial⟩
    show false = and (mayG ⟨P, Q, G, H⟩ a) (Nat.beq (a ^ Q % P) 1)
    rw [hm]; rfl
def inGK : Known Try.prog := kGN 49 (fun _ _ => True) (fun g a => tB (inG g a)) (fun g a _ => groups_In g a)
end Go.Proofs.Ytacjiajijigebaa
