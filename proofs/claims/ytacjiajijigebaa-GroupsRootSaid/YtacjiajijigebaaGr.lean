/- A power by an exponent that has an inverse is undone: the walk. No condition. -/
import Derived.Test.YtacjiajijigebaaAl
import Derived.Test.YtacjiajijigebaaGq
import Derived.Test.YtacjiajijigebaaOp
namespace Go.Proofs.Ytacjiajijigebaa
open Go Go.Ev
set_option linter.unusedSimpArgs false

set_option maxRecDepth 20000 in
theorem calls_GroupsRoot (g : Grp) (a b n : Nat) {v0 v1 v2 : Value} (h0 : AB.rel noG (aG g) v0) (h1 : AB.rel noG (.agg [.num a, .num b]) v1) (h2 : AB.rel noG (aN n) v2) (w : World) : Calls Try.prog 21 #[v0, v1, v2] w fun e w' => e = .returned (.bool true) ∧ Fr (fun _ => False) w w' := by
  obtain ⟨P, Q, G, H⟩ := g
  refine calls_true (cxK [of08K, limbsCmpK, alive08K, divDK, modsInvK, grpExpK, inGK]) (xs := [aG ⟨P, Q, G, H⟩, .agg [.num a, .num b], aN n]) (vs := [v0, v1, v2]) Try.func21 rfl (Nat.le_of_ble_eq_true rfl) ⟨_, _, rfl, h0, _, _, rfl, h1, _, _, rfl, h2, rfl⟩ ?_
  refine ⟨by kernel_rfl, trivial, trivial, ?_⟩
  conv => whnf
  refine brk (fun hQ => ?_) (fun hQ => ?_) <;> replace hQ : (!iltB 0 (cmpN Q 1)) = _ := hQ <;> rw [cmp_0lt] at hQ <;> simp only [Bool.not_eq_true', Bool.not_eq_false', decide_eq_true_eq, decide_eq_false_iff_not] at hQ
  · exact ⟨trivial, rfl, trivial⟩
  refine ⟨trivial, ?_⟩
  conv => whnf
  refine brk (fun hA => ?_) (fun hA => ?_) <;> replace hA : (!inG ⟨P, Q, G, H⟩ a) = _ := hA <;> simp only [Bool.not_eq_true', Bool.not_eq_false'] at hA
  · exact ⟨trivial, rfl, trivial⟩
  refine ⟨trivial, ?_⟩
  conv => whnf
  refine brk (fun hB => ?_) (fun hB => ?_) <;> replace hB : (!inG ⟨P, Q, G, H⟩ b) = _ := hB <;> simp only [Bool.not_eq_true', Bool.not_eq_false'] at hB
  · exact ⟨trivial, rfl, trivial⟩
  refine ⟨trivial, trivial, trivial, trivial, ?_⟩
  conv => whnf
  have mA := (inG_iff.1 hA).1
  have mB := (inG_iff.1 hB).1
  have hr : dR n Q = n % Q := if_neg (by omega)
  have hrm : mayM (dR n Q) (dR n Q) Q = true := by
    have := Nat.mod_lt n (show 0 < Q by omega)
    rw [hr]; unfold mayM; simp; omega
  refine brkF (by show (!ieqB (dE Q) 0) = false; unfold dE; rw [if_neg (by omega)]; rfl) ?_
  conv => whnf
  refine brkF (by show (!ieqB (eM (mayG ⟨P, Q, G, H⟩ a)) 0) = false; rw [mA]; rfl) ?_
  conv => whnf
  refine brkF (by show (!ieqB (eM (mayG ⟨P, Q, G, H⟩ b)) 0) = false; rw [mB]; rfl) ?_
  conv => whnf
  by_cases hg : Nat.gcd (dR n Q) Q = 1
  · have hE : eInv (dR n Q) Q = 0 := by unfold eInv; rw [hrm]; exact if_pos hg
    refine brkF (by show (!ieqB (eInv (dR n Q) Q) 0) = false; rw [hE]; rfl) ?_
    refine ⟨trivial, by kernel_rfl, trivial, ?_⟩
    conv => whnf
    have hQ0 : Q ≠ 0 := by omega
    have mX := (inG_iff.1 (in_exp (n := n) hQ0 hA)).1
    have hy : (n % Q) * invN (dR n Q) Q % Q = 1 := by
      have := (invN_some hQ (by rw [hr]; exact Nat.mod_lt _ (by omega)) hg).1
      rw [hr] at this ⊢
      exact this
    have bA : (a ^ n % P) ^ invN (dR n Q) Q % P = a := pow_undone (g := ⟨P, Q, G, H⟩) hQ hA hy
    have bB : (b ^ n % P) ^ invN (dR n Q) Q % P = b := pow_undone (g := ⟨P, Q, G, H⟩) hQ hB hy
    refine brkT (by show ieqB (eM (mayG ⟨P, Q, G, H⟩ (gM (mayG ⟨P, Q, G, H⟩ a) (a ^ n % P)))) 0 = true; rw [mA]; show ieqB (eM (mayG ⟨P, Q, G, H⟩ (a ^ n % P))) 0 = true; rw [mX]; rfl) ?_
    conv => whnf
    refine brkT (by show Nat.beq (gM (mayG ⟨P, Q, G, H⟩ (gM (mayG ⟨P, Q, G, H⟩ a) (a ^ n % P))) ((gM (mayG ⟨P, Q, G, H⟩ a) (a ^ n % P)) ^ (gM (mayM (dR n Q) (dR n Q) Q) (invN (dR n Q) Q)) % P)) a = true; rw [mA, hrm]; show Nat.beq (gM (mayG ⟨P, Q, G, H⟩ (a ^ n % P)) ((a ^ n % P) ^ (invN (dR n Q) Q) % P)) a = true; rw [mX]; show Nat.beq ((a ^ n % P) ^ (invN (dR n Q) Q) % P) a = true; rw [bA, Nat.beq_eq]) ?_
    refine ⟨?_, trivial⟩
    show (Nat.beq (gM (mayG ⟨P, Q, G, H⟩ a) (a ^ n % P)) (gM (mayG ⟨P, Q, G, H⟩ b) (b ^ n % P)) == Nat.beq a b) = true
    rw [mA, mB]
    show (Nat.beq (a ^ n % P) (b ^ n % P) == Nat.beq a b) = true
    have : Nat.beq (a ^ n % P) (b ^ n % P) = Nat.beq a b := by
      rw [Bool.eq_iff_iff, Nat.beq_eq, Nat.beq_eq]
      exact ⟨fun h => by rw [← bA, ← bB, h], fun h => by rw [h]⟩
    rw [this]
    exact beq_self_eq_true _
  · have hE : eInv (dR n Q) Q = 7 := by unfold eInv; rw [hrm]; exact if_neg hg
    refine brkT (by show (!ieqB (eInv (dR n Q) Q) 0) = true; rw [hE]; rfl) ?_
    refine ⟨trivial, ?_, trivial⟩
    show ieqB (eInv (dR n Q) Q) 7 = true
    rw [hE]; rfl
end Go.Proofs.Ytacjiajijigebaa
