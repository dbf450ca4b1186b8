/- What is known of long numbers. No condition. -/
import Derived.Test.YtacjiajijigebaaBj
namespace Go.Proofs.Ytacjiajijigebaa
open Go Go.Ev
set_option linter.unusedSimpArgs false

theorem limb_lt (i x : Nat) : limb i x < 18446744073709551616 := by unfold limb B64; exact Nat.mod_lt _ (by decide)
theorem limb_split {x : Nat} (h : x < BW) : x = limb 0 x + 18446744073709551616 * limb 1 x + 340282366920938463463374607431768211456 * limb 2 x + 6277101735386680763835789423207666416102355444464034512896 * limb 3 x := by
  unfold BW at h
  simp only [limb, B64, Nat.reducePow, Nat.div_one]
  omega
theorem setl4 {a b c d x : Nat} (ha : a < 18446744073709551616) (hb : b < 18446744073709551616) (hc : c < 18446744073709551616) : setl 3 d (setl 2 c (setl 1 b (setl 0 a x))) = a + 18446744073709551616 * b + 340282366920938463463374607431768211456 * c + 6277101735386680763835789423207666416102355444464034512896 * d := by
  simp only [setl, num4, limb, B64, Nat.reducePow, Nat.div_one]
  omega

def subN (a b : Nat) : Nat := (a + (BW - b)) % BW
def lessN (a b : Nat) : Int := if a < b then 1 else 0
theorem num_lt {a b c d : Nat} (ha : a < 18446744073709551616) (hb : b < 18446744073709551616) (hc : c < 18446744073709551616) (hd : d < 18446744073709551616) : a + 18446744073709551616 * b + 340282366920938463463374607431768211456 * c + 6277101735386680763835789423207666416102355444464034512896 * d < BW := by
  unfold BW; omega
theorem sub_end {a b T : Nat} {c : Int} (ha : a < BW) (hb : b < BW) (hc : 0 ≤ c ∧ c ≤ 1) (hT : (T : Int) = (a : Int) - b + 115792089237316195423570985008687907853269984665640564039457584007913129639936 * c) (hL : T < BW) : T = subN a b ∧ c = lessN a b := by
  have hm : subN a b = if a < b then a + (BW - b) else a - b := by
    unfold subN
    split
    · exact Nat.mod_eq_of_lt (by omega)
    · rw [show a + (BW - b) = a - b + BW by omega, Nat.add_mod_right]; exact Nat.mod_eq_of_lt (by omega)
  rw [hm]
  unfold lessN
  unfold BW at *
  clear hm
  rcases (show c = 0 ∨ c = 1 by omega) with rfl | rfl
  · rw [if_neg (by omega), if_neg (by omega)]; omega
  · rw [if_pos (by omega), if_pos (by omega)]; omega
theorem sub_law {a b : Nat} (ha : a < BW) (hb : b < BW) (x0 x1 x2 x3 c1 c2 c3 : Int) (e0 : x0 = Int.ofNat (limb 0 a) - Int.ofNat (limb 0 b) - 0) (f1 : c1 = -(x0 / 18446744073709551616))
    (e1 : x1 = Int.ofNat (limb 1 a) - Int.ofNat (limb 1 b) - c1) (f2 : c2 = -(x1 / 18446744073709551616)) (e2 : x2 = Int.ofNat (limb 2 a) - Int.ofNat (limb 2 b) - c2) (f3 : c3 = -(x2 / 18446744073709551616))
    (e3 : x3 = Int.ofNat (limb 3 a) - Int.ofNat (limb 3 b) - c3) :
    (0 ≤ c1 ∧ c1 ≤ 1) ∧ (0 ≤ c2 ∧ c2 ≤ 1) ∧ (0 ≤ c3 ∧ c3 ≤ 1) ∧
    setl 3 (x3 % 18446744073709551616).toNat (setl 2 (x2 % 18446744073709551616).toNat (setl 1 (x1 % 18446744073709551616).toNat (setl 0 (x0 % 18446744073709551616).toNat 0))) = subN a b ∧ -(x3 / 18446744073709551616) = lessN a b := by
  have a0 := limb_lt 0 a; have a1 := limb_lt 1 a; have a2 := limb_lt 2 a; have a3 := limb_lt 3 a
  have b0 := limb_lt 0 b; have b1 := limb_lt 1 b; have b2 := limb_lt 2 b; have b3 := limb_lt 3 b
  have ea := limb_split ha; have eb := limb_split hb
  generalize limb 0 a = p0 at *; generalize limb 1 a = p1 at *; generalize limb 2 a = p2 at *; generalize limb 3 a = p3 at *
  generalize limb 0 b = q0 at *; generalize limb 1 b = q1 at *; generalize limb 2 b = q2 at *; generalize limb 3 b = q3 at *
  simp only [Int.ofNat_eq_natCast] at e0 e1 e2 e3
  have g1 : 0 ≤ c1 ∧ c1 ≤ 1 := by omega
  have g2 : 0 ≤ c2 ∧ c2 ≤ 1 := by omega
  have g3 : 0 ≤ c3 ∧ c3 ≤ 1 := by omega
  have g4 : ∃ y : Nat, (x0 % 18446744073709551616).toNat = y ∧ (y : Int) = x0 + 18446744073709551616 * c1 ∧ y < 18446744073709551616 := ⟨_, rfl, by omega, by omega⟩
  have g5 : ∃ y : Nat, (x1 % 18446744073709551616).toNat = y ∧ (y : Int) = x1 + 18446744073709551616 * c2 ∧ y < 18446744073709551616 := ⟨_, rfl, by omega, by omega⟩
  have g6 : ∃ y : Nat, (x2 % 18446744073709551616).toNat = y ∧ (y : Int) = x2 + 18446744073709551616 * c3 ∧ y < 18446744073709551616 := ⟨_, rfl, by omega, by omega⟩
  have g7 : ∃ c4 : Int, (0 ≤ c4 ∧ c4 ≤ 1) ∧ -(x3 / 18446744073709551616) = c4 ∧ ∃ y : Nat, (x3 % 18446744073709551616).toNat = y ∧ (y : Int) = x3 + 18446744073709551616 * c4 ∧ y < 18446744073709551616 := ⟨_, by omega, rfl, _, rfl, by omega, by omega⟩
  clear f1 f2 f3
  obtain ⟨y0, h0, k0, l0⟩ := g4; obtain ⟨y1, h1, k1, l1⟩ := g5; obtain ⟨y2, h2, k2, l2⟩ := g6; obtain ⟨c4, hc, hd, y3, h3, k3, l3⟩ := g7
  rw [h0, h1, h2, h3, hd, setl4 l0 l1 l2]
  clear h0 h1 h2 h3 hd
  refine ⟨g1, g2, g3, ?_⟩
  clear g1 g2 g3 a0 a1 a2 a3 b0 b1 b2 b3
  have hT : ((y0 + 18446744073709551616 * y1 + 340282366920938463463374607431768211456 * y2 + 6277101735386680763835789423207666416102355444464034512896 * y3 : Nat) : Int) = (a : Int) - b + 115792089237316195423570985008687907853269984665640564039457584007913129639936 * c4 := by
    clear l0 l1 l2 l3 hc ha hb
    omega
  have hL : y0 + 18446744073709551616 * y1 + 340282366920938463463374607431768211456 * y2 + 6277101735386680763835789423207666416102355444464034512896 * y3 < BW := num_lt l0 l1 l2 l3
  clear ea eb e0 e1 e2 e3 k0 k1 k2 k3 l0 l1 l2 l3
  generalize y0 + 18446744073709551616 * y1 + 340282366920938463463374607431768211456 * y2 + 6277101735386680763835789423207666416102355444464034512896 * y3 = T at *
  exact sub_end ha hb hc hT hL
set_option maxRecDepth 20000 in
theorem limbs_Sub (a b : Nat) : PureOk Try.prog 70 [aN a, aN b] (.tup [aN (subN a b), aU (lessN a b)]) := by
  refine pure_of_ev (cxK [sub64K]) Try.func70 rfl (by kernel_rfl) (Nat.le_of_ble_eq_true rfl) ⟨trivial, trivial, trivial⟩ ⟨trivial, rfl, trivial⟩ fun hf w => ?_
  conv => whnf
  have h := sub_law hf.1.1 hf.2.1.1 _ _ _ _ _ _ _ rfl rfl rfl rfl rfl rfl rfl
  refine LoopK.unroll 5 ?_
  exact ⟨by kernel_rfl, ⟨Int.le_refl _, by decide⟩, by kernel_rfl, by kernel_rfl, h.1, by kernel_rfl, by kernel_rfl, h.2.1, by kernel_rfl, by kernel_rfl, h.2.2.1, by kernel_rfl, h.2.2.2.1, h.2.2.2.2, trivial⟩
def limbsSubK : Known Try.prog := kNN 70 (fun _ _ => True) (fun a b => .tup [aN (subN a b), aU (lessN a b)]) (fun a b _ => limbs_Sub a b)

def addN (a b : Nat) : Nat := (a + b) % BW
def moreN (a b : Nat) : Int := (((a + b) / BW : Nat) : Int)
theorem add_law {a b : Nat} (ha : a < BW) (hb : b < BW) (x0 x1 x2 x3 c1 c2 c3 : Int) (e0 : x0 = Int.ofNat (limb 0 a) + Int.ofNat (limb 0 b) + 0) (f1 : c1 = x0 / 18446744073709551616)
    (e1 : x1 = Int.ofNat (limb 1 a) + Int.ofNat (limb 1 b) + c1) (f2 : c2 = x1 / 18446744073709551616) (e2 : x2 = Int.ofNat (limb 2 a) + Int.ofNat (limb 2 b) + c2) (f3 : c3 = x2 / 18446744073709551616)
    (e3 : x3 = Int.ofNat (limb 3 a) + Int.ofNat (limb 3 b) + c3) :
    (0 ≤ c1 ∧ c1 ≤ 1) ∧ (0 ≤ c2 ∧ c2 ≤ 1) ∧ (0 ≤ c3 ∧ c3 ≤ 1) ∧
    setl 3 (x3 % 18446744073709551616).toNat (setl 2 (x2 % 18446744073709551616).toNat (setl 1 (x1 % 18446744073709551616).toNat (setl 0 (x0 % 18446744073709551616).toNat 0))) = addN a b ∧ x3 / 18446744073709551616 = moreN a b := by
  have a0 := limb_lt 0 a; have a1 := limb_lt 1 a; have a2 := limb_lt 2 a; have a3 := limb_lt 3 a
  have b0 := limb_lt 0 b; have b1 := limb_lt 1 b; have b2 := limb_lt 2 b; have b3 := limb_lt 3 b
  have ea := limb_split ha; have eb := limb_split hb
  generalize limb 0 a = p0 at *; generalize limb 1 a = p1 at *; generalize limb 2 a = p2 at *; generalize limb 3 a = p3 at *
  generalize limb 0 b = q0 at *; generalize limb 1 b = q1 at *; generalize limb 2 b = q2 at *; generalize limb 3 b = q3 at *
  simp only [Int.ofNat_eq_natCast] at e0 e1 e2 e3
  have g1 : 0 ≤ c1 ∧ c1 ≤ 1 := by omega
  have g2 : 0 ≤ c2 ∧ c2 ≤ 1 := by omega
  have g3 : 0 ≤ c3 ∧ c3 ≤ 1 := by omega
  have g4 : ∃ y : Nat, (x0 % 18446744073709551616).toNat = y ∧ (y : Int) = x0 - 18446744073709551616 * c1 ∧ y < 18446744073709551616 := ⟨_, rfl, by omega, by omega⟩
  have g5 : ∃ y : Nat, (x1 % 18446744073709551616).toNat = y ∧ (y : Int) = x1 - 18446744073709551616 * c2 ∧ y < 18446744073709551616 := ⟨_, rfl, by omega, by omega⟩
  have g6 : ∃ y : Nat, (x2 % 18446744073709551616).toNat = y ∧ (y : Int) = x2 - 18446744073709551616 * c3 ∧ y < 18446744073709551616 := ⟨_, rfl, by omega, by omega⟩
  have g7 : ∃ c4 : Int, (0 ≤ c4 ∧ c4 ≤ 1) ∧ x3 / 18446744073709551616 = c4 ∧ ∃ y : Nat, (x3 % 18446744073709551616).toNat = y ∧ (y : Int) = x3 - 18446744073709551616 * c4 ∧ y < 18446744073709551616 := ⟨_, by omega, rfl, _, rfl, by omega, by omega⟩
  clear f1 f2 f3
  obtain ⟨y0, h0, k0, l0⟩ := g4; obtain ⟨y1, h1, k1, l1⟩ := g5; obtain ⟨y2, h2, k2, l2⟩ := g6; obtain ⟨c4, hc, hd, y3, h3, k3, l3⟩ := g7
  rw [h0, h1, h2, h3, hd, setl4 l0 l1 l2]
  clear h0 h1 h2 h3 hd
  refine ⟨g1, g2, g3, ?_⟩
  clear g1 g2 g3 a0 a1 a2 a3 b0 b1 b2 b3
  have hT : ((y0 + 18446744073709551616 * y1 + 340282366920938463463374607431768211456 * y2 + 6277101735386680763835789423207666416102355444464034512896 * y3 : Nat) : Int) = (a : Int) + b - 115792089237316195423570985008687907853269984665640564039457584007913129639936 * c4 := by
    clear l0 l1 l2 l3 hc ha hb
    omega
  have hL : y0 + 18446744073709551616 * y1 + 340282366920938463463374607431768211456 * y2 + 6277101735386680763835789423207666416102355444464034512896 * y3 < BW := num_lt l0 l1 l2 l3
  clear ea eb e0 e1 e2 e3 k0 k1 k2 k3 l0 l1 l2 l3
  generalize y0 + 18446744073709551616 * y1 + 340282366920938463463374607431768211456 * y2 + 6277101735386680763835789423207666416102355444464034512896 * y3 = T at *
  unfold addN moreN BW at *
  omega
set_option maxRecDepth 20000 in
theorem limbs_Add (a b : Nat) : PureOk Try.prog 87 [aN a, aN b] (.tup [aN (addN a b), aU (moreN a b)]) := by
  refine pure_of_ev (cxK [add64K]) Try.func87 rfl (by kernel_rfl) (Nat.le_of_ble_eq_true rfl) ⟨trivial, trivial, trivial⟩ ⟨trivial, rfl, trivial⟩ fun hf w => ?_
  conv => whnf
  have h := add_law hf.1.1 hf.2.1.1 _ _ _ _ _ _ _ rfl rfl rfl rfl rfl rfl rfl
  refine LoopK.unroll 5 ?_
  exact ⟨by kernel_rfl, ⟨Int.le_refl _, by decide⟩, by kernel_rfl, by kernel_rfl, h.1, by kernel_rfl, by kernel_rfl, h.2.1, by kernel_rfl, by kernel_rfl, h.2.2.1, by kernel_rfl, h.2.2.2.1, h.2.2.2.2, trivial⟩
def limbsAddK : Known Try.prog := kNN 87 (fun _ _ => True) (fun a b => .tup [aN (addN a b), aU (moreN a b)]) (fun a b _ => limbs_Add a b)

theorem setl0 (n : Nat) : setl 0 n 0 = n := by simp [setl, num4, limb, B64]
theorem limbs_Of (n : Int) : PureOk Try.prog 53 [aU n] (tN n.toNat) := by
  refine pure_of_ev (cxK []) Try.func53 rfl (by kernel_rfl) (Nat.le_of_ble_eq_true rfl) ⟨rfl, trivial⟩ trivial fun hf w => ?_
  refine ⟨?_, trivial⟩
  exact setl0 _
def limbsOfK : Known Try.prog := kU 53 (fun _ => True) (fun n => tN n.toNat) (fun n _ => limbs_Of n)

def cmpN (a b : Nat) : Int := if a = b then 0 else if a < b then -1 else 1
set_option maxRecDepth 20000 in
theorem limbs_Cmp (a b : Nat) : PureOk Try.prog 66 [aN a, aN b] (tI (cmpN a b)) := by
  refine pure_of_ev (cxK [limbsSubK]) Try.func66 rfl (by kernel_rfl) (Nat.le_of_ble_eq_true rfl) ⟨trivial, trivial, trivial⟩ rfl fun hf w => ?_
  conv => whnf
  refine brk (fun h1 => ?_) (fun h1 => ?_)
  · refine ⟨?_, trivial⟩
    unfold cmpN; rw [if_pos (by simpa using h1)]
  · refine ⟨trivial, ?_⟩
    have h1 : ¬ a = b := Nat.ne_of_beq_eq_false h1
    conv => whnf
    refine brk (fun h2 => ?_) (fun h2 => ?_) <;> simp only [ieqB_eq, decide_eq_true_eq, decide_eq_false_iff_not, lessN] at h2
    · refine ⟨?_, trivial⟩
      unfold cmpN; rw [if_neg h1, if_pos (by split at h2 <;> first | assumption | omega)]
    · refine ⟨?_, trivial⟩
      unfold cmpN; rw [if_neg h1, if_neg (by split at h2 <;> first | assumption | omega)]
def limbsCmpK : Known Try.prog := kNN 66 (fun _ _ => True) (fun a b => tI (cmpN a b)) (fun a b _ => limbs_Cmp a b)
end Go.Proofs.Ytacjiajijigebaa
