/- What is known of divisions of long numbers. No condition. -/
import Derived.Test.YtacjiajijigebaaDv
namespace Go.Proofs.Ytacjiajijigebaa
open Go Go.Ev
set_option linter.unusedSimpArgs false

def dR (a b : Nat) : Nat := if b = 0 then 0 else a % b
def dE (b : Nat) : Int := if b = 0 then 1 else 0

theorem limb0_small {b : Nat} (h : b < 18446744073709551616) : limb 0 b = b := by unfold limb B64; simp only [Nat.pow_zero, Nat.div_one]; exact Nat.mod_eq_of_lt h
theorem setl0_small {v x : Nat} (hx : x < 18446744073709551616) : setl 0 v x = v := by
  have h1 : ∀ i, 1 ≤ i → limb i x = 0 := by
    intro i hi
    unfold limb
    rw [Nat.div_eq_of_lt, Nat.zero_mod]
    exact Nat.lt_of_lt_of_le hx (Nat.le_trans (Nat.le_of_eq (Nat.pow_one B64).symm) (Nat.pow_le_pow_right (by decide) hi))
  simp only [setl, num4, h1 1 (by decide), h1 2 (by decide), h1 3 (by decide), Nat.mul_zero, Nat.add_zero]
theorem setl4r {a b c d x : Nat} (hb : b < 18446744073709551616) (hc : c < 18446744073709551616) (hd : d < 18446744073709551616) : setl 0 a (setl 1 b (setl 2 c (setl 3 d x))) = a + 18446744073709551616 * b + 340282366920938463463374607431768211456 * c + 6277101735386680763835789423207666416102355444464034512896 * d := by
  have x0 := limb_lt 0 x; have x1 := limb_lt 1 x; have x2 := limb_lt 2 x
  have f3 : ∀ i e, setl i e (setl 3 d x) = setl i e (num4 (limb 0 x) (limb 1 x) (limb 2 x) d) := fun _ _ => rfl
  have f2 : ∀ i e, setl i e (setl 2 c (setl 3 d x)) = setl i e (num4 (limb 0 x) (limb 1 x) c d) := fun i e => by
    have h := limb_num4 x0 x1 x2 hd
    show setl i e (num4 (limb 0 (num4 _ _ _ _)) (limb 1 (num4 _ _ _ _)) c (limb 3 (num4 _ _ _ _))) = _
    rw [h.1, h.2.1, h.2.2.2.1]
  have f1 : ∀ i e, setl i e (setl 1 b (setl 2 c (setl 3 d x))) = setl i e (num4 (limb 0 x) b c d) := fun i e => by
    have h := limb_num4 x0 x1 hc hd
    rw [f2]
    show setl i e (num4 (limb 0 (num4 _ _ _ _)) b (limb 2 (num4 _ _ _ _)) (limb 3 (num4 _ _ _ _))) = _
    rw [h.1, h.2.2.1, h.2.2.2.1]
  rw [f1]
  have h := limb_num4 x0 hb hc hd
  show num4 a (limb 1 (num4 _ _ _ _)) (limb 2 (num4 _ _ _ _)) (limb 3 (num4 _ _ _ _)) = _
  rw [h.2.1, h.2.2.1, h.2.2.2.1]
  simp only [num4, B64, Nat.reducePow]
theorem short_step {R x b : Nat} (hR : R < b) (hb : b < 18446744073709551616) (hx : x < 18446744073709551616) (Ri : Nat) (q m : Int) (hRi : Ri = R)
    (eq : q = (Int.ofNat (limb 0 Ri) * 18446744073709551616 + Int.ofNat x) / Int.ofNat (limb 0 b)) (em : m = (Int.ofNat (limb 0 Ri) * 18446744073709551616 + Int.ofNat x) % Int.ofNat (limb 0 b)) :
    Int.ofNat (limb 0 Ri) < Int.ofNat (limb 0 b) ∧ ∃ k n : Nat, q.toNat = k ∧ setl 0 m.toNat Ri = n ∧ n < b ∧ k < 18446744073709551616 ∧ R * 18446744073709551616 + x = b * k + n := by
  subst hRi
  rw [limb0_small (show Ri < 18446744073709551616 by omega), limb0_small hb] at eq em
  rw [limb0_small (show Ri < 18446744073709551616 by omega), limb0_small hb]
  have e1 : Int.ofNat Ri * 18446744073709551616 + Int.ofNat x = ((Ri * 18446744073709551616 + x : Nat) : Int) := by simp
  rw [e1] at eq em
  have e2 : q = (((Ri * 18446744073709551616 + x) / b : Nat) : Int) := by rw [eq, Int.ofNat_eq_natCast, ← Int.natCast_ediv]
  have e3 : m = (((Ri * 18446744073709551616 + x) % b : Nat) : Int) := by rw [em, Int.ofNat_eq_natCast, ← Int.natCast_emod]
  subst e2 e3
  have hT : Ri * 18446744073709551616 + x < b * 18446744073709551616 := by omega
  generalize Ri * 18446744073709551616 + x = T at *
  refine ⟨Int.ofNat_lt.2 hR, T / b, T % b, Int.toNat_natCast _, ?_, Nat.mod_lt _ (by omega), ?_, (Nat.div_add_mod _ _).symm⟩
  · rw [setl0_small (by omega), Int.toNat_natCast]
  · rw [Nat.div_lt_iff_lt_mul (by omega), Nat.mul_comm]
    exact hT
theorem short_lin {a a0 a1 a2 a3 n3 n2 n1 n0 p3 p2 p1 p0 : Nat} (ea : a = a0 + 18446744073709551616 * a1 + 340282366920938463463374607431768211456 * a2 + 6277101735386680763835789423207666416102355444464034512896 * a3)
    (h3 : 0 * 18446744073709551616 + a3 = p3 + n3) (h2 : n3 * 18446744073709551616 + a2 = p2 + n2) (h1 : n2 * 18446744073709551616 + a1 = p1 + n1) (h0 : n1 * 18446744073709551616 + a0 = p0 + n0) :
    a = n0 + (p0 + 18446744073709551616 * p1 + 340282366920938463463374607431768211456 * p2 + 6277101735386680763835789423207666416102355444464034512896 * p3) := by omega
theorem short_end {a b a0 a1 a2 a3 n3 n2 n1 n0 k3 k2 k1 k0 : Nat} (ea : a = a0 + 18446744073709551616 * a1 + 340282366920938463463374607431768211456 * a2 + 6277101735386680763835789423207666416102355444464034512896 * a3)
    (h3 : 0 * 18446744073709551616 + a3 = b * k3 + n3) (h2 : n3 * 18446744073709551616 + a2 = b * k2 + n2) (h1 : n2 * 18446744073709551616 + a1 = b * k1 + n1) (h0 : n1 * 18446744073709551616 + a0 = b * k0 + n0) (hn : n0 < b) :
    k0 + 18446744073709551616 * k1 + 340282366920938463463374607431768211456 * k2 + 6277101735386680763835789423207666416102355444464034512896 * k3 = a / b ∧ n0 = a % b := by
  have e : a = n0 + b * (k0 + 18446744073709551616 * k1 + 340282366920938463463374607431768211456 * k2 + 6277101735386680763835789423207666416102355444464034512896 * k3) := by
    rw [Nat.mul_add, Nat.mul_add, Nat.mul_add, Nat.mul_left_comm b, Nat.mul_left_comm b, Nat.mul_left_comm b]
    exact short_lin ea h3 h2 h1 h0
  have h := Nat.div_mod_unique (a := a) (b := b) (c := n0) (d := k0 + 18446744073709551616 * k1 + 340282366920938463463374607431768211456 * k2 + 6277101735386680763835789423207666416102355444464034512896 * k3) (by omega)
  have := h.2 ⟨e.symm, hn⟩
  exact ⟨this.1.symm, this.2.symm⟩

/-- What stays in the rounds of a division: the bits from i on are divided. -/
def DI (a b i Q R : Nat) : Prop := R = (a / 2 ^ i) % b ∧ R < b ∧ Q = a / 2 ^ i / b * 2 ^ i
theorem DI_start {a b : Nat} (hb : ¬ b = 0) : DI a b (bitLen a - 0) 0 0 := by
  have e : a / 2 ^ bitLen a = 0 := Nat.div_eq_of_lt (bitLen_spec a).1
  exact ⟨by rw [Nat.sub_zero, e, Nat.zero_mod], by omega, by rw [Nat.sub_zero, e, Nat.zero_div, Nat.zero_mul]⟩
theorem bitI_01 (a : Nat) (i : Int) : 0 ≤ bitI a i ∧ bitI a i ≤ 1 := by
  unfold bitI
  split <;> omega
theorem setl_setD {j v Q : Nat} (hj : j < 4) (hQ : Q < BW) (hv : v < B64) : setl j v Q = setD B64 j v Q := by
  have x0 := limb_lt 0 Q; have x1 := limb_lt 1 Q; have x2 := limb_lt 2 Q; have x3 := limb_lt 3 Q
  have key : ∀ a b c d : Nat, a < B64 → b < B64 → c < B64 → d < B64 → (∀ i, i < 4 → limb i (num4 a b c d) = dg B64 i (setD B64 j v Q)) → num4 a b c d = setD B64 j v Q := by
    intro a b c d ha hb hc hd h
    have hn := (limb_num4 ha hb hc hd).2.2.2.2
    exact dg_ext 4 _ _ hn (setD_lt (by decide) hv hQ hj) (fun i hi => h i hi)
  have hd : ∀ i, dg B64 i (setD B64 j v Q) = if i = j then v else limb i Q := fun i => dg_setD (by decide) hv j Q i
  match j, hj with
  | 0, _ => exact key _ _ _ _ hv x1 x2 x3 (fun i hi => by
      have h := limb_num4 hv x1 x2 x3
      rw [hd]; match i, hi with
      | 0, _ => exact h.1
      | 1, _ => exact h.2.1
      | 2, _ => exact h.2.2.1
      | 3, _ => exact h.2.2.2.1)
  | 1, _ => exact key _ _ _ _ x0 hv x2 x3 (fun i hi => by
      have h := limb_num4 x0 hv x2 x3
      rw [hd]; match i, hi with
      | 0, _ => exact h.1
      | 1, _ => exact h.2.1
      | 2, _ => exact h.2.2.1
      | 3, _ => exact h.2.2.2.1)
  | 2, _ => exact key _ _ _ _ x0 x1 hv x3 (fun i hi => by
      have h := limb_num4 x0 x1 hv x3
      rw [hd]; match i, hi with
      | 0, _ => exact h.1
      | 1, _ => exact h.2.1
      | 2, _ => exact h.2.2.1
      | 3, _ => exact h.2.2.2.1)
  | 3, _ => exact key _ _ _ _ x0 x1 x2 hv (fun i hi => by
      have h := limb_num4 x0 x1 x2 hv
      rw [hd]; match i, hi with
      | 0, _ => exact h.1
      | 1, _ => exact h.2.1
      | 2, _ => exact h.2.2.1
      | 3, _ => exact h.2.2.2.1)
theorem setl_bit {Q i c : Nat} (hQ : Q < BW) (hd : Q % 2 ^ (i + 1) = 0) (hi : i < 256) (hc : c ≤ 1) :
    setl (0 + i / 64) (ibit .or .u64 (Int.ofNat (limb (0 + i / 64) Q)) (IntKind.wrap .u64 ((c : Int) * 2 ^ shN .u64 ((i % 64 : Nat) : Int)))).toNat Q = Q + c * 2 ^ i := by
  rw [Nat.zero_add, shNs _ (by omega)]
  have ht : i % 64 < 64 := Nat.mod_lt _ (by decide)
  have hij : i = 64 * (i / 64) + i % 64 := (Nat.div_add_mod _ _).symm
  have hj : i / 64 < 4 := by omega
  generalize i / 64 = j at *
  generalize i % 64 = t at *
  have hp : 2 ^ t * 2 ^ (63 - t) * 2 = 18446744073709551616 := by rw [← Nat.pow_add, ← Nat.pow_succ, show (t + (63 - t)).succ = 64 by omega]
  have hct : c * 2 ^ t ≤ 2 ^ t := by have := Nat.mul_le_mul_right (2 ^ t) hc; omega
  have hpt : 0 < 2 ^ t := Nat.two_pow_pos t
  have hp3 : 0 < 2 ^ (63 - t) := Nat.two_pow_pos _
  have hle : 2 ^ t * 2 ≤ 18446744073709551616 := by
    rw [← hp]; exact Nat.mul_le_mul_right 2 (Nat.le_mul_of_pos_right _ hp3)
  have ew : IntKind.wrap .u64 ((c : Int) * 2 ^ t) = ((c * 2 ^ t : Nat) : Int) := by
    rw [wrapU, show (c : Int) * 2 ^ t = ((c * 2 ^ t : Nat) : Int) by simp]; omega
  obtain ⟨z, hz⟩ : ∃ z, Q = 2 ^ (i + 1) * z := ⟨Q / 2 ^ (i + 1), by have := Nat.div_add_mod Q (2 ^ (i + 1)); omega⟩
  have hB : B64 ^ j = 2 ^ (64 * j) := by rw [Nat.pow_mul]; rfl
  have e1 : Q / B64 ^ j = 2 ^ (t + 1) * z := by
    rw [hz, hB, show i + 1 = 64 * j + (t + 1) by omega, Nat.pow_add, Nat.mul_assoc, Nat.mul_div_cancel_left _ (Nat.two_pow_pos _)]
  have e2 : limb j Q = 2 ^ (t + 1) * (z % 2 ^ (63 - t)) := by
    unfold limb
    rw [e1, show B64 = 2 ^ (t + 1) * 2 ^ (63 - t) by rw [← Nat.pow_add, show t + 1 + (63 - t) = 64 by omega]; rfl, Nat.mul_mod_mul_left]
  have hlt := limb_lt j Q
  have e3 : limb j Q ||| c * 2 ^ t = limb j Q + c * 2 ^ t := by
    rw [e2, Nat.two_pow_add_eq_or_of_lt (by rw [Nat.pow_succ]; omega)]
  have hlt2 : limb j Q + c * 2 ^ t < 18446744073709551616 := by
    have hm : z % 2 ^ (63 - t) + 1 ≤ 2 ^ (63 - t) := Nat.mod_lt _ hp3
    have := Nat.mul_le_mul_left (2 ^ (t + 1)) hm
    rw [Nat.mul_add, ← e2, Nat.mul_one, ← Nat.pow_add, show t + 1 + (63 - t) = 64 by omega, Nat.pow_succ] at this
    omega
  rw [ew, show Int.ofNat (limb j Q) = ((limb j Q : Nat) : Int) from rfl, (ibitU (limb j Q) (c * 2 ^ t) hlt (by omega)).2.1, e3, Int.toNat_natCast, setl_setD hj hQ hlt2]
  have h5 := setD_eq B64 j (limb j Q + c * 2 ^ t) Q
  rw [limb_dg, Nat.add_mul] at h5
  rw [limb_dg]
  have e6 : c * 2 ^ t * B64 ^ j = c * 2 ^ i := by rw [hB, Nat.mul_assoc, ← Nat.pow_add, show t + 64 * j = i by omega]
  omega
theorem DI_step {a b i Q R : Nat} (h : DI a b (i + 1) Q R) :
    Q + (2 * R + (bitI a i).toNat) / b * 2 ^ i = a / 2 ^ i / b * 2 ^ i ∧ (2 * R + (bitI a i).toNat) % b = a / 2 ^ i % b ∧ (2 * R + (bitI a i).toNat) / b ≤ 1 := by
  obtain ⟨h1, h2, h3⟩ := h
  have eb : (bitI a i).toNat = a / 2 ^ i % 2 := by
    unfold bitI; rw [if_neg (by omega), Int.toNat_natCast, Int.toNat_natCast]
  rw [eb]
  have e0 : a / 2 ^ (i + 1) = a / 2 ^ i / 2 := by rw [Nat.div_div_eq_div_mul, Nat.pow_succ]
  rw [e0] at h1 h3
  generalize a / 2 ^ i = x at *
  have e2 : x = b * (2 * (x / 2 / b)) + (2 * R + x % 2) := by
    have h4 := Nat.div_add_mod (x / 2) b
    rw [← h1] at h4
    rw [Nat.mul_left_comm]
    generalize b * (x / 2 / b) = W at *
    omega
  have hb1 : x % 2 ≤ 1 := by omega
  have e3 : x / b = 2 * (x / 2 / b) + (2 * R + x % 2) / b := by
    conv => lhs; rw [e2]
    rw [Nat.mul_add_div (by omega)]
  have e4 : x % b = (2 * R + x % 2) % b := by
    conv => lhs; rw [e2]
    rw [Nat.mul_add_mod]
  refine ⟨?_, e4.symm, ?_⟩
  · rw [e3, h3, Nat.add_mul]
    generalize x / 2 / b = q
    rw [Nat.pow_succ]
    congr 1
    ac_rfl
  · have : (2 * R + x % 2) / b < 2 := by rw [Nat.div_lt_iff_lt_mul (by omega)]; omega
    omega
def divN (a b : Nat) : AV := .tup [aN (a / b), aN (dR a b), aI (dE b)]
set_option maxRecDepth 20000 in
theorem divides_Div (a b : Nat) : PureOk Try.prog 71 [aN a, aN b] (divN a b) := by
  refine pure_of_ev (cxK [shortK, div64K, limbsBitsK, limbsBitK, nextK]) Try.func71 rfl (by kernel_rfl) (Nat.le_of_ble_eq_true rfl) ⟨trivial, trivial, trivial⟩ ⟨trivial, trivial, rfl, trivial⟩ fun hf w => ?_
  have ha := hf.1.1; have hb := hf.2.1.1
  conv => whnf
  refine brk (fun h1 => ?_) (fun h1 => ?_)
  · have h1 : b = 0 := Nat.eq_of_beq_eq_true h1
    subst h1
    exact ⟨by kernel_rfl, by kernel_rfl, (Nat.div_zero a).symm, rfl, rfl, trivial⟩
  have h1 : ¬ b = 0 := Nat.ne_of_beq_eq_false h1
  have er : a % b = dR a b := (if_neg h1).symm
  have ee : (0 : Int) = dE b := (if_neg h1).symm
  refine ⟨trivial, ?_⟩
  conv => whnf
  refine brk (fun h2 => ?_) (fun h2 => ?_) <;> simp only [decide_eq_true_eq, decide_eq_false_iff_not] at h2
  · have hb' : b < 18446744073709551616 := h2
    have h0 : 0 < b := by omega
    obtain ⟨s3, k3, n3, u3, v3, w3, x3, y3⟩ := short_step h0 hb' (limb_lt 3 a) 0 _ _ rfl rfl rfl
    obtain ⟨s2, k2, n2, u2, v2, w2, x2, y2⟩ := short_step w3 hb' (limb_lt 2 a) _ _ _ v3 rfl rfl
    obtain ⟨s1, k1, n1, u1, v1, w1, x1, y1⟩ := short_step w2 hb' (limb_lt 1 a) _ _ _ v2 rfl rfl
    obtain ⟨s0, k0, n0, u0, v0, w0, x0, y0⟩ := short_step w1 hb' (limb_lt 0 a) _ _ _ v1 rfl rfl
    have hE := short_end (limb_split ha) y3 y2 y1 y0 w0
    have hq := setl4r (a := k0) (x := 0) x1 x2 x3
    rw [hE.1, ← u0, ← u1, ← u2, ← u3] at hq
    rw [hE.2, er] at v0
    conv => whnf
    refine LoopK.unroll 5 ?_
    exact ⟨by kernel_rfl, s3, by kernel_rfl, by kernel_rfl, s2, by kernel_rfl, by kernel_rfl, s1, by kernel_rfl, by kernel_rfl, s0, by kernel_rfl, by kernel_rfl, by kernel_rfl, hq, v0, ee, trivial⟩
  refine ⟨trivial, ?_⟩
  conv => whnf
  have hn : bitLen a ≤ 256 := bitLen_le.2 ha
  refine LoopK.cut (Nat × Nat × Nat) (fun x => [(44, tI x.1)]) (fun x => [(2, [.num x.2.1]), (3, [.num x.2.2])]) (fun x => x.1 ≤ bitLen a ∧ DI a b (bitLen a - x.1) x.2.1 x.2.2) (fun x => bitLen a - x.1) (0, 0, 0) ?_ ?_
    Unit (fun _ => []) (fun _ => [(2, [.num (a / b)]), (3, [.num (a % b)])]) (fun _ => True) 3 ?_ ?_
  · exact ⟨Nat.zero_le _, (DI_start h1)⟩
  · repeat' (refine And.intro ?_ ?_)
    all_goals try first | with_reducible rfl | exact trivial
    rfl
  · rintro ⟨k, Q, R⟩ ⟨hk, hI⟩
    replace hk : k ≤ bitLen a := hk
    replace hI : DI a b (bitLen a - k) Q R := hI
    conv => whnf
    refine brk (fun h3 => ?_) (fun h3 => ?_)
    · replace h3 : iltB (k : Int) (bitLen a : Int) = true := h3
      simp only [iltB_eq, decide_eq_true_eq] at h3
      obtain ⟨i, hi⟩ : ∃ i, bitLen a - k = i + 1 := ⟨bitLen a - k - 1, by omega⟩
      rw [hi] at hI
      have e1 : IntKind.wrap .i64 (IntKind.wrap .i64 ((bitLen a : Int) - 1) - (k : Int)) = (i : Int) := by
        rw [wrapI ((bitLen a : Int) - 1) (by omega), wrapI _ (by omega)]; omega
      have e2 : IntKind.wrap .i64 ((i : Int).tdiv 64) = ((i / 64 : Nat) : Int) := by
        rw [Int.tdiv_eq_ediv_of_nonneg (Int.natCast_nonneg i), wrapI _ (by omega)]; omega
      have e3 : ((i : Int).tmod 64) = ((i % 64 : Nat) : Int) := by rw [Int.tmod_eq_emod_of_nonneg (Int.natCast_nonneg i)]; omega
      have hb4 : Nat.blt (i / 64) 4 = true := by rw [Nat.blt_eq]; omega
      refine ⟨by kernel_rfl, trivial, ⟨hI.2.1, bitI_01 _ _⟩, by kernel_rfl, by kernel_rfl, ?_⟩
      conv => whnf
      rw [e1, e2]
      conv => whnf
      refine oblT hb4 ?_
      conv => whnf
      refine oblT (by rw [Nat.zero_add]; exact hb4) ?_
      conv => whnf
      rw [e3]
      conv => whnf
      refine oblT hb4 ?_
      conv => whnf
      refine oblT (by rw [Nat.zero_add]; exact hb4) ?_
      refine ⟨by kernel_rfl, (k + 1, a / 2 ^ i / b * 2 ^ i, a / 2 ^ i % b), ⟨by omega, ?_⟩, ?_, ?_⟩
      · rw [show bitLen a - (k + 1) = i by omega]
        exact ⟨rfl, Nat.mod_lt _ (by omega), rfl⟩
      · repeat' (refine And.intro ?_ ?_)
        all_goals try first | with_reducible rfl | exact trivial
        · show IntKind.wrap .i64 ((k : Int) + 1) = ((k + 1 : Nat) : Int)
          rw [wrapI _ (by omega)]; rfl
        · have hs := DI_step (a := a) (b := b) (i := i) hI
          have hQ : Q < BW := by
            rw [hI.2.2]; exact Nat.lt_of_le_of_lt (Nat.le_trans (Nat.mul_le_mul_right _ (Nat.div_le_self _ _)) (Nat.div_mul_le_self _ _)) ha
          have hl := setl_bit (c := (2 * R + (bitI a i).toNat) / b) hQ (by rw [hI.2.2]; exact Nat.mul_mod_left _ _) (by omega) (hs.2.2)
          refine Eq.trans hl ?_
          exact hs.1
        · exact (DI_step hI).2.1
      · show bitLen a - (k + 1) < bitLen a - k
        omega
    · replace h3 : iltB (k : Int) (bitLen a : Int) = false := h3
      simp only [iltB_eq, decide_eq_false_iff_not] at h3
      have hk2 : bitLen a - k = 0 := by omega
      rw [hk2] at hI
      refine ⟨(), trivial, ?_⟩
      repeat' (refine And.intro ?_ ?_)
      all_goals try first | with_reducible rfl | exact trivial
      · show Q = a / b
        rw [hI.2.2]; simp
      · show R = a % b
        rw [hI.1]; simp
  · intro _ _
    refine ⟨by kernel_rfl, by kernel_rfl, rfl, er, ee, trivial⟩
end Go.Proofs.Ytacjiajijigebaa
