/- What is known of powers that go round. No condition. -/
import Derived.Test.YtacjiajijigebaaMo
import Derived.Test.YtacjiajijigebaaEvQ
namespace Go.Proofs.Ytacjiajijigebaa
open Go Go.Ev
set_option linter.unusedSimpArgs false

/-- Rows of functions that are handed a captured long number. -/
def kUUc (f : Nat) (p : Int → Int → Nat → Prop) (s : Int → Int → Nat → AV)
    (h : ∀ x y n l mk (mem : List Blk), bnth mem l = some ([.num n], mk) → (mk = 0 ∨ mk = EXTM) → p x y n → ∀ S w0, CallOk Try.prog S w0 f [aU x, aU y, .cv (.ptr l 0 0)] mem [l] (s x y n) noEff) : Known Try.prog :=
  ⟨f, fun args mem => match args with
    | [.cv (.int .u64 x), .cv (.int .u64 y), .cv (.ptr l 0 0)] => match bnth mem l with
      | some ([.num n], mk) => some ((mk = 0 ∨ mk = EXTM) ∧ p x y n, s x y n, noEff, [l])
      | _ => none
    | _ => none, fun args mem q r e rd hm hq S w0 => by
    split at hm
    · split at hm
      · rename_i hb
        simp only [Option.some.injEq, Prod.mk.injEq] at hm
        obtain ⟨rfl, rfl, rfl, rfl⟩ := hm
        exact h _ _ _ _ _ mem hb hq.1 hq.2 S w0
      · cases hm
    · cases hm⟩
def kNNc (f : Nat) (p : Nat → Nat → Nat → Prop) (s : Nat → Nat → Nat → AV)
    (h : ∀ x y n l mk (mem : List Blk), bnth mem l = some ([.num n], mk) → (mk = 0 ∨ mk = EXTM) → p x y n → ∀ S w0, CallOk Try.prog S w0 f [aN x, aN y, .cv (.ptr l 0 0)] mem [l] (s x y n) noEff) : Known Try.prog :=
  ⟨f, fun args mem => match args with
    | [.agg [.num x], .agg [.num y], .cv (.ptr l 0 0)] => match bnth mem l with
      | some ([.num n], mk) => some ((mk = 0 ∨ mk = EXTM) ∧ p x y n, s x y n, noEff, [l])
      | _ => none
    | _ => none, fun args mem q r e rd hm hq S w0 => by
    split at hm
    · split at hm
      · rename_i hb
        simp only [Option.some.injEq, Prod.mk.injEq] at hm
        obtain ⟨rfl, rfl, rfl, rfl⟩ := hm
        exact h _ _ _ _ _ mem hb hq.1 hq.2 S w0
      · cases hm
    · cases hm⟩

theorem exp_11 (a b : Int) (m l mk : Nat) (mem : List Blk) (hm : bnth mem l = some ([.num m], mk)) (hk : mk = 0 ∨ mk = EXTM) (h : m < 18446744073709551616 ∧ a * b / 18446744073709551616 < (m : Int)) (S : Nat → Prop) (w0 : World) :
    CallOk Try.prog S w0 140 [aU a, aU b, .cv (.ptr l 0 0)] mem [l] (tU (a * b % (m : Int))) noEff := by
  refine capOk (cxK [wordK]) (r := tU (a * b % (m : Int))) Try.func140 rfl (by kernel_rfl) (xs := [aU a, aU b, .cv (.ptr 0 0 0)]) (Nat.le_of_ble_eq_true rfl) ⟨trivial, trivial, Nat.zero_lt_one, trivial⟩ (fun g vs hv => ?_) trivial hm hk fun S w g hf hn => ?_
  · obtain ⟨_, _, _, _, _, _, _, _, _, _, _, ⟨b, hb, _⟩, _⟩ := hv
    exact ⟨b, hb⟩
  · have e : Int.ofNat (limb (0 + 0) m) = (m : Int) := by rw [Nat.add_zero, limb0_small h.1]; rfl
    refine ⟨by show a * b / 18446744073709551616 < Int.ofNat (limb (0 + 0) m); rw [e]; exact h.2, ?_, ?_⟩
    · show a * b % Int.ofNat (limb (0 + 0) m) = _
      rw [e]
    · exact ⟨rfl, trivial⟩
def exp11K : Known Try.prog := kUUc 140 (fun a b m => m < 18446744073709551616 ∧ a * b / 18446744073709551616 < (m : Int)) (fun a b m => tU (a * b % (m : Int))) exp_11
theorem exp_12 (a b m l mk : Nat) (mem : List Blk) (hm : bnth mem l = some ([.num m], mk)) (hk : mk = 0 ∨ mk = EXTM) (h : a < m ∧ b < m) (S : Nat → Prop) (w0 : World) :
    CallOk Try.prog S w0 143 [aN a, aN b, .cv (.ptr l 0 0)] mem [l] (tN (a * b % m)) noEff := by
  refine capOk (cxK [timesModK]) (r := tN (a * b % m)) Try.func143 rfl (by kernel_rfl) (xs := [aN a, aN b, .cv (.ptr 0 0 0)]) (Nat.le_of_ble_eq_true rfl) ⟨⟨trivial, trivial⟩, ⟨trivial, trivial⟩, Nat.zero_lt_one, trivial⟩ (fun g vs hv => ?_) ⟨trivial, trivial⟩ hm hk fun S w g hf hn => ?_
  · obtain ⟨_, _, _, _, _, _, _, _, _, _, _, ⟨b, hb, _⟩, _⟩ := hv
    exact ⟨b, hb⟩
  · exact ⟨h, rfl, rfl, trivial⟩
def exp12K : Known Try.prog := kNNc 143 (fun a b m => a < m ∧ b < m) (fun a b m => tN (a * b % m)) exp_12

/-- What stays in the rounds of a power: the highest k bits of n are done. -/
theorem pow_shift (a n m k : Nat) (hk : k < bitLen n) :
    let y := a ^ (n / 2 ^ (bitLen n - k)) % m
    (n / 2 ^ (bitLen n - 1 - k) % 2 = 1 → y * y % m * a % m = a ^ (n / 2 ^ (bitLen n - (k + 1))) % m) ∧ (n / 2 ^ (bitLen n - 1 - k) % 2 ≠ 1 → y * y % m = a ^ (n / 2 ^ (bitLen n - (k + 1))) % m) := by
  intro y
  have e0 : n / 2 ^ (bitLen n - k) = n / 2 ^ (bitLen n - (k + 1)) / 2 := by
    rw [Nat.div_div_eq_div_mul, ← Nat.pow_succ, show (bitLen n - (k + 1)).succ = bitLen n - k by omega]
  have e1 : bitLen n - 1 - k = bitLen n - (k + 1) := by omega
  rw [e1]
  have hy : y = a ^ (n / 2 ^ (bitLen n - (k + 1)) / 2) % m := by show a ^ _ % m = _; rw [e0]
  generalize n / 2 ^ (bitLen n - (k + 1)) = x at *
  have e2 : y * y % m = a ^ (2 * (x / 2)) % m := by
    rw [hy, ← Nat.mul_mod, ← Nat.pow_add]; congr 2; omega
  refine ⟨fun h => ?_, fun h => ?_⟩
  · rw [e2, Nat.mod_mul_mod, ← Nat.pow_succ]; congr 2; omega
  · rw [e2]; congr 2; omega
theorem bit_at (n k : Nat) (hk : k < bitLen n) (h : bitLen n ≤ 256) : bitI n (IntKind.wrap .i64 (IntKind.wrap .i64 ((bitLen n : Int) - 1) - (k : Int))) = ((n / 2 ^ (bitLen n - 1 - k) % 2 : Nat) : Int) := by
  rw [wrapI ((bitLen n : Int) - 1) (by omega), wrapI _ (by omega)]
  unfold bitI
  rw [if_neg (by omega), show ((bitLen n : Int) - 1 - (k : Int)).toNat = bitLen n - 1 - k by omega]
theorem word_less {x y m : Nat} (hx : x < m) (hy : y < 18446744073709551616) : ((x : Int) * (y : Int)) / 18446744073709551616 < (m : Int) := by
  have h1 : x * y < m * 18446744073709551616 := Nat.mul_lt_mul'' hx hy
  have h2 : ((x * y : Nat) : Int) / 18446744073709551616 < m := by omega
  rwa [Int.natCast_mul] at h2
theorem fn_cap {g : GM} {f : FuncId} {vs : List Value} {xs : List AB} (i : Nat) (hv : absRel g xs vs) (hi : xs[i]? = some (.cv (.fn f [] [0]))) : ∃ b, g 0 = some b := by
  obtain ⟨v, _, _, ws, ⟨b, _, hb, _⟩, _⟩ := absRel_get _ _ i _ hv hi
  exact ⟨b, hb⟩
theorem ptr_cap {g : GM} {vs : List Value} {xs : List AB} (i : Nat) (hv : absRel g xs vs) (hi : xs[i]? = some (.cv (.ptr 0 0 0))) : ∃ b, g 0 = some b := by
  obtain ⟨v, _, b, hb, _⟩ := absRel_get _ _ i _ hv hi
  exact ⟨b, hb⟩
theorem bitLen_256 {n : Nat} (h : n < BW) : bitLen n ≤ 256 := bitLen_le.2 h
theorem ieq1 (x : Nat) : ieqB ((x : Nat) : Int) 1 = decide (x = 1) := by rw [ieqB_eq, Bool.eq_iff_iff]; simp only [decide_eq_true_eq]; omega
set_option maxRecDepth 20000 in
theorem power_word (a n m l mk : Nat) (mem : List Blk) (hm : bnth mem l = some ([.num m], mk)) (hk : mk = 0 ∨ mk = EXTM) (h : m < 18446744073709551616 ∧ 1 < m ∧ a < m) (S : Nat → Prop) (w0 : World) :
    CallOk Try.prog S w0 139 [aU a, aU 1, aN n, .cv (.fn 140 [] [l])] mem [l] (tU ((a ^ n % m : Nat) : Int)) noEff := by
  obtain ⟨h64, h1, ham⟩ := h
  refine capOk (cxK [limbsBitsK, limbsBitK, exp11K]) (r := tU ((a ^ n % m : Nat) : Int)) Try.func139 rfl (by kernel_rfl) (xs := [aU a, aU 1, aN n, .cv (.fn 140 [] [0])]) (Nat.le_of_ble_eq_true rfl) ⟨trivial, trivial, ⟨trivial, trivial⟩, fun l hl => by simp at hl; rw [hl]; exact Nat.zero_lt_one, trivial⟩ (fun g vs hv => fn_cap 3 hv rfl) trivial hm hk fun S w g hf hn => ?_
  · have hnn : n < BW := hf.2.2.1.1
    have hbl := bitLen_256 hnn
    conv => whnf
    refine ⟨trivial, ?_⟩
    conv => whnf
    refine LoopK.cut (Nat × Nat) (fun x => [(14, tI x.1), (9, tU x.2)]) (fun _ => []) (fun x => x.1 ≤ bitLen n ∧ x.2 = a ^ (n / 2 ^ (bitLen n - x.1)) % m) (fun x => bitLen n - x.1) (0, 1) ?_ ?_
      Unit (fun _ => [(9, tU ((a ^ n % m : Nat) : Int))]) (fun _ => []) (fun _ => True) 0 ?_ ?_
    · refine ⟨Nat.zero_le _, ?_⟩
      show 1 = _
      rw [Nat.sub_zero, Nat.div_eq_of_lt (bitLen_spec n).1, Nat.pow_zero, Nat.mod_eq_of_lt h1]
    · repeat' (refine And.intro ?_ ?_)
      all_goals try first | with_reducible rfl | exact trivial
      all_goals rfl
    · rintro ⟨k, y⟩ ⟨hk, hy⟩
      replace hk : k ≤ bitLen n := hk
      replace hy : y = a ^ (n / 2 ^ (bitLen n - k)) % m := hy
      have hym : y < m := by rw [hy]; exact Nat.mod_lt _ (by omega)
      conv => whnf
      refine brk (fun h3 => ?_) (fun h3 => ?_)
      · replace h3 : iltB (k : Int) (bitLen n : Int) = true := h3
        simp only [iltB_eq, decide_eq_true_eq] at h3
        have h3 : k < bitLen n := by omega
        have hs := pow_shift a n m k h3
        have hbit := bit_at n k h3 hbl
        simp only at hs
        rw [← hy] at hs
        refine ⟨⟨.inr rfl, h64, word_less hym (by omega)⟩, by kernel_rfl, trivial, trivial, ?_⟩
        conv => whnf
        have step : ∀ z : Nat, z = a ^ (n / 2 ^ (bitLen n - (k + 1))) % m → ((z : Nat) : Int) = ((a ^ (n / 2 ^ (bitLen n - (k + 1))) % m : Nat) : Int) := fun z hz => by rw [hz]
        refine brk (fun h4 => ?_) (fun h4 => ?_) <;> replace h4 : ieqB (bitI n (IntKind.wrap .i64 (IntKind.wrap .i64 ((bitLen n : Int) - 1) - (k : Int)))) 1 = _ := h4 <;> rw [hbit, ieq1] at h4 <;> simp only [decide_eq_true_eq, decide_eq_false_iff_not] at h4
        · have e2 : ((y : Int) * (y : Int) % (m : Int)) = ((y * y % m : Nat) : Int) := by simp
          refine ⟨⟨.inr rfl, h64, ?_⟩, (k + 1, y * y % m * a % m), ⟨h3, hs.1 h4⟩, ?_, ?_⟩
          · show (y : Int) * (y : Int) % (m : Int) * (a : Int) / 18446744073709551616 < (m : Int)
            rw [e2]; exact word_less (Nat.mod_lt _ (by omega)) (by omega)
          · repeat' (refine And.intro ?_ ?_)
            all_goals try first | with_reducible rfl | exact trivial
            · show (y : Int) * (y : Int) % (m : Int) * (a : Int) % (m : Int) = ((y * y % m * a % m : Nat) : Int)
              rw [e2, ← Int.natCast_mul, ← Int.natCast_emod]
            · show IntKind.wrap .i64 ((k : Int) + 1) = ((k + 1 : Nat) : Int)
              rw [wrapI _ (by omega)]; rfl
          · show bitLen n - (k + 1) < bitLen n - k
            omega
        · refine ⟨(k + 1, y * y % m), ⟨h3, hs.2 h4⟩, ?_, ?_⟩
          · repeat' (refine And.intro ?_ ?_)
            all_goals try first | with_reducible rfl | exact trivial
            · show (y : Int) * (y : Int) % (m : Int) = ((y * y % m : Nat) : Int)
              simp
            · show IntKind.wrap .i64 ((k : Int) + 1) = ((k + 1 : Nat) : Int)
              rw [wrapI _ (by omega)]; rfl
          · show bitLen n - (k + 1) < bitLen n - k
            omega
      · replace h3 : iltB (k : Int) (bitLen n : Int) = false := h3
        simp only [iltB_eq, decide_eq_false_iff_not] at h3
        have hk2 : bitLen n - k = 0 := by omega
        rw [hk2, Nat.pow_zero, Nat.div_one] at hy
        refine ⟨(), trivial, ?_⟩
        repeat' (refine And.intro ?_ ?_)
        all_goals try first | with_reducible rfl | exact trivial
        show ((y : Nat) : Int) = _
        rw [hy]
    · intro _ _
      exact ⟨rfl, rfl, trivial⟩
def powWordK : Known Try.prog :=
  ⟨139, fun args mem => match args with
    | [.cv (.int .u64 (.ofNat a)), .cv (.int .u64 1), .agg [.num n], .cv (.fn 140 [] [l])] => match bnth mem l with
      | some ([.num m], mk) => some ((mk = 0 ∨ mk = EXTM) ∧ (m < 18446744073709551616 ∧ 1 < m ∧ a < m), tU ((a ^ n % m : Nat) : Int), noEff, [l])
      | _ => none
    | _ => none, fun args mem q r e rd hm hq S w0 => by
    split at hm
    · split at hm
      · rename_i hb
        simp only [Option.some.injEq, Prod.mk.injEq] at hm
        obtain ⟨rfl, rfl, rfl, rfl⟩ := hm
        exact power_word _ _ _ _ _ mem hb hq.1 hq.2 S w0
      · cases hm
    · cases hm⟩
set_option maxRecDepth 20000 in
theorem power_num (a n m l mk : Nat) (mem : List Blk) (hm : bnth mem l = some ([.num m], mk)) (hk : mk = 0 ∨ mk = EXTM) (h : 1 < m ∧ a < m) (S : Nat → Prop) (w0 : World) :
    CallOk Try.prog S w0 142 [aN a, aN 1, aN n, .cv (.fn 143 [] [l])] mem [l] (tN (a ^ n % m)) noEff := by
  obtain ⟨h1, ham⟩ := h
  refine capOk (cxK [limbsBitsK, limbsBitK, exp12K]) (r := tN (a ^ n % m)) Try.func142 rfl (by kernel_rfl) (xs := [aN a, aN 1, aN n, .cv (.fn 143 [] [0])]) (Nat.le_of_ble_eq_true rfl) ⟨⟨trivial, trivial⟩, ⟨trivial, trivial⟩, ⟨trivial, trivial⟩, fun l hl => by simp at hl; rw [hl]; exact Nat.zero_lt_one, trivial⟩ (fun g vs hv => fn_cap 3 hv rfl) ⟨trivial, trivial⟩ hm hk fun S w g hf hn => ?_
  have hnn : n < BW := hf.2.2.1.1
  have hbl := bitLen_256 hnn
  conv => whnf
  refine ⟨trivial, ?_⟩
  conv => whnf
  refine LoopK.cut (Nat × Nat) (fun x => [(14, tI x.1)]) (fun x => [(5, [.num x.2])]) (fun x => x.1 ≤ bitLen n ∧ x.2 = a ^ (n / 2 ^ (bitLen n - x.1)) % m) (fun x => bitLen n - x.1) (0, 1) ?_ ?_
    Unit (fun _ => []) (fun _ => [(5, [.num (a ^ n % m)])]) (fun _ => True) 0 ?_ ?_
  · refine ⟨Nat.zero_le _, ?_⟩
    show 1 = _
    rw [Nat.sub_zero, Nat.div_eq_of_lt (bitLen_spec n).1, Nat.pow_zero, Nat.mod_eq_of_lt h1]
  · repeat' (refine And.intro ?_ ?_)
    all_goals try first | with_reducible rfl | exact trivial
    all_goals rfl
  · rintro ⟨k, y⟩ ⟨hk, hy⟩
    replace hk : k ≤ bitLen n := hk
    replace hy : y = a ^ (n / 2 ^ (bitLen n - k)) % m := hy
    have hym : y < m := by rw [hy]; exact Nat.mod_lt _ (by omega)
    conv => whnf
    refine brk (fun h3 => ?_) (fun h3 => ?_)
    · replace h3 : iltB (k : Int) (bitLen n : Int) = true := h3
      simp only [iltB_eq, decide_eq_true_eq] at h3
      have h3 : k < bitLen n := by omega
      have hs := pow_shift a n m k h3
      have hbit := bit_at n k h3 hbl
      simp only at hs
      rw [← hy] at hs
      refine ⟨⟨.inr rfl, hym, hym⟩, by kernel_rfl, trivial, trivial, ?_⟩
      conv => whnf
      refine brk (fun h4 => ?_) (fun h4 => ?_) <;> replace h4 : ieqB (bitI n (IntKind.wrap .i64 (IntKind.wrap .i64 ((bitLen n : Int) - 1) - (k : Int)))) 1 = _ := h4 <;> rw [hbit, ieq1] at h4 <;> simp only [decide_eq_true_eq, decide_eq_false_iff_not] at h4
      · refine ⟨⟨.inr rfl, Nat.mod_lt _ (by omega), ham⟩, (k + 1, y * y % m * a % m), ⟨h3, hs.1 h4⟩, ?_, ?_⟩
        · repeat' (refine And.intro ?_ ?_)
          all_goals try first | with_reducible rfl | exact trivial
          · show IntKind.wrap .i64 ((k : Int) + 1) = ((k + 1 : Nat) : Int)
            rw [wrapI _ (by omega)]; rfl
        · show bitLen n - (k + 1) < bitLen n - k
          omega
      · refine ⟨(k + 1, y * y % m), ⟨h3, hs.2 h4⟩, ?_, ?_⟩
        · repeat' (refine And.intro ?_ ?_)
          all_goals try first | with_reducible rfl | exact trivial
          · show IntKind.wrap .i64 ((k : Int) + 1) = ((k + 1 : Nat) : Int)
            rw [wrapI _ (by omega)]; rfl
        · show bitLen n - (k + 1) < bitLen n - k
          omega
    · replace h3 : iltB (k : Int) (bitLen n : Int) = false := h3
      simp only [iltB_eq, decide_eq_false_iff_not] at h3
      have hk2 : bitLen n - k = 0 := by omega
      rw [hk2, Nat.pow_zero, Nat.div_one] at hy
      refine ⟨(), trivial, ?_⟩
      repeat' (refine And.intro ?_ ?_)
      all_goals try first | with_reducible rfl | exact trivial
      exact hy
  · intro _ _
    exact ⟨rfl, rfl, trivial⟩
def powNumK : Known Try.prog :=
  ⟨142, fun args mem => match args with
    | [.agg [.num a], .agg [.num 1], .agg [.num n], .cv (.fn 143 [] [l])] => match bnth mem l with
      | some ([.num m], mk) => some ((mk = 0 ∨ mk = EXTM) ∧ (1 < m ∧ a < m), tN (a ^ n % m), noEff, [l])
      | _ => none
    | _ => none, fun args mem q r e rd hm hq S w0 => by
    split at hm
    · split at hm
      · rename_i hb
        simp only [Option.some.injEq, Prod.mk.injEq] at hm
        obtain ⟨rfl, rfl, rfl, rfl⟩ := hm
        exact power_num _ _ _ _ _ mem hb hq.1 hq.2 S w0
      · cases hm
    · cases hm⟩

set_option maxRecDepth 20000 in
theorem exp_1 (a x m n l mk : Nat) (mem : List Blk) (hm : bnth mem l = some ([.num n], mk)) (hk : mk = 0 ∨ mk = EXTM) (h : 1 < m ∧ a < m) (S : Nat → Prop) (w0 : World) :
    CallOk Try.prog S w0 138 [aN a, aN x, aN m, .cv (.ptr l 0 0)] mem [l] (tN (a ^ n % m)) noEff := by
  refine capOk (cxK [limbsBitsK, limbsOfK, powWordK, powNumK]) (r := tN (a ^ n % m)) Try.func138 rfl (by kernel_rfl) (xs := [aN a, aN x, aN m, .cv (.ptr 0 0 0)]) (Nat.le_of_ble_eq_true rfl) ⟨⟨trivial, trivial⟩, ⟨trivial, trivial⟩, ⟨trivial, trivial⟩, Nat.zero_lt_one, trivial⟩ (fun g vs hv => ptr_cap 3 hv rfl) ⟨trivial, trivial⟩ hm hk fun S w g hf hn => ?_
  have hbl := bitLen_le (a := m) (k := 64)
  conv => whnf
  refine ⟨trivial, ?_⟩
  conv => whnf
  refine brk (fun h1 => ?_) (fun h1 => ?_) <;> simp only [iltB_eq, Bool.not_eq_true', Bool.not_eq_false', decide_eq_true_eq, decide_eq_false_iff_not] at h1
  · have hm' : m < 18446744073709551616 := hbl.1 (by omega)
    have e : limb 0 a = a := limb0_small (by omega)
    refine ⟨⟨.inl rfl, hm', h.1, ?_⟩, trivial, ?_, ?_⟩
    · show limb 0 a < m
      rw [e]; exact h.2
    · show ((limb 0 a ^ n % m : Nat) : Int).toNat = _
      rw [e]; rfl
    · exact ⟨rfl, trivial⟩
  · exact ⟨by kernel_rfl, trivial, ⟨.inl rfl, h⟩, by kernel_rfl, rfl, rfl, trivial⟩
end Go.Proofs.Ytacjiajijigebaa
