/- What is known of math/bits. No condition. -/
import Derived.Test.YtacjiajijigebaaEq
import Derived.Test.YtacjiajijigebaaOr
import Derived.Laws.Externs
import Derived.Laws.MathBits
namespace Go.Proofs.Ytacjiajijigebaa
open Go Go.Ev
set_option linter.unusedSimpArgs false

def add64 (x y c : Int) : AV := .tup [aU ((x + y + c) % 18446744073709551616), aU ((x + y + c) / 18446744073709551616)]
def sub64 (x y c : Int) : AV := .tup [aU ((x - y - c) % 18446744073709551616), aU (-((x - y - c) / 18446744073709551616))]

theorem rel_tup2 (g : GM) (x y : Int) (hx : IntKind.has .u64 x) (hy : IntKind.has .u64 y) : (AV.tup [aU x, aU y]).rel g (.tuple #[.int .u64 x, .int .u64 y]) :=
  ⟨#[.int .u64 x, .int .u64 y], rfl, _, _, rfl, ⟨rfl, hx⟩, _, _, rfl, ⟨rfl, hy⟩, rfl⟩

theorem bits_Add64 (x y c : Int) (hc : 0 ≤ c ∧ c ≤ 1) : PureOk Try.prog 155 [aU x, aU y, aU c] (add64 x y c) := by
  rintro g w vs ⟨_, _, rfl, ⟨rfl, hx⟩, _, _, rfl, ⟨rfl, hy⟩, _, _, rfl, ⟨rfl, hz⟩, rfl⟩
  rw [hasU] at hx hy
  refine .inl ⟨_, ?_, rel_tup2 g _ _ (hasU.2 (by omega)) (hasU.2 (by omega))⟩
  rw [run_callFunc_extern Try.func155 (by kernel_rfl) (by kernel_rfl) (by kernel_rfl) (e := add64Entry) (by kernel_rfl), run_add64 x y c (by omega) (by omega) (by omega) (by omega)]
  rfl

/-- The entry of the table of externs for a difference with what is borrowed. -/
def subE : Array Value → Sem Value := fun args => Extern.MathBitsCarry.three "Sub64" args >>= fun (x, y, b) =>
  pure (Extern.MathBitsCarry.pair ((x + Extern.MathBitsCarry.m64 - y - b) % Extern.MathBitsCarry.m64) (if x < y + b then 1 else 0))
theorem run_subE (x y b : Nat) (hb : b ≤ 1) (w : World) : (subE #[.int .u64 x, .int .u64 y, .int .u64 b]).run Try.prog w =
    .ok (.tuple #[.int .u64 (((x + 18446744073709551616 - y - b) % 18446744073709551616 : Nat) : Int), .int .u64 ((if x < y + b then 1 else 0 : Nat) : Int)]) w := by
  have : b = 0 ∨ b = 1 := by omega
  rcases this with rfl | rfl <;> rfl

theorem bits_Sub64 (x y c : Int) (hc : 0 ≤ c ∧ c ≤ 1) : PureOk Try.prog 128 [aU x, aU y, aU c] (sub64 x y c) := by
  rintro g w vs ⟨_, _, rfl, ⟨rfl, hx⟩, _, _, rfl, ⟨rfl, hy⟩, _, _, rfl, ⟨rfl, hz⟩, rfl⟩
  rw [hasU] at hx hy
  refine .inl ⟨_, ?_, rel_tup2 g _ _ (hasU.2 (by omega)) (hasU.2 (by omega))⟩
  obtain ⟨x, rfl⟩ := Int.eq_ofNat_of_zero_le hx.1
  obtain ⟨y, rfl⟩ := Int.eq_ofNat_of_zero_le hy.1
  obtain ⟨c, rfl⟩ := Int.eq_ofNat_of_zero_le hc.1
  rw [run_callFunc_extern Try.func128 (by kernel_rfl) (by kernel_rfl) (by kernel_rfl) (e := subE) (by kernel_rfl), run_subE x y c (by omega)]
  simp only [Result.andThen]
  rw [show (((x + 18446744073709551616 - y - c) % 18446744073709551616 : Nat) : Int) = ((x : Int) - y - c) % 18446744073709551616 by omega,
    show ((if x < y + c then 1 else 0 : Nat) : Int) = -(((x : Int) - y - c) / 18446744073709551616) by split <;> omega]

def add64K : Known Try.prog := kUUU 155 (fun _ _ c => 0 ≤ c ∧ c ≤ 1) add64 bits_Add64
def sub64K : Known Try.prog := kUUU 128 (fun _ _ c => 0 ≤ c ∧ c ≤ 1) sub64 bits_Sub64
theorem cxK (l : List (Known Try.prog)) : CxOk Try.prog (cx (orc l)) := cx_ok (orc_ok l)

theorem shr32 (x : Int) : x.fdiv (2 ^ shN .u64 32) = x / 4294967296 := Int.fdiv_eq_ediv_of_nonneg _ (by decide)
theorem shr16 (x : Int) : x.fdiv (2 ^ shN .u64 16) = x / 65536 := Int.fdiv_eq_ediv_of_nonneg _ (by decide)
theorem shr8 (x : Int) : x.fdiv (2 ^ shN .u64 8) = x / 256 := Int.fdiv_eq_ediv_of_nonneg _ (by decide)
theorem and32 {x : Int} (hx : 0 ≤ x ∧ x < 18446744073709551616) : ibit .and .u64 x 4294967295 = x % 4294967296 := by
  obtain ⟨x, rfl⟩ := Int.eq_ofNat_of_zero_le hx.1
  have h := (ibitU x 4294967295 (by omega) (by omega)).1
  rw [show ((4294967295 : Nat) : Int) = 4294967295 from rfl] at h
  rw [h, show 4294967295 = 2 ^ 32 - 1 from rfl, Nat.and_two_pow_sub_one_eq_mod]
  omega
def mul64 (x y : Int) : AV := .tup [aU (x * y / 18446744073709551616), aU (x * y % 18446744073709551616)]
set_option maxRecDepth 20000 in
theorem bits_Mul64 (x y : Int) : PureOk Try.prog 183 [aU x, aU y] (mul64 x y) := by
  refine pure_of_ev (cxK []) Try.func183 rfl (by kernel_rfl) (Nat.le_of_ble_eq_true rfl) ⟨rfl, rfl, trivial⟩ ⟨rfl, rfl, trivial⟩ fun hf w => ?_
  refine ⟨?_, ?_, trivial⟩
  · obtain ⟨hx, hy, _⟩ := hf
    have hx := hasU.1 hx; have hy := hasU.1 hy
    rw [and32 hx, and32 hy, ← mul64_arith x y hx.1 hx.2 hy.1 hy.2]
    simp only [shr32, wrapU]
    rw [and32 (by omega)]
  · exact wrapU _

def len64 (x : Int) : AV := tI (bitLen x.toNat)
def tab8 : ByteArray := ⟨#[0, 1, 2, 2, 3, 3, 3, 3, 4, 4, 4, 4, 4, 4, 4, 4, 5, 5, 5, 5, 5, 5, 5, 5, 5, 5, 5, 5, 5, 5, 5, 5, 6, 6, 6, 6, 6, 6, 6, 6, 6, 6, 6, 6, 6, 6, 6, 6, 6, 6, 6, 6, 6, 6, 6, 6, 6, 6, 6, 6, 6, 6, 6, 6, 7, 7, 7, 7, 7, 7, 7, 7, 7, 7, 7, 7, 7, 7, 7, 7, 7, 7, 7, 7, 7, 7, 7, 7, 7, 7, 7, 7, 7, 7, 7, 7, 7, 7, 7, 7, 7, 7, 7, 7, 7, 7, 7, 7, 7, 7, 7, 7, 7, 7, 7, 7, 7, 7, 7, 7, 7, 7, 7, 7, 7, 7, 7, 7, 8, 8, 8, 8, 8, 8, 8, 8, 8, 8, 8, 8, 8, 8, 8, 8, 8, 8, 8, 8, 8, 8, 8, 8, 8, 8, 8, 8, 8, 8, 8, 8, 8, 8, 8, 8, 8, 8, 8, 8, 8, 8, 8, 8, 8, 8, 8, 8, 8, 8, 8, 8, 8, 8, 8, 8, 8, 8, 8, 8, 8, 8, 8, 8, 8, 8, 8, 8, 8, 8, 8, 8, 8, 8, 8, 8, 8, 8, 8, 8, 8, 8, 8, 8, 8, 8, 8, 8, 8, 8, 8, 8, 8, 8, 8, 8, 8, 8, 8, 8, 8, 8, 8, 8, 8, 8, 8, 8, 8, 8, 8, 8, 8, 8, 8, 8, 8, 8, 8, 8, 8, 8, 8, 8, 8, 8, 8, 8]⟩
set_option maxRecDepth 1000000 in
theorem tab8_get (i : Nat) (h : i < 256) : ∃ h' : i < tab8.size, (tab8[i]'h').toNat = bitLen i :=
  ⟨h, len8tab_get i h⟩
theorem exec_len8 {S : Nat → Prop} {w0 : World} {o : Oper} {ts : List AV} {mem : List Blk} {s : ByteArray} {y : Operand} {k : IntKind} {n : Int} (ho : o.op = .index 9 (.const (.string s)) y) (hs : s = tab8)
    (hy : opv ts y = .b (.cv (.int k n))) (hn : 0 ≤ n ∧ n < 256) : Exec Try.prog S w0 o ts mem [] (.b (.cv (.int .u8 (bitLen n.toNat)))) noEff := by
  subst hs
  obtain ⟨n, rfl⟩ := Int.eq_ofNat_of_zero_le hn.1
  obtain ⟨h, e⟩ := tab8_get n (by omega)
  rw [Int.toNat_natCast, ← e]
  exact exec_indexS ho (by kernel_rfl) hy h
theorem wrap_id {k : IntKind} {x : Int} (h : IntKind.has k x) : k.wrap x = x := by
  cases k <;> simp only [IntKind.has, IntKind.min, IntKind.max, IntKind.signed, IntKind.bits] at h <;> simp [IntKind.wrap, IntKind.bits, IntKind.signed] <;> simp at h <;> omega
theorem len_end {x y c : Int} (k : Nat) (hc : c = (k : Int)) (hx : 0 ≤ x) (hy : y = x / 2 ^ k) (hk : k ≤ 56) (h : y ≠ 0 ∨ k = 0) (hb : 0 ≤ y ∧ y < 256) : IntKind.wrap .i64 (c + IntKind.wrap .i64 ((bitLen (IntKind.wrap .u8 y).toNat : Nat) : Int)) = (bitLen x.toNat : Nat) := by
  subst hc
  rw [wrap8, show y % 256 = y by omega]
  have hl := bitLen_le8 y.toNat (by omega)
  rw [wrapI (bitLen y.toNat : Nat) (by omega), wrapI _ (by omega)]
  obtain ⟨x, rfl⟩ := Int.eq_ofNat_of_zero_le hx
  have e : y.toNat = x / 2 ^ k := by
    rw [hy, show ((2 : Int) ^ k) = ((2 ^ k : Nat) : Int) by simp, ← Int.natCast_ediv]; rfl
  rcases h with h | h
  · have := bitLen_shift x k (by omega)
    rw [Int.toNat_natCast, this, e]; simp
  · subst h; simp at e ⊢; rw [e]
set_option maxRecDepth 20000 in
theorem bits_Len64 (x : Int) : PureOk Try.prog 127 [aU x] (len64 x) := by
  refine pure_of_ev (cxK []) Try.func127 rfl (by kernel_rfl) (Nat.le_of_ble_eq_true rfl) ⟨rfl, trivial⟩ rfl fun hf w => ?_
  have hx := hasU.1 hf.1
  conv => whnf
  refine brk (fun h1 => ?_) (fun h1 => ?_) <;> conv => whnf
  all_goals refine brk (fun h2 => ?_) (fun h2 => ?_) <;> conv => whnf
  all_goals refine brk (fun h3 => ?_) (fun h3 => ?_) <;> conv => whnf
  all_goals simp only [iltB_eq, Bool.not_eq_true', Bool.not_eq_false', decide_eq_true_eq, decide_eq_false_iff_not, shr32, shr16, shr8] at h1 h2 h3
  all_goals refine ⟨_, _, _, exec_len8 rfl (by kernel_rfl) rfl ?_, ?_⟩
  · simp only [shr32, shr16, shr8, wrap8]; omega
  · refine ⟨?_, trivial⟩
    refine len_end 56 (by rfl) hx.1 ?_ (by decide) ?_ ?_
    all_goals first | omega | (simp only [shr32, shr16, shr8, Int.reducePow]; omega) | simp only [shr32, shr16, shr8, Int.reducePow] | simp
  · simp only [shr32, shr16, shr8, wrap8]; omega
  · refine ⟨?_, trivial⟩
    refine len_end 48 (by rfl) hx.1 ?_ (by decide) ?_ ?_
    all_goals first | omega | (simp only [shr32, shr16, shr8, Int.reducePow]; omega) | simp only [shr32, shr16, shr8, Int.reducePow] | simp
  · simp only [shr32, shr16, shr8, wrap8]; omega
  · refine ⟨?_, trivial⟩
    refine len_end 40 (by rfl) hx.1 ?_ (by decide) ?_ ?_
    all_goals first | omega | (simp only [shr32, shr16, shr8, Int.reducePow]; omega) | simp only [shr32, shr16, shr8, Int.reducePow] | simp
  · simp only [shr32, shr16, shr8, wrap8]; omega
  · refine ⟨?_, trivial⟩
    refine len_end 32 (by rfl) hx.1 ?_ (by decide) ?_ ?_
    all_goals first | omega | (simp only [shr32, shr16, shr8, Int.reducePow]; omega) | simp only [shr32, shr16, shr8, Int.reducePow] | simp
  · simp only [shr32, shr16, shr8, wrap8]; omega
  · refine ⟨?_, trivial⟩
    refine len_end 24 (by rfl) hx.1 ?_ (by decide) ?_ ?_
    all_goals first | omega | (simp only [shr32, shr16, shr8, Int.reducePow]; omega) | simp only [shr32, shr16, shr8, Int.reducePow] | simp
  · simp only [shr32, shr16, shr8, wrap8]; omega
  · refine ⟨?_, trivial⟩
    refine len_end 16 (by rfl) hx.1 ?_ (by decide) ?_ ?_
    all_goals first | omega | (simp only [shr32, shr16, shr8, Int.reducePow]; omega) | simp only [shr32, shr16, shr8, Int.reducePow] | simp
  · simp only [shr32, shr16, shr8, wrap8]; omega
  · refine ⟨?_, trivial⟩
    refine len_end 8 (by rfl) hx.1 ?_ (by decide) ?_ ?_
    all_goals first | omega | (simp only [shr32, shr16, shr8, Int.reducePow]; omega) | simp only [shr32, shr16, shr8, Int.reducePow] | simp
  · simp only [shr32, shr16, shr8, wrap8]; omega
  · refine ⟨?_, trivial⟩
    refine len_end 0 (by rfl) hx.1 ?_ (by decide) ?_ ?_
    all_goals first | omega | (simp only [shr32, shr16, shr8, Int.reducePow]; omega) | simp only [shr32, shr16, shr8, Int.reducePow] | simp
end Go.Proofs.Ytacjiajijigebaa
