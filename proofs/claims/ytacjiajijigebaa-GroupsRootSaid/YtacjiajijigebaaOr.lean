/- What is known of functions, as rows; numbers of kinds, their bits. No condition. -/
import Derived.Test.YtacjiajijigebaaEvL
namespace Go.Ev
open Go

/-- What is known of one function. -/
structure Known (P : Program) where
  f : Nat
  m : List AB → List Blk → Option (Prop × AV × Eff × List Nat)
  ok : ∀ args mem p r e rd, m args mem = some (p, r, e, rd) → p → ∀ S w0, CallOk P S w0 f args mem rd r e
/-- Of one that only reckons. -/
def Known.pure {P : Program} (f : Nat) (m : List AB → Option (Prop × AV)) (ok : ∀ args p r, m args = some (p, r) → p → PureOk P f args r) : Known P :=
  ⟨f, fun args _ => match m args with
    | some (p, r) => some (p, r, noEff, [])
    | none => none, fun args mem p r e rd h hp S w0 => by
    split at h
    · rename_i p' r' hm
      simp only [Option.some.injEq, Prod.mk.injEq] at h
      obtain ⟨rfl, rfl, rfl, rfl⟩ := h
      exact CallOk.of_pure (ok args _ _ hm hp)
    · cases h⟩

def orc {P : Program} : List (Known P) → FuncId → List AB → List Blk → Option (Prop × AV × Eff × List Nat)
  | [], _, _, _ => none
  | e :: r, f, args, mem => match Nat.beq e.f f with
    | true => e.m args mem
    | false => orc r f args mem
theorem orc_ok {P : Program} : ∀ (l : List (Known P)) (f : FuncId) (args : List AB) (mem : List Blk) (p : Prop) (r : AV) (e : Eff) (rd : List Nat), orc l f args mem = some (p, r, e, rd) → p → ∀ S w0, CallOk P S w0 f args mem rd r e
  | [], _, _, _, _, _, _, _, h, _ => by cases h
  | k :: l, f, args, mem, p, r, e, rd, h, hp => by
    unfold orc at h
    split at h
    · rename_i hb
      rw [← Nat.eq_of_beq_eq_true hb]; exact k.ok args mem p r e rd h hp
    · exact orc_ok l f args mem p r e rd h hp

abbrev aN (x : Nat) : AB := .agg [.num x]
abbrev aU (n : Int) : AB := .cv (.int .u64 n)
abbrev aI (n : Int) : AB := .cv (.int .i64 n)
abbrev aB (b : Bool) : AB := .cv (.bool b)
abbrev tI (n : Int) : AV := .b (.cv (.int .i64 n))
abbrev tB (b : Bool) : AV := .b (.cv (.bool b))
abbrev tU (n : Int) : AV := .b (.cv (.int .u64 n))
abbrev tN (x : Nat) : AV := .b (.agg [.num x])

/-- The four numbers of a group. -/
structure Grp where
  P : Nat
  Q : Nat
  G : Nat
  H : Nat
abbrev aG (g : Grp) : AB := .agg [.num g.P, .num g.Q, .num g.G, .num g.H]
section
variable {P : Program} (f : Nat)
/-- Rows of functions by their arguments' shapes. -/
def kU (p : Int → Prop) (s : Int → AV) (h : ∀ x, p x → PureOk P f [aU x] (s x)) : Known P :=
  Known.pure f (fun | [.cv (.int .u64 x)] => some (p x, s x) | _ => none) fun args q r e hq => by
    split at e
    · simp only [Option.some.injEq, Prod.mk.injEq] at e; obtain ⟨rfl, rfl⟩ := e; exact h _ hq
    · cases e
def kUU (p : Int → Int → Prop) (s : Int → Int → AV) (h : ∀ x y, p x y → PureOk P f [aU x, aU y] (s x y)) : Known P :=
  Known.pure f (fun | [.cv (.int .u64 x), .cv (.int .u64 y)] => some (p x y, s x y) | _ => none) fun args q r e hq => by
    split at e
    · simp only [Option.some.injEq, Prod.mk.injEq] at e; obtain ⟨rfl, rfl⟩ := e; exact h _ _ hq
    · cases e
def kUUU (p : Int → Int → Int → Prop) (s : Int → Int → Int → AV) (h : ∀ x y z, p x y z → PureOk P f [aU x, aU y, aU z] (s x y z)) : Known P :=
  Known.pure f (fun | [.cv (.int .u64 x), .cv (.int .u64 y), .cv (.int .u64 z)] => some (p x y z, s x y z) | _ => none) fun args q r e hq => by
    split at e
    · simp only [Option.some.injEq, Prod.mk.injEq] at e; obtain ⟨rfl, rfl⟩ := e; exact h _ _ _ hq
    · cases e
def kN (p : Nat → Prop) (s : Nat → AV) (h : ∀ x, p x → PureOk P f [aN x] (s x)) : Known P :=
  Known.pure f (fun | [.agg [.num x]] => some (p x, s x) | _ => none) fun args q r e hq => by
    split at e
    · simp only [Option.some.injEq, Prod.mk.injEq] at e; obtain ⟨rfl, rfl⟩ := e; exact h _ hq
    · cases e
def kNN (p : Nat → Nat → Prop) (s : Nat → Nat → AV) (h : ∀ x y, p x y → PureOk P f [aN x, aN y] (s x y)) : Known P :=
  Known.pure f (fun | [.agg [.num x], .agg [.num y]] => some (p x y, s x y) | _ => none) fun args q r e hq => by
    split at e
    · simp only [Option.some.injEq, Prod.mk.injEq] at e; obtain ⟨rfl, rfl⟩ := e; exact h _ _ hq
    · cases e
def kNNN (p : Nat → Nat → Nat → Prop) (s : Nat → Nat → Nat → AV) (h : ∀ x y z, p x y z → PureOk P f [aN x, aN y, aN z] (s x y z)) : Known P :=
  Known.pure f (fun | [.agg [.num x], .agg [.num y], .agg [.num z]] => some (p x y z, s x y z) | _ => none) fun args q r e hq => by
    split at e
    · simp only [Option.some.injEq, Prod.mk.injEq] at e; obtain ⟨rfl, rfl⟩ := e; exact h _ _ _ hq
    · cases e
def kNI (p : Nat → Int → Prop) (s : Nat → Int → AV) (h : ∀ x y, p x y → PureOk P f [aN x, aI y] (s x y)) : Known P :=
  Known.pure f (fun | [.agg [.num x], .cv (.int .i64 y)] => some (p x y, s x y) | _ => none) fun args q r e hq => by
    split at e
    · simp only [Option.some.injEq, Prod.mk.injEq] at e; obtain ⟨rfl, rfl⟩ := e; exact h _ _ hq
    · cases e
def kNUN (p : Nat → Int → Nat → Prop) (s : Nat → Int → Nat → AV) (h : ∀ x y z, p x y z → PureOk P f [aN x, aU y, aN z] (s x y z)) : Known P :=
  Known.pure f (fun | [.agg [.num x], .cv (.int .u64 y), .agg [.num z]] => some (p x y z, s x y z) | _ => none) fun args q r e hq => by
    split at e
    · simp only [Option.some.injEq, Prod.mk.injEq] at e; obtain ⟨rfl, rfl⟩ := e; exact h _ _ _ hq
    · cases e
def kUUUU (p : Int → Int → Int → Int → Prop) (s : Int → Int → Int → Int → AV) (h : ∀ a b c d, p a b c d → PureOk P f [aU a, aU b, aU c, aU d] (s a b c d)) : Known P :=
  Known.pure f (fun | [.cv (.int .u64 a), .cv (.int .u64 b), .cv (.int .u64 c), .cv (.int .u64 d)] => some (p a b c d, s a b c d) | _ => none) fun args q r e hq => by
    split at e
    · simp only [Option.some.injEq, Prod.mk.injEq] at e; obtain ⟨rfl, rfl⟩ := e; exact h _ _ _ _ hq
    · cases e
def kG (p : Grp → Prop) (s : Grp → AV) (h : ∀ a, p a → PureOk P f [aG a] (s a)) : Known P :=
  Known.pure f (fun | [.agg [.num ap, .num aq, .num ag, .num ah]] => some (p ⟨ap, aq, ag, ah⟩, s ⟨ap, aq, ag, ah⟩) | _ => none) fun args q r e hq => by
    split at e
    · simp only [Option.some.injEq, Prod.mk.injEq] at e; obtain ⟨rfl, rfl⟩ := e; exact h _ hq
    · cases e
def kGN (p : Grp → Nat → Prop) (s : Grp → Nat → AV) (h : ∀ a b, p a b → PureOk P f [aG a, aN b] (s a b)) : Known P :=
  Known.pure f (fun | [.agg [.num ap, .num aq, .num ag, .num ah], .agg [.num b]] => some (p ⟨ap, aq, ag, ah⟩ b, s ⟨ap, aq, ag, ah⟩ b) | _ => none) fun args q r e hq => by
    split at e
    · simp only [Option.some.injEq, Prod.mk.injEq] at e; obtain ⟨rfl, rfl⟩ := e; exact h _ _ hq
    · cases e
def kGNN (p : Grp → Nat → Nat → Prop) (s : Grp → Nat → Nat → AV) (h : ∀ a b c, p a b c → PureOk P f [aG a, aN b, aN c] (s a b c)) : Known P :=
  Known.pure f (fun | [.agg [.num ap, .num aq, .num ag, .num ah], .agg [.num b], .agg [.num c]] => some (p ⟨ap, aq, ag, ah⟩ b c, s ⟨ap, aq, ag, ah⟩ b c) | _ => none) fun args q r e hq => by
    split at e
    · simp only [Option.some.injEq, Prod.mk.injEq] at e; obtain ⟨rfl, rfl⟩ := e; exact h _ _ _ hq
    · cases e
def kGNNN (p : Grp → Nat → Nat → Nat → Prop) (s : Grp → Nat → Nat → Nat → AV) (h : ∀ a b c d, p a b c d → PureOk P f [aG a, aN b, aN c, aN d] (s a b c d)) : Known P :=
  Known.pure f (fun | [.agg [.num ap, .num aq, .num ag, .num ah], .agg [.num b], .agg [.num c], .agg [.num d]] => some (p ⟨ap, aq, ag, ah⟩ b c d, s ⟨ap, aq, ag, ah⟩ b c d) | _ => none) fun args q r e hq => by
    split at e
    · simp only [Option.some.injEq, Prod.mk.injEq] at e; obtain ⟨rfl, rfl⟩ := e; exact h _ _ _ _ hq
    · cases e
def kNNNN (p : Nat → Nat → Nat → Nat → Prop) (s : Nat → Nat → Nat → Nat → AV) (h : ∀ a b c d, p a b c d → PureOk P f [aN a, aN b, aN c, aN d] (s a b c d)) : Known P :=
  Known.pure f (fun | [.agg [.num a], .agg [.num b], .agg [.num c], .agg [.num d]] => some (p a b c d, s a b c d) | _ => none) fun args q r e hq => by
    split at e
    · simp only [Option.some.injEq, Prod.mk.injEq] at e; obtain ⟨rfl, rfl⟩ := e; exact h _ _ _ _ hq
    · cases e
def kB (p : Bool → Prop) (s : Bool → AV) (h : ∀ a, p a → PureOk P f [aB a] (s a)) : Known P :=
  Known.pure f (fun | [.cv (.bool a)] => some (p a, s a) | _ => none) fun args q r e hq => by
    split at e
    · simp only [Option.some.injEq, Prod.mk.injEq] at e; obtain ⟨rfl, rfl⟩ := e; exact h _ hq
    · cases e
end

/-! ### Numbers of kinds -/

theorem wrapU (x : Int) : IntKind.wrap .u64 x = x % 18446744073709551616 := by simp [IntKind.wrap, IntKind.bits, IntKind.signed]
theorem wrapW (x : Int) : IntKind.wrap .u32 x = x % 4294967296 := by simp [IntKind.wrap, IntKind.bits, IntKind.signed]
theorem wrap8 (x : Int) : IntKind.wrap .u8 x = x % 256 := by simp [IntKind.wrap, IntKind.bits, IntKind.signed]
theorem wrapI (x : Int) (h : -9223372036854775808 ≤ x ∧ x ≤ 9223372036854775807) : IntKind.wrap .i64 x = x := by
  simp [IntKind.wrap, IntKind.bits, IntKind.signed]; omega
theorem hasU {x : Int} : IntKind.has .u64 x ↔ 0 ≤ x ∧ x < 18446744073709551616 := by
  show IntKind.min .u64 ≤ x ∧ x ≤ IntKind.max .u64 ↔ _
  rw [show IntKind.min .u64 = 0 from rfl, show IntKind.max .u64 = 18446744073709551615 from rfl]
  omega
theorem hasW {x : Int} : IntKind.has .u32 x ↔ 0 ≤ x ∧ x < 4294967296 := by
  show IntKind.min .u32 ≤ x ∧ x ≤ IntKind.max .u32 ↔ _
  rw [show IntKind.min .u32 = 0 from rfl, show IntKind.max .u32 = 4294967295 from rfl]
  omega
theorem has8 {x : Int} : IntKind.has .u8 x ↔ 0 ≤ x ∧ x < 256 := by
  show IntKind.min .u8 ≤ x ∧ x ≤ IntKind.max .u8 ↔ _
  rw [show IntKind.min .u8 = 0 from rfl, show IntKind.max .u8 = 255 from rfl]
  omega
theorem hasI {x : Int} : IntKind.has .i64 x ↔ -9223372036854775808 ≤ x ∧ x ≤ 9223372036854775807 := by
  show IntKind.min .i64 ≤ x ∧ x ≤ IntKind.max .i64 ↔ _
  rw [show IntKind.min .i64 = -9223372036854775808 from rfl, show IntKind.max .i64 = 9223372036854775807 from rfl]

theorem ibitU (x y : Nat) (hx : x < 18446744073709551616) (hy : y < 18446744073709551616) :
    ibit .and .u64 x y = ((x &&& y : Nat) : Int) ∧ ibit .or .u64 x y = ((x ||| y : Nat) : Int) ∧ ibit .xor .u64 x y = ((x ^^^ y : Nat) : Int) := by
  have h1 : (BitVec.ofInt 64 x).toNat = x := by simp; omega
  have h2 : (BitVec.ofInt 64 y).toNat = y := by simp; omega
  have a1 : x &&& y < 18446744073709551616 := Nat.lt_of_le_of_lt Nat.and_le_left hx
  have a2 : x ||| y < 2 ^ 64 := Nat.or_lt_two_pow (by omega) (by omega)
  have a3 : x ^^^ y < 2 ^ 64 := Nat.xor_lt_two_pow (by omega) (by omega)
  have e1 : ibit .and .u64 x y = IntKind.wrap .u64 (Int.ofNat ((BitVec.ofInt 64 x &&& BitVec.ofInt 64 y).toNat)) := rfl
  have e2 : ibit .or .u64 x y = IntKind.wrap .u64 (Int.ofNat ((BitVec.ofInt 64 x ||| BitVec.ofInt 64 y).toNat)) := rfl
  have e3 : ibit .xor .u64 x y = IntKind.wrap .u64 (Int.ofNat ((BitVec.ofInt 64 x ^^^ BitVec.ofInt 64 y).toNat)) := rfl
  rw [BitVec.toNat_and, h1, h2, wrapU] at e1
  rw [BitVec.toNat_or, h1, h2, wrapU] at e2
  rw [BitVec.toNat_xor, h1, h2, wrapU] at e3
  rw [e1, e2, e3]
  simp only [Int.ofNat_eq_natCast]
  omega
theorem ibitW (x y : Nat) (hx : x < 4294967296) (hy : y < 4294967296) :
    ibit .and .u32 x y = ((x &&& y : Nat) : Int) ∧ ibit .or .u32 x y = ((x ||| y : Nat) : Int) ∧ ibit .xor .u32 x y = ((x ^^^ y : Nat) : Int) := by
  have h1 : (BitVec.ofInt 32 x).toNat = x := by simp; omega
  have h2 : (BitVec.ofInt 32 y).toNat = y := by simp; omega
  have a1 : x &&& y < 4294967296 := Nat.lt_of_le_of_lt Nat.and_le_left hx
  have a2 : x ||| y < 2 ^ 32 := Nat.or_lt_two_pow (by omega) (by omega)
  have a3 : x ^^^ y < 2 ^ 32 := Nat.xor_lt_two_pow (by omega) (by omega)
  have e1 : ibit .and .u32 x y = IntKind.wrap .u32 (Int.ofNat ((BitVec.ofInt 32 x &&& BitVec.ofInt 32 y).toNat)) := rfl
  have e2 : ibit .or .u32 x y = IntKind.wrap .u32 (Int.ofNat ((BitVec.ofInt 32 x ||| BitVec.ofInt 32 y).toNat)) := rfl
  have e3 : ibit .xor .u32 x y = IntKind.wrap .u32 (Int.ofNat ((BitVec.ofInt 32 x ^^^ BitVec.ofInt 32 y).toNat)) := rfl
  rw [BitVec.toNat_and, h1, h2, wrapW] at e1
  rw [BitVec.toNat_or, h1, h2, wrapW] at e2
  rw [BitVec.toNat_xor, h1, h2, wrapW] at e3
  rw [e1, e2, e3]
  simp only [Int.ofNat_eq_natCast]
  omega

theorem exec_indexS {P : Program} {S : Nat → Prop} {w0 : World} {o : Oper} {ts : List AV} {mem : List Blk} {t : TypeId} {s : ByteArray} {y : Operand} {k : IntKind} {j : Nat} (ho : o.op = .index t (.const (.string s)) y) (ht : P.underlying t = some .string)
    (hy : opv ts y = .b (.cv (.int k j))) (hj : j < s.size) : Exec P S w0 o ts mem [] (.b (.cv (.int .u8 ((s[j]'hj).toNat : Int)))) noEff := by
  refine exec_pure fun g a w hx => ?_
  have h1 := hx y (by simp [ho, Op.operands])
  rw [hy] at h1
  obtain ⟨e1, _⟩ := h1
  refine ⟨.int .u8 ((s[j]'hj).toNat : Int), ?_, rfl, ?_⟩
  · have ec : a.eval (.const (.string s)) = .string s := rfl
    have eg : s[j]? = some s[j] := getElem?_pos s j hj
    simp [execOp, ho, e1, ec, Instr.index, asIntOf, run_underlying' ht, eg]
  · have : (s[j]'hj).toNat < 256 := UInt8.toNat_lt _
    rw [has8]; omega

theorem brk {b : Bool} {A B : Prop} (h1 : b = true → A) (h2 : b = false → B) : condB.match_1 (fun _ => Prop) b (fun _ => A) (fun _ => B) := by cases b with
  | true => exact h1 rfl
  | false => exact h2 rfl
theorem brkT {b : Bool} {A B : Prop} (h : b = true) (h1 : A) : condB.match_1 (fun _ => Prop) b (fun _ => A) (fun _ => B) := by subst h; exact h1
theorem brkF {b : Bool} {A B : Prop} (h : b = false) (h1 : B) : condB.match_1 (fun _ => Prop) b (fun _ => A) (fun _ => B) := by subst h; exact h1
theorem fdivU (x : Int) (k : IntKind) (c : Int) : x.fdiv (2 ^ shN k c) = x / 2 ^ min c.toNat k.bits := by
  rw [← min_shN]
  exact Int.fdiv_eq_ediv_of_nonneg _ (Int.le_of_lt (Int.pow_pos (by decide)))
theorem shlU (x : Int) (k : IntKind) (c : Int) : x * 2 ^ shN k c = x * 2 ^ min c.toNat k.bits := by rw [← min_shN]
theorem oblT {b : Bool} {A : Prop} (h : b = true) (h1 : A) : condB.match_1 (fun _ => Prop) b (fun _ => A) (fun _ => False) := by subst h; exact h1
end Go.Ev
