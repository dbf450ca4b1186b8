/- The evaluator of single operations, and that it is right. No condition. -/
import Derived.Test.YtacjiajijigebaaEvF
import Derived.Laws.StructEq
import Derived.Laws.Entries
namespace Go.Ev
open Go

variable {P : Program} {S : Nat → Prop} {w0 : World} {ts : List AV} {mem : List Blk}

/-! ### Integers -/

theorem has_wrap (k : IntKind) (n : Int) : IntKind.has k (k.wrap n) := by
  unfold IntKind.has IntKind.wrap
  cases k <;> simp only [IntKind.min, IntKind.max, IntKind.bits, IntKind.signed, Bool.false_and, Bool.true_and, Bool.false_eq_true, if_false, if_true] <;> (try split) <;> (try simp only [ge_iff_le, decide_eq_true_eq] at *) <;> omega

theorem has_range (k : IntKind) : k.min ≤ 0 ∧ 0 ≤ k.max := has_zero k

theorem has_shr {k : IntKind} {x : Int} (h : IntKind.has k x) (n : Nat) : IntKind.has k (x.fdiv (2 ^ n)) := by
  have hp : (0 : Int) < 2 ^ n := by exact_mod_cast Nat.two_pow_pos n
  have hr := has_range k
  rw [Int.fdiv_eq_ediv_of_nonneg _ (Int.le_of_lt hp)]
  rcases Int.lt_or_le x 0 with h0 | h0
  · have h1 : x / 2 ^ n < 0 := Int.ediv_neg_of_neg_of_pos h0 hp
    have h2 : x ≤ x / 2 ^ n := by
      rw [Int.le_ediv_iff_mul_le hp]
      have h3 : (1 : Int) ≤ 2 ^ n := hp
      have := Int.mul_le_mul_of_nonpos_left (a := x) (Int.le_of_lt h0) h3
      rw [Int.mul_one] at this; exact this
    exact ⟨by have := h.1; omega, by omega⟩
  · have h1 : 0 ≤ x / 2 ^ n := Int.ediv_nonneg h0 (Int.le_of_lt hp)
    have h2 : x / 2 ^ n ≤ x := Int.ediv_le_self _ h0
    exact ⟨by omega, by have := h.2; omega⟩

theorem has_tmod {k : IntKind} {x : Int} (h : IntKind.has k x) (y : Int) : IntKind.has k (x.tmod y) := by
  have hr := has_range k
  rcases Int.lt_or_le x 0 with h0 | h0
  · have h1 : x.tmod y ≤ 0 := by
      have := Int.tmod_nonneg y (show 0 ≤ -x by omega)
      rw [Int.neg_tmod] at this; omega
    have h2 : x ≤ x.tmod y := by
      have h3 := Int.natAbs_tmod x y
      have h4 := Nat.mod_le x.natAbs y.natAbs
      omega
    exact ⟨by have := h.1; omega, by omega⟩
  · have h1 := Int.tmod_nonneg y h0
    have h2 : x.tmod y ≤ x := by
      have h3 := Int.natAbs_tmod x y
      have h4 := Nat.mod_le x.natAbs y.natAbs
      omega
    exact ⟨by omega, by have := h.2; omega⟩

def iltB : Int → Int → Bool
  | .ofNat a, .ofNat b => Nat.blt a b
  | .ofNat _, .negSucc _ => false
  | .negSucc _, .ofNat _ => true
  | .negSucc a, .negSucc b => Nat.blt b a
def ieqB : Int → Int → Bool
  | .ofNat a, .ofNat b => Nat.beq a b
  | .negSucc a, .negSucc b => Nat.beq a b
  | _, _ => false

theorem iltB_eq (x y : Int) : iltB x y = decide (x < y) := by
  rw [Bool.eq_iff_iff, decide_eq_true_eq]
  match x, y with
  | .ofNat a, .ofNat b => simp only [iltB, Nat.blt_eq, Int.ofNat_eq_natCast]; omega
  | .ofNat a, .negSucc b => simp only [iltB, Int.negSucc_eq, Int.ofNat_eq_natCast]; constructor <;> intro h <;> first | omega | contradiction
  | .negSucc a, .ofNat b => simp only [iltB, Int.negSucc_eq, Int.ofNat_eq_natCast]; constructor <;> intro h <;> first | omega | trivial
  | .negSucc a, .negSucc b => simp only [iltB, Nat.blt_eq, Int.negSucc_eq]; omega
theorem ieqB_eq (x y : Int) : ieqB x y = decide (x = y) := by
  rw [Bool.eq_iff_iff, decide_eq_true_eq]
  cases x <;> cases y <;> simp only [ieqB, Nat.beq_eq, Int.ofNat_eq_natCast] <;> (constructor <;> intro h <;> first | omega | contradiction)

def ibit (op : BinOp) (k : IntKind) (x y : Int) : Int :=
  k.wrap (Int.ofNat (match op with
    | .and => (BitVec.ofInt k.bits x &&& BitVec.ofInt k.bits y).toNat
    | .or => (BitVec.ofInt k.bits x ||| BitVec.ofInt k.bits y).toNat
    | .xor => (BitVec.ofInt k.bits x ^^^ BitVec.ofInt k.bits y).toNat
    | _ => (BitVec.ofInt k.bits x &&& ~~~(BitVec.ofInt k.bits y)).toNat))
def shN (k : IntKind) (y : Int) : Nat := match Nat.ble y.toNat k.bits with
  | true => y.toNat
  | false => k.bits

def kindB : IntKind → IntKind → Bool
  | .i8, .i8 => true | .i16, .i16 => true | .i32, .i32 => true | .i64, .i64 => true
  | .u8, .u8 => true | .u16, .u16 => true | .u32, .u32 => true | .u64, .u64 => true
  | _, _ => false
theorem kindB_eq {a b : IntKind} (h : kindB a b = true) : a = b := by cases a <;> cases b <;> first | rfl | cases h

/-- Two integers of one kind. -/
def intK (op : BinOp) (k : IntKind) (x y : Int) (K : CV → Prop) : Prop := match op with
  | .add => K (.int k (k.wrap (x + y)))
  | .sub => K (.int k (k.wrap (x - y)))
  | .mul => K (.int k (k.wrap (x * y)))
  | .quo => obl (!(ieqB y 0)) (K (.int k (k.wrap (x.tdiv y))))
  | .rem => obl (!(ieqB y 0)) (K (.int k (x.tmod y)))
  | .and => K (.int k (ibit .and k x y))
  | .or => K (.int k (ibit .or k x y))
  | .xor => K (.int k (ibit .xor k x y))
  | .andNot => K (.int k (ibit .andNot k x y))
  | .eql => K (.bool (ieqB x y))
  | .neq => K (.bool (!(ieqB x y)))
  | .lss => K (.bool (iltB x y))
  | .leq => K (.bool (!(iltB y x)))
  | .gtr => K (.bool (iltB y x))
  | .geq => K (.bool (!(iltB x y)))
  | _ => False

theorem min_shN (k : IntKind) (y : Int) : min y.toNat k.bits = shN k y := by
  unfold shN
  cases h : Nat.ble y.toNat k.bits with
  | true => exact Nat.min_eq_left (Nat.le_of_ble_eq_true h)
  | false =>
    refine Nat.min_eq_right ?_
    rcases Nat.lt_or_ge k.bits y.toNat with h1 | h1
    · exact Nat.le_of_lt h1
    · rw [Nat.ble_eq_true_of_le h1] at h; cases h

theorem beq_ieqB (x y : Int) : (x == y) = ieqB x y := by rw [ieqB_eq, Bool.eq_iff_iff]; simp
theorem bne_ieqB (x y : Int) : (x != y) = !(ieqB x y) := by rw [bne, beq_ieqB]
theorem le_iltB (x y : Int) : decide (x ≤ y) = !(iltB y x) := by rw [iltB_eq, Bool.eq_iff_iff]; simp

theorem int_ok {op : BinOp} {k : IntKind} {x y : Int} {K : CV → Prop} (h : intK op k x y K) (t : TypeId) : ∃ cv, K cv ∧ (IntKind.has k x → ∀ w, ∃ v, (binOp op t (.int k x) (.int k y)).run P w = .ok v w ∧ ∀ g, cv.rel g v) := by
  cases op with
  | add => exact ⟨_, h, fun _ w => ⟨.int k (k.wrap (x + y)), by simp [binOp, Op.intArith], fun g => ⟨rfl, has_wrap k _⟩⟩⟩
  | sub => exact ⟨_, h, fun _ w => ⟨.int k (k.wrap (x - y)), by simp [binOp, Op.intArith], fun g => ⟨rfl, has_wrap k _⟩⟩⟩
  | mul => exact ⟨_, h, fun _ w => ⟨.int k (k.wrap (x * y)), by simp [binOp, Op.intArith], fun g => ⟨rfl, has_wrap k _⟩⟩⟩
  | quo =>
    obtain ⟨hb, h⟩ := obl_ok h
    have hy : y ≠ 0 := by rw [ieqB_eq] at hb; simpa using hb
    exact ⟨_, h, fun _ w => ⟨.int k (k.wrap (x.tdiv y)), by simp [binOp, Op.intDiv, hy], fun g => ⟨rfl, has_wrap k _⟩⟩⟩
  | rem =>
    obtain ⟨hb, h⟩ := obl_ok h
    have hy : y ≠ 0 := by rw [ieqB_eq] at hb; simpa using hb
    exact ⟨_, h, fun hx w => ⟨.int k (x.tmod y), by simp [binOp, Op.intDiv, hy], fun g => ⟨rfl, has_tmod hx _⟩⟩⟩
  | and => exact ⟨_, h, fun _ w => ⟨.int k (ibit .and k x y), by simp [binOp, Op.intBits, ibit], fun g => ⟨rfl, has_wrap k _⟩⟩⟩
  | or => exact ⟨_, h, fun _ w => ⟨.int k (ibit .or k x y), by simp [binOp, Op.intBits, ibit], fun g => ⟨rfl, has_wrap k _⟩⟩⟩
  | xor => exact ⟨_, h, fun _ w => ⟨.int k (ibit .xor k x y), by simp [binOp, Op.intBits, ibit], fun g => ⟨rfl, has_wrap k _⟩⟩⟩
  | andNot => exact ⟨_, h, fun _ w => ⟨.int k (ibit .andNot k x y), by simp [binOp, Op.intBits, ibit], fun g => ⟨rfl, has_wrap k _⟩⟩⟩
  | eql => exact ⟨_, h, fun _ w => ⟨.bool (ieqB x y), by simp [binOp, Op.intCmp, beq_ieqB], fun g => rfl⟩⟩
  | neq => exact ⟨_, h, fun _ w => ⟨.bool (!(ieqB x y)), by simp [binOp, Op.intCmp, bne_ieqB], fun g => rfl⟩⟩
  | lss => exact ⟨_, h, fun _ w => ⟨.bool (iltB x y), by simp [binOp, Op.intCmp, iltB_eq], fun g => rfl⟩⟩
  | leq => exact ⟨_, h, fun _ w => ⟨.bool (!(iltB y x)), by simp [binOp, Op.intCmp, ← le_iltB], fun g => rfl⟩⟩
  | gtr => exact ⟨_, h, fun _ w => ⟨.bool (iltB y x), by simp [binOp, Op.intCmp, iltB_eq], fun g => rfl⟩⟩
  | geq => exact ⟨_, h, fun _ w => ⟨.bool (!(iltB x y)), by simp [binOp, Op.intCmp, ← le_iltB], fun g => rfl⟩⟩
  | _ => exact h.elim

def shK (op : BinOp) (k : IntKind) (x y : Int) (K : CV → Prop) : Prop := obl (!(iltB y 0)) (match op with
  | .shl => K (.int k (k.wrap (x * 2 ^ shN k y)))
  | .shr => K (.int k (x.fdiv (2 ^ shN k y)))
  | _ => False)

theorem sh_ok {op : BinOp} {k k' : IntKind} {x y : Int} {K : CV → Prop} (h : shK op k x y K) (t : TypeId) : ∃ cv, K cv ∧ (IntKind.has k x → ∀ w, ∃ v, (binOp op t (.int k x) (.int k' y)).run P w = .ok v w ∧ ∀ g, cv.rel g v) := by
  obtain ⟨hb, h⟩ := obl_ok h
  have hy : ¬ y < 0 := by rw [iltB_eq] at hb; simpa using hb
  cases op with
  | shl => exact ⟨_, h, fun _ w => ⟨.int k (k.wrap (x * 2 ^ shN k y)), by simp [binOp, Op.shift, hy, min_shN], fun g => ⟨rfl, has_wrap k _⟩⟩⟩
  | shr => exact ⟨_, h, fun hx w => ⟨.int k (x.fdiv (2 ^ shN k y)), by simp [binOp, Op.shift, hy, min_shN], fun g => ⟨rfl, has_shr hx _⟩⟩⟩
  | _ => exact h.elim

/-! ### Equal values of several cells -/

def cellsEq : List Value → List Value → Bool
  | .int _ a :: xs, .int _ b :: ys => ieqB a b && cellsEq xs ys
  | [], [] => true
  | _, _ => false
/-- Words, all of one kind. -/
def allU64 : List Value → Prop
  | [] => True
  | .int .u64 _ :: xs => allU64 xs
  | _ => False

def EqOk (P : Program) (t : TypeId) : Prop := P.eqGuardType P.depth t = false ∧ ∀ (xs ys : List Value), allU64 xs → allU64 ys → (P.info? t).map (·.size) = some xs.length → xs.length = ys.length →
  ∀ d w, (Op.equalIn (d + 4) t (.agg xs.toArray) (.agg ys.toArray)).run P w = .ok (cellsEq xs ys) w

def eqCh : List Ch → List Ch → Option Bool
  | [], [] => some true
  | [.num x], [.num y] => some (Nat.beq x y)
  | .num x :: r, .num y :: r' => match eqCh r r' with
    | some b => some (Nat.beq x y && b)
    | none => none
  | _, _ => none

theorem allU64_limbs (x : Nat) (vs : List Value) (h : allU64 vs) : allU64 (limbs x ++ vs) := h
theorem limbs_inj {x y : Nat} (hx : x < BW) (hy : y < BW) : (ieqB (limb 0 x) (limb 0 y) && (ieqB (limb 1 x) (limb 1 y) && (ieqB (limb 2 x) (limb 2 y) && ieqB (limb 3 x) (limb 3 y)))) = Nat.beq x y := by
  simp only [ieqB_eq]
  rw [Bool.eq_iff_iff]
  simp only [Bool.and_eq_true, decide_eq_true_eq, Nat.beq_eq]
  constructor
  · rintro ⟨h0, h1, h2, h3⟩
    rw [← num4_limb hx, ← num4_limb hy, Int.ofNat.inj h0, Int.ofNat.inj h1, Int.ofNat.inj h2, Int.ofNat.inj h3]
  · rintro rfl; exact ⟨rfl, rfl, rfl, rfl⟩
theorem cellsEq_limbs {x y : Nat} (hx : x < BW) (hy : y < BW) (xs ys : List Value) : cellsEq (limbs x ++ xs) (limbs y ++ ys) = (Nat.beq x y && cellsEq xs ys) := by
  rw [← limbs_inj hx hy]
  simp only [limbs, List.cons_append, List.nil_append, cellsEq, Bool.and_assoc]

theorem eqCh_ok {g : GM} : ∀ (xs ys : List Ch) (b : Bool) (us vs : List Value), eqCh xs ys = some b → chsRel g xs us → chsRel g ys vs → allU64 us ∧ allU64 vs ∧ us.length = vs.length ∧ cellsEq us vs = b
  | [], [], b, us, vs, h, h1, h2 => by
    rw [show us = [] from h1, show vs = [] from h2]
    simp only [eqCh, Option.some.injEq] at h; subst h
    exact ⟨trivial, trivial, rfl, rfl⟩
  | [.num x], [.num y], b, us, vs, h, ⟨u1, u2, e1, ⟨hx, e2⟩, e3⟩, ⟨v1, v2, f1, ⟨hy, f2⟩, f3⟩ => by
    simp only [eqCh, Option.some.injEq] at h; subst h
    rw [e1, f1, e2, f2, show u2 = [] from e3, show v2 = [] from f3]
    exact ⟨trivial, trivial, rfl, by rw [cellsEq_limbs hx hy]; simp [cellsEq]⟩
  | .num x :: r, .num y :: r', b, us, vs, h, ⟨u1, u2, e1, ⟨hx, e2⟩, e3⟩, ⟨v1, v2, f1, ⟨hy, f2⟩, f3⟩ => by
    have key : ∀ b', eqCh r r' = some b' → b = (Nat.beq x y && b') → allU64 us ∧ allU64 vs ∧ us.length = vs.length ∧ cellsEq us vs = b := fun b' hb he => by
      obtain ⟨q1, q2, q3, q4⟩ := eqCh_ok r r' b' u2 v2 hb e3 f3
      rw [e1, f1, e2, f2]
      exact ⟨q1, q2, by simp [limbs, q3], by rw [cellsEq_limbs hx hy, q4, he]⟩
    cases r with
    | nil =>
      cases r' with
      | nil => simp only [eqCh, Option.some.injEq] at h; exact key true rfl (by rw [← h]; simp)
      | cons d r' => cases d <;> simp [eqCh] at h
    | cons c r =>
      simp only [eqCh] at h
      split at h
      · rename_i b' hb; injection h with h; exact key b' hb h.symm
      · cases h
  | [], _ :: _, _, _, _, h, _, _ => by simp [eqCh] at h
  | .num _ :: _, [], _, _, _, h, _, _ => by simp [eqCh] at h
  | .num _ :: _, .cell _ :: _, _, _, _, h, _, _ => by simp [eqCh] at h
  | .num _ :: _, .vec _ _ :: _, _, _, _, h, _, _ => by simp [eqCh] at h
  | .cell _ :: _, _, _, _, _, h, _, _ => by simp [eqCh] at h
  | .vec _ _ :: _, _, _, _, _, h, _, _ => by simp [eqCh] at h

/-! ### Calls -/

def fvChs : List (Nat ⊕ Value) → List Ch
  | [] => []
  | .inl x :: r => .num x :: fvChs r
  | .inr v :: r => .cell (.v v) :: fvChs r
theorem fvChs_rel {g : GM} : ∀ (l : List (Nat ⊕ Value)), fvOk l → chsRel g (fvChs l) (fvCells l)
  | [], _ => rfl
  | .inl x :: r, ⟨h1, h2⟩ => ⟨limbs x, fvCells r, rfl, ⟨h1, rfl⟩, fvChs_rel r h2⟩
  | .inr v :: r, ⟨h1, h2⟩ => ⟨[v], fvCells r, rfl, ⟨v, rfl, h1, rfl⟩, fvChs_rel r h2⟩

def abList : List AV → Option (List AB)
  | [] => some []
  | .b x :: r => match abList r with
    | some l => some (x :: l)
    | none => none
  | .tup _ :: _ => none
def firstAB : List (List (Nat ⊕ Value)) → List AB → List AB
  | [], y => y
  | x :: r, y => .agg (fvChs x) :: firstAB r y
def capsAB : List Nat → List AB
  | [] => []
  | l :: r => .cv (.ptr l 0 0) :: capsAB r
def appAB : List AB → List AB → List AB
  | [], y => y
  | x :: r, y => x :: appAB r y

theorem absRel_append {g : GM} : ∀ (xs ys : List AB) (us vs : List Value), absRel g xs us → absRel g ys vs → absRel g (appAB xs ys) (us ++ vs)
  | [], _, us, _, h1, h2 => by rw [show us = [] from h1]; exact h2
  | _ :: xs, ys, _, vs, ⟨y, us, e, h1, h2⟩, h3 => by subst e; exact ⟨y, us ++ vs, rfl, h1, absRel_append xs ys us vs h2 h3⟩
theorem capsAB_rel {g : GM} : ∀ (l : List Nat) (vs : List Value), capsRel g l vs → absRel g (capsAB l) vs
  | [], _, h => h
  | _ :: r, _, ⟨b, ws, h1, e, h2⟩ => by subst e; exact ⟨_, ws, rfl, ⟨b, h1, rfl⟩, capsAB_rel r ws h2⟩
theorem firstAB_rel {g : GM} : ∀ (l : List (List (Nat ⊕ Value))) (ys : List AB) (vs : List Value), fvsOk l → absRel g ys vs → absRel g (firstAB l ys) (l.map (fun x => Value.agg (fvCells x).toArray) ++ vs)
  | [], _, _, _, h => h
  | x :: r, ys, vs, ⟨h1, h2⟩, h3 => ⟨_, _, rfl, ⟨_, rfl, by simpa using fvChs_rel x h1⟩, firstAB_rel r ys vs h2 h3⟩
theorem abList_rel {g : GM} : ∀ (l : List AV) (xs : List AB) (vs : List Value), abList l = some xs → (∀ (i : Nat) (a : AV) (y : Value), l[i]? = some a → vs[i]? = some y → a.rel g y) → l.length = vs.length → absRel g xs vs
  | [], xs, vs, h, _, hl => by
    simp only [abList, Option.some.injEq] at h; subst h
    cases vs with
    | nil => rfl
    | cons => simp at hl
  | .b x :: r, xs, vs, h, hr, hl => by
    simp only [abList] at h
    split at h
    · rename_i l hl'
      injection h with h; subst h
      cases vs with
      | nil => simp at hl
      | cons y ys =>
        refine ⟨y, ys, rfl, hr 0 _ y rfl rfl, abList_rel r l ys hl' (fun i a z h1 h2 => hr (i + 1) a z (by simpa using h1) (by simpa using h2)) (by simpa using hl)⟩
    · cases h
  | .tup _ :: _, _, _, h, _, _ => by simp [abList] at h

/-- What a call leaves. -/
def CallOk (P : Program) (S : Nat → Prop) (w0 : World) (f : FuncId) (args : List AB) (mem : List Blk) (rd : List Nat) (r : AV) (e : Eff) : Prop :=
  ∀ (g : GM) (w : World) (vs : List Value), absRel g args vs → (∀ l ∈ rd, ∀ b k, g l = some b → mem[l]? = some k → BlkRel S w0 g w b k) → GW g S w0 w → (∀ i, i < e.news.length → g (mem.length + i) = none) → InjOn g mem rd →
    (∃ v w' g', (callFunc f vs.toArray).run P w = .ok (.value v) w' ∧ r.rel g' v ∧ Post S w0 mem e g g' w w') ∨
    ((callFunc f vs.toArray).run P w = .ok (.enter f vs.toArray) w ∧ Calls P f vs.toArray w fun en w' => ∃ v g', en = .returned v ∧ r.rel g' v ∧ Post S w0 mem e g g' w w')

theorem exec_call {o : Oper} {c : Call} {fx : Operand} (ho : o.op = .call c) (hc : c.callee = .value fx) {f : FuncId} {fs : List (List (Nat ⊕ Value))} {cs : List Nat} (hf : opv ts fx = .b (.cv (.fn f fs cs)))
    {xs : List AB} (hxs : abList (c.args.toList.map (opv ts)) = some xs) {rd : List Nat} {r : AV} {e : Eff} (h : CallOk P S w0 f (firstAB fs (appAB xs (capsAB cs))) mem rd r e) : Exec P S w0 o ts mem rd r e := by
  intro g a w hx hrd hg hfr hij next Q hn
  have h1 := hx fx (by simp [ho, Op.operands, Call.operands, hc])
  rw [hf] at h1
  obtain ⟨h2, ws, h3, h4⟩ := h1
  have h5 : absRel g xs (c.args.toList.map a.eval) := abList_rel _ xs _ hxs (fun i av y q1 q2 => by
    simp only [List.getElem?_map, Option.map_eq_some_iff] at q1 q2
    obtain ⟨x, q3, rfl⟩ := q1
    obtain ⟨x', q4, rfl⟩ := q2
    rw [q3] at q4; injection q4 with q4; subst q4
    refine hx x ?_
    simp only [ho, Op.operands, Call.operands, hc]
    exact Array.mem_append.2 (.inr (Array.mem_toList_iff.1 (List.mem_of_getElem? q3)))) (by simp)
  have h6 := firstAB_rel fs _ _ h2 (absRel_append xs _ _ _ h5 (capsAB_rel cs _ h3))
  have hrun : (execOp a.eval o).run P w = (callFunc f (fs.map (fun x => Value.agg (fvCells x).toArray) ++ (c.args.toList.map a.eval ++ ws.toList)).toArray).run P w := by
    have he : ((fs.map (fun x => Value.agg (fvCells x).toArray)).toArray ++ c.args.map a.eval) ++ ws = (fs.map (fun x => Value.agg (fvCells x).toArray) ++ (c.args.toList.map a.eval ++ ws.toList)).toArray := by
      apply Array.toList_inj.1; simp
    simp [execOp, ho, resolve, hc, h4, Deferred.ofValue, invoke, he]
  unfold Oper.wp
  rw [hrun]
  rcases h g w _ h6 hrd hg hfr hij with ⟨v, w', g', q1, q2, q3⟩ | ⟨q1, q2⟩
  · rw [q1]
    exact hn v w' g' q2 q3
  · rw [q1]
    exact q2.mono fun en w' ⟨v, g', he, hr, hp⟩ => by subst he; exact hn v w' g' hr hp

/-- A call of a function that only reckons, and may make memory of its own. -/
def PureOk (P : Program) (f : FuncId) (args : List AB) (r : AV) : Prop :=
  ∀ (g : GM) (w : World) (vs : List Value), absRel g args vs →
    (∃ v, (callFunc f vs.toArray).run P w = .ok (.value v) w ∧ r.rel g v) ∨
    ((callFunc f vs.toArray).run P w = .ok (.enter f vs.toArray) w ∧ Calls P f vs.toArray w fun en w' => ∃ v, en = .returned v ∧ r.rel g v ∧ Fr (fun _ => False) w w')

theorem Post.pure {g : GM} {w w' : World} (hg : GW g S w0 w) (h : Fr (fun _ => False) w w') : Post S w0 mem noEff g g w w' :=
  ⟨GM.le_refl g, ⟨fun l b hl => Nat.lt_of_lt_of_le (hg.own l b hl) h.size,
    ⟨h.os.trans hg.fr.os, h.tape.trans hg.fr.tape, h.output.trans hg.fr.output, Nat.le_trans hg.fr.size h.size, fun k hk hs => (h.block k (Nat.lt_of_lt_of_le hk hg.fr.size) (fun h => h)).trans (hg.fr.block k hk hs)⟩⟩,
    fun l h h' => absurd h' h, h.size, fun b hb _ => h.block b hb (fun h => h), fun i k h => by simp [noEff] at h, fun l c h => by simp [noEff, wrFind] at h, fun l c h => by simp [noEff] at h, fun i b h h' => (by rw [h'] at h; cases h), fun i j b b2 q1 q2 q3 q4 _ => (by rw [q1] at q3; cases q3)⟩

theorem CallOk.of_pure {f : FuncId} {args : List AB} {r : AV} (h : PureOk P f args r) : CallOk P S w0 f args mem [] r noEff := by
  intro g w vs hv _ hg _ _
  rcases h g w vs hv with ⟨v, h1, h2⟩ | ⟨h1, h2⟩
  · exact .inl ⟨v, w, g, h1, h2, Post.same hg⟩
  · exact .inr ⟨h1, h2.mono fun en w' ⟨v, e, hr, hf⟩ => ⟨v, g, e, hr, Post.pure hg hf⟩⟩

end Go.Ev
