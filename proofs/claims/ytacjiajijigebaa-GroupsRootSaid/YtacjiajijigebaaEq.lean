/- Long numbers, signatures and proofs are compared word by word. No condition. -/
import Derived.Test.YtacjiajijigebaaTy
namespace Go.Proofs.Ytacjiajijigebaa
open Go Go.Ev

theorem und26 : Try.prog.underlying 26 = some (.array 4 22) := by kernel_rfl
theorem und22 : Try.prog.underlying 22 = some (.int .u64) := by kernel_rfl
theorem siz22 : (Try.prog.info? 22).map (·.size) = some 1 := by kernel_rfl
theorem siz26 : (Try.prog.info? 26).map (·.size) = some 4 := by kernel_rfl

theorem part22 (cs : Array Value) (i : Nat) (w : World) : (part 22 cs i).run Try.prog w = match cs[i]? with
    | some v => .ok v w
    | none => .halt (.stuck "part: no such cell") w := by
  unfold part
  rw [Sem.run_bind, run_isAgg' und22]
  simp only [isAggD, Result.andThen_ok, Bool.false_eq_true, if_false]
  cases cs[i]? <;> rfl
theorem part26 (cs : Array Value) (i : Nat) (w : World) : (part 26 cs i).run Try.prog w = .ok (.agg (cs.extract i (i + 4))) w := by
  unfold part
  rw [Sem.run_bind, run_isAgg' und26]
  simp [isAggD, run_sizeOf' siz26]

theorem eq26 (d : Nat) (a0 a1 a2 a3 b0 b1 b2 b3 : Int) (w : World) : (Op.equalIn (d + 2) 26 (.agg #[.int .u64 a0, .int .u64 a1, .int .u64 a2, .int .u64 a3]) (.agg #[.int .u64 b0, .int .u64 b1, .int .u64 b2, .int .u64 b3])).run Try.prog w =
    .ok (ieqB a0 b0 && (ieqB a1 b1 && (ieqB a2 b2 && ieqB a3 b3))) w := by
  have e : ∀ a b : Int, (Op.equalIn (d + 1) 22 (.int .u64 a) (.int .u64 b)).run Try.prog w = .ok (a == b) w := fun a b => run_equalIn_int w d 22 .u64 .u64 a b und22
  rw [Op.equalIn]
  simp only [Sem.run_bind, run_underlying' und26, run_sizeOf' siz22, Result.andThen_ok, Std.Legacy.Range.forIn_eq_forIn_range', Std.Legacy.Range.size, Nat.sub_zero, Nat.add_sub_cancel, Nat.div_one, List.range'_succ, List.range'_zero, List.forIn_cons, List.forIn_nil, part22, Nat.zero_add, Nat.mul_one, Nat.reduceAdd,
    List.getElem?_toArray, List.getElem?_cons_zero, e, Sem.run_pure, Sem.run_ite]
  simp only [ieqB_eq]
  by_cases h0 : a0 = b0 <;> by_cases h1 : a1 = b1 <;> by_cases h2 : a2 = b2 <;> by_cases h3 : a3 = b3 <;> simp [h0, h1, h2, h3, part22, e]

/-- Four words. -/
theorem four {xs : List Value} (h : allU64 xs) (hl : xs.length = 4) : ∃ a b c d : Int, xs = [.int .u64 a, .int .u64 b, .int .u64 c, .int .u64 d] := by
  have one : ∀ (x : Value) (r : List Value), allU64 (x :: r) → (∃ a, x = .int .u64 a) ∧ allU64 r := by
    intro x r h
    cases x with
    | int k n => cases k <;> first | exact ⟨⟨n, rfl⟩, h⟩ | exact h.elim
    | _ => exact h.elim
  match xs, hl with
  | [x, y, z, u], _ =>
    obtain ⟨⟨a, rfl⟩, h⟩ := one x _ h
    obtain ⟨⟨b, rfl⟩, h⟩ := one y _ h
    obtain ⟨⟨c, rfl⟩, h⟩ := one z _ h
    obtain ⟨⟨d, rfl⟩, h⟩ := one u _ h
    exact ⟨a, b, c, d, rfl⟩

theorem eqOk26 : EqOk Try.prog 26 := by
  refine ⟨by kernel_rfl, fun xs ys hx hy hs hl d w => ?_⟩
  rw [siz26] at hs
  have hs := Option.some.inj hs
  obtain ⟨a0, a1, a2, a3, rfl⟩ := four hx hs.symm
  obtain ⟨b0, b1, b2, b3, rfl⟩ := four hy (by rw [← hl]; rfl)
  exact (eq26 (d + 2) a0 a1 a2 a3 b0 b1 b2 b3 w).trans (by simp [cellsEq])

theorem eight {xs : List Value} (h : allU64 xs) (hl : xs.length = 8) : ∃ ys zs : List Value, xs = ys ++ zs ∧ allU64 ys ∧ allU64 zs ∧ ys.length = 4 ∧ zs.length = 4 := by
  have one : ∀ (x : Value) (r : List Value), allU64 (x :: r) → (∃ a, x = .int .u64 a) ∧ allU64 r := by
    intro x r h
    cases x with
    | int k n => cases k <;> first | exact ⟨⟨n, rfl⟩, h⟩ | exact h.elim
    | _ => exact h.elim
  match xs, hl with
  | [x, y, z, u, p, q, r, s], _ =>
    obtain ⟨⟨a, rfl⟩, h⟩ := one x _ h
    obtain ⟨⟨b, rfl⟩, h⟩ := one y _ h
    obtain ⟨⟨c, rfl⟩, h⟩ := one z _ h
    obtain ⟨⟨d, rfl⟩, h⟩ := one u _ h
    exact ⟨[.int .u64 a, .int .u64 b, .int .u64 c, .int .u64 d], [p, q, r, s], rfl, trivial, h, rfl, rfl⟩

theorem eqTwo {t : Nat} (hS : Try.prog.underlying t = some (.struct (Try.prog.fieldsOf t))) (hF : (Try.prog.fieldsOf t).toList.map (fun f => (f.name == "_", f.type, f.offset)) = [(false, 26, 0), (false, 26, 4)]) (hp : Try.prog.stoodInHeld t = false)
    (hg : Try.prog.eqGuardType Try.prog.depth t = false) (hz : (Try.prog.info? t).map (·.size) = some 8) : EqOk Try.prog t := by
  refine ⟨hg, fun xs ys hx hy hs hl d w => ?_⟩
  rw [hz] at hs
  have hs := Option.some.inj hs
  obtain ⟨x1, x2, rfl, hx1, hx2, l1, l2⟩ := eight hx hs.symm
  obtain ⟨y1, y2, rfl, hy1, hy2, m1, m2⟩ := eight hy (by rw [← hl]; exact hs.symm)
  obtain ⟨a0, a1, a2, a3, rfl⟩ := four hx1 l1
  obtain ⟨a4, a5, a6, a7, rfl⟩ := four hx2 l2
  obtain ⟨b0, b1, b2, b3, rfl⟩ := four hy1 m1
  obtain ⟨b4, b5, b6, b7, rfl⟩ := four hy2 m2
  rw [run_equalIn_struct w (d + 3) t _ _ hS hp]
  obtain ⟨f1, f2, hf, n1, t1, o1, n2, t2, o2⟩ : ∃ f1 f2 : Field, (Try.prog.fieldsOf t).toList = [f1, f2] ∧ f1.name ≠ "_" ∧ f1.type = 26 ∧ f1.offset = 0 ∧ f2.name ≠ "_" ∧ f2.type = 26 ∧ f2.offset = 4 := by
    cases hq : (Try.prog.fieldsOf t).toList with
    | nil => rw [hq] at hF; simp at hF
    | cons f1 r => cases r with
      | nil => rw [hq] at hF; simp at hF
      | cons f2 r => cases r with
        | nil => rw [hq] at hF; simp at hF; obtain ⟨⟨q1, q2, q3⟩, q4, q5, q6⟩ := hF; exact ⟨f1, f2, rfl, q1, q2, q3, q4, q5, q6⟩
        | cons => rw [hq] at hF; simp at hF
  have c : ∀ p0 p1 p2 p3 p4 p5 p6 p7 : Value, (#[p0, p1, p2, p3, p4, p5, p6, p7] : Array Value).extract 0 4 = #[p0, p1, p2, p3] ∧ (#[p0, p1, p2, p3, p4, p5, p6, p7] : Array Value).extract 4 8 = #[p4, p5, p6, p7] := fun _ _ _ _ _ _ _ _ => ⟨rfl, rfl⟩
  rw [hf]
  simp only [Op.eqFields, n1, n2, t1, t2, o1, o2, if_true, ne_eq, not_false_eq_true, Sem.run_bind, part26, Result.andThen_ok, List.cons_append, List.nil_append, Nat.zero_add, c, eq26 (d + 1)]
  have hc : cellsEq [.int .u64 a0, .int .u64 a1, .int .u64 a2, .int .u64 a3, .int .u64 a4, .int .u64 a5, .int .u64 a6, .int .u64 a7] [.int .u64 b0, .int .u64 b1, .int .u64 b2, .int .u64 b3, .int .u64 b4, .int .u64 b5, .int .u64 b6, .int .u64 b7] =
      ((ieqB a0 b0 && (ieqB a1 b1 && (ieqB a2 b2 && ieqB a3 b3))) && (ieqB a4 b4 && (ieqB a5 b5 && (ieqB a6 b6 && ieqB a7 b7)))) := by
    simp [cellsEq, Bool.and_assoc]
  rw [hc]
  generalize (ieqB a0 b0 && (ieqB a1 b1 && (ieqB a2 b2 && ieqB a3 b3))) = X
  cases X with
  | false => rfl
  | true =>
    simp only [Bool.not_true, Bool.false_eq_true, if_false, Sem.run_bind, part26, Result.andThen_ok, Nat.reduceAdd, c, eq26 (d + 1), Bool.true_and]
    generalize (ieqB a4 b4 && (ieqB a5 b5 && (ieqB a6 b6 && ieqB a7 b7))) = Y
    cases Y with
    | false => rfl
    | true => rfl

theorem eqOk62 : EqOk Try.prog 62 := eqTwo (by kernel_rfl) (by kernel_rfl) (by kernel_rfl) (by kernel_rfl) (by kernel_rfl)
theorem eqOk78 : EqOk Try.prog 78 := eqTwo (by kernel_rfl) (by kernel_rfl) (by kernel_rfl) (by kernel_rfl) (by kernel_rfl)

def tyEq (t : Nat) : Bool := match Nat.beq t 26 with
  | true => true
  | false => match Nat.beq t 62 with
    | true => true
    | false => Nat.beq t 78
theorem tyEq_ok (t : Nat) (h : tyEq t = true) : EqOk Try.prog t := by
  unfold tyEq at h
  split at h
  · rename_i hb; rw [Nat.eq_of_beq_eq_true hb]; exact eqOk26
  · split at h
    · rename_i hb; rw [Nat.eq_of_beq_eq_true hb]; exact eqOk62
    · rw [Nat.eq_of_beq_eq_true h]; exact eqOk78

/-- The evaluator's words for this program, with what is known of functions. -/
def cx (O : FuncId → List AB → List Blk → Option (Prop × AV × Eff × List Nat)) : Cx := ⟨tyT, tyEq, O⟩
theorem cx_ok {O : FuncId → List AB → List Blk → Option (Prop × AV × Eff × List Nat)} (h : ∀ f args mem p r e rd, O f args mem = some (p, r, e, rd) → p → ∀ S w0, CallOk Try.prog S w0 f args mem rd r e) : CxOk Try.prog (cx O) := ⟨tyT_ok, tyEq_ok, h, by kernel_rfl⟩
end Go.Proofs.Ytacjiajijigebaa
