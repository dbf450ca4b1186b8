/- Digits of numbers. No condition. -/
import Derived.Test.YtacjiajijigebaaOr
namespace Go.Ev
open Go

def dg (B j X : Nat) : Nat := X / B ^ j % B
def setD (B j v X : Nat) : Nat := X - dg B j X * B ^ j + v * B ^ j

theorem limb_dg (j X : Nat) : limb j X = dg B64 j X := rfl
theorem dg_lt {B : Nat} (hB : 0 < B) (j X : Nat) : dg B j X < B := Nat.mod_lt _ hB
theorem dg_le (B j X : Nat) : dg B j X * B ^ j ≤ X :=
  Nat.le_trans (Nat.mul_le_mul_right _ (Nat.mod_le _ _)) (Nat.div_mul_le_self X (B ^ j))
theorem setD_eq (B j v X : Nat) : setD B j v X + dg B j X * B ^ j = X + v * B ^ j := by
  have := dg_le B j X
  unfold setD; omega
theorem mod_succ {B : Nat} (j X : Nat) : X % B ^ (j + 1) = X % B ^ j + dg B j X * B ^ j := by
  unfold dg
  rw [Nat.pow_succ, Nat.mod_mul, Nat.mul_comm (B ^ j)]
theorem split {B : Nat} (j X : Nat) : X = X / B ^ (j + 1) * B ^ (j + 1) + dg B j X * B ^ j + X % B ^ j := by
  have h1 := Nat.div_add_mod X (B ^ (j + 1))
  rw [mod_succ, Nat.mul_comm] at h1
  omega
theorem setD_split {B : Nat} (j v X : Nat) : setD B j v X = X / B ^ (j + 1) * B ^ (j + 1) + v * B ^ j + X % B ^ j := by
  have h1 := split (B := B) j X
  have h2 := setD_eq B j v X
  omega
theorem dg_of {B : Nat} (hB : 0 < B) {H v L : Nat} (j : Nat) (hv : v < B) (hL : L < B ^ j) (i : Nat) :
    dg B i (H * B ^ (j + 1) + v * B ^ j + L) = if i = j then v else if i < j then dg B i L else dg B (i - (j + 1)) H := by
  have hp : ∀ n, 0 < B ^ n := fun n => Nat.pow_pos hB
  split
  · rename_i h; subst h
    unfold dg
    rw [show H * B ^ (i + 1) + v * B ^ i + L = (H * B + v) * B ^ i + L by rw [Nat.add_mul, Nat.mul_assoc H, Nat.mul_comm B, ← Nat.pow_succ]]
    rw [Nat.mul_comm _ (B ^ i), Nat.mul_add_div (hp i), Nat.div_eq_of_lt hL, Nat.add_zero, Nat.mul_comm H, Nat.mul_add_mod, Nat.mod_eq_of_lt hv]
  · split
    · rename_i h
      unfold dg
      have e : H * B ^ (j + 1) + v * B ^ j + L = B ^ i * (B * ((H * B + v) * B ^ (j - (i + 1)))) + L := by
        have : B ^ j = B ^ i * (B * B ^ (j - (i + 1))) := by rw [← Nat.pow_succ', ← Nat.pow_add]; congr 1; omega
        rw [Nat.pow_succ, this]
        have e1 : H * (B ^ i * (B * B ^ (j - (i + 1))) * B) + v * (B ^ i * (B * B ^ (j - (i + 1)))) = B ^ i * (B * ((H * B + v) * B ^ (j - (i + 1)))) := by
          rw [Nat.add_mul, Nat.mul_add, Nat.mul_add]
          congr 1
          · ac_rfl
          · ac_rfl
        rw [e1]
      rw [e, Nat.mul_add_div (hp i), Nat.mul_add_mod]
    · rename_i h1 h2
      unfold dg
      have hi : i = (j + 1) + (i - (j + 1)) := by omega
      have hlt : v * B ^ j + L < B ^ (j + 1) := by
        have := Nat.mul_le_mul_right (B ^ j) (show v + 1 ≤ B by omega)
        rw [Nat.add_mul, Nat.one_mul] at this
        rw [Nat.pow_succ, Nat.mul_comm (B ^ j)]
        omega
      rw [show B ^ i = B ^ (j + 1) * B ^ (i - (j + 1)) by rw [← Nat.pow_add, ← hi], ← Nat.div_div_eq_div_mul, Nat.add_assoc, Nat.mul_comm H, Nat.mul_add_div (hp _), Nat.div_eq_of_lt hlt, Nat.add_zero]
theorem dg_setD {B : Nat} (hB : 0 < B) {v : Nat} (hv : v < B) (j X i : Nat) : dg B i (setD B j v X) = if i = j then v else dg B i X := by
  have hm : X % B ^ j < B ^ j := Nat.mod_lt _ (Nat.pow_pos hB)
  rw [setD_split, dg_of hB j hv hm i]
  split
  · rfl
  · rename_i h
    have h2 := dg_of hB (H := X / B ^ (j + 1)) j (dg_lt hB j X) hm i
    rw [← split, if_neg h] at h2
    exact h2.symm
theorem setD_lt {B : Nat} (hB : 0 < B) {v n : Nat} (hv : v < B) {j X : Nat} (hX : X < B ^ n) (hj : j < n) : setD B j v X < B ^ n := by
  have hm : X % B ^ j < B ^ j := Nat.mod_lt _ (Nat.pow_pos hB)
  have hlt : v * B ^ j + X % B ^ j < B ^ (j + 1) := by
    have := Nat.mul_le_mul_right (B ^ j) (show v + 1 ≤ B by omega)
    rw [Nat.add_mul, Nat.one_mul] at this
    rw [Nat.pow_succ, Nat.mul_comm (B ^ j)]
    omega
  have e : B ^ n = B ^ (n - (j + 1)) * B ^ (j + 1) := by rw [← Nat.pow_add]; congr 1; omega
  rw [setD_split]
  rw [e] at hX ⊢
  have h1 : X / B ^ (j + 1) < B ^ (n - (j + 1)) := (Nat.div_lt_iff_lt_mul (Nat.pow_pos hB)).2 hX
  have := Nat.mul_le_mul_right (B ^ (j + 1)) h1
  rw [Nat.succ_mul] at this
  omega
theorem dg_high {B : Nat} {X n j : Nat} (hB : 0 < B) (hX : X < B ^ n) (hj : n ≤ j) : dg B j X = 0 := by
  unfold dg
  rw [Nat.div_eq_of_lt (Nat.lt_of_lt_of_le hX (Nat.pow_le_pow_right hB hj)), Nat.zero_mod]
theorem dg_ext {B : Nat} : ∀ (n X Y : Nat), X < B ^ n → Y < B ^ n → (∀ i, i < n → dg B i X = dg B i Y) → X = Y := by
  have key : ∀ (n X Y : Nat), (∀ i, i < n → dg B i X = dg B i Y) → X % B ^ n = Y % B ^ n := by
    intro n X Y h
    induction n with
    | zero => simp [Nat.mod_one]
    | succ n ih => rw [mod_succ, mod_succ, ih fun i hi => h i (by omega), h n (by omega)]
  intro n X Y hX hY h
  have := key n X Y h
  rwa [Nat.mod_eq_of_lt hX, Nat.mod_eq_of_lt hY] at this

/-- A step of the school's product. -/
theorem mul_step {B : Nat} (i k X a Y m : Nat) : setD B (i + k) ((dg B (i + k) X + a * dg B k Y + m) % B) X + ((dg B (i + k) X + a * dg B k Y + m) / B) * B ^ (i + k + 1) = X + m * B ^ (i + k) + a * dg B k Y * B ^ (i + k) := by
  have h1 := setD_eq B (i + k) ((dg B (i + k) X + a * dg B k Y + m) % B) X
  have h2 := Nat.div_add_mod (dg B (i + k) X + a * dg B k Y + m) B
  have h3 : (dg B (i + k) X + a * dg B k Y + m) * B ^ (i + k) = ((dg B (i + k) X + a * dg B k Y + m) / B) * B ^ (i + k + 1) + (dg B (i + k) X + a * dg B k Y + m) % B * B ^ (i + k) := by
    rw [Nat.pow_succ, ← Nat.mul_assoc, Nat.mul_right_comm, ← Nat.add_mul, Nat.mul_comm _ B, h2]
  rw [Nat.add_mul, Nat.add_mul] at h3
  omega

/-! ### Rows of digits in memory -/
def vecX (B X : Nat) : Nat → CV := fun j => .int .u64 (Int.ofNat (dg B j X))
theorem leVec {m n : Nat} {f f' : Nat → CV} {v : Nat → Int} (h : ∀ i, i < n → f i = .int .u64 (v i)) (h' : ∀ i, i < n → f' i = .int .u64 (v i)) : ∀ i, i < n → leCV m (f i) (f' i) True := by
  intro i hi
  rw [h i hi, h' i hi]
  exact ⟨rfl, trivial⟩
theorem fupd_vecX {B X v j i : Nat} {x : Int} (hB : 0 < B) (hv : v < B) (hx : x = (v : Int)) : fupd (vecX B X) j (.int .u64 x) i = .int .u64 (Int.ofNat (dg B i (setD B j v X))) := by
  subst hx
  rw [dg_setD hB hv]
  unfold fupd vecX
  split
  · rename_i h; rw [if_pos (Nat.eq_of_beq_eq_true h)]; rfl
  · rename_i h; rw [if_neg (Nat.ne_of_beq_eq_false h)]

section
variable {P : Program} {S : Nat → Prop} {w0 : World} {ts : List AV} {mem : List Blk}
/-- A long number out of a row of words. -/
theorem exec_load_num {o : Oper} {t : TypeId} {x : Operand} (ho : o.op = .load t x) {ti : TI} (hT : TyOk P t ti) (hsz : szOf ti = some 4) {l off i : Nat} (hx0 : opv ts x = .b (.cv (.ptr l off i)))
    {k : Blk} (hk : bnth mem l = some k) {r : List Ch} {n : Nat} {f : Nat → CV} (hr : dropCh k.1 off = some (.vec n f :: r)) (hn : i + 4 ≤ n) {Y : Nat} (hY : Y < BW) (hf : ∀ j, j < 4 → f (i + j) = .int .u64 (Int.ofNat (limb j Y))) :
    Exec P S w0 o ts mem [l] (.b (.agg [.num Y])) noEff := by
  rw [bnth_eq] at hk
  refine exec_read fun g a w hx hrd _ => ?_
  have h1 := hx x (by simp [ho, Op.operands])
  rw [hx0] at h1
  obtain ⟨b, hb, hv⟩ := h1
  obtain ⟨d, hu, hd, hs⟩ := ty_agg hT hsz
  obtain ⟨pre, e1, e2⟩ := dropCh_ok _ _ _ hr
  obtain ⟨cs, ty, fz, us0, rest, h2, _, h2a, h3, _⟩ := (hrd l (by simp) b k hb hk).2.resolve_left (by rw [e1]; simp)
  rw [e1] at h3
  obtain ⟨us, ws, e5, q1, us', ws', rfl, q3, q4⟩ := (chsRel_append _ _ _).1 h3
  rw [e5, List.append_assoc, List.append_assoc] at h2a
  have l1 := chsRel_size _ _ q1
  have get : ∀ j, j < 4 → us'[i + j]? = some (.int .u64 (Int.ofNat (limb j Y))) := by
    intro j hj
    have hlt : i + j < us'.length := by rw [q3.1]; omega
    have h := (q3.2 (i + j) _ (List.getElem?_eq_getElem hlt)).2
    rw [hf j hj] at h
    rw [List.getElem?_eq_getElem hlt, h.1]
  have hload := run_load_agg hu hd hs h2 (off := off + i) (vs := limbs Y) (fun j v hj => by
    have hj4 : j < 4 := (List.getElem?_eq_some_iff.1 hj).1
    rw [limbs_get Y j hj4] at hj
    rw [← Array.getElem?_toList, h2a, List.getElem?_append_right (by omega), show off + i + j - us.length = i + j by omega, List.getElem?_append_left (by rw [q3.1]; omega), get j hj4]
    exact hj) rfl
  refine ⟨.agg (limbs Y).toArray, ?_, ⟨_, rfl, limbs Y, [], by simp, ⟨hY, rfl⟩, rfl⟩⟩
  simp only [execOp, ho, hv, Instr.loadAt, Instr.sureAddr, Sem.run_bind, Sem.run_pure, Result.andThen_ok, hload]
end
end Go.Ev
