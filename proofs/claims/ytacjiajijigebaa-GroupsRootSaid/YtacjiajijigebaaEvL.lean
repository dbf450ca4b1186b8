/- Laws on tables of types, and on values compared. No condition. -/
import Derived.Test.YtacjiajijigebaaEvK
namespace Go.Ev
open Go

def cvVal : CV → Value
  | .v x => x
  | .bool b => .bool b
  | .int k n => .int k n
  | _ => undef
def zCells : List Ch → List Value
  | [] => []
  | .cell c :: r => cvVal c :: zCells r
  | .num x :: r => limbs x ++ zCells r
  | .vec n f :: r => (List.range n).map (fun i => cvVal (f i)) ++ zCells r
def zokCV : CV → Bool
  | .v x => x.oneCell'
  | .bool _ => true
  | .int k n => decide (k.min ≤ n) && decide (n ≤ k.max)
  | _ => false
def zokB : List Ch → Bool
  | [] => true
  | .cell c :: r => zokCV c && zokB r
  | .num x :: r => Nat.blt x BW && zokB r
  | .vec n f :: r => (List.range n).all (fun i => zokCV (f i)) && zokB r

theorem zokCV_rel {c : CV} (h : zokCV c = true) (g : GM) : (cvVal c).oneCell' = true ∧ c.rel g (cvVal c) := by
  cases c with
  | v x => exact ⟨h, rfl⟩
  | bool b => exact ⟨rfl, rfl⟩
  | int k n =>
    simp only [zokCV, Bool.and_eq_true, decide_eq_true_eq] at h
    exact ⟨rfl, rfl, h⟩
  | _ => cases h

theorem zCells_rel : ∀ {z : List Ch} (_ : zokB z = true) (g : GM), chsRel g z (zCells z)
  | [], _, _ => rfl
  | .cell c :: r, h, g => by
    simp only [zokB, Bool.and_eq_true] at h
    have := zokCV_rel h.1 g
    exact ⟨[cvVal c], zCells r, rfl, ⟨_, rfl, this.1, this.2⟩, zCells_rel h.2 g⟩
  | .num x :: r, h, g => by
    simp only [zokB, Bool.and_eq_true, Nat.blt_eq] at h
    exact ⟨limbs x, zCells r, rfl, ⟨h.1, rfl⟩, zCells_rel h.2 g⟩
  | .vec n f :: r, h, g => by
    simp only [zokB, Bool.and_eq_true, List.all_eq_true] at h
    refine ⟨_, zCells r, rfl, ⟨by simp, fun i y hi => ?_⟩, zCells_rel h.2 g⟩
    rw [List.getElem?_map, Option.map_eq_some_iff] at hi
    obtain ⟨j, hj, rfl⟩ := hi
    have hlt := (List.getElem?_eq_some_iff.1 hj).1
    rw [List.length_range] at hlt
    rw [List.getElem?_range hlt] at hj
    injection hj with hj; subst hj
    exact zokCV_rel (h.1 i (List.mem_range.2 hlt)) g

theorem tyArr {P : Program} {t n e esz : Nat} {z : List Ch} (h1 : (P.info? t).map (fun i => (i.zero, i.size)) = some (some (.agg (zCells z).toArray), n * esz)) (h2 : P.underlying t = some (.array n e))
    (h3 : (P.info? e).map (·.size) = some esz) (h4 : 2 ≤ n) (h5 : zokB z = true) : TyOk P t (.arr n e esz z) := ⟨_, h1, h2, h3, h4, fun g => by simpa using zCells_rel h5 g⟩

def stOf (P : Program) : TypeDesc → Option (List (Nat × Nat))
  | .struct F => some (F.toList.map fun f => (f.offset, P.cellsOf f.type))
  | _ => none
theorem tySt {P : Program} {t sz : Nat} {fs : List (Nat × Nat)} {z : List Ch} (h1 : (P.info? t).map (fun i => (i.zero, i.size)) = some (some (.agg (zCells z).toArray), sz)) (h2 : (P.underlying t).bind (stOf P) = some fs)
    (h3 : ∀ p ∈ fs, p.2 ≠ 0) (h5 : zokB z = true) : TyOk P t (.st fs sz z) := by
  cases hu : P.underlying t with
  | none => rw [hu] at h2; cases h2
  | some d =>
    rw [hu] at h2
    cases d <;> first | (cases h2; done) | skip
    rename_i F
    simp only [Option.bind_some, stOf, Option.some.injEq] at h2
    exact ⟨_, F, h1, hu, h2, h3, fun g => by simpa using zCells_rel h5 g⟩
theorem tySc {P : Program} {t : Nat} {x : Value} (h1 : (P.info? t).map (fun i => (i.zero, i.size)) = some (some x, 1)) (h2 : (P.underlying t).map (fun d => (isAggD d, x.oneCell')) = some (false, true)) : TyOk P t (.sc (.v x)) := by
  cases hu : P.underlying t with
  | none => rw [hu] at h2; cases h2
  | some d =>
    rw [hu] at h2
    simp only [Option.map_some, Option.some.injEq, Prod.mk.injEq] at h2
    exact ⟨x, d, h1, hu, h2.1, h2.2, fun _ => rfl⟩

/-- A table. -/
inductive BT where
  | leaf
  | node (k : Nat) (v : TI) (l r : BT)
def BT.getT : BT → Nat → TI
  | .leaf, _ => .none
  | .node k v l r, t => match Nat.beq t k with
    | true => v
    | false => match Nat.blt t k with
      | true => l.getT t
      | false => r.getT t
def BT.All (p : Nat → TI → Prop) : BT → Prop
  | .leaf => True
  | .node k v l r => p k v ∧ l.All p ∧ r.All p
theorem BT.getT_ok {P : Program} : ∀ {b : BT}, b.All (TyOk P) → ∀ t, TyOk P t (b.getT t)
  | .leaf, _, _ => trivial
  | .node k v l r, ⟨h1, h2, h3⟩, t => by
    unfold BT.getT
    split
    · rename_i hb
      rw [Nat.eq_of_beq_eq_true hb]; exact h1
    · split
      · exact BT.getT_ok h2 t
      · exact BT.getT_ok h3 t

end Go.Ev
