/- Rows of cells, as the evaluator has them: what stands where, what is taken out and put in; loads and stores in a world. No condition. -/
import Derived.Test.YtacjiajijigebaaEvD
namespace Go.Ev
open Go

def CV.cellOk : CV → Bool
  | .top => false
  | .v x => x.oneCell'
  | _ => true

theorem CV.cellOk_rel {g : GM} {c : CV} {y : Value} (h : c.cellOk = true) (hr : c.rel g y) : y.oneCell' = true := by
  cases c with
  | top => cases h
  | v x => rw [show y = x from hr]; exact h
  | bool b => rw [show y = _ from hr]; rfl
  | int k n => rw [hr.1]; rfl
  | ptr l o i => obtain ⟨b, _, rfl⟩ := hr; rfl
  | sl l o i n c => rcases hr with ⟨_, _, _, rfl⟩ | ⟨_, _, _, _, b, _, _, rfl⟩ <;> rfl
  | fn f fs cs => obtain ⟨_, ws, _, rfl⟩ := hr; rfl

theorem Ch.rel_one {g : GM} {c : Ch} {vs : List Value} (h : c.rel g vs) : ∀ y ∈ vs, y.oneCell' = true := by
  cases c with
  | cell c => obtain ⟨y, rfl, h1, _⟩ := h; simpa using h1
  | num x => rw [h.2]; intro y hy; simp only [limbs, List.mem_cons, List.not_mem_nil, or_false] at hy; rcases hy with rfl | rfl | rfl | rfl <;> rfl
  | vec n f => intro y hy; obtain ⟨i, hi, rfl⟩ := List.getElem_of_mem hy; exact (h.2 i _ (List.getElem?_eq_getElem hi)).1

theorem chsRel_one {g : GM} : ∀ (cs : List Ch) (vs : List Value), chsRel g cs vs → ∀ y ∈ vs, y.oneCell' = true
  | [], _, h, y, hy => by rw [show _ = [] from h] at hy; cases hy
  | c :: cs, _, ⟨us, ws, h1, h2, h3⟩, y, hy => by
    rw [h1, List.mem_append] at hy
    rcases hy with hy | hy
    · exact Ch.rel_one h2 y hy
    · exact chsRel_one cs ws h3 y hy

def bnth : List Blk → Nat → Option Blk
  | [], _ => none
  | k :: _, 0 => some k
  | _ :: ks, n + 1 => bnth ks n
theorem bnth_eq : ∀ (ks : List Blk) (n : Nat), bnth ks n = ks[n]?
  | [], _ => rfl
  | _ :: _, 0 => rfl
  | _ :: ks, n + 1 => by simp [bnth, bnth_eq ks n]

/-- From offset off on. -/
def dropCh : List Ch → Nat → Option (List Ch)
  | [], off => match Nat.beq off 0 with
    | true => some []
    | false => none
  | c :: r, off => match Nat.beq off 0 with
    | true => some (c :: r)
    | false => match Nat.ble c.size off with
      | true => dropCh r (off - c.size)
      | false => none
def takeCh : List Ch → Nat → Option (List Ch)
  | [], sz => match Nat.beq sz 0 with
    | true => some []
    | false => none
  | c :: r, sz => match Nat.beq sz 0 with
    | true => some []
    | false => match Nat.ble c.size sz with
      | true => match takeCh r (sz - c.size) with
        | some l => some (c :: l)
        | none => none
      | false => none
def appCh : List Ch → List Ch → List Ch
  | [], y => y
  | c :: x, y => c :: appCh x y
/-- The sz cells from off on are 'new' instead. -/
def replCh (new : List Ch) (sz : Nat) : List Ch → Nat → Option (List Ch)
  | [], off => match Nat.beq off 0 with
    | true => match Nat.beq sz 0 with
      | true => some new
      | false => none
    | false => none
  | c :: r, off => match Nat.beq off 0 with
    | true => match dropCh (c :: r) sz with
      | some q => some (appCh new q)
      | none => none
    | false => match Nat.ble c.size off with
      | true => match replCh new sz r (off - c.size) with
        | some q => some (c :: q)
        | none => none
      | false => none

theorem appCh_eq : ∀ (x y : List Ch), appCh x y = x ++ y
  | [], _ => rfl
  | c :: x, y => by simp [appCh, appCh_eq x y]

theorem chsSize_append : ∀ (x y : List Ch), chsSize (x ++ y) = chsSize x + chsSize y
  | [], y => by simp [chsSize]
  | c :: x, y => by simp [chsSize, chsSize_append x y]; omega

theorem dropCh_ok : ∀ (cs : List Ch) (off : Nat) (r : List Ch), dropCh cs off = some r → ∃ pre, cs = pre ++ r ∧ chsSize pre = off
  | [], off, r, h => by
    unfold dropCh at h
    split at h
    · rename_i hb
      injection h with h; subst h
      exact ⟨[], rfl, (Nat.eq_of_beq_eq_true hb).symm⟩
    · cases h
  | c :: cs, off, r, h => by
    unfold dropCh at h
    split at h
    · rename_i hb
      injection h with h; subst h
      exact ⟨[], rfl, (Nat.eq_of_beq_eq_true hb).symm⟩
    · split at h
      · rename_i hb
        have hle := Nat.le_of_ble_eq_true hb
        obtain ⟨pre, h1, h2⟩ := dropCh_ok cs _ r h
        exact ⟨c :: pre, by rw [h1]; rfl, by simp [chsSize, h2]; omega⟩
      · cases h

theorem takeCh_ok : ∀ (cs : List Ch) (sz : Nat) (l : List Ch), takeCh cs sz = some l → ∃ post, cs = l ++ post ∧ chsSize l = sz
  | [], sz, l, h => by
    unfold takeCh at h
    split at h
    · rename_i hb
      injection h with h; subst h
      exact ⟨[], rfl, (Nat.eq_of_beq_eq_true hb).symm⟩
    · cases h
  | c :: cs, sz, l, h => by
    unfold takeCh at h
    split at h
    · rename_i hb
      injection h with h; subst h
      exact ⟨c :: cs, rfl, (Nat.eq_of_beq_eq_true hb).symm⟩
    · split at h
      · rename_i hb
        have hle := Nat.le_of_ble_eq_true hb
        split at h
        · rename_i l' hl
          injection h with h; subst h
          obtain ⟨post, h1, h2⟩ := takeCh_ok cs _ l' hl
          exact ⟨post, by rw [h1]; rfl, by simp [chsSize, h2]; omega⟩
        · cases h
      · cases h

theorem replCh_ok (new : List Ch) (sz : Nat) : ∀ (cs : List Ch) (off : Nat) (r : List Ch), replCh new sz cs off = some r →
    ∃ pre mid post, cs = pre ++ (mid ++ post) ∧ chsSize pre = off ∧ chsSize mid = sz ∧ r = pre ++ (new ++ post)
  | [], off, r, h => by
    unfold replCh at h
    split at h
    · rename_i hb
      split at h
      · rename_i hb2
        injection h with h; subst h
        exact ⟨[], [], [], rfl, (Nat.eq_of_beq_eq_true hb).symm, (Nat.eq_of_beq_eq_true hb2).symm, by simp⟩
      · cases h
    · cases h
  | c :: cs, off, r, h => by
    unfold replCh at h
    split at h
    · rename_i hb
      split at h
      · rename_i q hq
        injection h with h; subst h
        obtain ⟨mid, h1, h2⟩ := dropCh_ok _ _ _ hq
        exact ⟨[], mid, q, h1, (Nat.eq_of_beq_eq_true hb).symm, h2, by rw [appCh_eq]; rfl⟩
      · cases h
    · split at h
      · rename_i hb
        have hle := Nat.le_of_ble_eq_true hb
        split at h
        · rename_i q hq
          injection h with h; subst h
          obtain ⟨pre, mid, post, h1, h2, h3, h4⟩ := replCh_ok new sz cs _ q hq
          exact ⟨c :: pre, mid, post, by rw [h1]; rfl, by simp [chsSize, h2]; omega, h3, by rw [h4]; rfl⟩
        · cases h
      · cases h

/-- The cell at place i of a row that begins with these. -/
def obl (b : Bool) (K : Prop) : Prop := match b with
  | true => K
  | false => False
theorem obl_of {b : Bool} {K : Prop} (hb : b = true) (h : K) : obl b K := by subst hb; exact h
theorem obl_ok {b : Bool} {K : Prop} (h : obl b K) : b = true ∧ K := by cases b with
  | true => exact ⟨rfl, h⟩
  | false => exact h.elim

def Ch.at_ (c : Ch) (i : Nat) (K : CV → Prop) : Prop := match c with
  | .cell c => obl (Nat.beq i 0) (K c)
  | .num x => obl (Nat.blt i 4) (K (.int .u64 (Int.ofNat (limb i x))))
  | .vec n f => obl (Nat.blt i n) (K (f i))

theorem limb_lt (i x : Nat) : limb i x < B64 := Nat.mod_lt _ (by decide)
theorem limb_has (i x : Nat) : IntKind.has .u64 (Int.ofNat (limb i x)) := by
  have h := limb_lt i x
  have h1 : IntKind.u64.min = 0 := rfl
  have h2 : IntKind.u64.max = 18446744073709551615 := rfl
  unfold B64 at h
  unfold IntKind.has
  rw [h1, h2]
  constructor
  · exact Int.natCast_nonneg _
  · show ((limb i x : Nat) : Int) ≤ _
    omega

theorem limbs_get (x i : Nat) (h : i < 4) : (limbs x)[i]? = some (.int .u64 (Int.ofNat (limb i x))) := by
  match i, h with
  | 0, _ => rfl
  | 1, _ => rfl
  | 2, _ => rfl
  | 3, _ => rfl

theorem Ch.at_ok {g : GM} {c : Ch} {vs : List Value} (hr : c.rel g vs) {i : Nat} {K : CV → Prop} (h : c.at_ i K) : ∃ cv y, K cv ∧ vs[i]? = some y ∧ cv.rel g y ∧ y.oneCell' = true := by
  cases c with
  | cell c =>
    obtain ⟨hb, hK⟩ := obl_ok h
    have := Nat.eq_of_beq_eq_true hb; subst this
    obtain ⟨y, rfl, h1, h2⟩ := hr
    exact ⟨c, y, hK, rfl, h2, h1⟩
  | num x =>
    obtain ⟨hb, hK⟩ := obl_ok h
    rw [Nat.blt_eq] at hb
    exact ⟨_, _, hK, by rw [hr.2]; exact limbs_get x i hb, ⟨rfl, limb_has i x⟩, rfl⟩
  | vec n f =>
    obtain ⟨hb, hK⟩ := obl_ok h
    rw [Nat.blt_eq] at hb
    have hlt : i < vs.length := by rw [hr.1]; exact hb
    exact ⟨_, _, hK, List.getElem?_eq_getElem hlt, (hr.2 i _ (List.getElem?_eq_getElem hlt)).2, (hr.2 i _ (List.getElem?_eq_getElem hlt)).1⟩

/-! ### In a world -/

theorem cell_blk {w : World} {b : Nat} {cs : Array Value} {t : TypeId} {fz : Nat × Nat} (h : w.heap[b]? = some (.cells cs t fz)) (j : Nat) : w.cell? ⟨b, j, none⟩ = cs[j]? := by
  simp [World.cell?, h]

theorem add_addr (b o n : Nat) : (⟨b, o, none⟩ : Addr).add n = ⟨b, o + n, none⟩ := by
  unfold Addr.add; split
  · rename_i h; subst h; rfl
  · rfl

/-- A type's place among the words of the evaluator. -/
inductive TI where
  | int (k : IntKind)
  | bool
  | str
  | sc (z : CV)
  | arr (n : Nat) (e : Nat) (esz : Nat) (z : List Ch)
  | st (fs : List (Nat × Nat)) (sz : Nat) (z : List Ch)
  | slice (e : Nat) (esz : Nat)
  | none

def isAggD : TypeDesc → Bool
  | .struct _ | .array _ _ => true
  | _ => false

def TyOk (P : Program) (t : Nat) : TI → Prop
  | .int k => (P.info? t).map (fun i => (i.zero, i.size)) = some (some (.int k 0), 1) ∧ P.underlying t = some (.int k)
  | .bool => (P.info? t).map (fun i => (i.zero, i.size)) = some (some (.bool false), 1) ∧ P.underlying t = some .bool
  | .str => (P.info? t).map (fun i => (i.zero, i.size)) = some (some (.string ByteArray.empty), 1) ∧ P.underlying t = some .string
  | .sc z => ∃ (v : Value) (d : TypeDesc), (P.info? t).map (fun i => (i.zero, i.size)) = some (some v, 1) ∧ P.underlying t = some d ∧ isAggD d = false ∧ z.cellOk = true ∧ ∀ g, z.rel g v
  | .arr n e esz z => ∃ (v : Array Value), (P.info? t).map (fun i => (i.zero, i.size)) = some (some (.agg v), n * esz) ∧ P.underlying t = some (.array n e) ∧ (P.info? e).map (·.size) = some esz ∧ 2 ≤ n ∧ ∀ g, chsRel g z v.toList
  | .st fs sz z => ∃ (v : Array Value) (F : Array Field), (P.info? t).map (fun i => (i.zero, i.size)) = some (some (.agg v), sz) ∧ P.underlying t = some (.struct F) ∧
      (F.toList.map fun f => (f.offset, (P.cellsOf f.type))) = fs ∧ (∀ p ∈ fs, p.2 ≠ 0) ∧ ∀ g, chsRel g z v.toList
  | .slice e esz => (P.info? t).map (fun i => (i.zero, i.size)) = some (some (.slice none 0 0), 1) ∧ P.underlying t = some (.slice e) ∧ (P.info? e).map (·.size) = some esz
  | .none => True

theorem run_underlying' {P : Program} {t : Nat} {d : TypeDesc} (h : P.underlying t = some d) (w : World) : (underlying t).run P w = .ok d w := by
  simp [underlying, h]

theorem run_sizeOf' {P : Program} {t n : Nat} (h : (P.info? t).map (·.size) = some n) (w : World) : (sizeOf t).run P w = .ok n w := by
  cases hq : P.info? t with
  | none => simp [hq] at h
  | some i => simp [hq] at h; simp [sizeOf, typeInfo, hq, h]

theorem run_zero' {P : Program} {t n : Nat} {v : Value} (h : (P.info? t).map (fun i => (i.zero, i.size)) = some (some v, n)) (w : World) : (zeroValue t).run P w = .ok v w ∧ (P.info? t).map (·.size) = some n := by
  cases hq : P.info? t with
  | none => simp [hq] at h
  | some i => simp [hq] at h; simp [zeroValue, typeInfo, hq, h]

theorem run_isAgg' {P : Program} {t : Nat} {d : TypeDesc} (h : P.underlying t = some d) (w : World) : (isAgg t).run P w = .ok (isAggD d) w := by
  unfold isAgg
  rw [Sem.run_bind, run_underlying' h w]
  cases d <;> rfl

theorem run_load_agg {P : Program} {t sz : Nat} {d : TypeDesc} (hu : P.underlying t = some d) (hd : isAggD d = true) (hs : (P.info? t).map (·.size) = some sz) {w : World} {b : Nat} {cs : Array Value} {ty : TypeId} {fz : Nat × Nat}
    (hb : w.heap[b]? = some (.cells cs ty fz)) {off : Nat} {vs : List Value} (hv : ∀ j v, vs[j]? = some v → cs[off + j]? = some v) (hl : vs.length = sz) : (loadVar t ⟨b, off, none⟩).run P w = .ok (.agg vs.toArray) w := by
  have h1 := run_loadCells_list (P := P) w ⟨b, off, none⟩ vs (fun j v hj => by rw [add_addr, cell_blk hb]; exact hv j v hj)
  unfold loadVar
  rw [Sem.run_bind, run_isAgg' hu, hd]
  simp only [Result.andThen_ok, if_true, Sem.run_bind, run_sizeOf' hs]
  rw [← hl, h1]
  rfl

theorem run_load_one {P : Program} {t : Nat} {d : TypeDesc} (hu : P.underlying t = some d) (hd : isAggD d = false) {w : World} {b : Nat} {cs : Array Value} {ty : TypeId} {fz : Nat × Nat}
    (hb : w.heap[b]? = some (.cells cs ty fz)) {off : Nat} {v : Value} (hv : cs[off]? = some v) : (loadVar t ⟨b, off, none⟩).run P w = .ok v w := by
  unfold loadVar
  rw [Sem.run_bind, run_isAgg' hu, hd]
  simp only [Result.andThen_ok, Bool.false_eq_true, if_false, run_load, cell_blk hb, hv]

/-- The world with block b as it is said. -/
def putB (w : World) (b : Nat) (o : Obj) : World := { w with heap := w.heap.setIfInBounds b o }
theorem putB_get (w : World) (b : Nat) (o : Obj) (k : Nat) (hb : b < w.heap.size) : (putB w b o).heap[k]? = if b = k then some o else w.heap[k]? := by
  unfold putB
  simp only [Array.getElem?_setIfInBounds]
  by_cases h : b = k
  · subst h; simp [hb]
  · simp [h]
theorem putB_size (w : World) (b : Nat) (o : Obj) : (putB w b o).heap.size = w.heap.size := by simp [putB]

theorem setCell_putB {w : World} {b : Nat} {cs : Array Value} {ty : TypeId} {fz : Nat × Nat} (hb : w.heap[b]? = some (.cells cs ty fz)) (j : Nat) (v : Value) :
    w.setCell ⟨b, j, none⟩ v = putB w b (.cells (cs.setIfInBounds j v) ty fz) := by
  have hlt : b < w.heap.size := by
    rcases Nat.lt_or_ge b w.heap.size with h | h
    · exact h
    · rw [Array.getElem?_eq_none h] at hb; cases hb
  have hg : w.heap[b] = .cells cs ty fz := by rw [Array.getElem?_eq_getElem hlt] at hb; exact Option.some.inj hb
  unfold World.setCell putB
  congr 1
  apply Array.ext_getElem?
  intro k
  rw [Array.getElem?_modify, Array.getElem?_setIfInBounds]
  by_cases h : b = k
  · subst h; simp [hlt, hg]
  · simp [h]

theorem putB_putB {w : World} {b : Nat} (o o' : Obj) : putB (putB w b o) b o' = putB w b o' := by
  unfold putB
  simp only [World.mk.injEq, and_self, and_true]
  apply Array.ext_getElem?
  intro k
  simp only [Array.getElem?_setIfInBounds, Array.size_setIfInBounds]
  by_cases h : b = k
  · subst h; by_cases h2 : b < w.heap.size <;> simp [h2]
  · simp [h]

def setL (cs : Array Value) (off : Nat) : List Value → Array Value
  | [] => cs
  | v :: vs => setL (cs.setIfInBounds off v) (off + 1) vs
theorem setL_size : ∀ (vs : List Value) (cs : Array Value) (off : Nat), (setL cs off vs).size = cs.size
  | [], _, _ => rfl
  | v :: vs, cs, off => by simp [setL, setL_size vs]
theorem setL_get : ∀ (vs : List Value) (cs : Array Value) (off k : Nat), off + vs.length ≤ cs.size → (setL cs off vs)[k]? = if off ≤ k ∧ k < off + vs.length then vs[k - off]? else cs[k]?
  | [], cs, off, k, _ => by simp [setL]; omega
  | v :: vs, cs, off, k, h => by
    simp only [List.length_cons] at h
    simp only [setL, List.length_cons]
    rw [setL_get vs _ _ k (by simp; omega)]
    by_cases h1 : off + 1 ≤ k ∧ k < off + 1 + vs.length
    · rw [if_pos h1, if_pos (by omega), show k - off = (k - (off + 1)) + 1 by omega]; simp
    · rw [if_neg h1]
      by_cases h2 : k = off
      · subst h2
        rw [if_pos (by omega), Array.getElem?_setIfInBounds]
        simp; omega
      · rw [if_neg (by omega), Array.getElem?_setIfInBounds]
        simp [Ne.symm h2]

theorem run_storeCells' {P : Program} {b : Nat} {ty : TypeId} {fz : Nat × Nat} : ∀ (vs : List Value) (w : World) (cs : Array Value) (off i : Nat), w.heap[b]? = some (.cells cs ty fz) → off + i + vs.length ≤ cs.size →
    (∀ y ∈ vs, y.oneCell' = true) → (∀ o, o < cs.size → ¬ (fz.1 ≤ o ∧ o < fz.2)) → (storeCells ⟨b, off, none⟩ vs i).run P w = .ok () (match vs with | [] => w | _ => putB w b (.cells (setL cs (off + i) vs) ty fz))
  | [], w, _, _, _, _, _, _, _ => rfl
  | v :: vs, w, cs, off, i, hb, hl, h1, hz => by
    simp only [List.length_cons] at hl
    have hlt : b < w.heap.size := by
      rcases Nat.lt_or_ge b w.heap.size with h | h
      · exact h
      · rw [Array.getElem?_eq_none h] at hb; cases hb
    have hc : w.cell? ⟨b, off + i, none⟩ = some cs[off + i] := by rw [cell_blk hb]; simp
    have hf : w.frozen? ⟨b, off + i, none⟩ = false := by
      have h0 := hz (off + i) (by omega)
      have h2 : (decide (fz.1 ≤ off + i) && decide (off + i < fz.2)) = false := by
        rw [Bool.and_eq_false_iff, decide_eq_false_iff_not, decide_eq_false_iff_not]; omega
      simp only [World.frozen?, hb]
      exact h2
    rw [storeCells, Sem.run_bind, add_addr, run_store P w _ v _ (h1 v (List.mem_cons_self ..)), hc]
    simp only [hf, Bool.false_eq_true, if_false, Result.andThen_ok, setCell_putB hb]
    have hb' : (putB w b (.cells (cs.setIfInBounds (off + i) v) ty fz)).heap[b]? = some (.cells (cs.setIfInBounds (off + i) v) ty fz) := by rw [putB_get _ _ _ _ hlt, if_pos rfl]
    rw [run_storeCells' vs _ _ off (i + 1) hb' (by simp; omega) (fun y hy => h1 y (List.mem_cons_of_mem _ hy)) (fun o ho => hz o (by simpa using ho))]
    cases vs with
    | nil => rfl
    | cons v' vs => simp only [putB_putB]; rfl

theorem chsRel_split {g : GM} {pre r : List Ch} {vs : List Value} (h : chsRel g (pre ++ r) vs) : chsRel g pre (vs.take (chsSize pre)) ∧ chsRel g r (vs.drop (chsSize pre)) := by
  obtain ⟨us, ws, rfl, h1, h2⟩ := (chsRel_append pre r vs).1 h
  have := chsRel_size _ _ h1
  rw [← this]
  simp [h1, h2]

theorem chsRel_splice {g : GM} {cs cs' new : List Ch} {off sz : Nat} (hr : replCh new sz cs off = some cs') {vs us : List Value} (hv : chsRel g cs vs) (hu : chsRel g new us) (_hl : us.length = sz) :
    off + sz ≤ vs.length ∧ chsRel g cs' (vs.take off ++ (us ++ vs.drop (off + sz))) := by
  obtain ⟨pre, mid, post, rfl, h2, h3, rfl⟩ := replCh_ok _ _ _ _ _ hr
  obtain ⟨a, b, rfl, q1, q2⟩ := (chsRel_append _ _ _).1 hv
  obtain ⟨c, d, rfl, q3, q4⟩ := (chsRel_append _ _ _).1 q2
  have l1 := chsRel_size _ _ q1
  have l2 := chsRel_size _ _ q3
  have e1 : a.length = off := by omega
  have e2 : c.length = sz := by omega
  refine ⟨by simp; omega, ?_⟩
  have t1 : (a ++ (c ++ d)).take off = a := by rw [← e1]; simp
  have t2 : (a ++ (c ++ d)).drop (off + sz) = d := by rw [← e1, ← e2]; simp [← List.append_assoc, ← List.length_append]
  rw [t1, t2]
  exact (chsRel_append _ _ _).2 ⟨a, us ++ d, rfl, q1, (chsRel_append _ _ _).2 ⟨us, d, rfl, hu, q4⟩⟩

theorem setL_toList (cs : Array Value) (off : Nat) (vs : List Value) (h : off + vs.length ≤ cs.size) : (setL cs off vs).toList = cs.toList.take off ++ (vs ++ cs.toList.drop (off + vs.length)) := by
  apply List.ext_getElem?
  intro k
  rw [Array.getElem?_toList, setL_get vs cs off k h]
  have htl : (cs.toList.take off).length = off := by simp; omega
  by_cases h1 : k < off
  · rw [if_neg (by omega), List.getElem?_append_left (by omega), List.getElem?_take, if_pos h1]; simp
  · rw [List.getElem?_append_right (by omega), htl]
    by_cases h2 : k < off + vs.length
    · rw [if_pos (by omega), List.getElem?_append_left (by omega)]
    · rw [if_neg (by omega), List.getElem?_append_right (by omega), List.getElem?_drop]
      rw [show off + vs.length + (k - off - vs.length) = k by omega]
      simp

end Go.Ev
