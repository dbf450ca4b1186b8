/- Laws of single operations: what each leaves, as the evaluator has it. No condition. -/
import Derived.Test.YtacjiajijigebaaEvE
namespace Go.Ev
open Go

variable {P : Program} {S : Nat → Prop} {w0 : World} {ts : List AV} {mem : List Blk}

theorem Post.same {g : GM} {w : World} (hg : GW g S w0 w) : Post S w0 mem noEff g g w w :=
  ⟨GM.le_refl g, hg, fun l h h' => absurd h' h, Nat.le_refl _, fun _ _ _ => rfl, fun i k h => by simp [noEff] at h, fun l c h => by simp [noEff, wrFind] at h, fun l c h => by simp [noEff] at h, fun i b h h' => (by rw [h'] at h; cases h), fun i j b b2 q1 q2 q3 q4 _ => (by rw [q1] at q3; cases q3)⟩

/-- An operation that hands back a value and leaves the world. -/
theorem exec_read {o : Oper} {rd : List Nat} {av : AV}
    (h : ∀ (g : GM) (a : Act) (w : World), (∀ x ∈ o.op.operands, (opv ts x).rel g (a.eval x)) → (∀ l ∈ rd, ∀ b k, g l = some b → mem[l]? = some k → BlkRel S w0 g w b k) → GW g S w0 w →
      ∃ v, (execOp a.eval o).run P w = .ok (.value v) w ∧ av.rel g v) : Exec P S w0 o ts mem rd av noEff := by
  intro g a w hx hrd hg _ _ next Q hn
  obtain ⟨v, h1, h2⟩ := h g a w hx hrd hg
  unfold Oper.wp
  rw [h1]
  exact hn v w g h2 (Post.same hg)

theorem exec_pure {o : Oper} {av : AV} (h : ∀ (g : GM) (a : Act) (w : World), (∀ x ∈ o.op.operands, (opv ts x).rel g (a.eval x)) →
      ∃ v, (execOp a.eval o).run P w = .ok (.value v) w ∧ av.rel g v) : Exec P S w0 o ts mem [] av noEff :=
  exec_read fun g a w hx _ _ => h g a w hx

/-- The next name stands for the next block. -/
def GM.ext (g : GM) (n : Nat) (b : BR) : GM := fun l => if l = n then some b else g l
theorem GM.ext_same (g : GM) (n : Nat) (b : BR) : g.ext n b n = some b := by simp [GM.ext]
theorem GM.ext_le {g : GM} {n : Nat} {b : BR} (h : g n = none) : GM.le g (g.ext n b) := by
  intro l x hl
  unfold GM.ext
  by_cases e : l = n
  · subst e; rw [h] at hl; cases hl
  · simp [e, hl]

theorem push_get (w : World) (o : Obj) (k : Nat) (h : k < w.heap.size) : (w.heap.push o)[k]? = w.heap[k]? := by
  rw [Array.getElem?_push, if_neg (by omega)]

/-- A world with one block more (and some draws). -/
def moreW (w : World) (o : Obj) (d : Nat) : World := { w with heap := w.heap.push o, drawn := w.drawn + d }

theorem GW.more {g : GM} {w : World} (hg : GW g S w0 w) {n r e' : Nat} (_hf : g n = none) (o : Obj) (d : Nat) : GW (g.ext n ⟨w.heap.size, r, e'⟩) S w0 (moreW w o d) := by
  have hsz : (moreW w o d).heap.size = w.heap.size + 1 := by simp [moreW]
  refine ⟨fun l b h => ?_, ?_⟩
  · rw [hsz]
    unfold GM.ext at h
    by_cases e : l = n
    · rw [if_pos e] at h; injection h with h; subst h
      show w.heap.size < _
      omega
    · rw [if_neg e] at h
      have := hg.own l b h
      omega
  · refine ⟨hg.fr.os, hg.fr.tape, hg.fr.output, by rw [hsz]; have := hg.fr.size; omega, fun k hk hs => ?_⟩
    have h1 := hg.fr.block k hk hs
    have h2 : k < w.heap.size := Nat.lt_of_lt_of_le hk hg.fr.size
    show (w.heap.push o)[k]? = _
    rw [push_get w o k h2]; exact h1

/-- An operation that makes one block. -/
theorem exec_new {o : Oper} {rd : List Nat} {av : AV} {chs : List Ch} {mk : Nat} (hmk : isExt mk = false)
    (h : ∀ (g : GM) (a : Act) (w : World), (∀ x ∈ o.op.operands, (opv ts x).rel g (a.eval x)) → (∀ l ∈ rd, ∀ b k, g l = some b → mem[l]? = some k → BlkRel S w0 g w b k) → GW g S w0 w → g mem.length = none →
      ∃ (v : Value) (cs : Array Value) (t : TypeId) (fz : Nat × Nat) (d : Nat), (execOp a.eval o).run P w = .ok (.value v) (moreW w (.cells cs t fz) d) ∧ av.rel (g.ext mem.length ⟨w.heap.size, cs.size, emk mk⟩) v ∧ (∃ us rest, cs.toList = us ++ rest ∧ chsRel (g.ext mem.length ⟨w.heap.size, cs.size, emk mk⟩) chs us) ∧
        ∀ off, off < cs.size → ¬ (fz.1 ≤ off ∧ off < fz.2)) : Exec P S w0 o ts mem rd av ⟨[(chs, mk)], []⟩ := by
  intro g a w hx hrd hg hf _ next Q hn
  have hf0 : g mem.length = none := hf 0 (by simp)
  obtain ⟨v, cs, t, fz, d, h1, h2, ⟨us, rest, h3a, h3⟩, h4⟩ := h g a w hx hrd hg hf0
  unfold Oper.wp
  rw [h1]
  refine hn v _ _ h2 ⟨GM.ext_le hf0, hg.more hf0 _ _, fun l hl hl' => ?_, ?_, fun b hb _ => ?_, fun i k hi b hb => ?_, fun l c h => by simp [wrFind] at h, fun l c h => by simp at h, fun i b hb hn => ?_, fun i j b b' h1 h2 h3 h4 hbb => ?_⟩
  · unfold GM.ext at hl
    by_cases e : l = mem.length
    · subst e; simp
    · rw [if_neg e] at hl; exact absurd hl' hl
  · show w.heap.size ≤ (w.heap.push _).size
    simp
  · exact push_get w _ b hb
  · cases i with
    | succ i => simp at hi
    | zero =>
      simp only [List.getElem?_cons_zero, Option.some.injEq] at hi
      subst hi
      rw [Nat.add_zero, GM.ext_same] at hb
      injection hb with hb
      subst hb
      refine ⟨⟨fun h => (by rw [hmk] at h; cases h), fun h => absurd (.inr hg.fr.size) h⟩, .inr ⟨cs, t, fz, us, rest, by show (w.heap.push _)[w.heap.size]? = _; simp, ⟨rfl, rfl⟩, h3a, h3, fun _ => h4⟩⟩
  · unfold GM.ext at hb
    by_cases e : mem.length + i = mem.length
    · rw [if_pos e] at hb; injection hb with hb; subst hb; exact .inl (Nat.le_refl _)
    · rw [if_neg e, hn] at hb; cases hb
  · unfold GM.ext at h3 h4
    by_cases e : mem.length + i = mem.length
    · by_cases e' : mem.length + j = mem.length
      · omega
      · rw [if_neg e', h2] at h4; cases h4
    · rw [if_neg e, h1] at h3; cases h3

theorem GW.put {g : GM} {w : World} (hg : GW g S w0 w) {l : Nat} {b : BR} (hl : g l = some b) (ho : S b.b ∨ w0.heap.size ≤ b.b) (o : Obj) : GW g S w0 (putB w b.b o) := by
  have hb := hg.own l b hl
  refine ⟨fun l' b' h => by rw [putB_size]; exact hg.own l' b' h, ⟨hg.fr.os, hg.fr.tape, hg.fr.output, by rw [putB_size]; exact hg.fr.size, fun k hk hs => ?_⟩⟩
  rw [putB_get _ _ _ _ hb, if_neg ?_]
  · exact hg.fr.block k hk hs
  · intro hk2
    rcases ho with h | h
    · exact hs (hk2 ▸ h)
    · omega

/-- An operation that writes into one own block. -/
theorem exec_write {o : Oper} {rd : List Nat} {l : Nat} {c' : List Ch}
    (h : ∀ (g : GM) (a : Act) (w : World), (∀ x ∈ o.op.operands, (opv ts x).rel g (a.eval x)) → (∀ l ∈ rd, ∀ b k, g l = some b → mem[l]? = some k → BlkRel S w0 g w b k) → GW g S w0 w →
      ∃ (b : BR) (k : Blk) (cs : Array Value) (ty : TypeId) (fz : Nat × Nat) (us rest : List Value), g l = some b ∧ mem[l]? = some k ∧ live k ∧ BlkRel S w0 g w b k ∧ (execOp a.eval o).run P w = .ok .skip (putB w b.b (.cells cs ty fz)) ∧ (cs.size = b.room ∧ b.e = emk k.2) ∧ cs.toList = us ++ rest ∧ chsRel g c' us ∧
        ∀ off, off < cs.size → ¬ (fz.1 ≤ off ∧ off < fz.2)) : Exec P S w0 o ts mem rd .top ⟨[], [(l, c')]⟩ := by
  intro g a w hx hrd hg _ _ next Q hn
  obtain ⟨b, k, cs, ty, fz, us, rest, h1, h2, hlive, hbr, h3, hroom, h3a, h4, h5⟩ := h g a w hx hrd hg
  have hb := hg.own l b h1
  have hown : S b.b ∨ w0.heap.size ≤ b.b := Classical.byContradiction fun hc => by have := hbr.1.2 hc; rw [hlive.2] at this; cases this
  unfold Oper.wp
  rw [h3]
  refine hn undef _ g (AV.top_rel _ _) ⟨GM.le_refl g, hg.put h1 hown _, fun l h h' => absurd h' h, by rw [putB_size]; exact Nat.le_refl _, fun b' hb' hne => ?_, fun i k h => by simp at h, fun l' c hw b' k' hb' hk' => ?_, fun l' c hm => ?_, fun i b' hb' hn' => (by rw [hn'] at hb'; cases hb'), fun i j b' b2 q1 q2 q3 q4 _ => (by rw [q1] at q3; cases q3)⟩
  · rw [putB_get _ _ _ _ hb, if_neg ?_]
    intro hbe
    exact hne l c' b (by simp) h1 hbe
  · simp only [wrFind] at hw
    split at hw
    · rename_i he
      have he := Nat.eq_of_beq_eq_true he
      subst he
      injection hw with hw; subst hw
      rw [h1] at hb'; injection hb' with hb'; subst hb'
      rw [h2] at hk'; injection hk' with hk'; subst hk'
      exact ⟨hbr.1, .inr ⟨cs, ty, fz, us, rest, by rw [putB_get _ _ _ _ hb, if_pos rfl], hroom, h3a, h4, fun _ => h5⟩⟩
    · cases hw
  · simp only [List.mem_cons, List.not_mem_nil, or_false, Prod.mk.injEq] at hm
    obtain ⟨rfl, rfl⟩ := hm
    exact ⟨k, h2, hlive⟩

/-! ### Words for arguments -/

/-- The cells of a value. -/
def chsOf : AV → Option (List Ch)
  | .b (.cv c) => match c.cellOk with
    | true => some [.cell c]
    | false => none
  | .b (.agg cs) => some cs
  | .tup _ => none

theorem one_cells {y : Value} (h : y.oneCell' = true) : y.cells = #[y] := by
  cases y <;> first | rfl | cases h

theorem chsOf_rel {g : GM} {av : AV} {y : Value} {cs : List Ch} (h : chsOf av = some cs) (hr : av.rel g y) : chsRel g cs y.cells.toList := by
  cases av with
  | tup xs => cases h
  | b x =>
    cases x with
    | agg c =>
      simp only [chsOf, Option.some.injEq] at h; subst h
      obtain ⟨a, rfl, h2⟩ := hr
      exact h2
    | cv c =>
      simp only [chsOf] at h
      split at h
      · rename_i hc
        injection h with h; subst h
        have h1 := CV.cellOk_rel hc hr
        rw [one_cells h1]
        exact ⟨[y], [], rfl, ⟨y, rfl, h1, hr⟩, rfl⟩
      · cases h

def zeroOf : TI → Option (List Ch)
  | .int k => some [.cell (.int k 0)]
  | .bool => some [.cell (.bool false)]
  | .str => some [.cell (.v (.string ByteArray.empty))]
  | .sc z => some [.cell z]
  | .arr _ _ _ z => some z
  | .st _ _ z => some z
  | .slice _ _ => some [.cell (.v (.slice none 0 0))]
  | .none => none

theorem has_zero (k : IntKind) : IntKind.has k 0 := by cases k <;> (unfold IntKind.has; decide)

theorem zeroOf_rel {t : Nat} {ti : TI} {z : List Ch} (hT : TyOk P t ti) (h : zeroOf ti = some z) : ∃ v, (∀ w, (zeroValue t).run P w = .ok v w) ∧ ∀ g, chsRel g z v.cells.toList := by
  cases ti with
  | int k =>
    simp only [zeroOf, Option.some.injEq] at h; subst h
    exact ⟨_, fun w => (run_zero' hT.1 w).1, fun g => ⟨[.int k 0], [], rfl, ⟨_, rfl, rfl, rfl, has_zero k⟩, rfl⟩⟩
  | bool =>
    simp only [zeroOf, Option.some.injEq] at h; subst h
    exact ⟨_, fun w => (run_zero' hT.1 w).1, fun g => ⟨[.bool false], [], rfl, ⟨_, rfl, rfl, rfl⟩, rfl⟩⟩
  | str =>
    simp only [zeroOf, Option.some.injEq] at h; subst h
    exact ⟨_, fun w => (run_zero' hT.1 w).1, fun g => ⟨[.string ByteArray.empty], [], rfl, ⟨_, rfl, rfl, rfl⟩, rfl⟩⟩
  | sc z' =>
    simp only [zeroOf, Option.some.injEq] at h; subst h
    obtain ⟨v, d, h1, _, _, h3, h4⟩ := hT
    refine ⟨v, fun w => (run_zero' h1 w).1, fun g => ?_⟩
    have := CV.cellOk_rel h3 (h4 g)
    rw [one_cells this]
    exact ⟨[v], [], rfl, ⟨v, rfl, this, h4 g⟩, rfl⟩
  | arr n e esz z' =>
    simp only [zeroOf, Option.some.injEq] at h; subst h
    obtain ⟨v, h1, _, _, _, h4⟩ := hT
    exact ⟨.agg v, fun w => (run_zero' h1 w).1, fun g => h4 g⟩
  | st fs sz z' =>
    simp only [zeroOf, Option.some.injEq] at h; subst h
    obtain ⟨v, F, h1, _, _, _, h4⟩ := hT
    exact ⟨.agg v, fun w => (run_zero' h1 w).1, fun g => h4 g⟩
  | slice e esz =>
    simp only [zeroOf, Option.some.injEq] at h; subst h
    exact ⟨_, fun w => (run_zero' hT.1 w).1, fun g => ⟨[.slice none 0 0], [], rfl, ⟨_, rfl, rfl, rfl⟩, rfl⟩⟩
  | none => cases h

/-! ### alloc, box -/

theorem exec_alloc {o : Oper} {t : TypeId} (ho : o.op = .alloc t) {ti : TI} (hT : TyOk P t ti) {z : List Ch} (hz : zeroOf ti = some z) : Exec P S w0 o ts mem [] (.b (.cv (.ptr mem.length 0 0))) ⟨[(z, 0)], []⟩ := by
  refine exec_new rfl fun g a w _ _ _ hf => ?_
  obtain ⟨v, h1, h2⟩ := zeroOf_rel hT hz
  refine ⟨.pointer (some ⟨w.heap.size, 0, none⟩), v.cells, t, (0, 0), 0, ?_, ⟨_, GM.ext_same _ _ _, rfl⟩, ⟨_, [], (List.append_nil _).symm, h2 _⟩, fun off _ => by simp⟩
  simp [execOp, ho, Instr.alloc, h1, newVar, newRow, moreW]

theorem exec_box {o : Oper} {t : TypeId} {x : Operand} (ho : o.op = .box t x) {cs : List Ch} (hc : chsOf (opv ts x) = some cs) : Exec P S w0 o ts mem [] (.b (.cv (.ptr mem.length 0 0))) ⟨[(cs, 0)], []⟩ := by
  refine exec_new rfl fun g a w hx _ _ hf => ?_
  have h1 := chsOf_rel hc (hx x (by simp [ho, Op.operands]))
  refine ⟨.pointer (some ⟨w.heap.size, 0, none⟩), (a.eval x).cells, t, (0, 0), 0, ?_, ⟨_, GM.ext_same _ _ _, rfl⟩, ⟨_, [], (List.append_nil _).symm, chsRel_mono (GM.ext_le hf) _ _ h1⟩, fun off _ => by simp⟩
  simp [execOp, ho, Instr.box, newVar, newRow, moreW]

/-! ### load -/

def szOf : TI → Option Nat
  | .arr n _ esz _ => some (n * esz)
  | .st _ sz _ => some sz
  | _ => none
def isSc : TI → Bool
  | .int _ => true
  | .bool => true
  | .str => true
  | .sc _ => true
  | .slice _ _ => true
  | _ => false

theorem ty_agg {t : Nat} {ti : TI} {sz : Nat} (hT : TyOk P t ti) (h : szOf ti = some sz) : ∃ d, P.underlying t = some d ∧ isAggD d = true ∧ (P.info? t).map (·.size) = some sz := by
  cases ti with
  | arr n e esz z =>
    simp only [szOf, Option.some.injEq] at h; subst h
    obtain ⟨v, h1, h2, _⟩ := hT
    exact ⟨_, h2, rfl, (run_zero' h1 default).2⟩
  | st fs sz z =>
    simp only [szOf, Option.some.injEq] at h; subst h
    obtain ⟨v, F, h1, h2, _⟩ := hT
    exact ⟨_, h2, rfl, (run_zero' h1 default).2⟩
  | _ => cases h
theorem ty_sc {t : Nat} {ti : TI} (hT : TyOk P t ti) (h : isSc ti = true) : ∃ d, P.underlying t = some d ∧ isAggD d = false ∧ (P.info? t).map (·.size) = some 1 := by
  cases ti with
  | int k => exact ⟨_, hT.2, rfl, (run_zero' hT.1 default).2⟩
  | bool => exact ⟨_, hT.2, rfl, (run_zero' hT.1 default).2⟩
  | str => exact ⟨_, hT.2, rfl, (run_zero' hT.1 default).2⟩
  | sc z => obtain ⟨v, d, h1, h2, h3, _⟩ := hT; exact ⟨d, h2, h3, (run_zero' h1 default).2⟩
  | slice e esz => exact ⟨_, hT.2.1, rfl, (run_zero' hT.1 default).2⟩
  | _ => cases h

/-- A load of a whole from an own block. -/
theorem exec_load_agg {o : Oper} {t : TypeId} {x : Operand} (ho : o.op = .load t x) {ti : TI} (hT : TyOk P t ti) {sz : Nat} (hsz : szOf ti = some sz) {l off : Nat} (hx0 : opv ts x = .b (.cv (.ptr l off 0)))
    {k : Blk} (hk : mem[l]? = some k) {r q : List Ch} (hr : dropCh k.1 off = some r) (hq : takeCh r sz = some q) (hq0 : q ≠ []) : Exec P S w0 o ts mem [l] (.b (.agg q)) noEff := by
  refine exec_read fun g a w hx hrd _ => ?_
  have h1 := hx x (by simp [ho, Op.operands])
  rw [hx0] at h1
  obtain ⟨b, hb, hv⟩ := h1
  obtain ⟨d, hu, hd, hs⟩ := ty_agg hT hsz
  obtain ⟨pre, e1, e2⟩ := dropCh_ok _ _ _ hr
  obtain ⟨post, e3, e4⟩ := takeCh_ok _ _ _ hq
  obtain ⟨cs, ty, fz, us0, rest, h2, _, h2a, h3, _⟩ := (hrd l (by simp) b k hb hk).2.resolve_left (by rw [e1, e3]; simp [hq0])
  rw [e1, e3] at h3
  obtain ⟨us, ws, e5, q1, q2⟩ := (chsRel_append _ _ _).1 h3
  obtain ⟨us', ws', rfl, q3, q4⟩ := (chsRel_append _ _ _).1 q2
  rw [e5, List.append_assoc, List.append_assoc] at h2a
  have l1 := chsRel_size _ _ q1
  have l2 := chsRel_size _ _ q3
  have hload := run_load_agg hu hd hs h2 (off := off) (vs := us') (fun j v hj => by
    rw [← Array.getElem?_toList, h2a, List.getElem?_append_right (by omega), List.getElem?_append_left (by
      have := (List.getElem?_eq_some_iff.1 hj).1; omega)]
    rw [show off + j - us.length = j by omega]; exact hj) (by omega)
  refine ⟨.agg us'.toArray, ?_, ⟨_, rfl, by simpa using q3⟩⟩
  simp only [Nat.add_zero] at hv
  simp only [execOp, ho, hv, Instr.loadAt, Instr.sureAddr, Sem.run_bind, Sem.run_pure, Result.andThen_ok, hload]

/-- A load of one cell from an own block. -/
theorem exec_load_one {o : Oper} {t : TypeId} {x : Operand} (ho : o.op = .load t x) {ti : TI} (hT : TyOk P t ti) (hsc : isSc ti = true) {l off i : Nat} (hx0 : opv ts x = .b (.cv (.ptr l off i)))
    {k : Blk} (hk : mem[l]? = some k) {c : Ch} {r : List Ch} (hr : dropCh k.1 off = some (c :: r)) {K : CV → Prop} (hK : c.at_ i K) : ∃ cv, Exec P S w0 o ts mem [l] (.b (.cv cv)) noEff ∧ K cv := by
  have hc : ∃ cv, K cv ∧ ∀ (g : GM) (vs : List Value), c.rel g vs → ∃ y, vs[i]? = some y ∧ cv.rel g y := by
    cases c with
    | cell c =>
      obtain ⟨hb, h⟩ := obl_ok hK
      have := Nat.eq_of_beq_eq_true hb; subst this
      exact ⟨c, h, fun g vs ⟨y, e, _, h2⟩ => ⟨y, by rw [e]; rfl, h2⟩⟩
    | num x =>
      obtain ⟨hb, h⟩ := obl_ok hK
      rw [Nat.blt_eq] at hb
      exact ⟨_, h, fun g vs hr => ⟨_, by rw [hr.2]; exact limbs_get x i hb, ⟨rfl, limb_has i x⟩⟩⟩
    | vec n f =>
      obtain ⟨hb, h⟩ := obl_ok hK
      rw [Nat.blt_eq] at hb
      refine ⟨_, h, fun g vs hr => ?_⟩
      have hlt : i < vs.length := by rw [hr.1]; exact hb
      exact ⟨_, List.getElem?_eq_getElem hlt, (hr.2 i _ (List.getElem?_eq_getElem hlt)).2⟩
  obtain ⟨cv, h1, h2⟩ := hc
  refine ⟨cv, exec_read fun g a w hx hrd _ => ?_, h1⟩
  have h3 := hx x (by simp [ho, Op.operands])
  rw [hx0] at h3
  obtain ⟨b, hb, hv⟩ := h3
  obtain ⟨d, hu, hd, hs⟩ := ty_sc hT hsc
  obtain ⟨pre, e1, e2⟩ := dropCh_ok _ _ _ hr
  obtain ⟨cs, ty, fz, us0, rest, h4, _, h4a, h5, _⟩ := (hrd l (by simp) b k hb hk).2.resolve_left (by rw [e1]; simp)
  rw [e1] at h5
  obtain ⟨us, ws, e5, q1, q2⟩ := (chsRel_append _ _ _).1 h5
  obtain ⟨us', ws', rfl, q3, q4⟩ := q2
  rw [e5, List.append_assoc, List.append_assoc] at h4a
  obtain ⟨y, hy, hyr⟩ := h2 g us' q3
  have l1 := chsRel_size _ _ q1
  refine ⟨y, ?_, hyr⟩
  have hcs : cs[off + i]? = some y := by
    rw [← Array.getElem?_toList, h4a, List.getElem?_append_right (by omega), List.getElem?_append_left (by
      have := (List.getElem?_eq_some_iff.1 hy).1; omega)]
    rw [show off + i - us.length = i by omega]; exact hy
  simp only [execOp, ho, hv, Instr.loadAt, Instr.sureAddr, Sem.run_bind, Sem.run_pure, Result.andThen_ok, run_load_one hu hd h4 hcs]

/-! ### store -/

def num4 (a b c d : Nat) : Nat := a + B64 * b + B64 ^ 2 * c + B64 ^ 3 * d
def setl (i v x : Nat) : Nat := match i with
  | 0 => num4 v (limb 1 x) (limb 2 x) (limb 3 x)
  | 1 => num4 (limb 0 x) v (limb 2 x) (limb 3 x)
  | 2 => num4 (limb 0 x) (limb 1 x) v (limb 3 x)
  | _ => num4 (limb 0 x) (limb 1 x) (limb 2 x) v
def fupd (f : Nat → CV) (i : Nat) (c : CV) : Nat → CV := fun j => match Nat.beq j i with
  | true => c
  | false => f j

theorem limb_num4 {a b c d : Nat} (ha : a < B64) (hb : b < B64) (hc : c < B64) (hd : d < B64) :
    limb 0 (num4 a b c d) = a ∧ limb 1 (num4 a b c d) = b ∧ limb 2 (num4 a b c d) = c ∧ limb 3 (num4 a b c d) = d ∧ num4 a b c d < BW := by
  unfold limb num4 B64 BW at *
  refine ⟨?_, ?_, ?_, ?_, ?_⟩ <;> omega

theorem num4_limb {x : Nat} (h : x < BW) : num4 (limb 0 x) (limb 1 x) (limb 2 x) (limb 3 x) = x := by
  unfold limb num4 B64 BW at *
  omega

/-- Cell i of a chunk is written. -/
def Ch.upd (c : Ch) (i : Nat) (v : CV) (K : Ch → Prop) : Prop := match c with
  | .cell _ => obl (Nat.beq i 0) (K (.cell v))
  | .num x => match v with
    | .int .u64 n => obl (Nat.blt i 4) (K (.num (setl i n.toNat x)))
    | _ => False
  | .vec n f => obl (Nat.blt i n) (K (.vec n (fupd f i v)))

theorem upd_ok {c : Ch} {i : Nat} {v : CV} {K : Ch → Prop} (h : c.upd i v K) (hv : v.cellOk = true) :
    ∃ c', K c' ∧ c'.size = c.size ∧ i < c.size ∧ ∀ g vs y, c.rel g vs → v.rel g y → c'.rel g (vs.set i y) := by
  cases c with
  | cell c0 =>
    obtain ⟨hb, h⟩ := obl_ok h
    have := Nat.eq_of_beq_eq_true hb; subst this
    refine ⟨_, h, rfl, Nat.lt_succ_self 0, fun g vs y hr hy => ?_⟩
    obtain ⟨y0, e, _⟩ := hr
    subst e
    exact ⟨y, rfl, CV.cellOk_rel hv hy, hy⟩
  | num x =>
    cases v with
    | int k n =>
      cases k with
      | u64 =>
        obtain ⟨hb, h⟩ := obl_ok h
        rw [Nat.blt_eq] at hb
        refine ⟨_, h, rfl, hb, fun g vs y hr hy => ?_⟩
        obtain ⟨hx, e⟩ := hr
        obtain ⟨e2, hn⟩ := hy
        subst e; subst e2
        have h0 : 0 ≤ n := hn.1
        have h1 : n.toNat < B64 := by
          have : n ≤ 18446744073709551615 := hn.2
          unfold B64; omega
        have hc : (Value.int .u64 n) = .int .u64 ((n.toNat : Nat) : Int) := by rw [Int.toNat_of_nonneg h0]
        rw [hc]
        have q := fun i => limb_lt i x
        match i, hb with
        | 0, _ => obtain ⟨a1, a2, a3, a4, a5⟩ := limb_num4 h1 (q 1) (q 2) (q 3); exact ⟨a5, by simp only [limbs, setl, a1, a2, a3, a4]; rfl⟩
        | 1, _ => obtain ⟨a1, a2, a3, a4, a5⟩ := limb_num4 (q 0) h1 (q 2) (q 3); exact ⟨a5, by simp only [limbs, setl, a1, a2, a3, a4]; rfl⟩
        | 2, _ => obtain ⟨a1, a2, a3, a4, a5⟩ := limb_num4 (q 0) (q 1) h1 (q 3); exact ⟨a5, by simp only [limbs, setl, a1, a2, a3, a4]; rfl⟩
        | 3, _ => obtain ⟨a1, a2, a3, a4, a5⟩ := limb_num4 (q 0) (q 1) (q 2) h1; exact ⟨a5, by simp only [limbs, setl, a1, a2, a3, a4]; rfl⟩
      | _ => exact h.elim
    | _ => exact h.elim
  | vec n f =>
    obtain ⟨hb, h⟩ := obl_ok h
    rw [Nat.blt_eq] at hb
    refine ⟨_, h, rfl, hb, fun g vs y hr hy => ⟨by rw [List.length_set]; exact hr.1, fun j z hz => ?_⟩⟩
    unfold fupd
    by_cases e : j = i
    · subst e
      rw [Nat.beq_refl]
      rw [List.getElem?_set] at hz
      simp only [if_true] at hz
      split at hz
      · injection hz with hz; subst hz; exact ⟨CV.cellOk_rel hv hy, hy⟩
      · cases hz
    · have : Nat.beq j i = false := by cases hb : Nat.beq j i with | false => rfl | true => exact absurd (Nat.eq_of_beq_eq_true hb) e
      rw [this]
      rw [List.getElem?_set_ne (Ne.symm e)] at hz
      exact hr.2 j z hz

theorem run_storeVar' {t n : Nat} (hs : (P.info? t).map (·.size) = some n) {w : World} {b off : Nat} {cs : Array Value} {ty : TypeId} {fz : Nat × Nat} (hb : w.heap[b]? = some (.cells cs ty fz)) {v : Value} (hl : v.cells.toList.length = n) (hn : n ≠ 0)
    (ho : off + n ≤ cs.size) (h1 : ∀ y ∈ v.cells.toList, y.oneCell' = true) (hz : ∀ o, o < cs.size → ¬ (fz.1 ≤ o ∧ o < fz.2)) :
    (storeVar t ⟨b, off, none⟩ v).run P w = .ok () (putB w b (.cells (setL cs off v.cells.toList) ty fz)) := by
  have h2 := run_storeCells' (P := P) v.cells.toList w cs off 0 hb (by omega) h1 hz
  unfold storeVar
  rw [Sem.run_bind, run_sizeOf' hs]
  simp only [Result.andThen_ok]
  have h3 : ¬ v.cells.size ≠ n := by rw [Array.length_toList] at hl; simp [hl]
  simp only [h3, if_false]
  rw [h2]
  cases hq : v.cells.toList with
  | nil => rw [hq] at hl; simp at hl; omega
  | cons y ys => rw [Nat.add_zero]

theorem replCh_ne {new cs c' : List Ch} {sz off : Nat} (h : replCh new sz cs off = some c') (hsz : sz ≠ 0) : cs ≠ [] := by
  rintro rfl
  unfold replCh at h
  split at h
  · split at h
    · rename_i hb; exact hsz (Nat.eq_of_beq_eq_true hb)
    · cases h
  · cases h
/-- A store of a whole into an own block. -/
theorem exec_store_agg {o : Oper} {t : TypeId} {x y : Operand} (ho : o.op = .store t x y) {ti : TI} (hT : TyOk P t ti) {sz : Nat} (hsz : szOf ti = some sz) (hsz0 : Nat.beq sz 0 = false) {l off : Nat} (hx0 : opv ts x = .b (.cv (.ptr l off 0)))
    {k : Blk} (hk : mem[l]? = some k) (hk2 : isExt k.2 = false) {new c' : List Ch} (hnew : chsOf (opv ts y) = some new) (hl : Nat.beq (chsSize new) sz = true) (hr : replCh new sz k.1 off = some c') : Exec P S w0 o ts mem [l] .top ⟨[], [(l, c')]⟩ := by
  refine exec_write fun g a w hx hrd _ => ?_
  have h1 := hx x (by simp [ho, Op.operands])
  rw [hx0] at h1
  obtain ⟨b, hb, hv⟩ := h1
  have hsz1 : sz ≠ 0 := by rintro rfl; cases hsz0
  have hne : k.1 ≠ [] := replCh_ne hr hsz1
  have hbr := hrd l (by simp) b k hb hk
  obtain ⟨cs, ty, fz, us0, rest, h2, hroom, h2a, h3, h4⟩ := hbr.2.resolve_left hne
  have h4 := h4 hk2
  obtain ⟨d, hu, hd, hs⟩ := ty_agg hT hsz
  have h5 := chsOf_rel hnew (hx y (by simp [ho, Op.operands]))
  have hl := Nat.eq_of_beq_eq_true hl
  have h6 := chsRel_size _ _ h5
  obtain ⟨h7, h8⟩ := chsRel_splice hr h3 h5 (by omega)
  have hlen : us0.length ≤ cs.size := by rw [← Array.length_toList, h2a]; simp
  have h9 := run_storeVar' hs h2 (v := a.eval y) (off := off) (by omega) hsz1 (by omega) (chsRel_one _ _ h5) h4
  refine ⟨b, k, setL cs off (a.eval y).cells.toList, ty, fz, _, rest, hb, hk, ⟨hne, hk2⟩, hbr, ?_, by rw [setL_size]; exact hroom, ?_, h8, fun o ho => h4 o (by rw [setL_size] at ho; exact ho)⟩
  · simp only [Nat.add_zero] at hv
    simp only [execOp, ho, hv, Instr.storeAt, Instr.sureAddr, Sem.run_bind, Sem.run_pure, Result.andThen_ok, h9]
  · rw [setL_toList _ _ _ (by omega), h6, hl, h2a, List.take_append_of_le_length (by omega), List.drop_append_of_le_length (by omega)]
    simp

/-- A store of one cell into an own block. -/
theorem exec_store_one {o : Oper} {t : TypeId} {x y : Operand} (ho : o.op = .store t x y) {ti : TI} (hT : TyOk P t ti) (hsc : isSc ti = true) {l off i : Nat} (hx0 : opv ts x = .b (.cv (.ptr l off i)))
    {k : Blk} (hk : mem[l]? = some k) (hk2 : isExt k.2 = false) {cv : CV} (hy0 : opv ts y = .b (.cv cv)) (hcv : cv.cellOk = true) {c : Ch} {r : List Ch} (hr : dropCh k.1 off = some (c :: r)) {K : Ch → Prop} (hK : c.upd i cv K) :
    ∃ c', K c' ∧ ∀ c2, replCh [c'] c.size k.1 off = some c2 → Exec P S w0 o ts mem [l] .top ⟨[], [(l, c2)]⟩ := by
  obtain ⟨c', h1, h2, h3, h4⟩ := upd_ok hK hcv
  refine ⟨c', h1, fun c2 hc2 => exec_write fun g a w hx hrd _ => ?_⟩
  have q1 := hx x (by simp [ho, Op.operands])
  rw [hx0] at q1
  obtain ⟨b, hb, hv⟩ := q1
  have hbr := hrd l (by simp) b k hb hk
  have hne : k.1 ≠ [] := by intro h0; rw [h0] at hr; unfold dropCh at hr; split at hr <;> simp at hr
  obtain ⟨cs, ty, fz, us0, rest, q2, hroom, q2a, q3, q4⟩ := hbr.2.resolve_left hne
  have q4 := q4 hk2
  obtain ⟨d, hu, hd, hs⟩ := ty_sc hT hsc
  have q5 := hx y (by simp [ho, Op.operands])
  rw [hy0] at q5
  have hone := CV.cellOk_rel hcv q5
  obtain ⟨pre, e1, e2⟩ := dropCh_ok _ _ _ hr
  have q3' := q3
  rw [e1] at q3'
  obtain ⟨us, ws, e5, p1, p2⟩ := (chsRel_append _ _ _).1 q3'
  obtain ⟨us', ws', rfl, p3, p4⟩ := p2
  have l1 := chsRel_size _ _ p1
  have l2 := Ch.rel_size p3
  have hlen0 : us0.length = us.length + (us'.length + ws'.length) := by rw [e5]; simp
  have hlen : us0.length ≤ cs.size := by rw [← Array.length_toList, q2a]; simp
  have h9 := run_storeVar' hs q2 (v := a.eval y) (off := off + i) (by rw [one_cells hone]; rfl) (by decide) (by omega) (by rw [one_cells hone]; simpa using hone) q4
  refine ⟨b, k, setL cs (off + i) (a.eval y).cells.toList, ty, fz, us0.take (off + i) ++ ([a.eval y] ++ us0.drop (off + i + 1)), rest, hb, hk, ⟨hne, hk2⟩, hbr, ?_, by rw [setL_size]; exact hroom, ?_, ?_, fun o ho => q4 o (by rw [setL_size] at ho; exact ho)⟩
  · simp only [execOp, ho, hv, Instr.storeAt, Instr.sureAddr, Sem.run_bind, Sem.run_pure, Result.andThen_ok, h9]
  · rw [one_cells hone, setL_toList _ _ _ (by simp; omega), q2a, List.take_append_of_le_length (by omega)]
    simp only [List.length_cons, List.length_nil]
    rw [List.drop_append_of_le_length (by omega)]
    simp
  · obtain ⟨_, h8⟩ := chsRel_splice hc2 q3 (us := us'.set i (a.eval y)) ⟨_, [], (List.append_nil _).symm, h4 g us' _ p3 q5, rfl⟩ (by rw [List.length_set]; exact l2)
    have : us0.take off ++ (us'.set i (a.eval y) ++ us0.drop (off + c.size)) = us0.take (off + i) ++ ([a.eval y] ++ us0.drop (off + i + 1)) := by
      rw [e5]
      have t1 : (us ++ (us' ++ ws')).take off = us := by rw [show off = us.length by omega]; simp
      have t2 : (us ++ (us' ++ ws')).drop (off + c.size) = ws' := by rw [show off + c.size = us.length + us'.length by omega]; simp [← List.append_assoc, ← List.length_append]
      rw [t1, t2]
      have t3 : (us ++ (us' ++ ws')).take (off + i) = us ++ us'.take i := by rw [show off + i = us.length + i by omega, List.take_length_add_append, List.take_append_of_le_length (by omega)]
      have t4 : (us ++ (us' ++ ws')).drop (off + i + 1) = us'.drop (i + 1) ++ ws' := by rw [show off + i + 1 = us.length + (i + 1) by omega, List.drop_length_add_append, List.drop_append_of_le_length (by omega)]
      rw [t3, t4, List.set_eq_take_append_cons_drop, if_pos (by omega)]
      simp
    rw [this] at h8
    exact h8

end Go.Ev
