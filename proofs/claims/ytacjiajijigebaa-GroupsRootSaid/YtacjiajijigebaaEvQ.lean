/- A call that is handed names of blocks: what the evaluator says of it with names of its own holds with the caller's names. No condition. -/
import Derived.Test.YtacjiajijigebaaEvP
namespace Go.Ev
open Go
variable {P : Program} {S : Nat → Prop} {w0 : World} {C : Cx}

/-- The caller's name of a name of the callee's: of those handed over, and of new ones (n: the caller's next name). -/
def renL : List Nat → Nat → Nat → Nat
  | [], n, l => n + l
  | x :: _, _, 0 => x
  | _ :: r, n, l + 1 => renL r n l
theorem renL_lt : ∀ (ls : List Nat) (n l : Nat) (h : l < ls.length), renL ls n l = ls[l]
  | _ :: _, _, 0, _ => rfl
  | _ :: r, n, l + 1, h => renL_lt r n l (by simpa using h)
theorem renL_ge : ∀ (ls : List Nat) (n l : Nat), ls.length ≤ l → renL ls n l = n + (l - ls.length)
  | [], _, _, _ => rfl
  | _ :: r, n, l + 1, h => by rw [renL, renL_ge r n l (by simpa using h)]; simp
  | _ :: _, _, 0, h => by simp at h

def renCV (σ : Nat → Nat) : CV → CV
  | .ptr l o i => .ptr (σ l) o i
  | .sl l o i n c => .sl (σ l) o i n c
  | .fn f fs cs => .fn f fs (cs.map σ)
  | c => c
def renCh (σ : Nat → Nat) : Ch → Ch
  | .cell c => .cell (renCV σ c)
  | .num x => .num x
  | .vec n f => .vec n f
def renAB (σ : Nat → Nat) : AB → AB
  | .cv c => .cv (renCV σ c)
  | .agg cs => .agg (cs.map (renCh σ))
def renAV (σ : Nat → Nat) : AV → AV
  | .b x => .b (renAB σ x)
  | .tup xs => .tup (xs.map (renAB σ))

/-- The names in these words are p's. Rows of cells bear no names. -/
def nmCV (p : Nat → Prop) : CV → Prop
  | .ptr l _ _ => p l
  | .sl l _ _ _ _ => p l
  | .fn _ _ cs => ∀ l ∈ cs, p l
  | _ => True
def nmCh (p : Nat → Prop) : Ch → Prop
  | .cell c => nmCV p c
  | .num _ => True
  | .vec n f => ∀ i, i < n → freeCV (f i) = true
def nmChs (p : Nat → Prop) : List Ch → Prop
  | [] => True
  | c :: r => nmCh p c ∧ nmChs p r
def nmAB (p : Nat → Prop) : AB → Prop
  | .cv c => nmCV p c
  | .agg cs => nmChs p cs
def nmABs (p : Nat → Prop) : List AB → Prop
  | [] => True
  | x :: r => nmAB p x ∧ nmABs p r
def nmAV (p : Nat → Prop) : AV → Prop
  | .b x => nmAB p x
  | .tup xs => nmABs p xs

section
variable {σ : Nat → Nat} {p : Nat → Prop} {g g' : GM}

theorem caps_in (h : ∀ l, p l → ∀ b, g (σ l) = some b → g' l = some b) : ∀ (cs : List Nat) (vs : List Value), (∀ l ∈ cs, p l) → capsRel g (cs.map σ) vs → capsRel g' cs vs
  | [], _, _, hr => hr
  | c :: cs, _, hp, ⟨b, ws, h1, h2, h3⟩ => ⟨b, ws, h c (hp c (by simp)) b h1, h2, caps_in h cs ws (fun l hl => hp l (by simp [hl])) h3⟩
theorem caps_out (h : ∀ l, p l → ∀ b, g' l = some b → g (σ l) = some b) : ∀ (cs : List Nat) (vs : List Value), (∀ l ∈ cs, p l) → capsRel g' cs vs → capsRel g (cs.map σ) vs
  | [], _, _, hr => hr
  | c :: cs, _, hp, ⟨b, ws, h1, h2, h3⟩ => ⟨b, ws, h c (hp c (by simp)) b h1, h2, caps_out h cs ws (fun l hl => hp l (by simp [hl])) h3⟩

theorem cv_in (h : ∀ l, p l → ∀ b, g (σ l) = some b → g' l = some b) {c : CV} {v : Value} (hp : nmCV p c) (hr : (renCV σ c).rel g v) : c.rel g' v := by
  cases c with
  | ptr l o i => obtain ⟨b, h1, h2⟩ := hr; exact ⟨b, h l hp b h1, h2⟩
  | sl l o i n c =>
    rcases hr with hr | ⟨q, cap, q1, q2, b, h1, h2⟩
    · exact .inl hr
    · exact .inr ⟨q, cap, q1, q2, b, h l hp b h1, h2⟩
  | fn f fs cs => obtain ⟨q, ws, q1, q2⟩ := hr; exact ⟨q, ws, caps_in h cs _ hp q1, q2⟩
  | _ => exact hr
theorem cv_out (h : ∀ l, p l → ∀ b, g' l = some b → g (σ l) = some b) {c : CV} {v : Value} (hp : nmCV p c) (hr : c.rel g' v) : (renCV σ c).rel g v := by
  cases c with
  | ptr l o i => obtain ⟨b, h1, h2⟩ := hr; exact ⟨b, h l hp b h1, h2⟩
  | sl l o i n c =>
    rcases hr with hr | ⟨q, cap, q1, q2, b, h1, h2⟩
    · exact .inl hr
    · exact .inr ⟨q, cap, q1, q2, b, h l hp b h1, h2⟩
  | fn f fs cs => obtain ⟨q, ws, q1, q2⟩ := hr; exact ⟨q, ws, caps_out h cs _ hp q1, q2⟩
  | _ => exact hr
theorem chs_in (h : ∀ l, p l → ∀ b, g (σ l) = some b → g' l = some b) : ∀ {cs : List Ch} {vs : List Value}, nmChs p cs → chsRel g (cs.map (renCh σ)) vs → chsRel g' cs vs
  | [], _, _, hr => hr
  | .cell c :: r, _, ⟨h1, h2⟩, ⟨us, ws, e, ⟨y, e2, q1, q2⟩, q3⟩ => ⟨us, ws, e, ⟨y, e2, q1, cv_in h h1 q2⟩, chs_in h h2 q3⟩
  | .num x :: r, _, ⟨_, h2⟩, ⟨us, ws, e, q, q3⟩ => ⟨us, ws, e, q, chs_in h h2 q3⟩
  | .vec n f :: r, _, ⟨h1, h2⟩, ⟨us, ws, e, ⟨q0, q⟩, q3⟩ => ⟨us, ws, e, ⟨q0, fun i y hi => ⟨(q i y hi).1, freeCV_ok (h1 i (by rw [← q0]; exact (List.getElem?_eq_some_iff.1 hi).1)) (q i y hi).2⟩⟩, chs_in h h2 q3⟩
theorem chs_out (h : ∀ l, p l → ∀ b, g' l = some b → g (σ l) = some b) : ∀ {cs : List Ch} {vs : List Value}, nmChs p cs → chsRel g' cs vs → chsRel g (cs.map (renCh σ)) vs
  | [], _, _, hr => hr
  | .cell c :: r, _, ⟨h1, h2⟩, ⟨us, ws, e, ⟨y, e2, q1, q2⟩, q3⟩ => ⟨us, ws, e, ⟨y, e2, q1, cv_out h h1 q2⟩, chs_out h h2 q3⟩
  | .num x :: r, _, ⟨_, h2⟩, ⟨us, ws, e, q, q3⟩ => ⟨us, ws, e, q, chs_out h h2 q3⟩
  | .vec n f :: r, _, ⟨h1, h2⟩, ⟨us, ws, e, ⟨q0, q⟩, q3⟩ => ⟨us, ws, e, ⟨q0, fun i y hi => ⟨(q i y hi).1, freeCV_ok (h1 i (by rw [← q0]; exact (List.getElem?_eq_some_iff.1 hi).1)) (q i y hi).2⟩⟩, chs_out h h2 q3⟩
theorem ab_in (h : ∀ l, p l → ∀ b, g (σ l) = some b → g' l = some b) {x : AB} {v : Value} (hp : nmAB p x) (hr : (renAB σ x).rel g v) : x.rel g' v := by
  cases x with
  | cv c => exact cv_in h hp hr
  | agg cs => obtain ⟨a, e, q⟩ := hr; exact ⟨a, e, chs_in h hp q⟩
theorem ab_out (h : ∀ l, p l → ∀ b, g' l = some b → g (σ l) = some b) {x : AB} {v : Value} (hp : nmAB p x) (hr : x.rel g' v) : (renAB σ x).rel g v := by
  cases x with
  | cv c => exact cv_out h hp hr
  | agg cs => obtain ⟨a, e, q⟩ := hr; exact ⟨a, e, chs_out h hp q⟩
theorem abs_in (h : ∀ l, p l → ∀ b, g (σ l) = some b → g' l = some b) : ∀ {xs : List AB} {vs : List Value}, nmABs p xs → absRel g (xs.map (renAB σ)) vs → absRel g' xs vs
  | [], _, _, hr => hr
  | _ :: _, _, ⟨h1, h2⟩, ⟨y, ys, e, q1, q2⟩ => ⟨y, ys, e, ab_in h h1 q1, abs_in h h2 q2⟩
theorem abs_out (h : ∀ l, p l → ∀ b, g' l = some b → g (σ l) = some b) : ∀ {xs : List AB} {vs : List Value}, nmABs p xs → absRel g' xs vs → absRel g (xs.map (renAB σ)) vs
  | [], _, _, hr => hr
  | _ :: _, _, ⟨h1, h2⟩, ⟨y, ys, e, q1, q2⟩ => ⟨y, ys, e, ab_out h h1 q1, abs_out h h2 q2⟩
theorem av_out (h : ∀ l, p l → ∀ b, g' l = some b → g (σ l) = some b) {x : AV} {v : Value} (hp : nmAV p x) (hr : x.rel g' v) : (renAV σ x).rel g v := by
  cases x with
  | b x => exact ab_out h hp hr
  | tup xs => obtain ⟨a, e, q⟩ := hr; exact ⟨a, e, abs_out h hp q⟩
end

theorem nameless_rel {g1 g2 : GM} : ∀ {cs : List Ch} {vs : List Value}, nmChs (fun _ => False) cs → chsRel g1 cs vs → chsRel g2 cs vs
  | [], _, _, hr => hr
  | .cell c :: r, _, ⟨h1, h2⟩, ⟨us, ws, e, ⟨y, e2, q1, q2⟩, q3⟩ => ⟨us, ws, e, ⟨y, e2, q1, by
      cases c with
      | ptr => exact h1.elim
      | sl => exact h1.elim
      | fn f fs cs => cases cs with
        | nil => exact q2
        | cons l _ => exact (h1 l (by simp)).elim
      | _ => exact q2⟩, nameless_rel h2 q3⟩
  | .num x :: r, _, ⟨_, h2⟩, ⟨us, ws, e, q, q3⟩ => ⟨us, ws, e, q, nameless_rel h2 q3⟩
  | .vec n f :: r, _, ⟨h1, h2⟩, ⟨us, ws, e, ⟨q0, q⟩, q3⟩ => ⟨us, ws, e, ⟨q0, fun i y hi => ⟨(q i y hi).1, freeCV_ok (h1 i (by rw [← q0]; exact (List.getElem?_eq_some_iff.1 hi).1)) (q i y hi).2⟩⟩, nameless_rel h2 q3⟩

theorem isExt_add (t : Nat) : isExt (EXTM + t) = true := by unfold isExt; rw [Nat.ble_eq]; exact Nat.le_add_right _ _
theorem emk_ext {t : Nat} (h : isExt t = false) : emk (EXTM + t) = emk t := by
  have h1 : Nat.ble EXTM (EXTM + t) = true := isExt_add t
  have h2 : Nat.ble EXTM t = false := h
  unfold emk
  rw [h1, h2]
  simp

/-- The blocks that are handed over to be written. -/
def wrsOf : List Nat → List Blk → List Blk → List (Nat × List Ch)
  | l :: ls, k :: ks, k' :: ks' => match isExt k.2 with
    | true => wrsOf ls ks ks'
    | false => (l, k'.1) :: wrsOf ls ks ks'
  | _, _, _ => []
theorem wrsOf_mem : ∀ {ls : List Nat} {ks ks' : List Blk} {l : Nat} {c : List Ch}, (l, c) ∈ wrsOf ls ks ks' → ∃ (i : Nat) (k k' : Blk), ls[i]? = some l ∧ ks[i]? = some k ∧ ks'[i]? = some k' ∧ isExt k.2 = false ∧ c = k'.1
  | l0 :: ls, k :: ks, k' :: ks', l, c, h => by
    unfold wrsOf at h
    have rec' : (l, c) ∈ wrsOf ls ks ks' → ∃ (i : Nat) (q q' : Blk), (l0 :: ls)[i]? = some l ∧ (k :: ks)[i]? = some q ∧ (k' :: ks')[i]? = some q' ∧ isExt q.2 = false ∧ c = q'.1 := fun h => by
      obtain ⟨i, q, q', h1, h2, h3, h4⟩ := wrsOf_mem h
      exact ⟨i + 1, q, q', by simpa using h1, by simpa using h2, by simpa using h3, h4⟩
    split at h
    · exact rec' h
    · rename_i hx
      rcases List.mem_cons.1 h with e | e
      · injection e with e1 e2; subst e1 e2
        exact ⟨0, k, k', rfl, rfl, rfl, hx, rfl⟩
      · exact rec' e
  | [], _, _, _, _, h => by simp [wrsOf] at h
  | _ :: _, [], _, _, _, h => by simp [wrsOf] at h
  | _ :: _, _ :: _, [], _, _, h => by simp [wrsOf] at h
theorem wrsOf_in : ∀ {ls : List Nat} {ks ks' : List Blk} {i l : Nat} {k k' : Blk}, ls[i]? = some l → ks[i]? = some k → ks'[i]? = some k' → isExt k.2 = false → (l, k'.1) ∈ wrsOf ls ks ks'
  | l0 :: ls, k0 :: ks, k0' :: ks', 0, l, k, k', h1, h2, h3, h4 => by
    simp only [List.getElem?_cons_zero, Option.some.injEq] at h1 h2 h3
    subst h1 h2 h3
    unfold wrsOf; rw [h4]; simp
  | l0 :: ls, k0 :: ks, k0' :: ks', i + 1, l, k, k', h1, h2, h3, h4 => by
    have := wrsOf_in (ls := ls) (ks := ks) (ks' := ks') (by simpa using h1) (by simpa using h2) (by simpa using h3) h4
    unfold wrsOf
    split
    · exact this
    · exact List.mem_cons_of_mem _ this

/-- How a block that is handed over reads to the callee: as it is, or as one that is only read. -/
def handed (k0 k : Blk) : Prop := k0.1 = k.1 ∧ (k0.2 = k.2 ∨ (k0.2 = EXTM + k.2 ∧ isExt k.2 = false))

theorem wrFind_nodup : ∀ {wrs : List (Nat × List Ch)} {l : Nat} {c : List Ch}, (∀ c', (l, c') ∈ wrs → c' = c) → (l, c) ∈ wrs → wrFind wrs l = some c
  | (l0, c0) :: r, l, c, hu, hm => by
    unfold wrFind
    split
    · rename_i hb
      have := Nat.eq_of_beq_eq_true hb; subst this
      rw [hu c0 (by simp)]
    · rename_i hb
      rcases List.mem_cons.1 hm with e | e
      · injection e with e1 _; subst e1
        rw [Nat.beq_refl] at hb; cases hb
      · exact wrFind_nodup (fun c' hc => hu c' (by simp [hc])) e

theorem callLoc (hC : CxOk P C) {f : FuncId} {fn : Func} {c : Code} (hf : P.funcs[f]? = some fn) (hb : fn.body = some c) (hn : (fn.name == "runtime.NumGoroutine") = false) {xs : List AB} (hl : xs.length ≤ fn.ntmps)
    {lm lw : List Blk} {r : AV} {ls : List Nat} {mem : List Blk} (hlen : ls.length = lm.length) (hle : lm.length ≤ lw.length)
    (hnd : ∀ (i j l : Nat), ls[i]? = some l → ls[j]? = some l → i = j)
    (hmem : ∀ (i l : Nat) (k0 : Blk), ls[i]? = some l → lm[i]? = some k0 → ∃ k : Blk, mem[l]? = some k ∧ handed k0 k ∧ k.1 ≠ [])
    (hmarks : ∀ (i : Nat) (k k' : Blk), lm[i]? = some k → lw[i]? = some k' → k'.2 = k.2)
    (hxs : nmABs (fun l => l < lm.length) xs) (hlm : ∀ k ∈ lm, nmChs (fun _ => False) k.1) (hlw : ∀ k ∈ lw, nmChs (fun _ => False) k.1)
    (hnews : ∀ k ∈ lw.drop lm.length, live k) (hr : nmAV (fun l => lm.length ≤ l ∧ l < lw.length) r)
    (h : ∀ (S : Nat → Prop) (w : World) (g : GM) (vs : List Value), absRel g xs vs → (∀ (i : Nat) (b : BR) (k : Blk), g i = some b → lm[i]? = some k → factChs k.1) → evC P S w C g lm.length c (ts0 xs (fn.ntmps - xs.length)) lm fun x ts' mem' => match x with
      | .exit _ => False
      | _ => resK C fn.results.toList ts' mem' fun r' => leAV lw.length r' r (leMem lw.length mem' lw True)) :
    CallOk P S w0 f (xs.map (renAB (renL ls mem.length))) mem ls (renAV (renL ls mem.length) r) ⟨lw.drop lm.length, wrsOf ls lm lw⟩ := by
  intro g w vs hv hrd hgw hfr hij
  have hsl : ∀ i, i < lm.length → renL ls mem.length i = ls[i]?.getD 0 := fun i hi => by rw [renL_lt ls mem.length i (by omega), List.getElem?_eq_getElem (by omega)]; rfl
  have hsn : ∀ i, lm.length ≤ i → renL ls mem.length i = mem.length + (i - lm.length) := fun i hi => by rw [renL_ge ls mem.length i (by omega), hlen]
  -- the callee's names
  let gl : GM := fun i => if i < lm.length then g (renL ls mem.length i) else none
  have hgl : ∀ (i : Nat) (b : BR), gl i = some b → ∃ (l : Nat) (k0 k : Blk), i < lm.length ∧ ls[i]? = some l ∧ lm[i]? = some k0 ∧ g l = some b ∧ mem[l]? = some k ∧ handed k0 k ∧ k.1 ≠ [] ∧ BlkRel S w0 g w b k := by
    intro i b hi
    have hlt : i < lm.length := by
      by_cases hh : i < lm.length
      · exact hh
      · simp [gl, hh] at hi
    simp only [gl, if_pos hlt] at hi
    have e1 : ls[i]? = some ls[i] := List.getElem?_eq_getElem (by omega)
    rw [renL_lt ls mem.length i (by omega)] at hi
    obtain ⟨k, q1, q2, q3⟩ := hmem i ls[i] lm[i] e1 (List.getElem?_eq_getElem hlt)
    exact ⟨ls[i], lm[i], k, hlt, e1, List.getElem?_eq_getElem hlt, hi, q1, q2, q3, hrd _ (List.getElem_mem _) b k hi q1⟩
  let Sl : Nat → Prop := fun b => ∃ (i : Nat) (br : BR) (k0 : Blk), gl i = some br ∧ br.b = b ∧ lm[i]? = some k0 ∧ isExt k0.2 = false
  have hSl : ∀ b, Sl b → S b ∨ w0.heap.size ≤ b := by
    rintro b ⟨i, br, k0, h1, rfl, h2, h3⟩
    obtain ⟨l, k0', k, hlt, q1, q2, q3, q4, q5, _, q6⟩ := hgl i br h1
    rw [h2] at q2; injection q2 with q2; subst q2
    refine Classical.byContradiction fun hc => ?_
    have := q6.1.2 hc
    rcases q5.2 with e | ⟨e, _⟩
    · rw [e, this] at h3; cases h3
    · rw [e, isExt_add] at h3; cases h3
  have hbk : ∀ (i : Nat) (b : BR) (k0 : Blk), gl i = some b → lm[i]? = some k0 → BlkRel Sl w gl w b k0 := by
    intro i b k0 h1 h2
    obtain ⟨l, k0', k, hlt, q1, q2, q3, q4, q5, q5', q6⟩ := hgl i b h1
    rw [h2] at q2; injection q2 with q2; subst q2
    have hbw := hgw.own l b q3
    refine ⟨⟨fun hx hh => ?_, fun hx => ?_⟩, ?_⟩
    · rcases hh with ⟨j, br, k1, j1, j2, j3, j4⟩ | hh
      · obtain ⟨l', k1', k', hlt', p1, p2, p3, p4, p5, p5', p6⟩ := hgl j br j1
        rw [j3] at p2; injection p2 with p2; subst p2
        have hown : isExt k'.2 = false := by
          rcases p5.2 with e | ⟨e, _⟩
          · rw [← e]; exact j4
          · rw [e, isExt_add] at j4; cases j4
        cases hk : isExt k.2 with
        | true =>
          have a1 := q6.1.1 hk
          have a2 : S br.b ∨ w0.heap.size ≤ br.b := Classical.byContradiction fun hc => by have := p6.1.2 hc; rw [hown] at this; cases this
          rw [j2] at a2; exact a1 a2
        | false =>
          have := hij l (List.mem_of_getElem? q1) l' (List.mem_of_getElem? p1) b br k k' q3 p3 j2.symm q4 p4 ⟨q5', hk⟩ ⟨p5', hown⟩
          subst this
          have := hnd i j l q1 p1
          subst this
          rw [h2] at j3; injection j3 with j3; subst j3
          rw [hx] at j4; cases j4
      · omega
    · cases hk : isExt k0.2 with
      | true => rfl
      | false => exact absurd (.inl ⟨i, b, k0, h1, rfl, h2, hk⟩) hx
    · obtain ⟨cs, ty, fz, us, rest, p1, ⟨p2, p2'⟩, p3, p4, p5⟩ := q6.2.resolve_left q5'
      have hem : emk k0.2 = emk k.2 ∧ (isExt k0.2 = false → isExt k.2 = false) := by
        rcases q5.2 with e | ⟨e, e'⟩
        · rw [e]; exact ⟨rfl, fun h => h⟩
        · rw [e]; exact ⟨emk_ext e', fun _ => e'⟩
      refine .inr ⟨cs, ty, fz, us, rest, p1, ⟨p2, by rw [hem.1]; exact p2'⟩, p3, ?_, fun hh => p5 (hem.2 hh)⟩
      have hfree := hlm k0 (List.mem_of_getElem? h2)
      rw [q5.1] at hfree ⊢
      exact nameless_rel hfree p4
  have hargs : absRel gl xs vs := abs_in (fun l hl b hb => by simp only [gl, if_pos hl]; exact hb) hxs hv
  have hev := h Sl w gl vs hargs (fun i b k h1 h2 => by
    obtain ⟨_, h3⟩ := hbk i b k h1 h2
    rcases h3 with h3 | ⟨_, _, _, us, _, _, _, _, h3, _⟩
    · rw [h3]; trivial
    · exact factChs_ok h3)
  refine .inr ⟨callFunc_enter hf hb hn _ w, (calls_of_ev hC hf hb (g0 := gl) (k0 := lm.length) (S := Sl) (w := w) (mem := lm) (xs := xs) (vs := vs) (K := fun r' mem' => leAV lw.length r' r (leMem lw.length mem' lw True)) (fun l hh => ?_) hargs hl
    (fun l b k h1 h2 => hbk l b k h1 h2) ⟨fun l b hh => ?_, Fr.refl _ _⟩ (fun l hh => ?_) (fun i j b b' k k' h1 h2 h3 h4 h5 h6 h7 => ?_) hev).mono ?_⟩
  · by_cases hlt : l < lm.length
    · exact hlt
    · simp [gl, hlt] at hh
  · obtain ⟨l', _, _, _, _, _, q3, _⟩ := hgl l b hh; exact hgw.own l' b q3
  · by_cases hlt : l < lm.length
    · exact hlt
    · simp [gl, hlt] at hh
  · obtain ⟨l, k0, q, _, q1, q2, q3, q4, q5, q5', q6⟩ := hgl i b h1
    obtain ⟨l', k0', q', _, p1, p2, p3, p4, p5, p5', p6⟩ := hgl j b' h2
    rw [h4] at q2; injection q2 with q2; subst q2
    rw [h5] at p2; injection p2 with p2; subst p2
    have own : ∀ {k0 k : Blk}, handed k0 k → isExt k0.2 = false → isExt k.2 = false := by
      intro k0 k hh hx
      rcases hh.2 with e | ⟨e, e'⟩
      · rw [← e]; exact hx
      · exact e'
    have := hij l (List.mem_of_getElem? q1) l' (List.mem_of_getElem? p1) b b' q q' q3 p3 h3 q4 p4 ⟨q5', own q5 h6.2⟩ ⟨p5', own p5 h7.2⟩
    subst this
    exact hnd i j l q1 p1
  · rintro en w' ⟨v, r', mem', g', he, hK, hrv, hle', hms, hgw', hdom', hinj'⟩
    obtain ⟨hK2, hK1⟩ := leAV_ok hK
    obtain ⟨_, hlen', hmm⟩ := leMem_ok hK2
    -- the caller's names behind the call
    let gg : GM := fun l => match g l with
      | some b => some b
      | none => if mem.length ≤ l ∧ l < mem.length + (lw.length - lm.length) then g' (lm.length + (l - mem.length)) else none
    have ggold : ∀ l b, g l = some b → gg l = some b := fun l b hb => by simp only [gg, hb]
    have ggnew : ∀ j, j < lw.length - lm.length → gg (mem.length + j) = g' (lm.length + j) := fun j hj => by
      have := hfr j (by simpa using hj)
      simp only [gg, this]
      rw [if_pos ⟨by omega, by omega⟩]
      congr 1; omega
    have ggback : ∀ l b, gg l = some b → g l = some b ∨ (g l = none ∧ ∃ j, j < lw.length - lm.length ∧ l = mem.length + j ∧ g' (lm.length + j) = some b) := fun l b hb => by
      cases hg : g l with
      | some b' => simp only [gg, hg] at hb; exact .inl (by rw [hb])
      | none =>
        simp only [gg, hg] at hb
        split at hb
        · rename_i hc
          exact .inr ⟨rfl, l - mem.length, by omega, by omega, hb⟩
        · cases hb
    have hfree : ∀ {k : Blk} {vs : List Value} {g1 g2 : GM}, k ∈ lw → chsRel g1 k.1 vs → chsRel g2 k.1 vs := fun hk hr => nameless_rel (hlw _ hk) hr
    -- what the callee's names hold behind the call
    have hpost : ∀ (i : Nat) (b : BR) (k : Blk), lw[i]? = some k → g' i = some b → (isExt k.2 = true ↔ ¬ (Sl b.b ∨ w.heap.size ≤ b.b)) ∧ (k.1 = [] ∨ ∃ (cs : Array Value) (ty : TypeId) (fz : Nat × Nat) (us rest : List Value), w'.heap[b.b]? = some (.cells cs ty fz) ∧ (cs.size = b.room ∧ b.e = emk k.2) ∧ cs.toList = us ++ rest ∧ chsRel gg k.1 us ∧ (isExt k.2 = false → ∀ off, off < cs.size → ¬ (fz.1 ≤ off ∧ off < fz.2))) := by
      intro i b k hk hb
      obtain ⟨k', e1, e2, e3⟩ := hmm i k hk
      obtain ⟨p0, p1⟩ := hms i b k' hb e1
      refine ⟨by rw [← e2]; exact p0, ?_⟩
      rcases e3 with e3 | ⟨e3, e4⟩
      · exact .inl e3
      · obtain ⟨cs, ty, fz, us, rest, q1, q2, q3, q4, q5⟩ := p1.resolve_left e3
        exact .inr ⟨cs, ty, fz, us, rest, q1, by rw [← e2]; exact q2, q3, hfree (List.mem_of_getElem? hk) (e4 g' _ q4), by rw [← e2]; exact q5⟩
    have hlwlive : ∀ (j : Nat) (k : Blk), (lw.drop lm.length)[j]? = some k → lw[lm.length + j]? = some k ∧ live k := fun j k hj => ⟨by rw [List.getElem?_drop] at hj; exact hj, hnews k (List.mem_of_getElem? hj)⟩
    have hnewblk : ∀ (j : Nat) (b : BR), j < lw.length - lm.length → g' (lm.length + j) = some b → w.heap.size ≤ b.b ∨ ∃ l b', wrFind (wrsOf ls lm lw) l = some [] ∧ g l = some b' ∧ b'.b = b.b := by
      intro j b hj hb
      have hj' : (lw.drop lm.length)[j]? = some lw[lm.length + j] := by rw [List.getElem?_drop, List.getElem?_eq_getElem]
      obtain ⟨e1, e2⟩ := hlwlive j _ hj'
      obtain ⟨k', m1, m2, m3⟩ := hmm _ _ e1
      have hk' := hms _ b k' hb m1
      have hS' : Sl b.b ∨ w.heap.size ≤ b.b := Classical.byContradiction fun hc => by have := hk'.1.2 hc; rw [m2, e2.2] at this; cases this
      rcases hS' with ⟨i, br, k0, i1, i2, i3, i4⟩ | hS'
      · right
        obtain ⟨l, k0', k, hlt, q1, q2, q3, q4, q5, q5', q6⟩ := hgl i br i1
        have hi' := hle' i br i1
        have hwi : lw[i]? = some lw[i] := List.getElem?_eq_getElem (by omega)
        obtain ⟨k1, n1, n2, n3⟩ := hmm i _ hwi
        have hmk := hmarks i k0 lw[i] i3 hwi
        rcases n3 with n3 | ⟨n3, _⟩
        · refine ⟨l, br, wrFind_nodup (fun c' hc => ?_) (by have := wrsOf_in q1 i3 hwi i4; rw [n3] at this; exact this), q3, i2⟩
          obtain ⟨i2', k2, k2', r1, r2, r3, r4, rfl⟩ := wrsOf_mem hc
          have := hnd i i2' l q1 r1
          subst this
          rw [hwi] at r3; injection r3 with r3; subst r3
          exact n3
        · have := hinj' i (lm.length + j) br b k1 k' hi' hb i2 n1 m1 ⟨n3, by rw [n2, hmk]; exact i4⟩ ⟨by
            rcases m3 with m3 | ⟨m3, _⟩
            · exact absurd m3 e2.1
            · exact m3, by rw [m2]; exact e2.2⟩
          omega
      · exact .inl hS'
    refine ⟨v, gg, he, ?_, ?_⟩
    · refine av_out (g' := cutG g' lw.length) (p := fun l => lm.length ≤ l ∧ l < lw.length) (fun l hl b hb => ?_) hr (hK1 g' v hrv)
      rw [hsn l hl.1]
      rw [ggnew (l - lm.length) (by omega), show lm.length + (l - lm.length) = l by omega]
      exact cutG_le g' _ l b hb
    · refine ⟨fun l b hb => ggold l b hb, ⟨fun l b hb => ?_, ?_⟩, fun l hl hl' => ?_, hgw'.fr.size, fun b hb hne => ?_, fun j k hj b hb => ?_, fun l c' hw b k hb hk => ?_, fun l c' hm => ?_, fun j b hb hb' => ?_, fun i j b b' n1 n2 h1 h2 hbb => ?_⟩
      · rcases ggback l b hb with hb | ⟨_, j, _, _, hb⟩
        · exact Nat.lt_of_lt_of_le (hgw.own l b hb) hgw'.fr.size
        · exact hgw'.own _ b hb
      · refine ⟨hgw'.fr.os.trans hgw.fr.os, hgw'.fr.tape.trans hgw.fr.tape, hgw'.fr.output.trans hgw.fr.output, Nat.le_trans hgw.fr.size hgw'.fr.size, fun k hk hs => ?_⟩
        refine (hgw'.fr.block k (Nat.lt_of_lt_of_le hk hgw.fr.size) (fun hh => ?_)).trans (hgw.fr.block k hk hs)
        rcases hSl k hh with h1 | h1
        · exact hs h1
        · omega
      · cases hq : gg l with
        | none => exact absurd hq hl
        | some b =>
          rcases ggback l b hq with hb | ⟨_, j, hj, rfl, hb⟩
          · rw [hl'] at hb; cases hb
          · simp only [List.length_drop]; omega
      · refine hgw'.fr.block b hb ?_
        rintro ⟨i, br, k0, i1, i2, i3, i4⟩
        obtain ⟨l, k0', k, hlt, q1, q2, q3, q4, q5, q5', q6⟩ := hgl i br i1
        have hwi : lw[i]? = some lw[i] := List.getElem?_eq_getElem (by omega)
        exact hne l _ br (wrsOf_in q1 i3 hwi i4) q3 i2
      · obtain ⟨e1, e2⟩ := hlwlive j k hj
        have hj2 : j < lw.length - lm.length := by have := (List.getElem?_eq_some_iff.1 hj).1; simpa using this
        rw [ggnew j hj2] at hb
        obtain ⟨p0, p1⟩ := hpost _ b k e1 hb
        refine ⟨⟨fun hx => (by rw [e2.2] at hx; cases hx), fun hx => ?_⟩, p1⟩
        refine absurd ?_ hx
        have : Sl b.b ∨ w.heap.size ≤ b.b := Classical.byContradiction fun hc => by have := p0.2 hc; rw [e2.2] at this; cases this
        rcases this with h1 | h1
        · exact hSl _ h1
        · exact .inr (Nat.le_trans hgw.fr.size h1)
      · obtain ⟨i, k0, k', r1, r2, r3, r4, rfl⟩ := wrsOf_mem (wrFind_mem _ _ _ hw)
        obtain ⟨k2, m1, m2, m3⟩ := hmem i l k0 r1 r2
        rw [hk] at m1; injection m1 with m1; subst m1
        have hgi : gl i = some b := by
          have hlt := (List.getElem?_eq_some_iff.1 r2).1
          simp only [gl, if_pos hlt]
          rw [hsl i hlt, r1]; exact hb
        obtain ⟨p0, p1⟩ := hpost i b k' r3 (hle' i b hgi)
        have hkk : k'.2 = k.2 := by
          rw [hmarks i k0 k' r2 r3]
          rcases m2.2 with e | ⟨e, _⟩
          · exact e
          · rw [e, isExt_add] at r4; cases r4
        rw [hkk] at p1
        exact ⟨(hrd l (List.mem_of_getElem? r1) b k hb hk).1, p1⟩
      · obtain ⟨i, k0, k', r1, r2, r3, r4, rfl⟩ := wrsOf_mem hm
        obtain ⟨k2, m1, m2, m3⟩ := hmem i l k0 r1 r2
        refine ⟨k2, m1, m3, ?_⟩
        rcases m2.2 with e | ⟨e, e'⟩
        · rw [← e]; exact r4
        · exact e'
      · rcases ggback _ b hb with hb | ⟨_, j', hj', e, hb⟩
        · rw [hb'] at hb; cases hb
        · exact hnewblk j' b hj' hb
      · rcases ggback _ b h1 with hb | ⟨_, i', hi', e, hb⟩
        · rw [n1] at hb; cases hb
        · rcases ggback _ b' h2 with hb2 | ⟨_, j', hj', e', hb2⟩
          · rw [n2] at hb2; cases hb2
          · have a1 : (lw.drop lm.length)[i']? = some lw[lm.length + i'] := by rw [List.getElem?_drop, List.getElem?_eq_getElem]
            have a2 : (lw.drop lm.length)[j']? = some lw[lm.length + j'] := by rw [List.getElem?_drop, List.getElem?_eq_getElem]
            obtain ⟨e1, e2⟩ := hlwlive i' _ a1
            obtain ⟨e1', e2'⟩ := hlwlive j' _ a2
            obtain ⟨k', m1, m2, m3⟩ := hmm _ _ e1
            obtain ⟨k'', m1', m2', m3'⟩ := hmm _ _ e1'
            have := hinj' _ _ b b' k' k'' hb hb2 hbb m1 m1' ⟨(m3.resolve_left e2.1).1, by rw [m2]; exact e2.2⟩ ⟨(m3'.resolve_left e2'.1).1, by rw [m2']; exact e2'.2⟩
            omega


/-! ### A function that is handed one block with a long number, to read -/

theorem nmCV_mono {p q : Nat → Prop} (h : ∀ l, p l → q l) {c : CV} (hc : nmCV p c) : nmCV q c := by
  cases c with
  | ptr => exact h _ hc
  | sl => exact h _ hc
  | fn f fs cs => exact fun l hl => h l (hc l hl)
  | _ => trivial
theorem nmChs_mono {p q : Nat → Prop} (h : ∀ l, p l → q l) : ∀ {cs : List Ch}, nmChs p cs → nmChs q cs
  | [], _ => trivial
  | .cell _ :: _, ⟨h1, h2⟩ => ⟨nmCV_mono h h1, nmChs_mono h h2⟩
  | .num _ :: _, ⟨_, h2⟩ => ⟨trivial, nmChs_mono h h2⟩
  | .vec _ _ :: _, ⟨h1, h2⟩ => ⟨h1, nmChs_mono h h2⟩
theorem nmAB_mono {p q : Nat → Prop} (h : ∀ l, p l → q l) {x : AB} (hx : nmAB p x) : nmAB q x := by
  cases x with
  | cv c => exact nmCV_mono h hx
  | agg cs => exact nmChs_mono h hx
theorem nmABs_mono {p q : Nat → Prop} (h : ∀ l, p l → q l) : ∀ {xs : List AB}, nmABs p xs → nmABs q xs
  | [], _ => trivial
  | _ :: _, ⟨h1, h2⟩ => ⟨nmAB_mono h h1, nmABs_mono h h2⟩
theorem nmAV_mono {p q : Nat → Prop} (h : ∀ l, p l → q l) {x : AV} (hx : nmAV p x) : nmAV q x := by
  cases x with
  | b x => exact nmAB_mono h hx
  | tup xs => exact nmABs_mono h hx
theorem renCV_none {σ : Nat → Nat} {c : CV} (hc : nmCV (fun _ => False) c) : renCV σ c = c := by
  cases c with
  | ptr => exact hc.elim
  | sl => exact hc.elim
  | fn f fs cs => cases cs with
    | nil => rfl
    | cons l _ => exact (hc l (by simp)).elim
  | _ => rfl
theorem renChs_none {σ : Nat → Nat} : ∀ {cs : List Ch}, nmChs (fun _ => False) cs → cs.map (renCh σ) = cs
  | [], _ => rfl
  | .cell c :: r, ⟨h1, h2⟩ => by rw [List.map_cons, renChs_none h2]; show Ch.cell (renCV σ c) :: r = _; rw [renCV_none h1]
  | .num _ :: r, ⟨_, h2⟩ => by rw [List.map_cons, renChs_none h2]; rfl
  | .vec _ _ :: r, ⟨_, h2⟩ => by rw [List.map_cons, renChs_none h2]; rfl
theorem renAB_none {σ : Nat → Nat} {x : AB} (hx : nmAB (fun _ => False) x) : renAB σ x = x := by
  cases x with
  | cv c => show AB.cv (renCV σ c) = _; rw [renCV_none hx]
  | agg cs => show AB.agg (cs.map (renCh σ)) = _; rw [renChs_none hx]
theorem renABs_none {σ : Nat → Nat} : ∀ {xs : List AB}, nmABs (fun _ => False) xs → xs.map (renAB σ) = xs
  | [], _ => rfl
  | _ :: _, ⟨h1, h2⟩ => by rw [List.map_cons, renAB_none h1, renABs_none h2]
theorem renAV_none {σ : Nat → Nat} {x : AV} (hx : nmAV (fun _ => False) x) : renAV σ x = x := by
  cases x with
  | b x => show AV.b (renAB σ x) = _; rw [renAB_none hx]
  | tup xs => show AV.tup (xs.map (renAB σ)) = _; rw [renABs_none hx]

/-- The block is handed over as one that is only read. -/
abbrev roB (cs : List Ch) : Blk := (cs, EXTM)
theorem roOk (hC : CxOk P C) {f : FuncId} {fn : Func} {c : Code} (hf : P.funcs[f]? = some fn) (hb : fn.body = some c) (hn : (fn.name == "runtime.NumGoroutine") = false) {xs : List AB} (hl : xs.length ≤ fn.ntmps) (hx : nmABs (fun l => l < 1) xs)
    (hx0 : ∀ (g : GM) (vs : List Value), absRel g xs vs → ∃ b, g 0 = some b)
    {kc : List Ch} (hkc : nmChs (fun _ => False) kc) (hne : kc ≠ []) {r : AV} (hr : nmAV (fun _ => False) r) {mem : List Blk} {l mk : Nat} (hmem : bnth mem l = some (kc, mk)) (hmk : mk = 0 ∨ mk = EXTM)
    (h : ∀ (S : Nat → Prop) (w : World) (g : GM), factABs xs → factChs kc → evC P S w C g 1 c (ts0 xs (fn.ntmps - xs.length)) [roB kc] fun x ts' mem' => match x with
      | .exit _ => False
      | _ => resK C fn.results.toList ts' mem' fun r' => leAV 1 r' r (leMem 1 mem' [roB kc] True)) :
    CallOk P S w0 f (xs.map (renAB (renL [l] mem.length))) mem [l] r noEff := by
  rw [bnth_eq] at hmem
  have key := callLoc (S := S) (w0 := w0) hC hf hb hn (xs := xs) (lm := [roB kc]) (lw := [roB kc]) (r := r) (ls := [l]) (mem := mem) hl rfl (Nat.le_refl _)
    (fun i j l' h1 h2 => by
      have h1 := (List.getElem?_eq_some_iff.1 h1).1
      have h2 := (List.getElem?_eq_some_iff.1 h2).1
      simp at h1 h2; omega)
    (fun i l' k0 h1 h2 => by
      have hi := (List.getElem?_eq_some_iff.1 h1).1
      simp at hi; subst hi
      simp at h1 h2; subst h1 h2
      refine ⟨_, hmem, ⟨rfl, ?_⟩, hne⟩
      rcases hmk with rfl | rfl
      · exact .inr ⟨rfl, rfl⟩
      · exact .inl rfl)
    (fun i k k' h1 h2 => by rw [h1] at h2; injection h2 with h2; rw [h2])
    hx (fun k hk => by simp at hk; subst hk; exact hkc) (fun k hk => by simp at hk; subst hk; exact hkc) (fun k hk => by simp at hk)
    (nmAV_mono (fun _ hl => hl.elim) hr)
    (fun S w g vs hv hfa => h S w g (factABs_ok hv) (by
        obtain ⟨b, hb⟩ := hx0 g vs hv
        exact hfa 0 b _ hb rfl))
  rw [renAV_none hr] at key
  exact key
theorem capOk (hC : CxOk P C) {f : FuncId} {fn : Func} {c : Code} (hf : P.funcs[f]? = some fn) (hb : fn.body = some c) (hn : (fn.name == "runtime.NumGoroutine") = false) {xs : List AB} (hl : xs.length ≤ fn.ntmps) (hx : nmABs (fun l => l < 1) xs)
    (hx0 : ∀ (g : GM) (vs : List Value), absRel g xs vs → ∃ b, g 0 = some b)
    {n : Nat} {r : AV} (hr : nmAV (fun _ => False) r) {mem : List Blk} {l mk : Nat} (hmem : bnth mem l = some ([.num n], mk)) (hmk : mk = 0 ∨ mk = EXTM)
    (h : ∀ (S : Nat → Prop) (w : World) (g : GM), factABs xs → n < BW → evC P S w C g 1 c (ts0 xs (fn.ntmps - xs.length)) [roB [.num n]] fun x ts' mem' => match x with
      | .exit _ => False
      | _ => resK C fn.results.toList ts' mem' fun r' => leAV 1 r' r (leMem 1 mem' [roB [.num n]] True)) :
    CallOk P S w0 f (xs.map (renAB (renL [l] mem.length))) mem [l] r noEff :=
  roOk hC hf hb hn hl hx hx0 (kc := [.num n]) ⟨trivial, trivial⟩ (by simp) hr hmem hmk fun S w g h1 h2 => h S w g h1 h2.1
end Go.Ev
