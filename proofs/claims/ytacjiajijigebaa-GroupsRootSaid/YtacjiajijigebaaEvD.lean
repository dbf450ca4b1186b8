/- A region that draws its order: whatever order is drawn, the end is that of the order of the text, if the closed checks hold. No condition. -/
import Derived.Test.YtacjiajijigebaaEvC
namespace Go.Ev
open Go

def maskOf (acc : List Nat) (o : Oper) : Nat := o.after.toList.foldl (fun s e => if Region.binds .any e then s ||| (2 ^ e.on ||| acc.getD e.on 0) else s) 0
def masks : List Oper → List Nat → List Nat
  | [], acc => acc
  | o :: os, acc => masks os (acc ++ [maskOf acc o])

/-- What of memory an operation looks at and writes, and which new blocks are its. -/
structure FP where
  rd : List Nat
  wr : List Nat
  base : Nat
  len : Nat

def fpOf (e : Ent) : FP := ⟨e.rd, e.eff.wrs.map (·.1), e.base, e.eff.news.length⟩

def okSlots (all : List Oper) : Bool :=
  let ms := masks all []
  (List.range all.length).all fun j => match all[j]? with
    | some b => (b.after.toList.all fun e => !Region.binds .any e || Nat.blt e.on j) && (List.range j).all fun i => match all[i]? with
      | some a => a.apart all.toArray b || (ms.getD j 0).testBit i
      | none => true
    | none => true

def disj (x y : List Nat) : Bool := x.all fun l => !y.contains l
def okMem (all : List Oper) (fps : List FP) : Bool :=
  let ms := masks all []
  (List.range fps.length).all fun j => match fps[j]? with
    | some b => (b.wr.all fun l => b.rd.contains l && Nat.blt l b.base) && (List.range j).all fun i => match fps[i]? with
      | some a => (disj a.wr b.rd && disj b.wr a.rd && b.wr.all fun l => Nat.blt l a.base || Nat.ble (a.base + a.len) l) || (ms.getD j 0).testBit i
      | none => true
    | none => true

theorem maskOf_bit (acc : List Nat) (o : Oper) (i : Nat) (h : (maskOf acc o).testBit i = true) : ∃ e ∈ o.after, Region.binds .any e = true ∧ (e.on = i ∨ (acc.getD e.on 0).testBit i = true) := by
  unfold maskOf at h
  have key : ∀ (l : List Edge) (s : Nat), (l.foldl (fun s e => if Region.binds .any e then s ||| (2 ^ e.on ||| acc.getD e.on 0) else s) s).testBit i = true →
      s.testBit i = true ∨ ∃ e ∈ l, Region.binds .any e = true ∧ (e.on = i ∨ (acc.getD e.on 0).testBit i = true) := by
    intro l
    induction l with
    | nil => intro s hs; exact .inl hs
    | cons e l ih =>
      intro s hs
      rw [List.foldl_cons] at hs
      rcases ih _ hs with h1 | ⟨e', h1, h2⟩
      · by_cases hb : Region.binds .any e = true
        · rw [if_pos hb, Nat.testBit_or, Nat.testBit_or, Bool.or_eq_true, Bool.or_eq_true] at h1
          rcases h1 with h1 | h1 | h1
          · exact .inl h1
          · refine .inr ⟨e, List.mem_cons_self .., hb, .inl ?_⟩
            rw [Nat.testBit_two_pow] at h1
            simpa using h1
          · exact .inr ⟨e, List.mem_cons_self .., hb, .inr h1⟩
        · rw [if_neg hb] at h1; exact .inl h1
      · exact .inr ⟨e', List.mem_cons_of_mem _ h1, h2⟩
  rcases key _ 0 h with h1 | ⟨e, h1, h2⟩
  · simp at h1
  · exact ⟨e, Array.mem_toList_iff.1 h1, h2⟩

theorem masks_ok (all : List Oper) (D : Nat → Bool) (hD : ∀ j o, all[j]? = some o → D j = true → ∀ e ∈ o.after, Region.binds .any e = true → D e.on = true) :
    ∀ (j : Nat) (o : Oper), all[j]? = some o → (∀ e ∈ o.after, Region.binds .any e = true → D e.on = true) → ∀ i, ((masks all []).getD j 0).testBit i = true → D i = true := by
  have key : ∀ (os : List Oper) (acc : List Nat), (∀ k, os[k]? = all[acc.length + k]?) →
      (∀ j o, all[j]? = some o → (∀ e ∈ o.after, Region.binds .any e = true → D e.on = true) → ∀ i, (acc.getD j 0).testBit i = true → D i = true) →
      ∀ j o, all[j]? = some o → (∀ e ∈ o.after, Region.binds .any e = true → D e.on = true) → ∀ i, ((masks os acc).getD j 0).testBit i = true → D i = true := by
    intro os
    induction os with
    | nil => intro acc _ h; exact h
    | cons o os ih =>
      intro acc hk h
      refine ih (acc ++ [maskOf acc o]) (fun k => ?_) ?_
      · have := hk (k + 1)
        simp only [List.getElem?_cons_succ] at this
        rw [this, List.length_append, List.length_singleton]
        congr 1; omega
      · intro j o' hj he i hi
        by_cases hlt : j < acc.length
        · rw [List.getD_eq_getElem?_getD, List.getElem?_append_left hlt, ← List.getD_eq_getElem?_getD] at hi
          exact h j o' hj he i hi
        · by_cases hje : j = acc.length
          · subst hje
            have h0 := hk 0
            simp only [List.getElem?_cons_zero, Nat.add_zero] at h0
            rw [hj] at h0; injection h0 with h0; subst h0
            rw [List.getD_eq_getElem?_getD, List.getElem?_append_right (Nat.le_refl _)] at hi
            simp only [Nat.sub_self, List.getElem?_cons_zero, Option.getD_some] at hi
            obtain ⟨e, h1, h2, h3⟩ := maskOf_bit acc o i hi
            have hDe := he e h1 h2
            rcases h3 with h3 | h3
            · rw [← h3]; exact hDe
            · cases ho : all[e.on]? with
              | some oe => exact h e.on oe ho (fun e' he' hb' => hD e.on oe ho hDe e' he' hb') i h3
              | none =>
                by_cases hl : e.on < acc.length
                · have h5 := List.getElem?_eq_none_iff.1 ho
                  have h6 : ∃ y, all[acc.length]? = some y := ⟨_, hj⟩
                  obtain ⟨y, h6⟩ := h6
                  have := (List.getElem?_eq_some_iff.1 h6).1
                  omega
                · rw [List.getD_eq_getElem?_getD, List.getElem?_eq_none (by omega)] at h3; simp at h3
          · rw [List.getD_eq_getElem?_getD, List.getElem?_eq_none (by simp; omega)] at hi; simp at hi
  intro j o hj he i hi
  exact key all [] (fun k => by simp) (fun j o _ _ i h => by simp at h) j o hj he i hi

theorem okSlots_edge {all : List Oper} (h : okSlots all = true) {j : Nat} {o : Oper} (ho : all[j]? = some o) : ∀ e ∈ o.after, Region.binds .any e = true → e.on < j := by
  intro e he hb
  have hj := (List.getElem?_eq_some_iff.1 ho).1
  unfold okSlots at h
  have := List.all_eq_true.1 h j (List.mem_range.2 hj)
  simp only [ho, Bool.and_eq_true] at this
  have := List.all_eq_true.1 this.1 e (Array.mem_toList_iff.2 he)
  simp only [hb, Bool.not_true, Bool.false_or] at this
  simpa [Nat.blt_eq] using this

theorem okSlots_pair {all : List Oper} (h : okSlots all = true) {i j : Nat} {a b : Oper} (ha : all[i]? = some a) (hb : all[j]? = some b) (hij : i < j) :
    a.apart all.toArray b = true ∨ ((masks all []).getD j 0).testBit i = true := by
  have hj := (List.getElem?_eq_some_iff.1 hb).1
  unfold okSlots at h
  have := List.all_eq_true.1 h j (List.mem_range.2 hj)
  simp only [hb, Bool.and_eq_true] at this
  have := List.all_eq_true.1 this.2 i (List.mem_range.2 hij)
  simp only [ha, Bool.or_eq_true] at this
  exact this

theorem okMem_own {all : List Oper} {es : List Ent} (h : okMem all (es.map fpOf) = true) {j : Nat} {e : Ent} (he : es[j]? = some e) : ∀ l c, (l, c) ∈ e.eff.wrs → l ∈ e.rd ∧ l < e.base := by
  intro l c hm
  have hj := (List.getElem?_eq_some_iff.1 he).1
  unfold okMem at h
  have := List.all_eq_true.1 h j (List.mem_range.2 (by simpa using hj))
  simp only [List.getElem?_map, he, Option.map_some, Bool.and_eq_true] at this
  have := List.all_eq_true.1 this.1 l (by simp only [fpOf, List.mem_map]; exact ⟨(l, c), hm, rfl⟩)
  simp only [fpOf, Bool.and_eq_true, List.contains_iff_mem, Nat.blt_eq] at this
  exact this

theorem okMem_pair {all : List Oper} {es : List Ent} (h : okMem all (es.map fpOf) = true) {i j : Nat} {a b : Ent} (ha : es[i]? = some a) (hb : es[j]? = some b) (hij : i < j) :
    ((∀ l c, (l, c) ∈ a.eff.wrs → l ∉ b.rd) ∧ (∀ l c, (l, c) ∈ b.eff.wrs → l ∉ a.rd) ∧ (∀ l c, (l, c) ∈ b.eff.wrs → ¬ (a.base ≤ l ∧ l < a.base + a.eff.news.length))) ∨
      ((masks all []).getD j 0).testBit i = true := by
  have hj := (List.getElem?_eq_some_iff.1 hb).1
  unfold okMem at h
  have := List.all_eq_true.1 h j (List.mem_range.2 (by simpa using hj))
  simp only [List.getElem?_map, hb, Option.map_some, Bool.and_eq_true] at this
  have := List.all_eq_true.1 this.2 i (List.mem_range.2 hij)
  simp only [ha, Option.map_some, Bool.or_eq_true, Bool.and_eq_true] at this
  rcases this with ⟨⟨h1, h2⟩, h3⟩ | h1
  · refine .inl ⟨fun l c hm hr => ?_, fun l c hm hr => ?_, fun l c hm hr => ?_⟩
    · have := List.all_eq_true.1 h1 l (by simp only [fpOf, List.mem_map]; exact ⟨(l, c), hm, rfl⟩)
      simp [fpOf, hr] at this
    · have := List.all_eq_true.1 h2 l (by simp only [fpOf, List.mem_map]; exact ⟨(l, c), hm, rfl⟩)
      simp [fpOf, hr] at this
    · have := List.all_eq_true.1 h3 l (by simp only [fpOf, List.mem_map]; exact ⟨(l, c), hm, rfl⟩)
      simp only [fpOf, Bool.or_eq_true, Nat.blt_eq, Nat.ble_eq] at this
      omega
  · exact .inr h1

/-- Some of the operations, D, have come up; the rest has not. -/
structure Inv (S : Nat → Prop) (w0 : World) (es : List Ent) (g0 : GM) (ts0 : List AV) (mem0 : List Blk) (D : Nat → Bool) (g : GM) (a : Act) (w : World) : Prop where
  size : ts0.length ≤ a.tmps.size
  slots : ∀ t, (app (updS ts0.length t) es D (lnth ts0 t)).rel g (a.tmps.getD t undef)
  defers : a.defers = []
  ms : ∀ l b k, g l = some b → app (updM l) es D (mem0[l]?) = some k → BlkRel S w0 g w b k
  dom : ∀ l, g l ≠ none → l < mem0.length ∨ ∃ i e, es[i]? = some e ∧ D i = true ∧ e.base ≤ l ∧ l < e.base + e.eff.news.length
  gw : GW g S w0 w
  le : GM.le g0 g
  inj : ∀ l l' b b' k k', g l = some b → g l' = some b' → b.b = b'.b → app (updM l) es D (mem0[l]?) = some k → app (updM l') es D (mem0[l']?) = some k' → live k → live k' → l = l'

def TS (t : Nat) (e : Ent) : Prop := e.dst = some t
def TM (l : Nat) (e : Ent) : Prop := (e.base ≤ l ∧ l < e.base + e.eff.news.length) ∨ ∃ c, (l, c) ∈ e.eff.wrs
theorem TS_not (n t : Nat) (e : Ent) (h : ¬ TS t e) (x : AV) : updS n t e x = x := by
  unfold updS; rw [if_neg fun h' => h h'.1]
theorem TM_not (l : Nat) (e : Ent) (h : ¬ TM l e) (x : Option Blk) : updM l e x = x := by
  unfold updM
  rw [if_neg fun h' => h (.inl h')]
  cases hf : wrFind e.eff.wrs l with
  | none => rfl
  | some c => exact absurd (.inr ⟨c, wrFind_mem _ _ _ hf⟩) h

theorem inv_step {P : Program} {S : Nat → Prop} {w0 : World} {all : List Oper} {ts ts' : List AV} {mem mem' : List Blk} {es : List Ent} (htr : Tr P S w0 all all ts mem es ts' mem')
    (hS : okSlots all = true) (hM : okMem all (es.map fpOf) = true) {D : Nat → Bool} (hcl : ∀ j o, all[j]? = some o → D j = true → ∀ e ∈ o.after, Region.binds .any e = true → D e.on = true)
    {g0 g : GM} {a : Act} {w : World} (hi : Inv S w0 es g0 ts mem D g a w) {i : Nat} {o : Oper} (ho : all[i]? = some o) (hDi : D i = false)
    (hready : ∀ e ∈ o.after, Region.binds .any e = true → D e.on = true) {Q : Exit → Act → World → Prop} {K : Act → World → Prop}
    (hK : ∀ g' a' w', Inv S w0 es g0 ts mem (fun k => D k || Nat.beq k i) g' a' w' → K a' w') : wpOp P all.toArray Q i K a w := by
  obtain ⟨hb0, hbb, _, _, hat⟩ := htr.at_ fun e he l c hm => by
    obtain ⟨j, hj, hje⟩ := List.getElem_of_mem he
    exact (okMem_own hM (List.getElem?_eq_some_iff.2 ⟨hj, hje⟩) l c hm).2
  obtain ⟨e, tsi, memi, hei, hAt, hts, hmem⟩ := hat i o ho
  have hlen := htr.length
  -- whoever comes ahead of i by the edges has come up
  have before : ∀ k, ((masks all []).getD i 0).testBit k = true → D k = true := masks_ok all D hcl i o ho hready
  -- whoever has come up does not wait for i
  have notafter : ∀ k o', all[k]? = some o' → D k = true → ((masks all []).getD k 0).testBit i = true → False := fun k o' hk hDk hb => by
    have := masks_ok all D hcl k o' hk (fun e he hb => hcl k o' hk hDk e he hb) i hb
    rw [hDi] at this; cases this
  have opOf : ∀ (k : Nat) (e' : Ent), es[k]? = some e' → ∃ o' : Oper, all[k]? = some o' ∧ e'.dst = o'.dst := fun k e' hk => by
    have hlt := (List.getElem?_eq_some_iff.1 hk).1
    have hlt' : k < all.length := by rw [← hlen]; exact hlt
    obtain ⟨e'', _, _, h1, h2, _⟩ := hat k all[k] (List.getElem?_eq_getElem hlt')
    rw [hk] at h1; injection h1 with h1; subst h1
    exact ⟨_, List.getElem?_eq_getElem hlt', h2.dst⟩
  -- the slots that operation i looks at, or writes, are as the order of the text has them
  have slotsame : ∀ t, t ∈ o.looksAt all.toArray ∨ o.dst = some t → ∀ k e', es[k]? = some e' → TS t e' → D k = decide (k < i) := by
    intro t ht k e' hk hT
    obtain ⟨o', ho', hd'⟩ := opOf k e' hk
    have hdst : o'.dst = some t := by rw [← hd']; exact hT
    rcases Nat.lt_trichotomy k i with hlt | heq | hgt
    · rw [decide_eq_true hlt]
      rcases okSlots_pair hS ho' ho hlt with hap | hb
      · obtain ⟨h1, h2, h3⟩ := Oper.apart_spec hap
        rcases ht with ht | ht
        · exact absurd ht (h1 t hdst)
        · exact absurd ht (h2 t hdst)
      · exact before k hb
    · subst heq; rw [hDi]; simp
    · rw [decide_eq_false (by omega)]
      cases hDk : D k with
      | false => rfl
      | true =>
        rcases okSlots_pair hS ho ho' hgt with hap | hb
        · obtain ⟨h1, h2, h3⟩ := Oper.apart_spec hap
          rcases ht with ht | ht
          · exact absurd ht (h3 t hdst)
          · exact absurd hdst (h2 t ht)
        · exact (notafter k o' ho' hDk hb).elim
  have slotrel : ∀ t, t ∈ o.looksAt all.toArray → (lnth tsi t).rel g (a.tmps.getD t undef) := fun t ht => by
    have := hi.slots t
    rw [app_congr (TS_not ts.length t) es D (fun k => decide (k < i)) _ (slotsame t (.inl ht))] at this
    rw [hts t]; exact this
  have hwant : ∀ r, wantA all tsi o = some r → Region.wanted o (yielded all.toArray a.tmps) = r := fun r hr => wantA_ok hr fun j x d hg hd => by
    refine slotrel d ?_
    unfold Oper.looksAt
    simp only [hg, List.mem_append, Option.mem_toList]
    right
    simpa using hd
  -- no operation behind i that has come up writes the slot of i
  have nolater : ∀ t, o.dst = some t → ∀ k e', i < k → es[k]? = some e' → TS t e' → D k = false := fun t ht k e' hik hk hT => by
    rw [slotsame t (.inr ht) k e' hk hT, decide_eq_false (by omega)]
  have slots' : ∀ (g' : GM) (v : Value) (t : Nat), GM.le g g' → e.av.rel g' v → (app (updS ts.length t) es (fun k => D k || Nat.beq k i) (lnth ts t)).rel g' ((a.put o.dst v).tmps.getD t undef) := by
    intro g' v t hle hv
    by_cases ht : o.dst = some t
    · by_cases htl : t < ts.length
      · rw [app_insert (TS_not ts.length t) es i e D _ hei hDi (nolater t ht), show updS ts.length t e _ = e.av from if_pos ⟨by rw [hAt.dst]; exact ht, htl⟩]
        have : t < a.tmps.size := Nat.lt_of_lt_of_le htl hi.size
        simp [Act.put, ht, this, hv]
      · rw [app_congr (upd := updS ts.length t) (T := fun _ => False) (fun e' _ x => if_neg fun h => htl h.2) es _ (fun _ => false) _ (fun _ _ _ h => h.elim), app_none _ _ _ (fun _ => rfl), lnth_ge ts t (by omega)]
        exact AV.top_rel _ _
    · rw [app_congr (TS_not ts.length t) es (fun k => D k || Nat.beq k i) D _ fun k e' hk hT => ?_]
      · have h1 := AV.rel_mono hle (hi.slots t)
        have h2 : (a.put o.dst v).tmps.getD t undef = a.tmps.getD t undef := by
          cases hd : o.dst with
          | none => rfl
          | some d =>
            have : d ≠ t := fun h => ht (by rw [hd, h])
            simp [Act.put, Array.getD_eq_getD_getElem?, Array.getElem?_setIfInBounds_ne this]
        rw [h2]; exact h1
      · by_cases hki : k = i
        · subst hki
          rw [hei] at hk; injection hk with hk; subst hk
          exact absurd (by rw [← hAt.dst]; exact hT) ht
        · have : Nat.beq k i = false := by cases hb : Nat.beq k i with | false => rfl | true => exact absurd (Nat.eq_of_beq_eq_true hb) hki
          simp [this]
  have size' : ∀ v, ts.length ≤ (a.put o.dst v).tmps.size := fun v => by
    have := hi.size
    cases o.dst <;> simpa [Act.put] using this
  unfold wpOp
  simp only [show all.toArray[i]? = some o by simpa using ho]
  rcases hAt.rule with ⟨hw, hav, heff⟩ | ⟨hw, hx⟩
  · rw [hwant _ hw]
    simp only [Bool.false_eq_true, if_false]
    have stay : ∀ l, app (updM l) es (fun k => D k || Nat.beq k i) (mem[l]?) = app (updM l) es D (mem[l]?) := by
      intro l
      refine app_congr (TM_not l) es (fun k => D k || Nat.beq k i) D _ fun k' e' hk' hT => ?_
      by_cases hki : k' = i
      · subst hki
        rw [hei] at hk'; injection hk' with hk'; subst hk'
        rcases hT with hT | ⟨c, hT⟩
        · rw [heff] at hT; simp [noEff] at hT; omega
        · rw [heff] at hT; simp [noEff] at hT
      · have : Nat.beq k' i = false := by cases hb : Nat.beq k' i with | false => rfl | true => exact absurd (Nat.eq_of_beq_eq_true hb) hki
        simp [this]
    refine hK g _ w ⟨size' _, fun t => slots' g undef t (GM.le_refl g) (by rw [hav]; exact AV.top_rel _ _), by rw [Act.put_defers']; exact hi.defers, ?_, ?_, hi.gw, hi.le, ?_⟩
    · intro l b k hl hk
      rw [stay l] at hk
      exact hi.ms l b k hl hk
    · intro l hl
      rcases hi.dom l hl with h | ⟨k, e', h1, h2, h3⟩
      · exact .inl h
      · exact .inr ⟨k, e', h1, by simp [h2], h3⟩
    · intro l l' b b' k k' h1 h2 hbb h3 h4
      rw [stay l] at h3; rw [stay l'] at h4
      exact hi.inj l l' b b' k k' h1 h2 hbb h3 h4
  · rw [hwant _ hw]
    simp only [if_true]
    -- new names of i are free
    have hfresh : ∀ q, q < e.eff.news.length → g (memi.length + q) = none := fun q hq => by
      cases hg : g (memi.length + q) with
      | none => rfl
      | some b =>
        have hbase := hAt.base
        rcases hi.dom _ (by rw [hg]; simp) with h | ⟨k, e', h1, h2, h3, h4⟩
        · have := hb0 e (List.mem_of_getElem? hei); omega
        · rcases Nat.lt_trichotomy k i with hlt | heq | hgt
          · have := hbb k i e' e h1 hei hlt; omega
          · subst heq; rw [hDi] at h2; cases h2
          · have := hbb i k e e' hei h1 hgt; omega
    -- the blocks that i looks at are as the order of the text has them
    have memsame : ∀ l, l ∈ e.rd → ∀ b, g l = some b → l < memi.length → ∀ k e', es[k]? = some e' → TM l e' → D k = decide (k < i) := by
      intro l hl b hg hlm k e' hk hT
      obtain ⟨o', ho', _⟩ := opOf k e' hk
      have hbase := hAt.base
      rcases Nat.lt_trichotomy k i with hlt | heq | hgt
      · rw [decide_eq_true hlt]
        rcases hT with hT | ⟨c, hT⟩
        · rcases hi.dom l (by rw [hg]; simp) with h | ⟨k2, e2, h1, h2, h3, h4⟩
          · have := hb0 e' (List.mem_of_getElem? hk); omega
          · rcases Nat.lt_trichotomy k2 k with q | q | q
            · have := hbb k2 k e2 e' h1 hk q; omega
            · rw [← q]; exact h2
            · have := hbb k k2 e' e2 hk h1 q; omega
        · rcases okMem_pair hM hk hei hlt with ⟨h1, _, _⟩ | hb
          · exact absurd hl (h1 l c hT)
          · exact before k hb
      · subst heq; rw [hDi]; simp
      · rw [decide_eq_false (by omega)]
        cases hDk : D k with
        | false => rfl
        | true =>
          rcases hT with hT | ⟨c, hT⟩
          · have := hbb i k e e' hei hk hgt; omega
          · rcases okMem_pair hM hei hk hgt with ⟨_, h1, _⟩ | hb
            · exact absurd hl (h1 l c hT)
            · exact (notafter k o' ho' hDk hb).elim
    refine .inl (hx g a w (fun x hxo => ?_) (fun l hl b k hg hk => ?_) hi.gw hfresh (fun l hl l' hl' b b' k k' h1 h2 h3 h4 h5 h6 h7 => hi.inj l l' b b' k k' h1 h2 h3 ?_ ?_ h6 h7) _ _ fun v w' g' hv hp => ?_)
    · cases x with
      | tmp t =>
        refine slotrel t ?_
        unfold Oper.looksAt
        rw [List.mem_append]
        left
        rw [List.mem_filterMap]
        exact ⟨_, by simpa using hxo, rfl⟩
      | const v => exact ofConst_rel g v
      | global n => rfl
      | func f => exact ⟨trivial, #[], rfl, rfl⟩
    · have hlm := (List.getElem?_eq_some_iff.1 hk).1
      refine hi.ms l b k hg ?_
      rw [app_congr (TM_not l) es D (fun k => decide (k < i)) _ (memsame l hl b hg hlm), ← hmem l]
      exact hk
    · rw [app_congr (TM_not l) es D (fun k => decide (k < i)) _ (memsame l hl b h1 (List.getElem?_eq_some_iff.1 h4).1), ← hmem l]
      exact h4
    · rw [app_congr (TM_not l') es D (fun k => decide (k < i)) _ (memsame l' hl' b' h2 (List.getElem?_eq_some_iff.1 h5).1), ← hmem l']
      exact h5
    · have hbase := hAt.base
      have oldName : ∀ l b, g' l = some b → ¬ (memi.length ≤ l ∧ l < memi.length + e.eff.news.length) → g l = some b := by
        intro l b hl hnew
        cases hg : g l with
        | some b' => exact (hp.le l b' hg).symm.trans hl ▸ rfl
        | none => have := hp.dom l (by rw [hl]; simp) hg; omega
      -- what a name stands for behind the operation
      have get : ∀ l b k, g' l = some b → app (updM l) es (fun k => D k || Nat.beq k i) (mem[l]?) = some k →
          ((memi.length ≤ l ∧ l < memi.length + e.eff.news.length) ∧ e.eff.news[l - memi.length]? = some k) ∨
          (g l = some b ∧ ((∃ c k0, wrFind e.eff.wrs l = some c ∧ memi[l]? = some k0 ∧ app (updM l) es D (mem[l]?) = some k0 ∧ k = (c, k0.2)) ∨ (wrFind e.eff.wrs l = none ∧ app (updM l) es D (mem[l]?) = some k))) := by
        intro l b k hl hk
        by_cases hnew : memi.length ≤ l ∧ l < memi.length + e.eff.news.length
        · left
          refine ⟨hnew, ?_⟩
          rw [app_insert (TM_not l) es i e D _ hei hDi ?_] at hk
          · unfold updM at hk
            rw [if_pos (by rw [hbase]; exact hnew), hbase] at hk
            exact hk
          · intro k' e' hik hk' hT
            obtain ⟨o', ho', _⟩ := opOf k' e' hk'
            cases hDk : D k' with
            | false => rfl
            | true =>
              rcases hT with hT | ⟨c, hT⟩
              · have := hbb i k' e e' hei hk' hik; omega
              · rcases okMem_pair hM hei hk' hik with ⟨_, _, h1⟩ | hb
                · exact absurd (by omega) (h1 l c hT)
                · exact (notafter k' o' ho' hDk hb).elim
        · right
          have hgl := oldName l b hl hnew
          refine ⟨hgl, ?_⟩
          cases hf : wrFind e.eff.wrs l with
          | some c =>
            left
            have hm := wrFind_mem _ _ _ hf
            have hown := okMem_own hM hei l c hm
            have hlm : l < memi.length := by rw [← hbase]; exact hown.2
            have hsame := memsame l hown.1 b hgl hlm
            have hmid : app (updM l) es D (mem[l]?) = memi[l]? := by
              rw [app_congr (TM_not l) es D (fun k => decide (k < i)) _ hsame, ← hmem l]
            rw [app_insert (TM_not l) es i e D _ hei hDi (fun k' e' hik hk' hT => by rw [hsame k' e' hk' hT, decide_eq_false (by omega)])] at hk
            rw [hmid] at hk
            unfold updM at hk
            rw [if_neg (by rw [hbase]; exact hnew), hf] at hk
            simp only at hk
            obtain ⟨k0, hk0⟩ : ∃ k0, memi[l]? = some k0 := ⟨_, List.getElem?_eq_getElem hlm⟩
            rw [hk0] at hk
            simp only [Option.map_some, Option.some.injEq] at hk
            exact ⟨c, k0, rfl, hk0, hmid.trans hk0, hk.symm⟩
          | none =>
            right
            refine ⟨rfl, ?_⟩
            have hnT : ¬ TM l e := by
              rintro (h | ⟨c, h⟩)
              · rw [hbase] at h; exact hnew h
              · exact wrFind_none _ _ hf c h
            rw [app_congr (TM_not l) es (fun k => D k || Nat.beq k i) D _ fun k' e' hk' hT => ?_] at hk
            · exact hk
            · by_cases hki : k' = i
              · subst hki
                rw [hei] at hk'; injection hk' with hk'; subst hk'
                exact absurd hT hnT
              · have : Nat.beq k' i = false := by cases hb : Nat.beq k' i with | false => rfl | true => exact absurd (Nat.eq_of_beq_eq_true hb) hki
                simp [this]
      -- a name that is written is live
      have wlive : ∀ l c b, (l, c) ∈ e.eff.wrs → g l = some b → ∃ k, app (updM l) es D (mem[l]?) = some k ∧ live k := by
        intro l c b hm hgl
        obtain ⟨k, h1, h2⟩ := hp.wl l c hm
        have hown := okMem_own hM hei l c hm
        have hlm : l < memi.length := by rw [← hbase]; exact hown.2
        have hsame := memsame l hown.1 b hgl hlm
        exact ⟨k, by rw [app_congr (TM_not l) es D (fun k => decide (k < i)) _ hsame, ← hmem l]; exact h1, h2⟩
      have freshN : ∀ l, memi.length ≤ l ∧ l < memi.length + e.eff.news.length → g l = none := by
        intro l hl
        have := hfresh (l - memi.length) (by omega)
        rwa [show memi.length + (l - memi.length) = l by omega] at this
      have wasLive : ∀ l b k, g l = some b → ((∃ c k0, wrFind e.eff.wrs l = some c ∧ memi[l]? = some k0 ∧ app (updM l) es D (mem[l]?) = some k0 ∧ k = (c, k0.2)) ∨ (wrFind e.eff.wrs l = none ∧ app (updM l) es D (mem[l]?) = some k)) → live k →
          ∃ k0, app (updM l) es D (mem[l]?) = some k0 ∧ live k0 := by
        intro l b k hgl hor hlive
        rcases hor with ⟨c, k0, hc, _, h2, rfl⟩ | ⟨_, h2⟩
        · exact wlive l c b (wrFind_mem _ _ _ hc) hgl
        · exact ⟨k, h2, hlive⟩
      have mixed : ∀ l l' b b' k k', g' l = some b → b.b = b'.b → (memi.length ≤ l ∧ l < memi.length + e.eff.news.length) → e.eff.news[l - memi.length]? = some k → g l' = some b' →
          ((∃ c k0, wrFind e.eff.wrs l' = some c ∧ memi[l']? = some k0 ∧ app (updM l') es D (mem[l']?) = some k0 ∧ k' = (c, k0.2)) ∨ (wrFind e.eff.wrs l' = none ∧ app (updM l') es D (mem[l']?) = some k')) → live k' → False := by
        intro l l' b b' k k' hl hbb2 hge _ hgl hor hlive
        have hgn := freshN l hge
        obtain ⟨k0, hk0, hli⟩ := wasLive l' b' k' hgl hor hlive
        rcases hp.nw (l - memi.length) b (by rw [show memi.length + (l - memi.length) = l by omega]; exact hl) (by rw [show memi.length + (l - memi.length) = l by omega]; exact hgn) with hq | ⟨l2, b2, hw2, hg2, hb2⟩
        · have := hi.gw.own l' b' hgl; omega
        · obtain ⟨k2, q1, q2⟩ := wlive l2 [] b2 (wrFind_mem _ _ _ hw2) hg2
          have := hi.inj l' l2 b' b2 k0 k2 hgl hg2 (by omega) hk0 q1 hli q2
          subst this
          rcases hor with ⟨c, _, hc, _, _, rfl⟩ | ⟨hc, _⟩
          · rw [hw2] at hc; injection hc with hc; subst hc; exact hlive.1 rfl
          · rw [hw2] at hc; cases hc
      refine hK g' _ w' ⟨size' _, fun t => slots' g' v t hp.le hv, by rw [Act.put_defers']; exact hi.defers, ?_, ?_, hp.gw, GM.le_trans hi.le hp.le, ?_⟩
      · intro l b k hl hk
        rcases get l b k hl hk with ⟨hnew, hn⟩ | ⟨hgl, ⟨c, k0, hc, hk0, _, rfl⟩ | ⟨hc, hk1⟩⟩
        · exact hp.new (l - memi.length) k hn b (by rw [show memi.length + (l - memi.length) = l by omega]; exact hl)
        · exact hp.wr l c hc b k0 hgl hk0
        · have hb0 := hi.ms l b k hgl hk1
          refine hb0.mono hp.le fun hne => hp.keep b.b (hi.gw.own l b hgl) fun l' c' b' hm e' hbb2 => ?_
          obtain ⟨k', h1, h2⟩ := wlive l' c' b' hm e'
          have hb1 := hi.ms l' b' k' e' h1
          have hl2 : live k := ⟨hne, by
            cases hx : isExt k.2 with
            | false => rfl
            | true => have hy := hb1.1.2 (by rw [hbb2]; exact hb0.1.1 hx); rw [h2.2] at hy; cases hy⟩
          have := hi.inj l l' b b' k k' hgl e' hbb2.symm hk1 h1 hl2 h2
          subst this
          exact wrFind_none _ _ hc c' hm
      · intro l hl
        cases hg : g l with
        | some b =>
          rcases hi.dom l (by rw [hg]; simp) with h | ⟨k, e', h1, h2, h3⟩
          · exact .inl h
          · exact .inr ⟨k, e', h1, by simp [h2], h3⟩
        | none =>
          have := hp.dom l hl hg
          exact .inr ⟨i, e, hei, by simp, by rw [hbase]; exact this⟩
      · intro l l' b b' k k' hl hl' hbb2 hk hk' h1 h2
        rcases get l b k hl hk with ⟨hnew, hn⟩ | ⟨hgl, hor⟩
        · rcases get l' b' k' hl' hk' with ⟨hnew', hn'⟩ | ⟨hgl', hor'⟩
          · have e1 := freshN l hnew
            have e2 := freshN l' hnew'
            have := hp.nn (l - memi.length) (l' - memi.length) b b' (by rw [show memi.length + (l - memi.length) = l by omega]; exact e1) (by rw [show memi.length + (l' - memi.length) = l' by omega]; exact e2)
              (by rw [show memi.length + (l - memi.length) = l by omega]; exact hl) (by rw [show memi.length + (l' - memi.length) = l' by omega]; exact hl') hbb2
            omega
          · exact (mixed l l' b b' k k' hl hbb2 hnew hn hgl' hor' h2).elim
        · rcases get l' b' k' hl' hk' with ⟨hnew', hn'⟩ | ⟨hgl', hor'⟩
          · exact (mixed l' l b' b k' k hl' hbb2.symm hnew' hn' hgl hor h1).elim
          · obtain ⟨k0, q1, q2⟩ := wasLive l b k hgl hor h1
            obtain ⟨k0', q1', q2'⟩ := wasLive l' b' k' hgl' hor' h2
            exact hi.inj l l' b b' k0 k0' hgl hgl' hbb2 q1 q1' q2 q2'

/-- How many have not come up. -/
def left (n : Nat) (D : Nat → Bool) : Nat := ((List.range n).filter fun k => !D k).length

theorem left_lt {n : Nat} {D : Nat → Bool} {i : Nat} (hi : i < n) (hD : D i = false) : left n (fun k => D k || Nat.beq k i) < left n D := by
  unfold left
  have key : ∀ (l : List Nat), i ∈ l → (l.filter fun k => !(D k || Nat.beq k i)).length < (l.filter fun k => !D k).length := by
    intro l
    have mono : ∀ (l : List Nat), (l.filter fun k => !(D k || Nat.beq k i)).length ≤ (l.filter fun k => !D k).length := by
      intro l
      induction l with
      | nil => simp
      | cons x l ih =>
        simp only [List.filter_cons]
        cases D x <;> cases Nat.beq x i <;> simp only [Bool.or_true, Bool.or_false, Bool.not_true, Bool.not_false, if_true, Bool.false_eq_true, if_false, List.length_cons] <;> omega
    induction l with
    | nil => intro h; cases h
    | cons x l ih =>
      intro h
      rcases List.mem_cons.1 h with e | e
      · subst e
        have := mono l
        simp only [List.filter_cons, hD, Nat.beq_refl, Bool.or_true, Bool.not_true, Bool.false_eq_true, if_false, Bool.not_false, if_true, List.length_cons]
        omega
      · have := ih e
        simp only [List.filter_cons]
        cases D x <;> cases Nat.beq x i <;> simp only [Bool.or_true, Bool.or_false, Bool.not_true, Bool.not_false, if_true, Bool.false_eq_true, if_false, List.length_cons] <;> omega
  exact key _ (List.mem_range.2 hi)

theorem all_up {all : List Oper} (hS : okSlots all = true) {listed : Array Bool} (hsz : listed.size = all.length)
    (hr : Region.ready .any all.toArray listed = []) : ∀ j, j < all.length → listed.getD j false = true := by
  intro j
  induction j using Nat.strongRecOn with
  | _ j ih =>
    intro hj
    cases hl : listed.getD j false with
    | true => rfl
    | false =>
      exfalso
      have hmem : j ∈ Region.ready .any all.toArray listed := by
        unfold Region.ready
        rw [List.mem_filter]
        refine ⟨List.mem_range.2 (by simpa using hj), ?_⟩
        have h1 : listed.getD j true = false := by
          have hjl : j < listed.size := by omega
          simp [Array.getD_eq_getD_getElem?, hjl] at hl ⊢
          exact hl
        simp only [h1, Bool.not_false, Bool.true_and]
        simp only [List.getElem?_toArray, List.getElem?_eq_getElem hj, Option.map_some, Option.getD_some]
        rw [Array.all_eq_true']
        intro e he
        cases hb : Region.binds .any e with
        | false => rfl
        | true =>
          have hlt := okSlots_edge hS (List.getElem?_eq_getElem hj) e he hb
          simp only [Bool.not_true, Bool.false_or]
          exact ih e.on hlt (by omega)
      rw [hr] at hmem; cases hmem

theorem Tr.width {P : Program} {S : Nat → Prop} {w0 : World} {all os : List Oper} {ts ts' : List AV} {mem mem' : List Blk} {es : List Ent} (h : Tr P S w0 all os ts mem es ts' mem') : ts'.length = ts.length := by
  induction h with
  | nil => rfl
  | skip _ _ _ _ _ _ _ _ _ ih => rw [ih, putO_length]
  | exec _ _ _ _ _ _ _ _ _ _ _ _ _ ih => rw [ih, putO_length]

theorem draw_ok {P : Program} {S : Nat → Prop} {w0 : World} {all : List Oper} {ts ts' : List AV} {mem mem' : List Blk} {es : List Ent} (htr : Tr P S w0 all all ts mem es ts' mem')
    (hS : okSlots all = true) (hM : okMem all (es.map fpOf) = true) {g0 : GM} {Q : Exit → Act → World → Prop}
    (hQ : ∀ g' a' w', GM.le g0 g' → R S w0 g' ts' mem' a' w' → Q .normal a' w') : ∀ (fuel : Nat) (listed : Array Bool) (g : GM) (a : Act) (w : World), listed.size = all.length →
      (∀ j o, all[j]? = some o → listed.getD j false = true → ∀ e ∈ o.after, Region.binds .any e = true → listed.getD e.on false = true) →
      left all.length (fun k => listed.getD k false) ≤ fuel → Inv S w0 es g0 ts mem (fun k => listed.getD k false) g a w → wpAny P .any all.toArray Q fuel listed a w := by
  obtain ⟨hb0, hbb, hts, hmem, hat⟩ := htr.at_ fun e he l c hm => by
    obtain ⟨j, hj, hje⟩ := List.getElem_of_mem he
    exact (okMem_own hM (List.getElem?_eq_some_iff.2 ⟨hj, hje⟩) l c hm).2
  have hlen := htr.length
  have fin : ∀ (listed : Array Bool) (g : GM) (a : Act) (w : World), (∀ j, j < all.length → listed.getD j false = true) → Inv S w0 es g0 ts mem (fun k => listed.getD k false) g a w → Q .normal a w := by
    intro listed g a w hall hi
    have hsame : ∀ k e', es[k]? = some e' → listed.getD k false = true := fun k e' hk => hall k (by rw [← hlen]; exact (List.getElem?_eq_some_iff.1 hk).1)
    have htl : ts'.length = ts.length := htr.width
    refine hQ g a w hi.le ⟨⟨by rw [htl]; exact hi.size, fun t => ?_⟩, hi.defers, fun l b k hl hk => ?_, hi.gw, fun l hl => ?_, fun l l' b b' k k' h1 h2 hbb2 h3 h4 => ?_⟩
    · rw [hts t, ← app_congr (TS_not ts.length t) es (fun k => listed.getD k false) (fun _ => true) _ fun k e' hk _ => hsame k e' hk]
      exact hi.slots t
    · refine hi.ms l b k hl ?_
      rw [app_congr (TM_not l) es (fun k => listed.getD k false) (fun _ => true) _ fun k e' hk _ => hsame k e' hk, ← hmem l]
      exact hk
    · rcases Nat.lt_or_ge l mem'.length with h | h
      · exact h
      · exfalso
        have hn : mem'[l]? = none := List.getElem?_eq_none h
        rw [hmem l] at hn
        have key : ∀ (es : List Ent) (x : Option Blk), app (updM l) es (fun _ => true) x = none → x = none ∧ ∀ e ∈ es, ¬ (e.base ≤ l ∧ l < e.base + e.eff.news.length) := by
          intro es
          induction es with
          | nil => intro x h; exact ⟨h, by simp⟩
          | cons e es ih =>
            intro x h
            simp only [app] at h
            obtain ⟨h1, h2⟩ := ih _ h
            unfold updM at h1
            split at h1
            · rename_i hr
              have : l - e.base < e.eff.news.length := by omega
              rw [List.getElem?_eq_getElem this] at h1; cases h1
            · rename_i hr
              refine ⟨?_, fun e' he' => ?_⟩
              · split at h1
                · cases x <;> simp at h1 ⊢
                · exact h1
              · rcases List.mem_cons.1 he' with rfl | he'
                · exact hr
                · exact h2 e' he'
        obtain ⟨h1, h2⟩ := key es _ hn
        rcases hi.dom l hl with h3 | ⟨i, e, h3, _, h4⟩
        · rw [List.getElem?_eq_getElem h3] at h1; cases h1
        · exact h2 e (List.mem_of_getElem? h3) h4
    · refine hi.inj l l' b b' k k' h1 h2 hbb2 ?_ ?_
      · rw [app_congr (TM_not l) es (fun k => listed.getD k false) (fun _ => true) _ fun k e' hk _ => hsame k e' hk, ← hmem l]
        exact h3
      · rw [app_congr (TM_not l') es (fun k => listed.getD k false) (fun _ => true) _ fun k e' hk _ => hsame k e' hk, ← hmem l']
        exact h4
  intro fuel
  induction fuel with
  | zero =>
    intro listed g a w hsz hcl hleft hi
    have hall : ∀ j, j < all.length → listed.getD j false = true := by
      intro j hj
      cases hl : listed.getD j false with
      | true => rfl
      | false =>
        have := left_lt (n := all.length) (D := fun k => listed.getD k false) hj hl
        omega
    refine ⟨?_, fin listed g a w hall hi⟩
    cases hr : Region.ready .any all.toArray listed with
    | nil => rfl
    | cons x xs =>
      have hx : x ∈ Region.ready .any all.toArray listed := by rw [hr]; exact List.mem_cons_self ..
      unfold Region.ready at hx
      rw [List.mem_filter] at hx
      have hlt : x < all.length := by simpa using hx.1
      have h1 := hall x hlt
      have h2 := hx.2
      have hjl : x < listed.size := by omega
      simp [Array.getD_eq_getD_getElem?, hjl] at h1 h2
      rw [h1] at h2; simp at h2
  | succ fuel ih =>
    intro listed g a w hsz hcl hleft hi
    refine ⟨fun hr => fin listed g a w (all_up hS hsz hr) hi, fun i hir => ?_⟩
    unfold Region.ready at hir
    rw [List.mem_filter] at hir
    obtain ⟨h1, h2⟩ := hir
    have hlt : i < all.length := by simpa using h1
    have hjl : i < listed.size := by omega
    have ho : all[i]? = some all[i] := List.getElem?_eq_getElem hlt
    simp only [List.getElem?_toArray, ho, Option.map_some, Option.getD_some, Bool.and_eq_true, Bool.not_eq_true'] at h2
    have hDi : listed.getD i false = false := by
      have := h2.1
      simp [Array.getD_eq_getD_getElem?, hjl] at this ⊢
      exact this
    have hready : ∀ e ∈ all[i].after, Region.binds .any e = true → listed.getD e.on false = true := fun e he hb => by
      have := (Array.all_eq_true'.1 h2.2) e he
      simpa [hb] using this
    have hset : ∀ k, (listed.setIfInBounds i true).getD k false = (listed.getD k false || Nat.beq k i) := fun k => by
      simp only [Array.getD_eq_getD_getElem?, Array.getElem?_setIfInBounds]
      by_cases hki : i = k
      · subst hki; simp [hjl]
      · have : Nat.beq k i = false := by cases hb : Nat.beq k i with | false => rfl | true => exact absurd (Nat.eq_of_beq_eq_true hb).symm hki
        simp [hki, this]
    refine inv_step htr hS hM hcl hi ho hDi hready fun g' a' w' hi' => ?_
    refine ih (listed.setIfInBounds i true) g' a' w' (by simpa using hsz) ?_ ?_ ?_
    · intro j o hj hl e he hb
      rw [hset] at hl ⊢
      by_cases hji : j = i
      · subst hji
        rw [ho] at hj; injection hj with hj; subst hj
        rw [hready e he hb]; rfl
      · have : Nat.beq j i = false := by cases hb : Nat.beq j i with | false => rfl | true => exact absurd (Nat.eq_of_beq_eq_true hb) hji
        rw [this, Bool.or_false] at hl
        rw [hcl j o hj hl e he hb]; rfl
    · have := left_lt (n := all.length) (D := fun k => listed.getD k false) hlt hDi
      have h3 : left all.length (fun k => (listed.setIfInBounds i true).getD k false) = left all.length (fun k => listed.getD k false || Nat.beq k i) := by
        unfold left; congr 1; apply List.filter_congr; intro k _; exact congrArg (!·) (hset k)
      omega
    · have h3 : (fun k => (listed.setIfInBounds i true).getD k false) = fun k => (listed.getD k false || Nat.beq k i) := funext hset
      rw [h3]; exact hi'

theorem region_draw {P : Program} {S : Nat → Prop} {w0 : World} {id : Nat} {all : List Oper} {ts ts' : List AV} {mem mem' : List Blk} {es : List Ent} (hP : P.follows .mixedOrders = true) (htr : Tr P S w0 all all ts mem es ts' mem')
    (hS : okSlots all = true) (hM : okMem all (es.map fpOf) = true) {g : GM} {a : Act} {w : World} (hr : R S w0 g ts mem a w) {Q : Exit → Act → World → Prop}
    (hQ : ∀ g' a' w', GM.le g g' → R S w0 g' ts' mem' a' w' → Q .normal a' w') : (Code.region id all.toArray true).wp P Q a w := by
  refine wp_region_any hP (draw_ok htr hS hM hQ _ _ g a _ (by simp) ?_ ?_ ?_)
  · intro j o hj hl
    rw [getD_rep] at hl; cases hl
  · have : ∀ D, left all.length D ≤ all.toArray.size := fun D => by
      unfold left
      have := List.length_filter_le (fun k => !D k) (List.range all.length)
      simpa using this
    exact this _
  · have hD : (fun k => (Array.replicate all.toArray.size false).getD k false) = fun _ => false := funext fun k => getD_rep _ k
    rw [hD]
    refine ⟨hr.ts.1, fun t => ?_, hr.defers, fun l b k hl hk => ?_, fun l hl => .inl (hr.dom l hl), ?_, GM.le_refl g, fun l l' b b' k k' h1 h2 hbb2 h3 h4 => ?_⟩
    · rw [app_none _ _ _ fun _ => rfl]; exact hr.ts.2 t
    · rw [app_none _ _ _ fun _ => rfl] at hk; exact hr.ms l b k hl hk
    · exact ⟨hr.gw.own, ⟨hr.gw.fr.os, hr.gw.fr.tape, hr.gw.fr.output, hr.gw.fr.size, hr.gw.fr.block⟩⟩
    · rw [app_none _ _ _ fun _ => rfl] at h3 h4; exact hr.inj l l' b b' k k' h1 h2 hbb2 h3 h4
where
  getD_rep (m j : Nat) : (Array.replicate m false).getD j false = false := by
    rcases Nat.lt_or_ge j m with h | h
    · simp [h]
    · simp [h]

theorem region_seq {P : Program} {S : Nat → Prop} {w0 : World} {id : Nat} {all : List Oper} {ts ts' : List AV} {mem mem' : List Blk} {es : List Ent} (htr : Tr P S w0 all all ts mem es ts' mem')
    {g : GM} {a : Act} {w : World} (hr : R S w0 g ts mem a w) {Q : Exit → Act → World → Prop}
    (hQ : ∀ g' a' w', GM.le g g' → R S w0 g' ts' mem' a' w' → Q .normal a' w') : (Code.region id all.toArray false).wp P Q a w :=
  wp_region_lit (seq_ok htr g a w hr hQ)

end Go.Ev
