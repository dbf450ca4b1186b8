/- Appending to slices, copying, making slices: what each leaves, as the evaluator has it. No condition. -/
import Derived.Test.YtacjiajijigebaaEvK
import Derived.Laws.MakeOwn
namespace Go.Ev
open Go
variable {P : Program} {S : Nat → Prop} {w0 : World} {ts : List AV} {mem : List Blk}

/-- What is appended or copied: m elements of sz cells, of whose cells h tells. -/
structure Src (P : Program) (g : GM) (w : World) (v : Value) (sz m : Nat) (h : Nat → CV) (news : List Value) : Prop where
  len : ∀ w', (Builtin.lenOf v).run P w' = .ok m w'
  get : ∀ (n : Nat) (w' : World), n ≤ m → w'.heap = w.heap → (Builtin.firstCells sz n v).run P w' = .ok (news.take (n * sz)).toArray w'
  size : news.length = m * sz
  rel : ∀ j u, news[j]? = some u → u.oneCell' = true ∧ (h j).rel g u

theorem Src.all {g : GM} {w : World} {v : Value} {sz m : Nat} {h : Nat → CV} {news : List Value} (s : Src P g w v sz m h news) (w' : World) (hw : w'.heap = w.heap) : (Builtin.firstCells sz m v).run P w' = .ok news.toArray w' := by
  rw [s.get m w' (Nat.le_refl _) hw, ← s.size, List.take_length]

theorem cell_heap {w w' : World} (h : w'.heap = w.heap) (a : Addr) : w'.cell? a = w.cell? a := by unfold World.cell?; rw [h]

theorem src_cells {g : GM} {w : World} {ad : Addr} {sz m c : Nat} {h : Nat → CV} {news : List Value} (hl : news.length = m * sz) (hc : ∀ j u, news[j]? = some u → w.cell? (ad.add j) = some u)
    (hr : ∀ j u, news[j]? = some u → u.oneCell' = true ∧ (h j).rel g u) : Src P g w (.slice (some ad) m c) sz m h news :=
  ⟨fun w' => rfl, fun n w' hn hw => run_firstCells_some (P := P) w' sz n ad m c (news.take (n * sz)) (by rw [List.length_take, hl]; exact Nat.min_eq_left (Nat.mul_le_mul_right _ hn))
    (fun j u hj => by
      rw [List.getElem?_take] at hj
      split at hj
      · rw [cell_heap hw]; exact hc j u hj
      · cases hj), hl, hr⟩

theorem src_nil {g : GM} {w : World} {ad : Option Addr} {sz c : Nat} {h : Nat → CV} : Src P g w (.slice ad 0 c) sz 0 h [] := by
  refine ⟨fun w' => rfl, fun n w' hn _ => ?_, by simp, fun j u hj => by simp at hj⟩
  obtain rfl : n = 0 := by omega
  cases ad with
  | none => simp [Builtin.firstCells]
  | some ad =>
    rw [List.take_nil]
    exact run_firstCells_some (P := P) w' sz 0 ad 0 c [] (by simp) (fun j u hj => by simp at hj)

theorem src_string {g : GM} {w : World} (s : ByteArray) {h : Nat → CV} (hh : ∀ j (hj : j < s.size), h j = .int .u8 (Int.ofNat (s[j]'hj).toNat)) :
    Src P g w (.string s) 1 s.size h (s.data.toList.map fun b => .int .u8 b.toNat) := by
  refine ⟨fun w' => rfl, fun n w' hn _ => ?_, by simp, fun j u hj => ?_⟩
  · simp only [Builtin.firstCells, Sem.run_pure]
    congr 1
    apply Array.toList_inj.1
    simp [Nat.mul_one]
  · rw [List.getElem?_map, Option.map_eq_some_iff] at hj
    obtain ⟨b, hb, rfl⟩ := hj
    obtain ⟨hlt, hb⟩ := List.getElem?_eq_some_iff.1 hb
    refine ⟨rfl, ?_⟩
    have hlt' : j < s.size := by simpa using hlt
    rw [hh j hlt']
    have e : s[j]'hlt' = b := by rw [← hb]; rfl
    refine ⟨by rw [e]; rfl, ?_⟩
    have : (s[j]'hlt').toNat < 256 := UInt8.toNat_lt _
    show IntKind.min .u8 ≤ _ ∧ _ ≤ IntKind.max .u8
    rw [show IntKind.min .u8 = 0 from rfl, show IntKind.max .u8 = 255 from rfl]
    simp only [Int.ofNat_eq_natCast]
    omega

/-- A slice of a row of cells as a source. -/
theorem src_own {g : GM} {w : World} {l off i m c : Nat} {v : Value} (hv : (CV.sl l off i m c).rel g v) {k : Blk} (hb : ∀ b, g l = some b → BlkRel S w0 g w b k) {n : Nat} {f : Nat → CV} {r : List Ch} (hr : dropCh k.1 off = some (.vec n f :: r))
    {sz : Nat} (hm : i + m * sz ≤ n) : ∃ news, Src P g w v sz m (fun j => f (i + j)) news := by
  rcases hv with ⟨rfl, rfl, ad, rfl⟩ | ⟨_, cap, _, _, b, hgb, _, rfl⟩
  · exact ⟨[], src_nil⟩
  · obtain ⟨pre, e1, e2⟩ := dropCh_ok _ _ _ hr
    obtain ⟨cs, ty, fz, us0, rest, h2, _, h2a, h3, _⟩ := (hb b hgb).2.resolve_left (by rw [e1]; simp)
    rw [e1] at h3
    obtain ⟨us, ws, e5, q1, us', ws', rfl, q3, q4⟩ := (chsRel_append _ _ _).1 h3
    have l1 := chsRel_size _ _ q1
    refine ⟨(us'.drop i).take (m * sz), src_cells (by rw [List.length_take, List.length_drop, q3.1]; omega) (fun j u hj => ?_) (fun j u hj => ?_)⟩
    · rw [List.getElem?_take] at hj
      split at hj
      · rw [List.getElem?_drop] at hj
        have hlt := (List.getElem?_eq_some_iff.1 hj).1
        rw [add_addr, cell_blk h2, ← Array.getElem?_toList, h2a, e5, List.append_assoc, List.append_assoc, List.getElem?_append_right (by omega), List.getElem?_append_left (by omega), ← hj]
        congr 1; omega
      · cases hj
    · rw [List.getElem?_take] at hj
      split at hj
      · rw [List.getElem?_drop] at hj
        exact q3.2 _ _ hj
      · cases hj

/-- One content behind another one. -/
def catF (n : Nat) (f h : Nat → CV) : Nat → CV := fun j => match Nat.blt j n with
  | true => f j
  | false => h (j - n)

theorem run_append_grow' {t u ty e : TypeId} {i : TypeInfo} {z : Value} (ht : P.underlying t = some (.slice e)) {d : TypeDesc} (hu : P.underlying u = some d) (hd : ∀ k, d ≠ .int k) (hi : P.info? e = some i) (hz : i.zero = some z)
    (w : World) {ad : Option Addr} {n cap m : Nat} {v : Value} {news olds : List Value} (hlen : ∀ w', (Builtin.lenOf v).run P w' = .ok m w') (hnew : ∀ w' : World, w'.heap = w.heap → (Builtin.firstCells i.size m v).run P w' = .ok news.toArray w')
    (hold : ∀ w' : World, w'.heap = w.heap → (Builtin.firstCells i.size n (.slice ad n cap)).run P w' = .ok olds.toArray w')
    (hg : cap < n + m) (h63 : ((n + m : Nat) : Int) ≤ 9223372036854775807) (hfit : Builtin.nextslicecap (n + m) cap * i.bytes ≤ 281474976710656) :
    (Builtin.append_ #[t, u] ty #[.slice ad n cap, v]).run P w = .ok (.slice (some ⟨w.heap.size, 0, none⟩) (n + m) (grownCap w (n + m) cap e))
        (moreW w (.cells (olds.toArray ++ news.toArray ++ Builtin.zeroCells z.cells (grownCap w (n + m) cap e - (n + m))) e (0, 0)) 1) := by
  have hn : ¬ (n + m ≤ cap) := by omega
  have h63' : ¬ (9223372036854775807 < ((n : Int) + (m : Int))) := by omega
  have h48' : ¬ (281474976710656 < Builtin.nextslicecap (n + m) cap * i.bytes) := by omega
  have hf := hnew w.drew rfl
  have hfo := hold w.drew rfl
  have hz' : (match d with | .int _ => true | _ => false) = false := by
    cases d <;> first | rfl | exact absurd rfl (hd _)
  simp [Builtin.append_, run_underlying ht, run_underlying hu, sizeOf, typeInfo, zeroValue, hi, hz, hlen, hn, h63', h48', Question.forced, hf, hfo, newRow, grownCap]
  have hdm : ∀ o, w.drew.alloc o = moreW w o 1 := fun _ => rfl
  rw [hdm]
  congr 2
  apply Array.ext'
  simp

theorem put_same {w : World} {b : Nat} {cs : Array Value} {ty : TypeId} {fz : Nat × Nat} (h : w.heap[b]? = some (.cells cs ty fz)) : putB w b (.cells cs ty fz) = w := by
  unfold putB
  have : w.heap.setIfInBounds b (.cells cs ty fz) = w.heap := by
    apply Array.ext (by simp)
    intro j h1 h2
    rw [Array.getElem_setIfInBounds]
    split
    · rename_i hj
      subst hj
      exact (Array.getElem?_eq_some_iff.1 h).2.symm
    · rfl
  rw [this]
theorem run_store_all {w : World} {b off : Nat} {cs : Array Value} {ty : TypeId} {fz : Nat × Nat} {vs : List Value} (hb : w.heap[b]? = some (.cells cs ty fz)) (hl : off + vs.length ≤ cs.size) (h1 : ∀ y ∈ vs, y.oneCell' = true)
    (hz : ∀ o, o < cs.size → ¬ (fz.1 ≤ o ∧ o < fz.2)) : (storeCells ⟨b, off, none⟩ vs 0).run P w = .ok () (putB w b (.cells (setL cs off vs) ty fz)) := by
  have h := run_storeCells' (P := P) vs w cs off 0 hb (by omega) h1 hz
  rw [h]
  cases vs with
  | nil => rw [show setL cs off [] = cs from rfl, put_same hb]
  | cons v vs => rw [Nat.add_zero]

theorem run_append_room' {t u ty e : TypeId} {i : TypeInfo} (ht : P.underlying t = some (.slice e)) {d : TypeDesc} (hu : P.underlying u = some d) (hd : ∀ k, d ≠ .int k) (hi : P.info? e = some i)
    (w W : World) {b n cap m : Nat} {v : Value} {news : List Value} (hlen : ∀ w', (Builtin.lenOf v).run P w' = .ok m w') (hnew : (Builtin.firstCells i.size m v).run P w = .ok news.toArray w)
    (hroom : n + m ≤ cap) (hst : (storeCells ⟨b, n * i.size, none⟩ news 0).run P w = .ok () W) :
    (Builtin.append_ #[t, u] ty #[.slice (some ⟨b, 0, none⟩) n cap, v]).run P w = .ok (.slice (some ⟨b, 0, none⟩) (n + m) cap) W := by
  simp [Builtin.append_, run_underlying ht, run_underlying hu, sizeOf, typeInfo, hi, hlen, hroom, hnew, add_addr, hst]

theorem run_append_nothing {t u ty e : TypeId} {i : TypeInfo} (ht : P.underlying t = some (.slice e)) {d : TypeDesc} (hu : P.underlying u = some d) (hd : ∀ k, d ≠ .int k) (hi : P.info? e = some i)
    (w : World) {ad : Option Addr} {n cap : Nat} {v : Value} (hlen : ∀ w', (Builtin.lenOf v).run P w' = .ok 0 w') (hnew : (Builtin.firstCells i.size 0 v).run P w = .ok #[] w) (hroom : n ≤ cap) :
    (Builtin.append_ #[t, u] ty #[.slice ad n cap, v]).run P w = .ok (.slice ad n cap) w := by
  have hz' : (match d with | .int _ => true | _ => false) = false := by
    cases d <;> first | rfl | exact absurd rfl (hd _)
  cases ad <;> simp [Builtin.append_, run_underlying ht, run_underlying hu, sizeOf, typeInfo, hi, hlen, hroom, hnew, storeCells]

theorem info_all {e : TypeId} {z : Value} {sz by' : Nat} (h : (P.info? e).map (fun i => (i.zero, i.size, i.bytes)) = some (some z, sz, by')) : ∃ i, P.info? e = some i ∧ i.zero = some z ∧ i.size = sz ∧ i.bytes = by' := by
  cases hi : P.info? e with
  | none => rw [hi] at h; cases h
  | some i =>
    rw [hi] at h
    simp only [Option.map_some, Option.some.injEq, Prod.mk.injEq] at h
    exact ⟨i, rfl, h.1, h.2.1, h.2.2⟩

/-- The new block of an append holds what was there and what was appended. -/
theorem cat_rel {g : GM} {n m : Nat} {f h : Nat → CV} {olds news : List Value} (h1 : olds.length = n) (h2 : news.length = m) (r1 : ∀ j u, olds[j]? = some u → u.oneCell' = true ∧ (f j).rel g u) (r2 : ∀ j u, news[j]? = some u → u.oneCell' = true ∧ (h j).rel g u) :
    chsRel g [.vec (n + m) (catF n f h)] (olds ++ news) := by
  refine ⟨olds ++ news, [], by simp, ⟨by simp [h1, h2], fun j u hj => ?_⟩, rfl⟩
  unfold catF
  by_cases hlt : j < n
  · rw [List.getElem?_append_left (by omega)] at hj
    rw [show Nat.blt j n = true by rw [Nat.blt_eq]; exact hlt]
    exact r1 j u hj
  · rw [List.getElem?_append_right (by omega), h1] at hj
    have : Nat.blt j n = false := by rw [Bool.eq_false_iff]; intro hh; rw [Nat.blt_eq] at hh; exact hlt hh
    rw [this]
    exact r2 _ u hj

theorem grownCap_has (w : World) (need old : Nat) (e : TypeId) (h : need ≤ 9223372036854775807) : need ≤ grownCap w need old e ∧ grownCap w need old e ≤ 9223372036854775807 := by
  have h1 := grownCap_le_maxLen w need old e (by unfold maxLen; omega)
  unfold maxLen at h1
  exact ⟨grownCap_ge w need old e, by omega⟩

theorem zeroCells_size (z : Array Value) (n : Nat) : (Builtin.zeroCells z n).size = n * z.size := size_zeroCells z n

section
variable {o : Oper} {c : Call} {x y : Operand} {t u e : TypeId} {z : Value} {sz by' : Nat} {d : TypeDesc}

/-- An append where there is no telling whether the block has room: the old name is given up. -/
theorem exec_append (ho : o.op = .call c) (hc : c.callee = .builtin .append) (hargs : c.args = #[x, y]) (htys : c.argTypes = #[t, u])
    (ht : P.underlying t = some (.slice e)) (hu : P.underlying u = some d) (hd : ∀ k, d ≠ .int k) (hi : (P.info? e).map (fun i => (i.zero, i.size, i.bytes)) = some (some z, sz, by')) (hzs : z.cells.size = sz)
    {mk l n cc m : Nat} {f h : Nat → CV} {rd : List Nat} (hx0 : opv ts x = .b (.cv (.sl l 0 0 n cc))) {s : Nat} {rs : List Ch} (hk : mem[l]? = some (.vec s f :: rs, mk)) (hmk : isExt mk = false) (hez : emk mk = sz) (hrd : l ∈ rd)
    (hn : n * sz ≤ s) (hmx : (n + m) * by' ≤ 140737488355328) (hm63 : n + m ≤ 9223372036854775807) (hsz : 0 < sz)
    (hsrc : ∀ (g : GM) (a : Act) (w : World), (∀ z ∈ o.op.operands, (opv ts z).rel g (a.eval z)) → (∀ l ∈ rd, ∀ b k, g l = some b → mem[l]? = some k → BlkRel S w0 g w b k) → GW g S w0 w → ∃ news, Src P g w (a.eval y) sz m h news) :
    Exec P S w0 o ts mem rd (.b (.cv (.sl mem.length 0 0 (n + m) (n + m)))) ⟨[([.vec ((n + m) * sz) (catF (n * sz) f h)], mk)], [(l, [])]⟩ := by
  intro g a w hx hr hg hf _ next Q hnx
  obtain ⟨i, hi1, hi2, hi3, hi4⟩ := info_all hi
  subst hi3
  have hf0 : g mem.length = none := hf 0 (by simp)
  have hlm := (List.getElem?_eq_some_iff.1 hk).1
  obtain ⟨news, hs⟩ := hsrc g a w hx hr hg
  have hone : ∀ u ∈ news, u.oneCell' = true := fun u hu => by
    obtain ⟨j, hj⟩ := List.getElem?_of_mem hu
    exact (hs.rel j u hj).1
  have hx1 := hx x (by simp [ho, Op.operands, Call.operands, hargs])
  rw [hx0] at hx1
  have hadd : (n + m) * i.size = n * i.size + m * i.size := Nat.add_mul _ _ _
  have hrun : ∀ v w', (Builtin.append_ #[t, u] o.type #[a.eval x, a.eval y]).run P w = .ok v w' → (execOp a.eval o).run P w = .ok (.value v) w' := fun v w' hr => by
    simp [execOp, ho, resolve, hc, hargs, htys, invoke, builtin, hr]
  have hlive : live (.vec s f :: rs, mk) := ⟨by simp, hmk⟩
  -- a new block
  have grown : ∀ (ad : Option Addr) (cap : Nat) (olds : List Value), a.eval x = .slice ad n cap → cap < n + m → olds.length = n * i.size → (∀ w' : World, w'.heap = w.heap → (Builtin.firstCells i.size n (.slice ad n cap)).run P w' = .ok olds.toArray w') →
      (∀ j u, olds[j]? = some u → u.oneCell' = true ∧ (f j).rel g u) → o.wp P a w next Q := by
    intro ad cap olds hxv hcap hol hold hrel
    have hcapb := growslice_fits (bytes := i.bytes) hcap (by rw [hi4]; exact hmx)
    have hr2 := run_append_grow' (ty := o.type) ht hu hd hi1 hi2 w hs.len (fun w' hw => hs.all w' hw) hold hcap (by omega) hcapb
    have hgc := grownCap_has w (n + m) cap e (by omega)
    unfold Oper.wp
    rw [hrun _ _ (by rw [hxv]; exact hr2)]
    generalize hG : grownCap w (n + m) cap e = G at *
    have hcsz : (olds.toArray ++ news.toArray ++ Builtin.zeroCells z.cells (G - (n + m))).size = G * i.size := by
      simp only [Array.size_append, List.size_toArray, zeroCells_size, hol, hs.size, hzs]
      have : (n + m) * i.size + (G - (n + m)) * i.size = G * i.size := by rw [← Nat.add_mul]; congr 1; omega
      omega
    have hle : GM.le g (g.ext mem.length ⟨w.heap.size, G * i.size, i.size⟩) := GM.ext_le hf0
    refine hnx _ _ (g.ext mem.length ⟨w.heap.size, G * i.size, i.size⟩) (.inr ⟨Nat.le_refl _, G, hgc.1, hgc.2, _, GM.ext_same _ _ _, by simp, rfl⟩) ⟨hle, hg.more hf0 _ _, fun l' hl hl' => ?_, ?_, fun b hb _ => push_get w _ b hb, fun j k hj b hb => ?_, fun l' c' hw b k hb hk' => ?_, fun l' c' hm' => ?_, fun j b hb hn' => ?_, fun j j' b b' h1 h2 h3 h4 hbb => ?_⟩
    · unfold GM.ext at hl
      by_cases e' : l' = mem.length
      · subst e'; simp
      · rw [if_neg e'] at hl; exact absurd hl' hl
    · show w.heap.size ≤ (w.heap.push _).size
      simp
    · cases j with
      | succ j => simp at hj
      | zero =>
        simp only [List.getElem?_cons_zero, Option.some.injEq] at hj
        subst hj
        rw [Nat.add_zero, GM.ext_same] at hb
        injection hb with hb
        subst hb
        refine ⟨⟨fun h => (by rw [hmk] at h; cases h), fun h => absurd (.inr hg.fr.size) h⟩, .inr ⟨_, e, (0, 0), olds ++ news, (Builtin.zeroCells z.cells (G - (n + m))).toList, by show (w.heap.push _)[w.heap.size]? = _; rw [Array.getElem?_push_size], ⟨hcsz, hez.symm⟩, by simp, ?_, fun _ off _ => by simp⟩⟩
        rw [hadd]
        exact chsRel_mono hle _ _ (cat_rel hol hs.size hrel hs.rel)
    · simp only [wrFind] at hw
      split at hw
      · rename_i he
        have he := Nat.eq_of_beq_eq_true he; subst he
        injection hw with hw; subst hw
        exact BlkRel.dead (hr l hrd b k hb hk')
      · cases hw
    · simp only [List.mem_cons, List.not_mem_nil, or_false, Prod.mk.injEq] at hm'
      obtain ⟨rfl, rfl⟩ := hm'
      exact ⟨_, hk, hlive⟩
    · unfold GM.ext at hb
      by_cases e' : mem.length + j = mem.length
      · rw [if_pos e'] at hb; injection hb with hb; subst hb; exact .inl (Nat.le_refl _)
      · rw [if_neg e', hn'] at hb; cases hb
    · unfold GM.ext at h3 h4
      by_cases e' : mem.length + j = mem.length
      · by_cases e2 : mem.length + j' = mem.length
        · omega
        · rw [if_neg e2, h2] at h4; cases h4
      · rw [if_neg e', h1] at h3; cases h3
  have empty : (n + m = 0) → ∀ ad, a.eval x = .slice ad 0 0 → o.wp P a w next Q := by
    intro h0 ad hxv
    obtain ⟨rfl, rfl⟩ : n = 0 ∧ m = 0 := by omega
    have hz := hs.all w rfl
    have hnl : news = [] := List.eq_nil_of_length_eq_zero (by rw [hs.size]; simp)
    subst hnl
    have hr2 := run_append_nothing (ty := o.type) (ad := ad) (cap := 0) (n := 0) ht hu hd hi1 w hs.len (by simpa using hz) (Nat.le_refl _)
    unfold Oper.wp
    rw [hrun _ _ (by rw [hxv]; exact hr2)]
    refine hnx _ _ g (.inl ⟨rfl, rfl, ad, rfl⟩) ⟨GM.le_refl g, hg, fun l' hl hl' => absurd hl' hl, Nat.le_refl _, fun b hb _ => rfl, fun j k hj b hb => ?_, fun l' c' hw b k hb hk' => ?_, fun l' c' hm' => ?_, fun j b hb hn' => (by rw [hn'] at hb; cases hb), fun j j' b b' h1 h2 h3 h4 hbb => (by rw [h1] at h3; cases h3)⟩
    · cases j with
      | succ j => simp at hj
      | zero => rw [Nat.add_zero, hf0] at hb; cases hb
    · simp only [wrFind] at hw
      split at hw
      · rename_i he
        have he := Nat.eq_of_beq_eq_true he; subst he
        injection hw with hw; subst hw
        exact BlkRel.dead (hr l hrd b k hb hk')
      · cases hw
    · simp only [List.mem_cons, List.not_mem_nil, or_false, Prod.mk.injEq] at hm'
      obtain ⟨rfl, rfl⟩ := hm'
      exact ⟨_, hk, hlive⟩
  rcases hx1 with ⟨hn0, _, ad, hxv⟩ | ⟨hn1, cap, hc1, hc2, b, hgb, hrm, hxv⟩
  · by_cases h0 : n + m = 0
    · exact empty h0 ad (by rw [hxv])
    · subst hn0
      refine grown ad 0 [] (by rw [hxv]) (by omega) (by simp) (fun w' _ => ?_) (fun j u hj => by simp at hj)
      have := (src_nil (P := P) (g := g) (w := w') (ad := ad) (sz := i.size) (c := 0) (h := h)).get 0 w' (Nat.le_refl _) rfl
      simpa using this
  · have hbr := hr l hrd b _ hgb hk
    obtain ⟨cs, ty, fz, us, rest, p1, ⟨p2, p2'⟩, p3, p4, p5⟩ := hbr.2.resolve_left (by simp)
    have p5 := p5 hmk
    obtain ⟨us1, us2, rfl, q1, q2⟩ := p4
    have hbe : b.e = i.size := by rw [p2']; exact hez
    have hxv : a.eval x = .slice (some ⟨b.b, 0, none⟩) n cap := by simpa using hxv
    have htake : us1.take (n * i.size) = cs.toList.take (n * i.size) := by
      rw [p3, List.append_assoc, List.take_append_of_le_length (by rw [q1.1]; exact hn)]
    have hol : (us1.take (n * i.size)).length = n * i.size := by rw [List.length_take, q1.1]; omega
    have hrel : ∀ j u, (us1.take (n * i.size))[j]? = some u → u.oneCell' = true ∧ (f j).rel g u := fun j u hj => by
      rw [List.getElem?_take] at hj
      split at hj
      · exact q1.2 j u hj
      · cases hj
    by_cases hcap : n + m ≤ cap
    · -- in its place
      rw [hbe] at hrm
      have hroom2 : (n + m) * i.size ≤ cap * i.size := Nat.mul_le_mul_right _ hcap
      have hst := run_store_all (P := P) (vs := news) (off := n * i.size) p1 (by rw [hs.size]; omega) hone p5
      have hown := hg.own l b hgb
      have hS : S b.b ∨ w0.heap.size ≤ b.b := Classical.byContradiction fun hcc => by have := hbr.1.2 hcc; rw [hmk] at this; cases this
      have hr2 := run_append_room' (ty := o.type) ht hu hd hi1 w _ hs.len (hs.all w rfl) hcap hst
      unfold Oper.wp
      rw [hrun _ _ (by rw [hxv]; exact hr2)]
      have hle : GM.le g (g.ext mem.length b) := GM.ext_le hf0
      have hgw := hg.put hgb hS (.cells (setL cs (n * i.size) news) ty fz)
      refine hnx _ _ (g.ext mem.length b) (.inr ⟨Nat.le_refl _, cap, hcap, hc2, b, GM.ext_same _ _ _, by rw [hbe]; omega, by simp⟩) ⟨hle, ⟨fun l' b' hl => ?_, hgw.fr⟩, fun l' hl hl' => ?_, by rw [putB_size]; exact Nat.le_refl _, fun b' hb' hne => ?_, fun j k hj b' hb' => ?_, fun l' c' hw b' k hb' hk' => ?_, fun l' c' hm' => ?_, fun j b' hb' hn' => ?_, fun j j' b1 b2 h1 h2 h3 h4 hbb => ?_⟩
      · unfold GM.ext at hl
        by_cases e' : l' = mem.length
        · rw [if_pos e'] at hl; injection hl with hl; subst hl; rw [putB_size]; exact hown
        · rw [if_neg e'] at hl; exact hgw.own l' b' hl
      · unfold GM.ext at hl
        by_cases e' : l' = mem.length
        · subst e'; simp
        · rw [if_neg e'] at hl; exact absurd hl' hl
      · rw [putB_get _ _ _ _ hown, if_neg (hne l [] b (by simp) hgb)]
      · cases j with
        | succ j => simp at hj
        | zero =>
          simp only [List.getElem?_cons_zero, Option.some.injEq] at hj
          subst hj
          rw [Nat.add_zero, GM.ext_same] at hb'
          injection hb' with hb'
          subst hb'
          refine ⟨hbr.1, .inr ⟨setL cs (n * i.size) news, ty, fz, us1.take (n * i.size) ++ news, cs.toList.drop (n * i.size + news.length), by rw [putB_get _ _ _ _ hown, if_pos rfl], ⟨by rw [setL_size]; exact p2, p2'⟩, ?_, ?_, fun _ off ho => p5 off (by rw [setL_size] at ho; exact ho)⟩⟩
          · rw [setL_toList _ _ _ (by rw [hs.size]; omega), htake, List.append_assoc]
          · rw [hadd]
            exact chsRel_mono hle _ _ (cat_rel hol hs.size hrel hs.rel)
      · simp only [wrFind] at hw
        split at hw
        · rename_i he
          have he := Nat.eq_of_beq_eq_true he; subst he
          injection hw with hw; subst hw
          exact BlkRel.dead (hr l hrd b' k hb' hk')
        · cases hw
      · simp only [List.mem_cons, List.not_mem_nil, or_false, Prod.mk.injEq] at hm'
        obtain ⟨rfl, rfl⟩ := hm'
        exact ⟨_, hk, hlive⟩
      · unfold GM.ext at hb'
        by_cases e' : mem.length + j = mem.length
        · rw [if_pos e'] at hb'; injection hb' with hb'; subst hb'; exact .inr ⟨l, b, by simp [wrFind], hgb, rfl⟩
        · rw [if_neg e', hn'] at hb'; cases hb'
      · unfold GM.ext at h3 h4
        by_cases e' : mem.length + j = mem.length
        · by_cases e2 : mem.length + j' = mem.length
          · omega
          · rw [if_neg e2, h2] at h4; cases h4
        · rw [if_neg e', h1] at h3; cases h3
    · refine grown _ cap _ hxv (by omega) hol (fun w' hw => ?_) hrel
      refine run_firstCells_some (P := P) w' i.size n _ n cap _ hol fun j u hj => ?_
      rw [cell_heap hw, add_addr, Nat.zero_add, cell_blk p1, ← Array.getElem?_toList]
      rw [htake, List.getElem?_take] at hj
      split at hj
      · exact hj
      · cases hj

end
end Go.Ev
